/- Functions that blocks are lent to: these come back under their names. Names may be changed. -/
import Derived.Test.YtnaodipmfaglfaaAvTk
set_option linter.all false
namespace Go.Av
open Go.Sp
def ref : Nat × Blk → AV
  | (id, .cells _) => .lp id 0
  | (id, .buf _ _ n _) => .buf id n
  | (id, .map _ _ _ _) => .mp id
  | _ => .any
def refs : List (Nat × Blk) → List AV
  | [] => []
  | x :: r => ref x :: refs r
def refV (ρ : Rho) : Nat × Blk → Value
  | (id, .cells _) => match ρ id with
    | some (.blk b) => .pointer (some ⟨b, 0, none⟩)
    | _ => undef
  | (id, .buf _ _ _ _) => match ρ id with
    | some (.sl _ _ v) => v
    | _ => undef
  | (id, .map _ _ _ _) => match ρ id with
    | some (.blk b) => .map (some b)
    | _ => undef
  | _ => undef
def refVs (ρ : Rho) : List (Nat × Blk) → List Value
  | [] => []
  | x :: r => refV ρ x :: refVs ρ r
def okShape : Blk → Blk → Bool
  | .cells _, .cells _ => true
  | .map _ _ _ _, .map _ _ _ _ => true
  | .buf _ sz _ _, .buf _ sz' _ _ => Nat.beq sz sz'
  | .buf _ sz _ _, .bufk _ sz' _ _ _ => Nat.beq sz sz'
  | _, _ => false
def sameShape (B0 : List (Nat × Blk)) : List (Nat × Blk) → Bool
  | [] => true
  | (i, x) :: r => match mm B0 i with
    | none => sameShape B0 r
    | some y => match okShape x y with
      | true => sameShape B0 r
      | false => false
theorem refs_get {ρ : Rho} : ∀ {A : List (Nat × Blk)} {i : Nat} {x : Nat × Blk}, A[i]? = some x → (refs A)[i]? = some (ref x) ∧ (refVs ρ A)[i]? = some (refV ρ x)
  | [], i, x, h => by simp at h
  | y :: A, 0, x, h => by simp at h; subst h; exact ⟨rfl, rfl⟩
  | y :: A, i + 1, x, h => by
    simp only [List.getElem?_cons_succ] at h
    have := refs_get (ρ := ρ) h
    simpa [refs, refVs] using this
theorem refs_len {ρ : Rho} : ∀ {A : List (Nat × Blk)}, (refVs ρ A).length = (refs A).length
  | [] => rfl
  | y :: A => by simp [refs, refVs, refs_len (A := A)]
theorem refs_inv {ρ : Rho} : ∀ {A : List (Nat × Blk)} {i : Nat} {c : AV} {v : Value}, (refs A)[i]? = some c → (refVs ρ A)[i]? = some v → ∃ x, A[i]? = some x ∧ c = ref x ∧ v = refV ρ x
  | [], i, c, v, h, _ => by simp [refs] at h
  | y :: A, 0, c, v, h, k => by simp [refs] at h; simp [refVs] at k; exact ⟨y, rfl, h.symm, k.symm⟩
  | y :: A, i + 1, c, v, h, k => by
    simp only [refs, List.getElem?_cons_succ] at h
    simp only [refVs, List.getElem?_cons_succ] at k
    obtain ⟨x, q1, q2, q3⟩ := refs_inv h k
    exact ⟨x, by simpa using q1, q2, q3⟩
theorem mm_get : ∀ {A : List (Nat × Blk)} {id : Nat} {x : Blk}, mm A id = some x → ∃ i : Nat, A[i]? = some (id, x)
  | [], id, x, h => by cases h
  | (j, y) :: A, id, x, h => by
    simp only [mm, upd] at h
    split at h
    · rename_i hb
      have := Nat.eq_of_beq_eq_true hb
      subst this
      cases h
      exact ⟨0, rfl⟩
    · obtain ⟨i, hi⟩ := mm_get h
      exact ⟨i + 1, by simpa using hi⟩
theorem get_mm : ∀ {A : List (Nat × Blk)} {i id : Nat} {x : Blk}, noDup (keysB A) = true → A[i]? = some (id, x) → mm A id = some x
  | [], i, id, x, _, h => by simp at h
  | (j, y) :: A, 0, id, x, _, h => by simp at h; obtain ⟨rfl, rfl⟩ := h; simp [mm, upd]
  | (j, y) :: A, i + 1, id, x, hn, h => by
    simp only [List.getElem?_cons_succ] at h
    obtain ⟨n1, n2⟩ := noDup_spec (i := j) (r := keysB A) hn
    have := get_mm n2 h
    have hne : id ≠ j := fun e => n1 (by subst e; exact keysB_mm.2 (by rw [this]; rfl))
    simp only [mm]
    rw [upd_other _ _ hne]
    exact this
theorem sameShape_spec {B0 : List (Nat × Blk)} : ∀ {A : List (Nat × Blk)}, sameShape B0 A = true → ∀ (i id : Nat) (x y : Blk), A[i]? = some (id, x) → mm B0 id = some y → okShape x y = true
  | [], _, i, id, x, y, h, _ => by simp at h
  | (j, z) :: A, hs, i, id, x, y, h, hy => by
    simp only [sameShape] at hs
    cases i with
    | zero =>
      simp at h
      obtain ⟨rfl, rfl⟩ := h
      simp only [hy] at hs
      split at hs
      · assumption
      · cases hs
    | succ i =>
      simp only [List.getElem?_cons_succ] at h
      split at hs
      · exact sameShape_spec hs i id x y h hy
      · split at hs
        · exact sameShape_spec hs i id x y h hy
        · cases hs
theorem stays_lend {ρb : Rho} {A B0 : List (Nat × Blk)} (hdom : ∀ id, mm A id = none → ρb id = none) (hent : ∀ id x, mm A id = some x → LiOk x (ρb id)) (hs : sameShape B0 A = true) : Stays (refs A) (refVs ρb A) ρb 0 B0 := by
  intro h' ρ' h1 h2 h3 id li li' q1 q2
  rw [Nat.zero_add] at q1
  cases hx : mm A id with
  | none => rw [hdom id hx] at q1; cases q1
  | some x =>
  cases hy : mm B0 id with
  | none => rw [h3 id hy] at q2; cases q2
  | some y =>
  obtain ⟨i, hi⟩ := mm_get hx
  obtain ⟨r1, r2⟩ := refs_get (ρ := ρb) hi
  have hrel := h1 i _ _ r1 r2
  have hsh := sameShape_spec hs i id x y hi hy
  have hA := hent id x hx
  have hB := h2 id y hy
  cases x <;> cases y <;> simp only [okShape] at hsh <;> (try (cases hsh; done))
  case cells.cells =>
    obtain ⟨b, e1⟩ := hA
    obtain ⟨b', e2⟩ := hB
    rw [e1] at q1; cases q1
    rw [e2] at q2; cases q2
    simp only [ref, refV, e1] at hrel
    cases hrel with
    | lp _ _ _ b2 hb => rw [e2] at hb; cases hb; exact .inl rfl
  case map.map =>
    obtain ⟨b, e1⟩ := hA
    obtain ⟨b', e2⟩ := hB
    rw [e1] at q1; cases q1
    rw [e2] at q2; cases q2
    simp only [ref, refV, e1] at hrel
    cases hrel with
    | mp _ _ b2 hb => rw [e2] at hb; cases hb; exact .inl rfl
  case buf.buf =>
    rename_i ty sz n e ty' sz' n' e'
    have hsz := Nat.eq_of_beq_eq_true hsh
    subst hsz
    obtain ⟨v, e1, _⟩ := hA
    obtain ⟨v', e2, _⟩ := hB
    rw [e1] at q1; cases q1
    rw [e2] at q2; cases q2
    simp only [ref, refV, e1] at hrel
    generalize v = u at hrel
    cases hrel with
    | buf _ _ _ n2 sz2 _ v2 hb hle h1' he =>
      rw [e2] at hb; cases hb
      rcases Nat.lt_or_ge n n' with hlt | hge
      · exact .inr (.inl ⟨_, _, _, _, _, rfl, rfl, hlt⟩)
      · have hn : n = n' := by omega
        subst hn
        rw [he rfl]; exact .inl rfl
  case buf.bufk =>
    rename_i ty sz n e ty' sz' n' c' e'
    have hsz := Nat.eq_of_beq_eq_true hsh
    subst hsz
    obtain ⟨v, e1, _⟩ := hA
    obtain ⟨v', e2, _⟩ := hB
    rw [e1] at q1; cases q1
    rw [e2] at q2; cases q2
    simp only [ref, refV, e1] at hrel
    generalize v = u at hrel
    cases hrel with
    | buf _ _ _ n2 sz2 _ v2 hb hle h1' he =>
      rw [e2] at hb; cases hb
      rcases Nat.lt_or_ge n n' with hlt | hge
      · exact .inr (.inl ⟨_, _, _, _, _, rfl, rfl, hlt⟩)
      · have hn : n = n' := by omega
        subst hn
        rw [he rfl]; exact .inl rfl
theorem ref_rel {h : Hp} {ρ : Rho} {id : Nat} {x : Blk} (H : LiOk x (ρ id)) : Rel h ρ (ref (id, x)) (refV ρ (id, x)) := by
  cases x with
  | cells cs => obtain ⟨b, e⟩ := H; simp only [ref, refV, e]; exact .lp _ _ _ _ e
  | buf ty sz n f => obtain ⟨v, e, h1⟩ := H; simp only [ref, refV, e]; exact .buf _ _ _ _ _ _ _ e (Nat.le_refl _) h1 (fun _ => rfl)
  | map z d f n => obtain ⟨b, e⟩ := H; simp only [ref, refV, e]; exact .mp _ _ _ e
  | bufk | dead | grid => exact .any _ _
section
variable {P : Program} {N : Nat}
theorem CtrL.of_body {f : FuncId} {fn : Func} {c : Code} {xs : List AV} {v : AV} {A B : List (Nat × Blk)} (hf : P.funcs[f]? = some fn) (hn : (fn.name == "runtime.NumGoroutine") = false) (hb : fn.body = some c) (hN : fn.ntmps = N) (hx : Nat.ble xs.length N = true) (hA : noDup (keysB A) = true)
    (H : ∀ w0 h0 ρb, (∀ b o, h0 b = some o → w0.heap[b]? = some o) → (∀ id, mm A id = none → ρb id = none) → (∀ id x, mm A id = some x → LiOk x (ρb id)) → W P N none (Cq w0 h0 (refs A) (refVs ρb A) (ownSet ρb)) c (argL 0 xs) A 0 (RetOQ P fn h0 w0 ρb v B)) : CtrO P f xs A v B := by
  refine ⟨enters_of hf hn hb, fun h w ρ vs hR hp O => ?_⟩
  refine callsIn_w (n := 1) (callsIn_of_wp_marks hf hb trivial ?_)
  refine H w h ρ hp O.dom (fun id x hx => (O.blk id x hx).li) h ρ _ w ?_
  have hlen : vs.length ≤ N := by rw [hR.1]; exact Nat.le_of_ble_eq_true hx
  refine ⟨fun t => ?_, ⟨refs_len, fun i c v h1 h2 => ?_⟩, ?_, hp, O.blk, O.dom, fun id li b q1 q2 => ⟨(O.own id li b q1 q2).1, (O.own id li b q1 q2).2, .inr ⟨id, li, q1, q2⟩⟩, O.inj, rfl, rfl, rfl, Nat.le_refl _, fun _ _ _ => rfl, fun b o hb => hb, fun b o hb _ => hb, ⟨fun _ => True, fun _ _ => trivial, fun _ _ _ => .inr trivial, trivial⟩, ⟨[], rfl, List.nodup_nil, fun D hD => (by cases hD)⟩⟩
  · rcases argL_rel (h := h) (ρ := ρ) 0 hR t with e | ⟨i, u, e1, e2, e3⟩
    · rw [e]; exact .any _ _
    · have e0 : t = i := by omega
      subst e0
      have hi : t < vs.length := (List.getElem?_eq_some_iff.1 e2).1
      have : (vs.toArray ++ Array.replicate (fn.ntmps - vs.toArray.size) undef).getD t undef = u := by
        have e4 : vs[t] = u := by have := List.getElem?_eq_getElem hi; rw [this] at e2; exact Option.some.inj e2
        simp [Array.getElem?_append, hi, e4]
      rw [this]
      exact e3
  · obtain ⟨⟨id, x⟩, q1, rfl, rfl⟩ := refs_inv h1 h2
    exact ref_rel (O.blk id x (get_mm hA q1)).li
  · simp [hN]; omega
end
section
variable {P : Program} {N : Nat} {Γ : Tys} {L : List (Nat × AV)} {M : List (Nat × Blk)} {g : Nat}
theorem At.retL (hΓ : TysOk P Γ) {w0 : World} {h0 : Hp} {ρb : Rho} {fn : Func} {v : AV} {A B B0 : List (Nat × Blk)} {xs : List AV} (K : List Nat) (hr : resL Γ (fr L) (mm M) fn.results.toList = some xs) (ho : onlyIds K (resV xs) = true) (hB : filtM K M K = some B0) (hBo : onlyBs K B0 = true) (hBs : AgreeM (shB 0 B0) B) (hs : Sim ((resV xs).sh 0) v)
    (hval : ∀ b o, h0 b = some o → w0.heap[b]? = some o) (hdom : ∀ id, mm A id = none → ρb id = none) (hent : ∀ id x, mm A id = some x → LiOk x (ρb id)) (hsa : onlyL K (refs A) = true) (hd : sameShape B0 A = true) : At N (Cq w0 h0 (refs A) (refVs ρb A) (ownSet ρb)) L M g (RetOQ P fn h0 w0 ρb v B .ret) :=
  At.retO hΓ K 0 hr ho hB hBo hBs hs hval hsa (stays_lend hdom hent hd)
end
def look : List (Nat × Nat) → Nat → Nat
  | [], i => i
  | (a, b) :: r, i => match Nat.beq i a with
    | true => b
    | false => look r i
mutual
def AV.ren (π : List (Nat × Nat)) : AV → AV
  | .lp id off => .lp (look π id) off
  | .buf id n => .buf (look π id) n
  | .ep id n i off => .ep (look π id) n i off
  | .mp id => .mp (look π id)
  | .gb id n => .gb (look π id) n
  | .gp id i => .gp (look π id) i
  | .gr' id i m => .gr' (look π id) i m
  | .ge id i m j off => .ge (look π id) i m j off
  | .sb id n a b => .sb (look π id) n a b
  | .agg cs => .agg (renL π cs)
  | .tup cs => .tup (renL π cs)
  | .fn f fs cs => .fn f (renL π fs) (renL π cs)
  | .ifc t v => .ifc t (v.ren π)
  | .cnd g v => .cnd g (v.ren π)
  | .any => .any
  | .nilS => .nilS
  | .nilFn => .nilFn
  | .nilPtr => .nilPtr
  | .nilMap => .nilMap
  | .nilIfc => .nilIfc
  | .bool b => .bool b
  | .int k n => .int k n
  | .ro sz n e => .ro sz n e
  | .rp cs => .rp cs
  | .clo f a b => .clo f a b
  | .rom z d e n => .rom z d e n
  | .raw v => .raw v
  | .nz n => .nz n
  | .po b cs => .po b cs
def renL (π : List (Nat × Nat)) : List AV → List AV
  | [] => []
  | c :: cs => c.ren π :: renL π cs
end
def Blk.ren (π : List (Nat × Nat)) : Blk → Blk
  | .cells cs => .cells (renL π cs)
  | .buf ty sz n e => .buf ty sz n e
  | .map z d e n => .map z d e n
  | .dead => .dead
  | .grid a b c d e f => .grid a b c d e f
  | .bufk a b c d e => .bufk a b c d e
def renB (π : List (Nat × Nat)) : List (Nat × Blk) → List (Nat × Blk)
  | [] => []
  | (i, b) :: r => (look π i, b.ren π) :: renB π r
theorem renL_len {π : List (Nat × Nat)} : ∀ {cs : List AV}, (renL π cs).length = cs.length
  | [] => rfl
  | c :: cs => by simp [renL, renL_len (cs := cs)]
theorem renL_get {π : List (Nat × Nat)} : ∀ {cs : List AV} {i : Nat} {c : AV}, (renL π cs)[i]? = some c → ∃ c0, cs[i]? = some c0 ∧ c = c0.ren π
  | [], i, c, h => by simp [renL] at h
  | x :: cs, 0, c, h => by simp [renL] at h; exact ⟨x, by simp, h.symm⟩
  | x :: cs, i + 1, c, h => by
    simp only [renL, List.getElem?_cons_succ] at h
    obtain ⟨c0, e1, e2⟩ := renL_get h
    exact ⟨c0, by simpa using e1, e2⟩
theorem renL_at {π : List (Nat × Nat)} : ∀ {cs : List AV} {i : Nat} {c : AV}, cs[i]? = some c → (renL π cs)[i]? = some (c.ren π)
  | [], i, c, h => by simp at h
  | x :: cs, 0, c, h => by simp at h; subst h; simp [renL]
  | x :: cs, i + 1, c, h => by
    simp only [List.getElem?_cons_succ] at h
    simp only [renL, List.getElem?_cons_succ]
    exact renL_at h
theorem Rel.ren {h : Hp} {ρ ρ' : Rho} {ids : List Nat} {π : List (Nat × Nat)} (hρ : ∀ id, id ∈ ids → ρ' (look π id) = ρ id) {a : AV} {v : Value} (H : Rel h ρ a v) (hc : onlyIds ids a = true) : Rel h ρ' (a.ren π) v := by
  obtain ⟨ρ1, he, H'⟩ : ∃ ρ1, ρ = ρ1 ∧ Rel h ρ1 a v := ⟨ρ, rfl, H⟩
  clear H
  induction H' with
  | any ρ v => simp only [AV.ren]; exact .any _ _
  | nilS => simp only [AV.ren]; exact .nilS _
  | nilFn => simp only [AV.ren]; exact .nilFn _
  | nilPtr => simp only [AV.ren]; exact .nilPtr _
  | nilMap => simp only [AV.ren]; exact .nilMap _
  | nilIfc => simp only [AV.ren]; exact .nilIfc _
  | bool => simp only [AV.ren]; exact .bool _ _
  | int => simp only [AV.ren]; exact .int _ _ _
  | agg ρ1 cs vs hl hc' ih =>
    simp only [AV.ren]
    refine .agg _ _ _ (by rw [renL_len]; exact hl) fun i c v h1 h2 => ?_
    obtain ⟨c0, e1, rfl⟩ := renL_get h1
    exact ih i c0 v e1 h2 (onlyL_get (by simpa [onlyIds] using hc) e1) he
  | tup ρ1 cs vs hl hc' ih =>
    simp only [AV.ren]
    refine .tup _ _ _ (by rw [renL_len]; exact hl) fun i c v h1 h2 => ?_
    obtain ⟨c0, e1, rfl⟩ := renL_get h1
    exact ih i c0 v e1 h2 (onlyL_get (by simpa [onlyIds] using hc) e1) he
  | ro ρ1 sz n e a cap hnil hcap hsz hs h1 hc' ih => simp only [AV.ren]; exact .ro _ _ _ _ _ _ hnil hcap hsz hs h1 hc'
  | rp ρ1 cs ad hs hc' ih => simp only [AV.ren]; exact .rp _ _ _ hs hc'
  | lp ρ1 id off b hb => simp only [AV.ren]; subst he; exact .lp _ _ _ _ ((hρ id (inList_mem (by simpa [onlyIds] using hc))).trans hb)
  | buf ρ1 id n n' sz v v' hb hle h1 hq => simp only [AV.ren]; subst he; exact .buf _ _ _ _ _ _ _ ((hρ id (inList_mem (by simpa [onlyIds] using hc))).trans hb) hle h1 hq
  | ep ρ1 id n i off n' sz v v' hb hle h1 hq => simp only [AV.ren]; subst he; exact .ep _ _ _ _ _ _ _ _ _ ((hρ id (inList_mem (by simpa [onlyIds] using hc))).trans hb) hle h1 hq
  | fn ρ1 f fs cs vs ws hl hm hc' hd ih1 ih2 =>
    simp only [onlyIds] at hc
    split at hc
    · rename_i h0
      simp only [AV.ren]
      refine .fn _ _ _ _ _ _ (by rw [renL_len]; exact hl) (by rw [renL_len]; exact hm) (fun i c v h1 h2 => ?_) (fun i c v h1 h2 => ?_)
      · obtain ⟨c0, e1, rfl⟩ := renL_get h1
        exact ih1 i c0 v e1 h2 (onlyL_get h0 e1) he
      · obtain ⟨c0, e1, rfl⟩ := renL_get h1
        exact ih2 i c0 v e1 h2 (onlyL_get hc e1) he
    · cases hc
  | clo ρ1 f fs cs v hv ih => simp only [AV.ren]; exact .clo _ _ _ _ _ hv
  | mp ρ1 id b hb => simp only [AV.ren]; subst he; exact .mp _ _ _ ((hρ id (inList_mem (by simpa [onlyIds] using hc))).trans hb)
  | rom ρ1 z dom e n r es clock ks hR hks hlen hel hk hborn hbd hdom hz hc' ihz ih => simp only [AV.ren]; exact .rom _ _ _ _ _ _ _ _ _ hR hks hlen hel hk hborn hbd hdom hz hc'
  | ifc ρ1 t a v hv ih => simp only [AV.ren]; exact .ifc _ _ _ _ (ih (by simpa [onlyIds] using hc) he)
  | cnd ρ1 g a v ht hf ih => simp only [AV.ren]; exact .cnd _ _ _ _ (fun hg => ih hg (by simpa [onlyIds] using hc) he) hf
  | raw => simp only [AV.ren]; exact .raw _ _
  | nz ρ1 n b hb => simp only [AV.ren]; exact .nz _ _ _ hb
  | po ρ1 b cs v ht hf ih => simp only [AV.ren] at ih ⊢; exact .po _ _ _ _ (fun hg => ih hg rfl he) hf
  | gb ρ1 id n sz rows v hb hn h0 => simp only [AV.ren]; subst he; exact .gb _ _ _ _ _ _ ((hρ id (inList_mem (by simpa [onlyIds] using hc))).trans hb) hn h0
  | gp ρ1 id i b n cap sz rows hb => simp only [AV.ren]; subst he; exact .gp _ _ _ _ _ _ _ _ ((hρ id (inList_mem (by simpa [onlyIds] using hc))).trans hb)
  | gr' ρ1 id i m m' sz gv v v' rows hb hi hle h0 hq => simp only [AV.ren]; subst he; exact .gr' _ _ _ _ _ _ _ _ _ _ ((hρ id (inList_mem (by simpa [onlyIds] using hc))).trans hb) hi hle h0 hq
  | sb ρ1 id n a b n' sz v v' hb hle h0 hq => simp only [AV.ren]; subst he; exact .sb _ _ _ _ _ _ _ _ _ ((hρ id (inList_mem (by simpa [onlyIds] using hc))).trans hb) hle h0 hq
  | ge ρ1 id i m j off m' sz gv v v' rows hb hi hle h0 hq => simp only [AV.ren]; subst he; exact .ge _ _ _ _ _ _ _ _ _ _ _ _ ((hρ id (inList_mem (by simpa [onlyIds] using hc))).trans hb) hi hle h0 hq
theorem BlkOk.ren {h : Hp} {ρ ρ' : Rho} {ids : List Nat} {π : List (Nat × Nat)} (hρ : ∀ id, id ∈ ids → ρ' (look π id) = ρ id) {id : Nat} {x : Blk} {w : World} (H : BlkOk h ρ id x w) (hid : id ∈ ids) (ho : onlyB ids x = true) : BlkOk h ρ' (look π id) (x.ren π) w := by
  cases x with
  | cells cs =>
    obtain ⟨b, vs, ty, q1, q2, q3, q4⟩ := H
    refine ⟨b, vs, ty, (hρ id hid).trans q1, q2, by rw [renL_len]; exact q3, fun i c v hc hv => ?_⟩
    obtain ⟨c0, e1, rfl⟩ := renL_get hc
    exact (q4 i c0 v e1 hv).ren hρ (onlyL_get (by simpa [onlyB] using ho) e1)
  | buf ty sz n e => obtain ⟨v, xs, q1, q2⟩ := H; exact ⟨v, xs, (hρ id hid).trans q1, q2⟩
  | map z dom e n => obtain ⟨b, es, clock, ks, q1, q2⟩ := H; exact ⟨b, es, clock, ks, (hρ id hid).trans q1, q2⟩
  | bufk ty sz n c e => obtain ⟨v, xs, q1, q2⟩ := H; exact ⟨v, xs, (hρ id hid).trans q1, q2⟩
  | dead => obtain ⟨n, sz, q1⟩ := H; exact ⟨n, sz, (hρ id hid).trans q1⟩
  | grid tS ty sz n m e => obtain ⟨v, rows, q1, q2⟩ := H; exact ⟨v, rows, (hρ id hid).trans q1, q2⟩
mutual
/-- Back: what holds by the new names holds by the old ones. -/
theorem Rel.unren {h : Hp} {ρ ρ' : Rho} {ids : List Nat} {π : List (Nat × Nat)} (hρ : ∀ id, id ∈ ids → ρ id = ρ' (look π id)) : ∀ (a : AV) {v : Value}, Rel h ρ' (a.ren π) v → onlyIds ids a = true → Rel h ρ a v
  | .any, v, H, hc => .any _ _
  | .nilS, v, H, hc => H.of_cl rfl
  | .nilFn, v, H, hc => H.of_cl rfl
  | .nilPtr, v, H, hc => H.of_cl rfl
  | .nilMap, v, H, hc => H.of_cl rfl
  | .nilIfc, v, H, hc => H.of_cl rfl
  | .bool b, v, H, hc => H.of_cl rfl
  | .int k n, v, H, hc => H.of_cl rfl
  | .ro sz n e, v, H, hc => H.of_cl rfl
  | .rp cs, v, H, hc => H.of_cl rfl
  | .clo f a b, v, H, hc => H.of_cl rfl
  | .rom z d e n, v, H, hc => H.of_cl rfl
  | .raw u, v, H, hc => H.of_cl rfl
  | .nz n, v, H, hc => H.of_cl rfl
  | .po b cs, v, H, hc => H.of_cl rfl
  | .lp id off, v, H, hc => by
    simp only [AV.ren] at H
    cases H with
    | lp _ _ _ b hb => exact .lp _ _ _ _ ((hρ id (inList_mem (by simpa [onlyIds] using hc))).trans hb)
  | .buf id n, v, H, hc => by
    simp only [AV.ren] at H
    cases H with
    | buf _ _ _ n' sz _ v' hb hle h1 hq => exact .buf _ _ _ _ _ _ _ ((hρ id (inList_mem (by simpa [onlyIds] using hc))).trans hb) hle h1 hq
  | .ep id n i off, v, H, hc => by
    simp only [AV.ren] at H
    cases H with
    | ep _ _ _ _ _ n' sz _ v' hb hle h1 hq => exact .ep _ _ _ _ _ _ _ _ _ ((hρ id (inList_mem (by simpa [onlyIds] using hc))).trans hb) hle h1 hq
  | .mp id, v, H, hc => by
    simp only [AV.ren] at H
    cases H with
    | mp _ _ b hb => exact .mp _ _ _ ((hρ id (inList_mem (by simpa [onlyIds] using hc))).trans hb)
  | .gb id n, v, H, hc => by
    simp only [AV.ren] at H
    cases H with
    | gb _ _ _ sz rows _ hb hn h0 => exact .gb _ _ _ _ _ _ ((hρ id (inList_mem (by simpa [onlyIds] using hc))).trans hb) hn h0
  | .gp id i, v, H, hc => by
    simp only [AV.ren] at H
    cases H with
    | gp _ _ _ b n cap sz rows hb => exact .gp _ _ _ _ _ _ _ _ ((hρ id (inList_mem (by simpa [onlyIds] using hc))).trans hb)
  | .gr' id i m, v, H, hc => by
    simp only [AV.ren] at H
    cases H with
    | gr' _ _ _ _ m' sz gv _ v' rows hb hi hle h0 hq => exact .gr' _ _ _ _ _ _ _ _ _ _ ((hρ id (inList_mem (by simpa [onlyIds] using hc))).trans hb) hi hle h0 hq
  | .ge id i m j off, v, H, hc => by
    simp only [AV.ren] at H
    cases H with
    | ge _ _ _ _ _ _ m' sz gv _ v' rows hb hi hle h0 hq => exact .ge _ _ _ _ _ _ _ _ _ _ _ _ ((hρ id (inList_mem (by simpa [onlyIds] using hc))).trans hb) hi hle h0 hq
  | .sb id n a b, v, H, hc => by
    simp only [AV.ren] at H
    cases H with
    | sb _ _ _ _ _ n' sz _ v' hb hle h0 hq => exact .sb _ _ _ _ _ _ _ _ _ ((hρ id (inList_mem (by simpa [onlyIds] using hc))).trans hb) hle h0 hq
  | .agg cs, v, H, hc => by
    simp only [AV.ren] at H
    cases H with
    | agg _ _ vs hl hr => exact .agg _ _ _ (by rw [hl, renL_len]) (fun i c v h1 h2 => Rel.unrenL hρ cs (by simpa [onlyIds] using hc) i c v h1 (hr i _ v (renL_at h1) h2))
  | .tup cs, v, H, hc => by
    simp only [AV.ren] at H
    cases H with
    | tup _ _ vs hl hr => exact .tup _ _ _ (by rw [hl, renL_len]) (fun i c v h1 h2 => Rel.unrenL hρ cs (by simpa [onlyIds] using hc) i c v h1 (hr i _ v (renL_at h1) h2))
  | .fn f fs cs, v, H, hc => by
    simp only [AV.ren] at H
    simp only [onlyIds] at hc
    split at hc
    · rename_i h0
      cases H with
      | fn _ _ _ _ vs ws hl hm h1 h2 => exact .fn _ _ _ _ _ _ (by rw [hl, renL_len]) (by rw [hm, renL_len]) (fun i c v q1 q2 => Rel.unrenL hρ fs h0 i c v q1 (h1 i _ v (renL_at q1) q2)) (fun i c v q1 q2 => Rel.unrenL hρ cs hc i c v q1 (h2 i _ v (renL_at q1) q2))
    · cases hc
  | .ifc t a, v, H, hc => by
    simp only [AV.ren] at H
    cases H with
    | ifc _ _ _ u hv => exact .ifc _ _ _ _ (Rel.unren hρ a hv (by simpa [onlyIds] using hc))
  | .cnd g a, v, H, hc => by
    simp only [AV.ren] at H
    cases H with
    | cnd _ _ _ _ ht hf => exact .cnd _ _ _ _ (fun hg => Rel.unren hρ a (ht hg) (by simpa [onlyIds] using hc)) hf
theorem Rel.unrenL {h : Hp} {ρ ρ' : Rho} {ids : List Nat} {π : List (Nat × Nat)} (hρ : ∀ id, id ∈ ids → ρ id = ρ' (look π id)) : ∀ (cs : List AV), onlyL ids cs = true → ∀ (i : Nat) (c : AV) (v : Value), cs[i]? = some c → Rel h ρ' (c.ren π) v → Rel h ρ c v
  | [], _, i, c, v, h1, _ => by simp at h1
  | x :: cs, hc, 0, c, v, h1, H => by
    simp only [List.getElem?_cons_zero, Option.some.injEq] at h1
    simp only [onlyL] at hc
    split at hc
    · rename_i h0
      rw [← h1] at H ⊢
      exact Rel.unren hρ x H h0
    · cases hc
  | x :: cs, hc, i + 1, c, v, h1, H => by
    simp only [List.getElem?_cons_succ] at h1
    simp only [onlyL] at hc
    split at hc
    · exact Rel.unrenL hρ cs hc i c v h1 H
    · cases hc
end
theorem mm_renB {π : List (Nat × Nat)} {ids : List Nat} (hinj : ∀ i j, i ∈ ids → j ∈ ids → look π i = look π j → i = j) : ∀ {B : List (Nat × Blk)}, (∀ i, i ∈ keysB B → i ∈ ids) → ∀ i, i ∈ ids → mm (renB π B) (look π i) = (mm B i).map (·.ren π)
  | [], _, i, _ => rfl
  | (j, b) :: r, h, i, hi => by
    simp only [renB, mm]
    by_cases e : i = j
    · subst e; simp [upd]
    · rw [upd_other _ _ e, upd_other _ _ (fun q => e (hinj i j hi (h j (List.mem_cons_self ..)) q))]
      exact mm_renB hinj (fun i hi => h i (List.mem_cons_of_mem _ hi)) i hi
theorem keys_renB {π : List (Nat × Nat)} : ∀ {B : List (Nat × Blk)}, keysB (renB π B) = (keysB B).map (look π)
  | [] => rfl
  | (j, b) :: r => by simp [renB, keysB, keys_renB (B := r)]
def injOn (π : List (Nat × Nat)) : List Nat → Bool
  | [] => true
  | i :: r => match inList (r.map (look π)) (look π i) with
    | true => match inList r i with
      | true => injOn π r
      | false => false
    | false => injOn π r
theorem injOn_spec {π : List (Nat × Nat)} : ∀ {l : List Nat}, injOn π l = true → ∀ i j, i ∈ l → j ∈ l → look π i = look π j → i = j
  | [], _, i, j, h, _, _ => by cases h
  | x :: l, hi, i, j, h1, h2, e => by
    simp only [injOn] at hi
    have key : injOn π l = true ∧ ∀ k, k ∈ l → look π x = look π k → x ∈ l := by
      split at hi
      · split at hi
        · rename_i h3; exact ⟨hi, fun _ _ _ => inList_mem h3⟩
        · cases hi
      · rename_i h3
        refine ⟨hi, fun k hk e => ?_⟩
        rw [inList_spec (by rw [e]; exact List.mem_map_of_mem hk)] at h3; cases h3
    obtain ⟨k1, k2⟩ := key
    rcases List.mem_cons.1 h1 with rfl | h3 <;> rcases List.mem_cons.1 h2 with rfl | h4
    · rfl
    · exact injOn_spec k1 i j (k2 j h4 e) h4 e
    · exact injOn_spec k1 i j h3 (k2 i h3 e.symm) e
    · exact injOn_spec k1 i j h3 h4 e
theorem CtrO.ren {P : Program} {f : FuncId} {args : List AV} {A B : List (Nat × Blk)} {v : AV} (H : CtrO P f args A v B) (π : List (Nat × Nat)) (ha : onlyL (keysB A) args = true := by rfl) (hA : onlyBs (keysB A) A = true := by rfl) (hv : onlyIds (keysB B) v = true := by rfl) (hB : onlyBs (keysB B) B = true := by rfl) (hi : injOn π (keysB A ++ keysB B) = true := by rfl) :
    CtrO P f (renL π args) (renB π A) (v.ren π) (renB π B) := by
  have hinj := injOn_spec hi
  have iA : ∀ i j, i ∈ keysB A → j ∈ keysB A → look π i = look π j → i = j := fun i j h1 h2 => hinj i j (List.mem_append_left _ h1) (List.mem_append_left _ h2)
  have iB : ∀ i j, i ∈ keysB B → j ∈ keysB B → look π i = look π j → i = j := fun i j h1 h2 => hinj i j (List.mem_append_right _ h1) (List.mem_append_right _ h2)
  refine ⟨H.1, fun h w ρ vs hR hp O => ?_⟩
  classical
  let ρ2 : Rho := fun j => if j ∈ keysB A then ρ (look π j) else none
  have h2 : ∀ j, j ∈ keysB A → ρ2 j = ρ (look π j) := fun j hj => if_pos hj
  have hinv : ∀ j li, ρ2 j = some li → j ∈ keysB A ∧ ρ (look π j) = some li := fun j li hj => by
    have : (if j ∈ keysB A then ρ (look π j) else none) = some li := hj
    split at this
    · exact ⟨by assumption, this⟩
    · cases this
  have hback : ∀ i li, ρ i = some li → ∃ j, j ∈ keysB A ∧ i = look π j := fun i li hi => by
    have : i ∈ keysB (renB π A) := Classical.byContradiction fun hn => by rw [O.dom i (mm_keys hn)] at hi; cases hi
    rw [keys_renB] at this
    obtain ⟨j, q1, q2⟩ := List.mem_map.1 this
    exact ⟨j, q1, q2.symm⟩
  have hset : ∀ b, ownSet ρ2 b ↔ ownSet ρ b := fun b => by
    constructor
    · rintro ⟨j, li, q1, q2⟩
      exact ⟨_, li, (hinv j li q1).2, q2⟩
    · rintro ⟨i, li, q1, q2⟩
      obtain ⟨j, q3, rfl⟩ := hback i li q1
      exact ⟨j, li, (h2 j q3).trans q1, q2⟩
  have hmA : ∀ j, j ∈ keysB A → mm (renB π A) (look π j) = (mm A j).map (·.ren π) := mm_renB iA (fun _ h => h)
  have hR2 : RelL h ρ2 args vs := ⟨by rw [hR.1, renL_len], fun i c v hc hv => Rel.unrenL h2 args ha i c v hc (hR.2 i _ v (renL_at hc) hv)⟩
  have hO2 : Ownd h ρ2 A w := by
    refine ⟨fun j y hj => ?_, fun j hj => ?_, fun j li b q3 q4 => O.own _ li b (hinv j li q3).2 q4, fun j j' li li' b q3 q3' q4 q4' => ?_⟩
    · have hjA : j ∈ keysB A := keysB_mm.2 (by rw [hj]; rfl)
      have := O.blk (look π j) (y.ren π) (by rw [hmA j hjA, hj]; rfl)
      have ho := onlyBs_mm hA j y hj
      cases y with
      | cells cs =>
        obtain ⟨b, us, ty, q1, q2, q3, q4⟩ := this
        exact ⟨b, us, ty, (h2 j hjA).trans q1, q2, by rw [q3, renL_len], fun i c v hc hv => Rel.unrenL h2 cs (by simpa [onlyB] using ho) i c v hc (q4 i _ v (renL_at hc) hv)⟩
      | buf ty sz n e => obtain ⟨v, xs, q1, q2⟩ := this; exact ⟨v, xs, (h2 j hjA).trans q1, q2⟩
      | map z dom e n => obtain ⟨b, es, clock, ks, q1, q2⟩ := this; exact ⟨b, es, clock, ks, (h2 j hjA).trans q1, q2⟩
      | bufk ty sz n c e => obtain ⟨v, xs, q1, q2⟩ := this; exact ⟨v, xs, (h2 j hjA).trans q1, q2⟩
      | dead => obtain ⟨n, sz, q1⟩ := this; exact ⟨n, sz, (h2 j hjA).trans q1⟩
      | grid tS ty sz n m e => obtain ⟨v, rows, q1, q2⟩ := this; exact ⟨v, rows, (h2 j hjA).trans q1, q2⟩
    · cases hq : ρ2 j with
      | none => rfl
      | some li =>
        have := keysB_mm.1 (hinv j li hq).1
        rw [hj] at this; cases this
    · exact iA j j' (hinv j li q3).1 (hinv j' li' q3').1 (O.inj _ _ li li' b (hinv j li q3).2 (hinv j' li' q3').2 q4 q4')
  refine (H.2 h w ρ2 _ hR2 hp hO2).mono (fun en w' he => ?_)
  cases en with
  | panicked ch => exact he.elim
  | outgrown => exact he.elim
  | returned x =>
  obtain ⟨h', ρ3, p1, p2, p3, p4, p5, p6, p7, p8, p9, p10, p11⟩ := he
  let ρ' : Rho := fun i => if hx : ∃ j, j ∈ keysB B ∧ look π j = i then ρ3 (Classical.choose hx) else none
  have hin : ∀ j, j ∈ keysB B → ρ' (look π j) = ρ3 j := fun j hj => by
    have hx : ∃ k, k ∈ keysB B ∧ look π k = look π j := ⟨j, hj, rfl⟩
    have e1 : ρ' (look π j) = ρ3 (Classical.choose hx) := dif_pos hx
    obtain ⟨q1, q2⟩ := Classical.choose_spec hx
    rw [e1, iB _ _ q1 hj q2]
  have hout : ∀ i li, ρ' i = some li → ∃ j, j ∈ keysB B ∧ i = look π j ∧ ρ3 j = some li := fun i li hi => by
    by_cases hx : ∃ j, j ∈ keysB B ∧ look π j = i
    · obtain ⟨j, q1, rfl⟩ := hx
      exact ⟨j, q1, rfl, (hin j q1).symm.trans hi⟩
    · have : ρ' i = none := dif_neg hx
      rw [this] at hi; cases hi
  have hmB : ∀ j, j ∈ keysB B → mm (renB π B) (look π j) = (mm B j).map (·.ren π) := mm_renB iB (fun _ h => h)
  refine ⟨h', ρ', p1, p2, p3, p4, fun kk hk hn => p5 kk hk (fun ho => hn ((hset kk).1 ho)), p6, p7, p8.ren (ids := keysB B) hin hv, ⟨fun i y hy => ?_, fun i hy => ?_, fun i li b q1 q2 => ?_, fun i i' li li' b q1 q1' q2 q2' => ?_⟩, fun i li b q1 q2 => ?_, fun i li li' q1 q2 => ?_⟩
  · have hi : i ∈ keysB (renB π B) := keysB_mm.2 (by rw [hy]; rfl)
    rw [keys_renB] at hi
    obtain ⟨j, q1, rfl⟩ := List.mem_map.1 hi
    rw [hmB j q1] at hy
    obtain ⟨y0, q2, rfl⟩ := Option.map_eq_some_iff.1 hy
    exact (p9.blk j y0 q2).ren (ids := keysB B) hin q1 (onlyBs_mm hB j y0 q2)
  · cases hq : ρ' i with
    | none => rfl
    | some li =>
      obtain ⟨j, q1, rfl, q2⟩ := hout i li hq
      rw [hmB j q1] at hy
      have := keysB_mm.1 q1
      cases hz : mm B j with
      | none => rw [hz] at this; cases this
      | some z => rw [hz] at hy; cases hy
  · obtain ⟨j, q3, rfl, q4⟩ := hout i li q1
    exact p9.own j li b q4 q2
  · obtain ⟨j, q3, rfl, q4⟩ := hout i li q1
    obtain ⟨j', q3', rfl, q4'⟩ := hout i' li' q1'
    rw [p9.inj j j' li li' b q4 q4' q2 q2']
  · obtain ⟨j, q3, rfl, q4⟩ := hout i li q1
    exact (p10 j li b q4 q2).imp (fun h => (hset b).1 h) (fun h => h)
  · obtain ⟨j, q3, rfl, q4⟩ := hout i li' q2
    obtain ⟨j2, q5, q6⟩ := hback _ li q1
    have : j = j2 := hinj j j2 (List.mem_append_right _ q3) (List.mem_append_left _ q5) q6
    subst this
    exact p11 j li li' ((h2 j q5).trans q1) q4
theorem CtrO.sim {P : Program} {f : FuncId} {args args' : List AV} {A A' B : List (Nat × Blk)} {v : AV} (H : CtrO P f args' A' v B) (hs : SimL args args') (hM : AgreeM A A') : CtrO P f args A v B := by
  refine ⟨H.1, fun h w ρ vs hR hp O => H.2 h w ρ vs ⟨by rw [hR.1, hs.spec.1], fun i c u hc hu => ?_⟩ hp ⟨fun id y hy => ?_, fun id hy => O.dom id (((hM.spec id).1).1 hy), O.own, O.inj⟩⟩
  · obtain ⟨l1, l2⟩ := hs.spec
    have hi : i < args.length := by rw [l1]; exact (List.getElem?_eq_some_iff.1 hc).1
    exact l2 i _ c (List.getElem?_eq_getElem hi) hc h ρ u (hR.2 i _ u (List.getElem?_eq_getElem hi) hu)
  · obtain ⟨x, q1, q2⟩ := (hM.spec id).2 y hy
    exact q2 h ρ id w (O.blk id x q1)
theorem Sim.po_rp {cs cs' : List AV} {b : Bool} (hb : b = true) (hs : SimL cs cs') : Sim (.rp cs) (.po b cs') := by
  intro h ρ v H
  subst hb
  refine .po _ _ _ _ (fun _ => ?_) (fun e => by cases e)
  cases H with
  | rp _ _ ad h1 h2 =>
    obtain ⟨l1, l2⟩ := hs.spec
    refine .rp _ _ _ (fun j hj => h1 j (by rw [l1]; exact hj)) (fun j c v hj hv => ?_)
    have hi : j < cs.length := by rw [l1]; exact (List.getElem?_eq_some_iff.1 hj).1
    exact l2 j _ c (List.getElem?_eq_getElem hi) hj h ρ0 v (h2 j _ v (List.getElem?_eq_getElem hi) hv)
theorem Sim.po_nil {cs : List AV} {b : Bool} (hb : b = false) : Sim .nilPtr (.po b cs) := by
  intro h ρ v H
  subst hb
  cases H
  exact .po _ _ _ _ (fun e => by cases e) (fun _ => rfl)
theorem Sim.po {cs cs' : List AV} {b : Bool} (hs : SimL cs cs') : Sim (.po b cs) (.po b cs') := by
  intro h ρ v H
  cases H with
  | po _ _ _ _ ht hf =>
  cases b with
  | false => exact .po _ _ _ _ (fun e => by cases e) hf
  | true => exact Sim.po_rp rfl hs h ρ v (ht rfl)
theorem Sim.rp_po {cs : List AV} {b : Bool} (hb : b = true) : Sim (.po b cs) (.rp cs) := by
  intro h ρ v H
  cases H with
  | po _ _ _ _ ht hf => exact ht hb
theorem Sim.rp {cs cs' : List AV} (hs : SimL cs cs') : Sim (.rp cs) (.rp cs') := by
  intro h ρ v H
  cases H with
  | rp _ _ ad h1 h2 =>
    obtain ⟨l1, l2⟩ := hs.spec
    refine .rp _ _ _ (fun j hj => h1 j (by rw [l1]; exact hj)) (fun j c v hj hv => ?_)
    have hi : j < cs.length := by rw [l1]; exact (List.getElem?_eq_some_iff.1 hj).1
    exact l2 j _ c (List.getElem?_eq_getElem hi) hj h ρ0 v (h2 j _ v (List.getElem?_eq_getElem hi) hv)
theorem BSim.cells {xs ys : List AV} (hs : SimL xs ys) : BSim (.cells xs) (.cells ys) := by
  intro h ρ id w H
  obtain ⟨b, vs, ty, q1, q2, q3, q4⟩ := H
  obtain ⟨l1, l2⟩ := hs.spec
  refine ⟨b, vs, ty, q1, q2, by rw [q3, l1], fun i c v hc hv => ?_⟩
  have hi : i < xs.length := by rw [l1]; exact (List.getElem?_eq_some_iff.1 hc).1
  exact l2 i _ c (List.getElem?_eq_getElem hi) hc h ρ v (q4 i _ v (List.getElem?_eq_getElem hi) hv)
theorem lend_off {S : Type} {W : Bool} {x : Option S} {d y : S} (h : (bif W then x else some d) = some y) (hW : W = false) : y = d := by
  subst hW; exact (Option.some.inj h).symm
end Go.Av
