/- Texts of the framework, or of the plain law, one behind another. -/
import Derived.Test.YtnaodipmfaglfaaFr3
import Derived.Laws.CopyRow
import Derived.Lib.AppendZerosOnto
import Derived.Lib.Overlaps
import Derived.Test.YtnaodipmfaglfaaFr1
import Derived.Shelf.Sort.Plain
import Derived.Shelf.Slices.In.SortNone
import Derived.Sort.OwnSortedInts
import Derived.ProofKit
import Derived.OpenShut
import Derived.ReadAgain
import Derived.ChangeStays
import Derived.SizedLaws
import Derived.Carry
import Derived.Below
import Derived.ChangeSame
/- Functions that blocks are lent to: these come back under their names. Names may be changed. -/
section
set_option linter.all false
namespace Go.Av
open Go.Sp
def ref : Nat × Blk → AV
 | (id, .cells _) => .lp id 0
 | (id, .buf _ _ n _) => .buf id n
 | (id, .map _ _ _ _) => .mp id
 | _ => .any
def refs : List (Nat × Blk) → List AV
 | [] => []
 | x :: r => ref x :: refs r
def refV (ρ : Rho) : Nat × Blk → Value
 | (id, .cells _) => match ρ id with
   | some (.blk b) => .pointer (some ⟨b, 0, none⟩)
   | _ => undef
 | (id, .buf _ _ _ _) => match ρ id with
   | some (.sl _ _ v) => v
   | _ => undef
 | (id, .map _ _ _ _) => match ρ id with
   | some (.blk b) => .map (some b)
   | _ => undef
 | _ => undef
def refVs (ρ : Rho) : List (Nat × Blk) → List Value
 | [] => []
 | x :: r => refV ρ x :: refVs ρ r
def okShape : Blk → Blk → Bool
 | .cells _, .cells _ => true
 | .map _ _ _ _, .map _ _ _ _ => true
 | .buf _ sz _ _, .buf _ sz' _ _ => Nat.beq sz sz'
 | .buf _ sz _ _, .bufk _ sz' _ _ _ => Nat.beq sz sz'
 | _, _ => false
def sameShape (B0 : List (Nat × Blk)) : List (Nat × Blk) → Bool
 | [] => true
 | (i, x) :: r => match mm B0 i with
   | none => sameShape B0 r
   | some y => match okShape x y with
     | true => sameShape B0 r
     | false => false
theorem refs_get {ρ : Rho} : ∀ {A : List (Nat × Blk)} {i : Nat} {x : Nat × Blk}, A[i]? = some x → (refs A)[i]? = some (ref x) ∧ (refVs ρ A)[i]? = some (refV ρ x)
 | [], i, x, h => by simp at h
 | y :: A, 0, x, h => by simp at h; subst h; exact ⟨rfl, rfl⟩
 | y :: A, i + 1, x, h => by
   simp only [List.getElem?_cons_succ] at h
   have := refs_get (ρ := ρ) h
   simpa [refs, refVs] using this
theorem refs_len {ρ : Rho} : ∀ {A : List (Nat × Blk)}, (refVs ρ A).length = (refs A).length
 | [] => rfl
 | y :: A => by simp [refs, refVs, refs_len (A := A)]
theorem refs_inv {ρ : Rho} : ∀ {A : List (Nat × Blk)} {i : Nat} {c : AV} {v : Value}, (refs A)[i]? = some c → (refVs ρ A)[i]? = some v → ∃ x, A[i]? = some x ∧ c = ref x ∧ v = refV ρ x
 | [], i, c, v, h, _ => by simp [refs] at h
 | y :: A, 0, c, v, h, k => by simp [refs] at h; simp [refVs] at k; exact ⟨y, rfl, h.symm, k.symm⟩
 | y :: A, i + 1, c, v, h, k => by
   simp only [refs, List.getElem?_cons_succ] at h
   simp only [refVs, List.getElem?_cons_succ] at k
   obtain ⟨x, q1, q2, q3⟩ := refs_inv h k
   exact ⟨x, by simpa using q1, q2, q3⟩
theorem mm_get : ∀ {A : List (Nat × Blk)} {id : Nat} {x : Blk}, mm A id = some x → ∃ i : Nat, A[i]? = some (id, x)
 | [], id, x, h => by cases h
 | (j, y) :: A, id, x, h => by
   simp only [mm, upd] at h
   split at h
   · rename_i hb
     have := Nat.eq_of_beq_eq_true hb
     subst this
     cases h
     exact ⟨0, rfl⟩
   · obtain ⟨i, hi⟩ := mm_get h
     exact ⟨i + 1, by simpa using hi⟩
theorem get_mm : ∀ {A : List (Nat × Blk)} {i id : Nat} {x : Blk}, noDup (keysB A) = true → A[i]? = some (id, x) → mm A id = some x
 | [], i, id, x, _, h => by simp at h
 | (j, y) :: A, 0, id, x, _, h => by simp at h; obtain ⟨rfl, rfl⟩ := h; simp [mm, upd]
 | (j, y) :: A, i + 1, id, x, hn, h => by
   simp only [List.getElem?_cons_succ] at h
   obtain ⟨n1, n2⟩ := noDup_spec (i := j) (r := keysB A) hn
   have := get_mm n2 h
   have hne : id ≠ j := fun e => n1 (by subst e; exact keysB_mm.2 (by rw [this]; rfl))
   simp only [mm]
   rw [upd_other _ _ hne]
   exact this
theorem sameShape_spec {B0 : List (Nat × Blk)} : ∀ {A : List (Nat × Blk)}, sameShape B0 A = true → ∀ (i id : Nat) (x y : Blk), A[i]? = some (id, x) → mm B0 id = some y → okShape x y = true
 | [], _, i, id, x, y, h, _ => by simp at h
 | (j, z) :: A, hs, i, id, x, y, h, hy => by
   simp only [sameShape] at hs
   cases i with
   | zero =>
     simp at h
     obtain ⟨rfl, rfl⟩ := h
     simp only [hy] at hs
     split at hs
     · assumption
     · cases hs
   | succ i =>
     simp only [List.getElem?_cons_succ] at h
     split at hs
     · exact sameShape_spec hs i id x y h hy
     · split at hs
       · exact sameShape_spec hs i id x y h hy
       · cases hs
theorem stays_lend {ρb : Rho} {A B0 : List (Nat × Blk)} (hdom : ∀ id, mm A id = none → ρb id = none) (hent : ∀ id x, mm A id = some x → LiOk x (ρb id)) (hs : sameShape B0 A = true) : Stays (refs A) (refVs ρb A) ρb 0 B0 := by
 intro h' ρ' h1 h2 h3 id li li' q1 q2
 rw [Nat.zero_add] at q1
 cases hx : mm A id with
 | none => rw [hdom id hx] at q1; cases q1
 | some x =>
 cases hy : mm B0 id with
 | none => rw [h3 id hy] at q2; cases q2
 | some y =>
 obtain ⟨i, hi⟩ := mm_get hx
 obtain ⟨r1, r2⟩ := refs_get (ρ := ρb) hi
 have hrel := h1 i _ _ r1 r2
 have hsh := sameShape_spec hs i id x y hi hy
 have hA := hent id x hx
 have hB := h2 id y hy
 cases x <;> cases y <;> simp only [okShape] at hsh <;> (try (cases hsh; done))
 case cells.cells =>
   obtain ⟨b, e1⟩ := hA
   obtain ⟨b', e2⟩ := hB
   rw [e1] at q1; cases q1
   rw [e2] at q2; cases q2
   simp only [ref, refV, e1] at hrel
   cases hrel with
   | lp _ _ _ b2 hb => rw [e2] at hb; cases hb; exact .inl rfl
 case map.map =>
   obtain ⟨b, e1⟩ := hA
   obtain ⟨b', e2⟩ := hB
   rw [e1] at q1; cases q1
   rw [e2] at q2; cases q2
   simp only [ref, refV, e1] at hrel
   cases hrel with
   | mp _ _ b2 hb => rw [e2] at hb; cases hb; exact .inl rfl
 case buf.buf =>
   rename_i ty sz n e ty' sz' n' e'
   have hsz := Nat.eq_of_beq_eq_true hsh
   subst hsz
   obtain ⟨v, e1, _⟩ := hA
   obtain ⟨v', e2, _⟩ := hB
   rw [e1] at q1; cases q1
   rw [e2] at q2; cases q2
   simp only [ref, refV, e1] at hrel
   generalize v = u at hrel
   cases hrel with
   | buf _ _ _ n2 sz2 _ v2 hb hle h1' he =>
     rw [e2] at hb; cases hb
     rcases Nat.lt_or_ge n n' with hlt | hge
     · exact .inr (.inl ⟨_, _, _, _, _, rfl, rfl, hlt⟩)
     · have hn : n = n' := by omega
       subst hn
       rw [he rfl]; exact .inl rfl
 case buf.bufk =>
   rename_i ty sz n e ty' sz' n' c' e'
   have hsz := Nat.eq_of_beq_eq_true hsh
   subst hsz
   obtain ⟨v, e1, _⟩ := hA
   obtain ⟨v', e2, _⟩ := hB
   rw [e1] at q1; cases q1
   rw [e2] at q2; cases q2
   simp only [ref, refV, e1] at hrel
   generalize v = u at hrel
   cases hrel with
   | buf _ _ _ n2 sz2 _ v2 hb hle h1' he =>
     rw [e2] at hb; cases hb
     rcases Nat.lt_or_ge n n' with hlt | hge
     · exact .inr (.inl ⟨_, _, _, _, _, rfl, rfl, hlt⟩)
     · have hn : n = n' := by omega
       subst hn
       rw [he rfl]; exact .inl rfl
theorem ref_rel {h : Hp} {ρ : Rho} {id : Nat} {x : Blk} (H : LiOk x (ρ id)) : Rel h ρ (ref (id, x)) (refV ρ (id, x)) := by
 cases x with
 | cells cs => obtain ⟨b, e⟩ := H; simp only [ref, refV, e]; exact .lp _ _ _ _ e
 | buf ty sz n f => obtain ⟨v, e, h1⟩ := H; simp only [ref, refV, e]; exact .buf _ _ _ _ _ _ _ e (Nat.le_refl _) h1 (fun _ => rfl)
 | map z d f n => obtain ⟨b, e⟩ := H; simp only [ref, refV, e]; exact .mp _ _ _ e
 | bufk | dead | grid | iter => exact .any _ _
section
variable {P : Program} {N : Nat}
theorem CtrL.of_body {f : FuncId} {fn : Func} {c : Code} {xs : List AV} {v : AV} {A B : List (Nat × Blk)} (hf : P.funcs[f]? = some fn) (hn : (fn.name == "runtime.NumGoroutine") = false) (hb : fn.body = some c) (hN : fn.ntmps = N) (hx : Nat.ble xs.length N = true) (hA : noDup (keysB A) = true)
   (H : ∀ w0 h0 ρb, (∀ b o, h0 b = some o → w0.heap[b]? = some o) → (∀ id, mm A id = none → ρb id = none) → (∀ id x, mm A id = some x → LiOk x (ρb id)) → W P N none (Cq w0 h0 (refs A) (refVs ρb A) (ownSet ρb)) c (argL 0 xs) A 0 (RetOQ P fn h0 w0 ρb v B)) : CtrO P f xs A v B := by
 refine ⟨enters_of hf hn hb, fun h w ρ vs hR hp O => ?_⟩
 refine callsIn_w (n := 1) (callsIn_of_wp_marks hf hb trivial ?_)
 refine H w h ρ hp O.dom (fun id x hx => (O.blk id x hx).li) h ρ _ w ?_
 have hlen : vs.length ≤ N := by rw [hR.1]; exact Nat.le_of_ble_eq_true hx
 refine ⟨fun t => ?_, ⟨refs_len, fun i c v h1 h2 => ?_⟩, ?_, hp, O.blk, O.dom, fun id li b q1 q2 => ⟨(O.own id li b q1 q2).1, (O.own id li b q1 q2).2, .inr ⟨id, li, q1, q2⟩⟩, O.inj, rfl, rfl, rfl, Nat.le_refl _, fun _ _ _ => rfl, fun b o hb => hb, fun b o hb _ => hb, ⟨fun _ => True, fun _ _ => trivial, fun _ _ _ => .inr trivial, trivial⟩, ⟨[], rfl, List.nodup_nil, fun D hD => (by cases hD)⟩⟩
 · rcases argL_rel (h := h) (ρ := ρ) 0 hR t with e | ⟨i, u, e1, e2, e3⟩
   · rw [e]; exact .any _ _
   · have e0 : t = i := by omega
     subst e0
     have hi : t < vs.length := (List.getElem?_eq_some_iff.1 e2).1
     have : (vs.toArray ++ Array.replicate (fn.ntmps - vs.toArray.size) undef).getD t undef = u := by
       have e4 : vs[t] = u := by have := List.getElem?_eq_getElem hi; rw [this] at e2; exact Option.some.inj e2
       simp [Array.getElem?_append, hi, e4]
     rw [this]
     exact e3
 · obtain ⟨⟨id, x⟩, q1, rfl, rfl⟩ := refs_inv h1 h2
   exact ref_rel (O.blk id x (get_mm hA q1)).li
 · simp [hN]; omega
end
section
variable {P : Program} {N : Nat} {Γ : Tys} {L : List (Nat × AV)} {M : List (Nat × Blk)} {g : Nat}
theorem At.retL (hΓ : TysOk P Γ) {w0 : World} {h0 : Hp} {ρb : Rho} {fn : Func} {v : AV} {A B B0 : List (Nat × Blk)} {xs : List AV} (K : List Nat) (hr : resL Γ (fr L) (mm M) fn.results.toList = some xs) (ho : onlyIds K (resV xs) = true) (hB : filtM K M K = some B0) (hBo : onlyBs K B0 = true) (hBs : AgreeM (shB 0 B0) B) (hs : Sim ((resV xs).sh 0) v)
   (hval : ∀ b o, h0 b = some o → w0.heap[b]? = some o) (hdom : ∀ id, mm A id = none → ρb id = none) (hent : ∀ id x, mm A id = some x → LiOk x (ρb id)) (hsa : onlyL K (refs A) = true) (hd : sameShape B0 A = true) : At N (Cq w0 h0 (refs A) (refVs ρb A) (ownSet ρb)) L M g (RetOQ P fn h0 w0 ρb v B .ret) :=
 At.retO hΓ K 0 hr ho hB hBo hBs hs hval hsa (stays_lend hdom hent hd)
end
def look : List (Nat × Nat) → Nat → Nat
 | [], i => i
 | (a, b) :: r, i => match Nat.beq i a with
   | true => b
   | false => look r i
mutual
def AV.ren (π : List (Nat × Nat)) : AV → AV
 | .lp id off => .lp (look π id) off
 | .buf id n => .buf (look π id) n
 | .ep id n i off => .ep (look π id) n i off
 | .mp id => .mp (look π id)
 | .gb id n => .gb (look π id) n
 | .gp id n i => .gp (look π id) n i
 | .gr' id i m => .gr' (look π id) i m
 | .ge id i m j off => .ge (look π id) i m j off
 | .sb id n a b => .sb (look π id) n a b
 | .agg cs => .agg (renL π cs)
 | .tup cs => .tup (renL π cs)
 | .fn f fs cs => .fn f (renL π fs) (renL π cs)
 | .ifc t v => .ifc t (v.ren π)
 | .cnd g v => .cnd g (v.ren π)
 | .any => .any
 | .nilS => .nilS
 | .nilFn => .nilFn
 | .nilPtr => .nilPtr
 | .nilMap => .nilMap
 | .nilIfc => .nilIfc
 | .bool b => .bool b
 | .int k n => .int k n
 | .ro sz n e => .ro sz n e
 | .rp cs => .rp cs
 | .clo f a b => .clo f a b
 | .rom z d e n => .rom z d e n
 | .raw v => .raw v
 | .nz n => .nz n
 | .po b cs => .po b cs
def renL (π : List (Nat × Nat)) : List AV → List AV
 | [] => []
 | c :: cs => c.ren π :: renL π cs
end
def Blk.ren (π : List (Nat × Nat)) : Blk → Blk
 | .cells cs => .cells (renL π cs)
 | .buf ty sz n e => .buf ty sz n e
 | .map z d e n => .map z d e n
 | .dead => .dead
 | .grid a b c d e f => .grid a b c d e f
 | .bufk a b c d e => .bufk a b c d e
 | .iter a b c => .iter a b c
def renB (π : List (Nat × Nat)) : List (Nat × Blk) → List (Nat × Blk)
 | [] => []
 | (i, b) :: r => (look π i, b.ren π) :: renB π r
theorem renL_len {π : List (Nat × Nat)} : ∀ {cs : List AV}, (renL π cs).length = cs.length
 | [] => rfl
 | c :: cs => by simp [renL, renL_len (cs := cs)]
theorem renL_get {π : List (Nat × Nat)} : ∀ {cs : List AV} {i : Nat} {c : AV}, (renL π cs)[i]? = some c → ∃ c0, cs[i]? = some c0 ∧ c = c0.ren π
 | [], i, c, h => by simp [renL] at h
 | x :: cs, 0, c, h => by simp [renL] at h; exact ⟨x, by simp, h.symm⟩
 | x :: cs, i + 1, c, h => by
   simp only [renL, List.getElem?_cons_succ] at h
   obtain ⟨c0, e1, e2⟩ := renL_get h
   exact ⟨c0, by simpa using e1, e2⟩
theorem renL_at {π : List (Nat × Nat)} : ∀ {cs : List AV} {i : Nat} {c : AV}, cs[i]? = some c → (renL π cs)[i]? = some (c.ren π)
 | [], i, c, h => by simp at h
 | x :: cs, 0, c, h => by simp at h; subst h; simp [renL]
 | x :: cs, i + 1, c, h => by
   simp only [List.getElem?_cons_succ] at h
   simp only [renL, List.getElem?_cons_succ]
   exact renL_at h
theorem Rel.ren {h : Hp} {ρ ρ' : Rho} {ids : List Nat} {π : List (Nat × Nat)} (hρ : ∀ id, id ∈ ids → ρ' (look π id) = ρ id) {a : AV} {v : Value} (H : Rel h ρ a v) (hc : onlyIds ids a = true) : Rel h ρ' (a.ren π) v := by
 obtain ⟨ρ1, he, H'⟩ : ∃ ρ1, ρ = ρ1 ∧ Rel h ρ1 a v := ⟨ρ, rfl, H⟩
 clear H
 induction H' with
 | any ρ v => simp only [AV.ren]; exact .any _ _
 | nilS => simp only [AV.ren]; exact .nilS _
 | nilFn => simp only [AV.ren]; exact .nilFn _
 | nilPtr => simp only [AV.ren]; exact .nilPtr _
 | nilMap => simp only [AV.ren]; exact .nilMap _
 | nilIfc => simp only [AV.ren]; exact .nilIfc _
 | bool => simp only [AV.ren]; exact .bool _ _
 | int => simp only [AV.ren]; exact .int _ _ _
 | agg ρ1 cs vs hl hc' ih =>
   simp only [AV.ren]
   refine .agg _ _ _ (by rw [renL_len]; exact hl) fun i c v h1 h2 => ?_
   obtain ⟨c0, e1, rfl⟩ := renL_get h1
   exact ih i c0 v e1 h2 (onlyL_get (by simpa [onlyIds] using hc) e1) he
 | tup ρ1 cs vs hl hc' ih =>
   simp only [AV.ren]
   refine .tup _ _ _ (by rw [renL_len]; exact hl) fun i c v h1 h2 => ?_
   obtain ⟨c0, e1, rfl⟩ := renL_get h1
   exact ih i c0 v e1 h2 (onlyL_get (by simpa [onlyIds] using hc) e1) he
 | ro ρ1 sz n e a cap hnil hcap hsz hs h1 hc' ih => simp only [AV.ren]; exact .ro _ _ _ _ _ _ hnil hcap hsz hs h1 hc'
 | rp ρ1 cs ad hs hc' ih => simp only [AV.ren]; exact .rp _ _ _ hs hc'
 | lp ρ1 id off b hb => simp only [AV.ren]; subst he; exact .lp _ _ _ _ ((hρ id (inList_mem (by simpa [onlyIds] using hc))).trans hb)
 | buf ρ1 id n n' sz v v' hb hle h1 hq => simp only [AV.ren]; subst he; exact .buf _ _ _ _ _ _ _ ((hρ id (inList_mem (by simpa [onlyIds] using hc))).trans hb) hle h1 hq
 | ep ρ1 id n i off n' sz v v' hb hle h1 hq => simp only [AV.ren]; subst he; exact .ep _ _ _ _ _ _ _ _ _ ((hρ id (inList_mem (by simpa [onlyIds] using hc))).trans hb) hle h1 hq
 | fn ρ1 f fs cs vs ws hl hm hc' hd ih1 ih2 =>
   simp only [onlyIds] at hc
   split at hc
   · rename_i h0
     simp only [AV.ren]
     refine .fn _ _ _ _ _ _ (by rw [renL_len]; exact hl) (by rw [renL_len]; exact hm) (fun i c v h1 h2 => ?_) (fun i c v h1 h2 => ?_)
     · obtain ⟨c0, e1, rfl⟩ := renL_get h1
       exact ih1 i c0 v e1 h2 (onlyL_get h0 e1) he
     · obtain ⟨c0, e1, rfl⟩ := renL_get h1
       exact ih2 i c0 v e1 h2 (onlyL_get hc e1) he
   · cases hc
 | clo ρ1 f fs cs v hv ih => simp only [AV.ren]; exact .clo _ _ _ _ _ hv
 | mp ρ1 id b hb => simp only [AV.ren]; subst he; exact .mp _ _ _ ((hρ id (inList_mem (by simpa [onlyIds] using hc))).trans hb)
 | rom ρ1 z dom e n r es clock ks hR hks hlen hel hk hborn hbd hdom hz hc' ihz ih => simp only [AV.ren]; exact .rom _ _ _ _ _ _ _ _ _ hR hks hlen hel hk hborn hbd hdom hz hc'
 | ifc ρ1 t a v hv ih => simp only [AV.ren]; exact .ifc _ _ _ _ (ih (by simpa [onlyIds] using hc) he)
 | cnd ρ1 g a v ht hf ih => simp only [AV.ren]; exact .cnd _ _ _ _ (fun hg => ih hg (by simpa [onlyIds] using hc) he) hf
 | raw => simp only [AV.ren]; exact .raw _ _
 | nz ρ1 n b hb => simp only [AV.ren]; exact .nz _ _ _ hb
 | po ρ1 b cs v ht hf ih => simp only [AV.ren] at ih ⊢; exact .po _ _ _ _ (fun hg => ih hg rfl he) hf
 | gb ρ1 id n li v hb hg h0 => simp only [AV.ren]; subst he; exact .gb _ _ _ _ _ ((hρ id (inList_mem (by simpa [onlyIds] using hc))).trans hb) hg h0
 | gp ρ1 id n i li ad hb hg => simp only [AV.ren]; subst he; exact .gp _ _ _ _ _ _ ((hρ id (inList_mem (by simpa [onlyIds] using hc))).trans hb) hg
 | gr' ρ1 id i m li v hb hg h0 => simp only [AV.ren]; subst he; exact .gr' _ _ _ _ _ _ ((hρ id (inList_mem (by simpa [onlyIds] using hc))).trans hb) hg h0
 | sb ρ1 id n a b n' sz v v' hb hle h0 hq => simp only [AV.ren]; subst he; exact .sb _ _ _ _ _ _ _ _ _ ((hρ id (inList_mem (by simpa [onlyIds] using hc))).trans hb) hle h0 hq
 | ge ρ1 id i m j off li v hb h0 hg => simp only [AV.ren]; subst he; exact .ge _ _ _ _ _ _ _ _ ((hρ id (inList_mem (by simpa [onlyIds] using hc))).trans hb) h0 hg
theorem BlkOk.ren {h : Hp} {ρ ρ' : Rho} {ids : List Nat} {π : List (Nat × Nat)} (hρ : ∀ id, id ∈ ids → ρ' (look π id) = ρ id) {id : Nat} {x : Blk} {w : World} (H : BlkOk h ρ id x w) (hid : id ∈ ids) (ho : onlyB ids x = true) : BlkOk h ρ' (look π id) (x.ren π) w := by
 cases x with
 | cells cs =>
   obtain ⟨b, vs, ty, q1, q2, q3, q4⟩ := H
   refine ⟨b, vs, ty, (hρ id hid).trans q1, q2, by rw [renL_len]; exact q3, fun i c v hc hv => ?_⟩
   obtain ⟨c0, e1, rfl⟩ := renL_get hc
   exact (q4 i c0 v e1 hv).ren hρ (onlyL_get (by simpa [onlyB] using ho) e1)
 | buf ty sz n e => obtain ⟨v, xs, q1, q2⟩ := H; exact ⟨v, xs, (hρ id hid).trans q1, q2⟩
 | map z dom e n => obtain ⟨b, es, clock, ks, q1, q2⟩ := H; exact ⟨b, es, clock, ks, (hρ id hid).trans q1, q2⟩
 | iter e cur Pl => obtain ⟨b, bm, clock, c0, es, seen, left, q1, q2⟩ := H; exact ⟨b, bm, clock, c0, es, seen, left, (hρ id hid).trans q1, q2⟩
 | bufk ty sz n c e => obtain ⟨v, xs, q1, q2⟩ := H; exact ⟨v, xs, (hρ id hid).trans q1, q2⟩
 | dead => obtain ⟨n, sz, q1⟩ := H; exact ⟨n, sz, (hρ id hid).trans q1⟩
 | grid tS ty sz n m e => obtain ⟨v, rows, q1, q2⟩ := H; exact ⟨v, rows, (hρ id hid).trans q1, q2⟩
mutual
/-- Back: what holds by the new names holds by the old ones. -/
theorem Rel.unren {h : Hp} {ρ ρ' : Rho} {ids : List Nat} {π : List (Nat × Nat)} (hρ : ∀ id, id ∈ ids → ρ id = ρ' (look π id)) : ∀ (a : AV) {v : Value}, Rel h ρ' (a.ren π) v → onlyIds ids a = true → Rel h ρ a v
 | .any, v, H, hc => .any _ _
 | .nilS, v, H, hc => H.of_cl rfl
 | .nilFn, v, H, hc => H.of_cl rfl
 | .nilPtr, v, H, hc => H.of_cl rfl
 | .nilMap, v, H, hc => H.of_cl rfl
 | .nilIfc, v, H, hc => H.of_cl rfl
 | .bool b, v, H, hc => H.of_cl rfl
 | .int k n, v, H, hc => H.of_cl rfl
 | .ro sz n e, v, H, hc => H.of_cl rfl
 | .rp cs, v, H, hc => H.of_cl rfl
 | .clo f a b, v, H, hc => H.of_cl rfl
 | .rom z d e n, v, H, hc => H.of_cl rfl
 | .raw u, v, H, hc => H.of_cl rfl
 | .nz n, v, H, hc => H.of_cl rfl
 | .po b cs, v, H, hc => H.of_cl rfl
 | .lp id off, v, H, hc => by
   simp only [AV.ren] at H
   cases H with
   | lp _ _ _ b hb => exact .lp _ _ _ _ ((hρ id (inList_mem (by simpa [onlyIds] using hc))).trans hb)
 | .buf id n, v, H, hc => by
   simp only [AV.ren] at H
   cases H with
   | buf _ _ _ n' sz _ v' hb hle h1 hq => exact .buf _ _ _ _ _ _ _ ((hρ id (inList_mem (by simpa [onlyIds] using hc))).trans hb) hle h1 hq
 | .ep id n i off, v, H, hc => by
   simp only [AV.ren] at H
   cases H with
   | ep _ _ _ _ _ n' sz _ v' hb hle h1 hq => exact .ep _ _ _ _ _ _ _ _ _ ((hρ id (inList_mem (by simpa [onlyIds] using hc))).trans hb) hle h1 hq
 | .mp id, v, H, hc => by
   simp only [AV.ren] at H
   cases H with
   | mp _ _ b hb => exact .mp _ _ _ ((hρ id (inList_mem (by simpa [onlyIds] using hc))).trans hb)
 | .gb id n, v, H, hc => by
   simp only [AV.ren] at H
   cases H with
   | gb _ _ _ li _ hb hg h0 => exact .gb _ _ _ _ _ ((hρ id (inList_mem (by simpa [onlyIds] using hc))).trans hb) hg h0
 | .gp id n i, v, H, hc => by
   simp only [AV.ren] at H
   cases H with
   | gp _ _ _ _ li ad hb hg => exact .gp _ _ _ _ _ _ ((hρ id (inList_mem (by simpa [onlyIds] using hc))).trans hb) hg
 | .gr' id i m, v, H, hc => by
   simp only [AV.ren] at H
   cases H with
   | gr' _ _ _ _ li _ hb hg h0 => exact .gr' _ _ _ _ _ _ ((hρ id (inList_mem (by simpa [onlyIds] using hc))).trans hb) hg h0
 | .ge id i m j off, v, H, hc => by
   simp only [AV.ren] at H
   cases H with
   | ge _ _ _ _ _ _ li _ hb h0 hg => exact .ge _ _ _ _ _ _ _ _ ((hρ id (inList_mem (by simpa [onlyIds] using hc))).trans hb) h0 hg
 | .sb id n a b, v, H, hc => by
   simp only [AV.ren] at H
   cases H with
   | sb _ _ _ _ _ n' sz _ v' hb hle h0 hq => exact .sb _ _ _ _ _ _ _ _ _ ((hρ id (inList_mem (by simpa [onlyIds] using hc))).trans hb) hle h0 hq
 | .agg cs, v, H, hc => by
   simp only [AV.ren] at H
   cases H with
   | agg _ _ vs hl hr => exact .agg _ _ _ (by rw [hl, renL_len]) (fun i c v h1 h2 => Rel.unrenL hρ cs (by simpa [onlyIds] using hc) i c v h1 (hr i _ v (renL_at h1) h2))
 | .tup cs, v, H, hc => by
   simp only [AV.ren] at H
   cases H with
   | tup _ _ vs hl hr => exact .tup _ _ _ (by rw [hl, renL_len]) (fun i c v h1 h2 => Rel.unrenL hρ cs (by simpa [onlyIds] using hc) i c v h1 (hr i _ v (renL_at h1) h2))
 | .fn f fs cs, v, H, hc => by
   simp only [AV.ren] at H
   simp only [onlyIds] at hc
   split at hc
   · rename_i h0
     cases H with
     | fn _ _ _ _ vs ws hl hm h1 h2 => exact .fn _ _ _ _ _ _ (by rw [hl, renL_len]) (by rw [hm, renL_len]) (fun i c v q1 q2 => Rel.unrenL hρ fs h0 i c v q1 (h1 i _ v (renL_at q1) q2)) (fun i c v q1 q2 => Rel.unrenL hρ cs hc i c v q1 (h2 i _ v (renL_at q1) q2))
   · cases hc
 | .ifc t a, v, H, hc => by
   simp only [AV.ren] at H
   cases H with
   | ifc _ _ _ u hv => exact .ifc _ _ _ _ (Rel.unren hρ a hv (by simpa [onlyIds] using hc))
 | .cnd g a, v, H, hc => by
   simp only [AV.ren] at H
   cases H with
   | cnd _ _ _ _ ht hf => exact .cnd _ _ _ _ (fun hg => Rel.unren hρ a (ht hg) (by simpa [onlyIds] using hc)) hf
theorem Rel.unrenL {h : Hp} {ρ ρ' : Rho} {ids : List Nat} {π : List (Nat × Nat)} (hρ : ∀ id, id ∈ ids → ρ id = ρ' (look π id)) : ∀ (cs : List AV), onlyL ids cs = true → ∀ (i : Nat) (c : AV) (v : Value), cs[i]? = some c → Rel h ρ' (c.ren π) v → Rel h ρ c v
 | [], _, i, c, v, h1, _ => by simp at h1
 | x :: cs, hc, 0, c, v, h1, H => by
   simp only [List.getElem?_cons_zero, Option.some.injEq] at h1
   simp only [onlyL] at hc
   split at hc
   · rename_i h0
     rw [← h1] at H ⊢
     exact Rel.unren hρ x H h0
   · cases hc
 | x :: cs, hc, i + 1, c, v, h1, H => by
   simp only [List.getElem?_cons_succ] at h1
   simp only [onlyL] at hc
   split at hc
   · exact Rel.unrenL hρ cs hc i c v h1 H
   · cases hc
end
theorem mm_renB {π : List (Nat × Nat)} {ids : List Nat} (hinj : ∀ i j, i ∈ ids → j ∈ ids → look π i = look π j → i = j) : ∀ {B : List (Nat × Blk)}, (∀ i, i ∈ keysB B → i ∈ ids) → ∀ i, i ∈ ids → mm (renB π B) (look π i) = (mm B i).map (·.ren π)
 | [], _, i, _ => rfl
 | (j, b) :: r, h, i, hi => by
   simp only [renB, mm]
   by_cases e : i = j
   · subst e; simp [upd]
   · rw [upd_other _ _ e, upd_other _ _ (fun q => e (hinj i j hi (h j (List.mem_cons_self ..)) q))]
     exact mm_renB hinj (fun i hi => h i (List.mem_cons_of_mem _ hi)) i hi
theorem keys_renB {π : List (Nat × Nat)} : ∀ {B : List (Nat × Blk)}, keysB (renB π B) = (keysB B).map (look π)
 | [] => rfl
 | (j, b) :: r => by simp [renB, keysB, keys_renB (B := r)]
def injOn (π : List (Nat × Nat)) : List Nat → Bool
 | [] => true
 | i :: r => match inList (r.map (look π)) (look π i) with
   | true => match inList r i with
     | true => injOn π r
     | false => false
   | false => injOn π r
theorem injOn_spec {π : List (Nat × Nat)} : ∀ {l : List Nat}, injOn π l = true → ∀ i j, i ∈ l → j ∈ l → look π i = look π j → i = j
 | [], _, i, j, h, _, _ => by cases h
 | x :: l, hi, i, j, h1, h2, e => by
   simp only [injOn] at hi
   have key : injOn π l = true ∧ ∀ k, k ∈ l → look π x = look π k → x ∈ l := by
     split at hi
     · split at hi
       · rename_i h3; exact ⟨hi, fun _ _ _ => inList_mem h3⟩
       · cases hi
     · rename_i h3
       refine ⟨hi, fun k hk e => ?_⟩
       rw [inList_spec (by rw [e]; exact List.mem_map_of_mem hk)] at h3; cases h3
   obtain ⟨k1, k2⟩ := key
   rcases List.mem_cons.1 h1 with rfl | h3 <;> rcases List.mem_cons.1 h2 with rfl | h4
   · rfl
   · exact injOn_spec k1 i j (k2 j h4 e) h4 e
   · exact injOn_spec k1 i j h3 (k2 i h3 e.symm) e
   · exact injOn_spec k1 i j h3 h4 e
theorem CtrO.ren {P : Program} {f : FuncId} {args : List AV} {A B : List (Nat × Blk)} {v : AV} (H : CtrO P f args A v B) (π : List (Nat × Nat)) (ha : onlyL (keysB A) args = true := by rfl) (hA : onlyBs (keysB A) A = true := by rfl) (hv : onlyIds (keysB B) v = true := by rfl) (hB : onlyBs (keysB B) B = true := by rfl) (hi : injOn π (keysB A ++ keysB B) = true := by rfl) :
   CtrO P f (renL π args) (renB π A) (v.ren π) (renB π B) := by
 have hinj := injOn_spec hi
 have iA : ∀ i j, i ∈ keysB A → j ∈ keysB A → look π i = look π j → i = j := fun i j h1 h2 => hinj i j (List.mem_append_left _ h1) (List.mem_append_left _ h2)
 have iB : ∀ i j, i ∈ keysB B → j ∈ keysB B → look π i = look π j → i = j := fun i j h1 h2 => hinj i j (List.mem_append_right _ h1) (List.mem_append_right _ h2)
 refine ⟨H.1, fun h w ρ vs hR hp O => ?_⟩
 classical
 let ρ2 : Rho := fun j => if j ∈ keysB A then ρ (look π j) else none
 have h2 : ∀ j, j ∈ keysB A → ρ2 j = ρ (look π j) := fun j hj => if_pos hj
 have hinv : ∀ j li, ρ2 j = some li → j ∈ keysB A ∧ ρ (look π j) = some li := fun j li hj => by
   have : (if j ∈ keysB A then ρ (look π j) else none) = some li := hj
   split at this
   · exact ⟨by assumption, this⟩
   · cases this
 have hback : ∀ i li, ρ i = some li → ∃ j, j ∈ keysB A ∧ i = look π j := fun i li hi => by
   have : i ∈ keysB (renB π A) := Classical.byContradiction fun hn => by rw [O.dom i (mm_keys hn)] at hi; cases hi
   rw [keys_renB] at this
   obtain ⟨j, q1, q2⟩ := List.mem_map.1 this
   exact ⟨j, q1, q2.symm⟩
 have hset : ∀ b, ownSet ρ2 b ↔ ownSet ρ b := fun b => by
   constructor
   · rintro ⟨j, li, q1, q2⟩
     exact ⟨_, li, (hinv j li q1).2, q2⟩
   · rintro ⟨i, li, q1, q2⟩
     obtain ⟨j, q3, rfl⟩ := hback i li q1
     exact ⟨j, li, (h2 j q3).trans q1, q2⟩
 have hmA : ∀ j, j ∈ keysB A → mm (renB π A) (look π j) = (mm A j).map (·.ren π) := mm_renB iA (fun _ h => h)
 have hR2 : RelL h ρ2 args vs := ⟨by rw [hR.1, renL_len], fun i c v hc hv => Rel.unrenL h2 args ha i c v hc (hR.2 i _ v (renL_at hc) hv)⟩
 have hO2 : Ownd h ρ2 A w := by
   refine ⟨fun j y hj => ?_, fun j hj => ?_, fun j li b q3 q4 => O.own _ li b (hinv j li q3).2 q4, fun j j' li li' b q3 q3' q4 q4' => ?_⟩
   · have hjA : j ∈ keysB A := keysB_mm.2 (by rw [hj]; rfl)
     have := O.blk (look π j) (y.ren π) (by rw [hmA j hjA, hj]; rfl)
     have ho := onlyBs_mm hA j y hj
     cases y with
     | cells cs =>
       obtain ⟨b, us, ty, q1, q2, q3, q4⟩ := this
       exact ⟨b, us, ty, (h2 j hjA).trans q1, q2, by rw [q3, renL_len], fun i c v hc hv => Rel.unrenL h2 cs (by simpa [onlyB] using ho) i c v hc (q4 i _ v (renL_at hc) hv)⟩
     | buf ty sz n e => obtain ⟨v, xs, q1, q2⟩ := this; exact ⟨v, xs, (h2 j hjA).trans q1, q2⟩
     | map z dom e n => obtain ⟨b, es, clock, ks, q1, q2⟩ := this; exact ⟨b, es, clock, ks, (h2 j hjA).trans q1, q2⟩
     | iter e cur Pl => obtain ⟨b, bm, clock, c0, es, seen, left, q1, q2⟩ := this; exact ⟨b, bm, clock, c0, es, seen, left, (h2 j hjA).trans q1, q2⟩
     | bufk ty sz n c e => obtain ⟨v, xs, q1, q2⟩ := this; exact ⟨v, xs, (h2 j hjA).trans q1, q2⟩
     | dead => obtain ⟨n, sz, q1⟩ := this; exact ⟨n, sz, (h2 j hjA).trans q1⟩
     | grid tS ty sz n m e => obtain ⟨v, rows, q1, q2⟩ := this; exact ⟨v, rows, (h2 j hjA).trans q1, q2⟩
   · cases hq : ρ2 j with
     | none => rfl
     | some li =>
       have := keysB_mm.1 (hinv j li hq).1
       rw [hj] at this; cases this
   · exact iA j j' (hinv j li q3).1 (hinv j' li' q3').1 (O.inj _ _ li li' b (hinv j li q3).2 (hinv j' li' q3').2 q4 q4')
 refine (H.2 h w ρ2 _ hR2 hp hO2).mono (fun en w' he => ?_)
 cases en with
 | panicked ch => exact he.elim
 | outgrown => exact he.elim
 | returned x =>
 obtain ⟨h', ρ3, p1, p2, p3, p4, p5, p6, p7, p8, p9, p10, p11⟩ := he
 let ρ' : Rho := fun i => if hx : ∃ j, j ∈ keysB B ∧ look π j = i then ρ3 (Classical.choose hx) else none
 have hin : ∀ j, j ∈ keysB B → ρ' (look π j) = ρ3 j := fun j hj => by
   have hx : ∃ k, k ∈ keysB B ∧ look π k = look π j := ⟨j, hj, rfl⟩
   have e1 : ρ' (look π j) = ρ3 (Classical.choose hx) := dif_pos hx
   obtain ⟨q1, q2⟩ := Classical.choose_spec hx
   rw [e1, iB _ _ q1 hj q2]
 have hout : ∀ i li, ρ' i = some li → ∃ j, j ∈ keysB B ∧ i = look π j ∧ ρ3 j = some li := fun i li hi => by
   by_cases hx : ∃ j, j ∈ keysB B ∧ look π j = i
   · obtain ⟨j, q1, rfl⟩ := hx
     exact ⟨j, q1, rfl, (hin j q1).symm.trans hi⟩
   · have : ρ' i = none := dif_neg hx
     rw [this] at hi; cases hi
 have hmB : ∀ j, j ∈ keysB B → mm (renB π B) (look π j) = (mm B j).map (·.ren π) := mm_renB iB (fun _ h => h)
 refine ⟨h', ρ', p1, p2, p3, p4, fun kk hk hn => p5 kk hk (fun ho => hn ((hset kk).1 ho)), p6, p7, p8.ren (ids := keysB B) hin hv, ⟨fun i y hy => ?_, fun i hy => ?_, fun i li b q1 q2 => ?_, fun i i' li li' b q1 q1' q2 q2' => ?_⟩, fun i li b q1 q2 => ?_, fun i li li' q1 q2 => ?_⟩
 · have hi : i ∈ keysB (renB π B) := keysB_mm.2 (by rw [hy]; rfl)
   rw [keys_renB] at hi
   obtain ⟨j, q1, rfl⟩ := List.mem_map.1 hi
   rw [hmB j q1] at hy
   obtain ⟨y0, q2, rfl⟩ := Option.map_eq_some_iff.1 hy
   exact (p9.blk j y0 q2).ren (ids := keysB B) hin q1 (onlyBs_mm hB j y0 q2)
 · cases hq : ρ' i with
   | none => rfl
   | some li =>
     obtain ⟨j, q1, rfl, q2⟩ := hout i li hq
     rw [hmB j q1] at hy
     have := keysB_mm.1 q1
     cases hz : mm B j with
     | none => rw [hz] at this; cases this
     | some z => rw [hz] at hy; cases hy
 · obtain ⟨j, q3, rfl, q4⟩ := hout i li q1
   exact p9.own j li b q4 q2
 · obtain ⟨j, q3, rfl, q4⟩ := hout i li q1
   obtain ⟨j', q3', rfl, q4'⟩ := hout i' li' q1'
   rw [p9.inj j j' li li' b q4 q4' q2 q2']
 · obtain ⟨j, q3, rfl, q4⟩ := hout i li q1
   exact (p10 j li b q4 q2).imp (fun h => (hset b).1 h) (fun h => h)
 · obtain ⟨j, q3, rfl, q4⟩ := hout i li' q2
   obtain ⟨j2, q5, q6⟩ := hback _ li q1
   have : j = j2 := hinj j j2 (List.mem_append_right _ q3) (List.mem_append_left _ q5) q6
   subst this
   exact p11 j li li' ((h2 j q5).trans q1) q4
theorem CtrO.sim {P : Program} {f : FuncId} {args args' : List AV} {A A' B : List (Nat × Blk)} {v : AV} (H : CtrO P f args' A' v B) (hs : SimL args args') (hM : AgreeM A A') : CtrO P f args A v B := by
 refine ⟨H.1, fun h w ρ vs hR hp O => H.2 h w ρ vs ⟨by rw [hR.1, hs.spec.1], fun i c u hc hu => ?_⟩ hp ⟨fun id y hy => ?_, fun id hy => O.dom id (((hM.spec id).1).1 hy), O.own, O.inj⟩⟩
 · obtain ⟨l1, l2⟩ := hs.spec
   have hi : i < args.length := by rw [l1]; exact (List.getElem?_eq_some_iff.1 hc).1
   exact l2 i _ c (List.getElem?_eq_getElem hi) hc h ρ u (hR.2 i _ u (List.getElem?_eq_getElem hi) hu)
 · obtain ⟨x, q1, q2⟩ := (hM.spec id).2 y hy
   exact q2 h ρ id w (O.blk id x q1)
theorem Sim.po_rp {cs cs' : List AV} {b : Bool} (hb : b = true) (hs : SimL cs cs') : Sim (.rp cs) (.po b cs') := by
 intro h ρ v H
 subst hb
 refine .po _ _ _ _ (fun _ => ?_) (fun e => by cases e)
 cases H with
 | rp _ _ ad h1 h2 =>
   obtain ⟨l1, l2⟩ := hs.spec
   refine .rp _ _ _ (fun j hj => h1 j (by rw [l1]; exact hj)) (fun j c v hj hv => ?_)
   have hi : j < cs.length := by rw [l1]; exact (List.getElem?_eq_some_iff.1 hj).1
   exact l2 j _ c (List.getElem?_eq_getElem hi) hj h ρ0 v (h2 j _ v (List.getElem?_eq_getElem hi) hv)
theorem Sim.po_nil {cs : List AV} {b : Bool} (hb : b = false) : Sim .nilPtr (.po b cs) := by
 intro h ρ v H
 subst hb
 cases H
 exact .po _ _ _ _ (fun e => by cases e) (fun _ => rfl)
theorem Sim.po {cs cs' : List AV} {b : Bool} (hs : SimL cs cs') : Sim (.po b cs) (.po b cs') := by
 intro h ρ v H
 cases H with
 | po _ _ _ _ ht hf =>
 cases b with
 | false => exact .po _ _ _ _ (fun e => by cases e) hf
 | true => exact Sim.po_rp rfl hs h ρ v (ht rfl)
theorem Sim.rp_po {cs : List AV} {b : Bool} (hb : b = true) : Sim (.po b cs) (.rp cs) := by
 intro h ρ v H
 cases H with
 | po _ _ _ _ ht hf => exact ht hb
theorem Sim.rp {cs cs' : List AV} (hs : SimL cs cs') : Sim (.rp cs) (.rp cs') := by
 intro h ρ v H
 cases H with
 | rp _ _ ad h1 h2 =>
   obtain ⟨l1, l2⟩ := hs.spec
   refine .rp _ _ _ (fun j hj => h1 j (by rw [l1]; exact hj)) (fun j c v hj hv => ?_)
   have hi : j < cs.length := by rw [l1]; exact (List.getElem?_eq_some_iff.1 hj).1
   exact l2 j _ c (List.getElem?_eq_getElem hi) hj h ρ0 v (h2 j _ v (List.getElem?_eq_getElem hi) hv)
theorem BSim.cells {xs ys : List AV} (hs : SimL xs ys) : BSim (.cells xs) (.cells ys) := by
 intro h ρ id w H
 obtain ⟨b, vs, ty, q1, q2, q3, q4⟩ := H
 obtain ⟨l1, l2⟩ := hs.spec
 refine ⟨b, vs, ty, q1, q2, by rw [q3, l1], fun i c v hc hv => ?_⟩
 have hi : i < xs.length := by rw [l1]; exact (List.getElem?_eq_some_iff.1 hc).1
 exact l2 i _ c (List.getElem?_eq_getElem hi) hc h ρ v (q4 i _ v (List.getElem?_eq_getElem hi) hv)
theorem lend_off {S : Type} {W : Bool} {x : Option S} {d y : S} (h : (bif W then x else some d) = some y) (hW : W = false) : y = d := by
 subst hW; exact (Option.some.inj h).symm
end Go.Av
end
/- Owned results of several blocks: names changed at the return; empty slices within temporaries. -/
section
set_option linter.all false
namespace Go.Av
section
variable {N : Nat} {C : Ctx} {L : List (Nat × AV)} {M : List (Nat × Blk)} {g : Nat}
theorem fr_ren {π : List (Nat × Nat)} : ∀ {L : List (Nat × AV)} (t : Nat), fr (L.map fun x => (x.1, x.2.ren π)) t = (fr L t).ren π
 | [], t => by simp only [List.map_nil, fr, AV.ren]
 | (u, v) :: r, t => by
   simp only [List.map_cons, fr, put]
   split
   · rfl
   · exact fr_ren t
theorem At.ren {w0 : World} {h0 : Hp} {br : Nat → Prop} {R : Act → World → Prop} (π : List (Nat × Nat)) {K ts : List Nat} {L' : List (Nat × AV)} {M' : List (Nat × Blk)} (hL : filtL K L ts = some L') (hM : filtM K M K = some M') (hk : keysB M' = K) (hB : onlyBs K M' = true) (hi : injOn π K = true)
   (H : At N (Cq w0 h0 [] [] br) (L'.map fun x => (x.1, x.2.ren π)) (renB π M') g R) : At N (Cq w0 h0 [] [] br) L M g R := by
 intro h ρ0' a w I0
 obtain ⟨ρ, _, I⟩ := I0.forget hL hM rfl
 classical
 have hinj := injOn_spec hi
 let ρ' : Rho := fun i => if hx : ∃ j, j ∈ K ∧ look π j = i then ρ (Classical.choose hx) else none
 have hin : ∀ j, j ∈ K → ρ' (look π j) = ρ j := fun j hj => by
   have hx : ∃ k, k ∈ K ∧ look π k = look π j := ⟨j, hj, rfl⟩
   have e1 : ρ' (look π j) = ρ (Classical.choose hx) := dif_pos hx
   obtain ⟨q1, q2⟩ := Classical.choose_spec hx
   rw [e1, hinj _ _ q1 hj q2]
 have hout : ∀ i li, ρ' i = some li → ∃ j, j ∈ K ∧ i = look π j ∧ ρ j = some li := fun i li hi => by
   by_cases hx : ∃ j, j ∈ K ∧ look π j = i
   · obtain ⟨j, q1, rfl⟩ := hx
     exact ⟨j, q1, rfl, (hin j q1).symm.trans hi⟩
   · have : ρ' i = none := dif_neg hx
     rw [this] at hi; cases hi
 have hmB : ∀ j, j ∈ K → mm (renB π M') (look π j) = (mm M' j).map (·.ren π) := mm_renB hinj (fun i hi => hk ▸ hi)
 refine H h ρ' a w { I with slot := fun t => ?_, sav := ⟨rfl, fun i c v h1 => by simp [Cq] at h1⟩, blk := fun i y hy => ?_, dom := fun i hy => ?_, own := fun i li b q1 q2 => ?_, inj := fun i i' li li' b q1 q1' q2 q2' => ?_, gst := ?_ }
 · rw [fr_ren]
   rcases filtL_spec hL t with e | ⟨e, ho⟩
   · rw [e]; exact .any _ _
   · exact (I.slot t).ren (ids := K) hin ho
 · have hi : i ∈ keysB (renB π M') := keysB_mm.2 (by rw [hy]; rfl)
   rw [keys_renB] at hi
   obtain ⟨j, q1, rfl⟩ := List.mem_map.1 hi
   rw [hk] at q1
   rw [hmB j q1] at hy
   obtain ⟨y0, q2, rfl⟩ := Option.map_eq_some_iff.1 hy
   exact (I.blk j y0 q2).ren (ids := K) hin q1 (onlyBs_mm hB j y0 q2)
 · cases hq : ρ' i with
   | none => rfl
   | some li =>
     obtain ⟨j, q1, rfl, q2⟩ := hout i li hq
     rw [hmB j q1] at hy
     have := keysB_mm.1 (hk ▸ q1 : j ∈ keysB M')
     cases hz : mm M' j with
     | none => rw [hz] at this; cases this
     | some z => rw [hz] at hy; cases hy
 · obtain ⟨j, q3, rfl, q4⟩ := hout i li q1
   exact I.own j li b q4 q2
 · obtain ⟨j, q3, rfl, q4⟩ := hout i li q1
   obtain ⟨j', q3', rfl, q4'⟩ := hout i' li' q1'
   rw [I.inj j j' li li' b q4 q4' q2 q2']
 · obtain ⟨X, x1, x2, x3⟩ := I.gst
   refine ⟨X, fun b ⟨i, li, q1, q2⟩ => ?_, x2, x3⟩
   obtain ⟨j, q3, rfl, q4⟩ := hout i li q1
   exact x1 b ⟨j, li, q4, q2⟩
end
end Go.Av
end
/- An owned slice is only read from now on, wherever it is named. -/
section
set_option linter.all false
namespace Go.Av
mutual
/-- A value in which a name is read as what it stands for; what must hold for it. -/
def fz (id n' : Nat) (r : AV) (K : List Nat) : AV → Option (AV × List Prop)
 | .buf i n => match Nat.beq i id with
   | true => some (r, [n = n'])
   | false => match inList K i with
     | true => some (.buf i n, [])
     | false => none
 | .agg cs => match fzL id n' r K cs with
   | some (cs', ps) => some (.agg cs', ps)
   | none => none
 | .tup cs => match fzL id n' r K cs with
   | some (cs', ps) => some (.tup cs', ps)
   | none => none
 | v => match onlyIds K v with
   | true => some (v, [])
   | false => none
def fzL (id n' : Nat) (r : AV) (K : List Nat) : List AV → Option (List AV × List Prop)
 | [] => some ([], [])
 | c :: cs => match fz id n' r K c with
   | some (c', ps) => match fzL id n' r K cs with
     | some (cs', qs) => some (c' :: cs', appP ps qs)
     | none => none
   | none => none
end
theorem fz_other {id n' : Nat} {r : AV} {K : List Nat} {x y : AV} {ps : List Prop} (h : fz id n' r K x = some (y, ps)) (h1 : ∀ i n, x ≠ .buf i n) (h2 : ∀ cs, x ≠ .agg cs) (h3 : ∀ cs, x ≠ .tup cs) : onlyIds K x = true ∧ y = x := by
 cases x <;> first | exact absurd rfl (h1 _ _) | exact absurd rfl (h2 _) | exact absurd rfl (h3 _) | (simp only [fz] at h; split at h <;> cases h; exact ⟨by assumption, rfl⟩)
theorem fzL_get {id n' : Nat} {r : AV} {K : List Nat} : ∀ {cs cs' : List AV} {ps : List Prop}, fzL id n' r K cs = some (cs', ps) → cs'.length = cs.length ∧
   ∀ (i : Nat) (c' : AV), cs'[i]? = some c' → ∃ c qs, cs[i]? = some c ∧ fz id n' r K c = some (c', qs) ∧ ∀ q, q ∈ qs → q ∈ ps
 | [], cs', ps, h => by
   simp only [fzL] at h; cases h
   exact ⟨rfl, fun i c' hc => (by simp at hc)⟩
 | c :: cs, cs', ps, h => by
   simp only [fzL] at h
   split at h
   · rename_i d qs hd
     split at h
     · rename_i ds rs hds
       cases h
       obtain ⟨h1, h2⟩ := fzL_get hds
       refine ⟨by simp [h1], fun i c' hc => ?_⟩
       cases i with
       | zero => simp at hc; subst hc; exact ⟨c, qs, rfl, hd, fun q hq => appP_mem.2 (.inl hq)⟩
       | succ i =>
         obtain ⟨c0, q0, e1, e2, e3⟩ := h2 i c' (by simpa using hc)
         exact ⟨c0, q0, by simpa using e1, e2, fun q hq => appP_mem.2 (.inr (e3 q hq))⟩
     · cases h
   · cases h
theorem Rel.fz {h h' : Hp} {ρ ρ' : Rho} {id n' sz : Nat} {v0 : Value} {r : AV} {K : List Nat} (hle : Le h h') (hρ : ∀ i, i ∈ K → ρ' i = ρ i) (hid : ρ id = some (.sl n' sz v0)) (hr : Rel h' ρ' r v0) {x : AV} {v : Value} (H : Rel h ρ x v) :
   ∀ {y : AV} {ps : List Prop}, Go.Av.fz id n' r K x = some (y, ps) → (∀ q, q ∈ ps → q) → Rel h' ρ' y v := by
 induction H with
 | buf ρ i n n2 sz2 v v' hb hl h1 he =>
   intro y ps hy hp
   simp only [Go.Av.fz] at hy
   split at hy
   · rename_i hi
     cases hy
     have := Nat.eq_of_beq_eq_true hi
     subst this
     have hn : n = n' := hp _ (List.mem_cons_self ..)
     rw [hid] at hb; cases hb
     rw [he hn]; exact hr
   · split at hy
     · rename_i hk
       cases hy
       exact .buf _ _ _ _ _ _ _ ((hρ i (inList_mem hk)).trans hb) hl h1 he
     · cases hy
 | agg ρ cs vs hl hc ih =>
   intro y ps hy hp
   simp only [Go.Av.fz] at hy
   split at hy
   · rename_i cs' qs hcs
     cases hy
     obtain ⟨e1, e2⟩ := fzL_get hcs
     refine .agg _ _ _ (by rw [hl, e1]) fun i c v h1 h2 => ?_
     obtain ⟨c0, q0, k1, k2, k3⟩ := e2 i c h1
     exact ih i c0 v k1 h2 hρ hid k2 (fun q hq => hp q (k3 q hq))
   · cases hy
 | tup ρ cs vs hl hc ih =>
   intro y ps hy hp
   simp only [Go.Av.fz] at hy
   split at hy
   · rename_i cs' qs hcs
     cases hy
     obtain ⟨e1, e2⟩ := fzL_get hcs
     refine .tup _ _ _ (by rw [hl, e1]) fun i c v h1 h2 => ?_
     obtain ⟨c0, q0, k1, k2, k3⟩ := e2 i c h1
     exact ih i c0 v k1 h2 hρ hid k2 (fun q hq => hp q (k3 q hq))
   · cases hy
 | _ =>
   intro y ps hy hp
   obtain ⟨ho, rfl⟩ := fz_other hy (fun _ _ e => by cases e) (fun _ e => by cases e) (fun _ e => by cases e)
   refine Rel.forget hρ (Rel.heap ?_ hle) ho
   first | (constructor <;> assumption) | (constructor; done)
def fzS (id n' : Nat) (r : AV) (K : List Nat) (L : List (Nat × AV)) : List Nat → Option (List (Nat × AV) × List Prop)
 | [] => some ([], [])
 | t :: ts => match findL L t with
   | some x => match fz id n' r K x with
     | some (y, ps) => match fzS id n' r K L ts with
       | some (L', qs) => some ((t, y) :: L', appP ps qs)
       | none => none
     | none => none
   | none => none
def fzB (id n' : Nat) (r : AV) (K : List Nat) : Blk → Option (Blk × List Prop)
 | .cells cs => match fzL id n' r K cs with
   | some (cs', ps) => some (.cells cs', ps)
   | none => none
 | b => match onlyB K b with
   | true => some (b, [])
   | false => none
def fzM (id n' : Nat) (r : AV) (K : List Nat) (M : List (Nat × Blk)) : List Nat → Option (List (Nat × Blk) × List Prop)
 | [] => some ([], [])
 | t :: ts => match mm M t with
   | some x => match fzB id n' r K x with
     | some (y, ps) => match fzM id n' r K M ts with
       | some (M', qs) => some ((t, y) :: M', appP ps qs)
       | none => none
     | none => none
   | none => none
theorem fzS_spec {id n' : Nat} {r : AV} {K : List Nat} {L : List (Nat × AV)} : ∀ {ts : List Nat} {L' : List (Nat × AV)} {ps : List Prop}, fzS id n' r K L ts = some (L', ps) →
   ∀ t, fr L' t = .any ∨ ∃ qs, fz id n' r K (fr L t) = some (fr L' t, qs) ∧ ∀ q, q ∈ qs → q ∈ ps
 | [], L', ps, h, t => by simp only [fzS] at h; cases h; exact .inl rfl
 | u :: ts, L', ps, h, t => by
   simp only [fzS] at h
   split at h
   · rename_i x hx
     split at h
     · rename_i y qs hy
       split at h
       · rename_i L2 rs h2
         cases h
         simp only [fr, put]
         split
         · rename_i hb
           have := Nat.eq_of_beq_eq_true hb
           subst this
           rw [findL_fr hx]
           exact .inr ⟨qs, hy, fun q hq => appP_mem.2 (.inl hq)⟩
         · rcases fzS_spec h2 t with e | ⟨q0, e1, e2⟩
           · exact .inl e
           · exact .inr ⟨q0, e1, fun q hq => appP_mem.2 (.inr (e2 q hq))⟩
       · cases h
     · cases h
   · cases h
theorem fzM_spec {id n' : Nat} {r : AV} {K : List Nat} {M : List (Nat × Blk)} : ∀ {ts : List Nat} {M' : List (Nat × Blk)} {ps : List Prop}, fzM id n' r K M ts = some (M', ps) →
   (∀ t, t ∈ ts → (mm M' t).isSome = true) ∧ ∀ t y, mm M' t = some y → t ∈ ts ∧ ∃ x qs, mm M t = some x ∧ fzB id n' r K x = some (y, qs) ∧ ∀ q, q ∈ qs → q ∈ ps
 | [], M', ps, h => by simp only [fzM] at h; cases h; exact ⟨fun t ht => (by cases ht), fun t y hy => (by cases hy)⟩
 | u :: ts, M', ps, h => by
   simp only [fzM] at h
   split at h
   · rename_i x hx
     split at h
     · rename_i y qs hy
       split at h
       · rename_i L2 rs h2
         cases h
         obtain ⟨k1, k2⟩ := fzM_spec h2
         refine ⟨fun t ht => ?_, fun t z hz => ?_⟩
         · simp only [mm]
           by_cases e : t = u
           · subst e; rw [upd_same]; rfl
           · rw [upd_other _ _ e]
             exact k1 t ((List.mem_cons.1 ht).resolve_left e)
         · simp only [mm] at hz
           by_cases e : t = u
           · subst e; rw [upd_same] at hz; cases hz
             exact ⟨List.mem_cons_self .., x, qs, hx, hy, fun q hq => appP_mem.2 (.inl hq)⟩
           · rw [upd_other _ _ e] at hz
             obtain ⟨e0, x2, q2, e1, e2, e3⟩ := k2 t z hz
             exact ⟨List.mem_cons_of_mem _ e0, x2, q2, e1, e2, fun q hq => appP_mem.2 (.inr (e3 q hq))⟩
       · cases h
     · cases h
   · cases h
section
variable {N : Nat} {C : Ctx} {L : List (Nat × AV)} {M : List (Nat × Blk)} {g : Nat} {R : Act → World → Prop}
theorem At.freezeA (id : Nat) {ty sz n' : Nat} {e : Nat → List AV} {K ts : List Nat} {L' : List (Nat × AV)} {M' : List (Nat × Blk)} {ps qs : List Prop} (hM : mm M id = some (.buf ty sz n' e)) (hK : inList K id = false)
   (hL : fzS id n' (.ro sz n' e) K L ts = some (L', ps)) (hMK : fzM id n' (.ro sz n' e) K M K = some (M', qs)) (hps : AllP ps) (hqs : AllP qs)
   (hbor : ∀ b, ¬ C.bor b) (Kk : At N C L' M' g R) (hs : onlyL K C.savA = true := by rfl) : At N C L M g R := by
 intro h ρ a w I
 have hps := hps.mem
 have hqs := hqs.mem
 obtain ⟨v, us, k1, k2, k3, k5, k4⟩ := I.blk id _ hM
 obtain ⟨m1, m2⟩ := fzM_spec hMK
 have hidK : id ∉ K := fun hk => by rw [inList_of hk] at hK; cases hK
 classical
 let h' : Hp := fun b => if v.ownBlock = some b then w.heap[b]? else h b
 let ρ' : Rho := fun i => if i ∈ K then ρ i else none
 have hρ : ∀ i, i ∈ K → ρ' i = ρ i := fun i hi => if_pos hi
 have hρ' : ∀ i li, ρ' i = some li → i ∈ K ∧ ρ i = some li := fun i li hi => by
   have : (if i ∈ K then ρ i else none) = some li := hi
   split at this
   · exact ⟨by assumption, this⟩
   · cases this
 have hin : ∀ b, v.ownBlock = some b → h' b = w.heap[b]? := fun b hb => if_pos hb
 have hle : ∀ b o, h b = some o → h' b = some o := by
   intro b o hb
   show (if v.ownBlock = some b then w.heap[b]? else h b) = some o
   split
   · exact I.hp b o hb
   · exact hb
 have hge : ∀ b, v.ownBlock = some b → C.w0.heap.size ≤ b := fun b hb => (I.own id _ b k1 hb).2.2.resolve_right (hbor b)
 have hnew : ∀ b o, h' b = some o → (v.ownBlock = some b ∧ w.heap[b]? = some o) ∨ h b = some o := by
   intro b o hb
   have : (if v.ownBlock = some b then w.heap[b]? else h b) = some o := hb
   split at this
   · exact .inl ⟨by assumption, this⟩
   · exact .inr this
 have hr : Rel h' ρ' (.ro sz n' e) v := (ro_of_own k2 (fun b hb => hin b hb) k3 k5 (fun i j c x a1 a2 a3 => (k4 i j c x a1 a2 a3).heap (Le.of hle))).closed
 refine Kk h' ρ' a w { I with slot := fun t => ?_, sav := ⟨I.sav.1, fun i c x h1 h2 => ((I.sav.2 i c x h1 h2).heap (Le.of hle)).forget hρ (onlyL_get hs h1)⟩, hp := fun b o hb => ?_, blk := fun i y hy => ?_, dom := fun i hi => ?_, own := fun i li b q1 q2 => ?_, inj := fun i i' li li' b q1 q1' q2 q2' => I.inj i i' li li' b (hρ' _ _ q1).2 (hρ' _ _ q1').2 q2 q2', ext := fun b o hb => hle b o (I.ext b o hb), old := fun b o hb hlt => ?_, gst := ?_, dfr := ?_ }
 · rcases fzS_spec hL t with e1 | ⟨q0, e1, e2⟩
   · rw [e1]; exact .any _ _
   · exact Rel.fz (Le.of hle) hρ k1 hr (I.slot t) e1 (fun q hq => hps q (e2 q hq))
 · rcases hnew b o hb with q | q
   · exact q.2
   · exact I.hp b o q
 · obtain ⟨hik, x, q0, e1, e2, e3⟩ := m2 i y hy
   have H := I.blk i x e1
   have other : ∀ z, onlyB K z = true → BlkOk h ρ i z w → BlkOk h' ρ' i z w := fun z ho Hz => ((Hz.keep (Le.of hle) rfl (hle_refl _) (fun _ _ _ _ => rfl)).forget hρ hik ho)
   cases x with
   | cells cs =>
     simp only [fzB] at e2
     split at e2
     · rename_i cs' q2 hcs
       cases e2
       obtain ⟨b, vs, ty', z1, z2, z3, z4⟩ := H
       obtain ⟨l1, l2⟩ := fzL_get hcs
       refine ⟨b, vs, ty', (hρ i hik).trans z1, z2, by rw [z3, l1], fun j c u hc hu => ?_⟩
       obtain ⟨c0, q3, y1, y2, y3⟩ := l2 j c hc
       exact Rel.fz (Le.of hle) hρ k1 hr (z4 j c0 u y1 hu) y2 (fun q hq => hqs q (e3 q (y3 q hq)))
     · cases e2
   | _ =>
     simp only [fzB] at e2
     split at e2
     · rename_i ho
       cases e2
       exact other _ ho H
     · cases e2
 · cases hq : ρ' i with
   | none => rfl
   | some li =>
     have := m1 i (hρ' i li hq).1
     rw [hi] at this; cases this
 · obtain ⟨q3, q4⟩ := hρ' i li q1
   obtain ⟨z1, z2, z3⟩ := I.own i li b q4 q2
   refine ⟨?_, z2, z3⟩
   show (if v.ownBlock = some b then w.heap[b]? else h b) = none
   rw [if_neg (fun hv : v.ownBlock = some b => hidK ((I.inj i id li _ b q4 k1 q2 hv) ▸ q3))]
   exact z1
 · rcases hnew b o hb with q | q
   · exact absurd hlt (Nat.not_lt.2 (hge b q.1))
   · exact I.old b o q hlt
 · obtain ⟨X, x1, x2, x3⟩ := I.gst
   refine ⟨X, fun b ⟨i, li, q1, q2⟩ => x1 b ⟨i, li, (hρ' i li q1).2, q2⟩, fun b o hb => ?_, x3⟩
   rcases hnew b o hb with q | q
   · exact .inr (x1 b ⟨id, _, k1, q.1⟩)
   · exact x2 b o q
 · obtain ⟨Ds, hd1, hd2, hd3⟩ := I.dfr
   exact ⟨Ds, hd1, hd2, fun D hD => ⟨hle _ _ (hd3 D hD).1, (hd3 D hD).2⟩⟩
end
end Go.Av
end
/- Rows that grow, at loops: no rows as rows that are owned; what rows hold. -/
section
set_option linter.all false
namespace Go.Av
open Go.Sp
def setNilG : List AV → Nat → Nat → Option (List AV)
 | .nilS :: r, 0, id => some (.gb id 0 :: r)
 | x :: r, j + 1, id => match setNilG r j id with
   | some r' => some (x :: r')
   | none => none
 | _, _, _ => none
theorem setNilG_spec {id : Nat} : ∀ {cs cs' : List AV} {j : Nat}, setNilG cs j id = some cs' → cs'.length = cs.length ∧ ∀ (i : Nat) (c : AV), cs'[i]? = some c → cs[i]? = some c ∨ (c = .gb id 0 ∧ cs[i]? = some .nilS) := by
 intro cs
 induction cs with
 | nil => intro cs' j h; cases j <;> simp [setNilG] at h
 | cons x r ih =>
   intro cs' j h
   cases j with
   | zero =>
     cases x <;> simp only [setNilG] at h <;> cases h
     refine ⟨rfl, fun i c hc => ?_⟩
     cases i with
     | zero => simp at hc; subst hc; exact .inr ⟨rfl, rfl⟩
     | succ i => exact .inl (by simpa using hc)
   | succ j =>
     simp only [setNilG] at h
     split at h
     · rename_i r' hr
       cases h
       obtain ⟨h1, h2⟩ := ih hr
       refine ⟨by simp [h1], fun i c hc => ?_⟩
       cases i with
       | zero => exact .inl (by simpa using hc)
       | succ i => simpa using h2 i c (by simpa using hc)
     · cases h
section
variable {N : Nat} {C : Ctx} {L : List (Nat × AV)} {M : List (Nat × Blk)} {g : Nat}
theorem At.nilOwnCellG {R : Act → World → Prop} (i0 j0 id tS ty sz : Nat) {e : Nat → Nat → List AV} {m : Nat → Nat} {cs cs' : List AV} (hc : mm M i0 = some (.cells cs)) (hs : setNilG cs j0 id = some cs') (hid : mm M id = none) (K : At N C L ((i0, .cells cs') :: (id, .grid tS ty sz 0 m e) :: M) g R) : At N C L M g R := by
 intro h ρ a w I
 have hρ := I.dom id hid
 have hne0 : i0 ≠ id := by rintro rfl; rw [hc] at hid; cases hid
 have hle : ∀ i l, ρ i = some l → ∃ l', upd ρ id (some (.grid (.slice none 0 0) sz [])) i = some l' ∧ l.le l' := by
   intro i l hi
   have hne : i ≠ id := by rintro rfl; rw [hρ] at hi; cases hi
   exact ⟨l, by rw [upd_other _ _ hne]; exact hi, .inl rfl⟩
 have I' : InvH N C h (upd ρ id (some (.grid (.slice none 0 0) sz []))) (fr L) (mm ((id, .grid tS ty sz 0 m e) :: M)) g a w := by
   refine I.step (S := fun i => i = id) rfl rfl rfl (Nat.le_refl _) (fun _ _ _ => rfl) (fun i hi => upd_other _ _ hi) hle (fun _ _ h => h) (fun _ _ h => .inl h) (fun i hi => upd_other _ _ hi) ?_ ?_ ?_ ?_
   · rintro i rfl hM; simp only [mm] at hM; rw [upd_same] at hM; cases hM
   · rintro i y rfl hM; simp only [mm] at hM; rw [upd_same] at hM; cases hM
     exact ⟨.slice none 0 0, [], upd_same _ _ _, rfl, ⟨by simp, .inl ⟨rfl, rfl⟩⟩, fun j x hx => by simp at hx, fun j j' x x' b hx => by simp at hx, fun j x b hx => by simp at hx⟩
   · rintro i l b rfl h1 h2; rw [upd_same] at h1; cases h1; simp [LI.owns, Value.ownBlock] at h2
   · rintro i i' l l' b rfl rfl _ _ _ _; rfl
 refine K h _ a w { I' with blk := fun i x hx => ?_, dom := fun i hi => I'.dom i ?_ }
 · simp only [mm] at hx
   by_cases hi : i = i0
   · subst hi
     rw [upd_same] at hx; cases hx
     have hold : mm ((id, .grid tS ty sz 0 m e) :: M) i = some (.cells cs) := by simp only [mm]; rw [upd_other _ _ hne0]; exact hc
     obtain ⟨b, vs, ty', q1, q2, q3, q4⟩ := I'.blk i _ hold
     obtain ⟨s1, s2⟩ := setNilG_spec hs
     refine ⟨b, vs, ty', q1, q2, by rw [q3, s1], fun j c v hj hv => ?_⟩
     rcases s2 j c hj with e1 | ⟨rfl, e1⟩
     · exact q4 j c v e1 hv
     · have := q4 j _ v e1 hv
       cases this
       exact .gb _ _ _ _ _ (upd_same _ _ _) (fun v1 sz1 rows1 ee => by cases ee; exact ⟨Nat.le_refl _, fun _ => rfl⟩) rfl
   · rw [upd_other _ _ hi] at hx
     exact I'.blk i x hx
 · simp only [mm] at hi ⊢
   by_cases hi0 : i = i0
   · subst hi0; rw [upd_same] at hi; cases hi
   · rw [upd_other _ _ hi0] at hi; exact hi
end
theorem GSeg.one {T : Type} [Inhabited T] {f : T → List AV} {k : Nat} {e2 : Nat → List AV} {row : List T} (h : Seg f k e2 row) : GSeg f 1 (fun _ => k) (fun _ => e2) [row] := by
 obtain ⟨rfl, h2⟩ := h
 refine ⟨rfl, fun i hi => ?_, fun i j hi hj => ?_⟩
 · obtain rfl : i = 0 := by omega
   rfl
 · obtain rfl : i = 0 := by omega
   exact h2 j hj
theorem GSeg.push {T : Type} [Inhabited T] {f : T → List AV} {n n2 : Nat} {m m2 : Nat → Nat} {e e2 : Nat → Nat → List AV} {l l2 : List (List T)} (h : GSeg f n m e l) (h2 : GSeg f n2 m2 e2 l2) :
   GSeg f (n + n2) (fun a => if a < n then m a else m2 (a - n)) (fun a => if a < n then e a else e2 (a - n)) (l ++ l2) := by
 obtain ⟨rfl, g1, g2⟩ := h
 obtain ⟨rfl, k1, k2⟩ := h2
 refine ⟨by simp, fun i hi => ?_, fun i j hi hj => ?_⟩
 · by_cases hl : i < l.length
   · simp only [hl, if_true]; rw [g1 i hl]; simp [List.getD_eq_getElem?_getD, List.getElem?_append_left hl]
   · simp only [hl, if_false]; rw [k1 _ (by omega)]; simp [List.getD_eq_getElem?_getD, List.getElem?_append_right (Nat.le_of_not_lt hl)]
 · by_cases hl : i < l.length
   · simp only [hl, if_true] at hj ⊢; rw [g2 i j hl hj]; simp [List.getD_eq_getElem?_getD, List.getElem?_append_left hl]
   · simp only [hl, if_false] at hj ⊢; rw [k2 _ j (by omega) hj]; simp [List.getD_eq_getElem?_getD, List.getElem?_append_right (Nat.le_of_not_lt hl)]
end Go.Av
end
/- slices.Insert of one element into an owned row, out of walks of its body (which a claim prints for its program). -/
section
set_option linter.all false
namespace Go.Av
open Go Go.Lib
theorem run_copy_row_k {P : Program} (w : World) (dT sT ty elem : TypeId) (k g o dLen dCap : Nat) (a : Addr) (sLen sCap : Nat) (cur : Array Value) (t : TypeId) (cs : List Value)
   (hu : P.underlying dT = some (.slice elem)) (hs : (P.info? elem).map (·.size) = some k)
   (hg : w.heap[g]? = some (.cells cur t (0, 0))) (hn : cs.length = Nat.min sLen dLen * k)
   (hsrc : ∀ j v, cs[j]? = some v → w.cell? (a.add j) = some v) (hfit : o + cs.length ≤ cur.size) (h1 : ∀ v ∈ cs, v.oneCell' = true) :
   (Builtin.copy_ #[dT, sT] ty #[.slice (some ⟨g, o, none⟩) dLen dCap, .slice (some a) sLen sCap]).run P w =
     .ok (goInt (Nat.min sLen dLen)) (w.setRow g (cur.toList.take o ++ cs ++ cur.toList.drop (o + cs.length)).toArray) := by
 have hl := run_loadCells_list (P := P) w a cs hsrc
 have hst := run_storeCells_at P g o t cs 0 cur w hg (by simpa using hfit) h1
 cases hq : P.info? elem with
 | none => simp [hq] at hs
 | some i =>
   have hi : i.size = k := by simpa [hq] using hs
   simp [Builtin.copy_, run_underlying hu, Builtin.lenOf, Builtin.firstCells, sizeOf, typeInfo, hq, hi, ← hn, hl, hst]
structure InsW (P : Program) (f tS tI fo sz : Nat) : Prop where
 shift : ∀ (g n c i vb vc : Nat) (w W1 W2 : World), i < n → n + 1 ≤ c → c ≤ 9223372036854775807 →
   (∀ lb cb o, (callFunc fo #[.slice (some ⟨vb, 0, none⟩) 1 vc, .slice (some ⟨g, o, none⟩) lb cb]).run P w = .ok (.value (.bool false)) w) →
   (∀ ty dc sc, (Builtin.copy_ #[tS, tS] ty #[.slice (some ⟨g, (i + 1) * sz, none⟩) (n - i) dc, .slice (some ⟨g, i * sz, none⟩) (n + 1 - i) sc]).run P w.drew = .ok (goInt (n - i)) W1) →
   (∀ ty dc, (Builtin.copy_ #[tS, tS] ty #[.slice (some ⟨g, i * sz, none⟩) (n + 1 - i) dc, .slice (some ⟨vb, 0, none⟩) 1 vc]).run P W1 = .ok (goInt 1) W2) →
   Calls P f #[.slice (some ⟨g, 0, none⟩) n c, .int .i64 i, .slice (some ⟨vb, 0, none⟩) 1 vc] w fun e w' => e = .returned (.slice (some ⟨g, 0, none⟩) (n + 1) c) ∧ w' = W2
 end_ : ∀ (g n c vb vc : Nat) (w : World) (v' : Value) (w' : World), n ≤ c → c ≤ 9223372036854775807 →
   (∀ ty, (Builtin.append_ #[tS, tS] ty #[.slice (some ⟨g, 0, none⟩) n c, .slice (some ⟨vb, 0, none⟩) 1 vc]).run P w = .ok v' w') →
   Calls P f #[.slice (some ⟨g, 0, none⟩) n c, .int .i64 n, .slice (some ⟨vb, 0, none⟩) 1 vc] w fun e w2 => e = .returned v' ∧ w2 = w'
 nil_ : ∀ (vb vc : Nat) (w : World) (v' : Value) (w' : World),
   (∀ ty, (Builtin.append_ #[tS, tS] ty #[.slice none 0 0, .slice (some ⟨vb, 0, none⟩) 1 vc]).run P w = .ok v' w') →
   Calls P f #[.slice none 0 0, .int .i64 0, .slice (some ⟨vb, 0, none⟩) 1 vc] w fun e w2 => e = .returned v' ∧ w2 = w'
 grow : ∀ (g n c i vb vc g2 c2 : Nat) (w W1 W2 W3 : World), i < n → n ≤ c → c < n + 1 → n + 1 ≤ 9223372036854775807 → n + 1 ≤ c2 → c2 ≤ 9223372036854775807 →
   (∀ ty, (Builtin.append_ #[tS, tI] ty #[.slice (some ⟨g, 0, none⟩) i c, .int .i64 ((n : Int) + 1 - (i : Int))]).run P w = .ok (.slice (some ⟨g2, 0, none⟩) (n + 1) c2) W1) →
   (∀ ty dc, (Builtin.copy_ #[tS, tS] ty #[.slice (some ⟨g2, i * sz, none⟩) (n + 1 - i) dc, .slice (some ⟨vb, 0, none⟩) 1 vc]).run P W1 = .ok (goInt 1) W2) →
   (∀ ty dc sc, (Builtin.copy_ #[tS, tS] ty #[.slice (some ⟨g2, (i + 1) * sz, none⟩) (n - i) dc, .slice (some ⟨g, i * sz, none⟩) (n - i) sc]).run P W2.drew = .ok (goInt (n - i)) W3) →
   Calls P f #[.slice (some ⟨g, 0, none⟩) n c, .int .i64 i, .slice (some ⟨vb, 0, none⟩) 1 vc] w fun e w' => e = .returned (.slice (some ⟨g2, 0, none⟩) (n + 1) c2) ∧ w' = W3
def InsPost (w : World) (e sz : Nat) (v : Value) (n : Nat) (ys : List Value) (en : Ending) (w' : World) : Prop :=
 ∃ v', en = .returned v' ∧ w'.ownsRow 0 e sz v' (n + 1) ys ∧ w.grownBy w' v.ownBlock ∧ ∀ b, v'.ownBlock = some b → v.ownBlock = some b ∨ w.heap.size ≤ b
theorem own_cells {w : World} {e sz n cap g : Nat} {xs : List Value} (h : w.ownsRow 0 e sz (.slice (some ⟨g, 0, none⟩) n cap) n xs) (k : Nat) : ∀ j u, (xs.drop k)[j]? = some u → w.cell? ((⟨g, k, none⟩ : Addr).add j) = some u := by
 intro j u hu
 rw [List.getElem?_drop] at hu
 have := h.cells (g := g) rfl (k + j) u hu
 rw [Addr.add_lit] at this ⊢
 rwa [Nat.zero_add] at this
theorem insert_end {P : Program} {f tS tI fo sz bytes e : Nat} (W : InsW P f tS tI fo sz) (ht : P.underlying tS = some (.slice e)) {inf : TypeInfo} {z : Value} (hi : P.info? e = some inf) (hz : inf.zero = some z)
   (hsize : inf.size = sz) (hby : inf.bytes = bytes) (hzs : z.cells.size = sz) (hsz : 0 < sz) {w : World} {v : Value} {n : Nat} {xs news : List Value} {vb vc : Nat}
   (hown : w.ownsRow 0 e sz v n xs) (hu : w.ownsRow 0 e sz (.slice (some ⟨vb, 0, none⟩) 1 vc) 1 news) (h1 : ∀ x ∈ news, x.oneCell' = true) (hb : (n + 1) * bytes ≤ 140737488355328) (h63 : n + 1 ≤ maxLen) :
   Calls P f #[v, .int .i64 n, .slice (some ⟨vb, 0, none⟩) 1 vc] w (InsPost w e sz v n (xs ++ news)) := by
 have hc := own_cells hu 0
 rw [List.drop_zero] at hc
 obtain ⟨v', w', r1, r2, r3, _, r5⟩ := run_append_own_at (P := P) w 0 tS 0 e inf z sz bytes ht hi hz hsize hby hzs hsz v n xs hown ⟨vb, 0, none⟩ 1 vc news (by rw [hu.1]) hc h1 h63 hb (Nat.zero_le _)
 have post : InsPost w e sz v n (xs ++ news) (.returned v') w' := by
   refine ⟨v', rfl, r2, r3, fun b hb => ?_⟩
   rcases r5 with q | q
   · exact .inl (q ▸ hb)
   · rw [q] at hb; cases hb; exact .inr (Nat.le_refl _)
 rcases hown.2 with ⟨rfl, rfl⟩ | ⟨g, cap, cur, rfl, _, hg, hnc, hcm, hcs, htake⟩
 · exact (W.nil_ vb vc w v' w' (fun ty => r1)).mono (fun en w2 h => by obtain ⟨rfl, rfl⟩ := h; exact post)
 · exact (W.end_ g n cap vb vc w v' w' hnc (by unfold maxLen at hcm; omega) (fun ty => r1)).mono (fun en w2 h => by obtain ⟨rfl, rfl⟩ := h; exact post)
theorem list_ins {A news : List Value} {a b N : Nat} (ha : a ≤ N) (hN : N + b ≤ A.length) (hn : news.length = b) :
   let X := (A.take N).drop a
   let c1 := A.take (a + b) ++ X ++ A.drop (a + b + X.length)
   let c2 := c1.take a ++ news ++ c1.drop (a + news.length)
   c1.length = A.length ∧ c2.length = A.length ∧ c2.take (N + b) = (A.take N).take a ++ news ++ (A.take N).drop a := by
 intro X c1 c2
 have hX : X.length = N - a := by simp only [X, List.length_drop, List.length_take]; omega
 have h1 : c1.length = A.length := by simp only [c1, List.length_append, List.length_take, List.length_drop, hX]; omega
 have hta : (A.take (a + b)).length = a + b := by rw [List.length_take]; omega
 have e1 : c1.take a = A.take a := by
   simp only [c1]
   rw [List.append_assoc, List.take_append_of_le_length (by omega), List.take_take]
   congr 1; omega
 have e2 : c1.drop (a + news.length) = X ++ A.drop (a + b + X.length) := by
   simp only [c1]
   rw [hn, List.append_assoc, List.drop_append_of_le_length (by omega), List.drop_of_length_le (by omega), List.nil_append]
 have ec2 : c2 = A.take a ++ news ++ (X ++ A.drop (a + b + X.length)) := by simp only [c2]; rw [e1, e2]
 have hla : (A.take a).length = a := by rw [List.length_take]; omega
 refine ⟨h1, ?_, ?_⟩
 · rw [ec2]; simp only [List.length_append, List.length_drop, hX, hn, hla]; omega
 · rw [ec2, ← List.append_assoc, List.take_append_of_le_length (by simp only [List.length_append, hX, hn, hla]; omega), List.take_of_length_le (by simp only [List.length_append, hX, hn, hla]; omega), List.take_take]
   congr 3; omega
theorem setRow_size (w : World) (g : Nat) (c : Array Value) : (w.setRow g c).heap.size = w.heap.size ∧ (w.setRow g c).os = w.os ∧ (w.setRow g c).tape = w.tape ∧ (w.setRow g c).output = w.output := by
 exact ⟨by simp [World.setRow], rfl, rfl, rfl⟩
theorem insert_shift {P : Program} {f tS tI fo sz e : Nat} (W : InsW P f tS tI fo sz) (ht : P.underlying tS = some (.slice e)) (hs : (P.info? e).map (·.size) = some sz)
   {w : World} {g n cap i : Nat} {xs news : List Value} {vb vc : Nat} (hi : i < n) (hroom : n + 1 ≤ cap) (hvb : vb ≠ g)
   (hov : ∀ lb cb o, (callFunc fo #[.slice (some ⟨vb, 0, none⟩) 1 vc, .slice (some ⟨g, o, none⟩) lb cb]).run P w = .ok (.value (.bool false)) w)
   (hown : w.ownsRow 0 e sz (.slice (some ⟨g, 0, none⟩) n cap) n xs) (hu : w.ownsRow 0 e sz (.slice (some ⟨vb, 0, none⟩) 1 vc) 1 news) (h0 : ∀ x ∈ xs, x.oneCell' = true) (h1 : ∀ x ∈ news, x.oneCell' = true) :
   Calls P f #[.slice (some ⟨g, 0, none⟩) n cap, .int .i64 i, .slice (some ⟨vb, 0, none⟩) 1 vc] w (InsPost w e sz (.slice (some ⟨g, 0, none⟩) n cap) n (xs.take (i * sz) ++ news ++ xs.drop (i * sz))) := by
 rcases hown.2 with ⟨hv, _⟩ | ⟨g', cap', cur, hv, _, hg, hnc, hcm, hcs, htake⟩
 · cases hv
 cases hv
 have hnl : news.length = sz := by have := hu.1; omega
 have hA : cur.toList.length = cap * sz := by rw [Array.length_toList]; exact hcs
 have m1 : (i + 1) * sz = i * sz + sz := by rw [Nat.add_mul, Nat.one_mul]
 have m2 : (n + 1) * sz = n * sz + sz := by rw [Nat.add_mul, Nat.one_mul]
 have m3 : i * sz ≤ n * sz := Nat.mul_le_mul_right _ (by omega)
 have m4 : (n + 1) * sz ≤ cap * sz := Nat.mul_le_mul_right _ hroom
 have m5 : (n - i) * sz = n * sz - i * sz := Nat.sub_mul _ _ _
 obtain ⟨q1, q2, q3⟩ := list_ins (A := cur.toList) (news := news) (a := i * sz) (b := sz) (N := n * sz) m3 (by omega) hnl
 rw [htake] at q1 q2 q3
 have hXl : (xs.drop (i * sz)).length = (n - i) * sz := by rw [List.length_drop, hown.1, m5]
 have r1 : ∀ ty dc sc, (Builtin.copy_ #[tS, tS] ty #[.slice (some ⟨g, (i + 1) * sz, none⟩) (n - i) dc, .slice (some ⟨g, i * sz, none⟩) (n + 1 - i) sc]).run P w.drew = .ok (goInt ((n : Int) - i)) (w.drew.setRow g (cur.toList.take (i * sz + sz) ++ xs.drop (i * sz) ++ cur.toList.drop (i * sz + sz + (xs.drop (i * sz)).length)).toArray) := fun ty dc sc => by
   have := run_copy_row_k (P := P) w.drew tS tS ty e sz g ((i + 1) * sz) (n - i) dc ⟨g, i * sz, none⟩ (n + 1 - i) sc cur e (xs.drop (i * sz)) ht hs hg
     (by rw [hXl]; congr 1; simp only [Nat.min_def]; split <;> omega) (own_cells hown (i * sz)) (by rw [hXl, ← Array.length_toList, hA]; omega) (fun v hv => h0 v (List.mem_of_mem_drop hv))
   have em : Nat.min (n + 1 - i) (n - i) = n - i := by simp only [Nat.min_def]; split <;> omega
   rw [em, m1] at this
   have ei : ((n - i : Nat) : Int) = (n : Int) - i := by omega
   rw [ei] at this
   rw [m1]; exact this
 have hg1 := setRow_heap w.drew g cur (cur.toList.take (i * sz + sz) ++ xs.drop (i * sz) ++ cur.toList.drop (i * sz + sz + (xs.drop (i * sz)).length)).toArray e (0, 0) hg
 have hc := own_cells hu 0
 rw [List.drop_zero] at hc
 generalize hW1 : w.drew.setRow g (cur.toList.take (i * sz + sz) ++ xs.drop (i * sz) ++ cur.toList.drop (i * sz + sz + (xs.drop (i * sz)).length)).toArray = W1 at r1 hg1
 have hoth : ∀ k, k ≠ g → W1.heap[k]? = w.heap[k]? := fun k hk => by rw [← hW1]; exact setRow_other w.drew g k _ hk
 have r2 : ∀ ty dc, (Builtin.copy_ #[tS, tS] ty #[.slice (some ⟨g, i * sz, none⟩) (n + 1 - i) dc, .slice (some ⟨vb, 0, none⟩) 1 vc]).run P W1 = .ok (goInt 1) _ := fun ty dc => by
   have := run_copy_row_k (P := P) W1 tS tS ty e sz g (i * sz) (n + 1 - i) dc ⟨vb, 0, none⟩ 1 vc _ e news ht hs hg1
     (by rw [hnl]; have : Nat.min 1 (n + 1 - i) = 1 := by simp only [Nat.min_def]; split <;> omega
         rw [this, Nat.one_mul]) (fun j u hj => by
           have := hc j u hj
           rw [Addr.add_lit] at this ⊢
           rw [World.cell?_of_block (w := w) (w' := W1) (hoth vb hvb)]; exact this) (by rw [List.size_toArray, q1, hA, hnl]; omega) h1
   have em : Nat.min 1 (n + 1 - i) = 1 := by simp only [Nat.min_def]; split <;> omega
   rw [em] at this
   exact this
 refine (W.shift g n cap i vb vc w W1 _ hi hroom (by unfold maxLen at hcm; omega) hov r1 r2).mono (fun en w2 h => ?_)
 obtain ⟨rfl, rfl⟩ := h
 have z1 := setRow_size w.drew g (cur.toList.take (i * sz + sz) ++ xs.drop (i * sz) ++ cur.toList.drop (i * sz + sz + (xs.drop (i * sz)).length)).toArray
 rw [hW1] at z1
 refine ⟨_, rfl, ⟨?_, .inr ⟨g, cap, _, rfl, Nat.zero_le _, setRow_heap W1 g _ _ e (0, 0) hg1, hroom, hcm, ?_, ?_⟩⟩, ?_, fun b hb => .inl hb⟩
 · simp only [List.length_append, List.length_take, List.length_drop, hown.1, hnl]; omega
 · rw [List.size_toArray]; simp only [List.toList_toArray] at q2 ⊢; rw [q2, hA]
 · rw [m2]; simp only [List.toList_toArray] at q3 ⊢; exact q3
 · have z2 := setRow_size W1 g (((cur.toList.take (i * sz + sz) ++ xs.drop (i * sz) ++ cur.toList.drop (i * sz + sz + (xs.drop (i * sz)).length)).toArray.toList.take (i * sz)) ++ news ++ ((cur.toList.take (i * sz + sz) ++ xs.drop (i * sz) ++ cur.toList.drop (i * sz + sz + (xs.drop (i * sz)).length)).toArray.toList.drop (i * sz + news.length))).toArray
   exact ⟨z2.2.1.trans z1.2.1, z2.2.2.1.trans z1.2.2.1, z2.2.2.2.trans z1.2.2.2, Nat.le_of_eq (z2.1.trans z1.1).symm, fun k _ hk => (setRow_other W1 g k _ (fun ee => hk (by rw [ee]; rfl))).trans (hoth k (fun ee => hk (by rw [ee]; rfl)))⟩
theorem list_grow {A news X : List Value} {a b N : Nat} (ha : a ≤ N) (hN : N + b ≤ A.length) (hn : news.length = b) (hX : X.length = N - a) :
   let c1 := A.take a ++ news ++ A.drop (a + news.length)
   let c2 := c1.take (a + b) ++ X ++ c1.drop (a + b + X.length)
   c1.length = A.length ∧ c2.length = A.length ∧ c2.take (N + b) = A.take a ++ news ++ X := by
 intro c1 c2
 have hla : (A.take a).length = a := by rw [List.length_take]; omega
 have h1 : c1.length = A.length := by simp only [c1, List.length_append, List.length_drop, hla, hn]; omega
 have e1 : c1.take (a + b) = A.take a ++ news := by
   simp only [c1]
   rw [List.take_append_of_le_length (by rw [List.length_append, hla, hn]; exact Nat.le_refl _), List.take_of_length_le (by rw [List.length_append, hla, hn]; exact Nat.le_refl _)]
 have ec2 : c2 = A.take a ++ news ++ X ++ c1.drop (a + b + X.length) := by simp only [c2]; rw [e1]
 refine ⟨h1, ?_, ?_⟩
 · rw [ec2]; simp only [List.length_append, List.length_drop, hX, hn, hla, h1]; omega
 · rw [ec2, List.take_append_of_le_length (by simp only [List.length_append, hX, hn, hla]; omega), List.take_of_length_le (by simp only [List.length_append, hX, hn, hla]; omega)]
theorem insert_grow {P : Program} {f tS tI fo sz e bytes : Nat} (W : InsW P f tS tI fo sz) (ht : P.underlying tS = some (.slice e)) (htI : P.underlying tI = some (.int .i64)) {inf : TypeInfo} {z : Value} (hi : P.info? e = some inf) (hz : inf.zero = some z)
   (hsize : inf.size = sz) (hby : inf.bytes = bytes) (hzs : z.cells.size = sz) (hsz : 0 < sz)
   {w : World} {g n cap i : Nat} {xs news : List Value} {vb vc : Nat} (hin : i < n) (hroom : cap < n + 1) (hb : (n + 1) * bytes ≤ 140737488355328) (h63 : n + 1 ≤ maxLen)
   (hown : w.ownsRow 0 e sz (.slice (some ⟨g, 0, none⟩) n cap) n xs) (hu : w.ownsRow 0 e sz (.slice (some ⟨vb, 0, none⟩) 1 vc) 1 news) (h0 : ∀ x ∈ xs, x.oneCell' = true) (h1 : ∀ x ∈ news, x.oneCell' = true) :
   Calls P f #[.slice (some ⟨g, 0, none⟩) n cap, .int .i64 i, .slice (some ⟨vb, 0, none⟩) 1 vc] w (InsPost w e sz (.slice (some ⟨g, 0, none⟩) n cap) n (xs.take (i * sz) ++ news ++ xs.drop (i * sz))) := by
 subst hsize hby
 have hs : (P.info? e).map (·.size) = some inf.size := by rw [hi]; rfl
 have hgs := (hown.lt g rfl).2
 have hvs := (hu.lt vb rfl).2
 have hown' := hown
 rcases hown.2 with ⟨hv, _⟩ | ⟨g', cap', cur, hv, _, hg, hnc, hcm, hcs, htake⟩
 · cases hv
 cases hv
 have hnl : news.length = inf.size := by have := hu.1; omega
 have m1 : (i + 1) * inf.size = i * inf.size + inf.size := by rw [Nat.add_mul, Nat.one_mul]
 have m2 : (n + 1) * inf.size = n * inf.size + inf.size := by rw [Nat.add_mul, Nat.one_mul]
 have m3 : i * inf.size ≤ n * inf.size := Nat.mul_le_mul_right _ (by omega)
 have m5 : (n - i) * inf.size = n * inf.size - i * inf.size := Nat.sub_mul _ _ _
 have hXl : (xs.drop (i * inf.size)).length = (n - i) * inf.size := by rw [List.length_drop, hown.1, m5]
 have hol : (xs.take (i * inf.size)).length = i * inf.size := by rw [List.length_take, hown.1]; omega
 have hold : (Builtin.firstCells inf.size i (.slice (some ⟨g, 0, none⟩) i cap)).run P w.drew = .ok (xs.take (i * inf.size)).toArray w.drew :=
   run_firstCells_some (P := P) w.drew inf.size i ⟨g, 0, none⟩ i cap (xs.take (i * inf.size)) hol (fun j v hj => by
     rw [List.getElem?_take] at hj
     split at hj
     · exact own_cells hown 0 j v (by rw [List.drop_zero]; exact hj)
     · cases hj)
 have hkk : (n : Int) + 1 - (i : Int) = ((n + 1 - i : Nat) : Int) := by omega
 have hik : i + (n + 1 - i) = n + 1 := by omega
 have hfit : Builtin.nextslicecap (n + 1) cap * inf.bytes ≤ 281474976710656 := growslice_fits hroom hb
 have r0 : ∀ ty, (Builtin.append_ #[tS, tI] ty #[.slice (some ⟨g, 0, none⟩) i cap, .int .i64 ((n : Int) + 1 - (i : Int))]).run P w = .ok (.slice (some ⟨w.heap.size, 0, none⟩) (n + 1) (grownCap w (n + 1) cap e)) _ := fun ty => by
   have h := Lib.run_append_grow_zeros w tS tI ty e inf z .i64 .i64 ht htI hi hz (some ⟨g, 0, none⟩) i cap (xs.take (i * inf.size)) hold (n + 1 - i) (by omega) hsz (by omega) (by unfold maxLen at h63; omega)
     (by have : (n + 1 - i) * inf.bytes ≤ (n + 1) * inf.bytes := Nat.mul_le_mul_right _ (by omega)
         omega) (by rw [hik]; exact hfit)
   rw [hik] at h
   rw [hkk]
   exact h
 generalize hG : grownCap w (n + 1) cap e = G at r0
 have hGn : n + 1 ≤ G := by rw [← hG]; exact grownCap_ge w _ _ _
 have hGm : G ≤ maxLen := by rw [← hG]; exact grownCap_le_maxLen w (n + 1) cap e h63
 generalize hR : (xs.take (i * inf.size)).toArray ++ Builtin.zeroCells z.cells (n + 1 - i) ++ Builtin.zeroCells z.cells (G - (n + 1)) = R at r0
 have hRs : R.size = G * inf.size := by
   rw [← hR]
   simp only [Array.size_append, List.size_toArray, size_zeroCells, hzs, hol, ← Nat.add_mul]
   congr 1; omega
 have hRt : R.toList.take (i * inf.size) = xs.take (i * inf.size) := by
   rw [← hR, Array.toList_append, Array.toList_append, List.append_assoc, List.toList_toArray, List.take_append_of_le_length (by omega), List.take_of_length_le (by omega)]
 have m4 : (n + 1) * inf.size ≤ G * inf.size := Nat.mul_le_mul_right _ hGn
 have hRl : R.toList.length = G * inf.size := by rw [Array.length_toList]; exact hRs
 obtain ⟨q1, q2, q3⟩ := list_grow (A := R.toList) (news := news) (X := xs.drop (i * inf.size)) (a := i * inf.size) (b := inf.size) (N := n * inf.size) m3 (by omega) hnl (by rw [hXl, m5])
 rw [hRt] at q1 q2 q3
 have hg1 : (w.drew.alloc (.cells R e)).heap[w.heap.size]? = some (.cells R e (0, 0)) := heap_alloc_new w.drew _
 have ho1 : ∀ k, k < w.heap.size → (w.drew.alloc (.cells R e)).heap[k]? = w.heap[k]? := fun k hk => heap_alloc_old w.drew _ hk
 generalize hW1 : w.drew.alloc (.cells R e) = W1 at r0 hg1 ho1
 have hc := own_cells hu 0
 rw [List.drop_zero] at hc
 have r1 : ∀ ty dc, (Builtin.copy_ #[tS, tS] ty #[.slice (some ⟨w.heap.size, i * inf.size, none⟩) (n + 1 - i) dc, .slice (some ⟨vb, 0, none⟩) 1 vc]).run P W1 = .ok (goInt 1) (W1.setRow w.heap.size (xs.take (i * inf.size) ++ news ++ R.toList.drop (i * inf.size + news.length)).toArray) := fun ty dc => by
   have em : Nat.min 1 (n + 1 - i) = 1 := by simp only [Nat.min_def]; split <;> omega
   have := run_copy_row_k (P := P) W1 tS tS ty e inf.size w.heap.size (i * inf.size) (n + 1 - i) dc ⟨vb, 0, none⟩ 1 vc R e news ht hs hg1
     (by rw [hnl, em, Nat.one_mul]) (fun j u hj => by
       have := hc j u hj
       rw [Addr.add_lit] at this ⊢
       rw [World.cell?_of_block (w := w) (w' := W1) (ho1 vb hvs)]; exact this) (by rw [hRs, hnl]; omega) h1
   rw [em, hRt] at this
   exact this
 have hg2 := setRow_heap W1 w.heap.size R (xs.take (i * inf.size) ++ news ++ R.toList.drop (i * inf.size + news.length)).toArray e (0, 0) hg1
 have ho2 : ∀ k, k < w.heap.size → (W1.setRow w.heap.size (xs.take (i * inf.size) ++ news ++ R.toList.drop (i * inf.size + news.length)).toArray).heap[k]? = w.heap[k]? := fun k hk => (setRow_other W1 w.heap.size k _ (by omega)).trans (ho1 k hk)
 have z2 := setRow_size W1 w.heap.size (xs.take (i * inf.size) ++ news ++ R.toList.drop (i * inf.size + news.length)).toArray
 generalize hW2 : W1.setRow w.heap.size (xs.take (i * inf.size) ++ news ++ R.toList.drop (i * inf.size + news.length)).toArray = W2 at r1 hg2 ho2 z2
 have r2 : ∀ ty dc sc, (Builtin.copy_ #[tS, tS] ty #[.slice (some ⟨w.heap.size, (i + 1) * inf.size, none⟩) (n - i) dc, .slice (some ⟨g, i * inf.size, none⟩) (n - i) sc]).run P W2.drew = .ok (goInt ((n : Int) - i)) _ := fun ty dc sc => by
   have em : Nat.min (n - i) (n - i) = n - i := by simp only [Nat.min_def]; split <;> omega
   have := run_copy_row_k (P := P) W2.drew tS tS ty e inf.size w.heap.size ((i + 1) * inf.size) (n - i) dc ⟨g, i * inf.size, none⟩ (n - i) sc _ e (xs.drop (i * inf.size)) ht hs hg2
     (by rw [hXl, em]) (fun j u hj => by
       have := own_cells hown (i * inf.size) j u hj
       rw [Addr.add_lit] at this ⊢
       rw [World.cell?_of_block (w := w) (w' := W2.drew) (ho2 g hgs)]; exact this) (by rw [List.size_toArray, q1, hRl, hXl]; omega) (fun v hv => h0 v (List.mem_of_mem_drop hv))
   have ei : ((n - i : Nat) : Int) = (n : Int) - i := by omega
   rw [em, ei] at this
   exact this
 refine (W.grow g n cap i vb vc w.heap.size G w W1 W2 _ hin hnc hroom (by unfold maxLen at h63; omega) hGn (by unfold maxLen at hGm; omega) r0 r1 r2).mono (fun en w2 h => ?_)
 obtain ⟨rfl, rfl⟩ := h
 rw [m1]
 refine ⟨_, rfl, ⟨?_, .inr ⟨w.heap.size, G, _, rfl, Nat.zero_le _, setRow_heap W2.drew _ _ _ e (0, 0) hg2, hGn, hGm, ?_, ?_⟩⟩, ?_, fun b hb => by cases hb; exact .inr (Nat.le_refl _)⟩
 · simp only [List.length_append, List.length_take, List.length_drop, hown.1, hnl]; omega
 · rw [List.size_toArray]; simp only [List.toList_toArray] at q2 ⊢; rw [q2, hRl]
 · rw [m2]; simp only [List.toList_toArray] at q3 ⊢; exact q3
 · have z3 := setRow_size W2.drew w.heap.size ((xs.take (i * inf.size) ++ news ++ R.toList.drop (i * inf.size + news.length)).toArray.toList.take (i * inf.size + inf.size) ++ xs.drop (i * inf.size) ++ (xs.take (i * inf.size) ++ news ++ R.toList.drop (i * inf.size + news.length)).toArray.toList.drop (i * inf.size + inf.size + (xs.drop (i * inf.size)).length)).toArray
   have y1 : W1.os = w.os ∧ W1.tape = w.tape ∧ W1.output = w.output ∧ w.heap.size ≤ W1.heap.size := by rw [← hW1]; exact ⟨rfl, rfl, rfl, by simp⟩
   exact ⟨z3.2.1.trans (z2.2.1.trans y1.1), z3.2.2.1.trans (z2.2.2.1.trans y1.2.1), z3.2.2.2.trans (z2.2.2.2.trans y1.2.2.1), Nat.le_trans y1.2.2.2 (Nat.le_of_eq (z3.1.trans z2.1).symm), fun k hk _ => (setRow_other W2.drew w.heap.size k _ (by omega)).trans (ho2 k hk)⟩
theorem overlaps_own {P : Program} {tS tB e : TypeId} {sz : Nat} (ht : P.underlying tS = some (.slice e)) {inf : TypeInfo} (hi : P.info? e = some inf) (hsize : inf.size = sz)
   {w : World} {g n cap vb vc : Nat} {xs news : List Value} (hvb : vb ≠ g) (hpos : 0 < cap * sz)
   (hown : w.ownsRow 0 e sz (.slice (some ⟨g, 0, none⟩) n cap) n xs) (hu : w.ownsRow 0 e sz (.slice (some ⟨vb, 0, none⟩) 1 vc) 1 news) (o lb cb : Nat) :
   (Extern.SlicesOverlaps.overlaps #[tS, tS] #[tB] #[.slice (some ⟨vb, 0, none⟩) 1 vc, .slice (some ⟨g, o, none⟩) lb cb]).run P w = .ok (.bool false) w := by
 rcases hown.2 with ⟨hv, _⟩ | ⟨g', cap', cur, hv, _, hg, hnc, hcm, hcs, htake⟩
 · cases hv
 cases hv
 rcases hu.2 with ⟨hv, _⟩ | ⟨g', cap', cur', hv, _, hg', _, _, _, _⟩
 · cases hv
 cases hv
 exact Lib.run_overlaps_apart w tS tB e ht sz (fun w => by simp [sizeOf, typeInfo, hi, hsize]) ⟨vb, 0, none⟩ ⟨g, o, none⟩ 1 vc lb cb hvb e e cur'.size cur.size
   (by simp [World.shape?, hg']) (by simp [World.shape?, hg]) (by omega) (by simp [World.frozen?, hg']) (by simp [World.frozen?, hg'])
theorem insert_own {P : Program} {f tS tI tB fo sz e bytes : Nat} (W : InsW P f tS tI fo sz)
   (hfo : ∀ (w : World) (a b : Value), (Extern.SlicesOverlaps.overlaps #[tS, tS] #[tB] #[a, b]).run P w = .ok (.bool false) w → (callFunc fo #[a, b]).run P w = .ok (.value (.bool false)) w)
   (ht : P.underlying tS = some (.slice e)) (htI : P.underlying tI = some (.int .i64)) {inf : TypeInfo} {z : Value} (hi : P.info? e = some inf) (hz : inf.zero = some z)
   (hsize : inf.size = sz) (hby : inf.bytes = bytes) (hzs : z.cells.size = sz) (hsz : 0 < sz)
   {w : World} {v u : Value} {n i : Nat} {xs news : List Value} (hin : i ≤ n) (hb : (n + 1) * bytes ≤ 140737488355328) (h63 : n + 1 ≤ maxLen)
   (hown : w.ownsRow 0 e sz v n xs) (hu : w.ownsRow 0 e sz u 1 news) (hne : ∀ b, v.ownBlock = some b → u.ownBlock ≠ some b) (h0 : ∀ x ∈ xs, x.oneCell' = true) (h1 : ∀ x ∈ news, x.oneCell' = true) :
   Calls P f #[v, .int .i64 i, u] w (InsPost w e sz v n (xs.take (i * sz) ++ news ++ xs.drop (i * sz))) := by
 rcases hu.2 with ⟨_, h⟩ | ⟨vb, vc, cur', rfl, _, hg', _, _, _, _⟩
 · cases h
 by_cases hin' : i = n
 · subst hin'
   have e1 : xs.take (i * sz) ++ news ++ xs.drop (i * sz) = xs ++ news := by
     rw [List.take_of_length_le (by rw [hown.1]; exact Nat.le_refl _), List.drop_of_length_le (by rw [hown.1]; exact Nat.le_refl _), List.append_nil]
   rw [e1]
   exact insert_end W ht hi hz hsize hby hzs hsz hown hu h1 hb h63
 · have hown' := hown
   rcases hown.2 with ⟨_, h⟩ | ⟨g, cap, cur, rfl, _, hg, hnc, hcm, hcs, htake⟩
   · omega
   have hvb : vb ≠ g := fun ee => hne g rfl (by rw [ee]; rfl)
   by_cases hroom : n + 1 ≤ cap
   · exact insert_shift W ht (by rw [hi]; exact congrArg some hsize) (by omega) hroom hvb (fun lb cb o => hfo w _ _ (overlaps_own ht hi hsize hvb (Nat.mul_pos (by omega) hsz) hown' hu o lb cb)) hown' hu h0 h1
   · exact insert_grow W ht htI hi hz hsize hby hzs hsz (by omega) (by omega) hb h63 hown' hu h0 h1
theorem ins_cell {xs news : List Value} {sz n i k j : Nat} (hx : xs.length = n * sz) (hn : news.length = sz) (hi : i ≤ n) (hk : k < n + 1) (hj : j < sz) :
   (xs.take (i * sz) ++ news ++ xs.drop (i * sz))[k * sz + j]? = if k < i then xs[k * sz + j]? else if k = i then news[j]? else xs[(k - 1) * sz + j]? := by
 have m1 : i * sz ≤ n * sz := Nat.mul_le_mul_right _ hi
 have hla : (xs.take (i * sz)).length = i * sz := by rw [List.length_take]; omega
 by_cases h1 : k < i
 · rw [if_pos h1]
   have : (k + 1) * sz ≤ i * sz := Nat.mul_le_mul_right _ h1
   rw [Nat.add_mul, Nat.one_mul] at this
   rw [List.append_assoc, List.getElem?_append_left (by omega), List.getElem?_take, if_pos (by omega)]
 · rw [if_neg h1]
   by_cases h2 : k = i
   · rw [if_pos h2, h2, List.getElem?_append_left (by rw [List.length_append]; omega), List.getElem?_append_right (by omega), hla]
     congr 1; omega
   · rw [if_neg h2]
     have : (i + 1) * sz ≤ k * sz := Nat.mul_le_mul_right _ (by omega)
     rw [Nat.add_mul, Nat.one_mul] at this
     have e : (k - 1) * sz = k * sz - sz := by rw [Nat.sub_mul, Nat.one_mul]
     rw [List.getElem?_append_right (by rw [List.length_append]; omega), List.length_append, hla, hn, List.getElem?_drop, e]
     congr 1; omega
theorem getD_ins {T : Type} [Inhabited T] (l : List T) (x : T) {i k : Nat} (hi : i ≤ l.length) : (l.take i ++ [x] ++ l.drop i).getD k default = if k < i then l.getD k default else if k = i then x else l.getD (k - 1) default := by
 have hla : (l.take i).length = i := by rw [List.length_take]; omega
 simp only [List.getD_eq_getElem?_getD]
 by_cases h1 : k < i
 · rw [if_pos h1, List.append_assoc, List.getElem?_append_left (by omega), List.getElem?_take, if_pos h1]
 · rw [if_neg h1]
   by_cases h2 : k = i
   · rw [if_pos h2, h2, List.getElem?_append_left (by rw [List.length_append, hla]; simp), List.getElem?_append_right (by omega), hla]; simp
   · rw [if_neg h2, List.getElem?_append_right (by rw [List.length_append, hla]; simp; omega), List.length_append, hla, List.getElem?_drop]
     congr 2; simp; omega
theorem insert_ctr {P : Program} {f tS tI tB fo sz e : Nat} (hent : Enters P f) (W : InsW P f tS tI fo sz)
   (hfo : ∀ (w : World) (a b : Value), (Extern.SlicesOverlaps.overlaps #[tS, tS] #[tB] #[a, b]).run P w = .ok (.bool false) w → (callFunc fo #[a, b]).run P w = .ok (.value (.bool false)) w)
   (ht : P.underlying tS = some (.slice e)) (htI : P.underlying tI = some (.int .i64)) {E : TyD} (hE : TyOk P e E) (hsz : E.size = sz) (hpos : 0 < sz)
   {T : Type} [Inhabited T] (enc : T → List AV) (l : List T) (i : Int) (x : T) (h0 : 0 ≤ i ∧ i ≤ (l.length : Int)) (hroom : room (l.length + 1) E.bytes) :
   CtrO P f [.buf 700 l.length, .int .i64 i, .buf 701 1] [(700, bufL e sz enc l), (701, bufL e sz enc [x])] (.buf 900 (l.take i.toNat ++ [x] ++ l.drop i.toNat).length) [(701, bufL e sz enc [x]), (700, .dead), (900, bufL e sz enc (l.take i.toNat ++ [x] ++ l.drop i.toNat))] := by
 refine ⟨hent, fun h w ρ vs hR hp O => ?_⟩
 obtain ⟨hl, hg⟩ := hR
 match vs, hl with
 | [v, y, u], _ =>
 have hv := hg 0 _ v rfl rfl
 have hy := hg 1 _ y rfl rfl
 have hu := hg 2 _ u rfl rfl
 obtain ⟨v0, xs, b1, b2, b3, b4, b5⟩ := O.blk 700 _ rfl
 obtain ⟨u0, news, d1, d2, d3, d4, d5⟩ := O.blk 701 _ rfl
 have ev : v = v0 := by
   generalize hn : l.length = n at hv
   cases hv with
   | buf _ _ _ n2 sz2 _ v' hb hle h1 he => rw [b1] at hb; cases hb; exact he hn.symm
 have eu : u = u0 := by
   generalize hn : 1 = n at hu
   cases hu with
   | buf _ _ _ n2 sz2 _ v' hb hle h1 he => rw [d1] at hb; cases hb; exact he hn.symm
 subst ev eu
 cases hy
 obtain ⟨k, rfl⟩ := Int.eq_ofNat_of_zero_le h0.1
 have hk : k ≤ l.length := by omega
 rw [Int.toNat_natCast]
 have hlen : (l.take k ++ [x] ++ l.drop k).length = l.length + 1 := by simp; omega
 rw [hlen]
 obtain ⟨inf, i1, i2, i3, i4⟩ := hE.info
 have hne : ∀ b, v.ownBlock = some b → u.ownBlock ≠ some b := fun b q1 q2 => by
   have := O.inj 700 701 _ _ b b1 d1 q1 q2
   omega
 have hins := insert_own (tB := tB) W hfo ht htI i1 i4 (i2.trans hsz) i3 (by rw [zeroV_cells hE]; simpa [hsz] using hE.len) hpos hk hroom.1 (room_max hroom) b2 d2 hne b4 d4
 refine (callsIn_wide.2 hins).mono (fun en w' he => ?_)
 obtain ⟨v', rfl, own', gr, hblk⟩ := he
 have hkeep : ∀ q, q < w.heap.size → ¬ ownSet ρ q → w'.heap[q]? = w.heap[q]? := fun q hq hn => gr.block q hq (fun ee => hn ⟨700, _, b1, ee.symm⟩)
 have hul : ∀ b, u.ownBlock = some b → b < w.heap.size := fun b hb => (O.own 701 _ b d1 hb).2
 have hvu : ∀ b, v'.ownBlock = some b → u.ownBlock ≠ some b := fun b q1 q2 => by
   rcases hblk b q1 with q | q
   · exact hne b q q2
   · have := hul b q2; omega
 refine ⟨h, fun id => if id = 900 then some (.sl (l.length + 1) sz v') else if id = 701 then some (.sl 1 sz u) else if id = 700 then some (.sl (l.length + 1) sz (.slice none 0 0)) else none, gr.os, gr.tape, gr.output, gr.size, hkeep, fun b o hb => hb, fun b o hb => .inl hb, ?_, ⟨fun id y hy => ?_, fun id hid => ?_, fun id li b q1 q2 => ?_, fun id id' li li' b q1 q2 q3 q4 => ?_⟩, fun id li b q1 q2 => ?_, fun id li li' q1 q2 => ?_⟩
 · have hcell : v'.oneCell' = true := by
     rcases own'.2 with ⟨rfl, _⟩ | ⟨_, _, _, rfl, _⟩ <;> rfl
   exact .buf _ _ _ _ _ _ _ (if_pos rfl) (Nat.le_refl _) hcell (fun _ => rfl)
 · by_cases e7 : id = 701
   · subst e7
     simp only [mm] at hy; rw [upd_same] at hy; cases hy
     exact ⟨u, news, by show (if (701 : Nat) = 900 then _ else _) = _; rw [if_neg (by omega), if_pos rfl]; rfl, d2.kept gr (by cases hu0 : u.ownBlock with
       | none => exact .inl rfl
       | some b => exact .inr (fun ee => hne b ee.symm hu0)), d3, d4, d5⟩
   by_cases e0 : id = 700
   · subst e0
     simp only [mm] at hy; rw [upd_other _ _ (by omega), upd_same] at hy; cases hy
     exact ⟨l.length + 1, sz, rfl⟩
   have hid : id = 900 := by
     by_cases e : id = 900
     · exact e
     · simp only [mm] at hy; rw [upd_other _ _ e7, upd_other _ _ e0, upd_other _ _ e] at hy; cases hy
   subst hid
   simp only [mm] at hy; rw [upd_other _ _ (by omega), upd_other _ _ (by omega), upd_same] at hy; cases hy
   have g3 : ∀ q, q < l.length + 1 → (enc ((l.take k ++ [x] ++ l.drop k).getD q default)).length = sz := fun q hq => by
     rw [getD_ins l x hk]
     split
     · exact b3 q (by omega)
     · split
       · exact d3 0 Nat.zero_lt_one
       · exact b3 (q - 1) (by omega)
   refine ⟨v', _, by rw [hlen]; exact if_pos rfl, by rw [hlen]; exact own', fun q hq => g3 q (by rw [hlen] at hq; exact hq), fun y hy => ?_, fun q j c y hq hc hy => ?_⟩
   · rcases List.mem_append.1 hy with hy | hy
     · rcases List.mem_append.1 hy with hy | hy
       · exact b4 y (List.mem_of_mem_take hy)
       · exact d4 y hy
     · exact b4 y (List.mem_of_mem_drop hy)
   · rw [hlen] at hq
     have hc : (enc ((l.take k ++ [x] ++ l.drop k).getD q default))[j]? = some c := hc
     have hj : j < sz := by rw [← g3 q hq]; exact (List.getElem?_eq_some_iff.1 hc).1
     rw [ins_cell b2.1 (by have := d2.1; simpa using this) hk hq hj] at hy
     rw [getD_ins l x hk] at hc
     by_cases h1 : q < k
     · rw [if_pos h1] at hy hc; exact b5 q j c y (by omega) hc hy
     · rw [if_neg h1] at hy hc
       by_cases h2 : q = k
       · rw [if_pos h2] at hy hc
         exact d5 0 j c y Nat.zero_lt_one hc (by rw [Nat.zero_mul, Nat.zero_add]; exact hy)
       · rw [if_neg h2] at hy hc
         exact b5 (q - 1) j c y (by omega) hc hy
 · have n9 : id ≠ 900 := fun ee => by subst ee; simp only [mm] at hid; rw [upd_other _ _ (by omega), upd_other _ _ (by omega), upd_same] at hid; cases hid
   have n0 : id ≠ 700 := fun ee => by subst ee; simp only [mm] at hid; rw [upd_other _ _ (by omega), upd_same] at hid; cases hid
   have n7 : id ≠ 701 := fun ee => by subst ee; simp only [mm] at hid; rw [upd_same] at hid; cases hid
   show (if id = 900 then _ else if id = 701 then _ else if id = 700 then _ else none) = none
   rw [if_neg n9, if_neg n7, if_neg n0]
 · have q1 : (if id = 900 then some (LI.sl (l.length + 1) sz v') else if id = 701 then some (LI.sl 1 sz u) else if id = 700 then some (LI.sl (l.length + 1) sz (.slice none 0 0)) else none) = some li := q1
   split at q1
   · cases q1
     rcases hblk b q2 with hb | hb
     · have := O.own 700 _ b b1 hb
       exact ⟨this.1, Nat.lt_of_lt_of_le this.2 gr.size⟩
     · refine ⟨?_, (own'.lt b q2).2⟩
       cases hh : h b with
       | none => rfl
       | some o => have := heap_lt (hp b o hh); omega
   · split at q1
     · cases q1
       have := O.own 701 _ b d1 q2
       exact ⟨this.1, Nat.lt_of_lt_of_le this.2 gr.size⟩
     · split at q1
       · cases q1; cases q2
       · cases q1
 · have q1 : (if id = 900 then some (LI.sl (l.length + 1) sz v') else if id = 701 then some (LI.sl 1 sz u) else if id = 700 then some (LI.sl (l.length + 1) sz (.slice none 0 0)) else none) = some li := q1
   have q2 : (if id' = 900 then some (LI.sl (l.length + 1) sz v') else if id' = 701 then some (LI.sl 1 sz u) else if id' = 700 then some (LI.sl (l.length + 1) sz (.slice none 0 0)) else none) = some li' := q2
   by_cases a9 : id = 900
   · by_cases b9 : id' = 900
     · omega
     · rw [if_pos a9] at q1; rw [if_neg b9] at q2; cases q1
       split at q2
       · cases q2; exact absurd q4 (hvu b q3)
       · split at q2
         · cases q2; cases q4
         · cases q2
   · rw [if_neg a9] at q1
     split at q1
     · cases q1
       by_cases b9 : id' = 900
       · rw [if_pos b9] at q2; cases q2; exact absurd q3 (hvu b q4)
       · rw [if_neg b9] at q2
         split at q2
         · omega
         · split at q2
           · cases q2; cases q4
           · cases q2
     · split at q1
       · cases q1; cases q3
       · cases q1
 · have q1 : (if id = 900 then some (LI.sl (l.length + 1) sz v') else if id = 701 then some (LI.sl 1 sz u) else if id = 700 then some (LI.sl (l.length + 1) sz (.slice none 0 0)) else none) = some li := q1
   split at q1
   · cases q1
     rcases hblk b q2 with hb | hb
     · exact .inl ⟨700, _, b1, hb⟩
     · exact .inr hb
   · split at q1
     · cases q1; exact .inl ⟨701, _, d1, q2⟩
     · split at q1
       · cases q1; cases q2
       · cases q1
 · have q2 : (if id = 900 then some (LI.sl (l.length + 1) sz v') else if id = 701 then some (LI.sl 1 sz u) else if id = 700 then some (LI.sl (l.length + 1) sz (.slice none 0 0)) else none) = some li' := q2
   split at q2
   · next e9 =>
     subst e9
     have := O.dom 900 rfl
     rw [this] at q1; cases q1
   · split at q2
     · next e7 =>
       subst e7
       cases q2
       rw [d1] at q1; cases q1
       exact LI.le_refl _
     · split at q2
       · next e0 =>
         subst e0
         cases q2
         rw [b1] at q1; cases q1
         exact .inr (.inl ⟨_, _, _, _, _, rfl, rfl, Nat.lt_succ_self _⟩)
       · cases q2
end Go.Av
end
/- Cells that are only read from now on, wherever they are named. -/
section
set_option linter.all false
namespace Go.Av
mutual
/-- A value in which a name of cells is read as what they are. -/
def fc (id : Nat) (cs0 : List AV) (K : List Nat) : AV → Option AV
 | .lp i off => match Nat.beq i id with
   | true => match dropN off cs0 with
     | some r => some (.rp r)
     | none => none
   | false => match inList K i with
     | true => some (.lp i off)
     | false => none
 | .agg cs => match fcL id cs0 K cs with
   | some cs' => some (.agg cs')
   | none => none
 | .tup cs => match fcL id cs0 K cs with
   | some cs' => some (.tup cs')
   | none => none
 | .fn f fs cs => match fcL id cs0 K fs with
   | some fs' => match fcL id cs0 K cs with
     | some cs' => some (.fn f fs' cs')
     | none => none
   | none => none
 | v => match onlyIds K v with
   | true => some v
   | false => none
def fcL (id : Nat) (cs0 : List AV) (K : List Nat) : List AV → Option (List AV)
 | [] => some []
 | c :: cs => match fc id cs0 K c with
   | some c' => match fcL id cs0 K cs with
     | some cs' => some (c' :: cs')
     | none => none
   | none => none
end
theorem fc_other {id : Nat} {cs0 : List AV} {K : List Nat} {x y : AV} (h : fc id cs0 K x = some y) (h1 : ∀ i n, x ≠ .lp i n) (h2 : ∀ cs, x ≠ .agg cs) (h3 : ∀ cs, x ≠ .tup cs) (h4 : ∀ f fs cs, x ≠ .fn f fs cs) : onlyIds K x = true ∧ y = x := by
 cases x <;> first | exact absurd rfl (h1 _ _) | exact absurd rfl (h2 _) | exact absurd rfl (h3 _) | exact absurd rfl (h4 _ _ _) | (simp only [fc] at h; split at h <;> cases h; exact ⟨by assumption, rfl⟩)
theorem fcL_get {id : Nat} {cs0 : List AV} {K : List Nat} : ∀ {cs cs' : List AV}, fcL id cs0 K cs = some cs' → cs'.length = cs.length ∧
   ∀ (i : Nat) (c' : AV), cs'[i]? = some c' → ∃ c, cs[i]? = some c ∧ fc id cs0 K c = some c'
 | [], cs', h => by
   simp only [fcL] at h; cases h
   exact ⟨rfl, fun i c' hc => (by simp at hc)⟩
 | c :: cs, cs', h => by
   simp only [fcL] at h
   split at h
   · rename_i d hd
     split at h
     · rename_i ds hds
       cases h
       obtain ⟨h1, h2⟩ := fcL_get hds
       refine ⟨by simp [h1], fun i c' hc => ?_⟩
       cases i with
       | zero => simp at hc; subst hc; exact ⟨c, rfl, hd⟩
       | succ i =>
         obtain ⟨c0, e1, e2⟩ := h2 i c' (by simpa using hc)
         exact ⟨c0, by simpa using e1, e2⟩
     · cases h
   · cases h
theorem Rel.fc {h h' : Hp} {ρ ρ' : Rho} {id b0 : Nat} {cs0 : List AV} {K : List Nat} (hle : Le h h') (hρ : ∀ i, i ∈ K → ρ' i = ρ i) (hid : ρ id = some (.blk b0))
   (hr : ∀ off r, dropN off cs0 = some r → Rel h' ρ' (.rp r) (.pointer (some ⟨b0, off, none⟩))) {x : AV} {v : Value} (H : Rel h ρ x v) :
   ∀ {y : AV}, Go.Av.fc id cs0 K x = some y → Rel h' ρ' y v := by
 induction H with
 | lp ρ i off b hb =>
   intro y hy
   simp only [Go.Av.fc] at hy
   split at hy
   · rename_i hi
     have := Nat.eq_of_beq_eq_true hi
     subst this
     rw [hid] at hb; cases hb
     split at hy
     · rename_i r hd
       cases hy
       exact hr off r hd
     · cases hy
   · split at hy
     · rename_i hk
       cases hy
       exact .lp _ _ _ _ ((hρ i (inList_mem hk)).trans hb)
     · cases hy
 | agg ρ cs vs hl hc ih =>
   intro y hy
   simp only [Go.Av.fc] at hy
   split at hy
   · rename_i cs' hcs
     cases hy
     obtain ⟨e1, e2⟩ := fcL_get hcs
     refine .agg _ _ _ (by rw [hl, e1]) fun i c v h1 h2 => ?_
     obtain ⟨c0, k1, k2⟩ := e2 i c h1
     exact ih i c0 v k1 h2 hρ hid k2
   · cases hy
 | tup ρ cs vs hl hc ih =>
   intro y hy
   simp only [Go.Av.fc] at hy
   split at hy
   · rename_i cs' hcs
     cases hy
     obtain ⟨e1, e2⟩ := fcL_get hcs
     refine .tup _ _ _ (by rw [hl, e1]) fun i c v h1 h2 => ?_
     obtain ⟨c0, k1, k2⟩ := e2 i c h1
     exact ih i c0 v k1 h2 hρ hid k2
   · cases hy
 | fn ρ f fs cs vs ws hl hm hc hd ih1 ih2 =>
   intro y hy
   simp only [Go.Av.fc] at hy
   split at hy
   · rename_i fs' hfs
     split at hy
     · rename_i cs' hcs
       cases hy
       obtain ⟨e1, e2⟩ := fcL_get hfs
       obtain ⟨e3, e4⟩ := fcL_get hcs
       refine .fn _ _ _ _ _ _ (by rw [hl, e1]) (by rw [hm, e3]) (fun i c v h1 h2 => ?_) (fun i c v h1 h2 => ?_)
       · obtain ⟨c0, k1, k2⟩ := e2 i c h1
         exact ih1 i c0 v k1 h2 hρ hid k2
       · obtain ⟨c0, k1, k2⟩ := e4 i c h1
         exact ih2 i c0 v k1 h2 hρ hid k2
     · cases hy
   · cases hy
 | _ =>
   intro y hy
   obtain ⟨ho, rfl⟩ := fc_other hy (fun _ _ e => by cases e) (fun _ e => by cases e) (fun _ e => by cases e) (fun _ _ _ e => by cases e)
   refine Rel.forget hρ (Rel.heap ?_ hle) ho
   first | (constructor <;> assumption) | (constructor; done)
def fcS (id : Nat) (cs0 : List AV) (K : List Nat) (L : List (Nat × AV)) : List Nat → Option (List (Nat × AV))
 | [] => some []
 | t :: ts => match findL L t with
   | some x => match fc id cs0 K x with
     | some y => match fcS id cs0 K L ts with
       | some L' => some ((t, y) :: L')
       | none => none
     | none => none
   | none => none
def fcB (id : Nat) (cs0 : List AV) (K : List Nat) : Blk → Option Blk
 | .cells cs => match fcL id cs0 K cs with
   | some cs' => some (.cells cs')
   | none => none
 | b => match onlyB K b with
   | true => some b
   | false => none
def fcM (id : Nat) (cs0 : List AV) (K : List Nat) (M : List (Nat × Blk)) : List Nat → Option (List (Nat × Blk))
 | [] => some []
 | t :: ts => match mm M t with
   | some x => match fcB id cs0 K x with
     | some y => match fcM id cs0 K M ts with
       | some M' => some ((t, y) :: M')
       | none => none
     | none => none
   | none => none
theorem fcS_spec {id : Nat} {cs0 : List AV} {K : List Nat} {L : List (Nat × AV)} : ∀ {ts : List Nat} {L' : List (Nat × AV)}, fcS id cs0 K L ts = some L' →
   ∀ t, fr L' t = .any ∨ fc id cs0 K (fr L t) = some (fr L' t)
 | [], L', h, t => by simp only [fcS] at h; cases h; exact .inl rfl
 | u :: ts, L', h, t => by
   simp only [fcS] at h
   split at h
   · rename_i x hx
     split at h
     · rename_i y hy
       split at h
       · rename_i L2 h2
         cases h
         simp only [fr, put]
         split
         · rename_i hb
           have := Nat.eq_of_beq_eq_true hb
           subst this
           rw [findL_fr hx]
           exact .inr hy
         · exact fcS_spec h2 t
       · cases h
     · cases h
   · cases h
theorem fcM_spec {id : Nat} {cs0 : List AV} {K : List Nat} {M : List (Nat × Blk)} : ∀ {ts : List Nat} {M' : List (Nat × Blk)}, fcM id cs0 K M ts = some M' →
   (∀ t, t ∈ ts → (mm M' t).isSome = true) ∧ ∀ t y, mm M' t = some y → t ∈ ts ∧ ∃ x, mm M t = some x ∧ fcB id cs0 K x = some y
 | [], M', h => by simp only [fcM] at h; cases h; exact ⟨fun t ht => (by cases ht), fun t y hy => (by cases hy)⟩
 | u :: ts, M', h => by
   simp only [fcM] at h
   split at h
   · rename_i x hx
     split at h
     · rename_i y hy
       split at h
       · rename_i L2 h2
         cases h
         obtain ⟨k1, k2⟩ := fcM_spec h2
         refine ⟨fun t ht => ?_, fun t z hz => ?_⟩
         · simp only [mm]
           by_cases e : t = u
           · subst e; rw [upd_same]; rfl
           · rw [upd_other _ _ e]
             exact k1 t ((List.mem_cons.1 ht).resolve_left e)
         · simp only [mm] at hz
           by_cases e : t = u
           · subst e; rw [upd_same] at hz; cases hz
             exact ⟨List.mem_cons_self .., x, hx, hy⟩
           · rw [upd_other _ _ e] at hz
             obtain ⟨e0, x2, e1, e2⟩ := k2 t z hz
             exact ⟨List.mem_cons_of_mem _ e0, x2, e1, e2⟩
       · cases h
     · cases h
   · cases h
section
variable {N : Nat} {C : Ctx} {L : List (Nat × AV)} {M : List (Nat × Blk)} {g : Nat} {R : Act → World → Prop}
theorem At.freezeC (id : Nat) {cs0 : List AV} {K ts : List Nat} {L' : List (Nat × AV)} {M' : List (Nat × Blk)} (hM : mm M id = some (.cells cs0)) (hcl : clL cs0 = true) (hK : inList K id = false)
   (hL : fcS id cs0 K L ts = some L') (hMK : fcM id cs0 K M K = some M')
   (hbor : ∀ b, ¬ C.bor b) (Kk : At N C L' M' g R) (hs : onlyL K C.savA = true := by rfl) : At N C L M g R := by
 intro h ρ a w I
 obtain ⟨b0, us, ty, k1, k2, k3, k4⟩ := I.blk id _ hM
 obtain ⟨m1, m2⟩ := fcM_spec hMK
 have hidK : id ∉ K := fun hk => by rw [inList_of hk] at hK; cases hK
 classical
 let h' : Hp := fun b => if b = b0 then w.heap[b]? else h b
 let ρ' : Rho := fun i => if i ∈ K then ρ i else none
 have hρ : ∀ i, i ∈ K → ρ' i = ρ i := fun i hi => if_pos hi
 have hρ' : ∀ i li, ρ' i = some li → i ∈ K ∧ ρ i = some li := fun i li hi => by
   have : (if i ∈ K then ρ i else none) = some li := hi
   split at this
   · exact ⟨by assumption, this⟩
   · cases this
 have hin : h' b0 = w.heap[b0]? := if_pos rfl
 have hle : ∀ b o, h b = some o → h' b = some o := by
   intro b o hb
   show (if b = b0 then w.heap[b]? else h b) = some o
   split
   · exact I.hp b o hb
   · exact hb
 have hge : C.w0.heap.size ≤ b0 := (I.own id _ b0 k1 rfl).2.2.resolve_right (hbor b0)
 have hnew : ∀ b o, h' b = some o → (b = b0 ∧ w.heap[b]? = some o) ∨ h b = some o := by
   intro b o hb
   have : (if b = b0 then w.heap[b]? else h b) = some o := hb
   split at this
   · exact .inl ⟨by assumption, this⟩
   · exact .inr this
 have key : ∀ off j, cellOf h' (Addr.add ⟨b0, off, none⟩ j) = us[off + j]? := by
   intro off j
   unfold cellOf
   rw [Addr.add_lit]
   simp only [hin, k2]
   simp
 have hr : ∀ off r, dropN off cs0 = some r → Rel h' ρ' (.rp r) (.pointer (some ⟨b0, off, none⟩)) := by
   intro off r hd
   obtain ⟨rfl, hlo⟩ := dropN_get hd
   refine .rp _ _ _ (fun j hj => ?_) (fun j y z hy hz => ?_)
   · rw [key]
     have : off + j < us.length := by rw [k3]; simp at hj; omega
     simp [this]
   · rw [key] at hz
     rw [List.getElem?_drop] at hy
     exact ((k4 _ y z hy hz).heap (Le.of hle)).of_cl (clL_get hcl hy)
 refine Kk h' ρ' a w { I with slot := fun t => ?_, sav := ⟨I.sav.1, fun i c x h1 h2 => ((I.sav.2 i c x h1 h2).heap (Le.of hle)).forget hρ (onlyL_get hs h1)⟩, hp := fun b o hb => ?_, blk := fun i y hy => ?_, dom := fun i hi => ?_, own := fun i li b q1 q2 => ?_, inj := fun i i' li li' b q1 q1' q2 q2' => I.inj i i' li li' b (hρ' _ _ q1).2 (hρ' _ _ q1').2 q2 q2', ext := fun b o hb => hle b o (I.ext b o hb), old := fun b o hb hlt => ?_, gst := ?_, dfr := ?_ }
 · rcases fcS_spec hL t with e1 | e1
   · rw [e1]; exact .any _ _
   · exact Rel.fc (Le.of hle) hρ k1 hr (I.slot t) e1
 · rcases hnew b o hb with q | q
   · exact q.2
   · exact I.hp b o q
 · obtain ⟨hik, x, e1, e2⟩ := m2 i y hy
   have H := I.blk i x e1
   have other : ∀ z, onlyB K z = true → BlkOk h ρ i z w → BlkOk h' ρ' i z w := fun z ho Hz => ((Hz.keep (Le.of hle) rfl (hle_refl _) (fun _ _ _ _ => rfl)).forget hρ hik ho)
   cases x with
   | cells cs =>
     simp only [fcB] at e2
     split at e2
     · rename_i cs' hcs
       cases e2
       obtain ⟨b, vs, ty', z1, z2, z3, z4⟩ := H
       obtain ⟨l1, l2⟩ := fcL_get hcs
       refine ⟨b, vs, ty', (hρ i hik).trans z1, z2, by rw [z3, l1], fun j c u hc hu => ?_⟩
       obtain ⟨c0, y1, y2⟩ := l2 j c hc
       exact Rel.fc (Le.of hle) hρ k1 hr (z4 j c0 u y1 hu) y2
     · cases e2
   | _ =>
     simp only [fcB] at e2
     split at e2
     · rename_i ho
       cases e2
       exact other _ ho H
     · cases e2
 · cases hq : ρ' i with
   | none => rfl
   | some li =>
     have := m1 i (hρ' i li hq).1
     rw [hi] at this; cases this
 · obtain ⟨q3, q4⟩ := hρ' i li q1
   obtain ⟨z1, z2, z3⟩ := I.own i li b q4 q2
   refine ⟨?_, z2, z3⟩
   show (if b = b0 then w.heap[b]? else h b) = none
   rw [if_neg (fun (hv : b = b0) => hidK ((I.inj i id li _ b q4 k1 q2 (hv ▸ (rfl : LI.owns (.blk b0) b0))) ▸ q3))]
   exact z1
 · rcases hnew b o hb with q | q
   · rw [q.1] at hlt; exact absurd hlt (Nat.not_lt.2 hge)
   · exact I.old b o q hlt
 · obtain ⟨X, x1, x2, x3⟩ := I.gst
   refine ⟨X, fun b ⟨i, li, q1, q2⟩ => x1 b ⟨i, li, (hρ' i li q1).2, q2⟩, fun b o hb => ?_, x3⟩
   rcases hnew b o hb with q | q
   · exact .inr (x1 b ⟨id, _, k1, q.1 ▸ rfl⟩)
   · exact x2 b o q
 · obtain ⟨Ds, hd1, hd2, hd3⟩ := I.dfr
   exact ⟨Ds, hd1, hd2, fun D hD => ⟨hle _ _ (hd3 D hD).1, (hd3 D hD).2⟩⟩
end
theorem Sim.fnClo {f : Fn} {fs cs : List AV} (h : (clL fs && clL cs) = true) : Sim (.fn f fs cs) (.clo f fs cs) := by
 intro h' ρ v H
 exact .clo _ _ _ _ _ (H.of_cl (by simpa [AV.cl] using h))
end Go.Av
end
/- Ranges over maps: whichever entry comes next. -/
section
set_option linter.all false
namespace Go.Av
open Go.ChangeMaps (setBlock)
section
variable {P : Program} {N : Nat} {C : Ctx} {rr : Option Nat} {L : List (Nat × AV)} {M : List (Nat × Blk)} {g : Nat} {Q : Exit → Act → World → Prop}
theorem left_push {es : Array MapEntry} {seen : Array Nat} {x : MapEntry} {left : List Int} {k : Int} (hk : (leftOf es seen).toList.map (·.key) = left.map (fun k => Value.int .i64 k)) (hx : x ∈ (leftOf es seen).toList) (hn : (es.toList.map (·.born)).Nodup) (hkey : x.key = .int .i64 k) :
   ∃ left' : List Int, left.Perm (k :: left') ∧ (leftOf es (seen.push x.born)).toList.map (·.key) = left'.map (fun k => Value.int .i64 k) := by
 have h1 : (leftOf es (seen.push x.born)).toList = (leftOf es seen).toList.filter (fun e => e.born != x.born) := by
   unfold leftOf
   simp only [Array.toList_filter, List.filter_filter]
   congr 1
   funext e
   by_cases he : e.born = x.born
   · simp [he]
   · have : (seen.push x.born).contains e.born = seen.contains e.born := by
       rw [Bool.eq_iff_iff]; simp [he]
     rw [this]
     have hb : (e.born != x.born) = true := by simpa using he
     rw [hb, Bool.true_and]
 have hsub : (leftOf es seen).toList.Sublist es.toList := by
   unfold leftOf; simp only [Array.toList_filter]; exact List.filter_sublist
 have hnl : ((leftOf es seen).toList.map (·.born)).Nodup := (hsub.map _).nodup hn
 generalize (leftOf es seen).toList = l at hk hx h1 hnl
 rw [h1]
 clear h1 hsub
 induction l generalizing left with
 | nil => cases hx
 | cons y l ih =>
   cases left with
   | nil => simp at hk
   | cons k0 left =>
   simp only [List.map_cons, List.cons.injEq] at hk
   simp only [List.map_cons, List.nodup_cons] at hnl
   rcases List.mem_cons.1 hx with rfl | hx
   · have hkk : k0 = k := by have := hk.1; rw [hkey] at this; cases this; rfl
     subst hkk
     refine ⟨left, List.Perm.refl _, ?_⟩
     rw [List.filter_cons_of_neg (by simp)]
     rw [List.filter_eq_self.2 (fun z hz => by
       have : z.born ≠ x.born := fun e => hnl.1 (e ▸ List.mem_map_of_mem hz)
       simpa using this)]
     exact hk.2
   · obtain ⟨left', p1, p2⟩ := ih hk.2 hx hnl.2
     refine ⟨k0 :: left', (p1.cons k0).trans (List.Perm.swap _ _ _), ?_⟩
     have : y.born ≠ x.born := fun e => hnl.1 (e ▸ List.mem_map_of_mem hx)
     rw [List.filter_cons_of_pos (by simpa using this), List.map_cons, List.map_cons, p2, hk.1]
theorem W.next {rid : Nat} {o1 o2 : Oper} {it d1 d2 id : Nat} {e : Int → AV} {left : List Int} (h1 : o1.op = .next (.tmp it) false) (g1 : o1.guard = none) (hd1 : o1.dst = some d1) (h2 : o2.op = .extract (.tmp d1) 0) (g2 : o2.guard = none) (hd2 : o2.dst = some d2)
   (hl1 : Nat.blt d1 N = true) (hl2 : Nat.blt d2 N = true) (hne : Nat.beq d1 d2 = false) (hL : fr L it = .lp id 0) (hM : mm M id = some (.iter e none (fun l => l = left)))
   (K0 : left = [] → At N C ((d2, .bool false) :: (d1, .any) :: L) M g (Q .normal))
   (K1 : ∀ k left', left.Perm (k :: left') → At N C ((d2, .bool true) :: (d1, .any) :: L) ((id, .iter e (some k) (fun l => l = left')) :: M) g (Q .normal)) : W P N rr C (.region rid #[o1, o2] false) L M g Q := by
 intro h ρ a w I
 obtain ⟨b, bm, clock, c0, es, seen, left0, q1, q2, q3, q4, q5, q6, q7, rfl, q9, q10⟩ := I.blk id _ hM
 have hlt1 : d1 < N := Nat.le_of_ble_eq_true hl1
 have hlt2 : d2 < N := Nat.le_of_ble_eq_true hl2
 have hne' : d1 ≠ d2 := fun e => by subst e; simp at hne
 have hit : a.eval (.tmp it) = .pointer (some ⟨b, 0, none⟩) := by
   have := I.slot it
   rw [hL] at this
   show a.tmps.getD it undef = _
   generalize a.tmps.getD it undef = v at this
   cases this with
   | lp _ _ _ b' hb => rw [q1] at hb; cases hb; rfl
 refine wpIn_region ?_
 have hr2 : List.range #[o1, o2].size = [0, 1] := rfl
 rw [hr2, wpOpsIn_cons]
 unfold wpOpIn
 simp only [List.getElem?_toArray, List.getElem?_cons_zero]
 rw [if_pos (by simp [Region.wanted, g1])]
 have hd01 : ∀ c, o1.op ≠ .defer c := fun c e => by rw [h1] at e; cases e
 have hd02 : ∀ c, o2.op ≠ .defer c := fun c e => by rw [h2] at e; cases e
 have second : ∀ (v : Bool) (vs : List Value) (w' : World) (a' : Act), a'.tmps.getD d1 undef = .tuple (Value.bool v :: vs).toArray → Q .normal (a'.put (some d2) (.bool v)) w' → wpOpsIn (Fw rr) 1 P #[o1, o2] Q [1] a' w' := by
   intro v vs w' a' hv hq
   rw [wpOpsIn_cons]
   unfold wpOpIn
   simp only [List.getElem?_toArray, List.getElem?_cons_succ, List.getElem?_cons_zero]
   rw [if_pos (by simp [Region.wanted, g2])]
   refine ⟨fun _ _ => trivial, ?_⟩
   rw [Oper.semAt_eq _ _ _ hd02]
   have hrun : (execOp a'.eval o2).run P w' = .ok (.value (.bool v)) w' := by
     unfold execOp
     have : a'.eval (.tmp d1) = .tuple (Value.bool v :: vs).toArray := hv
     simp [h2, this, Instr.extract]
   rw [hrun, Oper.uponIn_value, hd2]
   exact hq
 refine ⟨fun _ _ => trivial, ?_⟩
 rw [Oper.semAt_eq _ _ _ hd01]
 have hex : ∀ (r : Result Value), (Instr.next (.pointer (some ⟨b, 0, none⟩)) false o1.type).run P w = r → (execOp a.eval o1).run P w = r.andThen fun v w => .ok (.value v) w := by
   intro r hr
   unfold execOp
   simp only [h1, hit, Sem.run_bind, hr, Sem.run_pure]
 have putL : ∀ {h' : Hp} {ρ' : Rho} {M' : Mm} {w' : World} (u : Value) (v : Bool), InvH N C h' ρ' (fr L) M' g a w' → InvH N C h' ρ' (fr ((d2, .bool v) :: (d1, .any) :: L)) M' g ((a.put (some d1) u).put (some d2) (.bool v)) w' := fun u v I0 =>
   (I0.put (d := some d1) (v := .any) (fun t ht => by cases ht; exact hlt1) (.any _ u)).put (d := some d2) (v := .bool v) (fun t ht => by cases ht; exact hlt2) (.bool _ v)
 have get1 : ∀ u, (a.put (some d1) u).tmps.getD d1 undef = u := fun u => by
   have : d1 < a.tmps.size := by rw [I.size]; exact hlt1
   simp [Act.put, this]
 rcases run_next_at (P := P) w o1.type b bm clock c0 seen es.toArray clock q2 (I.hp _ _ q3) (by simpa using q4) q6 with ⟨hz, hr⟩ | ⟨x, hx, w1, hw1, hr⟩
 · rw [hex _ hr]
   simp only [Result.andThen]
   rw [Oper.uponIn_value, hd1]
   refine second false [] w _ (get1 _) ?_
   have hnil : left0 = [] := by
     have h0 : (leftOf es.toArray seen).toList = [] := List.eq_nil_of_length_eq_zero (by simpa using hz)
     rw [h0] at q7
     cases left0 with
     | nil => rfl
     | cons => simp at q7
   exact K0 hnil h ρ _ w (putL _ false I)
 · rw [hex _ hr]
   simp only [Result.andThen]
   rw [Oper.uponIn_value, hd1]
   refine second true [x.key, x.val] _ _ (get1 _) ?_
   have hxe : x ∈ es := by
     unfold leftOf at hx
     simp at hx; exact hx.1
   obtain ⟨k, k1, k2⟩ := q9 x hxe
   obtain ⟨left', p1, p2⟩ := left_push q7 hx (by simpa using q5) k1
   have I1 : InvH N C h ρ (fr L) (mm M) g a w1 := by
     rcases hw1 with rfl | rfl
     · exact I
     · exact I.drew
   have hb1 : w1.heap[b]? = some (.mapIter (some bm) clock seen c0) := by rcases hw1 with rfl | rfl <;> exact q2
   have hblt : b < w1.heap.size := (Array.getElem?_eq_some_iff.1 hb1).1
   have hbm : bm ≠ b := by rintro rfl; have := I.hp _ _ q3; rw [q2] at this; cases this
   have I2 := I1.turn (w' := setBlock w1 b (.mapIter (some bm) clock (seen.push x.born) clock)) q1 (.iter e (some k) (fun l => l = left')) rfl rfl rfl (by simp [setBlock]) (fun j hj => by simp [setBlock, Array.getElem?_setIfInBounds_ne (Ne.symm hj)])
     ⟨b, bm, clock, clock, es, seen.push x.born, left', q1, by simp [setBlock, hblt], q3, q4, q5, Nat.le_refl _, p2, rfl, q9, fun k' hk' => by cases hk'; exact ⟨rfl, x, seen, hxe, k1, rfl⟩⟩
   exact K1 k left' p1 h ρ _ _ (putL _ true I2)
end
end Go.Av
end
/- slices.Sort at []int, whose contract the library has, as a function that a slice is lent to. -/
section
set_option linter.all false
namespace Go.Av
open Go Go.Sort Go.Proofs
theorem sort_ctr {P : Program} {f : FuncId} (hent : Enters P f)
   (hC : ∀ (blk off cap : Nat) (zs : List Int) (w : World), Holds (Value.int .i64) w blk off zs.toArray → blk < w.heap.size → zs.length < 4611686018427387904 →
     Calls P f #[.slice (some ⟨blk, off, none⟩) zs.length cap] w fun e w' => e = .returned (.tuple #[]) ∧ ∃ n os, w' = grow (putRow (Value.int .i64) (Sort.ahead w n) blk off (zs.mergeSort fun x y => decide (x ≤ y)).toArray) os)
   (hN : ∀ (p : Option Addr) (cap : Nat) (w : World), Calls P f #[.slice p 0 cap] w fun e w' => e = .returned (.tuple #[]) ∧ w' = w)
   (ty : Nat) (l : List Int) {r : List Int} (H : Sp.slices_Sort_int_l l = some r) :
   CtrO P f [.buf 90000 l.length] [(90000, bufL ty 1 (fun x => [.int .i64 x]) l)] (.tup []) [(90000, bufL ty 1 (fun x => [.int .i64 x]) r)] := by
 unfold Sp.slices_Sort_int_l at H
 obtain ⟨hlen, H⟩ := Sp.of_must H
 cases H
 refine ⟨hent, fun h w ρ vs hR hp O => ?_⟩
 obtain ⟨hl, hg⟩ := hR
 match vs, hl with
 | [v], _ =>
 have hv := hg 0 _ v rfl rfl
 obtain ⟨v0, xs, b1, b2, b3, b4, b5⟩ := O.blk 90000 _ rfl
 have : v = v0 := by
   generalize hn : l.length = n at hv
   cases hv with
   | buf _ _ _ n2 sz2 _ v' hb hle h1 he => rw [b1] at hb; cases hb; exact he hn.symm
 subst this
 have wide : ∀ {R : Ending → World → Prop} {args : Array Value}, Calls P f args w R → CallsIn (Fw none) 0 P f args w R := fun hc => callsIn_wide.2 hc
 have hxs : xs = l.map (Value.int .i64) := by
   have hlx : xs.length = l.length := by have := b2.1; omega
   refine List.ext_getElem (by simp [hlx]) (fun i h1 h2 => ?_)
   have := b5 i 0 (.int .i64 (l.getD i default)) xs[i] (by omega) rfl (by rw [Nat.mul_one, Nat.add_zero]; exact List.getElem?_eq_getElem h1)
   generalize xs[i] = v at this ⊢
   cases this
   rw [List.getElem_map, List.getD_eq_getElem?_getD, List.getElem?_eq_getElem (by omega)]; rfl
 rcases b2.2 with ⟨hnil, hl0⟩ | ⟨g, cap, cur, rfl, hg0, hcur, q1, q2, q3, q4⟩
 · subst hnil
   have e0 : l = [] := List.length_eq_zero_iff.1 hl0
   subst e0
   refine (wide (hN none 0 w)).mono (fun en w' he => ?_)
   obtain ⟨rfl, rfl⟩ := he
   exact ⟨h, ρ, rfl, rfl, rfl, Nat.le_refl _, fun k _ _ => rfl, fun b o hb => hb, fun b o hb => .inl hb, .tup _ _ [] rfl (fun i c v hc => by simp at hc), ⟨O.blk, O.dom, O.own, O.inj⟩, fun id li b q1 q2 => .inl ⟨id, li, q1, q2⟩, fun id li li' q1 q2 => by rw [q1] at q2; cases q2; exact LI.le_refl _⟩
 · have hgs : g < w.heap.size := heap_lt hcur
   rw [Nat.mul_one] at q3 q4
   have hold := holds_of_blockI (ss := l) hcur (by rw [q4, hxs])
   have hc := hC g 0 cap l w hold hgs hlen
   refine (wide hc).mono (fun en w' he => ?_)
   obtain ⟨rfl, n, os, rfl⟩ := he
   rw [Sp.merge_isort]
   obtain ⟨s1, s2, s3, s4, s5⟩ := grownBy_sortedI (w := w) (g := g) (n := n) (os := os) (Sp.isort l).toArray
   have hin : ownSet ρ g := ⟨90000, _, b1, rfl⟩
   refine ⟨h, ρ, s1, s2, s3, s4, fun k hk hn => s5 k hk (fun e => hn (by cases e; exact hin)), fun b o hb => hb, fun b o hb => .inl hb, .tup _ _ [] rfl (fun i c v hc => by simp at hc), ⟨fun id x hx => ?_, fun id hid => ?_, fun id li b q1 q2 => ⟨(O.own id li b q1 q2).1, Nat.lt_of_lt_of_le (O.own id li b q1 q2).2 s4⟩, O.inj⟩, fun id li b q1 q2 => .inl ⟨id, li, q1, q2⟩, fun id li li' q1 q2 => by rw [q1] at q2; cases q2; exact LI.le_refl _⟩
   · have hid : id = 90000 := by
       by_cases e : id = 90000
       · exact e
       · simp only [mm] at hx; rw [upd_other _ _ e] at hx; cases hx
     subst hid
     simp only [mm] at hx; rw [upd_same] at hx; cases hx
     have own := ownsRow_sortedI (w := w) (base := 0) (g := g) (cap := cap) (n := n) (os := os) (ss := l) (ts := Sp.isort l) (Sp.isort_length l) hg0 hcur q1 q2 (by rw [q3, Nat.mul_one])
     refine ⟨_, (Sp.isort l).map (Value.int .i64), by rw [Sp.isort_length]; exact b1, by rw [Sp.isort_length]; exact own, fun i _ => rfl, fun x hx => ?_, fun i j c x hi hc hx => ?_⟩
     · obtain ⟨z, _, rfl⟩ := List.mem_map.1 hx; rfl
     · cases j with
       | succ j => simp at hc
       | zero =>
         have hc : AV.int .i64 ((Sp.isort l).getD i default) = c := by simpa using hc
         subst hc
         rw [Nat.mul_one, Nat.add_zero, List.getElem?_map, List.getElem?_eq_getElem hi] at hx
         cases hx
         rw [List.getD_eq_getElem?_getD, List.getElem?_eq_getElem hi]
         exact .int _ _ _
   · refine O.dom id ?_
     by_cases e : id = 90000
     · subst e; simp only [mm] at hid; rw [upd_same] at hid; cases hid
     · simp only [mm]; rw [upd_other _ _ e]
end Go.Av
end
/- Steps in one: two commands of which the first is a region; what reads the same. -/
section
set_option linter.all false
namespace Go.Av
open Go
theorem Sim.q {x y : AV} (h : x = y := by first | rfl | (simp; done) | omega | (simp; omega)) : Sim x y := .of_eq h
theorem Sim.qi {x y : AV} (h : x = y := by first | rfl | (simp; done) | omega | (refine intEq ?_; first | omega | (simp; done) | (simp; omega)) | (simp; omega)) : Sim x y := .of_eq h
theorem Sim.qb {x y : AV} (h : x = y := by refine bufEq ?_; first | (simp [Sp.copyAt]; done) | omega | (simp [Sp.copyAt]; omega) | (simp only [List.length_set] at *; omega) | rfl) : Sim x y := .of_eq h
theorem Sim.qc {x y : AV} (h : x = y := by refine bufEq ?_; first | rfl | (simp; done) | omega | (simp; omega)) : Sim x y := .of_eq h
theorem BSim.q {x y : Blk} (h : x = y := by first | rfl | (simp; done) | omega | (simp; omega)) : BSim x y := .of_eq h
theorem BSim.pushS {T : Type} [Inhabited T] {ty sz n m : Nat} {f : T → List AV} {e1 : Nat → List AV} {l : List T} (h : Seg f n e1 l) {cs cs' : List AV} (t : List T) (hs : SimL cs cs') (hm : m = t.length) (hc : cs' = t.flatMap f) (hf : ∀ x, (f x).length = sz) :
   BSim (.buf ty sz (n + m) (fun k => if k < n then e1 k else elemAt sz cs (k - n))) (bufL ty sz f (l ++ t)) := by
 obtain ⟨rfl, h1⟩ := h
 subst hm hc
 obtain ⟨hl, hss⟩ := hs.spec
 have e : (l ++ t).length = l.length + t.length := List.length_append
 intro h ρ id w B
 obtain ⟨v, xs, q1, q2, q3, q4, q5⟩ := B
 refine ⟨v, xs, by rw [e]; exact q1, by rw [e]; exact q2, fun i hi => hf _, q4, fun i j c x hi hc hx => ?_⟩
 rw [e] at hi
 dsimp only at hc
 by_cases hlt : i < l.length
 · have hg : (l ++ t).getD i default = l.getD i default := by simp [List.getD_eq_getElem?_getD, List.getElem?_append_left hlt]
   rw [hg] at hc
   exact q5 i j c x hi (by simp only [hlt, if_true]; rw [h1 i hlt]; exact hc) hx
 · have hg : (l ++ t).getD i default = t.getD (i - l.length) default := by simp [List.getD_eq_getElem?_getD, List.getElem?_append_right (Nat.le_of_not_lt hlt)]
   rw [hg, ← elemAt_flat hf t (i - l.length) (by omega)] at hc
   obtain ⟨hj, hc⟩ := elemAt_get hc
   have hlt2 : (i - l.length) * sz + j < cs.length := by rw [hl]; exact (List.getElem?_eq_some_iff.1 hc).1
   have h3 : (elemAt sz cs (i - l.length))[j]? = some cs[(i - l.length) * sz + j] := by
     unfold elemAt
     rw [List.getElem?_take, if_pos hj, List.getElem?_drop]
     exact List.getElem?_eq_getElem hlt2
   exact hss _ _ _ (List.getElem?_eq_getElem hlt2) hc _ _ _ (q5 i j _ x hi (by simp only [hlt, if_false]; exact h3) hx)
variable {P : Program} {Γ : Tys} {N : Nat} {C : Ctx} {L : List (Nat × AV)} {M : List (Nat × Blk)} {g : Nat} {rr : Option Nat} {Q : Exit → Act → World → Prop}
theorem W.sr (E : Env P Γ) {id : Nat} {ops : Array Oper} {draw : Bool} {y : Code} (own : List Nat) (rvs : List RV) {A : Acc} (ts ids : List Nat) {L' : List (Nat × AV)} {M' : List (Nat × Blk)} (hr : runR Γ own ops.toList ops.toList rvs L M = some A) (hd : dstOk N ops.toList = true) (ho : drawOk draw ops A.ft = true) (hcs : AllP A.cs)
   (hrq : RqOk P A.rq) (K : W P N rr C y L' M' g Q) (hL : filtL ids A.L ts = some L' := by exact rfl) (hM : filtM ids A.M ids = some M' := by exact rfl) (hs : onlyL ids C.savA = true := by exact rfl) (hz : FzOk own C := by first | exact .inl rfl | exact .inr (fun _ h => h)) : W P N rr C (.seq (.region id ops draw) y) L M g Q :=
 W.seq (W.region E own rvs hr hd ho hcs hrq (At.keep hL hM (At.thenC K) hs) hz)
theorem W.rg (E : Env P Γ) {id : Nat} {ops : Array Oper} {draw : Bool} {y : Code} {A : Acc} (ts ids : List Nat) {L' : List (Nat × AV)} {M' : List (Nat × Blk)} (K : W P N rr C y L' M' g Q) (hr : runR Γ [] ops.toList ops.toList [] L M = some A := by exact rfl) (hd : dstOk N ops.toList = true := by exact rfl) (ho : drawOk draw ops A.ft = true := by exact rfl) (hcs : AllP A.cs := by exact .nil)
   (hrq : RqOk P A.rq := by exact .nil) (hL : filtL ids A.L ts = some L' := by exact rfl) (hM : filtM ids A.M ids = some M' := by exact rfl) (hs : onlyL ids C.savA = true := by exact rfl) : W P N rr C (.seq (.region id ops draw) y) L M g Q :=
 W.sr E [] [] ts ids hr hd ho hcs hrq K hL hM hs (.inl rfl)
end Go.Av
namespace Go.Av
section
variable {N : Nat} {C : Ctx} {L : List (Nat × AV)} {M : List (Nat × Blk)} {g : Nat} {R : Act → World → Prop}
theorem filtM_mem {K : List Nat} {M : List (Nat × Blk)} : ∀ {is : List Nat} {M'' : List (Nat × Blk)}, filtM K M is = some M'' → ∀ i b, mm M'' i = some b → i ∈ is := by
 intro is
 induction is with
 | nil => intro M'' h i b hb; simp only [filtM] at h; cases h; cases hb
 | cons s is ih =>
   intro M'' h i b hb
   simp only [filtM] at h
   split at h
   · cases h
   · split at h
     · split at h
       · rename_i r hr
         cases h
         simp only [mm, upd] at hb
         split at hb
         · rename_i hbe; have := Nat.eq_of_beq_eq_true hbe; subst this; exact List.mem_cons_self ..
         · exact List.mem_cons_of_mem _ (ih hr i b hb)
       · cases h
     · cases h
theorem At.shrink (t id d : Nat) {n b ty sz n' : Nat} {e : Nat → List AV} {K ts : List Nat} {L' : List (Nat × AV)} {M' : List (Nat × Blk)} (ht : fr L t = .sb id n 0 b) (hM : mm M id = some (.buf ty sz n' e)) (hn : n = n') (hbn : b ≤ n') (hK : inList K id = false) (hdK : inList K d = false) (hL : filtL K L ts = some L')
   (hMK : filtM K M K = some M') (Kk : At N C ((t, .buf d b) :: L') ((d, .buf ty sz b e) :: M') g R) (hs : onlyL K C.savA = true := by exact rfl) : At N C L M g R := by
 intro h ρ a w I
 subst hn
 obtain ⟨v0, us, k1, k2, k3, k5, k4⟩ := I.blk id _ hM
 obtain ⟨ρ', hρ, I'⟩ := I.forget hL hMK hs
 have hM2 := fun i z => filtM_mem hMK i z
 have hslot := I.slot t
 rw [ht] at hslot
 obtain ⟨gg, cap, hv0, hv⟩ : ∃ gg cap, v0 = .slice (some ⟨gg, 0, none⟩) n cap ∧ a.tmps.getD t undef = .slice (some ⟨gg, 0, none⟩) b cap := by
   generalize a.tmps.getD t undef = x at hslot
   cases hslot with
   | sb _ _ _ _ _ n1 sz1 _ v1 hb hle h1 he =>
     rw [k1] at hb; cases hb
     obtain ⟨gg, cap, q1, q2⟩ := he rfl
     refine ⟨gg, cap, q1, ?_⟩
     rw [q2]
     split <;> simp
 subst hv0
 have hidK : id ∉ K := fun hk => by rw [inList_of hk] at hK; cases hK
 have hdnK : d ∉ K := fun hk => by rw [inList_of hk] at hdK; cases hdK
 have hinK : ∀ i li, ρ' i = some li → i ∈ K ∧ ρ i = some li := fun i li hi => by
   have hk : i ∈ K := by
     cases hz : mm M' i with
     | none => rw [I'.dom i hz] at hi; cases hi
     | some z => exact hM2 i z hz
   exact ⟨hk, by rw [← hρ i hk]; exact hi⟩
 have hd0 : ρ' d = none := by
   cases hz : ρ' d with
   | none => rfl
   | some li => exact absurd (hinK d li hz).1 hdnK
 have hMd : mm M' d = none := by
   cases hz : mm M' d with
   | none => rfl
   | some y => exact absurd (hM2 d y hz) hdnK
 let ρ2 : Rho := upd ρ' d (some (.sl b sz (.slice (some ⟨gg, 0, none⟩) b cap)))
 have hd2 : ρ2 d = some (.sl b sz (.slice (some ⟨gg, 0, none⟩) b cap)) := upd_same _ _ _
 have hoth : ∀ j, j ≠ d → ρ2 j = ρ' j := fun j hj => upd_other _ _ hj
 have hrl : ∀ j l, ρ' j = some l → ∃ l', ρ2 j = some l' ∧ l.le l' := fun j l hj => by
   have hne : j ≠ d := fun e1 => by subst e1; rw [hd0] at hj; cases hj
   exact ⟨l, by rw [hoth j hne]; exact hj, .inl rfl⟩
 have hout : ∀ i li k, ρ' i = some li → li.owns k → k ≠ gg := fun i li k q1 q2 e1 => by
   subst e1
   obtain ⟨hk, q3⟩ := hinK i li q1
   have := I.inj i id li _ k q3 k1 q2 rfl
   subst this; exact hidK hk
 have hgo := I.own id _ gg k1 rfl
 have hmul : b * sz ≤ n * sz := Nat.mul_le_mul_right _ hbn
 have I2 : InvH N C h ρ2 (fr L') (mm ((d, .buf ty sz b e) :: M')) g a w := by
   refine { I' with slot := fun u => (I'.slot u).mono (Le.refl _) hrl, sav := ⟨I'.sav.1, fun i c x q1 q2 => (I'.sav.2 i c x q1 q2).mono (Le.refl _) hrl⟩, blk := fun i x hx => ?_, dom := fun i hi => ?_, own := fun i li k q1 q2 => ?_, inj := fun i i' li li' k q1 q1' q2 q2' => ?_, gst := ?_ }
   · simp only [mm] at hx
     by_cases e1 : i = d
     · subst e1
       rw [upd_same] at hx; cases hx
       rcases k2.2 with ⟨q, _⟩ | ⟨g1, cap1, cur, q, q0, q3, q4, q5, q6, q7⟩
       · cases q
       cases q
       refine ⟨_, us.take (b * sz), hd2, ⟨by rw [List.length_take, k2.1]; omega, .inr ⟨gg, cap, cur, rfl, q0, q3, Nat.le_trans hbn q4, q5, q6, ?_⟩⟩, fun j hj => k3 j (by omega), fun x hx => k5 x (List.mem_of_mem_take hx), fun j k c x hj hc hx => ?_⟩
       · rw [← q7, List.take_take, Nat.min_eq_left hmul]
       · rw [List.getElem?_take] at hx
         split at hx
         · exact k4 j k c x (by omega) hc hx
         · cases hx
     · rw [upd_other _ _ e1] at hx
       exact (I'.blk i x hx).keep (Le.refl _) (hoth i e1) hrl (fun _ _ _ _ => rfl)
   · simp only [mm] at hi
     by_cases e1 : i = d
     · subst e1; rw [upd_same] at hi; cases hi
     · rw [upd_other _ _ e1] at hi; rw [hoth i e1]; exact I'.dom i hi
   · by_cases e1 : i = d
     · subst e1
       rw [hd2] at q1; cases q1
       have e2 : gg = k := by have : some gg = some k := q2; exact Option.some.inj this
       subst e2; exact hgo
     · rw [hoth i e1] at q1; exact I'.own i li k q1 q2
   · have key : ∀ k, (LI.sl b sz (.slice (some ⟨gg, 0, none⟩) b cap)).owns k → gg = k := fun k q => Option.some.inj (show some gg = some k from q)
     by_cases e1 : i = d
     · by_cases e2 : i' = d
       · rw [e1, e2]
       · rw [e1, hd2] at q1; cases q1
         rw [hoth i' e2] at q1'
         exact absurd (key k q2).symm (hout i' li' k q1' q2')
     · by_cases e2 : i' = d
       · rw [e2, hd2] at q1'; cases q1'
         rw [hoth i e1] at q1
         exact absurd (key k q2').symm (hout i li k q1 q2)
       · rw [hoth i e1] at q1; rw [hoth i' e2] at q1'
         exact I'.inj i i' li li' k q1 q1' q2 q2'
   · obtain ⟨X, x1, x2, x3⟩ := I.gst
     refine ⟨X, fun k ⟨i, li, q1, q2⟩ => ?_, x2, x3⟩
     by_cases e1 : i = d
     · subst e1
       rw [hd2] at q1; cases q1
       exact x1 k ⟨id, _, k1, q2⟩
     · rw [hoth i e1] at q1
       exact x1 k ⟨i, li, (hinK i li q1).2, q2⟩
 refine Kk h ρ2 a w { I2 with slot := fun u => ?_ }
 simp only [fr, put]
 split
 · rename_i hb
   have := Nat.eq_of_beq_eq_true hb
   subst this
   rw [hv]
   exact .buf _ _ _ _ _ _ _ hd2 (Nat.le_refl _) rfl (fun _ => rfl)
 · exact I2.slot u
end
theorem Seg.cleared {T : Type} [Inhabited T] {f : T → List AV} {n a b : Nat} {e : Nat → List AV} {z : List AV} {l : List T} (h : Seg f n e l) (x : T) (hz : z = f x) (hb : b ≤ l.length) : Seg f n (fun q => if a ≤ q ∧ q < b then z else e q) (Sp.copyAt l a (b - a) (fun _ => x)) := by
 obtain ⟨rfl, g1⟩ := h
 subst hz
 refine ⟨by simp [Sp.copyAt], fun k hk => ?_⟩
 have : (Sp.copyAt l a (b - a) (fun _ => x)).getD k default = if a ≤ k ∧ k < a + (b - a) then x else l.getD k default := by
   simp only [Sp.copyAt, List.getD_eq_getElem?_getD, List.getElem?_map, List.getElem?_range hk, Option.map_some, Option.getD_some]
 rw [this]
 dsimp only
 by_cases h : a ≤ k ∧ k < b
 · rw [if_pos h, if_pos (by omega)]
 · rw [if_neg h, if_neg (by omega)]; exact g1 k hk
theorem Seg.first {T : Type} [Inhabited T] {f : T → List AV} {n b : Nat} {e : Nat → List AV} {l : List T} (h : Seg f n e l) (hb : b ≤ n) : Seg f b e (l.take b) := by
 obtain ⟨rfl, g1⟩ := h
 refine ⟨by rw [List.length_take]; omega, fun k hk => ?_⟩
 rw [g1 k (by omega)]
 simp [List.getD_eq_getElem?_getD, List.getElem?_take, hk]
end Go.Av
end
/- The bridge: from what an argument reads as (a row's data) to the abstract value that it is; from a contract to a row's statement that a law returns true and leaves its arguments as they were. -/
section
set_option linter.all false
namespace Go.Av
open Go.RowKit Go.WideShapes Go.ChangeShapes
def Wt {H : Type} (P : Program) (t : TypeId) (d : DataW H) : Prop := ∀ q ∈ d.weights P t, q ≤ reachBytes
theorem wt_all {H : Type} {P : Program} {e : TypeId} : ∀ {ds : List (DataW H)} {d : DataW H}, d ∈ ds → ∀ q ∈ d.weights P e, q ∈ DataW.weightsAll P e ds
 | x :: ds, d, h, q, hq => by
   simp only [DataW.weightsAll, List.mem_append]
   rcases List.mem_cons.1 h with rfl | h
   · exact .inl hq
   · exact .inr (wt_all h q hq)
theorem wt_left {H : Type} {P : Program} : ∀ {ts us : List TypeId} {ds gs : List (DataW H)}, ∀ q ∈ DataW.weightsEach P ts ds, q ∈ DataW.weightsEach P (ts ++ us) (ds ++ gs)
 | [], us, ds, gs, q, h => by cases ds <;> simp [DataW.weightsEach] at h
 | t :: ts, us, [], gs, q, h => by simp [DataW.weightsEach] at h
 | t :: ts, us, d :: ds, gs, q, h => by
   simp only [DataW.weightsEach, List.cons_append, List.mem_append] at h ⊢
   rcases h with h | h
   · exact .inl h
   · exact .inr (wt_left q h)
structure Opn (P : Program) (t : TypeId) (sz : Nat) {X : Type} (e : X → List AV) (ok : X → Prop) : Prop where
 len : ∀ x, (e x).length = sz
 cells : P.cellsOf t = sz
 read : ∀ (H : Type) (enc : TypeId × Value → H) (W : World) (n : Nat) (cs : List Value) (r : DataW H × List MemPlace), DataW.trod enc P W 0 (fun _ => true) true n t cs = some r → Wt P t r.1 →
   ∃ x, RelL (fun b => W.heap[b]?) ρ0 (e x) cs ∧ ok x ∧ ∀ v ∈ cs, v.oneCell' = true
theorem Opn.int {P : Program} {t : TypeId} (ht : P.underlying t = some (.int .i64)) (hc : P.cellsOf t = 1) : Opn P t 1 (fun x : Int => [.int .i64 x]) inI :=
 ⟨fun _ => rfl, hc, fun H enc W n cs r h _ => by
   obtain ⟨x, rfl, rfl, hw⟩ := DataW.trod_int ht h
   refine ⟨x, RelL.cons (.int _ _ _) (RelL.nil _ _), ?_, fun v hv => ?_⟩
   · have := bounds_i64 hw
     exact this
   · simp at hv; subst hv; rfl⟩
theorem Opn.bool {P : Program} {t : TypeId} (ht : P.underlying t = some .bool) (hc : P.cellsOf t = 1) : Opn P t 1 (fun x : Bool => [.bool x]) (fun _ => True) :=
 ⟨fun _ => rfl, hc, fun H enc W n cs r h _ => by
   obtain ⟨x, rfl, rfl⟩ := DataW.trod_bool ht h
   refine ⟨x, RelL.cons (.bool _ _) (RelL.nil _ _), trivial, fun v hv => ?_⟩
   simp at hv; subst hv; rfl⟩
theorem Opn.map {P : Program} {t : TypeId} {sz : Nat} {X Y : Type} {e : X → List AV} {ok : X → Prop} (h : Opn P t sz e ok) (f : X → Y) {e' : Y → List AV} {ok' : Y → Prop}
   (hl : ∀ y, (e' y).length = sz) (he : ∀ x, e' (f x) = e x) (ho : ∀ x, ok x → ok' (f x)) : Opn P t sz e' ok' :=
 ⟨hl, h.cells, fun H enc W n cs r hr hz => by
   obtain ⟨x, h1, h2, h3⟩ := h.read H enc W n cs r hr hz
   exact ⟨f x, by rw [he]; exact h1, ho x h2, h3⟩⟩
structure OpnF (P : Program) (fs : List (Nat × TypeId)) (off sz : Nat) {X : Type} (e : X → List AV) (ok : X → Prop) : Prop where
 len : ∀ x, (e x).length = sz
 read : ∀ (H : Type) (enc : TypeId × Value → H) (W : World) (n : Nat) (cs : List Value), cs.length = off + sz →
   (∀ f ∈ fs, ∃ r, DataW.trod enc P W 0 (fun _ => true) true n f.2 ((cs.drop f.1).take (P.cellsOf f.2)) = some r ∧ Wt P f.2 r.1) →
   ∃ x, RelL (fun b => W.heap[b]?) ρ0 (e x) (cs.drop off) ∧ ok x ∧ ∀ v ∈ cs.drop off, v.oneCell' = true
theorem OpnF.nil {P : Program} {off : Nat} : OpnF P [] off 0 (fun _ : Unit => []) (fun _ => True) :=
 ⟨fun _ => rfl, fun H enc W n cs hl _ => ⟨(), by rw [List.drop_eq_nil_of_le (by omega)]; exact RelL.nil _ _, trivial, by rw [List.drop_eq_nil_of_le (by omega)]; simp⟩⟩
theorem OpnF.cons {P : Program} {t : TypeId} {fs : List (Nat × TypeId)} {off s sz : Nat} {X Y : Type} {e : X → List AV} {ok : X → Prop} {e' : Y → List AV} {ok' : Y → Prop}
   (h : Opn P t s e ok) (h' : OpnF P fs (off + s) sz e' ok') : OpnF P ((off, t) :: fs) off (s + sz) (fun x : X × Y => e x.1 ++ e' x.2) (fun x => ok x.1 ∧ ok' x.2) :=
 ⟨fun x => by rw [List.length_append, h.len, h'.len], fun H enc W n cs hl hr => by
   obtain ⟨r, hr1, hr2⟩ := hr (off, t) (List.mem_cons_self ..)
   obtain ⟨x, h1, h2, h3⟩ := h.read H enc W n _ r hr1 hr2
   obtain ⟨y, k1, k2, k3⟩ := h'.read H enc W n cs (by omega) (fun f hf => hr f (List.mem_cons_of_mem _ hf))
   have e1 : cs.drop off = (cs.drop off).take s ++ cs.drop (off + s) := by
     rw [← List.drop_drop, List.take_append_drop]
   rw [h.cells] at h1 h3
   refine ⟨(x, y), ?_, ⟨h2, k2⟩, fun v hv => ?_⟩
   · rw [e1]; exact RelL.append h1 k1
   · rw [e1, List.mem_append] at hv
     exact hv.elim (h3 v) (k3 v)⟩
theorem Opn.struct {P : Program} {t : TypeId} {fs : Array Field} {sz : Nat} {X Y : Type} {e : X → List AV} {ok : X → Prop} (ht : P.underlying t = some (.struct fs)) (hc : P.cellsOf t = sz)
   (h : OpnF P (fs.toList.map fun f => (f.offset, f.type)) 0 sz e ok) (f : X → Y) {e' : Y → List AV} {ok' : Y → Prop}
   (hl : ∀ y, (e' y).length = sz) (he : ∀ x, e' (f x) = e x) (ho : ∀ x, ok x → ok' (f x)) : Opn P t sz e' ok' :=
 ⟨hl, hc, fun H enc W n cs r hr hz => by
   obtain ⟨xs, m, rfl, rfl, hlen, hx, hi⟩ := DataW.trod_struct ht hr
   obtain ⟨x, h1, h2, h3⟩ := h.read H enc W m cs (by rw [hlen, hc]; omega) (fun g hg => by
     obtain ⟨f0, hf0, rfl⟩ := List.mem_map.1 hg
     obtain ⟨i, hi1, hi2⟩ := List.getElem_of_mem hf0
     have hh := hi i f0 (by rw [← hi2]; simp)
     have hxi : i < xs.length := by rw [hx]; simpa using hi1
     refine ⟨xs[i]'hxi, ?_, fun q hq => hz q ?_⟩
     · rw [hh, List.getElem?_eq_getElem]
     · simp only [DataW.weights, ht]
       exact DataW.weights_mem_each (j := i) (t := f0.type) (d := (xs[i]'hxi).1) (by rw [List.getElem?_map, List.getElem?_eq_getElem hi1, hi2]; rfl) (by rw [List.getElem?_map, List.getElem?_eq_getElem hxi]; rfl) q hq)
   rw [List.drop_zero] at h1 h3
   exact ⟨f x, by rw [he]; exact h1, ho x h2, h3⟩⟩
def arrF (s : Nat) (t : TypeId) (off : Nat) : Nat → List (Nat × TypeId)
 | 0 => []
 | n + 1 => (off, t) :: arrF s t (off + s) n
theorem mem_arrF {s : Nat} {t : TypeId} : ∀ {n off : Nat} {f : Nat × TypeId}, f ∈ arrF s t off n → ∃ i, i < n ∧ f = (off + i * s, t)
 | 0, _, _, h => by cases h
 | n + 1, off, f, h => by
   rcases List.mem_cons.1 h with rfl | h
   · exact ⟨0, by omega, by simp⟩
   · obtain ⟨i, hi, rfl⟩ := mem_arrF h
     exact ⟨i + 1, by omega, by rw [Nat.add_mul]; simp; omega⟩
theorem Opn.array {P : Program} {t u : TypeId} {n s sz : Nat} {X Y : Type} {e : X → List AV} {ok : X → Prop} (ht : P.underlying t = some (.array n u)) (hc : P.cellsOf t = sz) (hu : P.cellsOf u = s)
   (h : OpnF P (arrF s u 0 n) 0 sz e ok) (f : X → Y) {e' : Y → List AV} {ok' : Y → Prop}
   (hl : ∀ y, (e' y).length = sz) (he : ∀ x, e' (f x) = e x) (ho : ∀ x, ok x → ok' (f x)) : Opn P t sz e' ok' :=
 ⟨hl, hc, fun H enc W m cs r hr hz => by
   obtain ⟨xs, m, rfl, rfl, hlen, hx, hi⟩ := DataW.trod_array ht hr
   obtain ⟨x, h1, h2, h3⟩ := h.read H enc W m cs (by rw [hlen, hc]; omega) (fun g hg => by
     obtain ⟨i, hi1, rfl⟩ := mem_arrF hg
     have hh := hi i hi1
     have hxi : i < xs.length := by rw [hx]; exact hi1
     refine ⟨xs[i]'hxi, ?_, fun q hq => hz q ?_⟩
     · rw [hu] at hh ⊢
       simp only [Nat.zero_add]
       rw [hh, List.getElem?_eq_getElem]
     · simp only [DataW.weights, ht]
       exact wt_all (List.mem_map.2 ⟨_, List.getElem_mem hxi, rfl⟩) q hq)
   rw [List.drop_zero] at h1 h3
   exact ⟨f x, by rw [he]; exact h1, ho x h2, h3⟩⟩
theorem choose_list {X : Type} [Inhabited X] {p : Nat → X → Prop} : ∀ (n : Nat), (∀ i, i < n → ∃ x, p i x) → ∃ l : List X, l.length = n ∧ ∀ i, i < n → p i (l.getD i default)
 | 0, _ => ⟨[], rfl, fun i hi => by omega⟩
 | n + 1, h => by
   obtain ⟨l, h1, h2⟩ := choose_list n (fun i hi => h i (by omega))
   obtain ⟨x, hx⟩ := h n (by omega)
   refine ⟨l ++ [x], by simp [h1], fun i hi => ?_⟩
   by_cases hn : i < n
   · have : (l ++ [x]).getD i default = l.getD i default := by
       simp [List.getD_eq_getElem?_getD, List.getElem?_append_left (h1 ▸ hn)]
     rw [this]; exact h2 i hn
   · have hi' : i = n := by omega
     subst hi'
     have : (l ++ [x]).getD i default = x := by
       simp [List.getD_eq_getElem?_getD, List.getElem?_append_right (Nat.le_of_eq h1), h1]
     rw [this]; exact hx
theorem cells?_get {w : World} {a : Addr} {n : Nat} {cs : List Value} (h : w.cells? 0 a n = some cs) : cs.length = n ∧ ∀ j, j < n → w.cell? (a.add j) = cs[j]? := by
 unfold World.cells? at h
 rw [if_pos (Nat.zero_le _)] at h
 exact ⟨by rw [mapM_some_length h]; simp, fun j hj => mapM_some_get h j j (by simp [hj])⟩
theorem Opn.slice {P : Program} {t u : TypeId} {s : Nat} {X : Type} [Inhabited X] {e : X → List AV} {ok : X → Prop} {k : Nat} (ht : P.underlying t = some (.slice u)) (hc : P.cellsOf t = 1) (h : Opn P u s e ok) (hs : 0 < s) (hb : 1 ≤ k ∧ k ≤ P.bytesOf u) :
   Opn P t 1 (fun l : List X => [roL s e l]) (fun l => l.length * k ≤ 140737488351232 ∧ ∀ x ∈ l, ok x) :=
 ⟨fun _ => rfl, hc, fun H enc W m cs r hr hz => by
   rcases DataW.trod_slice ht hr with ⟨rfl, _⟩ | ⟨a, len, cap, elems, rest, n, rfl, rfl, rfl, -, hlc, hcm, hel, hi, -, -⟩
   · refine ⟨[], RelL.cons (.ro _ _ _ _ _ _ (fun _ => rfl) ⟨Nat.le_refl _, Nat.zero_le _⟩ (fun i hi => by cases hi) (fun i j hi => by cases hi) (fun k v hk => by simp at hk) (fun i j c v hi => by cases hi)) (RelL.nil _ _), ⟨by simp, by simp⟩, fun v hv => ?_⟩
     simp at hv; subst hv; rfl
   · have hz : ∀ q ∈ DataW.weights P t (.slice (elems.map (·.1)) (rest.map (·.1)) : DataW H), q ≤ reachBytes := hz
     have ew : DataW.weights P t (.slice (elems.map (·.1)) (rest.map (·.1)) : DataW H) = ((elems.map (·.1)).length + (rest.map (·.1)).length) * P.bytesOf u :: (DataW.weightsAll P u (elems.map (·.1)) ++ DataW.weightsAll P u (rest.map (·.1))) := by simp only [DataW.weights, ht]
     rw [ew] at hz
     obtain ⟨l, hl, hp⟩ := choose_list (X := X) (p := fun i x => ∃ ys : List Value, W.cells? 0 (a.add (i * s)) s = some ys ∧ RelL (fun b => W.heap[b]?) ρ0 (e x) ys ∧ ok x ∧ ∀ v ∈ ys, v.oneCell' = true) len (fun i hi' => by
       have := hi i hi'
       rw [h.cells, List.getElem?_eq_getElem (by omega)] at this
       obtain ⟨ys, h1, h2⟩ := Option.bind_eq_some_iff.1 this
       obtain ⟨x, k1, k2, k3⟩ := h.read H enc W n ys _ h2 (fun q hq => hz q (List.mem_cons_of_mem _ (List.mem_append_left _ (wt_all (List.mem_map.2 ⟨_, List.getElem_mem _, rfl⟩) q hq))))
       exact ⟨x, ys, h1, k1, k2, k3⟩)
     have hbig0 : len * k ≤ 140737488351232 := by
       have h1 := hz _ List.mem_cons_self
       rw [List.length_map, List.length_map] at h1
       have h2 : reachBytes = 140737488351232 := rfl
       have h3 : len * k ≤ (elems.length + rest.length) * P.bytesOf u := Nat.mul_le_mul (by omega) hb.2
       omega
     have hbig : len ≤ 140737488351232 := Nat.le_trans (Nat.le_mul_of_pos_right _ hb.1) hbig0
     subst hl
     have cell : ∀ i j, i < l.length → j < s → ∃ ys : List Value, ys.length = s ∧ RelL (fun b => W.heap[b]?) ρ0 (e (l.getD i default)) ys ∧ (∀ v ∈ ys, v.oneCell' = true) ∧ hcell (fun b => W.heap[b]?) (some a) (i * s + j) = ys[j]? := by
       intro i j hi' hj
       obtain ⟨ys, h1, h2, _, h4⟩ := hp i hi'
       obtain ⟨k1, k2⟩ := cells?_get h1
       refine ⟨ys, k1, h2, h4, ?_⟩
       rw [← k2 j hj, Addr.add_add]
       rfl
     refine ⟨l, RelL.cons (.ro _ _ _ _ _ _ (fun h => by cases h) ⟨hlc, by omega⟩ (fun i _ => h.len _) (fun i j hi' hj => ?_) (fun k v hk hv => ?_) (fun i j c v hi' hcj hv => ?_)) (RelL.nil _ _), ⟨hbig0, fun x hx => ?_⟩, fun v hv => ?_⟩
     · obtain ⟨ys, k1, _, _, k4⟩ := cell i j hi' hj
       rw [k4, List.getElem?_eq_getElem (by omega)]; rfl
     · obtain ⟨ys, k1, _, k3, k4⟩ := cell (k / s) (k % s) (by rw [Nat.div_lt_iff_lt_mul hs]; exact hk) (Nat.mod_lt _ hs)
       rw [Nat.mul_comm, Nat.div_add_mod] at k4
       rw [k4] at hv
       exact k3 v (List.mem_of_getElem? hv)
     · have hj : j < s := by
         have := (List.getElem?_eq_some_iff.1 hcj).1
         rwa [h.len] at this
       obtain ⟨ys, k1, k2, _, k4⟩ := cell i j hi' hj
       rw [k4] at hv
       exact k2.2 j c v hcj hv
     · obtain ⟨i, hi1, rfl⟩ := List.getElem_of_mem hx
       obtain ⟨_, _, _, h3, _⟩ := hp i (by omega)
       rw [List.getD_eq_getElem?_getD, List.getElem?_eq_getElem hi1] at h3
       exact h3
     · simp at hv; subst hv; rfl⟩
def OpnT (P : Program) (t : TypeId) {X : Type} (e : X → AV) (ok : X → Prop) : Prop :=
 ∀ (H : Type) (enc : TypeId × Value → H) (W : World) (base : Nat) (v : Value) (d : DataW H) (ps : List MemPlace), Value.okWide P W .any base t v → DataW.Trod enc P W 0 (fun _ => true) true t v d ps → Wt P t d →
   ∃ x, Rel (fun b => W.heap[b]?) ρ0 (e x) v ∧ ok x
theorem OpnT.struct {P : Program} {t : TypeId} {fs : Array Field} {sz : Nat} {X : Type} {e : X → List AV} {ok : X → Prop} (ht : P.underlying t = some (.struct fs)) (h : Opn P t sz e ok) : OpnT P t (fun x => .agg (e x)) ok := by
 intro H enc W base v d ps hv hd hz
 obtain ⟨cs, rfl, _⟩ := okWide_struct ht hv
 obtain ⟨n, hn⟩ := hd
 obtain ⟨x, h1, h2, _⟩ := h.read H enc W n _ _ hn hz
 refine ⟨x, ?_, h2⟩
 have : (Value.agg cs) = .agg (Value.agg cs).cells.toList.toArray := by simp [Value.cells]
 rw [this]
 exact .agg _ _ _ h1.1 h1.2
theorem OpnT.array {P : Program} {t u : TypeId} {n sz : Nat} {X : Type} {e : X → List AV} {ok : X → Prop} (ht : P.underlying t = some (.array n u)) (h : Opn P t sz e ok) : OpnT P t (fun x => .agg (e x)) ok := by
 intro H enc W base v d ps hv hd hz
 obtain ⟨cs, rfl⟩ : ∃ cs, v = .agg cs := by
   simp only [Value.okWide, ht] at hv
   obtain ⟨cs, h1, _⟩ := hv
   exact ⟨cs, h1⟩
 obtain ⟨n, hn⟩ := hd
 obtain ⟨x, h1, h2, _⟩ := h.read H enc W n _ _ hn hz
 refine ⟨x, ?_, h2⟩
 have : (Value.agg cs) = .agg (Value.agg cs).cells.toList.toArray := by simp [Value.cells]
 rw [this]
 exact .agg _ _ _ h1.1 h1.2
theorem OpnT.int {P : Program} {t : TypeId} (ht : P.underlying t = some (.int .i64)) : OpnT P t (fun x : Int => .int .i64 x) inI := by
 intro H enc W base v d ps hv hd hz
 obtain ⟨n, rfl⟩ := okWide_int ht hv
 obtain ⟨m, hn⟩ := hd
 obtain ⟨x, h1, _, hw⟩ := DataW.trod_int ht hn
 simp only [Value.cells, List.cons.injEq, Value.int.injEq, and_true, true_and] at h1
 subst h1
 exact ⟨n, .int _ _ _, bounds_i64 hw⟩
theorem OpnT.bool {P : Program} {t : TypeId} (ht : P.underlying t = some .bool) : OpnT P t (fun x : Bool => .bool x) (fun _ => True) := by
 intro H enc W base v d ps hv hd hz
 obtain ⟨n, rfl⟩ := okWide_bool ht hv
 exact ⟨n, .bool _ _, trivial⟩
theorem OpnT.slice {P : Program} {t u : TypeId} {s : Nat} {X : Type} [Inhabited X] {e : X → List AV} {ok : X → Prop} {k : Nat} (ht : P.underlying t = some (.slice u)) (hc : P.cellsOf t = 1) (h : Opn P u s e ok) (hs : 0 < s) (hb : 1 ≤ k ∧ k ≤ P.bytesOf u) :
   OpnT P t (fun l : List X => roL s e l) (fun l => l.length * k ≤ 140737488351232 ∧ ∀ x ∈ l, ok x) := by
 intro H enc W base v d ps hv hd hz
 obtain ⟨a, len, cap, rfl⟩ := okWide_slice ht hv
 obtain ⟨n, hn⟩ := hd
 obtain ⟨x, h1, h2, _⟩ := (Opn.slice ht hc h hs hb).read H enc W n _ _ hn hz
 exact ⟨x, h1.2 0 _ _ (by simp) (by simp [Value.cells]), h2⟩
def OpnA (P : Program) (ts : List TypeId) {X : Type} (e : X → List AV) (ok : X → Prop) : Prop :=
 ∀ (H : Type) (enc : TypeId × Value → H) (W : World) (base : Nat) (vs : List Value) (ds : List (DataW H)) (ps : List MemPlace), (∀ (j : Nat) t v, ts[j]? = some t → vs[j]? = some v → Value.okWide P W .any base t v) →
   DataW.TrodAll enc P W 0 (fun _ => true) true ts vs ds ps → (∀ q ∈ DataW.weightsEach P ts ds, q ≤ reachBytes) → ds.length = ts.length ∧ ∃ x, RelL (fun b => W.heap[b]?) ρ0 (e x) vs ∧ ok x
theorem OpnA.nil {P : Program} : OpnA P [] (fun _ : Unit => []) (fun _ => True) := by
 intro H enc W base vs ds ps _ h _
 obtain ⟨rfl, rfl, _⟩ := trodAll_nil h
 exact ⟨rfl, (), RelL.nil _ _, trivial⟩
theorem OpnA.cons {P : Program} {t : TypeId} {ts : List TypeId} {X Y : Type} {e : X → AV} {ok : X → Prop} {e' : Y → List AV} {ok' : Y → Prop} (h : OpnT P t e ok) (h' : OpnA P ts e' ok') :
   OpnA P (t :: ts) (fun x : X × Y => e x.1 :: e' x.2) (fun x => ok x.1 ∧ ok' x.2) := by
 intro H enc W base vs ds ps hv hA hz
 obtain ⟨v, vs', d, ds', p, q, rfl, rfl, rfl, h1, h2⟩ := trodAll_cons hA
 obtain ⟨x, k1, k2⟩ := h H enc W base v d p (hv 0 t v (by simp) (by simp)) h1 (fun q hq => hz q (by simp only [DataW.weightsEach, List.mem_append]; exact .inl hq))
 obtain ⟨hl, y, k3, k4⟩ := h' H enc W base vs' ds' q (fun j t' v' a b => hv (j + 1) t' v' (by simpa using a) (by simpa using b)) h2 (fun q hq => hz q (by simp only [DataW.weightsEach, List.mem_append]; exact .inr hq))
 exact ⟨by simp [hl], (x, y), RelL.cons k1 k3, k2, k4⟩
theorem post_fresh {H : Type} {enc : TypeId × Value → H} {P : Program} {f : Func} {s : ChangeSpec} {apart fresh handsOn again : Bool} {W W' : World} {args : Array Value} {v : Value} {ds gs : List (DataW H)} {before pa pv : List MemPlace}
   (hW : DataW.Whole enc P f.params.toList s.vars apart W args.toList ds gs before)
   (hres : ∀ (b : Nat) (sp : Nat → Bool) (hd : Bool), DataW.TrodAll enc P W' b sp hd f.resultTypes.toList (v.resultList f.resultTypes.size) (s.fn H (ds ++ gs)).results [])
   (hargs : ∀ sp : Nat → Bool, (∀ p ∈ before, sp p.block = true) → DataW.TrodAll enc P W' 0 sp true f.params.toList args.toList (s.fn H (ds ++ gs)).args pa)
   (hvars : ∀ sp : Nat → Bool, (∀ p ∈ before, sp p.block = true) → DataW.TrodVars enc P W' sp s.vars (s.fn H (ds ++ gs)).vars pv)
   (hps : before = pa ++ pv) (hb : Below W.heap.size W W')
   (hok : ∀ (j : Nat) (t : TypeId) (r : Value), f.resultTypes[j]? = some t → (v.resultList f.resultTypes.size)[j]? = some r → Value.okWide P W' .any 0 t r) :
   s.post enc P f apart fresh handsOn again W args v W' := by
 have hlt : ∀ p ∈ before, p.block < W.heap.size := fun p hp => hW.lt p hp
 have hold : ∀ p ∈ before, (fun b => decide (b < W.heap.size)) p.block = true := fun p hp => by simpa using hlt p hp
 refine ⟨ds, gs, before, [], pa, pv, hW, hres _ _ _, hargs _ hold, hvars _ hold, World.keptBut_mono (fun p hp => ⟨hp, ?_⟩) (hb.frame (· ∈ before)), fun _ => ?_⟩
 · rw [hps, List.mem_append] at hp
   exact Or.inr hp
 · obtain ⟨_, _, _, _, _, hz, hn⟩ := hW
   refine ⟨hok, _, _, ([] ++ pa) ++ pv, ⟨[] ++ pa, pv, trodAll_append (hargs _ (fun _ _ => rfl)) (hres _ _ _), hvars _ (fun _ _ => rfl), rfl, ?_, ?_⟩, ?_⟩
   · intro b off hp
     have hin : MemPlace.cell b off ∈ before := by rw [hps]; simpa using hp
     rw [hb.frozen (hlt _ hin)]
     exact hz b off hin
   · intro ha
     have := hn ha
     rw [hps] at this
     simpa using this
   · intro p hp _
     rw [hps]
     simpa using hp
theorem TrodAll_carry {H : Type} {enc : TypeId × Value → H} {P : Program} {w w' : World} {base : Nat} {spare : Nat → Bool} {held : Bool} : ∀ {ts : List TypeId} {vs : List Value} {ds : List (DataW H)} {ps : List MemPlace},
   DataW.TrodAll enc P w base spare held ts vs ds ps → (∀ p ∈ ps, w.sameAt w' p) → DataW.TrodAll enc P w' base spare held ts vs ds ps
 | [], [], [], _, h, _ => h
 | _ :: _, _ :: _, _ :: _, _, ⟨p, q, ⟨n, h1⟩, h2, e⟩, hs => ⟨p, q, ⟨n, DataW.trod_carry n _ _ _ h1 (fun x hx => hs x (by rw [e]; exact List.mem_append_left _ hx))⟩,
     TrodAll_carry h2 (fun x hx => hs x (by rw [e]; exact List.mem_append_right _ hx)), e⟩
theorem law_calls {P : Program} {f : FuncId} {fn : Func} {s : ChangeSpec} {apart fresh handsOn again : Bool} {X : Type} {e : X → List AV} {ok : X → Prop} {tb : TypeId}
   (hkids : Kids P (· < P.types.size)) (hfull : ∀ t e, t < P.types.size → P.underlying t = some (.slice e) → 0 < P.cellsOf e) (hp : fn.params.toList.all (· < P.types.size) = true)
   (hA : OpnA P fn.params.toList e ok) (hs : s.vars = []) (hfn : ∀ (H : Type) (ds : List (DataW H)), ds.length = fn.params.toList.length → s.fn H ds = ⟨[.lit (.bool true)], ds, []⟩)
   (hr : fn.resultTypes = #[tb]) (htb : P.underlying tb = some .bool) (hC : ∀ x, ok x → Ctr P f (e x) (.bool true))
   (H : Type) (enc : TypeId × Value → H) (W : World) (base : Nat) (args : Array Value) (ds gs : List (DataW H)) (before : List MemPlace)
   (hval : ∀ (j : Nat) t v, fn.params[j]? = some t → args[j]? = some v → Value.okWide P W .any base t v) (hW : DataW.Whole enc P fn.params.toList s.vars apart W args.toList ds gs before)
   (hbig : (DataW.weightsEach P (fn.params.toList ++ s.plain.varTypes P) (ds ++ gs)).all (· ≤ reachBytes) = true) :
   Calls P f args W fun e W' => ∃ v, e = .returned v ∧ s.post enc P fn apart fresh handsOn again W args v W' := by
 obtain ⟨p, q, hT, hV, hps, hz, hn⟩ := id hW
 have hV' := hV
 rw [hs] at hV'
 obtain ⟨rfl, rfl⟩ := trodVars_none hV'
 obtain ⟨hl, x, hx, hok⟩ := hA H enc W base args.toList ds p (fun j t v a b => hval j t v (by simpa using a) (by simpa using b)) hT (fun q hq => by have := List.all_eq_true.1 hbig q (wt_left q hq); simpa using this)
 have hc := ((hC x hok).2 (fun b => W.heap[b]?) W args.toList hx (fun b o h => h)).calls (fun k d hd => by cases hd)
 rw [Array.toArray_toList] at hc
 refine hc.mono fun en W' hpost => ?_
 cases en with
 | panicked c => exact hpost.elim
 | outgrown => exact hpost.elim
 | returned v =>
   obtain ⟨h', ρ', hb, _, _, hv, _⟩ := hpost
   cases hv
   refine ⟨_, rfl, post_fresh (pa := p) (pv := []) hW (fun b sp hd => ?_) (fun sp hsp => ?_) (fun sp hsp => ?_) hps hb (fun j t r h1 h2 => ?_)⟩
   · rw [List.append_nil, hfn H ds hl, hr]
     exact ⟨[], [], shut_bool htb true, rfl, rfl⟩
   · rw [List.append_nil, hfn H ds hl]
     have hlt : ∀ y ∈ p, y.block < W.heap.size := fun y hy => hW.lt y (by rw [hps]; exact List.mem_append_left _ hy)
     exact TrodAll_carry (DataW.TrodAll.respare hkids hfull (fun t ht => by simpa using List.all_eq_true.1 hp t ht) hT (fun y hy => hsp y (by rw [hps]; exact List.mem_append_left _ hy))) (fun y hy => hb.same (hlt y hy))
   · rw [List.append_nil, hfn H ds hl, hs]
     rfl
   · rw [hr] at h1 h2
     have hj : j = 0 := by
       have := (Array.getElem?_eq_some_iff.1 h1).1
       simpa using this
     subst hj
     simp [Value.resultList] at h1 h2
     subst h1 h2
     simp [Value.okWide, htb, Cell.okWide, Cell.ok]
end Go.Av
end
/- Printed by gen.py. -/
section
set_option linter.all false
set_option linter.unusedVariables false
namespace Go.Sp
open Go.Av
structure Task where
 Lamp : Int
 Place : Int
 At : Int
 Serve : Int
 deriving Inhabited, DecidableEq
structure Range where
 Lo : Int
 Hi : Int
 deriving Inhabited, DecidableEq
structure Hand where
 Id : Int
 From : Int
 To : Int
 deriving Inhabited, DecidableEq
structure Crew where
 Tasks : (List Task)
 Travel : (List (List Range))
 Hands : (List Hand)
 deriving Inhabited, DecidableEq
structure gasolierlaw04_Plan where
 Rounds : (List (List Int))
 Cut : (List Int)
 Size : Int
 Walks : (List (List Int))
 Hands : (List Int)
 deriving Inhabited, DecidableEq
structure crew_plan where
 Crew : Crew
 next : (List Int)
 deriving Inhabited, DecidableEq
structure crew_shift where
 plan : (Option crew_plan)
 rounds : (List (List Int))
 deriving Inhabited, DecidableEq
structure gasolierlaw04_One where
 Task : Task
 Hand : Hand
 Lamp : Int
 Minute : Int
 deriving Inhabited, DecidableEq
structure gasolierref04_Job where
 Crew : Crew
 Rounds : (List (List Int))
 Of : (List Int)
 Seen : (List Bool)
 deriving Inhabited, DecidableEq
def crew_in (p0 : Int) (p1 : Int) (p2 : Int) : Bool :=
 ((decide (p1 ≤ p0)) && (decide (p0 ≤ p2)))
def crew_isTravel (p0 : (List (List Range))) : Option Bool :=
 (bif (decide (12 < ((p0.length : Nat) : Int))) then some false else (rangeGo (fun i2 (s2 : Unit) k2 => must (((!(!decide ((((p0.getD i2 default).length : Nat) : Int) = ((p0.length : Nat) : Int)))) = true → (0 ≤ ((i2 : Int) : Int) ∧ ((i2 : Int) : Int) < (((p0.getD i2 default).length : Nat) : Int)))) <| (bif ((!decide ((((p0.getD i2 default).length : Nat) : Int) = ((p0.length : Nat) : Int))) || (!((decide (((p0.getD i2 default).getD i2 default).Lo = 0)) && (decide (((p0.getD i2 default).getD i2 default).Hi = 0))))) then some false else (rangeGo (fun i6 (s6 : Unit) k6 => (bif ((!(crew_in (((p0.getD i2 default).getD i6 default).Lo) 0 (((p0.getD i2 default).getD i6 default).Hi))) || (decide (600 < ((p0.getD i2 default).getD i6 default).Hi))) then some false else k6 ())) (fun (s6 : Unit) => k2 ()) ((p0.getD i2 default).length) 0 ()))) (fun (s2 : Unit) => (rangeGo (fun i9 (s9 : Unit) k9 => (rangeGo (fun i11 (s11 : Unit) k11 => (rangeGo (fun i13 (s13 : Unit) k13 => must (0 ≤ ((i13 : Int) : Int) ∧ ((i13 : Int) : Int) < (((p0.getD i9 default).length : Nat) : Int)) <| must (0 ≤ ((i11 : Int) : Int) ∧ ((i11 : Int) : Int) < (((p0.getD i9 default).length : Nat) : Int)) <| must (0 ≤ ((i13 : Int) : Int) ∧ ((i13 : Int) : Int) < (((p0.getD i11 default).length : Nat) : Int)) <| must (inI (((p0.getD i9 default).getD i11 default).Lo + ((p0.getD i11 default).getD i13 default).Lo)) <| must (((!(decide ((((p0.getD i9 default).getD i11 default).Lo + ((p0.getD i11 default).getD i13 default).Lo) < ((p0.getD i9 default).getD i13 default).Lo))) = true → (0 ≤ ((i13 : Int) : Int) ∧ ((i13 : Int) : Int) < (((p0.getD i9 default).length : Nat) : Int)))) <| must (((!(decide ((((p0.getD i9 default).getD i11 default).Lo + ((p0.getD i11 default).getD i13 default).Lo) < ((p0.getD i9 default).getD i13 default).Lo))) = true → (0 ≤ ((i11 : Int) : Int) ∧ ((i11 : Int) : Int) < (((p0.getD i9 default).length : Nat) : Int)))) <| must (((!(decide ((((p0.getD i9 default).getD i11 default).Lo + ((p0.getD i11 default).getD i13 default).Lo) < ((p0.getD i9 default).getD i13 default).Lo))) = true → (0 ≤ ((i13 : Int) : Int) ∧ ((i13 : Int) : Int) < (((p0.getD i11 default).length : Nat) : Int)))) <| must (((!(decide ((((p0.getD i9 default).getD i11 default).Lo + ((p0.getD i11 default).getD i13 default).Lo) < ((p0.getD i9 default).getD i13 default).Lo))) = true → (inI (((p0.getD i9 default).getD i11 default).Hi + ((p0.getD i11 default).getD i13 default).Hi)))) <| (bif ((decide ((((p0.getD i9 default).getD i11 default).Lo + ((p0.getD i11 default).getD i13 default).Lo) < ((p0.getD i9 default).getD i13 default).Lo)) || (decide ((((p0.getD i9 default).getD i11 default).Hi + ((p0.getD i11 default).getD i13 default).Hi) < ((p0.getD i9 default).getD i13 default).Hi))) then some false else k13 ())) (fun (s13 : Unit) => k11 ()) p0.length 0 ())) (fun (s11 : Unit) => k9 ()) p0.length 0 ())) (fun (s9 : Unit) => some true) p0.length 0 ())) p0.length 0 ()))
def crew_isMinute (p0 : Int) : Bool :=
 (crew_in p0 0 1439)
def crew_CheckTask (p0 : Task) : Int :=
 (bif ((((!(crew_in p0.Lamp 1 999)) || (!(crew_in p0.Place 0 11))) || (!(crew_isMinute p0.At))) || (!(crew_in p0.Serve 1 120))) then 40 else 0)
def crew_CheckHand (p0 : Hand) : Int :=
 (bif (((!(crew_in p0.Id 1 99)) || (!(crew_isMinute p0.From))) || (!(crew_in p0.To p0.From 1439))) then 41 else 0)
def crew_Check (p0 : Crew) : Option Int :=
 bindO ((bif (!((decide (24 < ((p0.Tasks.length : Nat) : Int))) || (decide (16 < ((p0.Hands.length : Nat) : Int))))) then crew_isTravel p0.Travel else some default)) fun y1 => (bif (((decide (24 < ((p0.Tasks.length : Nat) : Int))) || (decide (16 < ((p0.Hands.length : Nat) : Int)))) || (!y1)) then some 42 else (rangeGo (fun i4 (s4 : Unit) k4 => must ((((!((!decide ((crew_CheckTask (p0.Tasks.getD i4 default)) = 0)) || (decide (((p0.Travel.length : Nat) : Int) ≤ (p0.Tasks.getD i4 default).Place)))) && (decide (0 < (i4 : Int)))) = true → (inI ((i4 : Int) - 1)))) <| must ((((!((!decide ((crew_CheckTask (p0.Tasks.getD i4 default)) = 0)) || (decide (((p0.Travel.length : Nat) : Int) ≤ (p0.Tasks.getD i4 default).Place)))) && (decide (0 < (i4 : Int)))) = true → (0 ≤ (((i4 : Int) - 1) : Int) ∧ (((i4 : Int) - 1) : Int) < ((p0.Tasks.length : Nat) : Int)))) <| (bif (((!decide ((crew_CheckTask (p0.Tasks.getD i4 default)) = 0)) || (decide (((p0.Travel.length : Nat) : Int) ≤ (p0.Tasks.getD i4 default).Place))) || ((decide (0 < (i4 : Int))) && (decide ((p0.Tasks.getD i4 default).Lamp ≤ (p0.Tasks.getD (((i4 : Int) - 1)).toNat default).Lamp)))) then some 42 else k4 ())) (fun (s4 : Unit) => (rangeGo (fun i9 (s9 : Unit) k9 => must ((((!(!decide ((crew_CheckHand (p0.Hands.getD i9 default)) = 0))) && (decide (0 < (i9 : Int)))) = true → (inI ((i9 : Int) - 1)))) <| must ((((!(!decide ((crew_CheckHand (p0.Hands.getD i9 default)) = 0))) && (decide (0 < (i9 : Int)))) = true → (0 ≤ (((i9 : Int) - 1) : Int) ∧ (((i9 : Int) - 1) : Int) < ((p0.Hands.length : Nat) : Int)))) <| (bif ((!decide ((crew_CheckHand (p0.Hands.getD i9 default)) = 0)) || ((decide (0 < (i9 : Int))) && (decide ((p0.Hands.getD i9 default).Id ≤ (p0.Hands.getD (((i9 : Int) - 1)).toNat default).Id)))) then some 42 else k9 ())) (fun (s9 : Unit) => some 0) p0.Hands.length 0 ())) p0.Tasks.length 0 ()))
def crew_spare (p0 : Crew) (p1 : Int) (p2 : Int) (p3 : Range → Option Int) : Option Int :=
 must (0 ≤ (p1 : Int) ∧ (p1 : Int) < ((p0.Tasks.length : Nat) : Int)) <| must (0 ≤ (p2 : Int) ∧ (p2 : Int) < ((p0.Tasks.length : Nat) : Int)) <| must (inI ((p0.Tasks.getD (p2).toNat default).At - (p0.Tasks.getD (p1).toNat default).At)) <| must (inI (((p0.Tasks.getD (p2).toNat default).At - (p0.Tasks.getD (p1).toNat default).At) - (p0.Tasks.getD (p1).toNat default).Serve)) <| must (0 ≤ ((p0.Tasks.getD (p1).toNat default).Place : Int) ∧ ((p0.Tasks.getD (p1).toNat default).Place : Int) < ((p0.Travel.length : Nat) : Int)) <| must (0 ≤ ((p0.Tasks.getD (p2).toNat default).Place : Int) ∧ ((p0.Tasks.getD (p2).toNat default).Place : Int) < (((p0.Travel.getD ((p0.Tasks.getD (p1).toNat default).Place).toNat default).length : Nat) : Int)) <| bindO (p3 ((p0.Travel.getD ((p0.Tasks.getD (p1).toNat default).Place).toNat default).getD ((p0.Tasks.getD (p2).toNat default).Place).toNat default)) fun y7 => must (inI ((((p0.Tasks.getD (p2).toNat default).At - (p0.Tasks.getD (p1).toNat default).At) - (p0.Tasks.getD (p1).toNat default).Serve) - y7)) <| some ((((p0.Tasks.getD (p2).toNat default).At - (p0.Tasks.getD (p1).toNat default).At) - (p0.Tasks.getD (p1).toNat default).Serve) - y7)
def crew_newPlan (p0 : Crew) (p1 : Range → Option Int) : Option (Option crew_plan) :=
 must (0 ≤ (((p0.Tasks.length : Nat) : Int) : Int) ∧ (((p0.Tasks.length : Nat) : Int) : Int) ≤ ((p0.Tasks.length : Nat) : Int) ∧ room (((p0.Tasks.length : Nat) : Int) : Int).toNat 8) <| must (p0.Tasks.length ≤ 9223372036854775807) <| (rangeGo (fun i2 (s2 : (List Int)) k2 => must (p0.Tasks.length ≤ 9223372036854775807) <| (rangeGo (fun i4 (s4 : (List Int)) k4 => bindO ((bif (!decide ((i2 : Int) = (i4 : Int))) then crew_spare p0 (i2 : Int) (i4 : Int) p1 else some default)) fun y6 => (bif ((!decide ((i2 : Int) = (i4 : Int))) && (decide (0 ≤ y6))) then must (0 ≤ ((i2 : Int) : Int) ∧ ((i2 : Int) : Int) < ((s4.length : Nat) : Int)) <| must (0 ≤ ((i4 : Int) : Int) ∧ ((i4 : Int) : Int) < 64 ∧ inI ((1 : Int) * 2 ^ ((i4 : Int) : Int).toNat)) <| must (0 ≤ ((s4.getD i2 default) : Int) ∧ 0 ≤ (((1 : Int) * 2 ^ ((i4 : Int) : Int).toNat) : Int) ∧ inI (s4.getD i2 default) ∧ inI ((1 : Int) * 2 ^ ((i4 : Int) : Int).toNat)) <| must (0 ≤ ((i2 : Int) : Int) ∧ ((i2 : Int) : Int) < ((s4.length : Nat) : Int)) <| k4 (s4.set i2 ((((s4.getD i2 default) : Int).toNat ||| (((1 : Int) * 2 ^ ((i4 : Int) : Int).toNat) : Int).toNat : Nat) : Int)) else k4 s4)) (fun (s4 : (List Int)) => k2 s4) p0.Tasks.length 0 s2)) (fun (s2 : (List Int)) => some (some (⟨p0, s2⟩ : crew_plan))) p0.Tasks.length 0 (List.replicate (((p0.Tasks.length : Nat) : Int)).toNat (0 : Int)))
def crew_most (p0 : Range) : Int :=
 p0.Hi
def crew_plan__isRound (p0 : crew_plan) (p1 : (List Int)) : Option Bool :=
 (rangeGo (fun i1 (s1 : Unit) k1 => must (inI (((p0.next.length : Nat) : Int) - 1)) <| must ((((!(!(crew_in (p1.getD i1 default) 0 (((p0.next.length : Nat) : Int) - 1)))) && (decide (0 < (i1 : Int)))) = true → (inI ((i1 : Int) - 1)))) <| must ((((!(!(crew_in (p1.getD i1 default) 0 (((p0.next.length : Nat) : Int) - 1)))) && (decide (0 < (i1 : Int)))) = true → (0 ≤ (((i1 : Int) - 1) : Int) ∧ (((i1 : Int) - 1) : Int) < ((p1.length : Nat) : Int)))) <| must ((((!(!(crew_in (p1.getD i1 default) 0 (((p0.next.length : Nat) : Int) - 1)))) && (decide (0 < (i1 : Int)))) = true → (0 ≤ ((p1.getD (((i1 : Int) - 1)).toNat default) : Int) ∧ ((p1.getD (((i1 : Int) - 1)).toNat default) : Int) < ((p0.next.length : Nat) : Int)))) <| must ((((!(!(crew_in (p1.getD i1 default) 0 (((p0.next.length : Nat) : Int) - 1)))) && (decide (0 < (i1 : Int)))) = true → (0 ≤ ((p1.getD i1 default) : Int) ∧ ((p1.getD i1 default) : Int) < 64))) <| must ((((!(!(crew_in (p1.getD i1 default) 0 (((p0.next.length : Nat) : Int) - 1)))) && (decide (0 < (i1 : Int)))) = true → (0 ≤ ((Int.fdiv (p0.next.getD ((p1.getD (((i1 : Int) - 1)).toNat default)).toNat default) (2 ^ ((p1.getD i1 default) : Int).toNat)) : Int) ∧ 0 ≤ (1 : Int) ∧ inI (Int.fdiv (p0.next.getD ((p1.getD (((i1 : Int) - 1)).toNat default)).toNat default) (2 ^ ((p1.getD i1 default) : Int).toNat)) ∧ inI 1))) <| (bif ((!(crew_in (p1.getD i1 default) 0 (((p0.next.length : Nat) : Int) - 1))) || ((decide (0 < (i1 : Int))) && (decide (((((Int.fdiv (p0.next.getD ((p1.getD (((i1 : Int) - 1)).toNat default)).toNat default) (2 ^ ((p1.getD i1 default) : Int).toNat)) : Int).toNat &&& (1 : Int).toNat : Nat) : Int) = 0)))) then some false else k1 ())) (fun (s1 : Unit) => some (decide (0 < ((p1.length : Nat) : Int)))) p1.length 0 ())
def crew_plan__areRounds (p0 : crew_plan) (p1 : (List (List Int))) : Option Bool :=
 (rangeGo (fun i1 (s1 : Int) k1 => bindO (crew_plan__isRound p0 (p1.getD i1 default)) fun y3 => must ((((!(!y3)) && (decide (0 < (i1 : Int)))) = true → (inI ((i1 : Int) - 1)))) <| must ((((!(!y3)) && (decide (0 < (i1 : Int)))) = true → (0 ≤ (((i1 : Int) - 1) : Int) ∧ (((i1 : Int) - 1) : Int) < ((p1.length : Nat) : Int)))) <| must ((((!(!y3)) && (decide (0 < (i1 : Int)))) = true → (0 ≤ (0 : Int) ∧ (0 : Int) < (((p1.getD (((i1 : Int) - 1)).toNat default).length : Nat) : Int)))) <| must ((((!(!y3)) && (decide (0 < (i1 : Int)))) = true → (0 ≤ (0 : Int) ∧ (0 : Int) < (((p1.getD i1 default).length : Nat) : Int)))) <| (bif ((!y3) || ((decide (0 < (i1 : Int))) && (decide (((p1.getD i1 default).getD 0 default) ≤ ((p1.getD (((i1 : Int) - 1)).toNat default).getD 0 default))))) then some false else (rangeGo (fun i10 (s10 : Int) k10 => must (0 ≤ (((p1.getD i1 default).getD i10 default) : Int) ∧ (((p1.getD i1 default).getD i10 default) : Int) < 64) <| must (0 ≤ ((Int.fdiv s10 (2 ^ (((p1.getD i1 default).getD i10 default) : Int).toNat)) : Int) ∧ 0 ≤ (1 : Int) ∧ inI (Int.fdiv s10 (2 ^ (((p1.getD i1 default).getD i10 default) : Int).toNat)) ∧ inI 1) <| (bif (decide (((((Int.fdiv s10 (2 ^ (((p1.getD i1 default).getD i10 default) : Int).toNat)) : Int).toNat &&& (1 : Int).toNat : Nat) : Int) = 1)) then some false else must (0 ≤ (((p1.getD i1 default).getD i10 default) : Int) ∧ (((p1.getD i1 default).getD i10 default) : Int) < 64 ∧ inI ((1 : Int) * 2 ^ (((p1.getD i1 default).getD i10 default) : Int).toNat)) <| must (0 ≤ (s10 : Int) ∧ 0 ≤ (((1 : Int) * 2 ^ (((p1.getD i1 default).getD i10 default) : Int).toNat) : Int) ∧ inI s10 ∧ inI ((1 : Int) * 2 ^ (((p1.getD i1 default).getD i10 default) : Int).toNat)) <| k10 (((s10 : Int).toNat ||| (((1 : Int) * 2 ^ (((p1.getD i1 default).getD i10 default) : Int).toNat) : Int).toNat : Nat) : Int))) (fun (s10 : Int) => k1 s10) ((p1.getD i1 default).length) 0 s1))) (fun (s1 : Int) => must (0 ≤ (((p0.next.length : Nat) : Int) : Int) ∧ (((p0.next.length : Nat) : Int) : Int) < 64 ∧ inI ((1 : Int) * 2 ^ (((p0.next.length : Nat) : Int) : Int).toNat)) <| must (inI (((1 : Int) * 2 ^ (((p0.next.length : Nat) : Int) : Int).toNat) - 1)) <| some (decide (s1 = (((1 : Int) * 2 ^ (((p0.next.length : Nat) : Int) : Int).toNat) - 1)))) p1.length 0 0)
def crew_asked (p0 : Crew) (p1 : (List (List Int))) : Option ((Option crew_plan) × Int) :=
 bindO (crew_Check p0) fun y1 => (bif (!decide (y1 = 0)) then some ((none : (Option crew_plan)), y1) else bindO (crew_newPlan p0 (fun x0 => some (crew_most x0))) fun y4 => must (y4.isSome = true) <| bindO (crew_plan__areRounds (y4.getD default) p1) fun y7 => (bif (!y7) then some ((none : (Option crew_plan)), 43) else some (y4, 0)))
def crew_Slack (fuel : Nat) (p0 : Crew) (p1 : (List (List Int))) : Option (Int × Int) :=
 bindO (crew_asked p0 p1) fun y1 => (bif (!decide (y1.2 = 0)) then some (0, y1.2) else (rangeGo (fun i4 (s4 : Int) k4 => (loopGo (fun (s6 : Int × Int) k6 => (bif (decide (s6.1 < (((p1.getD i4 default).length : Nat) : Int))) then must (inI (s6.1 - 1)) <| must (0 ≤ ((s6.1 - 1) : Int) ∧ ((s6.1 - 1) : Int) < (((p1.getD i4 default).length : Nat) : Int)) <| must (0 ≤ (s6.1 : Int) ∧ (s6.1 : Int) < (((p1.getD i4 default).length : Nat) : Int)) <| bindO (crew_spare p0 ((p1.getD i4 default).getD ((s6.1 - 1)).toNat default) ((p1.getD i4 default).getD (s6.1).toNat default) (fun x0 => some (crew_most x0))) fun y11 => (bif ((decide (s6.2 < 0)) || (decide (y11 < s6.2))) then must (inI (s6.1 + 1)) <| k6 ((s6.1 + 1), y11) else must (inI (s6.1 + 1)) <| k6 ((s6.1 + 1), s6.2)) else k4 s6.2)) fuel (1, s4))) (fun (s4 : Int) => (bif (decide (s4 < 0)) then some (0, 3) else some (s4, 0))) p1.length 0 (-1)))
def gasolierref01_IsRange (p0 : Range) (p1 : Int) (p2 : Int) : Bool :=
 (((decide (p1 ≤ p0.Lo)) && (decide (p0.Lo ≤ p0.Hi))) && (decide (p0.Hi ≤ p2)))
def gasolierref04_isTravel (p0 : (List (List Range))) : Option Bool :=
 (bif (decide (12 < ((p0.length : Nat) : Int))) then some false else (rangeGo (fun i2 (s2 : Unit) k2 => must (((!(!decide ((((p0.getD i2 default).length : Nat) : Int) = ((p0.length : Nat) : Int)))) = true → (0 ≤ ((i2 : Int) : Int) ∧ ((i2 : Int) : Int) < (((p0.getD i2 default).length : Nat) : Int)))) <| (bif ((!decide ((((p0.getD i2 default).length : Nat) : Int) = ((p0.length : Nat) : Int))) || (!((decide (((p0.getD i2 default).getD i2 default).Lo = 0)) && (decide (((p0.getD i2 default).getD i2 default).Hi = 0))))) then some false else (rangeGo (fun i6 (s6 : Unit) k6 => (bif (!(gasolierref01_IsRange ((p0.getD i2 default).getD i6 default) 0 600)) then some false else k6 ())) (fun (s6 : Unit) => k2 ()) ((p0.getD i2 default).length) 0 ()))) (fun (s2 : Unit) => (rangeGo (fun i9 (s9 : Unit) k9 => (rangeGo (fun i11 (s11 : Unit) k11 => (rangeGo (fun i13 (s13 : Unit) k13 => must (0 ≤ ((i13 : Int) : Int) ∧ ((i13 : Int) : Int) < (((p0.getD i9 default).length : Nat) : Int)) <| must (0 ≤ ((i11 : Int) : Int) ∧ ((i11 : Int) : Int) < (((p0.getD i9 default).length : Nat) : Int)) <| must (0 ≤ ((i13 : Int) : Int) ∧ ((i13 : Int) : Int) < (((p0.getD i11 default).length : Nat) : Int)) <| must (inI (((p0.getD i9 default).getD i11 default).Lo + ((p0.getD i11 default).getD i13 default).Lo)) <| must (((!(decide ((((p0.getD i9 default).getD i11 default).Lo + ((p0.getD i11 default).getD i13 default).Lo) < ((p0.getD i9 default).getD i13 default).Lo))) = true → (0 ≤ ((i13 : Int) : Int) ∧ ((i13 : Int) : Int) < (((p0.getD i9 default).length : Nat) : Int)))) <| must (((!(decide ((((p0.getD i9 default).getD i11 default).Lo + ((p0.getD i11 default).getD i13 default).Lo) < ((p0.getD i9 default).getD i13 default).Lo))) = true → (0 ≤ ((i11 : Int) : Int) ∧ ((i11 : Int) : Int) < (((p0.getD i9 default).length : Nat) : Int)))) <| must (((!(decide ((((p0.getD i9 default).getD i11 default).Lo + ((p0.getD i11 default).getD i13 default).Lo) < ((p0.getD i9 default).getD i13 default).Lo))) = true → (0 ≤ ((i13 : Int) : Int) ∧ ((i13 : Int) : Int) < (((p0.getD i11 default).length : Nat) : Int)))) <| must (((!(decide ((((p0.getD i9 default).getD i11 default).Lo + ((p0.getD i11 default).getD i13 default).Lo) < ((p0.getD i9 default).getD i13 default).Lo))) = true → (inI (((p0.getD i9 default).getD i11 default).Hi + ((p0.getD i11 default).getD i13 default).Hi)))) <| (bif ((decide ((((p0.getD i9 default).getD i11 default).Lo + ((p0.getD i11 default).getD i13 default).Lo) < ((p0.getD i9 default).getD i13 default).Lo)) || (decide ((((p0.getD i9 default).getD i11 default).Hi + ((p0.getD i11 default).getD i13 default).Hi) < ((p0.getD i9 default).getD i13 default).Hi))) then some false else k13 ())) (fun (s13 : Unit) => k11 ()) p0.length 0 ())) (fun (s11 : Unit) => k9 ()) p0.length 0 ())) (fun (s9 : Unit) => some true) p0.length 0 ())) p0.length 0 ()))
def gasolierref01_Within (p0 : Int) (p1 : Int) (p2 : Int) : Bool :=
 ((decide (p1 ≤ p0)) && (decide (p0 ≤ p2)))
def gasolierref04_CheckTask (p0 : Task) : Int :=
 (bif ((((!(gasolierref01_Within p0.Lamp 1 999)) || (!(gasolierref01_Within p0.Place 0 11))) || (!(gasolierref01_Within p0.At 0 1439))) || (!(gasolierref01_Within p0.Serve 1 120))) then 40 else 0)
def gasolierref04_CheckHand (p0 : Hand) : Int :=
 (bif ((!(gasolierref01_Within p0.Id 1 99)) || (!(gasolierref01_IsRange (⟨p0.From, p0.To⟩ : Range) 0 1439))) then 41 else 0)
def gasolierref04_Check (p0 : Crew) : Option Int :=
 bindO ((bif (!((decide (24 < ((p0.Tasks.length : Nat) : Int))) || (decide (16 < ((p0.Hands.length : Nat) : Int))))) then gasolierref04_isTravel p0.Travel else some default)) fun y1 => (bif (((decide (24 < ((p0.Tasks.length : Nat) : Int))) || (decide (16 < ((p0.Hands.length : Nat) : Int)))) || (!y1)) then some 42 else (rangeGo (fun i4 (s4 : Unit) k4 => must ((((!((!decide ((gasolierref04_CheckTask (p0.Tasks.getD i4 default)) = 0)) || (decide (((p0.Travel.length : Nat) : Int) ≤ (p0.Tasks.getD i4 default).Place)))) && (decide (0 < (i4 : Int)))) = true → (inI ((i4 : Int) - 1)))) <| must ((((!((!decide ((gasolierref04_CheckTask (p0.Tasks.getD i4 default)) = 0)) || (decide (((p0.Travel.length : Nat) : Int) ≤ (p0.Tasks.getD i4 default).Place)))) && (decide (0 < (i4 : Int)))) = true → (0 ≤ (((i4 : Int) - 1) : Int) ∧ (((i4 : Int) - 1) : Int) < ((p0.Tasks.length : Nat) : Int)))) <| (bif (((!decide ((gasolierref04_CheckTask (p0.Tasks.getD i4 default)) = 0)) || (decide (((p0.Travel.length : Nat) : Int) ≤ (p0.Tasks.getD i4 default).Place))) || ((decide (0 < (i4 : Int))) && (decide ((p0.Tasks.getD i4 default).Lamp ≤ (p0.Tasks.getD (((i4 : Int) - 1)).toNat default).Lamp)))) then some 42 else k4 ())) (fun (s4 : Unit) => (rangeGo (fun i9 (s9 : Unit) k9 => must ((((!(!decide ((gasolierref04_CheckHand (p0.Hands.getD i9 default)) = 0))) && (decide (0 < (i9 : Int)))) = true → (inI ((i9 : Int) - 1)))) <| must ((((!(!decide ((gasolierref04_CheckHand (p0.Hands.getD i9 default)) = 0))) && (decide (0 < (i9 : Int)))) = true → (0 ≤ (((i9 : Int) - 1) : Int) ∧ (((i9 : Int) - 1) : Int) < ((p0.Hands.length : Nat) : Int)))) <| (bif ((!decide ((gasolierref04_CheckHand (p0.Hands.getD i9 default)) = 0)) || ((decide (0 < (i9 : Int))) && (decide ((p0.Hands.getD i9 default).Id ≤ (p0.Hands.getD (((i9 : Int) - 1)).toNat default).Id)))) then some 42 else k9 ())) (fun (s9 : Unit) => some 0) p0.Hands.length 0 ())) p0.Tasks.length 0 ()))
def slices_IndexFunc_int (p0 : (List Int)) (p1 : Int → Option Bool) : Option Int :=
 (rangeGo (fun i1 (s1 : Unit) k1 => bindO (p1 (p0.getD i1 default)) fun y3 => (bif y3 then some (i1 : Int) else k1 ())) (fun (s1 : Unit) => some (-1)) p0.length 0 ())
def slices_ContainsFunc_int (p0 : (List Int)) (p1 : Int → Option Bool) : Option Bool :=
 bindO (slices_IndexFunc_int p0 p1) fun y1 => some (decide (0 ≤ y1))
def crew_areWalks_1 (p0 : Int) : Bool :=
 (!(crew_in p0 0 600))
def crew_areWalks (p0 : (List (List Int))) (p1 : (List (List Int))) : Option Bool :=
 (bif (!decide (((p1.length : Nat) : Int) = ((p0.length : Nat) : Int))) then some false else (rangeGo (fun i2 (s2 : Unit) k2 => must (0 ≤ ((i2 : Int) : Int) ∧ ((i2 : Int) : Int) < ((p0.length : Nat) : Int)) <| must (inI ((((p0.getD i2 default).length : Nat) : Int) - 1)) <| bindO ((bif (!(!decide ((((p1.getD i2 default).length : Nat) : Int) = ((((p0.getD i2 default).length : Nat) : Int) - 1)))) then slices_ContainsFunc_int (p1.getD i2 default) (fun x0 => some (crew_areWalks_1 x0)) else some default)) fun y6 => (bif ((!decide ((((p1.getD i2 default).length : Nat) : Int) = ((((p0.getD i2 default).length : Nat) : Int) - 1))) || y6) then some false else k2 ())) (fun (s2 : Unit) => some true) p1.length 0 ()))
def crew_Late (p0 : Crew) (p1 : (List (List Int))) (p2 : (List (List Int))) : Option ((List Int) × Int) :=
 bindO (crew_asked p0 p1) fun y1 => (bif (!decide (y1.2 = 0)) then some ([], y1.2) else bindO (crew_areWalks p1 p2) fun y4 => (bif (!y4) then some ([], 48) else (rangeGo (fun i7 (s7 : (List Int)) k7 => must (0 ≤ (0 : Int) ∧ (0 : Int) < (((p1.getD i7 default).length : Nat) : Int)) <| must (0 ≤ (((p1.getD i7 default).getD 0 default) : Int) ∧ (((p1.getD i7 default).getD 0 default) : Int) < ((p0.Tasks.length : Nat) : Int)) <| must ((0 : Int) ≤ 1 ∧ (1 : Int) ≤ (((p1.getD i7 default).length : Nat) : Int)) <| (rangeGo (fun i12 (s12 : Int × (List Int)) k12 => must (0 ≤ ((i12 : Int) : Int) ∧ ((i12 : Int) : Int) < (((p1.getD i7 default).length : Nat) : Int)) <| must (0 ≤ (((p1.getD i7 default).getD i12 default) : Int) ∧ (((p1.getD i7 default).getD i12 default) : Int) < ((p0.Tasks.length : Nat) : Int)) <| must (0 ≤ ((i7 : Int) : Int) ∧ ((i7 : Int) : Int) < ((p2.length : Nat) : Int)) <| must (0 ≤ ((i12 : Int) : Int) ∧ ((i12 : Int) : Int) < (((p2.getD i7 default).length : Nat) : Int)) <| must (inI ((p0.Tasks.getD (((p1.getD i7 default).getD i12 default)).toNat default).Serve + ((p2.getD i7 default).getD i12 default))) <| must (inI (s12.1 + ((p0.Tasks.getD (((p1.getD i7 default).getD i12 default)).toNat default).Serve + ((p2.getD i7 default).getD i12 default)))) <| must (0 ≤ ((((p1.getD i7 default).drop 1).getD i12 default) : Int) ∧ ((((p1.getD i7 default).drop 1).getD i12 default) : Int) < ((p0.Tasks.length : Nat) : Int)) <| (joinK (fun (k21 : (List Int) → _) => (bif (decide ((p0.Tasks.getD ((((p1.getD i7 default).drop 1).getD i12 default)).toNat default).At < (s12.1 + ((p0.Tasks.getD (((p1.getD i7 default).getD i12 default)).toNat default).Serve + ((p2.getD i7 default).getD i12 default))))) then must (room (s12.2 ++ ([(((p1.getD i7 default).drop 1).getD i12 default)] : List Int)).length 8) <| k21 (s12.2 ++ ([(((p1.getD i7 default).drop 1).getD i12 default)] : List Int)) else k21 s12.2)) (fun (s21 : (List Int)) => must (0 ≤ ((((p1.getD i7 default).drop 1).getD i12 default) : Int) ∧ ((((p1.getD i7 default).drop 1).getD i12 default) : Int) < ((p0.Tasks.length : Nat) : Int)) <| k12 ((max (s12.1 + ((p0.Tasks.getD (((p1.getD i7 default).getD i12 default)).toNat default).Serve + ((p2.getD i7 default).getD i12 default))) ((p0.Tasks.getD ((((p1.getD i7 default).drop 1).getD i12 default)).toNat default).At)), s21)))) (fun (s12 : Int × (List Int)) => k7 s12.2) (((p1.getD i7 default).drop 1).length) 0 ((p0.Tasks.getD (((p1.getD i7 default).getD 0 default)).toNat default).At, s7))) (fun (s7 : (List Int)) => bindO (slices_Sort_int_l s7) fun y25 => must (y25.length = s7.length) <| some (y25, 0)) p1.length 0 ([] : List Int))))
def gasolierref01_Same (p0 : (List Int)) (p1 : (List Int)) : Option Bool :=
 (bif (!decide (((p0.length : Nat) : Int) = ((p1.length : Nat) : Int))) then some false else (rangeGo (fun i2 (s2 : Unit) k2 => must (0 ≤ ((i2 : Int) : Int) ∧ ((i2 : Int) : Int) < ((p1.length : Nat) : Int)) <| (bif (!decide ((p0.getD i2 default) = (p1.getD i2 default))) then some false else k2 ())) (fun (s2 : Unit) => some true) p0.length 0 ()))
def gasolierlaw04_team  : Crew :=
 (⟨([(⟨1, 0, 300, 2⟩ : Task), (⟨2, 1, 320, 2⟩ : Task), (⟨3, 0, 325, 2⟩ : Task), (⟨4, 1, 350, 2⟩ : Task)] : List Task), ([([(⟨0, 0⟩ : Range), (⟨10, 20⟩ : Range)] : List Range), ([(⟨10, 20⟩ : Range), (⟨0, 0⟩ : Range)] : List Range)] : List (List Range)), ([(⟨7, 290, 400⟩ : Hand), (⟨8, 310, 330⟩ : Hand)] : List Hand)⟩ : Crew)
def crew_least (p0 : Range) : Int :=
 p0.Lo
def crew_Follows (p0 : Crew) (p1 : Int) (p2 : Int) : Option (Int × Int) :=
 bindO (crew_Check p0) fun y1 => (bif (!decide (y1 = 0)) then some (0, y1) else must (inI (((p0.Tasks.length : Nat) : Int) - 1)) <| must (((!(!(crew_in p1 0 (((p0.Tasks.length : Nat) : Int) - 1)))) = true → (inI (((p0.Tasks.length : Nat) : Int) - 1)))) <| (bif ((!(crew_in p1 0 (((p0.Tasks.length : Nat) : Int) - 1))) || (!(crew_in p2 0 (((p0.Tasks.length : Nat) : Int) - 1)))) then some (0, 1) else bindO ((bif (!(decide (p1 = p2))) then crew_spare p0 p1 p2 (fun x0 => some (crew_least x0)) else some default)) fun y7 => (bif ((decide (p1 = p2)) || (decide (y7 < 0))) then some (0, 0) else bindO (crew_spare p0 p1 p2 (fun x0 => some (crew_most x0))) fun y10 => (bif (decide (0 ≤ y10)) then some (1, 0) else some (2, 0)))))
def crew_plan__followers_1 (c0 : crew_plan) (c1 : Int) : Option (List (Int)) :=
 must (c0.next.length ≤ 9223372036854775807) <| (rangeGo (fun i1 (s1 : Unit) k1 => must (0 ≤ (c1 : Int) ∧ (c1 : Int) < ((c0.next.length : Nat) : Int)) <| must (0 ≤ ((i1 : Int) : Int) ∧ ((i1 : Int) : Int) < 64) <| must (0 ≤ ((Int.fdiv (c0.next.getD (c1).toNat default) (2 ^ ((i1 : Int) : Int).toNat)) : Int) ∧ 0 ≤ (1 : Int) ∧ inI (Int.fdiv (c0.next.getD (c1).toNat default) (2 ^ ((i1 : Int) : Int).toNat)) ∧ inI 1) <| emitIf (decide (((((Int.fdiv (c0.next.getD (c1).toNat default) (2 ^ ((i1 : Int) : Int).toNat)) : Int).toNat &&& (1 : Int).toNat : Nat) : Int) = 1)) (i1 : Int) <| k1 ()) (fun (s1 : Unit) => some []) c0.next.length 0 ())
def crew_plan__pair_1_l_F (fuel : Nat) (rec : Int → crew_plan → Int → (List Int) → (List Int) → Option (Bool × Int × (List Int) × (List Int))) (p0 : Int) (c0 : crew_plan) (c1 : Int) (c2 : (List Int)) (c4 : (List Int)) : Option (Bool × Int × (List Int) × (List Int)) :=
 bindO (crew_plan__followers_1 c0 p0) fun it1 => (listGo (fun (x1 : Int) (s2 : (List Int) × (List Int) × Int) k2 => must (0 ≤ (x1 : Int) ∧ (x1 : Int) < 64) <| must (0 ≤ ((Int.fdiv s2.2.2 (2 ^ (x1 : Int).toNat)) : Int) ∧ 0 ≤ (1 : Int) ∧ inI (Int.fdiv s2.2.2 (2 ^ (x1 : Int).toNat)) ∧ inI 1) <| (bif (decide (((((Int.fdiv s2.2.2 (2 ^ (x1 : Int).toNat)) : Int).toNat &&& (1 : Int).toNat : Nat) : Int) = 1)) then k2 (s2.1, s2.2.1, s2.2.2) else must (0 ≤ (x1 : Int) ∧ (x1 : Int) < 64 ∧ inI ((1 : Int) * 2 ^ (x1 : Int).toNat)) <| must (0 ≤ (s2.2.2 : Int) ∧ 0 ≤ (((1 : Int) * 2 ^ (x1 : Int).toNat) : Int) ∧ inI s2.2.2 ∧ inI ((1 : Int) * 2 ^ (x1 : Int).toNat)) <| must (0 ≤ (x1 : Int) ∧ (x1 : Int) < ((s2.1.length : Nat) : Int)) <| must (((!(decide ((s2.1.getD (x1).toNat default) < 0))) = true → (0 ≤ (x1 : Int) ∧ (x1 : Int) < ((s2.1.length : Nat) : Int)))) <| bindO ((bif (!(decide ((s2.1.getD (x1).toNat default) < 0))) then rec (s2.1.getD (x1).toNat default) c0 (((s2.2.2 : Int).toNat ||| (((1 : Int) * 2 ^ (x1 : Int).toNat) : Int).toNat : Nat) : Int) s2.1 s2.2.1 else some (default, (((s2.2.2 : Int).toNat ||| (((1 : Int) * 2 ^ (x1 : Int).toNat) : Int).toNat : Nat) : Int), s2.1, s2.2.1))) fun y10 => (bif ((decide ((s2.1.getD (x1).toNat default) < 0)) || y10.1) then must (0 ≤ (x1 : Int) ∧ (x1 : Int) < ((y10.2.2.1.length : Nat) : Int)) <| must (0 ≤ (p0 : Int) ∧ (p0 : Int) < ((y10.2.2.2.length : Nat) : Int)) <| some (true, y10.2.1, (y10.2.2.1.set (x1).toNat p0), (y10.2.2.2.set (p0).toNat x1)) else k2 (y10.2.2.1, y10.2.2.2, y10.2.1)))) (fun (s2 : (List Int) × (List Int) × Int) => some (false, s2.2.2, s2.1, s2.2.1)) it1 (c2, c4, c1))
def crew_plan__pair_1_l (fuel : Nat) : Nat → Int → crew_plan → Int → (List Int) → (List Int) → Option (Bool × Int × (List Int) × (List Int))
 | 0 => fun _ _ _ _ _ => none
 | n + 1 => crew_plan__pair_1_l_F fuel (crew_plan__pair_1_l fuel n)
def crew_plan__pair (fuel : Nat) (p0 : crew_plan) : Option ((List Int) × (List Int)) :=
 must (0 ≤ (((p0.next.length : Nat) : Int) : Int) ∧ (((p0.next.length : Nat) : Int) : Int) ≤ ((p0.next.length : Nat) : Int) ∧ room (((p0.next.length : Nat) : Int) : Int).toNat 8) <| must (0 ≤ (((p0.next.length : Nat) : Int) : Int) ∧ (((p0.next.length : Nat) : Int) : Int) ≤ ((p0.next.length : Nat) : Int) ∧ room (((p0.next.length : Nat) : Int) : Int).toNat 8) <| must ((List.replicate (((p0.next.length : Nat) : Int)).toNat (0 : Int)).length ≤ 9223372036854775807) <| (rangeGo (fun i3 (s3 : (List Int) × (List Int)) k3 => must (0 ≤ ((i3 : Int) : Int) ∧ ((i3 : Int) : Int) < ((s3.1.length : Nat) : Int)) <| must (0 ≤ ((i3 : Int) : Int) ∧ ((i3 : Int) : Int) < ((s3.2.length : Nat) : Int)) <| k3 ((s3.1.set i3 (-1)), (s3.2.set i3 (-1)))) (fun (s3 : (List Int) × (List Int)) => must (p0.next.length ≤ 9223372036854775807) <| (rangeGo (fun i7 (s7 : (List Int) × (List Int)) k7 => bindO (crew_plan__pair_1_l fuel fuel (i7 : Int) p0 0 s7.1 s7.2) fun y9 => k7 (y9.2.2.1, y9.2.2.2)) (fun (s7 : (List Int) × (List Int)) => some (s7.1, s7.2)) p0.next.length 0 (s3.1, s3.2))) ((List.replicate (((p0.next.length : Nat) : Int)).toNat (0 : Int)).length) 0 ((List.replicate (((p0.next.length : Nat) : Int)).toNat (0 : Int)), (List.replicate (((p0.next.length : Nat) : Int)).toNat (0 : Int))))
def crew_plan__count (fuel : Nat) (p0 : crew_plan) : Option Int :=
 bindO (crew_plan__pair fuel p0) fun y1 => (rangeGo (fun i3 (s3 : Int) k3 => (bif (decide ((y1.1.getD i3 default) < 0)) then must (inI (s3 + 1)) <| k3 (s3 + 1) else k3 s3)) (fun (s3 : Int) => some s3) y1.1.length 0 0)
def crew_Count (fuel : Nat) (p0 : Crew) : Option (Int × Int) :=
 bindO (crew_Check p0) fun y1 => (bif (!decide (y1 = 0)) then some (0, y1) else bindO (crew_newPlan p0 (fun x0 => some (crew_most x0))) fun y4 => must (y4.isSome = true) <| bindO (crew_plan__count fuel (y4.getD default)) fun y7 => some (y7, 0))
def crew_Bounds (fuel : Nat) (p0 : Crew) : Option (Range × Int) :=
 bindO (crew_Check p0) fun y1 => (bif (!decide (y1 = 0)) then some ((⟨0, 0⟩ : Range), y1) else bindO (crew_newPlan p0 (fun x0 => some (crew_least x0))) fun y4 => must (y4.isSome = true) <| bindO (crew_plan__count fuel (y4.getD default)) fun y7 => bindO (crew_newPlan p0 (fun x0 => some (crew_most x0))) fun y9 => must (y9.isSome = true) <| bindO (crew_plan__count fuel (y9.getD default)) fun y12 => some ((⟨y7, y12⟩ : Range), 0))
def crew_shift__free (p0 : crew_shift) : Option (List Int) :=
 must (0 ≤ (((p0.rounds.length : Nat) : Int) : Int) ∧ (((p0.rounds.length : Nat) : Int) : Int) ≤ ((p0.rounds.length : Nat) : Int) ∧ room (((p0.rounds.length : Nat) : Int) : Int).toNat 8) <| must ((List.replicate (((p0.rounds.length : Nat) : Int)).toNat (0 : Int)).length ≤ 9223372036854775807) <| (rangeGo (fun i2 (s2 : (List Int)) k2 => must (0 ≤ ((i2 : Int) : Int) ∧ ((i2 : Int) : Int) < ((s2.length : Nat) : Int)) <| k2 (s2.set i2 (-1))) (fun (s2 : (List Int)) => some s2) ((List.replicate (((p0.rounds.length : Nat) : Int)).toNat (0 : Int)).length) 0 (List.replicate (((p0.rounds.length : Nat) : Int)).toNat (0 : Int)))
def crew_shift__indices (p0 : crew_shift) : Option (List Int) :=
 must (p0.rounds.length ≤ 9223372036854775807) <| (rangeGo (fun i1 (s1 : (List Int)) k1 => must (room (s1 ++ ([(i1 : Int)] : List Int)).length 8) <| k1 (s1 ++ ([(i1 : Int)] : List Int))) (fun (s1 : (List Int)) => some s1) p0.rounds.length 0 ([] : List Int))
def crew_plan__able (p0 : crew_plan) (p1 : Hand) (p2 : (List Int)) : Option Bool :=
 must (0 ≤ (0 : Int) ∧ (0 : Int) < ((p2.length : Nat) : Int)) <| must (0 ≤ ((p2.getD 0 default) : Int) ∧ ((p2.getD 0 default) : Int) < ((p0.Crew.Tasks.length : Nat) : Int)) <| must (inI (((p2.length : Nat) : Int) - 1)) <| must (0 ≤ ((((p2.length : Nat) : Int) - 1) : Int) ∧ ((((p2.length : Nat) : Int) - 1) : Int) < ((p2.length : Nat) : Int)) <| must (0 ≤ ((p2.getD ((((p2.length : Nat) : Int) - 1)).toNat default) : Int) ∧ ((p2.getD ((((p2.length : Nat) : Int) - 1)).toNat default) : Int) < ((p0.Crew.Tasks.length : Nat) : Int)) <| must (((decide (p1.From ≤ (p0.Crew.Tasks.getD ((p2.getD 0 default)).toNat default).At)) = true → (inI ((p0.Crew.Tasks.getD ((p2.getD ((((p2.length : Nat) : Int) - 1)).toNat default)).toNat default).At + (p0.Crew.Tasks.getD ((p2.getD ((((p2.length : Nat) : Int) - 1)).toNat default)).toNat default).Serve)))) <| some ((decide (p1.From ≤ (p0.Crew.Tasks.getD ((p2.getD 0 default)).toNat default).At)) && (decide (((p0.Crew.Tasks.getD ((p2.getD ((((p2.length : Nat) : Int) - 1)).toNat default)).toNat default).At + (p0.Crew.Tasks.getD ((p2.getD ((((p2.length : Nat) : Int) - 1)).toNat default)).toNat default).Serve) ≤ p1.To)))
def crew_shift__all_1_l_F (fuel : Nat) (rec : Int → crew_shift → Int → (List Int) → (List Int) → Option (Bool × Int × (List Int))) (p0 : Int) (c0 : crew_shift) (c1 : Int) (c2 : (List Int)) (c3 : (List Int)) : Option (Bool × Int × (List Int)) :=
 must (c0.plan.isSome = true) <| (rangeGo (fun i2 (s2 : (List Int) × Int) k2 => (joinK (fun (k4 : Int × (List Int) → _) => must (0 ≤ ((i2 : Int) : Int) ∧ ((i2 : Int) : Int) < 64) <| must (0 ≤ ((Int.fdiv s2.2 (2 ^ ((i2 : Int) : Int).toNat)) : Int) ∧ 0 ≤ (1 : Int) ∧ inI (Int.fdiv s2.2 (2 ^ ((i2 : Int) : Int).toNat)) ∧ inI 1) <| must (((!(decide (((((Int.fdiv s2.2 (2 ^ ((i2 : Int) : Int).toNat)) : Int).toNat &&& (1 : Int).toNat : Nat) : Int) = 1))) = true → (0 ≤ (p0 : Int) ∧ (p0 : Int) < ((c0.rounds.length : Nat) : Int)))) <| must (((!(decide (((((Int.fdiv s2.2 (2 ^ ((i2 : Int) : Int).toNat)) : Int).toNat &&& (1 : Int).toNat : Nat) : Int) = 1))) = true → (c0.plan.isSome = true))) <| bindO ((bif (!(decide (((((Int.fdiv s2.2 (2 ^ ((i2 : Int) : Int).toNat)) : Int).toNat &&& (1 : Int).toNat : Nat) : Int) = 1))) then crew_plan__able (c0.plan.getD default) (((c0.plan.getD default).Crew.Hands).getD i2 default) (c0.rounds.getD (p0).toNat default) else some default)) fun y9 => must (((!((decide (((((Int.fdiv s2.2 (2 ^ ((i2 : Int) : Int).toNat)) : Int).toNat &&& (1 : Int).toNat : Nat) : Int) = 1)) || (!y9))) = true → (0 ≤ ((i2 : Int) : Int) ∧ ((i2 : Int) : Int) < ((s2.1.length : Nat) : Int)))) <| must ((((!((decide (((((Int.fdiv s2.2 (2 ^ ((i2 : Int) : Int).toNat)) : Int).toNat &&& (1 : Int).toNat : Nat) : Int) = 1)) || (!y9))) && (decide (0 < (s2.1.getD i2 default)))) = true → (0 ≤ ((i2 : Int) : Int) ∧ ((i2 : Int) : Int) < ((s2.1.length : Nat) : Int)))) <| must ((((!((decide (((((Int.fdiv s2.2 (2 ^ ((i2 : Int) : Int).toNat)) : Int).toNat &&& (1 : Int).toNat : Nat) : Int) = 1)) || (!y9))) && (decide (0 < (s2.1.getD i2 default)))) = true → (inI ((s2.1.getD i2 default) - 1)))) <| must ((((!((decide (((((Int.fdiv s2.2 (2 ^ ((i2 : Int) : Int).toNat)) : Int).toNat &&& (1 : Int).toNat : Nat) : Int) = 1)) || (!y9))) && (decide (0 < (s2.1.getD i2 default)))) = true → (0 ≤ (((s2.1.getD i2 default) - 1) : Int) ∧ (((s2.1.getD i2 default) - 1) : Int) < ((c3.length : Nat) : Int)))) <| (bif (((decide (((((Int.fdiv s2.2 (2 ^ ((i2 : Int) : Int).toNat)) : Int).toNat &&& (1 : Int).toNat : Nat) : Int) = 1)) || (!y9)) || ((decide (0 < (s2.1.getD i2 default))) && (decide (0 ≤ (c3.getD (((s2.1.getD i2 default) - 1)).toNat default))))) then k4 (s2.2, s2.1) else must (0 ≤ ((i2 : Int) : Int) ∧ ((i2 : Int) : Int) < 64 ∧ inI ((1 : Int) * 2 ^ ((i2 : Int) : Int).toNat)) <| must (0 ≤ (s2.2 : Int) ∧ 0 ≤ (((1 : Int) * 2 ^ ((i2 : Int) : Int).toNat) : Int) ∧ inI s2.2 ∧ inI ((1 : Int) * 2 ^ ((i2 : Int) : Int).toNat)) <| must (0 ≤ ((i2 : Int) : Int) ∧ ((i2 : Int) : Int) < ((s2.1.length : Nat) : Int)) <| must (((!(decide ((s2.1.getD i2 default) = 0))) = true → (0 ≤ ((i2 : Int) : Int) ∧ ((i2 : Int) : Int) < ((s2.1.length : Nat) : Int)))) <| must (((!(decide ((s2.1.getD i2 default) = 0))) = true → (inI ((s2.1.getD i2 default) - 1)))) <| bindO ((bif (!(decide ((s2.1.getD i2 default) = 0))) then rec ((s2.1.getD i2 default) - 1) c0 (((s2.2 : Int).toNat ||| (((1 : Int) * 2 ^ ((i2 : Int) : Int).toNat) : Int).toNat : Nat) : Int) s2.1 c3 else some (default, (((s2.2 : Int).toNat ||| (((1 : Int) * 2 ^ ((i2 : Int) : Int).toNat) : Int).toNat : Nat) : Int), s2.1))) fun y21 => must (y21.2.2.length = s2.1.length) <| (bif ((decide ((s2.1.getD i2 default) = 0)) || y21.1) then must (inI (p0 + 1)) <| must (0 ≤ ((i2 : Int) : Int) ∧ ((i2 : Int) : Int) < ((y21.2.2.length : Nat) : Int)) <| some (true, y21.2.1, (y21.2.2.set i2 (p0 + 1))) else k4 (y21.2.1, y21.2.2)))) (fun (s4 : Int × (List Int)) => k2 (s4.2, s4.1)))) (fun (s2 : (List Int) × Int) => some (false, s2.2, s2.1)) (((c0.plan.getD default).Crew.Hands).length) 0 (c2, c1))
def crew_shift__all_1_l (fuel : Nat) : Nat → Int → crew_shift → Int → (List Int) → (List Int) → Option (Bool × Int × (List Int))
 | 0 => fun _ _ _ _ _ => none
 | n + 1 => crew_shift__all_1_l_F fuel (crew_shift__all_1_l fuel n)
def crew_shift__all (fuel : Nat) (p0 : crew_shift) (p1 : (List Int)) (p2 : (List Int)) : Option Bool :=
 must (p0.plan.isSome = true) <| must (0 ≤ (((((p0.plan.getD default).Crew.Hands).length : Nat) : Int) : Int) ∧ (((((p0.plan.getD default).Crew.Hands).length : Nat) : Int) : Int) ≤ ((((p0.plan.getD default).Crew.Hands).length : Nat) : Int) ∧ room (((((p0.plan.getD default).Crew.Hands).length : Nat) : Int) : Int).toNat 8) <| (rangeGo (fun i3 (s3 : (List Int)) k3 => must (0 ≤ ((p1.getD i3 default) : Int) ∧ ((p1.getD i3 default) : Int) < ((p2.length : Nat) : Int)) <| (bif (decide (0 ≤ (p2.getD ((p1.getD i3 default)).toNat default))) then must (0 ≤ ((p1.getD i3 default) : Int) ∧ ((p1.getD i3 default) : Int) < ((p2.length : Nat) : Int)) <| must (inI ((p1.getD i3 default) + 1)) <| must (0 ≤ ((p2.getD ((p1.getD i3 default)).toNat default) : Int) ∧ ((p2.getD ((p1.getD i3 default)).toNat default) : Int) < ((s3.length : Nat) : Int)) <| k3 (s3.set ((p2.getD ((p1.getD i3 default)).toNat default)).toNat ((p1.getD i3 default) + 1)) else k3 s3)) (fun (s3 : (List Int)) => (rangeGo (fun i10 (s10 : (List Int)) k10 => (joinK (fun (k12 : (List Int) → _) => must (0 ≤ ((p1.getD i10 default) : Int) ∧ ((p1.getD i10 default) : Int) < ((p2.length : Nat) : Int)) <| (bif (decide (0 ≤ (p2.getD ((p1.getD i10 default)).toNat default))) then k12 s10 else bindO (crew_shift__all_1_l fuel fuel (p1.getD i10 default) p0 0 s10 p2) fun y15 => (bif (!y15.1) then some false else k12 y15.2.2))) (fun (s12 : (List Int)) => k10 s12))) (fun (s10 : (List Int)) => some true) p1.length 0 s3)) p1.length 0 (List.replicate (((((p0.plan.getD default).Crew.Hands).length : Nat) : Int)).toNat (0 : Int)))
def slices_Index_int (p0 : (List Int)) (p1 : Int) : Option Int :=
 (rangeGo (fun i1 (s1 : Unit) k1 => (bif (decide (p1 = (p0.getD i1 default))) then some (i1 : Int) else k1 ())) (fun (s1 : Unit) => some (-1)) p0.length 0 ())
def slices_Contains_int (p0 : (List Int)) (p1 : Int) : Option Bool :=
 bindO (slices_Index_int p0 p1) fun y1 => some (decide (0 ≤ y1))
def crew_Assign (fuel : Nat) (p0 : Crew) (p1 : (List (List Int))) : Option ((List Int) × Int) :=
 bindO (crew_asked p0 p1) fun y1 => (bif (!decide (y1.2 = 0)) then some ([], y1.2) else bindO (crew_shift__free (⟨y1.1, p1⟩ : crew_shift)) fun y4 => bindO (crew_shift__indices (⟨y1.1, p1⟩ : crew_shift)) fun y6 => bindO (crew_shift__all fuel (⟨y1.1, p1⟩ : crew_shift) y6 y4) fun y8 => (bif (!y8) then some ([], 45) else (rangeGo (fun i11 (s11 : (List Int) × (List Int)) k11 => (rangeGo (fun i13 (s13 : (List Int)) k13 => must (y1.1.isSome = true) <| bindO (crew_plan__able (y1.1.getD default) (p0.Hands.getD i13 default) (p1.getD i11 default)) fun y16 => must (((!(!y16)) = true → (0 < s13.length ∧ 0 ≤ ((i11 : Int) : Int) ∧ ((i11 : Int) : Int) ≤ ((s13.length : Nat) : Int)))) <| bindO ((bif (!(!y16)) then slices_Contains_int ((s13.take i11).drop 0) (i13 : Int) else some default)) fun y19 => (bif ((!y16) || y19) then k13 s13 else must (0 ≤ ((i11 : Int) : Int) ∧ ((i11 : Int) : Int) < ((s13.length : Nat) : Int)) <| bindO (crew_shift__indices (⟨y1.1, p1⟩ : crew_shift)) fun y23 => bindO (crew_shift__all fuel (⟨y1.1, p1⟩ : crew_shift) y23 (s13.set i11 (i13 : Int))) fun y25 => (bif y25 then must (0 ≤ ((i11 : Int) : Int) ∧ ((i11 : Int) : Int) < (((s13.set i11 (i13 : Int)).length : Nat) : Int)) <| must (0 ≤ (((s13.set i11 (i13 : Int)).getD i11 default) : Int) ∧ (((s13.set i11 (i13 : Int)).getD i11 default) : Int) < ((p0.Hands.length : Nat) : Int)) <| must (room (s11.2 ++ ([(p0.Hands.getD (((s13.set i11 (i13 : Int)).getD i11 default)).toNat default).Id] : List Int)).length 8) <| k11 ((s13.set i11 (i13 : Int)), (s11.2 ++ ([(p0.Hands.getD (((s13.set i11 (i13 : Int)).getD i11 default)).toNat default).Id] : List Int))) else k13 (s13.set i11 (i13 : Int))))) (fun (s13 : (List Int)) => must (0 ≤ ((i11 : Int) : Int) ∧ ((i11 : Int) : Int) < ((s13.length : Nat) : Int)) <| must (0 ≤ ((s13.getD i11 default) : Int) ∧ ((s13.getD i11 default) : Int) < ((p0.Hands.length : Nat) : Int)) <| must (room (s11.2 ++ ([(p0.Hands.getD ((s13.getD i11 default)).toNat default).Id] : List Int)).length 8) <| k11 (s13, (s11.2 ++ ([(p0.Hands.getD ((s13.getD i11 default)).toNat default).Id] : List Int)))) p0.Hands.length 0 s11.1)) (fun (s11 : (List Int) × (List Int)) => some (s11.2, 0)) p1.length 0 (y4, ([] : List Int)))))
def slices_Clone_Task (p0 : (List Task)) : Option (List Task) :=
 must (room (([] : List Task) ++ p0).length 32) <| some (([] : List Task) ++ p0)
def slices_Clone_Hand (p0 : (List Hand)) : Option (List Hand) :=
 must (room (([] : List Hand) ++ p0).length 24) <| some (([] : List Hand) ++ p0)
def slices_Clone_Range (p0 : (List Range)) : Option (List Range) :=
 must (room (([] : List Range) ++ p0).length 16) <| some (([] : List Range) ++ p0)
def crew_copied (p0 : Crew) : Option Crew :=
 bindO (slices_Clone_Task p0.Tasks) fun y1 => bindO (slices_Clone_Hand p0.Hands) fun y3 => (rangeGo (fun i5 (s5 : (List (List Range))) k5 => bindO (slices_Clone_Range (p0.Travel.getD i5 default)) fun y7 => must (room (s5 ++ ([y7] : List (List Range))).length 24) <| k5 (s5 ++ ([y7] : List (List Range)))) (fun (s5 : (List (List Range))) => some (⟨y1, s5, y3⟩ : Crew)) p0.Travel.length 0 ([] : List (List Range)))
def slices_IndexFunc_Hand (p0 : (List Hand)) (p1 : Hand → Option Bool) : Option Int :=
 (rangeGo (fun i1 (s1 : Unit) k1 => bindO (p1 (p0.getD i1 default)) fun y3 => (bif y3 then some (i1 : Int) else k1 ())) (fun (s1 : Unit) => some (-1)) p0.length 0 ())
def crew_Ill_1 (p0 : Hand) (c0 : Int) : Bool :=
 (decide (p0.Id = c0))
def slices_Delete_Hand (p0 : (List Hand)) (p1 : Int) (p2 : Int) : Option (List Hand) :=
 must (0 ≤ (p1 : Int) ∧ (p1 : Int) ≤ p2 ∧ (p2 : Int) ≤ ((p0.length : Nat) : Int) ∧ (((p0.length : Nat) : Int) : Int) ≤ ((p0.length : Nat) : Int)) <| (bif (decide (p1 = p2)) then some p0 else must (0 < p0.length ∧ 0 ≤ (p1 : Int) ∧ (p1 : Int) ≤ ((p0.length : Nat) : Int)) <| must (0 < p0.length ∧ 0 ≤ (p2 : Int) ∧ (p2 : Int) ≤ ((p0.length : Nat) : Int)) <| must ((p1).toNat ≤ (p2).toNat) <| must (0 ≤ ((((p0.take ((p1).toNat) ++ p0.drop ((p2).toNat)).length : Nat) : Int) : Int) ∧ ((((p0.take ((p1).toNat) ++ p0.drop ((p2).toNat)).length : Nat) : Int) : Int) ≤ ((p0.length : Nat) : Int) ∧ (((p0.length : Nat) : Int) : Int) ≤ ((p0.length : Nat) : Int)) <| some (p0.take ((p1).toNat) ++ p0.drop ((p2).toNat)))
def crew_Ill (p0 : Crew) (p1 : Int) (p2 : Int) : Option (Crew × Int) :=
 bindO (crew_Check p0) fun y1 => (bif (!decide (y1 = 0)) then some ((⟨[], [], []⟩ : Crew), y1) else (bif (!(crew_isMinute p2)) then some ((⟨[], [], []⟩ : Crew), 1) else bindO (crew_copied p0) fun y5 => bindO (slices_IndexFunc_Hand y5.Hands (fun x0 => some (crew_Ill_1 x0 p1))) fun y7 => (bif (decide (y7 < 0)) then some ((⟨[], [], []⟩ : Crew), 3) else must (0 ≤ (y7 : Int) ∧ (y7 : Int) < ((y5.Hands.length : Nat) : Int)) <| (bif (decide (((y5.Hands.set (y7).toNat (⟨(y5.Hands.getD (y7).toNat default).Id, (y5.Hands.getD (y7).toNat default).From, (min ((y5.Hands.getD (y7).toNat default).To) p2)⟩ : Hand)).getD (y7).toNat default).To < ((y5.Hands.set (y7).toNat (⟨(y5.Hands.getD (y7).toNat default).Id, (y5.Hands.getD (y7).toNat default).From, (min ((y5.Hands.getD (y7).toNat default).To) p2)⟩ : Hand)).getD (y7).toNat default).From)) then must (inI (y7 + 1)) <| bindO (slices_Delete_Hand (y5.Hands.set (y7).toNat (⟨(y5.Hands.getD (y7).toNat default).Id, (y5.Hands.getD (y7).toNat default).From, (min ((y5.Hands.getD (y7).toNat default).To) p2)⟩ : Hand)) y7 (y7 + 1)) fun y13 => some ((⟨y5.Tasks, y5.Travel, y13⟩ : Crew), 0) else some ((⟨y5.Tasks, y5.Travel, (y5.Hands.set (y7).toNat (⟨(y5.Hands.getD (y7).toNat default).Id, (y5.Hands.getD (y7).toNat default).From, (min ((y5.Hands.getD (y7).toNat default).To) p2)⟩ : Hand))⟩ : Crew), 0)))))
def slices_Clone_int (p0 : (List Int)) : Option (List Int) :=
 must (room (([] : List Int) ++ p0).length 8) <| some (([] : List Int) ++ p0)
def slices_Delete_int (p0 : (List Int)) (p1 : Int) (p2 : Int) : Option (List Int) :=
 must (0 ≤ (p1 : Int) ∧ (p1 : Int) ≤ p2 ∧ (p2 : Int) ≤ ((p0.length : Nat) : Int) ∧ (((p0.length : Nat) : Int) : Int) ≤ ((p0.length : Nat) : Int)) <| (bif (decide (p1 = p2)) then some p0 else must (0 < p0.length ∧ 0 ≤ (p1 : Int) ∧ (p1 : Int) ≤ ((p0.length : Nat) : Int)) <| must (0 < p0.length ∧ 0 ≤ (p2 : Int) ∧ (p2 : Int) ≤ ((p0.length : Nat) : Int)) <| must ((p1).toNat ≤ (p2).toNat) <| must (0 ≤ ((((p0.take ((p1).toNat) ++ p0.drop ((p2).toNat)).length : Nat) : Int) : Int) ∧ ((((p0.take ((p1).toNat) ++ p0.drop ((p2).toNat)).length : Nat) : Int) : Int) ≤ ((p0.length : Nat) : Int) ∧ (((p0.length : Nat) : Int) : Int) ≤ ((p0.length : Nat) : Int)) <| some (p0.take ((p1).toNat) ++ p0.drop ((p2).toNat)))
def crew_Short (fuel : Nat) (p0 : Crew) (p1 : (List (List Int))) : Option ((List Int) × Int) :=
 bindO (crew_asked p0 p1) fun y1 => (bif (!decide (y1.2 = 0)) then some ([], y1.2) else bindO (crew_shift__indices (⟨y1.1, p1⟩ : crew_shift)) fun y4 => bindO (crew_shift__free (⟨y1.1, p1⟩ : crew_shift)) fun y6 => bindO (crew_shift__all fuel (⟨y1.1, p1⟩ : crew_shift) y4 y6) fun y8 => (bif y8 then some ([], 3) else must (inI (((y4.length : Nat) : Int) - 1)) <| (loopGo (fun (s12 : Int × (List Int)) k12 => (bif (decide (0 ≤ s12.1)) then bindO (slices_Clone_int s12.2) fun y14 => must (inI (s12.1 + 1)) <| bindO (slices_Delete_int y14 s12.1 (s12.1 + 1)) fun y17 => bindO (crew_shift__free (⟨y1.1, p1⟩ : crew_shift)) fun y19 => bindO (crew_shift__all fuel (⟨y1.1, p1⟩ : crew_shift) y17 y19) fun y21 => (bif (!y21) then must (inI (s12.1 - 1)) <| k12 ((s12.1 - 1), y17) else must (inI (s12.1 - 1)) <| k12 ((s12.1 - 1), s12.2)) else some (s12.2, 0))) fuel ((((y4.length : Nat) : Int) - 1), y4))))
def slices_Delete_Task (p0 : (List Task)) (p1 : Int) (p2 : Int) : Option (List Task) :=
 must (0 ≤ (p1 : Int) ∧ (p1 : Int) ≤ p2 ∧ (p2 : Int) ≤ ((p0.length : Nat) : Int) ∧ (((p0.length : Nat) : Int) : Int) ≤ ((p0.length : Nat) : Int)) <| (bif (decide (p1 = p2)) then some p0 else must (0 < p0.length ∧ 0 ≤ (p1 : Int) ∧ (p1 : Int) ≤ ((p0.length : Nat) : Int)) <| must (0 < p0.length ∧ 0 ≤ (p2 : Int) ∧ (p2 : Int) ≤ ((p0.length : Nat) : Int)) <| must ((p1).toNat ≤ (p2).toNat) <| must (0 ≤ ((((p0.take ((p1).toNat) ++ p0.drop ((p2).toNat)).length : Nat) : Int) : Int) ∧ ((((p0.take ((p1).toNat) ++ p0.drop ((p2).toNat)).length : Nat) : Int) : Int) ≤ ((p0.length : Nat) : Int) ∧ (((p0.length : Nat) : Int) : Int) ≤ ((p0.length : Nat) : Int)) <| some (p0.take ((p1).toNat) ++ p0.drop ((p2).toNat)))
def crew_Moved (fuel : Nat) (p0 : Crew) : Option ((List Int) × Int) :=
 bindO (crew_Count fuel p0) fun y1 => (bif (!decide (y1.2 = 0)) then some ([], y1.2) else (rangeGo (fun i4 (s4 : (List Int)) k4 => bindO (crew_copied p0) fun y6 => bindO (slices_Delete_Task y6.Tasks (i4 : Int) ((i4 : Int) + 1)) fun y8 => bindO (crew_Count fuel (⟨y8, y6.Travel, y6.Hands⟩ : Crew)) fun y10 => (bif (decide (y10.1 < y1.1)) then must (room (s4 ++ ([(p0.Tasks.getD i4 default).Lamp] : List Int)).length 8) <| k4 (s4 ++ ([(p0.Tasks.getD i4 default).Lamp] : List Int)) else k4 s4)) (fun (s4 : (List Int)) => some (s4, 0)) p0.Tasks.length 0 ([] : List Int)))
def crew_CheckRounds (p0 : Crew) (p1 : (List (List Int))) : Option Int :=
 bindO (crew_asked p0 p1) fun y1 => some y1.2
def crew_CheckCut (p0 : Crew) (p1 : (List Int)) (p2 : Int) : Option Int :=
 bindO (crew_Check p0) fun y1 => (bif (!decide (y1 = 0)) then some y1 else bindO (crew_newPlan p0 (fun x0 => some (crew_most x0))) fun y4 => (rangeGo (fun i6 (s6 : Unit) k6 => must (y4.isSome = true) <| must (inI (((((y4.getD default).next).length : Nat) : Int) - 1)) <| must ((((!(!(crew_in (p1.getD i6 default) 0 (((((y4.getD default).next).length : Nat) : Int) - 1)))) && (decide (0 < (i6 : Int)))) = true → (inI ((i6 : Int) - 1)))) <| must ((((!(!(crew_in (p1.getD i6 default) 0 (((((y4.getD default).next).length : Nat) : Int) - 1)))) && (decide (0 < (i6 : Int)))) = true → (0 ≤ (((i6 : Int) - 1) : Int) ∧ (((i6 : Int) - 1) : Int) < ((p1.length : Nat) : Int)))) <| (bif ((!(crew_in (p1.getD i6 default) 0 (((((y4.getD default).next).length : Nat) : Int) - 1))) || ((decide (0 < (i6 : Int))) && (decide ((p1.getD i6 default) ≤ (p1.getD (((i6 : Int) - 1)).toNat default))))) then some 44 else must ((0 : Int) ≤ (i6 : Int) ∧ ((i6 : Int) : Int) ≤ ((p1.length : Nat) : Int)) <| (rangeGo (fun i14 (s14 : Unit) k14 => must (y4.isSome = true) <| must (0 ≤ ((p1.getD i6 default) : Int) ∧ ((p1.getD i6 default) : Int) < ((((y4.getD default).next).length : Nat) : Int)) <| must (0 ≤ (((p1.take i6).getD i14 default) : Int) ∧ (((p1.take i6).getD i14 default) : Int) < 64) <| must (0 ≤ ((Int.fdiv (((y4.getD default).next).getD ((p1.getD i6 default)).toNat default) (2 ^ (((p1.take i6).getD i14 default) : Int).toNat)) : Int) ∧ 0 ≤ (1 : Int) ∧ inI (Int.fdiv (((y4.getD default).next).getD ((p1.getD i6 default)).toNat default) (2 ^ (((p1.take i6).getD i14 default) : Int).toNat)) ∧ inI 1) <| must (((!(decide (((((Int.fdiv (((y4.getD default).next).getD ((p1.getD i6 default)).toNat default) (2 ^ (((p1.take i6).getD i14 default) : Int).toNat)) : Int).toNat &&& (1 : Int).toNat : Nat) : Int) = 1))) = true → (y4.isSome = true))) <| must (((!(decide (((((Int.fdiv (((y4.getD default).next).getD ((p1.getD i6 default)).toNat default) (2 ^ (((p1.take i6).getD i14 default) : Int).toNat)) : Int).toNat &&& (1 : Int).toNat : Nat) : Int) = 1))) = true → (0 ≤ (((p1.take i6).getD i14 default) : Int) ∧ (((p1.take i6).getD i14 default) : Int) < ((((y4.getD default).next).length : Nat) : Int)))) <| must (((!(decide (((((Int.fdiv (((y4.getD default).next).getD ((p1.getD i6 default)).toNat default) (2 ^ (((p1.take i6).getD i14 default) : Int).toNat)) : Int).toNat &&& (1 : Int).toNat : Nat) : Int) = 1))) = true → (0 ≤ ((p1.getD i6 default) : Int) ∧ ((p1.getD i6 default) : Int) < 64))) <| must (((!(decide (((((Int.fdiv (((y4.getD default).next).getD ((p1.getD i6 default)).toNat default) (2 ^ (((p1.take i6).getD i14 default) : Int).toNat)) : Int).toNat &&& (1 : Int).toNat : Nat) : Int) = 1))) = true → (0 ≤ ((Int.fdiv (((y4.getD default).next).getD (((p1.take i6).getD i14 default)).toNat default) (2 ^ ((p1.getD i6 default) : Int).toNat)) : Int) ∧ 0 ≤ (1 : Int) ∧ inI (Int.fdiv (((y4.getD default).next).getD (((p1.take i6).getD i14 default)).toNat default) (2 ^ ((p1.getD i6 default) : Int).toNat)) ∧ inI 1))) <| (bif ((decide (((((Int.fdiv (((y4.getD default).next).getD ((p1.getD i6 default)).toNat default) (2 ^ (((p1.take i6).getD i14 default) : Int).toNat)) : Int).toNat &&& (1 : Int).toNat : Nat) : Int) = 1)) || (decide (((((Int.fdiv (((y4.getD default).next).getD (((p1.take i6).getD i14 default)).toNat default) (2 ^ ((p1.getD i6 default) : Int).toNat)) : Int).toNat &&& (1 : Int).toNat : Nat) : Int) = 1))) then some 44 else k14 ())) (fun (s14 : Unit) => k6 ()) ((p1.take i6).length) 0 ()))) (fun (s6 : Unit) => (bif (decide (((p1.length : Nat) : Int) < p2)) then some 44 else some 0)) p1.length 0 ()))
def gasolierlaw04_sane (fuel : Nat) : Option Bool :=
 bindO (crew_Follows (gasolierlaw04_team) 0 1) fun y1 => bindO (crew_Count fuel (gasolierlaw04_team)) fun y3 => bindO (crew_Bounds fuel (gasolierlaw04_team)) fun y5 => bindO (crew_Slack fuel (gasolierlaw04_team) ([([0, 2, 3] : List Int), ([1] : List Int)] : List (List Int))) fun y7 => bindO (crew_Late (gasolierlaw04_team) ([([0, 2, 3] : List Int), ([1] : List Int)] : List (List Int)) ([([0, 24] : List Int), ([] : List Int)] : List (List Int))) fun y9 => bindO (crew_Assign fuel (gasolierlaw04_team) ([([0, 2, 3] : List Int), ([1] : List Int)] : List (List Int))) fun y11 => bindO (crew_Ill (gasolierlaw04_team) 8 315) fun y13 => bindO (crew_Short fuel y13.1 ([([0, 2, 3] : List Int), ([1] : List Int)] : List (List Int))) fun y15 => bindO (crew_Moved fuel (gasolierlaw04_team)) fun y17 => bindO ((bif (((((((((((((decide (y1.2 = 0)) && (decide (y3.2 = 0))) && (decide (y5.2 = 0))) && (decide (y7.2 = 0))) && (decide (y9.2 = 0))) && (decide (y11.2 = 0))) && (decide (y13.2 = 0))) && (decide (y15.2 = 0))) && (decide (y17.2 = 0))) && (decide (y1.1 = 2))) && (decide (y3.1 = 2))) && ((decide (y5.1.Lo = 2)) && (decide (y5.1.Hi = 2)))) && (decide (y7.1 = 3))) then gasolierref01_Same y9.1 ([3] : List Int) else some default)) fun y19 => bindO ((bif ((((((((((((((decide (y1.2 = 0)) && (decide (y3.2 = 0))) && (decide (y5.2 = 0))) && (decide (y7.2 = 0))) && (decide (y9.2 = 0))) && (decide (y11.2 = 0))) && (decide (y13.2 = 0))) && (decide (y15.2 = 0))) && (decide (y17.2 = 0))) && (decide (y1.1 = 2))) && (decide (y3.1 = 2))) && ((decide (y5.1.Lo = 2)) && (decide (y5.1.Hi = 2)))) && (decide (y7.1 = 3))) && y19) then gasolierref01_Same y11.1 ([7, 8] : List Int) else some default)) fun y21 => bindO ((bif (((((((((((((((decide (y1.2 = 0)) && (decide (y3.2 = 0))) && (decide (y5.2 = 0))) && (decide (y7.2 = 0))) && (decide (y9.2 = 0))) && (decide (y11.2 = 0))) && (decide (y13.2 = 0))) && (decide (y15.2 = 0))) && (decide (y17.2 = 0))) && (decide (y1.1 = 2))) && (decide (y3.1 = 2))) && ((decide (y5.1.Lo = 2)) && (decide (y5.1.Hi = 2)))) && (decide (y7.1 = 3))) && y19) && y21) then gasolierref01_Same y15.1 ([0, 1] : List Int) else some default)) fun y23 => bindO ((bif ((((((((((((((((decide (y1.2 = 0)) && (decide (y3.2 = 0))) && (decide (y5.2 = 0))) && (decide (y7.2 = 0))) && (decide (y9.2 = 0))) && (decide (y11.2 = 0))) && (decide (y13.2 = 0))) && (decide (y15.2 = 0))) && (decide (y17.2 = 0))) && (decide (y1.1 = 2))) && (decide (y3.1 = 2))) && ((decide (y5.1.Lo = 2)) && (decide (y5.1.Hi = 2)))) && (decide (y7.1 = 3))) && y19) && y21) && y23) then gasolierref01_Same y17.1 ([2] : List Int) else some default)) fun y25 => bindO ((bif (((((((((((((((((decide (y1.2 = 0)) && (decide (y3.2 = 0))) && (decide (y5.2 = 0))) && (decide (y7.2 = 0))) && (decide (y9.2 = 0))) && (decide (y11.2 = 0))) && (decide (y13.2 = 0))) && (decide (y15.2 = 0))) && (decide (y17.2 = 0))) && (decide (y1.1 = 2))) && (decide (y3.1 = 2))) && ((decide (y5.1.Lo = 2)) && (decide (y5.1.Hi = 2)))) && (decide (y7.1 = 3))) && y19) && y21) && y23) && y25) then crew_CheckRounds (gasolierlaw04_team) ([([0, 1] : List Int), ([2, 3] : List Int)] : List (List Int)) else some default)) fun y27 => bindO ((bif ((((((((((((((((((decide (y1.2 = 0)) && (decide (y3.2 = 0))) && (decide (y5.2 = 0))) && (decide (y7.2 = 0))) && (decide (y9.2 = 0))) && (decide (y11.2 = 0))) && (decide (y13.2 = 0))) && (decide (y15.2 = 0))) && (decide (y17.2 = 0))) && (decide (y1.1 = 2))) && (decide (y3.1 = 2))) && ((decide (y5.1.Lo = 2)) && (decide (y5.1.Hi = 2)))) && (decide (y7.1 = 3))) && y19) && y21) && y23) && y25) && (decide (y27 = 43))) then crew_CheckCut (gasolierlaw04_team) ([0, 1] : List Int) 2 else some default)) fun y29 => some (((((((((((((((((((decide (y1.2 = 0)) && (decide (y3.2 = 0))) && (decide (y5.2 = 0))) && (decide (y7.2 = 0))) && (decide (y9.2 = 0))) && (decide (y11.2 = 0))) && (decide (y13.2 = 0))) && (decide (y15.2 = 0))) && (decide (y17.2 = 0))) && (decide (y1.1 = 2))) && (decide (y3.1 = 2))) && ((decide (y5.1.Lo = 2)) && (decide (y5.1.Hi = 2)))) && (decide (y7.1 = 3))) && y19) && y21) && y23) && y25) && (decide (y27 = 43))) && (decide (y29 = 0)))
def gasolierref01_Mod (p0 : Int) (p1 : Int) : Option Int :=
 must ((p1 : Int) ≠ 0) <| must (inI ((Int.tmod p0 p1) + p1)) <| must ((p1 : Int) ≠ 0) <| some (Int.tmod ((Int.tmod p0 p1) + p1) p1)
def gasolierref04_Copy (p0 : Crew) : Option Crew :=
 must (room (([] : List Task) ++ p0.Tasks).length 32) <| must (room (([] : List Hand) ++ p0.Hands).length 24) <| (rangeGo (fun i3 (s3 : (List (List Range))) k3 => must (room (([] : List Range) ++ (p0.Travel.getD i3 default)).length 16) <| must (room (s3 ++ ([(([] : List Range) ++ (p0.Travel.getD i3 default))] : List (List Range))).length 24) <| k3 (s3 ++ ([(([] : List Range) ++ (p0.Travel.getD i3 default))] : List (List Range)))) (fun (s3 : (List (List Range))) => some (⟨(([] : List Task) ++ p0.Tasks), s3, (([] : List Hand) ++ p0.Hands)⟩ : Crew)) p0.Travel.length 0 ([] : List (List Range)))
def gasolierref01_Has (p0 : (List Int)) (p1 : Int) : Option Bool :=
 (rangeGo (fun i1 (s1 : Unit) k1 => (bif (decide ((p0.getD i1 default) = p1)) then some true else k1 ())) (fun (s1 : Unit) => some false) p0.length 0 ())
def slices_IndexFunc_Task (p0 : (List Task)) (p1 : Task → Option Bool) : Option Int :=
 (rangeGo (fun i1 (s1 : Unit) k1 => bindO (p1 (p0.getD i1 default)) fun y3 => (bif y3 then some (i1 : Int) else k1 ())) (fun (s1 : Unit) => some (-1)) p0.length 0 ())
def slices_DeleteFunc_Task (fuel : Nat) (p0 : (List Task)) (p1 : Task → Option Bool) : Option (List Task) :=
 bindO (slices_IndexFunc_Task p0 p1) fun y1 => (bif (decide (y1 = (-1))) then some p0 else must (inI (y1 + 1)) <| (loopGo (fun (s5 : Int × Int × (List Task)) k5 => (bif (decide (s5.2.1 < ((s5.2.2.length : Nat) : Int))) then must (0 ≤ (s5.2.1 : Int) ∧ (s5.2.1 : Int) < ((s5.2.2.length : Nat) : Int)) <| bindO (p1 (s5.2.2.getD (s5.2.1).toNat default)) fun y8 => (bif (!y8) then must (0 ≤ (s5.1 : Int) ∧ (s5.1 : Int) < ((s5.2.2.length : Nat) : Int)) <| must (inI (s5.1 + 1)) <| must (inI (s5.2.1 + 1)) <| k5 ((s5.1 + 1), (s5.2.1 + 1), (s5.2.2.set (s5.1).toNat (s5.2.2.getD (s5.2.1).toNat default))) else must (inI (s5.2.1 + 1)) <| k5 (s5.1, (s5.2.1 + 1), s5.2.2)) else must (0 < s5.2.2.length ∧ 0 ≤ (s5.1 : Int) ∧ (s5.1 : Int) ≤ ((s5.2.2.length : Nat) : Int)) <| must (0 < (copyAt s5.2.2 ((s5.1).toNat) (s5.2.2.length - (s5.1).toNat) (fun _ => (⟨0, 0, 0, 0⟩ : Task))).length ∧ 0 ≤ (s5.1 : Int) ∧ (s5.1 : Int) ≤ (((copyAt s5.2.2 ((s5.1).toNat) (s5.2.2.length - (s5.1).toNat) (fun _ => (⟨0, 0, 0, 0⟩ : Task))).length : Nat) : Int)) <| some ((copyAt s5.2.2 ((s5.1).toNat) (s5.2.2.length - (s5.1).toNat) (fun _ => (⟨0, 0, 0, 0⟩ : Task))).take ((s5.1).toNat)))) fuel (y1, (y1 + 1), p0)))
def crew_After_1 (p0 : Task) (c0 : Int) : Bool :=
 (decide (p0.At < c0))
def crew_After (fuel : Nat) (p0 : Crew) (p1 : Int) : Option (Crew × Int) :=
 bindO (crew_Check p0) fun y1 => (bif (!decide (y1 = 0)) then some ((⟨[], [], []⟩ : Crew), y1) else (bif (!(crew_isMinute p1)) then some ((⟨[], [], []⟩ : Crew), 1) else bindO (crew_copied p0) fun y5 => bindO (slices_DeleteFunc_Task fuel y5.Tasks (fun x0 => some (crew_After_1 x0 p1))) fun y7 => some ((⟨y7, y5.Travel, y5.Hands⟩ : Crew), 0)))
def slices_BinarySearchFunc_int (fuel : Nat) (p0 : (List Task)) (p1 : Int) (p2 : Task → Int → Option Int) : Option (Int × Bool) :=
 (loopGo (fun (s1 : Int × Int) k1 => (bif (decide (s1.2 < s1.1)) then must (inI (s1.2 + s1.1)) <| must (inU (s1.2 + s1.1)) <| must (inI (Int.fdiv (s1.2 + s1.1) (2 ^ (1 : Int).toNat))) <| must (0 ≤ ((Int.fdiv (s1.2 + s1.1) (2 ^ (1 : Int).toNat)) : Int) ∧ ((Int.fdiv (s1.2 + s1.1) (2 ^ (1 : Int).toNat)) : Int) < ((p0.length : Nat) : Int)) <| bindO (p2 (p0.getD ((Int.fdiv (s1.2 + s1.1) (2 ^ (1 : Int).toNat))).toNat default) p1) fun y7 => (bif (decide (y7 < 0)) then must (inI ((Int.fdiv (s1.2 + s1.1) (2 ^ (1 : Int).toNat)) + 1)) <| k1 (s1.1, ((Int.fdiv (s1.2 + s1.1) (2 ^ (1 : Int).toNat)) + 1)) else k1 ((Int.fdiv (s1.2 + s1.1) (2 ^ (1 : Int).toNat)), s1.2)) else must (((decide (s1.2 < ((p0.length : Nat) : Int))) = true → (0 ≤ (s1.2 : Int) ∧ (s1.2 : Int) < ((p0.length : Nat) : Int)))) <| bindO ((bif (decide (s1.2 < ((p0.length : Nat) : Int))) then p2 (p0.getD (s1.2).toNat default) p1 else some default)) fun y12 => some (s1.2, ((decide (s1.2 < ((p0.length : Nat) : Int))) && (decide (y12 = 0)))))) fuel (((p0.length : Nat) : Int), 0))
def cmp_isNaN_int (p0 : Int) : Bool :=
 (!decide (p0 = p0))
def cmp_Compare_int (p0 : Int) (p1 : Int) : Int :=
 (bif (cmp_isNaN_int p0) then (bif (cmp_isNaN_int p1) then 0 else (-1)) else (bif (cmp_isNaN_int p1) then 1 else (bif (decide (p0 < p1)) then (-1) else (bif (decide (p1 < p0)) then 1 else 0))))
def crew_find_1 (p0 : Task) (p1 : Int) : Int :=
 (cmp_Compare_int p0.Lamp p1)
def crew_find (fuel : Nat) (p0 : Crew) (p1 : Int) : Option (Int × Bool) :=
 bindO (slices_BinarySearchFunc_int fuel p0.Tasks p1 (fun x0 x1 => some (crew_find_1 x0 x1))) fun y1 => some (y1.1, y1.2)
def crew_Without (fuel : Nat) (p0 : Crew) (p1 : Int) : Option (Crew × Int) :=
 bindO (crew_Check p0) fun y1 => (bif (!decide (y1 = 0)) then some ((⟨[], [], []⟩ : Crew), y1) else bindO (crew_find fuel p0 p1) fun y4 => (bif (!y4.2) then some ((⟨[], [], []⟩ : Crew), 3) else bindO (crew_copied p0) fun y7 => must (inI (y4.1 + 1)) <| bindO (slices_Delete_Task y7.Tasks y4.1 (y4.1 + 1)) fun y10 => some ((⟨y10, y7.Travel, y7.Hands⟩ : Crew), 0)))
def slices_Insert_Task (p0 : List Task) (p1 : Int) (p2 : Task) : Option (List Task) :=
 must (0 ≤ p1 ∧ p1 ≤ (p0.length : Int)) <| must (room (p0.length + 1) 32) <| some (p0.take p1.toNat ++ [p2] ++ p0.drop p1.toNat)
def crew_With (fuel : Nat) (p0 : Crew) (p1 : Task) : Option (Crew × Int) :=
 bindO (crew_Check p0) fun y1 => (bif (!decide (y1 = 0)) then some ((⟨[], [], []⟩ : Crew), y1) else bindO (crew_find fuel p0 p1.Lamp) fun y4 => (bif (((!decide ((crew_CheckTask p1) = 0)) || (decide (((p0.Travel.length : Nat) : Int) ≤ p1.Place))) || y4.2) then some ((⟨[], [], []⟩ : Crew), 40) else (bif (decide (((p0.Tasks.length : Nat) : Int) = 24)) then some ((⟨[], [], []⟩ : Crew), 2) else bindO (crew_copied p0) fun y8 => bindO (slices_Insert_Task y8.Tasks y4.1 p1) fun y10 => some ((⟨y10, y8.Travel, y8.Hands⟩ : Crew), 0))))
def gasolierref04_SameCrew (p0 : Crew) (p1 : Crew) : Option Bool :=
 (bif (((!decide (((p0.Tasks.length : Nat) : Int) = ((p1.Tasks.length : Nat) : Int))) || (!decide (((p0.Hands.length : Nat) : Int) = ((p1.Hands.length : Nat) : Int)))) || (!decide (((p0.Travel.length : Nat) : Int) = ((p1.Travel.length : Nat) : Int)))) then some false else must (p0.Tasks.length ≤ 9223372036854775807) <| (rangeGo (fun i2 (s2 : Unit) k2 => must (0 ≤ ((i2 : Int) : Int) ∧ ((i2 : Int) : Int) < ((p1.Tasks.length : Nat) : Int)) <| (bif (!((decide ((p0.Tasks.getD i2 default).Lamp = (p1.Tasks.getD i2 default).Lamp)) && ((decide ((p0.Tasks.getD i2 default).Place = (p1.Tasks.getD i2 default).Place)) && ((decide ((p0.Tasks.getD i2 default).At = (p1.Tasks.getD i2 default).At)) && (decide ((p0.Tasks.getD i2 default).Serve = (p1.Tasks.getD i2 default).Serve)))))) then some false else k2 ())) (fun (s2 : Unit) => must (p0.Hands.length ≤ 9223372036854775807) <| (rangeGo (fun i6 (s6 : Unit) k6 => must (0 ≤ ((i6 : Int) : Int) ∧ ((i6 : Int) : Int) < ((p1.Hands.length : Nat) : Int)) <| (bif (!((decide ((p0.Hands.getD i6 default).Id = (p1.Hands.getD i6 default).Id)) && ((decide ((p0.Hands.getD i6 default).From = (p1.Hands.getD i6 default).From)) && (decide ((p0.Hands.getD i6 default).To = (p1.Hands.getD i6 default).To))))) then some false else k6 ())) (fun (s6 : Unit) => must (p0.Travel.length ≤ 9223372036854775807) <| (rangeGo (fun i10 (s10 : Unit) k10 => must (0 ≤ ((i10 : Int) : Int) ∧ ((i10 : Int) : Int) < ((p1.Travel.length : Nat) : Int)) <| (bif (!decide ((((p0.Travel.getD i10 default).length : Nat) : Int) = (((p1.Travel.getD i10 default).length : Nat) : Int))) then some false else must ((p0.Travel.getD i10 default).length ≤ 9223372036854775807) <| (rangeGo (fun i14 (s14 : Unit) k14 => must (0 ≤ ((i10 : Int) : Int) ∧ ((i10 : Int) : Int) < ((p1.Travel.length : Nat) : Int)) <| must (0 ≤ ((i14 : Int) : Int) ∧ ((i14 : Int) : Int) < (((p1.Travel.getD i10 default).length : Nat) : Int)) <| (bif (!((decide (((p0.Travel.getD i10 default).getD i14 default).Lo = ((p1.Travel.getD i10 default).getD i14 default).Lo)) && (decide (((p0.Travel.getD i10 default).getD i14 default).Hi = ((p1.Travel.getD i10 default).getD i14 default).Hi)))) then some false else k14 ())) (fun (s14 : Unit) => k10 ()) ((p0.Travel.getD i10 default).length) 0 ()))) (fun (s10 : Unit) => some true) p0.Travel.length 0 ())) p0.Hands.length 0 ())) p0.Tasks.length 0 ()))
def gasolierlaw04_CrewLess (fuel : Nat) (p0 : Crew) (p1 : (Arr3 Int)) : Option Bool :=
 bindO (gasolierref04_Check p0) fun y1 => (bif (!decide (y1 = 0)) then bindO (crew_Check p0) fun y4 => bindO ((bif (decide (y4 = 42)) then gasolierlaw04_sane 20000 else some default)) fun y6 => some ((decide (y4 = 42)) && y6) else bindO (crew_Bounds fuel p0) fun y8 => bindO (crew_Moved fuel p0) fun y10 => bindO (gasolierref01_Mod p1.x1 1440) fun y12 => bindO (crew_After fuel p0 y12) fun y14 => bindO (crew_Count fuel y14.1) fun y16 => (bif ((((((!decide (y8.2 = 0)) || (!decide (y10.2 = 0))) || (!decide (y14.2 = 0))) || (!decide (y16.2 = 0))) || (decide (y8.1.Hi < y16.1))) || (decide (y8.1.Hi < y8.1.Lo))) then some false else (joinK (fun (k19 : Unit → _) => (bif (decide (0 < ((p0.Tasks.length : Nat) : Int))) then bindO (gasolierref01_Mod p1.x0 ((p0.Tasks.length : Nat) : Int)) fun y41 => must (0 ≤ (y41 : Int) ∧ (y41 : Int) < ((p0.Tasks.length : Nat) : Int)) <| bindO (crew_Without fuel p0 ((p0.Tasks.getD (y41).toNat default).Lamp)) fun y44 => bindO (crew_Count fuel y44.1) fun y46 => bindO (crew_With fuel y44.1 (p0.Tasks.getD (y41).toNat default)) fun y48 => bindO ((bif (!(((!decide (y44.2 = 0)) || (!decide (y46.2 = 0))) || (!decide (y48.2 = 0)))) then gasolierref04_SameCrew y48.1 p0 else some default)) fun y50 => must (((!(((((!decide (y44.2 = 0)) || (!decide (y46.2 = 0))) || (!decide (y48.2 = 0))) || (!y50)) || (decide (y8.1.Hi < y46.1)))) = true → (inI (y8.1.Hi - 1)))) <| bindO ((bif (!((((((!decide (y44.2 = 0)) || (!decide (y46.2 = 0))) || (!decide (y48.2 = 0))) || (!y50)) || (decide (y8.1.Hi < y46.1))) || (decide (y46.1 < (y8.1.Hi - 1))))) then gasolierref01_Has y10.1 ((p0.Tasks.getD (y41).toNat default).Lamp) else some default)) fun y53 => (bif (((((((!decide (y44.2 = 0)) || (!decide (y46.2 = 0))) || (!decide (y48.2 = 0))) || (!y50)) || (decide (y8.1.Hi < y46.1))) || (decide (y46.1 < (y8.1.Hi - 1)))) || (!(y53 == (decide (y46.1 < y8.1.Hi))))) then some false else k19 ()) else k19 ())) (fun (s19 : Unit) => bindO (gasolierref04_Copy p0) fun y20 => must (y20.Travel.length ≤ 9223372036854775807) <| (rangeGo (fun i22 (s22 : (List (List Range))) k22 => must (0 ≤ ((i22 : Int) : Int) ∧ ((i22 : Int) : Int) < ((s22.length : Nat) : Int)) <| must (((s22.getD i22 []).length) ≤ 9223372036854775807) <| (rangeGo (fun i25 (s25 : (List (List Range))) k25 => must (0 ≤ ((i22 : Int) : Int) ∧ ((i22 : Int) : Int) < ((s25.length : Nat) : Int)) <| must (0 ≤ ((i25 : Int) : Int) ∧ ((i25 : Int) : Int) < (((s25.getD i22 []).length : Nat) : Int)) <| must (0 ≤ ((i22 : Int) : Int) ∧ ((i22 : Int) : Int) < ((s25.length : Nat) : Int)) <| must (inI (((s25.getD i22 []).getD i25 default).Hi - ((s25.getD i22 []).getD i25 default).Lo)) <| bindO (gasolierref01_Mod p1.x2 2) fun y31 => must (inI ((((s25.getD i22 []).getD i25 default).Hi - ((s25.getD i22 []).getD i25 default).Lo) * y31)) <| must (inI (((s25.getD i22 []).getD i25 default).Hi - ((((s25.getD i22 []).getD i25 default).Hi - ((s25.getD i22 []).getD i25 default).Lo) * y31))) <| must (0 ≤ ((i25 : Int) : Int) ∧ ((i25 : Int) : Int) < (((s25.getD i22 []).length : Nat) : Int)) <| k25 (s25.set i22 ((s25.getD i22 []).set i25 (⟨((s25.getD i22 []).getD i25 default).Lo, (((s25.getD i22 []).getD i25 default).Hi - ((((s25.getD i22 []).getD i25 default).Hi - ((s25.getD i22 []).getD i25 default).Lo) * y31))⟩ : Range)))) (fun (s25 : (List (List Range))) => k22 s25) ((s22.getD i22 []).length) 0 s22)) (fun (s22 : (List (List Range))) => bindO (crew_Bounds fuel (⟨y20.Tasks, s22, y20.Hands⟩ : Crew)) fun y36 => bindO ((bif (((decide (y36.2 = 0)) && (decide (y8.1.Lo ≤ y36.1.Lo))) && (decide (y36.1.Hi ≤ y8.1.Hi))) then gasolierlaw04_sane 20000 else some default)) fun y38 => some ((((decide (y36.2 = 0)) && (decide (y8.1.Lo ≤ y36.1.Lo))) && (decide (y36.1.Hi ≤ y8.1.Hi))) && y38)) y20.Travel.length 0 y20.Travel)))))
end Go.Sp
end
