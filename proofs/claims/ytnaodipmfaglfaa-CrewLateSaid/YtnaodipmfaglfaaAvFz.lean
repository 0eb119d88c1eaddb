/- An owned slice is only read from now on, wherever it is named. -/
import Derived.Test.YtnaodipmfaglfaaAvRn
set_option linter.all false
namespace Go.Av
mutual
/-- A value in which a name is read as what it stands for; what must hold for it. -/
def fz (id n' : Nat) (r : AV) (K : List Nat) : AV → Option (AV × List Prop)
  | .buf i n => match Nat.beq i id with
    | true => some (r, [n = n'])
    | false => match inList K i with
      | true => some (.buf i n, [])
      | false => none
  | .agg cs => match fzL id n' r K cs with
    | some (cs', ps) => some (.agg cs', ps)
    | none => none
  | .tup cs => match fzL id n' r K cs with
    | some (cs', ps) => some (.tup cs', ps)
    | none => none
  | v => match onlyIds K v with
    | true => some (v, [])
    | false => none
def fzL (id n' : Nat) (r : AV) (K : List Nat) : List AV → Option (List AV × List Prop)
  | [] => some ([], [])
  | c :: cs => match fz id n' r K c with
    | some (c', ps) => match fzL id n' r K cs with
      | some (cs', qs) => some (c' :: cs', appP ps qs)
      | none => none
    | none => none
end
theorem fz_other {id n' : Nat} {r : AV} {K : List Nat} {x y : AV} {ps : List Prop} (h : fz id n' r K x = some (y, ps)) (h1 : ∀ i n, x ≠ .buf i n) (h2 : ∀ cs, x ≠ .agg cs) (h3 : ∀ cs, x ≠ .tup cs) : onlyIds K x = true ∧ y = x := by
  cases x <;> first | exact absurd rfl (h1 _ _) | exact absurd rfl (h2 _) | exact absurd rfl (h3 _) | (simp only [fz] at h; split at h <;> cases h; exact ⟨by assumption, rfl⟩)
theorem fzL_get {id n' : Nat} {r : AV} {K : List Nat} : ∀ {cs cs' : List AV} {ps : List Prop}, fzL id n' r K cs = some (cs', ps) → cs'.length = cs.length ∧
    ∀ (i : Nat) (c' : AV), cs'[i]? = some c' → ∃ c qs, cs[i]? = some c ∧ fz id n' r K c = some (c', qs) ∧ ∀ q, q ∈ qs → q ∈ ps
  | [], cs', ps, h => by
    simp only [fzL] at h; cases h
    exact ⟨rfl, fun i c' hc => (by simp at hc)⟩
  | c :: cs, cs', ps, h => by
    simp only [fzL] at h
    split at h
    · rename_i d qs hd
      split at h
      · rename_i ds rs hds
        cases h
        obtain ⟨h1, h2⟩ := fzL_get hds
        refine ⟨by simp [h1], fun i c' hc => ?_⟩
        cases i with
        | zero => simp at hc; subst hc; exact ⟨c, qs, rfl, hd, fun q hq => appP_mem.2 (.inl hq)⟩
        | succ i =>
          obtain ⟨c0, q0, e1, e2, e3⟩ := h2 i c' (by simpa using hc)
          exact ⟨c0, q0, by simpa using e1, e2, fun q hq => appP_mem.2 (.inr (e3 q hq))⟩
      · cases h
    · cases h
theorem Rel.fz {h h' : Hp} {ρ ρ' : Rho} {id n' sz : Nat} {v0 : Value} {r : AV} {K : List Nat} (hle : Le h h') (hρ : ∀ i, i ∈ K → ρ' i = ρ i) (hid : ρ id = some (.sl n' sz v0)) (hr : Rel h' ρ' r v0) {x : AV} {v : Value} (H : Rel h ρ x v) :
    ∀ {y : AV} {ps : List Prop}, Go.Av.fz id n' r K x = some (y, ps) → (∀ q, q ∈ ps → q) → Rel h' ρ' y v := by
  induction H with
  | buf ρ i n n2 sz2 v v' hb hl h1 he =>
    intro y ps hy hp
    simp only [Go.Av.fz] at hy
    split at hy
    · rename_i hi
      cases hy
      have := Nat.eq_of_beq_eq_true hi
      subst this
      have hn : n = n' := hp _ (List.mem_cons_self ..)
      rw [hid] at hb; cases hb
      rw [he hn]; exact hr
    · split at hy
      · rename_i hk
        cases hy
        exact .buf _ _ _ _ _ _ _ ((hρ i (inList_mem hk)).trans hb) hl h1 he
      · cases hy
  | agg ρ cs vs hl hc ih =>
    intro y ps hy hp
    simp only [Go.Av.fz] at hy
    split at hy
    · rename_i cs' qs hcs
      cases hy
      obtain ⟨e1, e2⟩ := fzL_get hcs
      refine .agg _ _ _ (by rw [hl, e1]) fun i c v h1 h2 => ?_
      obtain ⟨c0, q0, k1, k2, k3⟩ := e2 i c h1
      exact ih i c0 v k1 h2 hρ hid k2 (fun q hq => hp q (k3 q hq))
    · cases hy
  | tup ρ cs vs hl hc ih =>
    intro y ps hy hp
    simp only [Go.Av.fz] at hy
    split at hy
    · rename_i cs' qs hcs
      cases hy
      obtain ⟨e1, e2⟩ := fzL_get hcs
      refine .tup _ _ _ (by rw [hl, e1]) fun i c v h1 h2 => ?_
      obtain ⟨c0, q0, k1, k2, k3⟩ := e2 i c h1
      exact ih i c0 v k1 h2 hρ hid k2 (fun q hq => hp q (k3 q hq))
    · cases hy
  | _ =>
    intro y ps hy hp
    obtain ⟨ho, rfl⟩ := fz_other hy (fun _ _ e => by cases e) (fun _ e => by cases e) (fun _ e => by cases e)
    refine Rel.forget hρ (Rel.heap ?_ hle) ho
    first | (constructor <;> assumption) | (constructor; done)
def fzS (id n' : Nat) (r : AV) (K : List Nat) (L : List (Nat × AV)) : List Nat → Option (List (Nat × AV) × List Prop)
  | [] => some ([], [])
  | t :: ts => match findL L t with
    | some x => match fz id n' r K x with
      | some (y, ps) => match fzS id n' r K L ts with
        | some (L', qs) => some ((t, y) :: L', appP ps qs)
        | none => none
      | none => none
    | none => none
def fzB (id n' : Nat) (r : AV) (K : List Nat) : Blk → Option (Blk × List Prop)
  | .cells cs => match fzL id n' r K cs with
    | some (cs', ps) => some (.cells cs', ps)
    | none => none
  | b => match onlyB K b with
    | true => some (b, [])
    | false => none
def fzM (id n' : Nat) (r : AV) (K : List Nat) (M : List (Nat × Blk)) : List Nat → Option (List (Nat × Blk) × List Prop)
  | [] => some ([], [])
  | t :: ts => match mm M t with
    | some x => match fzB id n' r K x with
      | some (y, ps) => match fzM id n' r K M ts with
        | some (M', qs) => some ((t, y) :: M', appP ps qs)
        | none => none
      | none => none
    | none => none
theorem fzS_spec {id n' : Nat} {r : AV} {K : List Nat} {L : List (Nat × AV)} : ∀ {ts : List Nat} {L' : List (Nat × AV)} {ps : List Prop}, fzS id n' r K L ts = some (L', ps) →
    ∀ t, fr L' t = .any ∨ ∃ qs, fz id n' r K (fr L t) = some (fr L' t, qs) ∧ ∀ q, q ∈ qs → q ∈ ps
  | [], L', ps, h, t => by simp only [fzS] at h; cases h; exact .inl rfl
  | u :: ts, L', ps, h, t => by
    simp only [fzS] at h
    split at h
    · rename_i x hx
      split at h
      · rename_i y qs hy
        split at h
        · rename_i L2 rs h2
          cases h
          simp only [fr, put]
          split
          · rename_i hb
            have := Nat.eq_of_beq_eq_true hb
            subst this
            rw [findL_fr hx]
            exact .inr ⟨qs, hy, fun q hq => appP_mem.2 (.inl hq)⟩
          · rcases fzS_spec h2 t with e | ⟨q0, e1, e2⟩
            · exact .inl e
            · exact .inr ⟨q0, e1, fun q hq => appP_mem.2 (.inr (e2 q hq))⟩
        · cases h
      · cases h
    · cases h
theorem fzM_spec {id n' : Nat} {r : AV} {K : List Nat} {M : List (Nat × Blk)} : ∀ {ts : List Nat} {M' : List (Nat × Blk)} {ps : List Prop}, fzM id n' r K M ts = some (M', ps) →
    (∀ t, t ∈ ts → (mm M' t).isSome = true) ∧ ∀ t y, mm M' t = some y → t ∈ ts ∧ ∃ x qs, mm M t = some x ∧ fzB id n' r K x = some (y, qs) ∧ ∀ q, q ∈ qs → q ∈ ps
  | [], M', ps, h => by simp only [fzM] at h; cases h; exact ⟨fun t ht => (by cases ht), fun t y hy => (by cases hy)⟩
  | u :: ts, M', ps, h => by
    simp only [fzM] at h
    split at h
    · rename_i x hx
      split at h
      · rename_i y qs hy
        split at h
        · rename_i L2 rs h2
          cases h
          obtain ⟨k1, k2⟩ := fzM_spec h2
          refine ⟨fun t ht => ?_, fun t z hz => ?_⟩
          · simp only [mm]
            by_cases e : t = u
            · subst e; rw [upd_same]; rfl
            · rw [upd_other _ _ e]
              exact k1 t ((List.mem_cons.1 ht).resolve_left e)
          · simp only [mm] at hz
            by_cases e : t = u
            · subst e; rw [upd_same] at hz; cases hz
              exact ⟨List.mem_cons_self .., x, qs, hx, hy, fun q hq => appP_mem.2 (.inl hq)⟩
            · rw [upd_other _ _ e] at hz
              obtain ⟨e0, x2, q2, e1, e2, e3⟩ := k2 t z hz
              exact ⟨List.mem_cons_of_mem _ e0, x2, q2, e1, e2, fun q hq => appP_mem.2 (.inr (e3 q hq))⟩
        · cases h
      · cases h
    · cases h
section
variable {N : Nat} {C : Ctx} {L : List (Nat × AV)} {M : List (Nat × Blk)} {g : Nat} {R : Act → World → Prop}
theorem At.freezeA (id : Nat) {ty sz n' : Nat} {e : Nat → List AV} {K ts : List Nat} {L' : List (Nat × AV)} {M' : List (Nat × Blk)} {ps qs : List Prop} (hM : mm M id = some (.buf ty sz n' e)) (hK : inList K id = false)
    (hL : fzS id n' (.ro sz n' e) K L ts = some (L', ps)) (hMK : fzM id n' (.ro sz n' e) K M K = some (M', qs)) (hps : AllP ps) (hqs : AllP qs)
    (hbor : ∀ b, ¬ C.bor b) (Kk : At N C L' M' g R) (hs : onlyL K C.savA = true := by rfl) : At N C L M g R := by
  intro h ρ a w I
  have hps := hps.mem
  have hqs := hqs.mem
  obtain ⟨v, us, k1, k2, k3, k5, k4⟩ := I.blk id _ hM
  obtain ⟨m1, m2⟩ := fzM_spec hMK
  have hidK : id ∉ K := fun hk => by rw [inList_of hk] at hK; cases hK
  classical
  let h' : Hp := fun b => if v.ownBlock = some b then w.heap[b]? else h b
  let ρ' : Rho := fun i => if i ∈ K then ρ i else none
  have hρ : ∀ i, i ∈ K → ρ' i = ρ i := fun i hi => if_pos hi
  have hρ' : ∀ i li, ρ' i = some li → i ∈ K ∧ ρ i = some li := fun i li hi => by
    have : (if i ∈ K then ρ i else none) = some li := hi
    split at this
    · exact ⟨by assumption, this⟩
    · cases this
  have hin : ∀ b, v.ownBlock = some b → h' b = w.heap[b]? := fun b hb => if_pos hb
  have hle : ∀ b o, h b = some o → h' b = some o := by
    intro b o hb
    show (if v.ownBlock = some b then w.heap[b]? else h b) = some o
    split
    · exact I.hp b o hb
    · exact hb
  have hge : ∀ b, v.ownBlock = some b → C.w0.heap.size ≤ b := fun b hb => (I.own id _ b k1 hb).2.2.resolve_right (hbor b)
  have hnew : ∀ b o, h' b = some o → (v.ownBlock = some b ∧ w.heap[b]? = some o) ∨ h b = some o := by
    intro b o hb
    have : (if v.ownBlock = some b then w.heap[b]? else h b) = some o := hb
    split at this
    · exact .inl ⟨by assumption, this⟩
    · exact .inr this
  have hr : Rel h' ρ' (.ro sz n' e) v := (ro_of_own k2 (fun b hb => hin b hb) k3 k5 (fun i j c x a1 a2 a3 => (k4 i j c x a1 a2 a3).heap (Le.of hle))).closed
  refine Kk h' ρ' a w { I with slot := fun t => ?_, sav := ⟨I.sav.1, fun i c x h1 h2 => ((I.sav.2 i c x h1 h2).heap (Le.of hle)).forget hρ (onlyL_get hs h1)⟩, hp := fun b o hb => ?_, blk := fun i y hy => ?_, dom := fun i hi => ?_, own := fun i li b q1 q2 => ?_, inj := fun i i' li li' b q1 q1' q2 q2' => I.inj i i' li li' b (hρ' _ _ q1).2 (hρ' _ _ q1').2 q2 q2', ext := fun b o hb => hle b o (I.ext b o hb), old := fun b o hb hlt => ?_, gst := ?_, dfr := ?_ }
  · rcases fzS_spec hL t with e1 | ⟨q0, e1, e2⟩
    · rw [e1]; exact .any _ _
    · exact Rel.fz (Le.of hle) hρ k1 hr (I.slot t) e1 (fun q hq => hps q (e2 q hq))
  · rcases hnew b o hb with q | q
    · exact q.2
    · exact I.hp b o q
  · obtain ⟨hik, x, q0, e1, e2, e3⟩ := m2 i y hy
    have H := I.blk i x e1
    have other : ∀ z, onlyB K z = true → BlkOk h ρ i z w → BlkOk h' ρ' i z w := fun z ho Hz => ((Hz.keep (Le.of hle) rfl (hle_refl _) (fun _ _ _ _ => rfl)).forget hρ hik ho)
    cases x with
    | cells cs =>
      simp only [fzB] at e2
      split at e2
      · rename_i cs' q2 hcs
        cases e2
        obtain ⟨b, vs, ty', z1, z2, z3, z4⟩ := H
        obtain ⟨l1, l2⟩ := fzL_get hcs
        refine ⟨b, vs, ty', (hρ i hik).trans z1, z2, by rw [z3, l1], fun j c u hc hu => ?_⟩
        obtain ⟨c0, q3, y1, y2, y3⟩ := l2 j c hc
        exact Rel.fz (Le.of hle) hρ k1 hr (z4 j c0 u y1 hu) y2 (fun q hq => hqs q (e3 q (y3 q hq)))
      · cases e2
    | _ =>
      simp only [fzB] at e2
      split at e2
      · rename_i ho
        cases e2
        exact other _ ho H
      · cases e2
  · cases hq : ρ' i with
    | none => rfl
    | some li =>
      have := m1 i (hρ' i li hq).1
      rw [hi] at this; cases this
  · obtain ⟨q3, q4⟩ := hρ' i li q1
    obtain ⟨z1, z2, z3⟩ := I.own i li b q4 q2
    refine ⟨?_, z2, z3⟩
    show (if v.ownBlock = some b then w.heap[b]? else h b) = none
    rw [if_neg (fun hv : v.ownBlock = some b => hidK ((I.inj i id li _ b q4 k1 q2 hv) ▸ q3))]
    exact z1
  · rcases hnew b o hb with q | q
    · exact absurd hlt (Nat.not_lt.2 (hge b q.1))
    · exact I.old b o q hlt
  · obtain ⟨X, x1, x2, x3⟩ := I.gst
    refine ⟨X, fun b ⟨i, li, q1, q2⟩ => x1 b ⟨i, li, (hρ' i li q1).2, q2⟩, fun b o hb => ?_, x3⟩
    rcases hnew b o hb with q | q
    · exact .inr (x1 b ⟨id, _, k1, q.1⟩)
    · exact x2 b o q
  · obtain ⟨Ds, hd1, hd2, hd3⟩ := I.dfr
    exact ⟨Ds, hd1, hd2, fun D hD => ⟨hle _ _ (hd3 D hD).1, (hd3 D hD).2⟩⟩
end
end Go.Av
