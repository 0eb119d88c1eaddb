/- Calls: what a call is handed; contracts; the call of a Go function. -/
import Derived.Test.YtnaodipmfaglfaaAvM
import Derived.CallsIn
set_option linter.all false
namespace Go.Av
theorem onlyL_get {ids : List Nat} : ∀ {cs : List AV} {i : Nat} {c : AV}, onlyL ids cs = true → cs[i]? = some c → onlyIds ids c = true
  | [], i, c, _, h => by simp at h
  | x :: cs, 0, c, hc, h => by
    simp only [onlyL] at hc
    split at hc
    · rename_i h1; simp at h; rw [← h]; exact h1
    · cases hc
  | x :: cs, i + 1, c, hc, h => by
    simp only [onlyL] at hc
    simp only [List.getElem?_cons_succ] at h
    split at hc
    · exact onlyL_get hc h
    · cases hc
theorem inList_mem : ∀ {l : List Nat} {t : Nat}, inList l t = true → t ∈ l
  | k :: l, t, h => by
    unfold inList at h
    split at h
    · rename_i hb; have := Nat.eq_of_beq_eq_true hb; subst this; exact List.mem_cons_self ..
    · exact List.mem_cons_of_mem _ (inList_mem h)
theorem Rel.forget {h : Hp} {ρ ρ' : Rho} {ids : List Nat} (hρ : ∀ id, id ∈ ids → ρ' id = ρ id) {a : AV} {v : Value} (H : Rel h ρ a v) (hc : onlyIds ids a = true) : Rel h ρ' a v := by
  obtain ⟨ρ1, he, H'⟩ : ∃ ρ1, ρ = ρ1 ∧ Rel h ρ1 a v := ⟨ρ, rfl, H⟩
  clear H
  induction H' with
  | any ρ v => exact .any _ _
  | nilS => exact .nilS _
  | nilFn => exact .nilFn _
  | nilPtr => exact .nilPtr _
  | nilMap => exact .nilMap _
  | nilIfc => exact .nilIfc _
  | bool => exact .bool _ _
  | int => exact .int _ _ _
  | agg ρ1 cs vs hl hc' ih => exact .agg _ _ _ hl fun i c v h1 h2 => ih i c v h1 h2 (onlyL_get (by simpa [onlyIds] using hc) h1) he
  | tup ρ1 cs vs hl hc' ih => exact .tup _ _ _ hl fun i c v h1 h2 => ih i c v h1 h2 (onlyL_get (by simpa [onlyIds] using hc) h1) he
  | ro ρ1 sz n e a cap hnil hcap hsz hs h1 hc' ih => exact .ro _ _ _ _ _ _ hnil hcap hsz hs h1 hc'
  | rp ρ1 cs ad hs hc' ih => exact .rp _ _ _ hs hc'
  | lp ρ1 id off b hb => subst he; exact .lp _ _ _ _ ((hρ id (inList_mem (by simpa [onlyIds] using hc))).trans hb)
  | buf ρ1 id n n' sz v v' hb hle h1 hq => subst he; exact .buf _ _ _ _ _ _ _ ((hρ id (inList_mem (by simpa [onlyIds] using hc))).trans hb) hle h1 hq
  | ep ρ1 id n i off n' sz v v' hb hle h1 hq => subst he; exact .ep _ _ _ _ _ _ _ _ _ ((hρ id (inList_mem (by simpa [onlyIds] using hc))).trans hb) hle h1 hq
  | fn ρ1 f fs cs vs ws hl hm hc' hd ih1 ih2 =>
    simp only [onlyIds] at hc
    split at hc
    · rename_i h0
      exact .fn _ _ _ _ _ _ hl hm (fun i c v h1 h2 => ih1 i c v h1 h2 (onlyL_get h0 h1) he) (fun i c v h1 h2 => ih2 i c v h1 h2 (onlyL_get hc h1) he)
    · cases hc
  | clo ρ1 f fs cs v hv ih => exact .clo _ _ _ _ _ hv
  | mp ρ1 id b hb => subst he; exact .mp _ _ _ ((hρ id (inList_mem (by simpa [onlyIds] using hc))).trans hb)
  | rom ρ1 z dom e n r es clock ks hR hks hlen hel hk hborn hbd hdom hz hc' ihz ih => exact .rom _ _ _ _ _ _ _ _ _ hR hks hlen hel hk hborn hbd hdom hz hc'
  | ifc ρ1 t a v hv ih => exact .ifc _ _ _ _ (ih (by simpa [onlyIds] using hc) he)
  | cnd ρ1 g a v ht hf ih => exact .cnd _ _ _ _ (fun hg => ih hg (by simpa [onlyIds] using hc) he) hf
  | raw => exact .raw _ _
  | nz ρ1 n b hb => exact .nz _ _ _ hb
  | po ρ1 b cs v ht hf ih => exact .po _ _ _ _ (fun hg => ih hg rfl he) hf
  | gb ρ1 id n sz rows v hb hn h0 => subst he; exact .gb _ _ _ _ _ _ ((hρ id (inList_mem (by simpa [onlyIds] using hc))).trans hb) hn h0
  | gp ρ1 id i b n cap sz rows hb => subst he; exact .gp _ _ _ _ _ _ _ _ ((hρ id (inList_mem (by simpa [onlyIds] using hc))).trans hb)
  | gr' ρ1 id i m m' sz gv v v' rows hb hi hle h0 hq => subst he; exact .gr' _ _ _ _ _ _ _ _ _ _ ((hρ id (inList_mem (by simpa [onlyIds] using hc))).trans hb) hi hle h0 hq
  | sb ρ1 id n a b n' sz v v' hb hle h0 hq => subst he; exact .sb _ _ _ _ _ _ _ _ _ ((hρ id (inList_mem (by simpa [onlyIds] using hc))).trans hb) hle h0 hq
  | ge ρ1 id i m j off m' sz gv v v' rows hb hi hle h0 hq => subst he; exact .ge _ _ _ _ _ _ _ _ _ _ _ _ ((hρ id (inList_mem (by simpa [onlyIds] using hc))).trans hb) hi hle h0 hq
theorem shL_len {k : Nat} : ∀ (cs : List AV), (shL k cs).length = cs.length
  | [] => rfl
  | c :: cs => by simp [shL, shL_len cs]
theorem shL_get {k : Nat} : ∀ {cs : List AV} {i : Nat} {c : AV}, (shL k cs)[i]? = some c → ∃ c0, cs[i]? = some c0 ∧ c = c0.sh k
  | [], i, c, h => by simp [shL] at h
  | x :: cs, 0, c, h => by simp [shL] at h; exact ⟨x, by simp, h.symm⟩
  | x :: cs, i + 1, c, h => by
    simp only [shL, List.getElem?_cons_succ] at h
    obtain ⟨c0, e1, e2⟩ := shL_get h
    exact ⟨c0, by simpa using e1, e2⟩
theorem Rel.shift {h : Hp} {ρ ρ' : Rho} {ids : List Nat} {k : Nat} (hρ : ∀ id, id ∈ ids → ρ' (k + id) = ρ id) {a : AV} {v : Value} (H : Rel h ρ a v) (hc : onlyIds ids a = true) : Rel h ρ' (a.sh k) v := by
  obtain ⟨ρ1, he, H'⟩ : ∃ ρ1, ρ = ρ1 ∧ Rel h ρ1 a v := ⟨ρ, rfl, H⟩
  clear H
  induction H' with
  | any ρ v => simp only [AV.sh]; exact .any _ _
  | nilS => simp only [AV.sh]; exact .nilS _
  | nilFn => simp only [AV.sh]; exact .nilFn _
  | nilPtr => simp only [AV.sh]; exact .nilPtr _
  | nilMap => simp only [AV.sh]; exact .nilMap _
  | nilIfc => simp only [AV.sh]; exact .nilIfc _
  | bool => simp only [AV.sh]; exact .bool _ _
  | int => simp only [AV.sh]; exact .int _ _ _
  | agg ρ1 cs vs hl hc' ih =>
    simp only [AV.sh]
    refine .agg _ _ _ (by rw [shL_len]; exact hl) fun i c v h1 h2 => ?_
    obtain ⟨c0, e1, rfl⟩ := shL_get h1
    exact ih i c0 v e1 h2 (onlyL_get (by simpa [onlyIds] using hc) e1) he
  | tup ρ1 cs vs hl hc' ih =>
    simp only [AV.sh]
    refine .tup _ _ _ (by rw [shL_len]; exact hl) fun i c v h1 h2 => ?_
    obtain ⟨c0, e1, rfl⟩ := shL_get h1
    exact ih i c0 v e1 h2 (onlyL_get (by simpa [onlyIds] using hc) e1) he
  | ro ρ1 sz n e a cap hnil hcap hsz hs h1 hc' ih => simp only [AV.sh]; exact .ro _ _ _ _ _ _ hnil hcap hsz hs h1 hc'
  | rp ρ1 cs ad hs hc' ih => simp only [AV.sh]; exact .rp _ _ _ hs hc'
  | lp ρ1 id off b hb => simp only [AV.sh]; subst he; exact .lp _ _ _ _ ((hρ id (inList_mem (by simpa [onlyIds] using hc))).trans hb)
  | buf ρ1 id n n' sz v v' hb hle h1 hq => simp only [AV.sh]; subst he; exact .buf _ _ _ _ _ _ _ ((hρ id (inList_mem (by simpa [onlyIds] using hc))).trans hb) hle h1 hq
  | ep ρ1 id n i off n' sz v v' hb hle h1 hq => simp only [AV.sh]; subst he; exact .ep _ _ _ _ _ _ _ _ _ ((hρ id (inList_mem (by simpa [onlyIds] using hc))).trans hb) hle h1 hq
  | fn ρ1 f fs cs vs ws hl hm hc' hd ih1 ih2 =>
    simp only [onlyIds] at hc
    split at hc
    · rename_i h0
      simp only [AV.sh]
      refine .fn _ _ _ _ _ _ (by rw [shL_len]; exact hl) (by rw [shL_len]; exact hm) (fun i c v h1 h2 => ?_) (fun i c v h1 h2 => ?_)
      · obtain ⟨c0, e1, rfl⟩ := shL_get h1
        exact ih1 i c0 v e1 h2 (onlyL_get h0 e1) he
      · obtain ⟨c0, e1, rfl⟩ := shL_get h1
        exact ih2 i c0 v e1 h2 (onlyL_get hc e1) he
    · cases hc
  | clo ρ1 f fs cs v hv ih => simp only [AV.sh]; exact .clo _ _ _ _ _ hv
  | mp ρ1 id b hb => simp only [AV.sh]; subst he; exact .mp _ _ _ ((hρ id (inList_mem (by simpa [onlyIds] using hc))).trans hb)
  | rom ρ1 z dom e n r es clock ks hR hks hlen hel hk hborn hbd hdom hz hc' ihz ih => simp only [AV.sh]; exact .rom _ _ _ _ _ _ _ _ _ hR hks hlen hel hk hborn hbd hdom hz hc'
  | ifc ρ1 t a v hv ih => simp only [AV.sh]; exact .ifc _ _ _ _ (ih (by simpa [onlyIds] using hc) he)
  | cnd ρ1 g a v ht hf ih => simp only [AV.sh]; exact .cnd _ _ _ _ (fun hg => ih hg (by simpa [onlyIds] using hc) he) hf
  | raw => simp only [AV.sh]; exact .raw _ _
  | nz ρ1 n b hb => simp only [AV.sh]; exact .nz _ _ _ hb
  | po ρ1 b cs v ht hf ih => simp only [AV.sh] at ih ⊢; exact .po _ _ _ _ (fun hg => ih hg rfl he) hf
  | gb ρ1 id n sz rows v hb hn h0 => simp only [AV.sh]; subst he; exact .gb _ _ _ _ _ _ ((hρ id (inList_mem (by simpa [onlyIds] using hc))).trans hb) hn h0
  | gp ρ1 id i b n cap sz rows hb => simp only [AV.sh]; subst he; exact .gp _ _ _ _ _ _ _ _ ((hρ id (inList_mem (by simpa [onlyIds] using hc))).trans hb)
  | gr' ρ1 id i m m' sz gv v v' rows hb hi hle h0 hq => simp only [AV.sh]; subst he; exact .gr' _ _ _ _ _ _ _ _ _ _ ((hρ id (inList_mem (by simpa [onlyIds] using hc))).trans hb) hi hle h0 hq
  | sb ρ1 id n a b n' sz v v' hb hle h0 hq => simp only [AV.sh]; subst he; exact .sb _ _ _ _ _ _ _ _ _ ((hρ id (inList_mem (by simpa [onlyIds] using hc))).trans hb) hle h0 hq
  | ge ρ1 id i m j off m' sz gv v v' rows hb hi hle h0 hq => simp only [AV.sh]; subst he; exact .ge _ _ _ _ _ _ _ _ _ _ _ _ ((hρ id (inList_mem (by simpa [onlyIds] using hc))).trans hb) hi hle h0 hq
theorem BlkOk.shift {h : Hp} {ρ ρ' : Rho} {ids : List Nat} {k : Nat} (hρ : ∀ id, id ∈ ids → ρ' (k + id) = ρ id) {id : Nat} {x : Blk} {w : World} (H : BlkOk h ρ id x w) (hid : id ∈ ids) (ho : onlyB ids x = true) : BlkOk h ρ' (k + id) (x.sh k) w := by
  cases x with
  | cells cs =>
    obtain ⟨b, vs, ty, q1, q2, q3, q4⟩ := H
    refine ⟨b, vs, ty, (hρ id hid).trans q1, q2, by rw [shL_len]; exact q3, fun i c v hc hv => ?_⟩
    obtain ⟨c0, e1, rfl⟩ := shL_get hc
    exact (q4 i c0 v e1 hv).shift hρ (onlyL_get (by simpa [onlyB] using ho) e1)
  | buf ty sz n e =>
    obtain ⟨v, xs, q1, q2⟩ := H
    exact ⟨v, xs, (hρ id hid).trans q1, q2⟩
  | map z dom e n =>
    obtain ⟨b, es, clock, ks, q1, q2⟩ := H
    exact ⟨b, es, clock, ks, (hρ id hid).trans q1, q2⟩
  | bufk ty sz n c e =>
    obtain ⟨v, xs, q1, q2⟩ := H
    exact ⟨v, xs, (hρ id hid).trans q1, q2⟩
  | dead =>
    obtain ⟨n, sz, q1⟩ := H
    exact ⟨n, sz, (hρ id hid).trans q1⟩
  | grid tS ty sz n m e =>
    obtain ⟨v, rows, q1, q2⟩ := H
    exact ⟨v, rows, (hρ id hid).trans q1, q2⟩
open Classical in
noncomputable def hAll (h : Hp) (ρ : Rho) (w : World) : Hp := fun b => if ownSet ρ b then w.heap[b]? else h b
theorem andO_left {p q : Option Prop} (H : ∀ x, andO p q = some x → x) : ∀ x, p = some x → x := by
  intro x hx
  subst hx
  cases q with
  | none => exact H _ rfl
  | some y => exact (H _ rfl).1
theorem andO_right {p q : Option Prop} (H : ∀ x, andO p q = some x → x) : ∀ x, q = some x → x := by
  intro x hx
  subst hx
  cases p with
  | none => exact H _ rfl
  | some y => exact (H _ rfl).2
section
variable {P : Program} {N : Nat} {C : Ctx} {h : Hp} {ρ : Rho} {F : Fr} {M : Mm} {g : Nat} {a : Act} {w : World} {Γ : Tys} {mg : Mm} {o : Oper}
theorem InvH.le_all (I : InvH N C h ρ F M g a w) : ∀ b o, h b = some o → hAll h ρ w b = some o := by
  intro b o hb
  unfold hAll
  split
  · rename_i hs
    obtain ⟨id, li, h1, h2⟩ := hs
    have := (I.own id li b h1 h2).1
    rw [hb] at this; cases this
  · exact hb
theorem hAll_own {id : Nat} {li : LI} {b : Nat} (h1 : ρ id = some li) (h2 : li.owns b) : hAll h ρ w b = w.heap[b]? := by
  unfold hAll
  rw [if_pos ⟨id, li, h1, h2⟩]
theorem InvH.all_hp (I : InvH N C h ρ F M g a w) : ∀ b o, hAll h ρ w b = some o → w.heap[b]? = some o := by
  intro b o hb
  unfold hAll at hb
  split at hb
  · exact hb
  · exact I.hp b o hb
theorem viewL_get : ∀ {cs cs' : List AV} {rd : List Nat} {c : Option Prop}, viewL mg cs = some (cs', rd, c) → cs'.length = cs.length ∧
    ∀ (i : Nat) (x' : AV), cs'[i]? = some x' → ∃ x rd' c', cs[i]? = some x ∧ view mg x = some (x', rd', c') ∧ (∀ id, id ∈ rd' → id ∈ rd) ∧ ((∀ q, c = some q → q) → ∀ q, c' = some q → q)
  | [], cs', rd, c, hv => by
    simp only [viewL] at hv; cases hv
    exact ⟨rfl, fun i x' hx => by simp at hx⟩
  | y :: ys, cs', rd, c, hv => by
    simp only [viewL] at hv
    split at hv
    · rename_i y' r1 p1 hy
      split at hv
      · rename_i ys' r2 p2 hys
        cases hv
        obtain ⟨hl, hg⟩ := viewL_get hys
        refine ⟨by simp [hl], fun i x' hx => ?_⟩
        cases i with
        | zero =>
          simp at hx; subst hx
          exact ⟨y, r1, p1, rfl, hy, fun id hid => by simp [hid], fun H => andO_left H⟩
        | succ i =>
          simp only [List.getElem?_cons_succ] at hx
          obtain ⟨x, rd', c', h1, h2, h3, h4⟩ := hg i x' hx
          exact ⟨x, rd', c', by simpa using h1, h2, fun id hid => by simp [h3 id hid], fun H => h4 (andO_right H)⟩
      · cases hv
    · cases hv
theorem ro_of_own {H2 : Hp} {ty sz n : Nat} {v : Value} {us : List Value} {e : Nat → List AV} (e2 : w.ownsRow 0 ty sz v n us) (hH : ∀ b, v.ownBlock = some b → H2 b = w.heap[b]?) (e3 : ∀ i, i < n → (e i).length = sz) (e5 : ∀ x, x ∈ us → x.oneCell' = true)
    (e4 : ∀ (i j : Nat) (c : AV) (x : Value), i < n → (e i)[j]? = some c → us[i * sz + j]? = some x → Rel H2 ρ0 c x) : Rel H2 ρ0 (.ro sz n e) v := by
  rcases e2.2 with ⟨rfl, h0'⟩ | ⟨b, cap, cur, rfl, _, q3, q4, q5, q6, q7⟩
  · subst h0'
    exact .ro _ _ _ _ none 0 (fun _ => rfl) ⟨Nat.le_refl _, Nat.zero_le _⟩ (fun i hi => by omega) (fun i j hi => by omega) (fun k v hk => by simp at hk) (fun i j c v hi => by omega)
  · have key : ∀ k, k < n * sz → hcell H2 (some ⟨b, 0, none⟩) k = us[k]? := by
      intro k hk
      simp only [hcell, cellOf, Addr.add_lit]
      simp only [hH b rfl, q3]
      rw [← q7]
      simp [hk]
    have hlt : ∀ i j, i < n → j < sz → i * sz + j < n * sz := by
      intro i j hi hj
      calc i * sz + j < i * sz + sz := by omega
        _ = (i + 1) * sz := by rw [Nat.add_mul, Nat.one_mul]
        _ ≤ n * sz := Nat.mul_le_mul_right _ hi
    refine .ro _ _ _ _ _ _ (fun e => by cases e) ⟨q4, Nat.le_trans q4 q5⟩ e3 (fun i j hi hj => ?_) (fun k v hk hv => ?_) (fun i j c v hi hj hv => ?_)
    · rw [key _ (hlt i j hi hj)]
      have := hlt i j hi hj
      rw [← e2.1] at this
      simp [this]
    · rw [key _ hk] at hv
      exact e5 v (List.mem_of_getElem? hv)
    · have hj' : j < sz := by rw [← e3 i hi]; exact (List.getElem?_eq_some_iff.1 hj).1
      rw [key _ (hlt i j hi hj')] at hv
      exact e4 i j c v hi hj hv
theorem view1L_get : ∀ {cs cs' : List AV} {rd : List Nat} {c : Option Prop}, view1L mg cs = some (cs', rd, c) → cs'.length = cs.length ∧
    ∀ (i : Nat) (x' : AV), cs'[i]? = some x' → ∃ x rd' c', cs[i]? = some x ∧ view1 mg x = some (x', rd', c') ∧ (∀ id, id ∈ rd' → id ∈ rd) ∧ ((∀ q, c = some q → q) → ∀ q, c' = some q → q)
  | [], cs', rd, c, hv => by
    simp only [view1L] at hv; cases hv
    exact ⟨rfl, fun i x' hx => by simp at hx⟩
  | y :: ys, cs', rd, c, hv => by
    simp only [view1L] at hv
    split at hv
    · rename_i y' r1 p1 hy
      split at hv
      · rename_i ys' r2 p2 hys
        cases hv
        obtain ⟨hl, hg⟩ := view1L_get hys
        refine ⟨by simp [hl], fun i x' hx => ?_⟩
        cases i with
        | zero =>
          simp at hx; subst hx
          exact ⟨y, r1, p1, rfl, hy, fun id hid => by simp [hid], fun H => andO_left H⟩
        | succ i =>
          simp only [List.getElem?_cons_succ] at hx
          obtain ⟨x, rd', c', h1, h2, h3, h4⟩ := hg i x' hx
          exact ⟨x, rd', c', by simpa using h1, h2, fun id hid => by simp [h3 id hid], fun H => h4 (andO_right H)⟩
      · cases hv
    · cases hv
theorem view1_sound (I : InvH N C h ρ F M g a w) {H2 : Hp} (hLe : Le h H2) {x : AV} {v : Value} (H : Rel h ρ x v) {x' : AV} {rd : List Nat} {c : Option Prop} (hv : view1 mg x = some (x', rd, c)) (h1 : ∀ id, id ∈ rd → M id = mg id) (h2 : ∀ q, c = some q → q)
    (h3 : ∀ id, id ∈ rd → ∀ li b, ρ id = some li → li.owns b → H2 b = w.heap[b]?) : Rel H2 ρ0 x' v := by
  unfold view1 at hv
  split at hv
  · rename_i id n
    cases H with
    | buf _ _ _ n' sz _ v' hb hle h0 he =>
    split at hv
    · rename_i ty sz2 n2 e hg
      cases hv
      obtain rfl := h2 _ rfl
      obtain ⟨v0, us, e1, e2, e3, e5, e4⟩ := I.blk id _ ((h1 id (by simp)).trans hg)
      rw [hb] at e1; cases e1
      obtain rfl := he rfl
      exact ro_of_own e2 (fun b hb' => h3 id (by simp) _ b hb hb') e3 e5 (fun i j c v hi hj hv => (e4 i j c v hi hj hv).heap hLe)
    · cases hv
  · rename_i id
    cases H with
    | mp _ _ b hb =>
    split at hv
    · rename_i z dom e n hg
      cases hv
      obtain ⟨b', es, clock, ks, q1, q2, q3, q4, q5, q6, q7, q8, q9, qz, q10⟩ := I.blk id _ ((h1 id (by simp)).trans hg)
      rw [hb] at q1; cases q1
      exact .rom _ _ _ _ _ _ es clock ks ((h3 id (by simp) _ _ hb rfl).trans q2) q3 q4 q5 q6 q7 q8 q9 (fun k hd => (qz k hd).heap hLe) (fun i k y e3 e4 => (q10 i k y e3 e4).heap hLe)
    · cases hv
  · split at hv
    · rename_i hcl
      cases hv
      exact (H.heap hLe).of_cl hcl
    · cases hv
theorem view_sound (I : InvH N C h ρ F M g a w) {H2 : Hp} (hLe : Le h H2) {x : AV} {v : Value} (H : Rel h ρ x v) : ∀ {x' : AV} {rd : List Nat} {c : Option Prop}, view mg x = some (x', rd, c) →
    (∀ id, id ∈ rd → M id = mg id) → (∀ q, c = some q → q) → (∀ id, id ∈ rd → ∀ li b, ρ id = some li → li.owns b → H2 b = w.heap[b]?) → Rel H2 ρ0 x' v := by
  obtain ⟨ρ1, hρ, H'⟩ : ∃ ρ1, ρ = ρ1 ∧ Rel h ρ1 x v := ⟨ρ, rfl, H⟩
  clear H
  induction H' with
  | any | nilS | nilFn | nilPtr | nilMap | nilIfc | bool | int | raw =>
    intro x' rd c hv _ _ _
    simp only [view] at hv; cases hv; constructor
  | agg ρ1 cs vs hl hc ih =>
    intro x' rd c hv h1 h2 h3
    simp only [view] at hv
    split at hv
    · rename_i cs' r p hvl
      cases hv
      obtain ⟨hl', hg⟩ := viewL_get hvl
      refine .agg _ _ _ (by rw [hl, hl']) fun i y z hy hz => ?_
      obtain ⟨y0, rd', c', e1, e2, e3, e4⟩ := hg i y hy
      exact ih i y0 z e1 hz hρ e2 (fun id hid => h1 id (e3 id hid)) (e4 h2) (fun id hid => h3 id (e3 id hid))
    · cases hv
  | tup ρ1 cs vs hl hc ih =>
    intro x' rd c hv h1 h2 h3
    simp only [view] at hv
    split at hv
    · rename_i cs' r p hvl
      cases hv
      obtain ⟨hl', hg⟩ := viewL_get hvl
      refine .tup _ _ _ (by rw [hl, hl']) fun i y z hy hz => ?_
      obtain ⟨y0, rd', c', e1, e2, e3, e4⟩ := hg i y hy
      exact ih i y0 z e1 hz hρ e2 (fun id hid => h1 id (e3 id hid)) (e4 h2) (fun id hid => h3 id (e3 id hid))
    · cases hv
  | fn ρ1 f fs cs vs ws hl hm' hc hd ih1 ih2 =>
    intro x' rd c hv h1 h2 h3
    simp only [view] at hv
    split at hv
    · rename_i fs' r p hvl
      split at hv
      · rename_i cs' r2 p2 hvl2
        cases hv
        obtain ⟨hl1, hg1⟩ := viewL_get hvl
        obtain ⟨hl2, hg2⟩ := viewL_get hvl2
        refine .clo _ _ _ _ _ (.fn _ _ _ _ _ _ (by rw [hl, hl1]) (by rw [hm', hl2]) (fun i y z hy hz => ?_) (fun i y z hy hz => ?_))
        · obtain ⟨y0, rd', c', e1, e2, e3, e4⟩ := hg1 i y hy
          exact ih1 i y0 z e1 hz hρ e2 (fun id hid => h1 id (by simp [e3 id hid])) (e4 (andO_left h2)) (fun id hid => h3 id (by simp [e3 id hid]))
        · obtain ⟨y0, rd', c', e1, e2, e3, e4⟩ := hg2 i y hy
          exact ih2 i y0 z e1 hz hρ e2 (fun id hid => h1 id (by simp [e3 id hid])) (e4 (andO_right h2)) (fun id hid => h3 id (by simp [e3 id hid]))
      · cases hv
    · cases hv
  | clo ρ1 f fs cs v hv0 ih =>
    intro x' rd c hv _ _ _
    simp only [view] at hv; cases hv
    exact .clo _ _ _ _ _ (hv0.heap hLe)
  | ro ρ1 sz n e ad cap hnil hcap hsz hs h1 hc ih =>
    intro x' rd c hv _ _ _
    simp only [view] at hv; cases hv
    exact (Rel.ro ρ0 sz n e ad cap hnil hcap hsz hs h1 hc).heap hLe
  | rp ρ1 cs ad hs hc ih =>
    intro x' rd c hv _ _ _
    simp only [view] at hv; cases hv
    exact (Rel.rp ρ0 cs ad hs hc).heap hLe
  | rom ρ1 z dom e n r es clock ks hR hks hlen hel hk hborn hbd hdom hz hc ihz ih =>
    intro x' rd c hv _ _ _
    simp only [view] at hv; cases hv
    exact (Rel.rom ρ0 z dom e n r es clock ks hR hks hlen hel hk hborn hbd hdom hz hc).heap hLe
  | ifc ρ1 t x v hx ih =>
    intro x' rd c hv h1 h2 h3
    simp only [view] at hv
    split at hv
    · rename_i y r p hy
      cases hv
      exact .ifc _ _ _ _ (ih hρ hy h1 h2 h3)
    · cases hv
  | cnd => intro x' rd c hv _ _ _; simp [view] at hv
  | ep => intro x' rd c hv _ _ _; simp [view] at hv
  | mp ρ1 id b hb =>
    intro x' rd c hv h1 h2 h3
    subst hρ
    simp only [view] at hv
    split at hv
    · rename_i z dom e n hg
      cases hv
      obtain ⟨b', es, clock, ks, q1, q2, q3, q4, q5, q6, q7, q8, q9, qz, q10⟩ := I.blk id _ ((h1 id (by simp)).trans hg)
      rw [hb] at q1; cases q1
      exact .rom _ _ _ _ _ _ es clock ks ((h3 id (by simp) _ _ hb rfl).trans q2) q3 q4 q5 q6 q7 q8 q9 (fun k hd => (qz k hd).heap hLe) (fun i k y e3 e4 => (q10 i k y e3 e4).heap hLe)
    · cases hv
  | lp ρ1 id off b hb =>
    intro x' rd c hv h1 h2 h3
    subst hρ
    simp only [view] at hv
    cases hg : mg id with
    | none => simp [hg] at hv
    | some bl =>
    cases bl <;> simp only [hg] at hv <;> (try (cases hv; done))
    rename_i cs
    cases hd : dropN off cs with
    | none => simp [hd] at hv
    | some r =>
    simp only [hd] at hv
    cases hcl : view1L mg r with
    | none => simp [hcl] at hv
    | some q =>
    obtain ⟨r', rd', c'⟩ := q
    simp only [hcl] at hv
    cases hv
    obtain ⟨hvl, hvg⟩ := view1L_get hcl
    obtain ⟨rfl, hle⟩ := dropN_get hd
    obtain ⟨b', vs, ty, q1, q2, q3, q4⟩ := I.blk id _ ((h1 id (by simp)).trans hg)
    rw [hb] at q1; cases q1
    have key : ∀ j, cellOf H2 (Addr.add ⟨b, off, none⟩ j) = vs[off + j]? := by
      intro j
      unfold cellOf
      rw [Addr.add_lit]
      simp only [h3 id (by simp) _ _ hb (show (LI.blk b).owns b from rfl), q2]
      simp
    refine .rp _ _ _ (fun j hj => ?_) (fun j y z hy hz => ?_)
    · rw [key]
      have : off + j < vs.length := by rw [q3]; rw [hvl] at hj; simp at hj; omega
      simp [this]
    · rw [key] at hz
      obtain ⟨y0, rd2, c2, e1, e2, e3, e4⟩ := hvg j y hy
      rw [List.getElem?_drop] at e1
      exact view1_sound I hLe (q4 _ y0 z e1 hz) e2 (fun id hid => h1 id (List.mem_cons_of_mem _ (e3 id hid))) (e4 h2) (fun id hid => h3 id (List.mem_cons_of_mem _ (e3 id hid)))
  | buf ρ1 id n n' sz v v' hb hle h0 he =>
    intro x' rd c hv h1 h2 h3
    subst hρ
    simp only [view] at hv
    cases hg : mg id with
    | none => simp [hg] at hv
    | some bl =>
    cases bl <;> simp only [hg] at hv <;> (try (cases hv; done))
    rename_i ty sz2 n2 e
    cases hv
    obtain rfl := h2 _ rfl
    obtain ⟨v0, us, e1, e2, e3, e5, e4⟩ := I.blk id _ ((h1 id (by simp)).trans hg)
    rw [hb] at e1; cases e1
    obtain rfl := he rfl
    exact ro_of_own e2 (fun b hb' => h3 id (by simp) _ b hb hb') e3 e5 (fun i j c v hi hj hv => (e4 i j c v hi hj hv).heap hLe)
  | nz ρ1 n b hb =>
    intro x' rd c hv _ _ _
    simp only [view] at hv; cases hv; exact .nz _ _ _ hb
  | po ρ1 b cs v ht hf ih =>
    intro x' rd c hv _ _ _
    simp only [view] at hv; cases hv; exact .po _ _ _ _ (fun hg => ((ht hg).heap hLe).of_cl rfl) hf
  | gp => intro x' rd c hv _ _ _; simp [view] at hv
  | sb ρ1 id n a b n' sz v v' hb hle h0 he =>
    intro x' rd c hv h1 h2 h3
    subst hρ
    simp only [view] at hv
    cases hg : mg id with
    | none => simp [hg] at hv
    | some bl =>
    cases bl <;> simp only [hg] at hv <;> (try (cases hv; done))
    rename_i ty sz2 n2 e
    cases hv
    obtain ⟨rfl, hab, hbn⟩ := h2 _ rfl
    obtain ⟨v0, us, e1, e2, e3, e5, e4⟩ := I.blk id _ ((h1 id (by simp)).trans hg)
    rw [hb] at e1; cases e1
    obtain ⟨g, cap, rfl, rfl⟩ := he rfl
    have hro := ro_of_own (H2 := H2) e2 (fun b hb' => h3 id (by simp) _ b hb hb') e3 e5 (fun i j c v hi hj hv => (e4 i j c v hi hj hv).heap hLe)
    have := rel_sub hro hab hbn
    have hadr : (if cap = a then some (⟨g, 0, none⟩ : Addr) else (some (⟨g, 0, none⟩ : Addr)).map (·.add (a * sz))) = some (if cap = a then ⟨g, 0, none⟩ else ⟨g, a * sz, none⟩) := by
      split
      · rfl
      · simp [Addr.add_lit]
    rw [hadr] at this
    exact this
  | gr' => intro x' rd c hv _ _ _; simp [view] at hv
  | ge => intro x' rd c hv _ _ _; simp [view] at hv
  | gb ρ1 id n sz rows v hb hn h0 =>
    intro x' rd c hv h1 h2 h3
    subst hρ
    simp only [view] at hv
    cases hg : mg id with
    | none => simp [hg] at hv
    | some bl =>
    cases bl <;> simp only [hg] at hv <;> (try (cases hv; done))
    rename_i tS ty sz2 n2 m e
    cases hv
    obtain rfl := h2 _ rfl
    obtain ⟨v0, rows', e1, e2, e3, e4, _, _⟩ := I.blk id _ ((h1 id (by simp)).trans hg)
    rw [hb] at e1; cases e1
    refine ro_of_own e3 (fun b hb' => h3 id (by simp) _ b hb (.inl hb')) (fun _ _ => rfl) (fun x hx => ?_) (fun i j c y hi hj hy => ?_)
    · obtain ⟨r, hr, rfl⟩ := List.mem_map.1 hx
      obtain ⟨k, hk⟩ := List.getElem?_of_mem hr
      exact (e4 k r hk).2.1
    · have hj0 : j = 0 := by
        have := (List.getElem?_eq_some_iff.1 hj).1
        simp at this; exact this
      subst hj0
      simp at hj; subst hj
      rw [Nat.mul_one, Nat.add_zero, List.getElem?_map] at hy
      cases hk : rows[i]? with
      | none => simp [hk] at hy
      | some r =>
      simp [hk] at hy
      subst hy
      obtain ⟨g0, g1, xs, g2, g3, g4, g5⟩ := e4 i r hk
      rw [g0] at g2
      exact ro_of_own g2 (fun b hb' => h3 id (by simp) _ b hb (.inr ⟨r, List.mem_of_getElem? hk, hb'⟩)) g3 g4 (fun i' j' c' v' hi' hj' hv' => (g5 i' j' c' v' hi' hj' hv').heap hLe)
theorem viewL_sound (I : InvH N C h ρ F M g a w) {H2 : Hp} (hLe : Le h H2) {xs xs' : List AV} {vs : List Value} {rd : List Nat} {c : Option Prop} (H : RelL h ρ xs vs) (hv : viewL mg xs = some (xs', rd, c)) (hm : ∀ id, id ∈ rd → M id = mg id) (hc : ∀ q, c = some q → q)
    (hH : ∀ id, id ∈ rd → ∀ li b, ρ id = some li → li.owns b → H2 b = w.heap[b]?) : RelL H2 ρ0 xs' vs := by
  obtain ⟨hl, hg⟩ := viewL_get hv
  refine ⟨by rw [hl]; exact H.1, fun i y z hy hz => ?_⟩
  obtain ⟨y0, rd', c', e1, e2, e3, e4⟩ := hg i y hy
  exact view_sound I hLe (H.2 i y0 z e1 hz) e2 (fun id hid => hm id (e3 id hid)) (e4 hc) (fun id hid => hH id (e3 id hid))
end
def Enters (P : Program) (f : FuncId) : Prop := ∀ args w, (callFunc f args).run P w = .ok (.enter f args) w
def Fw (r : Option Nat) : Fence := { fn := fun _ => True, depth := none, alive := false, round := r }
def mm : List (Nat × Blk) → Mm
  | [] => fun _ => none
  | (i, b) :: r => upd (mm r) i (some b)
structure Owns (h : Hp) (ρ : Rho) (B : List (Nat × Blk)) (w w' : World) : Prop where
  blk : ∀ id x, mm B id = some x → BlkOk h ρ id x w'
  dom : ∀ id, mm B id = none → ρ id = none
  own : ∀ id li b, ρ id = some li → li.owns b → h b = none ∧ w.heap.size ≤ b ∧ b < w'.heap.size
  inj : ∀ id id' li li' b, ρ id = some li → ρ id' = some li' → li.owns b → li'.owns b → id = id'
def CtrPost (h : Hp) (w : World) (v : AV) (B : List (Nat × Blk)) : Ending → World → Prop
  | .returned x, w' => ∃ h' ρ', RowKit.Below w.heap.size w w' ∧ (∀ b o, h b = some o → h' b = some o) ∧ (∀ b o, h' b = some o → h b = some o ∨ (w.heap.size ≤ b ∧ w'.heap[b]? = some o)) ∧ Rel h' ρ' v x ∧ Owns h' ρ' B w w'
  | _, _ => False
def Ctr (P : Program) (f : FuncId) (args : List AV) (v : AV) (B : List (Nat × Blk) := []) : Prop :=
  Enters P f ∧ ∀ (h : Hp) (w : World) (vs : List Value), RelL h ρ0 args vs → (∀ b o, h b = some o → w.heap[b]? = some o) → CallsIn (Fw none) 0 P f vs.toArray w (CtrPost h w v B)
structure Ownd (h : Hp) (ρ : Rho) (B : List (Nat × Blk)) (w : World) : Prop where
  blk : ∀ id x, mm B id = some x → BlkOk h ρ id x w
  dom : ∀ id, mm B id = none → ρ id = none
  own : ∀ id li b, ρ id = some li → li.owns b → h b = none ∧ b < w.heap.size
  inj : ∀ id id' li li' b, ρ id = some li → ρ id' = some li' → li.owns b → li'.owns b → id = id'
def CtrOPost (h : Hp) (w : World) (ρ : Rho) (v : AV) (B : List (Nat × Blk)) : Ending → World → Prop
  | .returned x, w' => ∃ h' ρ', w'.os = w.os ∧ w'.tape = w.tape ∧ w'.output = w.output ∧ w.heap.size ≤ w'.heap.size ∧ (∀ k, k < w.heap.size → ¬ ownSet ρ k → w'.heap[k]? = w.heap[k]?) ∧
      (∀ b o, h b = some o → h' b = some o) ∧ (∀ b o, h' b = some o → h b = some o ∨ (w.heap.size ≤ b ∧ w'.heap[b]? = some o)) ∧ Rel h' ρ' v x ∧ Ownd h' ρ' B w' ∧ (∀ id li b, ρ' id = some li → li.owns b → ownSet ρ b ∨ w.heap.size ≤ b) ∧ ∀ id li li', ρ id = some li → ρ' id = some li' → li.le li'
  | _, _ => False
def CtrO (P : Program) (f : FuncId) (args : List AV) (A : List (Nat × Blk)) (v : AV) (B : List (Nat × Blk)) : Prop :=
  Enters P f ∧ ∀ (h : Hp) (w : World) (ρ : Rho) (vs : List Value), RelL h ρ args vs → (∀ b o, h b = some o → w.heap[b]? = some o) → Ownd h ρ A w → CallsIn (Fw none) 0 P f vs.toArray w (CtrOPost h w ρ v B)
def CtrG (P : Program) (f : FuncId) (xs : List AV × List (Nat × Blk)) (v : AV) (B : List (Nat × Blk)) : Prop := match xs.2 with
  | [] => Ctr P f xs.1 v B
  | _ :: _ => match takes B with
    | some _ => CtrO P f xs.1 xs.2 v B.tail
    | none => CtrO P f xs.1 xs.2 v B
theorem room_w (r : Option Nat) (n : Nat) : (Fw r).room n := fun d h => by cases h
theorem callsIn_w {P : Program} {f : FuncId} {args : Array Value} {w : World} {R : Ending → World → Prop} {r r' : Option Nat} {n n' : Nat} (H : CallsIn (Fw r) n P f args w R) : CallsIn (Fw r') n' P f args w R :=
  ⟨trivial, fun cs _ => H.2 cs (room_w _ _)⟩
section
variable {P : Program} {N : Nat} {C : Ctx} {h : Hp} {ρ : Rho} {F : Fr} {M : Mm} {g : Nat} {a : Act} {w : World} {Γ : Tys} {mg : Mm} {o : Oper}
def StepIn (P : Program) (N : Nat) (C : Ctx) (F : Fr) (M : Mm) (g : Nat) (a : Act) (o : Oper) (w : World) (v : AV) (wr : List (Nat × Blk)) : Prop :=
  ∀ (rr : Option Nat) (n : Nat) (K : Act → World → Prop) (Q : Exit → Act → World → Prop), (∀ x h' ρ' w', InvH N C h' ρ' F (updL M wr) g a w' → Rel h' ρ' v x → K (a.put o.dst x) w') → o.wpIn (Fw rr) n P a w K Q
theorem Good.stepIn {r : R} (G : Good P N C h ρ F M g a o w r) (hd : ∀ c, o.op ≠ .defer c) : StepIn P N C F M g a o w r.v r.wr := by
  intro rr n K Q hK
  obtain ⟨x, w', h', ρ', hr, I, hv⟩ := G
  refine ⟨fun _ _ => trivial, ?_⟩
  rw [Oper.semAt_eq _ _ _ hd]
  rcases hr with e | ⟨e, rfl⟩ <;> rw [e]
  · exact hK _ _ _ _ I hv
  · exact hK _ _ _ _ I hv
theorem keysB_mm : ∀ {B : List (Nat × Blk)} {id : Nat}, id ∈ keysB B ↔ (mm B id).isSome = true
  | [], id => by simp [keysB, mm]
  | (i, b) :: r, id => by
    simp only [keysB, mm, List.mem_cons, upd]
    split
    · rename_i hb; simp [Nat.eq_of_beq_eq_true hb]
    · rename_i hb
      rw [keysB_mm (B := r)]
      have : id ≠ i := by rintro rfl; simp at hb
      simp [this]
theorem keysB_sh {k : Nat} : ∀ {B : List (Nat × Blk)}, keysB (shB k B) = (keysB B).map (k + ·)
  | [] => rfl
  | (i, b) :: r => by simp [keysB, shB, keysB_sh (B := r)]
theorem freshAll_spec : ∀ {l : List Nat}, freshAll mg l = true → ∀ i, i ∈ l → mg i = none
  | x :: l, h, i, hi => by
    unfold freshAll at h
    split at h
    · rename_i hx
      rcases List.mem_cons.1 hi with rfl | hi
      · exact hx
      · exact freshAll_spec h i hi
    · cases h
theorem noDup_spec {i : Nat} {r : List Nat} (h : noDup (i :: r) = true) : i ∉ r ∧ noDup r = true := by
  unfold noDup at h
  split at h
  · cases h
  · rename_i hb
    refine ⟨fun hi => ?_, h⟩
    have : ∀ {l : List Nat} {t : Nat}, t ∈ l → inList l t = true := by
      intro l
      induction l with
      | nil => intro t h; cases h
      | cons k l ih =>
        intro t h
        unfold inList
        rcases List.mem_cons.1 h with rfl | h
        · simp
        · split
          · rfl
          · exact ih h
    rw [this hi] at hb; cases hb
theorem updL_out {k : Nat} : ∀ {B : List (Nat × Blk)} {M : Mm} {id : Nat}, (∀ i, i ∈ keysB B → id ≠ k + i) → updL M (shB k B) id = M id
  | [], _, _, _ => rfl
  | (i, b) :: r, M, id, h => by
    simp only [shB, updL]
    rw [updL_out (fun j hj => h j (by simp [keysB, hj])), upd_other _ _ (h i (by simp [keysB]))]
theorem updL_in {k : Nat} : ∀ {B : List (Nat × Blk)} {M : Mm} {id : Nat}, noDup (keysB B) = true → id ∈ keysB B → ∃ x, mm B id = some x ∧ updL M (shB k B) (k + id) = some (x.sh k)
  | (i, b) :: r, M, id, hd, h => by
    obtain ⟨h1, h2⟩ := noDup_spec (by simpa only [keysB] using hd)
    simp only [shB, updL, mm, upd]
    simp only [keysB, List.mem_cons] at h
    by_cases e : id = i
    · subst e
      refine ⟨b, by simp, ?_⟩
      rw [updL_out (fun j hj => by rintro e; have : id = j := by omega
                                   exact h1 (this ▸ hj)), upd_same]
    · obtain ⟨x, e1, e2⟩ := updL_in (M := upd M (k + i) (some (b.sh k))) h2 (h.resolve_left e)
      refine ⟨x, ?_, e2⟩
      have : Nat.beq id i = false := by
        cases hb : Nat.beq id i with
        | false => rfl
        | true => exact absurd (Nat.eq_of_beq_eq_true hb) e
      simp [this, e1]
theorem InvH.adopt (I : InvH N C h ρ F M g a w) {w' : World} {h' : Hp} {ρc : Rho} {B : List (Nat × Blk)} {k : Nat} (hB : RowKit.Below w.heap.size w w') (hh : ∀ b o, h b = some o → h' b = some o) (hnew : ∀ b o, h' b = some o → h b = some o ∨ (w.heap.size ≤ b ∧ w'.heap[b]? = some o))
    (O : Owns h' ρc B w w') (hd : noDup (keysB B) = true) (hf : ∀ i, i ∈ keysB B → M (k + i) = none) (ho : onlyBs (keysB B) B = true) :
    ∃ ρ', InvH N C h' ρ' F (updL M (shB k B)) g a w' ∧ ∀ i, i ∈ keysB B → ρ' (k + i) = ρc i := by
  classical
  let ρ' : Rho := fun id => if k ≤ id ∧ (id - k) ∈ keysB B then ρc (id - k) else ρ id
  have hin : ∀ i, i ∈ keysB B → ρ' (k + i) = ρc i := fun i hi => by
    show (if k ≤ k + i ∧ (k + i - k) ∈ keysB B then ρc (k + i - k) else ρ (k + i)) = ρc i
    rw [Nat.add_sub_cancel_left, if_pos ⟨Nat.le_add_right _ _, hi⟩]
  have hout : ∀ id, (¬ ∃ i, i ∈ keysB B ∧ id = k + i) → ρ' id = ρ id := fun id hn => by
    show (if k ≤ id ∧ (id - k) ∈ keysB B then ρc (id - k) else ρ id) = ρ id
    rw [if_neg]
    rintro ⟨h1, h2⟩
    exact hn ⟨id - k, h2, by omega⟩
  have hblk : ∀ i x, i ∈ keysB B → mm B i = some x → onlyB (keysB B) x = true := by
    have key : ∀ {ids : List Nat} {B' : List (Nat × Blk)}, onlyBs ids B' = true → ∀ i x, mm B' i = some x → onlyB ids x = true := by
      intro ids B'
      induction B' with
      | nil => intro _ i x hx; cases hx
      | cons y r ih =>
        obtain ⟨j, b⟩ := y
        intro ho i x hx
        unfold onlyBs at ho
        split at ho
        · rename_i hb
          simp only [mm, upd] at hx
          split at hx
          · cases hx; exact hb
          · exact ih ho i x hx
        · cases ho
    intro i x _ hx
    exact key ho i x hx
  refine ⟨ρ', I.step (S := fun id => ∃ i, i ∈ keysB B ∧ id = k + i) hB.os hB.tape hB.output hB.size (fun k' hk' _ => hB.block k' hk') hout ?_ hh hnew ?_ ?_ ?_ ?_ ?_, hin⟩
  · intro id li hi
    refine ⟨li, ?_, .inl rfl⟩
    rw [hout id ?_]
    · exact hi
    · rintro ⟨i, h1, rfl⟩
      rw [I.dom _ (hf i h1)] at hi; cases hi
  · intro id hn
    exact updL_out (fun i hi e => hn ⟨i, hi, e⟩)
  · rintro id ⟨i, h1, rfl⟩ hM
    obtain ⟨x, _, e2⟩ := updL_in (M := M) (k := k) hd h1
    rw [e2] at hM; cases hM
  · rintro id x ⟨i, h1, rfl⟩ hM
    obtain ⟨y, e1, e2⟩ := updL_in (M := M) (k := k) hd h1
    rw [e2] at hM; cases hM
    exact (O.blk i y e1).shift hin h1 (hblk i y h1 e1)
  · rintro id li b ⟨i, h1, rfl⟩ hr hb
    rw [hin i h1] at hr
    obtain ⟨q1, q2, q3⟩ := O.own i li b hr hb
    exact .inr ⟨q2, q3, q1⟩
  · rintro id id' li li' b ⟨i, h1, rfl⟩ ⟨i', h1', rfl⟩ hr hr' hb hb'
    rw [hin i h1] at hr
    rw [hin i' h1'] at hr'
    rw [O.inj i i' li li' b hr hr' hb hb']
theorem call_core (I : InvH N C h ρ F M g a w) {f : FuncId} {xs' : List AV} {vs : List Value} {rd : List Nat} {c : Option Prop} {rv : RV} {r : R} (hrun : (execOp a.eval o).run P w = (callFunc f vs.toArray).run P w) (hd : ∀ c, o.op ≠ .defer c)
    (hr : evRet mg f xs' rd c rv = some r) (hm : ∀ id, id ∈ r.rd → M id = mg id) (hctr : Ctr P f xs' rv.v rv.B)
    (H : ∀ H2 : Hp, Le h H2 → (∀ id, id ∈ rd → ∀ li b, ρ id = some li → li.owns b → H2 b = w.heap[b]?) → (rd = [] ∨ r.rd = rd) → RelL H2 ρ0 xs' vs) : StepIn P N C F M g a o w r.v r.wr := by
  intro rr n K Q hK
  refine ⟨fun _ _ => trivial, ?_⟩
  rw [Oper.semAt_eq _ _ _ hd, hrun, hctr.1]
  refine ⟨fun e => (by cases e), ?_⟩
  obtain ⟨v, B, k, K0⟩ := rv
  unfold evRet at hr
  cases rd with
  | nil =>
    simp only [] at hr
    split at hr
    · rename_i h1
      split at hr
      · rename_i h2
        split at hr
        · rename_i h3
          split at hr
          · rename_i h4
            cases hr
            refine callsIn_w ((hctr.2 h w vs (H h (Le.refl h) (fun id hid => by cases hid) (.inl rfl)) I.hp).mono fun e w' he => ?_)
            cases e with
            | returned x =>
              obtain ⟨h', ρc, q1, q2, q3, q4, q5⟩ := he
              have hfr : ∀ i, i ∈ keysB B → M (k + i) = none := fun i hi => by
                have hmem : k + i ∈ keysB (shB k B) := by rw [keysB_sh]; exact List.mem_map_of_mem hi
                rw [hm _ hmem]
                exact freshAll_spec h4 _ hmem
              obtain ⟨ρ', I', hin⟩ := I.adopt q1 q2 q3 q5 h3 hfr h2
              exact hK x h' ρ' w' I' (q4.shift hin h1)
            | panicked ch => exact he.elim
            | outgrown => exact he.elim
          · cases hr
        · cases hr
      · cases hr
    · cases hr
  | cons i rd =>
    simp only [] at hr
    split at hr
    · rename_i hgr
      cases B with
      | cons => simp at hr
      | nil =>
      simp only [] at hr
      cases hr
      refine callsIn_w ((hctr.2 (hAll h ρ w) w vs (H _ (Le.of I.le_all) (fun id hid li b h1 h2 => hAll_own h1 h2) (.inr rfl)) I.all_hp).mono fun e w' he => ?_)
      cases e with
      | returned x =>
        obtain ⟨h', ρc, h1, h2, h3, h4, _⟩ := he
        exact hK x h ρ w' (I.below h1 (fun _ _ x => x) (fun _ _ x => .inl x)) (h4.of_gr hgr)
      | panicked ch => exact he.elim
      | outgrown => exact he.elim
    · cases hr
theorem run_call {P : Program} {a : Act} {o : Oper} {f : Operand} {args : Array Operand} {ts : Array TypeId} (ho : o.op = .call { callee := .value f, args := args, argTypes := ts }) {gf : FuncId} {us ws : List Value} (he : a.eval f = .func (.func gf) us.toArray ws.toArray) (w : World) :
    (execOp a.eval o).run P w = (callFunc gf (us ++ (args.toList.map a.eval ++ ws)).toArray).run P w := by
  have e1 : args.map a.eval = (args.toList.map a.eval).toArray := by apply Array.ext'; simp
  unfold execOp
  simp [ho, resolve, Deferred.ofValue, invoke, he, e1]
theorem evRet_cs {f : FuncId} {xs : List AV} {rd : List Nat} {c : Option Prop} {rv : RV} {r : R} (h : evRet mg f xs rd c rv = some r) : r.cs = c ∧ r.rq = some (f, xs, []) ∧ (rd = [] ∨ r.rd = rd) := by
  unfold evRet at h
  cases rd with
  | nil =>
    simp only [] at h
    split at h
    · split at h
      · split at h
        · split at h
          · cases h; exact ⟨rfl, rfl, .inl rfl⟩
          · cases h
        · cases h
      · cases h
    · cases h
  | cons =>
    simp only [] at h
    split at h
    · cases hB : rv.B with
      | nil => simp only [hB] at h; cases h; exact ⟨rfl, rfl, .inr rfl⟩
      | cons => simp [hB] at h
    · cases h
theorem call_take (I : InvH N C h ρ F M g a w) {f : FuncId} {xs : List AV} {vs : List Value} {rv : RV} {id : Nat} {r : R} (hrun : (execOp a.eval o).run P w = (callFunc f vs.toArray).run P w) (hd : ∀ c, o.op ≠ .defer c) (htk : takes rv.B = some id)
    (hr : evTake mg f xs id rv.v rv.B.tail rv.k = some r) (hm : ∀ id, id ∈ r.rd → M id = mg id) (hq : ∀ gf xs, r.rq = some (gf, xs) → CtrG P gf xs rv.v rv.B) (hx : RelL h ρ xs vs) : StepIn P N C F M g a o w r.v r.wr := by
  intro rr n K Q hK
  obtain ⟨v, B0, k, K0⟩ := rv
  obtain ⟨B, hB⟩ : ∃ B, B0.tail = B := ⟨_, rfl⟩
  simp only [hB] at hr hq
  unfold evTake at hr
  cases hg : mg id with
  | none => simp [hg] at hr
  | some bl =>
  cases bl <;> simp only [hg] at hr <;> (try (cases hr; done))
  rename_i ty sz m e
  cases h1 : onlyL [id] xs with
  | false => simp [h1] at hr
  | true =>
  simp only [h1] at hr
  cases h2 : onlyIds (keysB B) v with
  | false => simp [h2] at hr
  | true =>
  simp only [h2] at hr
  cases h3 : onlyBs (keysB B) B with
  | false => simp [h3] at hr
  | true =>
  simp only [h3] at hr
  cases h4 : noDup (keysB B) with
  | false => simp [h4] at hr
  | true =>
  simp only [h4] at hr
  cases h5 : freshAll mg (keysB (shB k B)) with
  | false => simp [h5] at hr
  | true =>
  simp only [h5] at hr
  cases hr
  have hctr : CtrO P f xs [(id, .buf ty sz m e)] v B := by
    have := hq f (xs, [(id, .buf ty sz m e)]) rfl
    simpa [CtrG, hB, show takes B0 = some id from htk] using this
  have hMid : M id = some (.buf ty sz m e) := (hm id (by simp)).trans hg
  have hfr : ∀ i, i ∈ keysB B → M (k + i) = none := fun i hi => by
    have hmem : k + i ∈ keysB (shB k B) := by rw [keysB_sh]; exact List.mem_map_of_mem hi
    rw [hm _ (by simp [hmem])]
    exact freshAll_spec h5 _ hmem
  have hne : ∀ i, i ∈ keysB B → k + i ≠ id := fun i hi e => by
    have := hfr i hi
    rw [e, hMid] at this; cases this
  obtain ⟨v0, us, k1, k2, k3, k5, k4⟩ := I.blk id _ hMid
  refine ⟨fun _ _ => trivial, ?_⟩
  rw [Oper.semAt_eq _ _ _ hd, hrun, hctr.1]
  refine ⟨fun e => (by cases e), ?_⟩
  obtain ⟨ρi, hρi⟩ : ∃ ρi : Rho, ρi = fun j => if j = id then ρ id else none := ⟨_, rfl⟩
  have hρid : ρi id = ρ id := by rw [hρi]; simp
  have hρin : ∀ j li, ρi j = some li → j = id ∧ ρ id = some li := fun j li h => by
    rw [hρi] at h
    by_cases hj : j = id
    · simp [hj] at h; exact ⟨hj, h⟩
    · simp [hj] at h
  have hown : ∀ b, ownSet ρi b ↔ ∃ li, ρ id = some li ∧ li.owns b := fun b => by
    constructor
    · rintro ⟨j, li, q1, q2⟩
      obtain ⟨rfl, q3⟩ := hρin j li q1
      exact ⟨li, q3, q2⟩
    · rintro ⟨li, q1, q2⟩
      exact ⟨id, li, hρid.trans q1, q2⟩
  have hrel : RelL h ρi xs vs := ⟨hx.1, fun i c v hc hv => (hx.2 i c v hc hv).forget (ids := [id]) (fun j hj => by
    have : j = id := by simpa using hj
    subst this; exact hρid) (onlyL_get h1 hc)⟩
  have hOw : Ownd h ρi [(id, .buf ty sz m e)] w := by
    refine ⟨fun j x hj => ?_, fun j hj => ?_, fun j li b q1 q2 => ?_, fun j j' li li' b q1 q1' _ _ => ?_⟩
    · simp only [mm, upd] at hj
      split at hj
      · rename_i hb
        have := Nat.eq_of_beq_eq_true hb
        subst this
        cases hj
        exact ⟨v0, us, hρid.trans k1, k2, k3, k5, k4⟩
      · cases hj
    · cases hp : ρi j with
      | none => rfl
      | some li =>
        obtain ⟨rfl, _⟩ := hρin j li hp
        simp [mm, upd] at hj
    · obtain ⟨rfl, q3⟩ := hρin j li q1
      obtain ⟨q4, q5, _⟩ := I.own j li b q3 q2
      exact ⟨q4, q5⟩
    · rw [(hρin j li q1).1, (hρin j' li' q1').1]
  refine callsIn_w ((hctr.2 h w ρi vs hrel I.hp hOw).mono fun en w' he => ?_)
  cases en with
  | panicked ch => exact he.elim
  | outgrown => exact he.elim
  | returned x =>
  obtain ⟨h', ρ2, p1, p2, p3, p4, p5, p6, p7, p8, p9, p10, _⟩ := he
  classical
  let ρ' : Rho := fun j => if j = id then some (.sl (m + 1) sz (.slice none 0 0)) else if k ≤ j ∧ (j - k) ∈ keysB B then ρ2 (j - k) else ρ j
  have hin : ∀ i, i ∈ keysB B → ρ' (k + i) = ρ2 i := fun i hi => by
    show (if k + i = id then _ else if k ≤ k + i ∧ (k + i - k) ∈ keysB B then ρ2 (k + i - k) else ρ (k + i)) = ρ2 i
    rw [if_neg (hne i hi), Nat.add_sub_cancel_left, if_pos ⟨Nat.le_add_right _ _, hi⟩]
  have hdead : ρ' id = some (.sl (m + 1) sz (.slice none 0 0)) := if_pos rfl
  have hout : ∀ j, ¬ (j = id ∨ ∃ i, i ∈ keysB B ∧ j = k + i) → ρ' j = ρ j := fun j hn => by
    simp only [not_or] at hn
    show (if j = id then _ else if k ≤ j ∧ (j - k) ∈ keysB B then ρ2 (j - k) else ρ j) = ρ j
    rw [if_neg hn.1, if_neg]
    rintro ⟨q1, q2⟩
    exact hn.2 ⟨j - k, q2, by omega⟩
  have hblk : ∀ i x, mm B i = some x → onlyB (keysB B) x = true := by
    have key : ∀ {ids : List Nat} {B' : List (Nat × Blk)}, onlyBs ids B' = true → ∀ i x, mm B' i = some x → onlyB ids x = true := by
      intro ids B'
      induction B' with
      | nil => intro _ i x hx; cases hx
      | cons y r ih =>
        obtain ⟨j, b⟩ := y
        intro ho i x hx
        unfold onlyBs at ho
        split at ho
        · rename_i hb
          simp only [mm, upd] at hx
          split at hx
          · cases hx; exact hb
          · exact ih ho i x hx
        · cases ho
    exact key h3
  have hMd : ∀ j, updL M ((id, .dead) :: shB k B) j = updL (upd M id (some .dead)) (shB k B) j := fun j => rfl
  have hMid' : updL M ((id, .dead) :: shB k B) id = some .dead := by
    rw [hMd, updL_out (fun i hi => (hne i hi).symm), upd_same]
  refine hK x h' ρ' w' (I.step (S := fun j => j = id ∨ ∃ i, i ∈ keysB B ∧ j = k + i) p1 p2 p3 p4 (fun kk hkk hS => p5 kk hkk (fun ho => by
    obtain ⟨li, q1, q2⟩ := (hown kk).1 ho
    exact hS id li (.inl rfl) q1 q2)) hout ?_ p6 p7 ?_ ?_ ?_ ?_ ?_) (p8.shift hin h2)
  · intro j li hj
    by_cases hj1 : j = id
    · subst hj1
      rw [k1] at hj; cases hj
      exact ⟨_, hdead, .inr (.inl ⟨_, _, _, _, _, rfl, rfl, Nat.lt_succ_self _⟩)⟩
    · refine ⟨li, ?_, .inl rfl⟩
      rw [hout j ?_]
      · exact hj
      · rintro (q | ⟨i, q1, rfl⟩)
        · exact hj1 q
        · rw [I.dom _ (hfr i q1)] at hj; cases hj
  · intro j hn
    simp only [not_or] at hn
    show updL M ((id, .dead) :: shB k B) j = M j
    rw [hMd, updL_out (fun i hi e => hn.2 ⟨i, hi, e⟩), upd_other _ _ hn.1]
  · rintro j (rfl | ⟨i, q1, rfl⟩) hM
    · rw [hMid'] at hM; cases hM
    · obtain ⟨y, _, e2⟩ := updL_in (M := upd M id (some .dead)) (k := k) h4 q1
      rw [hMd, e2] at hM; cases hM
  · rintro j y (rfl | ⟨i, q1, rfl⟩) hM
    · rw [hMid'] at hM; cases hM
      exact ⟨_, _, hdead⟩
    · obtain ⟨z, e1, e2⟩ := updL_in (M := upd M id (some .dead)) (k := k) h4 q1
      rw [hMd, e2] at hM; cases hM
      exact (p9.blk i z e1).shift hin q1 (hblk i z e1)
  · rintro j li b (rfl | ⟨i, q1, rfl⟩) hj hb
    · rw [hdead] at hj; cases hj; simp [LI.owns, Value.ownBlock] at hb
    · rw [hin i q1] at hj
      rcases p10 i li b hj hb with q2 | q2
      · obtain ⟨li0, q3, q4⟩ := (hown b).1 q2
        exact .inl ⟨id, li0, .inl rfl, q3, q4⟩
      · obtain ⟨q3, q4⟩ := p9.own i li b hj hb
        exact .inr ⟨q2, q4, q3⟩
  · rintro j j' li li' b (rfl | ⟨i, q1, rfl⟩) (rfl | ⟨i', q1', rfl⟩) hj hj' hb hb'
    · rfl
    · rw [hdead] at hj; cases hj; simp [LI.owns, Value.ownBlock] at hb
    · rw [hdead] at hj'; cases hj'; simp [LI.owns, Value.ownBlock] at hb'
    · rw [hin i q1] at hj
      rw [hin i' q1'] at hj'
      rw [p9.inj i i' li li' b hj hj' hb hb']
theorem BlkOk.forget {h : Hp} {ρ ρ' : Rho} {ids : List Nat} (hρ : ∀ id, id ∈ ids → ρ' id = ρ id) {id : Nat} {x : Blk} {w : World} (H : BlkOk h ρ id x w) (hid : id ∈ ids) (ho : onlyB ids x = true) : BlkOk h ρ' id x w := by
  cases x with
  | cells cs =>
    obtain ⟨b, vs, ty, q1, q2, q3, q4⟩ := H
    exact ⟨b, vs, ty, (hρ id hid).trans q1, q2, q3, fun i c v hc hv => (q4 i c v hc hv).forget hρ (onlyL_get (by simpa [onlyB] using ho) hc)⟩
  | buf ty sz n e =>
    obtain ⟨v, xs, q1, q2⟩ := H
    exact ⟨v, xs, (hρ id hid).trans q1, q2⟩
  | map z dom e n =>
    obtain ⟨b, es, clock, ks, q1, q2⟩ := H
    exact ⟨b, es, clock, ks, (hρ id hid).trans q1, q2⟩
  | bufk ty sz n c e =>
    obtain ⟨v, xs, q1, q2⟩ := H
    exact ⟨v, xs, (hρ id hid).trans q1, q2⟩
  | dead =>
    obtain ⟨n, sz, q1⟩ := H
    exact ⟨n, sz, (hρ id hid).trans q1⟩
  | grid tS ty sz n m e =>
    obtain ⟨v, rows, q1, q2⟩ := H
    exact ⟨v, rows, (hρ id hid).trans q1, q2⟩
theorem BlkOk.name {h : Hp} {ρ : Rho} {id : Nat} {x : Blk} {w : World} (H : BlkOk h ρ id x w) : ∃ li, ρ id = some li := by
  cases x with
  | cells cs => obtain ⟨b, vs, ty, q1, _⟩ := H; exact ⟨_, q1⟩
  | buf ty sz n e => obtain ⟨v, xs, q1, _⟩ := H; exact ⟨_, q1⟩
  | map z dom e n => obtain ⟨b, es, clock, ks, q1, _⟩ := H; exact ⟨_, q1⟩
  | bufk ty sz n c e => obtain ⟨v, xs, q1, _⟩ := H; exact ⟨_, q1⟩
  | dead => obtain ⟨n, sz, q1⟩ := H; exact ⟨_, q1⟩
  | grid tS ty sz n m e => obtain ⟨v, rows, q1, _⟩ := H; exact ⟨_, q1⟩
theorem onlyBs_mm {ids : List Nat} : ∀ {B : List (Nat × Blk)}, onlyBs ids B = true → ∀ i x, mm B i = some x → onlyB ids x = true
  | [], _, i, x, hx => by cases hx
  | (j, b) :: r, ho, i, x, hx => by
    unfold onlyBs at ho
    split at ho
    · rename_i hb
      simp only [mm, upd] at hx
      split at hx
      · cases hx; exact hb
      · exact onlyBs_mm ho i x hx
    · cases ho
theorem updL_keys : ∀ {B : List (Nat × Blk)} {M : Mm} {i : Nat}, noDup (keysB B) = true → i ∈ keysB B → updL M B i = mm B i
  | [], M, i, _, h => by cases h
  | (j, b) :: r, M, i, hn, h => by
    obtain ⟨h1, h2⟩ := noDup_spec (i := j) (r := keysB r) hn
    simp only [updL]
    rcases List.mem_cons.1 h with rfl | h3
    · have e : updL (upd M i (some b)) r i = upd M i (some b) i := by
        have key : ∀ {r : List (Nat × Blk)} {M : Mm}, i ∉ keysB r → updL M r i = M i := by
          intro r
          induction r with
          | nil => intro M _; rfl
          | cons y r ih =>
            obtain ⟨k, c⟩ := y
            intro M hk
            simp only [keysB, List.mem_cons, not_or] at hk
            simp only [updL]
            rw [ih hk.2, upd_other _ _ hk.1]
        exact key h1
      rw [e, upd_same]
      simp [mm, upd]
    · rw [updL_keys h2 h3]
      have hne : i ≠ j := fun e => h1 (e ▸ h3)
      simp only [mm]
      rw [upd_other _ _ hne]
theorem updL_off : ∀ {B : List (Nat × Blk)} {M : Mm} {i : Nat}, i ∉ keysB B → updL M B i = M i
  | [], M, i, _ => rfl
  | (j, b) :: r, M, i, h => by
    simp only [keysB, List.mem_cons, not_or] at h
    simp only [updL]
    rw [updL_off h.2, upd_other _ _ h.1]
theorem handed_spec {mg : Mm} : ∀ {K : List Nat} {A : List (Nat × Blk)}, handed mg K = some A → (∀ i, i ∈ K → ∃ b, mm A i = some b ∧ mg i = some b) ∧ ∀ i, i ∉ K → mm A i = none
  | [], A, h => by simp only [handed] at h; cases h; exact ⟨fun i h => (by cases h), fun i _ => rfl⟩
  | j :: K, A, h => by
    simp only [handed] at h
    split at h
    · rename_i b hb
      split at h
      · rename_i l hl
        cases h
        obtain ⟨h1, h2⟩ := handed_spec hl
        refine ⟨fun i hi => ?_, fun i hi => ?_⟩
        · simp only [mm]
          by_cases e : i = j
          · subst e; exact ⟨b, upd_same _ _ _, hb⟩
          · rw [upd_other _ _ e]
            rcases List.mem_cons.1 hi with h3 | h3
            · exact absurd h3 e
            · exact h1 i h3
        · simp only [List.mem_cons, not_or] at hi
          simp only [mm]
          rw [upd_other _ _ hi.1]
          exact h2 i hi.2
      · cases h
    · cases h
theorem allIn_spec {ids : List Nat} : ∀ {K : List Nat}, allIn ids K = true → ∀ i, i ∈ K → i ∈ ids
  | [], _, i, h => by cases h
  | j :: K, h, i, hi => by
    simp only [allIn] at h
    split at h
    · rename_i hj
      rcases List.mem_cons.1 hi with rfl | h3
      · exact inList_mem hj
      · exact allIn_spec h i h3
    · cases h
theorem freshOr_spec {K : List Nat} {mg : Mm} : ∀ {l : List Nat}, freshOr K mg l = true → ∀ i, i ∈ l → i ∈ K ∨ mg i = none
  | [], _, i, h => by cases h
  | j :: l, h, i, hi => by
    simp only [freshOr] at h
    split at h
    · rename_i hj
      rcases List.mem_cons.1 hi with rfl | h3
      · exact .inl (inList_mem hj)
      · exact freshOr_spec h i h3
    · split at h
      · rename_i hm
        rcases List.mem_cons.1 hi with rfl | h3
        · exact .inr hm
        · exact freshOr_spec h i h3
      · cases h
theorem call_lend (I : InvH N C h ρ F M g a w) {f : FuncId} {xs : List AV} {vs : List Value} {rv : RV} {r : R} (hrun : (execOp a.eval o).run P w = (callFunc f vs.toArray).run P w) (hd : ∀ c, o.op ≠ .defer c) (htk : takes rv.B = none) {i0 : Nat} {K0 : List Nat}
    (hr : evLend mg f xs rv.v rv.B (i0 :: K0) = some r) (hm : ∀ id, id ∈ r.rd → M id = mg id) (hq : ∀ gf xs, r.rq = some (gf, xs) → CtrG P gf xs rv.v rv.B) (hx : RelL h ρ xs vs) : StepIn P N C F M g a o w r.v r.wr := by
  intro rr n KK Q hK
  obtain ⟨v, B, k, K1⟩ := rv
  obtain ⟨K, hKe⟩ : ∃ K, i0 :: K0 = K := ⟨_, rfl⟩
  simp only [hKe] at hr hq htk
  unfold evLend at hr
  cases hg : handed mg K with
  | none => simp [hg] at hr
  | some A =>
  simp only [hg] at hr
  cases h1 : onlyL K xs with
  | false => simp [h1] at hr
  | true =>
  simp only [h1] at hr
  cases h2 : onlyBs K A with
  | false => simp [h2] at hr
  | true =>
  simp only [h2] at hr
  cases h3 : onlyIds (keysB B) v with
  | false => simp [h3] at hr
  | true =>
  simp only [h3] at hr
  cases h4 : onlyBs (keysB B) B with
  | false => simp [h4] at hr
  | true =>
  simp only [h4] at hr
  cases h5 : noDup (keysB B) with
  | false => simp [h5] at hr
  | true =>
  simp only [h5] at hr
  cases h6 : allIn (keysB B) K with
  | false => simp [h6] at hr
  | true =>
  simp only [h6] at hr
  cases h7 : freshOr K mg (keysB B) with
  | false => simp [h7] at hr
  | true =>
  simp only [h7] at hr
  cases hr
  obtain ⟨a1, a2⟩ := handed_spec hg
  have hctr : CtrO P f xs A v B := by
    have := hq f (xs, A) rfl
    cases A with
    | nil =>
      obtain ⟨b, q, _⟩ := a1 i0 (by rw [← hKe]; exact List.mem_cons_self ..)
      cases q
    | cons y A => simpa [CtrG, htk] using this
  have hKB := allIn_spec h6
  have hMK : ∀ i, i ∈ K → M i = mg i := fun i hi => hm i (hKB i hi)
  refine ⟨fun _ _ => trivial, ?_⟩
  rw [Oper.semAt_eq _ _ _ hd, hrun, hctr.1]
  refine ⟨fun e => (by cases e), ?_⟩
  classical
  obtain ⟨ρi, hρi⟩ : ∃ ρi : Rho, ρi = fun j => if j ∈ K then ρ j else none := ⟨_, rfl⟩
  have hρid : ∀ j, j ∈ K → ρi j = ρ j := fun j hj => by rw [hρi]; simp [hj]
  have hρin : ∀ j li, ρi j = some li → j ∈ K ∧ ρ j = some li := fun j li h => by
    rw [hρi] at h
    by_cases hj : j ∈ K
    · simp [hj] at h; exact ⟨hj, h⟩
    · simp [hj] at h
  have hrel : RelL h ρi xs vs := ⟨hx.1, fun i c v hc hv => (hx.2 i c v hc hv).forget (ids := K) hρid (onlyL_get h1 hc)⟩
  have hOw : Ownd h ρi A w := by
    refine ⟨fun j x hj => ?_, fun j hj => ?_, fun j li b q1 q2 => ?_, fun j j' li li' b q1 q1' q2 q2' => ?_⟩
    · have hjK : j ∈ K := Classical.byContradiction fun hn => by rw [a2 j hn] at hj; cases hj
      obtain ⟨b, e1, e2⟩ := a1 j hjK
      rw [hj] at e1; cases e1
      exact (I.blk j x ((hMK j hjK).trans e2)).forget (ids := K) hρid hjK (onlyBs_mm h2 j x hj)
    · cases hp : ρi j with
      | none => rfl
      | some li =>
        obtain ⟨hjK, _⟩ := hρin j li hp
        obtain ⟨b, e1, _⟩ := a1 j hjK
        rw [hj] at e1; cases e1
    · obtain ⟨_, q3⟩ := hρin j li q1
      obtain ⟨q4, q5, _⟩ := I.own j li b q3 q2
      exact ⟨q4, q5⟩
    · exact I.inj j j' li li' b (hρin j li q1).2 (hρin j' li' q1').2 q2 q2'
  refine callsIn_w ((hctr.2 h w ρi vs hrel I.hp hOw).mono fun en w' he => ?_)
  cases en with
  | panicked ch => exact he.elim
  | outgrown => exact he.elim
  | returned x =>
  obtain ⟨h', ρ2, p1, p2, p3, p4, p5, p6, p7, p8, p9, p10, p11⟩ := he
  let ρ' : Rho := fun j => if j ∈ keysB B then ρ2 j else ρ j
  have hin : ∀ j, j ∈ keysB B → ρ' j = ρ2 j := fun j hj => if_pos hj
  have hout : ∀ j, j ∉ keysB B → ρ' j = ρ j := fun j hj => if_neg hj
  have hfr : ∀ j, j ∈ keysB B → j ∉ K → ρ j = none := fun j hj hjK => by
    rcases freshOr_spec h7 j hj with q | q
    · exact absurd q hjK
    · exact I.dom j ((hm j hj).trans q)
  refine hK x h' ρ' w' (I.step (S := fun j => j ∈ keysB B) p1 p2 p3 p4 (fun kk hkk hS => p5 kk hkk (fun ho => by
    obtain ⟨j, li, q1, q2⟩ := ho
    obtain ⟨q3, q4⟩ := hρin j li q1
    exact hS j li (hKB j q3) q4 q2)) hout ?_ p6 p7 (fun j hj => updL_off hj) ?_ ?_ ?_ ?_) (p8.forget (ids := keysB B) hin h3)
  · intro j li hj
    by_cases hjB : j ∈ keysB B
    · by_cases hjK : j ∈ K
      · obtain ⟨y, hy⟩ : ∃ y, mm B j = some y := Option.isSome_iff_exists.1 (keysB_mm.1 hjB)
        obtain ⟨li', e⟩ := (p9.blk j y hy).name
        exact ⟨li', (hin j hjB).trans e, p11 j li li' ((hρid j hjK).trans hj) e⟩
      · rw [hfr j hjB hjK] at hj; cases hj
    · exact ⟨li, (hout j hjB).trans hj, .inl rfl⟩
  · intro j hj hM
    rw [updL_keys h5 hj] at hM
    have := keysB_mm.1 hj
    rw [hM] at this; cases this
  · intro j y hj hM
    rw [updL_keys h5 hj] at hM
    exact (p9.blk j y hM).forget (ids := keysB B) hin hj (onlyBs_mm h4 j y hM)
  · intro j li b hj q1 q2
    rw [hin j hj] at q1
    rcases p10 j li b q1 q2 with ⟨j0, li0, q3, q4⟩ | q3
    · obtain ⟨q5, q6⟩ := hρin j0 li0 q3
      exact .inl ⟨j0, li0, hKB j0 q5, q6, q4⟩
    · obtain ⟨q4, q5⟩ := p9.own j li b q1 q2
      exact .inr ⟨q3, q5, q4⟩
  · intro j j' li li' b hj hj' q1 q1' q2 q2'
    rw [hin j hj] at q1
    rw [hin j' hj'] at q1'
    exact p9.inj j j' li li' b q1 q1' q2 q2'
theorem evCall_sound (I : InvH N C h ρ F M g a w) {f : Operand} {args : Array Operand} {ts : Array TypeId} (ho : o.op = .call { callee := .value f, args := args, argTypes := ts }) {val : Operand → AV} (hv : ∀ y, y ∈ o.op.operands → Rel h ρ (val y) (a.eval y)) {own : List Nat} {rv : RV} {r : R}
    (hr : evalOp Γ own val mg o (some rv) = some r) (hm : ∀ id, id ∈ r.rd → M id = mg id) (hc : ∀ q, r.cs = some q → q) (hq : ∀ gf xs, r.rq = some (gf, xs) → CtrG P gf xs rv.v rv.B) : StepIn P N C F M g a o w r.v r.wr := by
  have hd : ∀ c, o.op ≠ .defer c := fun c e => by rw [ho] at e; cases e
  have hf := hv f (by rw [ho]; simp [Op.operands, Call.operands])
  have hargs := mapAV_rel args.toList (fun x hx => hv x (mem_callArgs ho hx))
  unfold evalOp at hr
  simp only [ho] at hr
  cases hvf : val f <;> simp only [hvf] at hr <;> (try (cases hr; done))
  case fn k fs cs =>
    rw [hvf] at hf
    cases k <;> (try simp only [] at hr) <;> (try (cases hr; done))
    rename_i gf
    generalize hef : a.eval f = u at hf
    cases hf with
    | fn _ _ _ _ us ws hl1 hl2 hc1 hc2 =>
    have hall : RelL h ρ (fs ++ (mapAV val args.toList ++ cs)) (us ++ (args.toList.map a.eval ++ ws)) := RelL.append ⟨hl1, hc1⟩ (RelL.append hargs ⟨hl2, hc2⟩)
    unfold evCall at hr
    simp only [forceL_eq] at hr
    cases htk : takes rv.B with
    | some id =>
      simp only [htk] at hr
      exact call_take I (run_call ho hef w) hd htk hr hm hq hall
    | none =>
    simp only [htk] at hr
    cases hKr : rv.K with
    | cons i0 K0 =>
      simp only [hKr] at hr
      exact call_lend I (run_call ho hef w) hd htk hr hm hq hall
    | nil =>
    simp only [hKr] at hr
    cases hvl : viewL mg (fs ++ (mapAV val args.toList ++ cs)) with
    | none => simp only [hvl] at hr; cases hr
    | some q =>
    obtain ⟨xs', rd, c⟩ := q
    simp only [hvl] at hr
    obtain ⟨e1, e2, e3⟩ := evRet_cs hr
    exact call_core I (run_call ho hef w) hd hr hm (hq _ _ e2) (fun H2 hLe hH hrd => viewL_sound I hLe hall hvl (fun id hid => by
      rcases e3 with e3 | e3
      · subst e3; cases hid
      · exact hm id (e3 ▸ hid)) (fun q hq => hc q (e1.trans hq)) hH)
  case clo k fs cs =>
    rw [hvf] at hf
    cases k <;> (try simp only [] at hr) <;> (try (cases hr; done))
    rename_i gf
    generalize hef : a.eval f = u at hf
    cases hf with
    | clo _ _ _ _ _ hf =>
    cases hf with
    | fn _ _ _ _ us ws hl1 hl2 hc1 hc2 =>
    unfold evClo at hr
    simp only [forceL_eq] at hr
    cases htk : takes rv.B with
    | some id => simp only [htk] at hr; cases hr
    | none =>
    simp only [htk] at hr
    cases hvl : viewL mg (mapAV val args.toList) with
    | none => simp only [hvl] at hr; cases hr
    | some q =>
    obtain ⟨xs', rd, c⟩ := q
    simp only [hvl] at hr
    obtain ⟨e1, e2, e3⟩ := evRet_cs hr
    exact call_core I (run_call ho hef w) hd hr hm (hq _ _ e2) (fun H2 hLe hH hrd => RelL.append (RelL.heap ⟨hl1, hc1⟩ hLe) (RelL.append (viewL_sound I hLe hargs hvl (fun id hid => by
      rcases e3 with e3 | e3
      · subst e3; cases hid
      · exact hm id (e3 ▸ hid)) (fun q hq => hc q (e1.trans hq)) hH) (RelL.heap ⟨hl2, hc2⟩ hLe)))
end
end Go.Av
