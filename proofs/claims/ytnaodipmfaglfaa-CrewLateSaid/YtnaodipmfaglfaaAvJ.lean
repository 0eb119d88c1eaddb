/- The evaluator is right, part 7: maps, lengths, appends, slices of slices. -/
import Derived.Test.YtnaodipmfaglfaaAvI
import Derived.Maps.OwnOps
set_option linter.all false
namespace Go.Av
theorem room_max {n b : Nat} (h : room n b) : n ≤ maxLen := by
  have := h.2
  unfold maxLen
  omega
section
variable {P : Program} {N : Nat} {C : Ctx} {h : Hp} {ρ : Rho} {F : Fr} {M : Mm} {g : Nat} {a : Act} {w : World} {Γ : Tys} {mg : Mm} {o : Oper}
theorem asRo_sound (I : InvH N C h ρ F M g a w) {x : AV} {sz n : Nat} {el : Nat → List AV} {rd : List Nat} {c : Option Prop} (hx : asRo mg x = some (sz, n, el, rd, c)) (hm : ∀ id, id ∈ rd → M id = mg id) (hc : ∀ q, c = some q → q)
    {v : Value} (H : Rel h ρ x v) : ∃ (ad : Option Addr) (cap : Nat) (news : List Value), v = .slice ad n cap ∧ news.length = n * sz ∧ (∀ i, i < n → (el i).length = sz) ∧ (∀ u, u ∈ news → u.oneCell' = true) ∧
      (∀ (k : Nat) (u : Value), news[k]? = some u → ∃ ad', ad = some ad' ∧ w.cell? (ad'.add k) = some u) ∧
      (∀ (i j : Nat) (c : AV) (u : Value), i < n → (el i)[j]? = some c → news[i * sz + j]? = some u → Rel h ρ0 c u) ∧ (ad = none → n = 0) := by
  cases x <;> simp only [asRo] at hx <;> (try (cases hx; done))
  case ro sz' n' e =>
    cases hx
    cases H with
    | ro _ _ _ _ ad cap hnil hcap hl hs h1 hc' =>
      refine ⟨ad, cap, (List.range (n * sz)).map (fun k => (hcell h ad k).getD undef), rfl, by simp, hl, fun u hu => ?_, fun k u hk => ?_, fun i j c u hi hj hu => ?_, hnil⟩
      · simp only [List.mem_map, List.mem_range] at hu
        obtain ⟨k', hlt, hk2⟩ := hu
        have hsz : 0 < sz := by
          rcases Nat.eq_zero_or_pos sz with h0 | h0
          · subst h0; simp at hlt
          · exact h0
        have h1' := hs (k' / sz) (k' % sz) (by rw [Nat.div_lt_iff_lt_mul hsz]; exact hlt) (Nat.mod_lt _ hsz)
        rw [Nat.mul_comm, Nat.div_add_mod] at h1'
        obtain ⟨u', hu'⟩ := Option.isSome_iff_exists.1 h1'
        rw [← hk2, hu']
        exact h1 k' u' hlt hu'
      · simp only [List.getElem?_map, Option.map_eq_some_iff] at hk
        obtain ⟨k', hk1, hk2⟩ := hk
        have hlt : k < n * sz := by
          have := (List.getElem?_eq_some_iff.1 hk1).1
          simpa using this
        have : k' = k := by
          have := List.getElem?_range hlt
          rw [this] at hk1; cases hk1; rfl
        subst this
        have hsz : 0 < sz := by
          rcases Nat.eq_zero_or_pos sz with h0 | h0
          · subst h0; simp at hlt
          · exact h0
        have h1 := hs (k' / sz) (k' % sz) (by rw [Nat.div_lt_iff_lt_mul hsz]; exact hlt) (Nat.mod_lt _ hsz)
        rw [Nat.mul_comm, Nat.div_add_mod] at h1
        cases ad with
        | none => simp [hcell] at h1
        | some ad' =>
          obtain ⟨u', hu'⟩ := Option.isSome_iff_exists.1 h1
          refine ⟨ad', rfl, ?_⟩
          rw [← hk2, hu']
          exact I.cell hu'
      · have hjs : j < sz := by rw [← hl i hi]; exact (List.getElem?_eq_some_iff.1 hj).1
        have hlt : i * sz + j < n * sz := by
          calc i * sz + j < i * sz + sz := by omega
            _ = (i + 1) * sz := by rw [Nat.add_mul, Nat.one_mul]
            _ ≤ n * sz := Nat.mul_le_mul_right _ hi
        simp only [List.getElem?_map, List.getElem?_range hlt, Option.map_some, Option.some.injEq] at hu
        obtain ⟨u', hu'⟩ := Option.isSome_iff_exists.1 (hs i j hi hjs)
        rw [hu'] at hu
        simp at hu; subst hu
        exact hc' i j c _ hi hj hu'
  case buf id n' =>
    cases hg : mg id with
    | none => simp [hg] at hx
    | some bl =>
      cases bl <;> simp only [hg] at hx <;> (try (cases hx; done))
      rename_i ty sz' n2 e
      cases hx
      obtain rfl := hc _ rfl
      obtain ⟨v0, us, e1, e2, e3, e5, e4⟩ := I.blk id _ ((hm id (by simp)).trans hg)
      cases H with
      | buf _ _ _ n3 sz2 _ v' hb hle h1 he =>
        rw [e1] at hb; cases hb
        obtain rfl := he rfl
        rcases e2.2 with ⟨rfl, h0⟩ | ⟨b, cap, cur, rfl, _, q3, q4, q5, q6, q7⟩
        · subst h0
          exact ⟨none, 0, us, rfl, e2.1, e3, e5, fun k u hk => by
            have : us = [] := List.eq_nil_of_length_eq_zero (by rw [e2.1]; simp)
            subst this; simp at hk, e4, fun _ => rfl⟩
        · exact ⟨some ⟨b, 0, none⟩, cap, us, rfl, e2.1, e3, e5, fun k u hk => ⟨_, rfl, e2.cells (g := b) rfl k u hk⟩, e4, fun e => by cases e⟩
end
end Go.Av
