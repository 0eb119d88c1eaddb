/- Plain laws: RoundMarks. No program in sight. -/
import Derived.Test.YtjeolkdhicmhgaaRPlK
set_option linter.all false
namespace Go.Sp
open Go.Av
set_option maxRecDepth 100000
structure MkOk (c : Chart) (s a : Int) (L : List Int) : Prop where
  len : (L.length : Int) = c.Places
  rng : ∀ x ∈ L, -1 ≤ x ∧ x ≤ 1439
  st : 0 ≤ L.getD s.toNat default ∧ L.getD s.toNat default ≤ a
  cls : ∀ i, i < c.Ways.length → 0 ≤ L.getD (way c i).From.toNat default → ∀ b, fin (way c i) (boT c true i) (L.getD (way c i).From.toNat default) = some b → 0 ≤ L.getD (way c i).To.toNat default ∧ L.getD (way c i).To.toNat default ≤ b
def MarkP (c : Chart) (s a : Int) (L : List Int) (e : Int) : Prop := (askE c s a ≠ 0 ∧ e = askE c s a) ∨ (askE c s a = 0 ∧ MkOk c s a L ∧ e = 0) ∨ (askE c s a = 0 ∧ ¬ MkOk c s a L ∧ e = 37)
theorem MarkP.unique {c : Chart} {s a : Int} {L : List Int} {e e' : Int} (h : MarkP c s a L e) (h' : MarkP c s a L e') : e = e' := by
  rcases h with ⟨h1, h2⟩ | ⟨h1, h2, h3⟩ | ⟨h1, h2, h3⟩ <;> rcases h' with ⟨k1, k2⟩ | ⟨k1, k2, k3⟩ | ⟨k1, k2, k3⟩
  · omega
  · exact absurd k1 h1
  · exact absurd k1 h1
  · exact absurd h1 k1
  · omega
  · exact absurd h2 k2
  · exact absurd h1 k1
  · exact absurd k2 h2
  · omega
theorem mem_getD {L : List Int} {i : Nat} (hi : i < L.length) : L.getD i default ∈ L := by
  rw [List.getD_eq_getElem?_getD, List.getElem?_eq_getElem hi]; exact List.getElem_mem hi
theorem checkMarks_eq (c : Chart) (s a : Int) (L : List Int) : Wp (round_CheckMarks c s a L) (MarkP c s a L) := by
  unfold round_CheckMarks
  refine wp_bindE (placeOf_one c s a) (wp_ifn (fun h => wp_some (.inl ⟨h, rfl⟩)) (fun h0 => ?_))
  obtain ⟨hv, hs, ha⟩ := askE_zero h0
  obtain ⟨⟨v1, v2⟩, v3, v4⟩ := valid_iff.1 hv
  have hct : slices_ContainsFunc_int L (fun x0 => some (round_CheckMarks_1 x0)) = some (L.any round_CheckMarks_1) := containsInt L _ _ (fun _ _ => rfl)
  have e1 : (bif (!(!decide (((L.length : Nat) : Int) = c.Places))) then slices_ContainsFunc_int L (fun x0 => some (round_CheckMarks_1 x0)) else some default) = some (decide (((L.length : Nat) : Int) = c.Places) && L.any round_CheckMarks_1) := by
    rw [hct]
    by_cases e : ((L.length : Nat) : Int) = c.Places
    · rw [decide_eq_true e]; rfl
    · rw [decide_eq_false e]; rfl
  refine wp_bindE e1 ?_
  by_cases e : ((L.length : Nat) : Int) = c.Places
  · rw [decide_eq_true e]
    by_cases hr : L.any round_CheckMarks_1 = true
    · rw [hr]
      refine wp_must (by intro x; cases x) (wp_true rfl (wp_some (.inr (.inr ⟨h0, fun M => ?_, rfl⟩))))
      obtain ⟨x, hx, h2⟩ := List.any_eq_true.1 hr
      have := M.rng x hx
      unfold round_CheckMarks_1 round_within at h2
      simp at h2; omega
    · have hr' : L.any round_CheckMarks_1 = false := by cases hq : L.any round_CheckMarks_1 with
        | true => exact absurd hq hr
        | false => rfl
      rw [hr']
      have rng : ∀ x ∈ L, -1 ≤ x ∧ x ≤ 1439 := fun x hx => by
        have := (List.any_eq_false.1 hr') x hx
        unfold round_CheckMarks_1 round_within at this
        simp at this; omega
      refine wp_must (by omega) (wp_bif (fun g => ?_) (fun g => ?_))
      · refine wp_some (.inr (.inr ⟨h0, fun M => ?_, rfl⟩))
        have := M.st
        unfold round_within at g
        simp only [Bool.not_true, Bool.true_and, Bool.false_or, Bool.not_eq_true', Bool.and_eq_false_iff, decide_eq_false_iff_not] at g
        omega
      · have st : 0 ≤ L.getD s.toNat default ∧ L.getD s.toNat default ≤ a := by
          unfold round_within at g
          simp only [Bool.not_true, Bool.true_and, Bool.false_or, Bool.not_eq_false', Bool.and_eq_true, decide_eq_true_eq] at g
          exact g
        refine wp_range (fun p _ => ∀ i, i < c.Ways.length → (way c i).From < (p : Int) → 0 ≤ L.getD (way c i).From.toNat default → ∀ b, fin (way c i) (boT c true i) (L.getD (way c i).From.toNat default) = some b → 0 ≤ L.getD (way c i).To.toNat default ∧ L.getD (way c i).To.toNat default ≤ b) (fun i hi h => ?_) ?_ ?_
        · have J := joins_iff.1 (joins_of hv hi)
          omega
        · intro p _ K hp hI hK
          refine wp_join (fun _ => ∀ i, i < c.Ways.length → (way c i).From < ((p + 1 : Nat) : Int) → 0 ≤ L.getD (way c i).From.toNat default → ∀ b, fin (way c i) (boT c true i) (L.getD (way c i).From.toNat default) = some b → 0 ≤ L.getD (way c i).To.toNat default ∧ L.getD (way c i).To.toNat default ≤ b) (fun K2 hK2 => ?_) (fun _ h => hK _ h)
          refine wp_ifd (fun g1 => hK2 _ (fun i hi hlt h0' b hb => ?_)) (fun g1 => ?_)
          · by_cases e2 : (way c i).From = (p : Int)
            · rw [e2, Int.toNat_natCast] at h0'; omega
            · exact hI i hi (by omega) h0' b hb
          · have hm := rng _ (mem_getD hp)
            refine wp_bindE (from_eq (net_bo hv true) ⟨by omega, hm.2⟩ _ (most_eq c)) ?_
            refine wp_list (fun done _ _ => ∀ x ∈ done, 0 ≤ L.getD (way c x.1.toNat).To.toNat default ∧ L.getD (way c x.1.toNat).To.toNat default ≤ x.2) (fun x hx => by cases hx) ?_ ?_
            · intro done x rest _ K3 hl hD hK3
              have hx : x ∈ (List.range' 0 c.Ways.length).filterMap (item c (boT c true) (p : Int) (L.getD p default)) := by rw [← hl]; simp
              obtain ⟨i, hi, hF, hfin, hxi⟩ := mem_items.1 hx
              have J := joins_iff.1 (joins_of hv hi)
              have ew : c.Ways.getD x.1.toNat default = way c i := by rw [hxi]; rfl
              refine wp_must (by omega) (wp_must (by rw [ew]; omega) (wp_bif (fun g2 => ?_) (fun g2 => hK3 _ (fun y hy => ?_))))
              · rw [ew] at g2
                simp only [Bool.or_eq_true, decide_eq_true_eq] at g2
                refine wp_some (.inr (.inr ⟨h0, fun M => ?_, rfl⟩))
                have := M.cls i hi (by rw [hF, Int.toNat_natCast]; omega) x.2 (by rw [hF, Int.toNat_natCast]; exact hfin)
                omega
              · rw [List.mem_append] at hy
                rcases hy with hy | hy
                · exact hD y hy
                · rw [List.mem_singleton] at hy; subst hy
                  rw [ew] at g2
                  simp only [Bool.or_eq_false_iff, decide_eq_false_iff_not] at g2
                  have e3 : way c y.1.toNat = way c i := by rw [hxi]; rfl
                  rw [e3]; omega
            · intro _ hD
              refine hK2 _ (fun i hi hlt h0' b hb => ?_)
              by_cases e2 : (way c i).From = (p : Int)
              · rw [e2, Int.toNat_natCast] at hb
                have := hD ((i : Int), b) (mem_items.2 ⟨i, hi, e2, hb, rfl⟩)
                exact this
              · exact hI i hi (by omega) h0' b hb
        · intro _ hI
          refine wp_some (.inr (.inl ⟨h0, ⟨e, rng, st, fun i hi h1 b hb => hI i hi ?_ h1 b hb⟩, rfl⟩))
          have J := joins_iff.1 (joins_of hv hi)
          omega
  · rw [decide_eq_false e]
    exact wp_must (by intro x; cases x) (wp_true rfl (wp_some (.inr (.inr ⟨h0, fun M => e M.len, rfl⟩))))
end Go.Sp
