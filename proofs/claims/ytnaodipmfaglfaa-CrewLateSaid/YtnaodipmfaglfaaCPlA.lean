/- Plain laws, crew: what a valid crew is. No program in sight. -/
import Derived.Test.YtnaodipmfaglfaaCTSpec
import Derived.Test.YtnaodipmfaglfaaRWr
set_option linter.all false
namespace Go.Sp
open Go.Av
set_option maxRecDepth 100000
def tv (t : List (List Range)) (a b : Nat) : Range := (t.getD a default).getD b default
structure TravelOk (t : List (List Range)) : Prop where
  len : t.length ≤ 12
  row : ∀ a, a < t.length → (t.getD a default).length = t.length
  diag : ∀ a, a < t.length → (tv t a a).Lo = 0 ∧ (tv t a a).Hi = 0
  rng : ∀ a b, a < t.length → b < t.length → 0 ≤ (tv t a b).Lo ∧ (tv t a b).Lo ≤ (tv t a b).Hi ∧ (tv t a b).Hi ≤ 600
  tri : ∀ a b c, a < t.length → b < t.length → c < t.length → (tv t a c).Lo ≤ (tv t a b).Lo + (tv t b c).Lo ∧ (tv t a c).Hi ≤ (tv t a b).Hi + (tv t b c).Hi
def TaskOk (t : Task) : Prop := 1 ≤ t.Lamp ∧ t.Lamp ≤ 999 ∧ 0 ≤ t.Place ∧ t.Place ≤ 11 ∧ 0 ≤ t.At ∧ t.At ≤ 1439 ∧ 1 ≤ t.Serve ∧ t.Serve ≤ 120
def HandOk (h : Hand) : Prop := 1 ≤ h.Id ∧ h.Id ≤ 99 ∧ 0 ≤ h.From ∧ h.From ≤ h.To ∧ h.To ≤ 1439
def tk (c : Crew) (i : Nat) : Task := c.Tasks.getD i default
def hd (c : Crew) (i : Nat) : Hand := c.Hands.getD i default
structure Valid (c : Crew) : Prop where
  tasks : c.Tasks.length ≤ 24
  hands : c.Hands.length ≤ 16
  travel : TravelOk c.Travel
  task : ∀ i, i < c.Tasks.length → TaskOk (tk c i) ∧ (tk c i).Place < c.Travel.length ∧ (0 < i → (tk c (i - 1)).Lamp < (tk c i).Lamp)
  hand : ∀ i, i < c.Hands.length → HandOk (hd c i) ∧ (0 < i → (hd c (i - 1)).Id < (hd c i).Id)
theorem in_iff {a b c : Int} : crew_in a b c = true ↔ b ≤ a ∧ a ≤ c := by simp [crew_in]
theorem within_iff {a b c : Int} : gasolierref01_Within a b c = true ↔ b ≤ a ∧ a ≤ c := by simp [gasolierref01_Within]
theorem checkTask_iff {t : Task} : crew_CheckTask t = 0 ↔ TaskOk t := by
  unfold crew_CheckTask TaskOk crew_isMinute
  by_cases h1 : crew_in t.Lamp 1 999 = true <;> by_cases h2 : crew_in t.Place 0 11 = true <;> by_cases h3 : crew_in t.At 0 1439 = true <;> by_cases h4 : crew_in t.Serve 1 120 = true <;>
    simp [h1, h2, h3, h4] <;> simp only [in_iff] at h1 h2 h3 h4 <;> omega
theorem refTask_eq (t : Task) : gasolierref04_CheckTask t = crew_CheckTask t := by
  unfold gasolierref04_CheckTask crew_CheckTask crew_isMinute gasolierref01_Within crew_in; rfl
theorem checkHand_iff {t : Hand} : crew_CheckHand t = 0 ↔ HandOk t := by
  unfold crew_CheckHand HandOk crew_isMinute
  by_cases h1 : crew_in t.Id 1 99 = true <;> by_cases h2 : crew_in t.From 0 1439 = true <;> by_cases h3 : crew_in t.To t.From 1439 = true <;>
    simp [h1, h2, h3] <;> simp only [in_iff] at h1 h2 h3 <;> omega
theorem refHand_eq (t : Hand) : gasolierref04_CheckHand t = crew_CheckHand t := by
  unfold gasolierref04_CheckHand crew_CheckHand crew_isMinute gasolierref01_Within crew_in gasolierref01_IsRange
  by_cases h1 : 1 ≤ t.Id <;> by_cases h2 : t.Id ≤ 99 <;> by_cases h3 : 0 ≤ t.From <;> by_cases h4 : t.From ≤ t.To <;> by_cases h5 : t.To ≤ 1439 <;> by_cases h6 : t.From ≤ 1439 <;> simp [h1, h2, h3, h4, h5, h6] <;> omega
theorem range_zero {r : Range} : ((decide (r.Lo = 0)) && (decide (r.Hi = 0))) = true ↔ r.Lo = 0 ∧ r.Hi = 0 := by simp
theorem isTravel_wp (t : List (List Range)) : Wp (crew_isTravel t) (fun r => r = true ↔ TravelOk t) := by
  unfold crew_isTravel
  refine wp_ifd (fun h => wp_some ⟨fun h => (by cases h), fun T => by have := T.len; omega⟩) (fun h => ?_)
  refine wp_forall (fun a => (t.getD a default).length = t.length ∧ ((tv t a a).Lo = 0 ∧ (tv t a a).Hi = 0) ∧ ∀ b, b < t.length → 0 ≤ (tv t a b).Lo ∧ (tv t a b).Lo ≤ (tv t a b).Hi ∧ (tv t a b).Hi ≤ 600) (fun a K ha _ hK => ?_) (fun h1 => ?_)
  · refine wp_must (fun hl => by simp [-List.getD_eq_getElem?_getD] at hl; omega) ?_
    refine wp_bif (fun hb => ?_) (fun hb => ?_)
    · refine wp_some ⟨fun h => (by cases h), fun T => ?_⟩
      have h1 := T.row a ha
      have h2 := T.diag a ha
      unfold tv at h2
      simp [h2, -List.getD_eq_getElem?_getD] at hb
      omega
    · have hb' : (t.getD a default).length = t.length ∧ ((tv t a a).Lo = 0 ∧ (tv t a a).Hi = 0) := by
        simp only [Bool.or_eq_false_iff, Bool.not_eq_false'] at hb
        exact ⟨by have := hb.1; simp [-List.getD_eq_getElem?_getD] at this; omega, range_zero.1 hb.2⟩
      refine wp_forall (fun b => 0 ≤ (tv t a b).Lo ∧ (tv t a b).Lo ≤ (tv t a b).Hi ∧ (tv t a b).Hi ≤ 600) (fun b K' hb2 _ hK' => ?_) (fun h2 => ?_)
      · refine wp_bif (fun hc => ?_) (fun hc => ?_)
        · refine wp_some ⟨fun h => (by cases h), fun T => ?_⟩
          have := T.rng a b ha (by omega)
          unfold tv at this
          simp only [Bool.or_eq_true, Bool.not_eq_true', decide_eq_true_eq] at hc
          rcases hc with hc | hc
          · have : crew_in (((t.getD a default).getD b default).Lo) 0 (((t.getD a default).getD b default).Hi) = true := in_iff.2 (by omega)
            rw [hc] at this; cases this
          · omega
        · refine hK' ?_
          simp only [Bool.or_eq_false_iff, Bool.not_eq_false', decide_eq_false_iff_not] at hc
          have := in_iff.1 hc.1
          unfold tv; omega
      · exact hK ⟨hb'.1, hb'.2, fun b hb => h2 b (by omega)⟩
  · refine wp_forall (fun a => ∀ b c, b < t.length → c < t.length → (tv t a c).Lo ≤ (tv t a b).Lo + (tv t b c).Lo ∧ (tv t a c).Hi ≤ (tv t a b).Hi + (tv t b c).Hi) (fun a K ha _ hK => ?_) (fun h2 => ?_)
    · refine wp_forall (fun b => ∀ c, c < t.length → (tv t a c).Lo ≤ (tv t a b).Lo + (tv t b c).Lo ∧ (tv t a c).Hi ≤ (tv t a b).Hi + (tv t b c).Hi) (fun b K' hb _ hK' => ?_) (fun h3 => hK (fun b c hb hc => h3 b hb c hc))
      refine wp_forall (fun c => (tv t a c).Lo ≤ (tv t a b).Lo + (tv t b c).Lo ∧ (tv t a c).Hi ≤ (tv t a b).Hi + (tv t b c).Hi) (fun c K'' hc _ hK'' => ?_) (fun h3 => hK' h3)
      have r1 := (h1 a ha).1
      have r2 := (h1 b hb).1
      have q1 := (h1 a ha).2.2 b hb
      have q2 := (h1 b hb).2.2 c hc
      have q3 := (h1 a ha).2.2 c hc
      have e : ∀ a b, ((t.getD a default).getD b default) = tv t a b := fun _ _ => rfl
      simp only [e]
      repeat (first | (refine wp_must ?_ ?_; · omega) | (refine wp_mustI ?_ ?_; · omega) | (refine wp_must ?_ ?_; · (intro _; omega)) | (refine wp_mustW ?_ ?_; · (intro _; omega)))
      refine wp_bif (fun hd => ?_) (fun hd => ?_)
      · refine wp_some ⟨fun h => (by cases h), fun T => ?_⟩
        have := T.tri a b c ha hb hc
        simp only [Bool.or_eq_true, decide_eq_true_eq] at hd
        omega
      · refine hK'' ?_
        simp only [Bool.or_eq_false_iff, decide_eq_false_iff_not] at hd
        omega
    · exact wp_some ⟨fun _ => ⟨by omega, fun a ha => (h1 a ha).1, fun a ha => (h1 a ha).2.1, fun a b ha hb => (h1 a ha).2.2 b hb, fun a b c ha hb hc => h2 a ha b c hb hc⟩, fun _ => rfl⟩
theorem refTravel_eq (t : List (List Range)) : gasolierref04_isTravel t = crew_isTravel t := by
  unfold gasolierref04_isTravel crew_isTravel
  have e : ∀ r : Range, (!(gasolierref01_IsRange r 0 600)) = ((!(crew_in r.Lo 0 r.Hi)) || (decide (600 < r.Hi))) := by
    intro r
    have : gasolierref01_IsRange r 0 600 = !((!(crew_in r.Lo 0 r.Hi)) || (decide (600 < r.Hi))) := by
      unfold gasolierref01_IsRange crew_in
      by_cases h : r.Hi ≤ 600
      · rw [decide_eq_true h, decide_eq_false (by omega : ¬ 600 < r.Hi)]; simp
      · rw [decide_eq_false h, decide_eq_true (by omega : 600 < r.Hi)]; simp
    rw [this, Bool.not_not]
  simp only [e]
theorem check_wp (c : Crew) : Wp (crew_Check c) (fun r => (Valid c ∧ r = 0) ∨ (¬ Valid c ∧ r = 42)) := by
  unfold crew_Check
  refine wp_on (Q := fun r => r = true ↔ TravelOk c.Travel) (fun _ => isTravel_wp c.Travel) (fun y hy => ?_)
  refine wp_bif (fun hb => wp_some (.inr ⟨fun V => ?_, rfl⟩)) (fun hb => ?_)
  · have h1 := V.tasks; have h2 := V.hands
    have e : (decide (24 < ((c.Tasks.length : Nat) : Int)) || decide (16 < ((c.Hands.length : Nat) : Int))) = false := by simp; omega
    rw [e] at hb hy
    have := (hy rfl).2 V.travel
    rw [this] at hb; cases hb
  · simp only [Bool.or_eq_false_iff, Bool.not_eq_false', decide_eq_false_iff_not] at hb
    have T := (hy (by simp [hb.1.1, hb.1.2])).1 hb.2
    refine wp_forall (fun i => TaskOk (tk c i) ∧ (tk c i).Place < c.Travel.length ∧ (0 < i → (tk c (i - 1)).Lamp < (tk c i).Lamp)) (fun i K hi _ hK => ?_) (fun h1 => ?_)
    · refine wp_must (fun _ => by unfold inI; omega) ?_
      refine wp_must (fun h => by simp at h; omega) ?_
      have e : (((i : Int) - 1)).toNat = i - 1 := by omega
      rw [e]
      refine wp_bif (fun hb2 => wp_some (.inr ⟨fun V => ?_, rfl⟩)) (fun hb2 => ?_)
      · obtain ⟨a1, a2, a3⟩ := V.task i hi
        unfold tk at a1 a2 a3
        have a4 := checkTask_iff.2 a1
        simp only [a4, Bool.or_eq_true, Bool.and_eq_true, decide_eq_true_eq, Bool.not_eq_true'] at hb2
        simp [-List.getD_eq_getElem?_getD] at hb2
        omega
      · simp only [Bool.or_eq_false_iff, Bool.and_eq_false_iff, Bool.not_eq_false', decide_eq_true_eq, decide_eq_false_iff_not] at hb2
        refine hK ⟨checkTask_iff.1 hb2.1.1, by unfold tk; omega, fun h0 => ?_⟩
        unfold tk
        rcases hb2.2 with h | h <;> omega
    · refine wp_forall (fun i => HandOk (hd c i) ∧ (0 < i → (hd c (i - 1)).Id < (hd c i).Id)) (fun i K hi _ hK => ?_) (fun h2 => wp_some (.inl ⟨⟨by omega, by omega, T, h1, h2⟩, rfl⟩))
      refine wp_must (fun _ => by unfold inI; omega) ?_
      refine wp_must (fun h => by simp at h; omega) ?_
      have e : (((i : Int) - 1)).toNat = i - 1 := by omega
      rw [e]
      refine wp_bif (fun hb2 => wp_some (.inr ⟨fun V => ?_, rfl⟩)) (fun hb2 => ?_)
      · obtain ⟨a1, a3⟩ := V.hand i hi
        unfold hd at a1 a3
        have a4 := checkHand_iff.2 a1
        simp only [a4, Bool.or_eq_true, Bool.and_eq_true, decide_eq_true_eq, Bool.not_eq_true'] at hb2
        simp [-List.getD_eq_getElem?_getD] at hb2
        omega
      · simp only [Bool.or_eq_false_iff, Bool.and_eq_false_iff, Bool.not_eq_false', decide_eq_true_eq, decide_eq_false_iff_not] at hb2
        refine hK ⟨checkHand_iff.1 hb2.1, fun h0 => ?_⟩
        unfold hd
        rcases hb2.2 with h | h <;> omega
theorem refCheck_eq (c : Crew) : gasolierref04_Check c = crew_Check c := by
  unfold gasolierref04_Check crew_Check
  simp only [refTask_eq, refHand_eq, refTravel_eq]
noncomputable def chk (c : Crew) : Int := @ite _ (Valid c) (Classical.propDecidable _) 0 42
theorem chk_valid {c : Crew} (h : Valid c) : chk c = 0 := if_pos h
theorem chk_not {c : Crew} (h : ¬ Valid c) : chk c = 42 := if_neg h
theorem check_eq (c : Crew) : crew_Check c = some (chk c) := by
  refine Wp.eq ((check_wp c).mono (fun r h => ?_))
  rcases h with ⟨h, rfl⟩ | ⟨h, rfl⟩
  · exact (chk_valid h).symm
  · exact (chk_not h).symm
theorem rcheck_eq (c : Crew) : gasolierref04_Check c = some (chk c) := (refCheck_eq c).trans (check_eq c)
end Go.Sp
