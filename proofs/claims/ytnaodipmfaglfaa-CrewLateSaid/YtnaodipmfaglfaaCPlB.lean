/- Plain laws, crew: which task follows which; the plan. No program in sight. -/
import Derived.Test.YtnaodipmfaglfaaCPlA
import Derived.Test.YtnaodipmfaglfaaRKn
set_option linter.all false
namespace Go.Sp
open Go.Av
set_option maxRecDepth 100000
def EndOf (e : Range → Int) : Prop := e = Range.Lo ∨ e = Range.Hi
def gap (c : Crew) (e : Range → Int) (i j : Nat) : Int := (tk c j).At - (tk c i).At - (tk c i).Serve - e (tv c.Travel (tk c i).Place.toNat (tk c j).Place.toNat)
def fol (c : Crew) (e : Range → Int) (i j : Nat) : Prop := i < c.Tasks.length ∧ j < c.Tasks.length ∧ 0 ≤ gap c e i j
instance (c : Crew) (e : Range → Int) (i j : Nat) : Decidable (fol c e i j) := inferInstanceAs (Decidable (_ ∧ _ ∧ _))
theorem Valid.place {c : Crew} (V : Valid c) {i : Nat} (hi : i < c.Tasks.length) : 0 ≤ (tk c i).Place ∧ (tk c i).Place.toNat < c.Travel.length ∧ ((tk c i).Place.toNat : Int) = (tk c i).Place := by
  obtain ⟨a, b, _⟩ := V.task i hi
  unfold TaskOk at a; omega
theorem Valid.end {c : Crew} (V : Valid c) {e : Range → Int} (he : EndOf e) {i j : Nat} (hi : i < c.Tasks.length) (hj : j < c.Tasks.length) : 0 ≤ e (tv c.Travel (tk c i).Place.toNat (tk c j).Place.toNat) ∧ e (tv c.Travel (tk c i).Place.toNat (tk c j).Place.toNat) ≤ 600 := by
  have := V.travel.rng _ _ (V.place hi).2.1 (V.place hj).2.1
  rcases he with rfl | rfl <;> omega
theorem Valid.at {c : Crew} (V : Valid c) {i : Nat} (hi : i < c.Tasks.length) : 0 ≤ (tk c i).At ∧ (tk c i).At ≤ 1439 ∧ 1 ≤ (tk c i).Serve ∧ (tk c i).Serve ≤ 120 := by
  obtain ⟨a, _, _⟩ := V.task i hi
  unfold TaskOk at a; omega
theorem fol_at {c : Crew} (V : Valid c) {e : Range → Int} (he : EndOf e) {i j : Nat} (h : fol c e i j) : (tk c i).At < (tk c j).At := by
  obtain ⟨hi, hj, h⟩ := h
  have := V.end he hi hj
  have := V.at hi
  unfold gap at h; omega
theorem fol_irrefl {c : Crew} (V : Valid c) {e : Range → Int} (he : EndOf e) {i : Nat} : ¬ fol c e i i := fun h => by have := fol_at V he h; omega
theorem fol_trans {c : Crew} (V : Valid c) {e : Range → Int} (he : EndOf e) {i j k : Nat} (h1 : fol c e i j) (h2 : fol c e j k) : fol c e i k := by
  obtain ⟨hi, hj, h1⟩ := h1
  obtain ⟨_, hk, h2⟩ := h2
  refine ⟨hi, hk, ?_⟩
  have t := V.travel.tri _ _ _ (V.place hi).2.1 (V.place hj).2.1 (V.place hk).2.1
  have := V.at hj
  unfold gap at *
  rcases he with rfl | rfl <;> omega
theorem spare_eq {c : Crew} (V : Valid c) {e : Range → Int} (he : EndOf e) {i j : Nat} (hi : i < c.Tasks.length) (hj : j < c.Tasks.length) : crew_spare c (i : Int) (j : Int) (fun x => some (e x)) = some (gap c e i j) := by
  refine Wp.eq ?_
  unfold crew_spare
  have hpi := V.place hi
  have hpj := V.place hj
  have hai := V.at hi
  have haj := V.at hj
  have hen := V.end he hi hj
  have hrow := V.travel.row _ hpi.2.1
  have e1 : c.Tasks.getD ((i : Int)).toNat default = tk c i := rfl
  have e2 : c.Tasks.getD ((j : Int)).toNat default = tk c j := rfl
  rw [e1, e2]
  refine wp_must (by omega) (wp_must (by omega) (wp_mustI (by omega) (wp_mustI (by omega) (wp_must (by omega) (wp_must (by omega) (wp_bindE rfl ?_))))))
  have e3 : e ((c.Travel.getD ((tk c i).Place).toNat default).getD ((tk c j).Place).toNat default) = e (tv c.Travel (tk c i).Place.toNat (tk c j).Place.toNat) := rfl
  rw [e3]
  exact wp_mustI (by omega) (wp_some rfl)
structure IsPlan (n : Nat) (adj : Nat → Nat → Prop) (p : crew_plan) : Prop where
  le : n ≤ 24
  len : p.next.length = n
  bits : ∀ i, i < n → 0 ≤ p.next.getD i default ∧ (p.next.getD i default).toNat < 2 ^ n ∧ ∀ j, j < n → ((p.next.getD i default).toNat.testBit j = true ↔ adj i j)
theorem pow24 {n : Nat} (h : n ≤ 24) : 2 ^ n ≤ 16777216 := Nat.pow_le_pow_right (by omega) h
theorem pow_nat (j : Nat) : ((1 : Int) * 2 ^ j) = ((2 ^ j : Nat) : Int) := by simp
theorem pow_lt24 {j n : Nat} (h : j < n) (hn : n ≤ 24) : 2 ^ j < 16777216 := Nat.lt_of_lt_of_le (Nat.pow_lt_pow_right (by omega) h) (pow24 hn)
theorem pow_rng {j n : Nat} (h : j < n) (hn : n ≤ 24) : 0 ≤ ((1 : Int) * 2 ^ j) ∧ ((1 : Int) * 2 ^ j) ≤ 16777216 := by
  rw [pow_nat]
  have := pow_lt24 h hn
  generalize 2 ^ j = q at this
  omega
theorem getD0 {l : List Int} {i : Nat} : l.getD i default = l.getD i 0 := rfl
theorem newPlan_wp {c : Crew} (V : Valid c) {e : Range → Int} (he : EndOf e) : Wp (crew_newPlan c (fun x => some (e x))) (fun r => ∃ p, r = some p ∧ p.Crew = c ∧ IsPlan c.Tasks.length (fol c e) p) := by
  have hn := V.tasks
  unfold crew_newPlan
  refine wp_must ⟨by omega, by omega, by unfold room; omega⟩ (wp_must (by omega) ?_)
  refine wp_range (fun i s => s.length = c.Tasks.length ∧ ∀ a, a < c.Tasks.length → 0 ≤ s.getD a default ∧ (s.getD a default).toNat < 2 ^ c.Tasks.length ∧ ∀ b, b < c.Tasks.length → ((s.getD a default).toNat.testBit b = true ↔ (a < i ∧ fol c e a b))) ?_ (fun i s K hi hI hK => ?_) (fun s hs => wp_some ⟨_, rfl, rfl, hn, hs.1, fun a ha => ?_⟩)
  · refine ⟨by simp, fun a ha => ?_⟩
    have : (List.replicate (((c.Tasks.length : Nat) : Int)).toNat (0 : Int)).getD a default = 0 := by rw [getD0, getD_replicate]
    rw [this]
    exact ⟨by omega, Nat.pow_pos (by omega), fun b _ => by simp⟩
  · refine wp_must (by omega) ?_
    refine wp_range (fun j s => s.length = c.Tasks.length ∧ ∀ a, a < c.Tasks.length → 0 ≤ s.getD a default ∧ (s.getD a default).toNat < 2 ^ c.Tasks.length ∧ ∀ b, b < c.Tasks.length → ((s.getD a default).toNat.testBit b = true ↔ ((a < i ∨ (a = i ∧ b < j)) ∧ fol c e a b))) ?_ (fun j s K' hj hI' hK' => ?_) (fun s hs => hK s ⟨hs.1, fun a ha => ?_⟩)
    · refine ⟨hI.1, fun a ha => ?_⟩
      obtain ⟨h1, h2, h3⟩ := hI.2 a ha
      refine ⟨h1, h2, fun b hb => (h3 b hb).trans ⟨fun h => ⟨.inl h.1, h.2⟩, fun h => ⟨by omega, h.2⟩⟩⟩
    · have same : (¬ fol c e i j) → ∀ a, a < c.Tasks.length → 0 ≤ s.getD a default ∧ (s.getD a default).toNat < 2 ^ c.Tasks.length ∧ ∀ b, b < c.Tasks.length → ((s.getD a default).toNat.testBit b = true ↔ ((a < i ∨ (a = i ∧ b < j + 1)) ∧ fol c e a b)) := by
        intro hno a ha
        obtain ⟨h1, h2, h3⟩ := hI'.2 a ha
        refine ⟨h1, h2, fun b hb => (h3 b hb).trans ⟨fun h => ⟨by omega, h.2⟩, fun h => ⟨?_, h.2⟩⟩⟩
        by_cases e1 : a = i ∧ b = j
        · rw [e1.1, e1.2] at h; exact absurd h.2 hno
        · omega
      refine wp_on (Q := fun r => r = gap c e i j) (fun _ => Wp.of_eq (spare_eq V he hi hj) rfl) (fun y hy => ?_)
      refine wp_bif (fun hb => ?_) (fun hb => ?_)
      · simp only [Bool.and_eq_true, Bool.not_eq_true', decide_eq_false_iff_not, decide_eq_true_eq] at hb
        have hy := hy (by simp; omega)
        subst hy
        have hf : fol c e i j := ⟨hi, hj, hb.2⟩
        obtain ⟨h1, h2, h3⟩ := hI'.2 i hi
        have hp := pow_rng hj hn
        have hq := pow24 hn
        have e0 : ((j : Int)).toNat = j := rfl
        rw [e0]
        refine wp_must (by omega) (wp_must ⟨by omega, by omega, by unfold inI; omega⟩ (wp_must ⟨h1, hp.1, by unfold inI; omega, by unfold inI; omega⟩ (wp_must (by omega) ?_)))
        rw [pow_nat]
        refine hK' _ ⟨by rw [List.length_set]; exact hI'.1, fun a ha => ?_⟩
        rw [getD_set _ _ _ _ _ (by omega)]
        by_cases e1 : a = i
        · subst e1
          rw [if_pos rfl, Int.toNat_natCast, Int.toNat_natCast]
          refine ⟨by omega, or_lt h2 hj, fun b hb2 => ?_⟩
          rw [or_bit, Bool.or_eq_true, decide_eq_true_eq, h3 b hb2]
          constructor
          · rintro (h | h)
            · exact ⟨by omega, h.2⟩
            · subst h; exact ⟨by omega, hf⟩
          · rintro ⟨h, hf'⟩
            by_cases e2 : b = j
            · exact .inr e2
            · exact .inl ⟨by omega, hf'⟩
        · rw [if_neg e1]
          obtain ⟨g1, g2, g3⟩ := hI'.2 a ha
          exact ⟨g1, g2, fun b hb2 => (g3 b hb2).trans ⟨fun h => ⟨by omega, h.2⟩, fun h => ⟨by omega, h.2⟩⟩⟩
      · refine hK' s ⟨hI'.1, same (fun hf => ?_)⟩
        have hne : i ≠ j := fun e1 => by subst e1; exact fol_irrefl V he hf
        have hy := hy (by simp; omega)
        subst hy
        simp only [Bool.and_eq_false_iff, Bool.not_eq_false', decide_eq_false_iff_not, decide_eq_true_eq] at hb
        have := hf.2.2
        rcases hb with hb | hb <;> omega
    · obtain ⟨h1, h2, h3⟩ := hs.2 a ha
      exact ⟨h1, h2, fun b hb => (h3 b hb).trans ⟨fun h => ⟨by omega, h.2⟩, fun h => ⟨by omega, h.2⟩⟩⟩
  · obtain ⟨h1, h2, h3⟩ := hs.2 a ha
    exact ⟨h1, h2, fun b hb => (h3 b hb).trans ⟨fun h => h.2, fun h => ⟨ha, h⟩⟩⟩
theorem bit_test {x : Int} {j : Nat} (h : 0 ≤ x) : ((((Int.fdiv x (2 ^ j)).toNat &&& ((1 : Int)).toNat : Nat) : Int)) = if x.toNat.testBit j then 1 else 0 := by
  rw [fdiv_bit h, Int.toNat_natCast]
  have : ((1 : Int)).toNat = 1 := rfl
  rw [this, bit_one]
  split <;> rfl
theorem bit_dec {x : Int} {j : Nat} (h : 0 ≤ x) : decide ((((Int.fdiv x (2 ^ j)).toNat &&& ((1 : Int)).toNat : Nat) : Int) = 1) = x.toNat.testBit j := by
  rw [bit_test h]
  cases x.toNat.testBit j <;> rfl
theorem bit_dec0 {x : Int} {j : Nat} (h : 0 ≤ x) : decide ((((Int.fdiv x (2 ^ j)).toNat &&& ((1 : Int)).toNat : Nat) : Int) = 0) = !x.toNat.testBit j := by
  rw [bit_test h]
  cases x.toNat.testBit j <;> rfl
theorem bit_rng {x : Int} {j n : Nat} (h : 0 ≤ x) (hx : x.toNat < 2 ^ n) (hn : n ≤ 24) : 0 ≤ Int.fdiv x (2 ^ j) ∧ 0 ≤ (1 : Int) ∧ inI (Int.fdiv x (2 ^ j)) ∧ inI 1 := by
  have h1 := fdiv_bit (j := j) h
  have h2 : x.toNat >>> j ≤ x.toNat := by rw [Nat.shiftRight_eq_div_pow]; exact Nat.div_le_self _ _
  have h3 := pow24 hn
  rw [h1]
  generalize x.toNat >>> j = q at h2
  refine ⟨by omega, by omega, by unfold inI; omega, by unfold inI; omega⟩
end Go.Sp
