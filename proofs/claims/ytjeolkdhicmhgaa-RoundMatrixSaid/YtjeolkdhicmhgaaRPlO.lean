/- Plain laws: RoundShown. No program in sight. -/
import Derived.Test.YtjeolkdhicmhgaaRPlN
import Derived.Test.YtjeolkdhicmhgaaRPlL
set_option linter.all false
namespace Go.Sp
open Go.Av
set_option maxRecDepth 100000
theorem MkOk.le {c : Chart} (hv : valid c = true) {s a : Int} {L : List Int} (h : MkOk c s a L) {p b : Int} (H : Arr c (boT c true) s a p b) : 0 ≤ L.getD p.toNat default ∧ L.getD p.toNat default ≤ b := by
  induction H with
  | start => exact h.st
  | step p a i b H hi hf hb ih =>
    obtain ⟨x, k1, k2⟩ := fin_mono (fit_of (joins_of hv hi)) ih.2 hb
    subst hf
    have := h.cls i hi ih.1 x k1
    omega
theorem Mins.marks {c : Chart} (hv : valid c = true) {s a : Int} {L : List Int} (hs : 0 ≤ s ∧ s < c.Places) (ha : 0 ≤ a ∧ a ≤ 1439) (h : Mins c (boT c true) s a L) : MkOk c s a L := by
  have N := net_bo hv true
  have hl := h.len
  have hvv := valid_iff.1 hv
  have bd : ∀ p : Nat, p < c.Places.toNat → -1 ≤ L.getD p default ∧ L.getD p default ≤ 1439 := fun p hp => by
    obtain ⟨h1, h2⟩ := h.lst p hp
    refine ⟨h1, ?_⟩
    by_cases hn : L.getD p default < 0
    · omega
    · rw [mrk_pos (by omega)] at h2
      exact (h2.1.bounds N hs ha).2.2
  refine ⟨by omega, fun x hx => ?_, ?_, fun i hi h0 b hb => ?_⟩
  · obtain ⟨i, hi, rfl⟩ := List.getElem_of_mem hx
    have := bd i (by omega)
    rw [List.getD_eq_getElem?_getD, List.getElem?_eq_getElem hi] at this
    exact this
  · rw [Mins.start N hs ha h]; omega
  · have hj := joins_iff.1 (joins_of hv hi)
    obtain ⟨h1, h2⟩ := h.lst (way c i).From.toNat (by omega)
    rw [mrk_pos h0, show (((way c i).From.toNat : Nat) : Int) = (way c i).From by omega] at h2
    have A := Arr.step _ _ i b h2.1 hi rfl hb
    obtain ⟨g1, g2⟩ := h.lst (way c i).To.toNat (by omega)
    rw [show (((way c i).To.toNat : Nat) : Int) = (way c i).To by omega] at g2
    by_cases hn : L.getD (way c i).To.toNat default < 0
    · rw [mrk_neg hn] at g2; exact absurd A (g2 b)
    · rw [mrk_pos (by omega)] at g2
      exact ⟨by omega, g2.2 b A⟩
end Go.Sp
