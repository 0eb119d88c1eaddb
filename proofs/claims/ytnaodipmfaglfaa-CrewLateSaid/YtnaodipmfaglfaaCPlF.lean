/- Plain laws, crew: cuts; the rounds and the cut that are returned. No program in sight. -/
import Derived.Test.YtnaodipmfaglfaaCPlE
set_option linter.all false
namespace Go.Sp
open Go.Av
set_option maxRecDepth 100000
structure CutL (adj : Nat → Nat → Prop) (n : Nat) (S : List Int) : Prop where
  rng : ∀ k, k < S.length → 0 ≤ S.getD k default ∧ S.getD k default < n
  asc : ∀ k, 0 < k → k < S.length → S.getD (k - 1) default < S.getD k default
  apart : ∀ m k, m < k → k < S.length → ¬ adj (S.getD k default).toNat (S.getD m default).toNat ∧ ¬ adj (S.getD m default).toNat (S.getD k default).toNat
section
variable {n : Nat} {adj : Nat → Nat → Prop} {rank : Nat → Int}
theorem cutL_asc {S : List Int} (C : CutL adj n S) : ∀ (b a : Nat), a < b → b < S.length → S.getD a default < S.getD b default
  | 0, a, h, _ => by omega
  | b + 1, a, h, hb => by
    have h1 := C.asc (b + 1) (by omega) hb
    rw [show b + 1 - 1 = b by omega] at h1
    by_cases e : a = b
    · subst e; exact h1
    · have := cutL_asc C b a (by omega) (by omega); omega
theorem CutL.cut (O : Ord adj n rank) {S : List Int} (C : CutL adj n S) : IsCut adj n (S.map Int.toNat) := by
  refine ⟨?_, fun x hx => ?_, fun x hx y hy hadj => ?_⟩
  · show List.Pairwise (· ≠ ·) _
    rw [List.pairwise_map, List.pairwise_iff_getElem]
    intro i j hi hj hij e
    have h := cutL_asc C j i hij hj
    have h1 := C.rng i hi
    have h2 := C.rng j hj
    rw [List.getD_eq_getElem?_getD, List.getElem?_eq_getElem hi] at h h1
    rw [List.getD_eq_getElem?_getD, List.getElem?_eq_getElem hj] at h h2
    simp only [Option.getD_some] at h h1 h2
    omega
  · obtain ⟨z, hz, rfl⟩ := List.mem_map.1 hx
    obtain ⟨i, hi, rfl⟩ := mem_getD hz
    have := C.rng i hi; omega
  · obtain ⟨z, hz, rfl⟩ := List.mem_map.1 hx
    obtain ⟨i, hi, rfl⟩ := mem_getD hz
    obtain ⟨w, hw, rfl⟩ := List.mem_map.1 hy
    obtain ⟨j, hj, rfl⟩ := mem_getD hw
    rcases Nat.lt_trichotomy i j with h | h | h
    · exact (C.apart i j h hj).2 hadj
    · subst h; have := O.up _ _ hadj; omega
    · exact (C.apart j i h hi).1 hadj
variable {s : Ks}
end
end Go.Sp
