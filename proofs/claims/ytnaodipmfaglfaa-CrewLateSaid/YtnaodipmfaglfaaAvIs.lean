/- Sorted, by putting in one after another: what the library's sort of integers yields. No program, no abstract value. -/
import Derived.Test.YtnaodipmfaglfaaAvX
set_option linter.all false
namespace Go.Sp
open Go.Av
def putIn (x : Int) : List Int → List Int
  | [] => [x]
  | y :: l => bif decide (x ≤ y) then x :: y :: l else y :: putIn x l
def isort : List Int → List Int
  | [] => []
  | x :: l => putIn x (isort l)
theorem putIn_perm (x : Int) : ∀ l, (putIn x l).Perm (x :: l)
  | [] => .refl _
  | y :: l => by
    unfold putIn
    cases decide (x ≤ y)
    · exact ((putIn_perm x l).cons y).trans (.swap x y l)
    · exact .refl _
theorem isort_perm : ∀ l, (isort l).Perm l
  | [] => .refl _
  | x :: l => (putIn_perm x (isort l)).trans ((isort_perm l).cons x)
theorem putIn_sorted (x : Int) : ∀ l : List Int, l.Pairwise (· ≤ ·) → (putIn x l).Pairwise (· ≤ ·)
  | [], _ => List.pairwise_singleton _ _
  | y :: l, h => by
    unfold putIn
    rw [List.pairwise_cons] at h
    by_cases e : x ≤ y
    · rw [decide_eq_true e]
      refine List.pairwise_cons.2 ⟨fun z hz => ?_, List.pairwise_cons.2 h⟩
      rcases List.mem_cons.1 hz with rfl | hz
      · exact e
      · exact Int.le_trans e (h.1 z hz)
    · rw [decide_eq_false e]
      refine List.pairwise_cons.2 ⟨fun z hz => ?_, putIn_sorted x l h.2⟩
      rcases List.mem_cons.1 ((putIn_perm x l).mem_iff.1 hz) with rfl | hz
      · omega
      · exact h.1 z hz
theorem isort_sorted : ∀ l, (isort l).Pairwise (· ≤ ·)
  | [] => .nil
  | x :: l => putIn_sorted x _ (isort_sorted l)
theorem isort_length (l : List Int) : (isort l).length = l.length := (isort_perm l).length_eq
theorem sorted_unique : ∀ {l m : List Int}, l.Perm m → l.Pairwise (· ≤ ·) → m.Pairwise (· ≤ ·) → l = m := by
  intro l m h
  exact fun h1 h2 => h.eq_of_pairwise (fun a b _ _ h3 h4 => Int.le_antisymm h3 h4) h1 h2
theorem merge_isort (l : List Int) : l.mergeSort (fun x y => decide (x ≤ y)) = isort l := by
  refine sorted_unique ((List.mergeSort_perm l _).trans (isort_perm l).symm) ?_ (isort_sorted l)
  have := List.pairwise_mergeSort (le := fun x y : Int => decide (x ≤ y)) (fun a b c h1 h2 => by simp at *; omega) (fun a b => by simp; omega) l
  exact this.imp (fun h => by simpa using h)
def slices_Sort_int_l (p0 : List Int) : Option (List Int) := must (p0.length < 4611686018427387904) <| some (isort p0)
end Go.Sp
