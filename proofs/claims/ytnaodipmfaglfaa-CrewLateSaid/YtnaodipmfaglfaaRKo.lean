/- Chains and cuts: as many in the greatest cut as are nobody's. No program in sight. -/
import Derived.Test.YtnaodipmfaglfaaRKn
set_option linter.all false
namespace Go.Sp
structure IsCut (adj : Nat → Nat → Prop) (n : Nat) (S : List Nat) : Prop where
  nd : S.Nodup
  lt : ∀ x ∈ S, x < n
  apart : ∀ x ∈ S, ∀ y ∈ S, ¬ adj x y
structure Ord (adj : Nat → Nat → Prop) (n : Nat) (rank : Nat → Int) : Prop where
  lt : ∀ x y, adj x y → x < n ∧ y < n
  up : ∀ x y, adj x y → rank x < rank y
  trans : ∀ x y z, adj x y → adj y z → adj x z
inductive Ch (back : Nat → Int) : Nat → Nat → Prop
  | refl (x : Nat) : Ch back x x
  | step {x y z : Nat} : back x = (y : Int) → Ch back y z → Ch back x z
section
variable {adj : Nat → Nat → Prop} {n : Nat} {rank : Nat → Int} {s : Ks}
theorem Mat.edge {m : Nat} (M : Mat adj m s) {x y : Nat} (h : s.back x = (y : Int)) : y < m ∧ s.own y = (x : Int) ∧ adj x y := by
  obtain ⟨k, h1, h2, h3, h4⟩ := M.back x (by omega)
  have : k = y := by omega
  subst this; exact ⟨h2, h3, h4⟩
theorem Ch.edge (M : Mat adj n s) (O : Ord adj n rank) {x y : Nat} (h : Ch s.back x y) : x = y ∨ adj x y := by
  induction h with
  | refl x => exact .inl rfl
  | step h1 _ ih =>
    right
    have h3 := (M.edge h1).2.2
    rcases ih with rfl | h4
    · exact h3
    · exact O.trans _ _ _ h3 h4
def loose (n : Nat) (back : Nat → Int) : List Nat := (List.range n).filter (fun x => decide (back x < 0))
end
end Go.Sp
