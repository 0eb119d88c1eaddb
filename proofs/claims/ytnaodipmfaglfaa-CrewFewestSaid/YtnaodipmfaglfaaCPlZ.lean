/- Plain laws, crew: what is known of the arguments. No program in sight. -/
import Derived.Test.YtnaodipmfaglfaaCPlE
import Derived.WalkKit
set_option linter.all false
namespace Go.Sp
open Go.Av
theorem fit_of {l : List (List Int)} (h : l.length ≤ maxLen ∧ ∀ x ∈ l, x.length ≤ maxLen ∧ ∀ y ∈ x, inI y) : Fit l :=
  ⟨by have := h.1; unfold maxLen at this; omega, fun k hk => by have := (h.2 _ (getD_mem hk)).1; unfold maxLen at this; exact Nat.le_trans this (by omega)⟩
theorem len_of {T : Type} {l : List T} {p : T → Prop} (h : l.length ≤ maxLen ∧ ∀ x ∈ l, p x) : l.length ≤ 9223372036854775807 := by
  have := h.1; unfold maxLen at this; omega
end Go.Sp
