/- Plain laws, crew: what is known of the arguments. No program in sight. -/
import Derived.Test.YtnaodipmfaglfaaCPlE
import Derived.WalkKit
set_option linter.all false
namespace Go.Sp
open Go.Av
theorem fit_of {l : List (List Int)} (h : l.length ≤ 140737488351232 ∧ ∀ x ∈ l, x.length ≤ 140737488351232 ∧ ∀ y ∈ x, inI y) : Fit l :=
  ⟨by have := h.1; omega, fun k hk => by have := (h.2 _ (getD_mem hk)).1; exact Nat.le_trans this (by omega)⟩
end Go.Sp
