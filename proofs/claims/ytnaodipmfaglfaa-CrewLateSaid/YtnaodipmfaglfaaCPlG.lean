/- Plain laws, crew: the rounds and the cut that are returned; CrewFewest. No program in sight. -/
import Derived.Test.YtnaodipmfaglfaaCPlF
set_option linter.all false
namespace Go.Sp
open Go.Av
set_option maxRecDepth 100000
theorem room8 {n : Nat} (h : n ≤ 3000) : room n 8 := by unfold room; omega
section
variable {c : Crew}
end
end Go.Sp
