/- Plain laws, crew: the cut that is returned; CrewFewest. No program in sight. -/
import Derived.Test.YtnaodipmfaglfaaCPlG
import Derived.KernelRfl
set_option linter.all false
namespace Go.Sp
open Go.Av
set_option maxRecDepth 100000
section
variable {n : Nat} {adj : Nat → Nat → Prop} {p : crew_plan}
end
section
variable {c : Crew}
theorem sane4 : gasolierlaw04_sane 20000 = some true := by kernel_rfl
end
end Go.Sp
