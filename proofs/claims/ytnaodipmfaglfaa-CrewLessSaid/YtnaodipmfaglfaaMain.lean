/- 'CrewLess' returns true for any crew and numbers, and leaves its arguments as they were. No condition. -/
import Derived.Test.YtnaodipmfaglfaaCTBr
import Derived.Test.YtnaodipmfaglfaaPr1
namespace Go.Proofs.Ytnaodipmfaglfaa
theorem crewLess_holds : Rows.CrewLessSaid := Go.Sp.crewLess_of fun c n _ _ => ⟨20000, Go.Sp.crewLess_true c n⟩
end Go.Proofs.Ytnaodipmfaglfaa
