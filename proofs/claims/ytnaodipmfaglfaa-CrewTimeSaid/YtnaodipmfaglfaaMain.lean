/- 'CrewTime' returns true for every crew, and all numbers, and leaves its arguments as they were. No condition. -/
import Derived.Test.YtnaodipmfaglfaaCTBr
import Derived.Test.YtnaodipmfaglfaaPr1
namespace Go.Proofs.Ytnaodipmfaglfaa
theorem crewTime_holds : Rows.CrewTimeSaid := Go.Sp.crewTime_of fun c n _ hn => ⟨20000, Go.Sp.crewTime_true c n hn.1⟩
end Go.Proofs.Ytnaodipmfaglfaa
