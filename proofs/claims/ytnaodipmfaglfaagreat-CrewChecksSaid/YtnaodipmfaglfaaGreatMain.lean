/- 'CrewChecks' returns true for any crew and ones, and leaves its arguments as they were. No condition. -/
import Derived.Test.YtnaodipmfaglfaaGreatCTBr
import Derived.Test.YtnaodipmfaglfaaGreatPr1
namespace Go.Proofs.YtnaodipmfaglfaaGreat
theorem crewChecks_holds : Rows.CrewChecksSaid := Go.Sp.crewChecks_of fun c x _ _ => ⟨20000, Go.Sp.crewChecks_true c x⟩
end Go.Proofs.YtnaodipmfaglfaaGreat
