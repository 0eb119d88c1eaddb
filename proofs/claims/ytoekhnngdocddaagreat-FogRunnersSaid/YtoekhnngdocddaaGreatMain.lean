/- 'FogRunners' returns true for all policies, runners, leaves and lists, and leaves its arguments as they were. No condition. -/
import Derived.Test.YtoekhnngdocddaaGreatFGBr
import Derived.Test.YtoekhnngdocddaaGreatPr1
namespace Go.Proofs.YtoekhnngdocddaaGreat
theorem fogRunners_holds : Rows.FogRunnersSaid := Go.Sp.fogRunners_of fun p r g _ _ _ => ⟨20000, Go.Sp.fogRunners_true p r g⟩
end Go.Proofs.YtoekhnngdocddaaGreat
