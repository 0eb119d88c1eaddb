/- 'FogSights' returns true for all reports, districts, nights, times and limits, and leaves its arguments as they were. No condition. -/
import Derived.Test.YtoekhnngdocddaaGreatFGBr
import Derived.Test.YtoekhnngdocddaaGreatPr1
namespace Go.Proofs.YtoekhnngdocddaaGreat
theorem fogSights_holds : Rows.FogSightsSaid := Go.Sp.fogSights_of fun l a t _ _ _ => ⟨20000, Go.Sp.fogSights_true l a t⟩
end Go.Proofs.YtoekhnngdocddaaGreat
