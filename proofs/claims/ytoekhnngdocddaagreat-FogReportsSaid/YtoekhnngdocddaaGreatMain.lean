/- 'FogReports' returns true for all reports, lists and moments, and leaves its arguments as they were. No condition. -/
import Derived.Test.YtoekhnngdocddaaGreatFGBr
import Derived.Test.YtoekhnngdocddaaGreatPr1
namespace Go.Proofs.YtoekhnngdocddaaGreat
theorem fogReports_holds : Rows.FogReportsSaid := Go.Sp.fogReports_of fun l x m _ _ _ => ⟨20000, Go.Sp.fogReports_true l x m⟩
end Go.Proofs.YtoekhnngdocddaaGreat
