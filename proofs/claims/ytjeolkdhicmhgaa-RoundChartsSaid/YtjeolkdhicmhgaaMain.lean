/- 'RoundCharts' returns true for every chart and every ask, and leaves both as they were. No condition. -/
import Derived.Test.YtjeolkdhicmhgaaRTBr
import Derived.Test.YtjeolkdhicmhgaaRPlA
namespace Go.Proofs.Ytjeolkdhicmhgaa
theorem roundCharts_holds : Rows.RoundChartsSaid := Go.Sp.roundCharts_of fun c x _ _ => ⟨20000, Go.Sp.roundCharts_true c x⟩
end Go.Proofs.Ytjeolkdhicmhgaa
