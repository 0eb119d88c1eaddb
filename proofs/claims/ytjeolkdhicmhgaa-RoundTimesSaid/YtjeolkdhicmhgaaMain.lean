/- 'RoundTimes' returns true for every chart, way and trip, and leaves its arguments as they were. No condition. -/
import Derived.Test.YtjeolkdhicmhgaaRTBr
import Derived.Test.YtjeolkdhicmhgaaRPlA
import Derived.Test.YtjeolkdhicmhgaaRPlB
import Derived.Test.YtjeolkdhicmhgaaRPlC
import Derived.Test.YtjeolkdhicmhgaaRPlD
import Derived.Test.YtjeolkdhicmhgaaRPlE
namespace Go.Proofs.Ytjeolkdhicmhgaa
theorem roundTimes_holds : Rows.RoundTimesSaid := Go.Sp.roundTimes_of fun c w t _ _ _ => ⟨20000, Go.Sp.roundTimes_true c w t⟩
end Go.Proofs.Ytjeolkdhicmhgaa
