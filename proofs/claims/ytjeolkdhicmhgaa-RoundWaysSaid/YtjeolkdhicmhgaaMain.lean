/- 'RoundWays' returns true for whatever numbers, and leaves its arguments as they were. No condition. -/
import Derived.Test.YtjeolkdhicmhgaaRTBr
import Derived.Test.YtjeolkdhicmhgaaRPlA
import Derived.Test.YtjeolkdhicmhgaaRPlB
import Derived.Test.YtjeolkdhicmhgaaRPlC
import Derived.Test.YtjeolkdhicmhgaaRPlD
import Derived.Test.YtjeolkdhicmhgaaRPlE
import Derived.Test.YtjeolkdhicmhgaaRPlF
import Derived.Test.YtjeolkdhicmhgaaRPlG
import Derived.Test.YtjeolkdhicmhgaaRPlH
import Derived.Test.YtjeolkdhicmhgaaRPlI
namespace Go.Proofs.Ytjeolkdhicmhgaa
theorem roundWays_holds : Rows.RoundWaysSaid := Go.Sp.roundWays_of fun x m _ _ => ⟨20000, Go.Sp.roundWays_true x m⟩
end Go.Proofs.Ytjeolkdhicmhgaa
