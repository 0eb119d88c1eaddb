/- 'RoundWalks' returns true for every chart, minutes and round, and leaves its arguments as they were. No condition. -/
import Derived.Test.YtjeolkdhicmhgaaRTBr
import Derived.Test.YtjeolkdhicmhgaaRPlA
import Derived.Test.YtjeolkdhicmhgaaRPlB
import Derived.Test.YtjeolkdhicmhgaaRPlC
import Derived.Test.YtjeolkdhicmhgaaRPlD
import Derived.Test.YtjeolkdhicmhgaaRPlE
import Derived.Test.YtjeolkdhicmhgaaRPlF
import Derived.Test.YtjeolkdhicmhgaaRPlG
namespace Go.Proofs.Ytjeolkdhicmhgaa
theorem roundWalks_holds : Rows.RoundWalksSaid := Go.Sp.roundWalks_of fun c T r _ _ _ => ⟨20000, Go.Sp.roundWalks_true c T r⟩
end Go.Proofs.Ytjeolkdhicmhgaa
