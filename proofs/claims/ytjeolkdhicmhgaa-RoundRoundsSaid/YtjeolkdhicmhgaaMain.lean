/- 'RoundRounds' returns true for every chart and round, and leaves its arguments as they were. No condition. -/
import Derived.Test.YtjeolkdhicmhgaaRTBr
import Derived.Test.YtjeolkdhicmhgaaRPlA
import Derived.Test.YtjeolkdhicmhgaaRPlB
import Derived.Test.YtjeolkdhicmhgaaRPlC
import Derived.Test.YtjeolkdhicmhgaaRPlD
import Derived.Test.YtjeolkdhicmhgaaRPlE
import Derived.Test.YtjeolkdhicmhgaaRPlF
import Derived.Test.YtjeolkdhicmhgaaRPlG
namespace Go.Proofs.Ytjeolkdhicmhgaa
theorem roundRounds_holds : Rows.RoundRoundsSaid := Go.Sp.roundRounds_of fun c r _ _ => ⟨20000, Go.Sp.roundRounds_true c r⟩
end Go.Proofs.Ytjeolkdhicmhgaa
