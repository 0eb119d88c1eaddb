/- 'RoundPaths' returns true for every chart and going, and leaves its arguments as they were. No condition. -/
import Derived.Test.YtjeolkdhicmhgaaRTBr
import Derived.Test.YtjeolkdhicmhgaaRPlA
import Derived.Test.YtjeolkdhicmhgaaRPlB
import Derived.Test.YtjeolkdhicmhgaaRPlC
import Derived.Test.YtjeolkdhicmhgaaRPlD
import Derived.Test.YtjeolkdhicmhgaaRPlE
import Derived.Test.YtjeolkdhicmhgaaRWp
import Derived.Test.YtjeolkdhicmhgaaRWq
import Derived.Test.YtjeolkdhicmhgaaRPlM
import Derived.Test.YtjeolkdhicmhgaaRPlN
namespace Go.Proofs.Ytjeolkdhicmhgaa
theorem roundPaths_holds : Rows.RoundPathsSaid := Go.Sp.roundPaths_of fun c x _ hx => ⟨20000, Go.Sp.roundPaths_true c x hx.2.1.1⟩
end Go.Proofs.Ytjeolkdhicmhgaa
