/- 'RoundMarks' returns true for every chart, trip and marks, and leaves its arguments as they were. No condition. -/
import Derived.Test.YtjeolkdhicmhgaaRTBr
import Derived.Test.YtjeolkdhicmhgaaRPlA
import Derived.Test.YtjeolkdhicmhgaaRPlB
import Derived.Test.YtjeolkdhicmhgaaRPlC
import Derived.Test.YtjeolkdhicmhgaaRPlD
import Derived.Test.YtjeolkdhicmhgaaRPlE
import Derived.Test.YtjeolkdhicmhgaaRPlF
import Derived.Test.YtjeolkdhicmhgaaRPlG
import Derived.Test.YtjeolkdhicmhgaaRPlH
import Derived.Test.YtjeolkdhicmhgaaRPlI
import Derived.Test.YtjeolkdhicmhgaaRPlJ
import Derived.Test.YtjeolkdhicmhgaaRWp
import Derived.Test.YtjeolkdhicmhgaaRPlK
import Derived.Test.YtjeolkdhicmhgaaRPlL
namespace Go.Proofs.Ytjeolkdhicmhgaa
theorem roundMarks_holds : Rows.RoundMarksSaid := Go.Sp.roundMarks_of fun c t L _ _ _ => ⟨20000, Go.Sp.roundMarks_true c t L⟩
end Go.Proofs.Ytjeolkdhicmhgaa
