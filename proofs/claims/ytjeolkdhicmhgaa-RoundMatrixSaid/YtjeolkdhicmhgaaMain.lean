/- 'RoundMatrix' returns true for all numbers of a chart and a round, and every minute, and leaves its arguments as they were. No condition. -/
import Derived.Test.YtjeolkdhicmhgaaRTBr
import Derived.Test.YtjeolkdhicmhgaaRPlA
import Derived.Test.YtjeolkdhicmhgaaRPlB
import Derived.Test.YtjeolkdhicmhgaaRPlC
import Derived.Test.YtjeolkdhicmhgaaRPlD
import Derived.Test.YtjeolkdhicmhgaaRPlE
import Derived.Test.YtjeolkdhicmhgaaRPlF
import Derived.Test.YtjeolkdhicmhgaaRPlG
import Derived.Test.YtjeolkdhicmhgaaRPlH
import Derived.Test.YtjeolkdhicmhgaaRWp
import Derived.Test.YtjeolkdhicmhgaaRWq
import Derived.Test.YtjeolkdhicmhgaaRPlI
import Derived.Test.YtjeolkdhicmhgaaRPlJ
import Derived.Test.YtjeolkdhicmhgaaRPlK
import Derived.Test.YtjeolkdhicmhgaaRPlL
import Derived.Test.YtjeolkdhicmhgaaRPlM
import Derived.Test.YtjeolkdhicmhgaaRPlN
import Derived.Test.YtjeolkdhicmhgaaRPlO
import Derived.Test.YtjeolkdhicmhgaaRPlP
import Derived.Test.YtjeolkdhicmhgaaRPlQ
namespace Go.Proofs.Ytjeolkdhicmhgaa
theorem roundMatrix_holds : Rows.RoundMatrixSaid := Go.Sp.roundMatrix_of fun x t _ _ => ⟨20000, Go.Sp.roundMatrix_true x t⟩
end Go.Proofs.Ytjeolkdhicmhgaa
