/- 'RoundShown' returns true for all numbers of a chart and a round, ways and minutes, and leaves its arguments as they were. No condition. -/
import Derived.Test.YtjeolkdhicmhgaaRTBr
import Derived.Test.YtjeolkdhicmhgaaRPlA
import Derived.Test.YtjeolkdhicmhgaaRPlB
import Derived.Test.YtjeolkdhicmhgaaRPlC
import Derived.Test.YtjeolkdhicmhgaaRPlD
import Derived.Test.YtjeolkdhicmhgaaRPlE
import Derived.Test.YtjeolkdhicmhgaaRPlF
import Derived.Test.YtjeolkdhicmhgaaRPlG
import Derived.Test.YtjeolkdhicmhgaaRPlH
import Derived.Test.YtjeolkdhicmhgaaRPlI
import Derived.Test.YtjeolkdhicmhgaaRPlJ
import Derived.Test.YtjeolkdhicmhgaaRWp
import Derived.Test.YtjeolkdhicmhgaaRPlK
import Derived.Test.YtjeolkdhicmhgaaRPlL
import Derived.Test.YtjeolkdhicmhgaaRWq
import Derived.Test.YtjeolkdhicmhgaaRPlM
import Derived.Test.YtjeolkdhicmhgaaRPlN
import Derived.Test.YtjeolkdhicmhgaaRPlO
namespace Go.Proofs.Ytjeolkdhicmhgaa
theorem roundShown_holds : Rows.RoundShownSaid := Go.Sp.roundShown_of fun x w l _ _ _ => ⟨20000, Go.Sp.roundShown_true x w l⟩
end Go.Proofs.Ytjeolkdhicmhgaa
