/- 'RoundTrue' returns true for whatever numbers, and leaves its arguments as they were. No condition. -/
import Derived.Test.YtjeolkdhicmhgaaRTBr
import Derived.Test.YtjeolkdhicmhgaaRPlA
import Derived.Test.YtjeolkdhicmhgaaRPlB
import Derived.Test.YtjeolkdhicmhgaaRPlC
import Derived.Test.YtjeolkdhicmhgaaRPlD
import Derived.Test.YtjeolkdhicmhgaaRPlE
import Derived.Test.YtjeolkdhicmhgaaRPlF
import Derived.Test.YtjeolkdhicmhgaaRPlG
import Derived.Test.YtjeolkdhicmhgaaRPlH
import Derived.Test.YtjeolkdhicmhgaaRPlI
namespace Go.Proofs.Ytjeolkdhicmhgaa
theorem roundTrue_holds : Rows.RoundTrueSaid := Go.Sp.roundTrue_of fun x l _ _ => ⟨20000, Go.Sp.roundTrue_true x l⟩
end Go.Proofs.Ytjeolkdhicmhgaa
