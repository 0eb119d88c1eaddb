/- 'RoundSure' returns true for whatever numbers, and leaves its arguments as they were. No condition. -/
import Derived.Test.YtjeolkdhicmhgaaRTBr
import Derived.Test.YtjeolkdhicmhgaaRPlA
import Derived.Test.YtjeolkdhicmhgaaRPlB
import Derived.Test.YtjeolkdhicmhgaaRPlC
import Derived.Test.YtjeolkdhicmhgaaRPlD
import Derived.Test.YtjeolkdhicmhgaaRPlE
import Derived.Test.YtjeolkdhicmhgaaRPlF
import Derived.Test.YtjeolkdhicmhgaaRPlG
import Derived.Test.YtjeolkdhicmhgaaRPlH
namespace Go.Proofs.Ytjeolkdhicmhgaa
theorem roundSure_holds : Rows.RoundSureSaid := Go.Sp.roundSure_of fun x l _ _ => ⟨20000, Go.Sp.roundSure_true x l⟩
end Go.Proofs.Ytjeolkdhicmhgaa
