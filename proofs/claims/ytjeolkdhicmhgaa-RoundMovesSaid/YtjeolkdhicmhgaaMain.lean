/- 'RoundMoves' returns true for every chart, way and rounds, and leaves its arguments as they were. No condition. -/
import Derived.Test.YtjeolkdhicmhgaaRTBr
import Derived.Test.YtjeolkdhicmhgaaRPlA
import Derived.Test.YtjeolkdhicmhgaaRPlB
import Derived.Test.YtjeolkdhicmhgaaRPlC
import Derived.Test.YtjeolkdhicmhgaaRPlD
import Derived.Test.YtjeolkdhicmhgaaRPlE
import Derived.Test.YtjeolkdhicmhgaaRPlF
import Derived.Test.YtjeolkdhicmhgaaRPlG
namespace Go.Proofs.Ytjeolkdhicmhgaa
theorem roundMoves_holds : Rows.RoundMovesSaid := Go.Sp.roundMoves_of fun c i l _ _ _ => ⟨20000, Go.Sp.roundMoves_true c i l⟩
end Go.Proofs.Ytjeolkdhicmhgaa
