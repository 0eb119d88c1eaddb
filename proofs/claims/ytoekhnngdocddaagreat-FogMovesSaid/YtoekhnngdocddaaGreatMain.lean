/- 'FogMoves' returns true for all policies, runners, reports, sources, nights and moments, and leaves its arguments as they were. No condition. -/
import Derived.Test.YtoekhnngdocddaaGreatFGBr
import Derived.Test.YtoekhnngdocddaaGreatPr1
namespace Go.Proofs.YtoekhnngdocddaaGreat
theorem fogMoves_holds : Rows.FogMovesSaid := Go.Sp.fogMoves_of fun t l s _ _ _ => ⟨20000, Go.Sp.fogMoves_true t l s⟩
end Go.Proofs.YtoekhnngdocddaaGreat
