/- 'FogStill' returns true under the condition that the statement names. -/
import Derived.Test.YtoekhnngdocddaaGreatFGBr
import Derived.Test.YtoekhnngdocddaaGreatPr1
namespace Go.Proofs.YtoekhnngdocddaaGreat
theorem fogStill_holds : Rows.FogStillSaid := Go.Sp.fogStill_of fun l q n hl hq _ => ⟨20000 + l.length, Go.Sp.fogStill_true l q n hl.1 (by have := hq.1; omega) (by omega) (by omega)⟩
end Go.Proofs.YtoekhnngdocddaaGreat
