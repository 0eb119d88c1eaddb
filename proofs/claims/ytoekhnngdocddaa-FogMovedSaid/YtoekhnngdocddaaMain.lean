/- 'FogMoved' returns true under the condition that the statement names. -/
import Derived.Test.YtoekhnngdocddaaFGBr
import Derived.Test.YtoekhnngdocddaaPr1
namespace Go.Proofs.Ytoekhnngdocddaa
theorem fogMoved_holds : Rows.FogMovedSaid := Go.Sp.fogMoved_of fun l q n _ hq _ => ⟨20000, Go.Sp.fogMoved_true l q n (by have := hq.1; omega)⟩
end Go.Proofs.Ytoekhnngdocddaa
