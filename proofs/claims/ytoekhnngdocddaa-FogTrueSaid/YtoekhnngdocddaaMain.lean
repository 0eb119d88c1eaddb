/- 'FogTrue' returns true under the condition that the statement names. -/
import Derived.Test.YtoekhnngdocddaaFGBr
import Derived.Test.YtoekhnngdocddaaPr1
namespace Go.Proofs.Ytoekhnngdocddaa
theorem fogTrue_holds : Rows.FogTrueSaid := Go.Sp.fogTrue_of fun p l n hp hl _ => ⟨20000 + p.length, Go.Sp.fogTrue_true p l n hp.1 (by have := hl.1; omega) (by omega) (by omega)⟩
end Go.Proofs.Ytoekhnngdocddaa
