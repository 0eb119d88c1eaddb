/- 'FogShown' returns true under the condition that the statement names. -/
import Derived.Test.YtoekhnngdocddaaFGBr
import Derived.Test.YtoekhnngdocddaaPr1
namespace Go.Proofs.Ytoekhnngdocddaa
theorem fogShown_holds : Rows.FogShownSaid := Go.Sp.fogShown_of fun p l n _ hl _ => ⟨20000, Go.Sp.fogShown_true p l n (by have := hl.1; omega)⟩
end Go.Proofs.Ytoekhnngdocddaa
