/- 'FogKept' returns true under the condition that the statement names. -/
import Derived.Test.YtoekhnngdocddaaFGBr
import Derived.Test.YtoekhnngdocddaaPr1
namespace Go.Proofs.Ytoekhnngdocddaa
theorem fogKept_holds : Rows.FogKeptSaid := Go.Sp.fogKept_of fun l q who _ hq hw => ⟨20000, Go.Sp.fogKept_true l q who (by have := hq.1; omega) (by have := hw.1; omega)⟩
end Go.Proofs.Ytoekhnngdocddaa
