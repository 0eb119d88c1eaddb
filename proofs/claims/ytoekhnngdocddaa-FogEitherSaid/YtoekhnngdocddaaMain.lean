/- 'FogEither' returns true under the condition that the statement names. -/
import Derived.Test.YtoekhnngdocddaaFGBr
import Derived.Test.YtoekhnngdocddaaPr1
namespace Go.Proofs.Ytoekhnngdocddaa
theorem fogEither_holds : Rows.FogEitherSaid := Go.Sp.fogEither_of fun q who g hq _ _ => ⟨20000, Go.Sp.fogEither_true q who g (by have := hq.1; omega)⟩
end Go.Proofs.Ytoekhnngdocddaa
