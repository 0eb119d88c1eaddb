/- 'FogJoins' returns true for all numbers that describe reports and an order, and leaves its arguments as they were. No condition. -/
import Derived.Test.YtoekhnngdocddaaGreatFGBr
import Derived.Test.YtoekhnngdocddaaGreatPr1
namespace Go.Proofs.YtoekhnngdocddaaGreat
theorem fogJoins_holds : Rows.FogJoinsSaid := Go.Sp.fogJoins_of fun p l n hp hl _ => ⟨20000, Go.Sp.fogJoins_true p l n (by have := hl.1; omega)⟩
end Go.Proofs.YtoekhnngdocddaaGreat
