/- 'FogPolicies' returns true for all policies, reports, nights and moments, and leaves its arguments as they were. No condition. -/
import Derived.Test.YtoekhnngdocddaaGreatFGBr
import Derived.Test.YtoekhnngdocddaaGreatPr1
namespace Go.Proofs.YtoekhnngdocddaaGreat
theorem fogPolicies_holds : Rows.FogPoliciesSaid := Go.Sp.fogPolicies_of fun p l a _ _ _ => ⟨20000, Go.Sp.fogPolicies_true p l a⟩
end Go.Proofs.YtoekhnngdocddaaGreat
