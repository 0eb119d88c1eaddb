/- 'FogClashes' returns true for all reports, districts, nights and times, and leaves its arguments as they were. No condition. -/
import Derived.Test.YtoekhnngdocddaaFGBr
import Derived.Test.YtoekhnngdocddaaPr1
namespace Go.Proofs.Ytoekhnngdocddaa
theorem fogClashes_holds : Rows.FogClashesSaid := Go.Sp.fogClashes_of fun l a b _ _ _ => ⟨20000, Go.Sp.fogClashes_true l a b⟩
end Go.Proofs.Ytoekhnngdocddaa
