/- 'MantleAges' returns true for all wears, lamps and nights, and leaves its arguments as they were. No condition. -/
import Derived.Test.YtakjeajlmlmkeaaGreatMTBr
import Derived.Test.YtakjeajlmlmkeaaGreatPr1
namespace Go.Proofs.YtakjeajlmlmkeaaGreat
theorem mantleAges_holds:Rows.MantleAgesSaid:=Go.Sp.zkj fun _ n hw _=>⟨1000,Go.Sp.zjt (Go.Sp.zqm hw) n⟩
end Go.Proofs.YtakjeajlmlmkeaaGreat
