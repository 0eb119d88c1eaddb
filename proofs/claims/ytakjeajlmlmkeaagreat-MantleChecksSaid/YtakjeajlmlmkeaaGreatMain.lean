/- 'MantleChecks' returns true for all wears and items, and leaves its arguments as they were. No condition. -/
import Derived.Test.YtakjeajlmlmkeaaGreatMTBr
import Derived.Test.YtakjeajlmlmkeaaGreatPr1
namespace Go.Proofs.YtakjeajlmlmkeaaGreat
theorem mantleChecks_holds:Rows.MantleChecksSaid:=Go.Sp.zhN fun _ x hw _=>⟨1000,Go.Sp.zgX (Go.Sp.znQ hw) x⟩
end Go.Proofs.YtakjeajlmlmkeaaGreat
