/- 'MantleSettled' returns true for all numbers, and leaves its arguments as they were. No condition. -/
import Derived.Test.YtakjeajlmlmkeaaGreatMTBr
import Derived.Test.YtakjeajlmlmkeaaGreatPr1
import Derived.Test.YtakjeajlmlmkeaaGreatPr2
namespace Go.Proofs.YtakjeajlmlmkeaaGreat
theorem mantleSettled_holds:Rows.MantleSettledSaid:=Go.Sp.ziC fun r q n _ _ _=>⟨1000,Go.Sp.zhX r q n⟩
end Go.Proofs.YtakjeajlmlmkeaaGreat
