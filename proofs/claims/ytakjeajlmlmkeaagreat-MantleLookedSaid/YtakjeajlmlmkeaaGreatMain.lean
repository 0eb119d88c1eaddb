/- 'MantleLooked' returns true for all numbers, and leaves its arguments as they were. No condition. -/
import Derived.Test.YtakjeajlmlmkeaaGreatMTBr
import Derived.Test.YtakjeajlmlmkeaaGreatPr1
namespace Go.Proofs.YtakjeajlmlmkeaaGreat
theorem mantleLooked_holds:Rows.MantleLookedSaid:=Go.Sp.ziY fun r q n _ _ _=>⟨1000,Go.Sp.zh0 r q n⟩
end Go.Proofs.YtakjeajlmlmkeaaGreat
