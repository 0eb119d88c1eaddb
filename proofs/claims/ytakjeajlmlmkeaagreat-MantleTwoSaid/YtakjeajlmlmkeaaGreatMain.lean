/- 'MantleTwo' returns true for all numbers, and leaves its arguments as they were. No condition. -/
import Derived.Test.YtakjeajlmlmkeaaGreatMTBr
import Derived.Test.YtakjeajlmlmkeaaGreatPr1
namespace Go.Proofs.YtakjeajlmlmkeaaGreat
theorem mantleTwo_holds:Rows.MantleTwoSaid:=Go.Sp.zkx fun r n b _ _ _=>⟨1000,Go.Sp.zi6 r n b⟩
end Go.Proofs.YtakjeajlmlmkeaaGreat
