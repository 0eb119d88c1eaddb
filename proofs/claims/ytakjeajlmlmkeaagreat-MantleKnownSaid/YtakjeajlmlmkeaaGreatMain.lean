/- 'MantleKnown' returns true for all numbers, and leaves its arguments as they were. No condition. -/
import Derived.Test.YtakjeajlmlmkeaaGreatMTBr
import Derived.Test.YtakjeajlmlmkeaaGreatPr1
namespace Go.Proofs.YtakjeajlmlmkeaaGreat
theorem mantleKnown_holds:Rows.MantleKnownSaid:=Go.Sp.zjn fun r n _ hn=>⟨1000,Go.Sp.zih r n hn.2.2⟩
end Go.Proofs.YtakjeajlmlmkeaaGreat
