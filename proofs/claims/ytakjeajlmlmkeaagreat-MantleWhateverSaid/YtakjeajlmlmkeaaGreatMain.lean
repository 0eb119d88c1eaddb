/- 'MantleWhatever' returns true for all numbers, and leaves its arguments as they were. No condition. -/
import Derived.Test.YtakjeajlmlmkeaaGreatMTBr
import Derived.Test.YtakjeajlmlmkeaaGreatPr1
namespace Go.Proofs.YtakjeajlmlmkeaaGreat
theorem mantleWhatever_holds:Rows.MantleWhateverSaid:=Go.Sp.zih fun r q n _ _ _=>⟨1000,Go.Sp.zhv r q n⟩
end Go.Proofs.YtakjeajlmlmkeaaGreat
