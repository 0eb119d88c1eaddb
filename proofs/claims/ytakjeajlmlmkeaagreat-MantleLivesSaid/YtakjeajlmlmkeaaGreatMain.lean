/- 'MantleLives' returns true for all wears, batches, nights and sources, and leaves its arguments as they were. No condition. -/
import Derived.Test.YtakjeajlmlmkeaaGreatMTBr
import Derived.Test.YtakjeajlmlmkeaaGreatPr1
namespace Go.Proofs.YtakjeajlmlmkeaaGreat
theorem mantleLives_holds:Rows.MantleLivesSaid:=Go.Sp.zjT fun _ n _ hw _ hq=>⟨1000,Go.Sp.ziL (Go.Sp.zqG hw) n (Go.Sp.zqD hq)⟩
end Go.Proofs.YtakjeajlmlmkeaaGreat
