/- 'MantleMoves' returns true for all wears, sources and nights, and leaves its arguments as they were. No condition. -/
import Derived.Test.YtakjeajlmlmkeaaGreatMTBr
import Derived.Test.YtakjeajlmlmkeaaGreatPr1
namespace Go.Proofs.YtakjeajlmlmkeaaGreat
theorem mantleMoves_holds:Rows.MantleMovesSaid:=Go.Sp.zjV fun _ s n hw _ _=>⟨1000,Go.Sp.ziS (Go.Sp.zqL hw) s n⟩
end Go.Proofs.YtakjeajlmlmkeaaGreat
