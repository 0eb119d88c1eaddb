/- 'TopLit' returns true for every town: the chart, the law, the planned tasks and hands, and what the crew does of them are in order. -/
import Derived.Test.YtilbmfgiigbeiaaGreatTLBr
import Derived.Test.YtilbmfgiigbeiaaGreatPr1
import Derived.Test.YtilbmfgiigbeiaaGreatPr2
namespace Go.Proofs.YtilbmfgiigbeiaaGreat
theorem topLit_holds:Rows.TopLitSaid:=Go.Sp.zmO fun x hx=>⟨20000,Go.Sp.zkG x (by have:=hx.1.1;omega) (by have:=hx.2.1.1;omega) (by have:=hx.2.2.2.2.1;omega)⟩
end Go.Proofs.YtilbmfgiigbeiaaGreat
