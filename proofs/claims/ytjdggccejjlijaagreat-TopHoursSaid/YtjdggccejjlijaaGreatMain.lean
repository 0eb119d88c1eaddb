/- 'TopHours' returns true for every winter, and leaves its argument as it was. No condition. -/
import Derived.Test.YtjdggccejjlijaaGreatTHBr
import Derived.Test.YtjdggccejjlijaaGreatPr1
import Derived.Test.YtjdggccejjlijaaGreatPr2
namespace Go.Proofs.YtjdggccejjlijaaGreat
theorem topHours_holds:Rows.TopHoursSaid:=Go.Sp.znm fun x hx=>⟨1000,Go.Sp.zlp x (by have:=hx.2.1.1;omega) (by have:=hx.2.2.2.1.1;omega) (by have:=hx.2.2.1.1;omega) (by have:=hx.1.1;omega) (by have:=hx.2.2.2.2.1.1;omega)⟩
end Go.Proofs.YtjdggccejjlijaaGreat
