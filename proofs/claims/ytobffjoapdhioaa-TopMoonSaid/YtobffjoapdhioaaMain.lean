/- 'TopMoon' returns true for every heaven: whatever the sheet was truly off by, what is told of the moon is as it truly was. -/
import Derived.Test.YtobffjoapdhioaaTMBr
import Derived.Test.YtobffjoapdhioaaPr1
namespace Go.Proofs.Ytobffjoapdhioaa
theorem topMoon_holds : Rows.TopMoonSaid := Go.Sp.topMoon_of fun x hx => ⟨30000000, Go.Sp.topMoon_true (by omega) x (by have := hx.1.1; omega) (by have := hx.2.2.1.1; omega) (by have := hx.2.2.2.1.1; omega)⟩
end Go.Proofs.Ytobffjoapdhioaa
