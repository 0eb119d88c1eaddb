/- 'TopFog' returns true for whatever numbers describe of a night's fog, and leaves its arguments as they were. No condition. -/
import Derived.Test.YtjndodbdfmfjhaaFGBr
import Derived.Test.YtjndodbdfmfjhaaPr1
namespace Go.Proofs.Ytjndodbdfmfjhaa
theorem topFog_holds : Rows.TopFogSaid := Go.Sp.topFog_of fun x hx => ⟨20000, Go.Sp.topFog_true x (Nat.le_trans hx.1.1 (by decide))⟩
end Go.Proofs.Ytjndodbdfmfjhaa
