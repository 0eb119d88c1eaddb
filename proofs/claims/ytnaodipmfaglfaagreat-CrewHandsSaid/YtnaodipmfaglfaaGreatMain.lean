/- 'CrewHands' returns true for every crew, all hands, rounds and cuts named, and every round, and leaves its arguments as they were. No condition. -/
import Derived.Test.YtnaodipmfaglfaaGreatCTBr
import Derived.Test.YtnaodipmfaglfaaGreatPr1
import Derived.Test.YtnaodipmfaglfaaGreatPr2
namespace Go.Proofs.YtnaodipmfaglfaaGreat
theorem crewHands_holds : Rows.CrewHandsSaid := Go.Sp.crewHands_of fun c p r _ hp hr => ⟨20000, Go.Sp.crewHands_true c p r (Go.Sp.fit_of hp.1) (Go.Sp.len_of hp.2.1) (Go.Sp.len_of hr)⟩
end Go.Proofs.YtnaodipmfaglfaaGreat
