/- 'CrewEither' returns true for every crew, all hands and rounds named, and all numbers, and leaves its arguments as they were. No condition. -/
import Derived.Test.YtnaodipmfaglfaaCTBr
import Derived.Test.YtnaodipmfaglfaaPr1
namespace Go.Proofs.Ytnaodipmfaglfaa
theorem crewEither_holds : Rows.CrewEitherSaid := Go.Sp.crewEither_of fun c p n _ hp _ => ⟨20000, Go.Sp.crewEither_true c p n (Go.Sp.len_of hp.2.1) (Go.Sp.len_of hp.2.2.2.2)⟩
end Go.Proofs.Ytnaodipmfaglfaa
