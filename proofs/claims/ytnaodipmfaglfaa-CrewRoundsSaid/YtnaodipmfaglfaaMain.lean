/- 'CrewRounds' returns true for any crew, rounds and cut, and two tasks by numbers, and leaves its arguments as they were. No condition. -/
import Derived.Test.YtnaodipmfaglfaaCTBr
import Derived.Test.YtnaodipmfaglfaaPr1
namespace Go.Proofs.Ytnaodipmfaglfaa
theorem crewRounds_holds : Rows.CrewRoundsSaid := Go.Sp.crewRounds_of fun c p n _ hp _ => ⟨20000, Go.Sp.crewRounds_true c p n (Go.Sp.fit_ofB hp.1) (Go.Sp.len_ofB hp.2.1)⟩
end Go.Proofs.Ytnaodipmfaglfaa
