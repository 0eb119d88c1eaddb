/- 'CrewLate' returns true for every crew, and all rounds and walks, and leaves its arguments as they were. No condition. -/
import Derived.Test.YtnaodipmfaglfaaCTBr
import Derived.Test.YtnaodipmfaglfaaRWp
import Derived.Test.YtnaodipmfaglfaaRWq
import Derived.Test.YtnaodipmfaglfaaRWr
import Derived.Test.YtnaodipmfaglfaaRKn
import Derived.Test.YtnaodipmfaglfaaRKo
import Derived.Test.YtnaodipmfaglfaaCPlA
import Derived.Test.YtnaodipmfaglfaaCPlB
import Derived.Test.YtnaodipmfaglfaaCPlC
import Derived.Test.YtnaodipmfaglfaaCPlD
import Derived.Test.YtnaodipmfaglfaaCPlE
import Derived.Test.YtnaodipmfaglfaaCPlF
import Derived.Test.YtnaodipmfaglfaaCPlG
import Derived.Test.YtnaodipmfaglfaaCPlH
import Derived.Test.YtnaodipmfaglfaaCPlI
import Derived.Test.YtnaodipmfaglfaaCPlJ
import Derived.Test.YtnaodipmfaglfaaCPlZ
namespace Go.Proofs.Ytnaodipmfaglfaa
theorem crewLate_holds : Rows.CrewLateSaid := Go.Sp.crewLate_of fun c p _ hp => ⟨20000, Go.Sp.crewLate_true c p (Go.Sp.fit_of hp.1)⟩
end Go.Proofs.Ytnaodipmfaglfaa
