/- Plain laws: paths. No program in sight. -/
import Derived.Test.YtjeolkdhicmhgaaRPlE
import Derived.Test.YtjeolkdhicmhgaaRWq
set_option linter.all false
namespace Go.Sp
open Go.Av
set_option maxRecDepth 100000
end Go.Sp
