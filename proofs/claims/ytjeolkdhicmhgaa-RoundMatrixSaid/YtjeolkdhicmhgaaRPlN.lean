/- Plain laws: the path that is returned; RoundPaths. No program in sight. -/
import Derived.Test.YtjeolkdhicmhgaaRPlM
set_option linter.all false
namespace Go.Sp
open Go.Av
set_option maxRecDepth 100000
end Go.Sp
