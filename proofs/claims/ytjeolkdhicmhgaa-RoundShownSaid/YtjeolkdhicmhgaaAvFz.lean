/- An owned slice is only read from now on, wherever it is named. -/
import Derived.Test.YtjeolkdhicmhgaaAvRn
set_option linter.all false
namespace Go.Av
section
variable {N : Nat} {C : Ctx} {L : List (Nat × AV)} {M : List (Nat × Blk)} {g : Nat} {R : Act → World → Prop}
end
end Go.Av
