/- More rules for plain laws. No program in sight. -/
import Derived.Test.YtjeolkdhicmhgaaRWp
set_option linter.all false
namespace Go.Sp
open Go.Av
theorem wp_mustI {R : Type} {n : Int} {x : Option R} {P : R → Prop} (h : -9223372036854775808 ≤ n ∧ n ≤ 9223372036854775807) (k : Wp x P) : Wp (must (inI n) x) P := wp_must h k
theorem wp_mustR {R : Type} {n b : Nat} {x : Option R} {P : R → Prop} (h : n * b ≤ 140737488355328 ∧ n ≤ 9223372036854775807) (k : Wp x P) : Wp (must (room n b) x) P := wp_must h k
theorem wp_mustW {R : Type} {w : Prop} [Decidable w] {n : Int} {x : Option R} {P : R → Prop} (h : w → -9223372036854775808 ≤ n ∧ n ≤ 9223372036854775807) (k : Wp x P) : Wp (must (w → inI n) x) P := wp_must h k
end Go.Sp
