/- More rules for plain laws. No program in sight. -/
import Derived.Test.YtnaodipmfaglfaaRWp
set_option linter.all false
namespace Go.Sp
open Go.Av
theorem wp_mustI {R : Type} {n : Int} {x : Option R} {P : R → Prop} (h : -9223372036854775808 ≤ n ∧ n ≤ 9223372036854775807) (k : Wp x P) : Wp (must (inI n) x) P := wp_must h k
theorem wp_mustW {R : Type} {w : Prop} [Decidable w] {n : Int} {x : Option R} {P : R → Prop} (h : w → -9223372036854775808 ≤ n ∧ n ≤ 9223372036854775807) (k : Wp x P) : Wp (must (w → inI n) x) P := wp_must h k
theorem wp_on {S R : Type} [Inhabited S] {W : Bool} {x : Option S} {k : S → Option R} {P : R → Prop} {Q : S → Prop} (h : W = true → Wp x Q) (hk : ∀ s, (W = true → Q s) → Wp (k s) P) : Wp (bindO (bif W then x else some default) k) P := by
  cases W
  · exact hk _ (fun h => by cases h)
  · exact wp_bind (h rfl) (fun s hs => hk s (fun _ => hs))
end Go.Sp
