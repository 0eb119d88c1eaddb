/- Plain laws, crew: pairs of tasks; how many rounds the program and the chapter find. No program in sight. -/
import Derived.Test.YtnaodipmfaglfaaCPlB
set_option linter.all false
namespace Go.Sp
open Go.Av
set_option maxRecDepth 100000
def ab (l : List Int) : Nat → Int := fun k => l.getD k (-1)
def sb (x : Int) : Nat → Bool := fun k => x.toNat.testBit k
structure PS (n : Nat) (own back : List Int) : Prop where
  ol : own.length = n
  bl : back.length = n
  ok : ∀ k, k < n → -1 ≤ ab own k ∧ ab own k < n
structure SB (n : Nat) (x : Int) : Prop where
  nn : 0 ≤ x
  lt : x.toNat < 2 ^ n
theorem SB.zero (n : Nat) : SB n 0 := ⟨by omega, by exact Nat.pow_pos (by omega)⟩
theorem SB.inI {n : Nat} {x : Int} (h : SB n x) (hn : n ≤ 24) : inI x := by
  have := pow24 hn
  have := h.lt
  have := h.nn
  unfold Av.inI; omega
theorem SB.put {n j : Nat} {x : Int} (h : SB n x) (hj : j < n) : SB n (((x.toNat ||| (((1 : Int) * 2 ^ j)).toNat : Nat) : Int)) := by
  rw [pow_nat, Int.toNat_natCast]
  exact ⟨Int.natCast_nonneg _, by rw [Int.toNat_natCast]; exact or_lt h.lt hj⟩
theorem sb_put {j : Nat} {x : Int} : sb (((x.toNat ||| (((1 : Int) * 2 ^ j)).toNat : Nat) : Int)) = fun k => sb x k || decide (k = j) := by
  funext k
  unfold sb
  rw [pow_nat, Int.toNat_natCast, Int.toNat_natCast, or_bit]
def ks (own back : List Int) (seen : Int) : Ks := ⟨sb seen, ab own, ab back⟩
section
variable {n : Nat} {adj : Nat → Nat → Prop} {p : crew_plan}
end
end Go.Sp
