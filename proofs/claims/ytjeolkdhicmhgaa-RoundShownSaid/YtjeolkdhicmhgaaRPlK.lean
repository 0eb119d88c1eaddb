/- Plain laws: Matrix, as the program and as the reference find it. No program in sight. -/
import Derived.Test.YtjeolkdhicmhgaaRPlJ
import Derived.Test.YtjeolkdhicmhgaaRWp
set_option linter.all false
namespace Go.Sp
open Go.Av
set_option maxRecDepth 100000
def lo (c : Chart) : Mx := dst c (boT c false)
def hi (c : Chart) : Mx := dst c (boT c true)
def MatP (c : Chart) (x : List (List Range) × Int) : Prop :=
  (valid c = false ∧ x = ([], 31)) ∨ (valid c = true ∧ (∃ p q, p < c.Places.toNat ∧ q < c.Places.toNat ∧ (hi c p q < 0 ∨ 600 < hi c p q)) ∧ x = ([], 35)) ∨
  (valid c = true ∧ (∀ p q, p < c.Places.toNat → q < c.Places.toNat → 0 ≤ hi c p q ∧ hi c p q ≤ 600) ∧ x.2 = 0 ∧ Shp c.Places.toNat x.1 ∧ ∀ p q, p < c.Places.toNat → q < c.Places.toNat → mat x.1 p q = ⟨lo c p q, hi c p q⟩)
theorem MatP.unique {c : Chart} {x y : List (List Range) × Int} (h : MatP c x) (k : MatP c y) : x = y := by
  rcases h with ⟨h1, h2⟩ | ⟨h1, ⟨p, q, hp, hq, h2⟩, h3⟩ | ⟨h1, h2, h3, h4, h5⟩ <;> rcases k with ⟨k1, k2⟩ | ⟨k1, ⟨p', q', kp, kq, k2⟩, k3⟩ | ⟨k1, k2, k3, k4, k5⟩
  · rw [h2, k2]
  · rw [h1] at k1; cases k1
  · rw [h1] at k1; cases k1
  · rw [h1] at k1; cases k1
  · rw [h3, k3]
  · have := k2 p q hp hq; omega
  · rw [h1] at k1; cases k1
  · have := h2 p' q' kp kq; omega
  · have e : x.1 = y.1 := mat_ext h4 k4 (fun p q hp hq => by rw [h5 p q hp hq, k5 p q hp hq])
    exact Prod.ext e (h3.trans k3.symm)
def cap (x : Int) : Int := if x < 0 then 601 else min x 601
def capR (L H : Mx) (p q : Nat) : Range := ⟨cap (L p q), cap (H p q)⟩
structure MidR (P : Nat) (L H : Mx) (k p i : Nat) (s : List (List Range)) : Prop where
  shp : Shp P s
  val : ∀ p' q', p' < P → q' < P → mat s p' q' = if p' < p ∨ (p' = p ∧ q' < i) then ⟨cap (upd (L p' q') (L p' k) (L k q')), cap (upd (H p' q') (H p' k) (H k q'))⟩ else capR L H p' q'
end Go.Sp
