/- Plain laws: the matrix. No program in sight. -/
import Derived.Test.YtjeolkdhicmhgaaRPlI
set_option linter.all false
namespace Go.Sp
open Go.Av
set_option maxRecDepth 100000
def mat {T : Type} [Inhabited T] (s : List (List T)) (p q : Nat) : T := (s.getD p []).getD q default
structure Shp {T : Type} (P : Nat) (s : List (List T)) : Prop where
  len : s.length = P
  row : ∀ p, p < P → (s.getD p []).length = P
theorem mat_ext {T : Type} [Inhabited T] {P : Nat} {s s' : List (List T)} (h : Shp P s) (h' : Shp P s') (e : ∀ p q, p < P → q < P → mat s p q = mat s' p q) : s = s' := by
  apply List.ext_getElem (h.len.trans h'.len.symm)
  intro p h1 h2
  have hp : p < P := by rw [← h.len]; exact h1
  have r1 := h.row p hp
  have r2 := h'.row p hp
  have e1 : s.getD p [] = s[p] := by rw [List.getD_eq_getElem?_getD, List.getElem?_eq_getElem h1]; rfl
  have e2 : s'.getD p [] = s'[p] := by rw [List.getD_eq_getElem?_getD, List.getElem?_eq_getElem h2]; rfl
  rw [e1] at r1
  rw [e2] at r2
  apply List.ext_getElem (r1.trans r2.symm)
  intro q g1 g2
  have := e p q hp (by omega)
  unfold mat at this
  rw [e1, e2, List.getD_eq_getElem?_getD, List.getElem?_eq_getElem g1, List.getD_eq_getElem?_getD, List.getElem?_eq_getElem g2] at this
  exact this
abbrev Mx := Nat → Nat → Int
def upd (c a b : Int) : Int := if 0 ≤ a ∧ 0 ≤ b ∧ (c < 0 ∨ a + b < c) then a + b else c
def alw (w : Way) : Bool := decide (w.Every = 0) && (decide (w.Open.Lo = 0) && decide (w.Open.Hi = 1439))
def m0 : Mx := fun p q => if p = q then 0 else -1
def mw (c : Chart) (T : Nat → Int) : Nat → Mx
  | 0 => m0
  | n + 1 => fun p q => if p = (way c n).From.toNat ∧ q = (way c n).To.toNat ∧ alw (way c n) = true ∧ (mw c T n p q < 0 ∨ T n < mw c T n p q) then T n else mw c T n p q
def fw (M : Mx) : Nat → Mx
  | 0 => M
  | k + 1 => fun p q => upd (fw M k p q) (fw M k p k) (fw M k k q)
def dst (c : Chart) (T : Nat → Int) : Mx := fw (mw c T c.Ways.length) c.Places.toNat
structure Nice (P : Nat) (B : Int) (M : Mx) : Prop where
  ge : ∀ p q, p < P → q < P → -1 ≤ M p q ∧ M p q ≤ B
  dg : ∀ p, p < P → M p p = 0
theorem Nice.upd {P : Nat} {B : Int} {M : Mx} (h : Nice P B M) (hB : 0 ≤ B) {k : Nat} (hk : k < P) : Nice P (2 * B) (fun p q => upd (M p q) (M p k) (M k q)) := by
  refine ⟨fun p q hp hq => ?_, fun p hp => ?_⟩
  · have a := h.ge p q hp hq
    have b := h.ge p k hp hk
    have c := h.ge k q hk hq
    unfold Sp.upd
    split <;> omega
  · have a := h.dg p hp
    have b := h.ge p k hp hk
    have c := h.ge k p hk hp
    unfold Sp.upd
    rw [a, if_neg (by omega)]
def bnd : Nat → Int
  | 0 => 600
  | k + 1 => 2 * bnd k
structure Mid (P : Nat) (M : Mx) (k p i : Nat) (s : List (List Int)) : Prop where
  shp : Shp P s
  val : ∀ p' q', p' < P → q' < P → mat s p' q' = if p' < p ∨ (p' = p ∧ q' < i) then upd (M p' q') (M p' k) (M k q') else M p' q'
end Go.Sp
