/- Plain laws: the least minutes, as the reference finds them. No program in sight. -/
import Derived.Test.YtjeolkdhicmhgaaRPlB
set_option linter.all false
namespace Go.Sp
open Go.Av
set_option maxRecDepth 100000
theorem loopGo_succ {S R : Type} (body : S → (S → Option R) → Option R) (n : Nat) (s : S) : loopGo body (n + 1) s = body s (loopGo body n) := rfl
def mrk (n : Int) : Option Int := if n < 0 then none else some n
theorem mrk_neg {n : Int} (h : n < 0) : mrk n = none := if_pos h
theorem mrk_pos {n : Int} (h : 0 ≤ n) : mrk n = some n := if_neg (by omega)
structure Mins (c : Chart) (T : Nat → Int) (s a0 : Int) (L : List Int) : Prop where
  len : L.length = c.Places.toNat
  lst : ∀ p : Nat, p < c.Places.toNat → -1 ≤ L.getD p default ∧ Lst c T s a0 p (mrk (L.getD p default))
theorem Mins.unique {c : Chart} {T : Nat → Int} {s a0 : Int} {L L' : List Int} (h : Mins c T s a0 L) (h' : Mins c T s a0 L') : L = L' := by
  apply List.ext_getElem (h.len.trans h'.len.symm)
  intro p h1 h2
  have hp : p < c.Places.toNat := by rw [← h.len]; exact h1
  obtain ⟨a1, a2⟩ := h.lst p hp
  obtain ⟨b1, b2⟩ := h'.lst p hp
  rw [List.getD_eq_getElem?_getD, List.getElem?_eq_getElem h1, Option.getD_some] at a1 a2
  rw [List.getD_eq_getElem?_getD, List.getElem?_eq_getElem h2, Option.getD_some] at b1 b2
  have := a2.unique b2
  unfold mrk at this
  split at this <;> split at this
  · omega
  · cases this
  · cases this
  · exact Option.some.inj this
theorem getD_set {T : Type} [Inhabited T] (l : List T) (i j : Nat) (x : T) (hi : i < l.length) : (l.set i x).getD j default = if j = i then x else l.getD j default := by
  rw [List.getD_eq_getElem?_getD, List.getElem?_set, List.getD_eq_getElem?_getD]
  by_cases h : i = j
  · subst h; simp [hi]
  · rw [if_neg h, if_neg (fun e => h e.symm)]
def Tl (l : List Int) (i : Nat) : Int := l.getD i default
structure Good (c : Chart) (T : List Int) (s a0 : Int) (L : List Int) : Prop where
  len : L.length = c.Places.toNat
  ok : ∀ p : Nat, p < c.Places.toNat → -1 ≤ L.getD p default ∧ (0 ≤ L.getD p default → Arr c (Tl T) s a0 p (L.getD p default))
  st : 0 ≤ L.getD s.toNat default ∧ L.getD s.toNat default ≤ a0
def Closed (c : Chart) (T : List Int) (L : List Int) (i : Nat) : Prop :=
  ∀ a b, mrk (L.getD (way c i).From.toNat default) = some a → fin (way c i) (Tl T i) a = some b → ∃ x, mrk (L.getD (way c i).To.toNat default) = some x ∧ x ≤ b
end Go.Sp
