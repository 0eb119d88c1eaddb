/- Plain laws: RoundMarks. No program in sight. -/
import Derived.Test.YtjeolkdhicmhgaaRPlK
set_option linter.all false
namespace Go.Sp
open Go.Av
set_option maxRecDepth 100000
structure MkOk (c : Chart) (s a : Int) (L : List Int) : Prop where
  len : (L.length : Int) = c.Places
  rng : ∀ x ∈ L, -1 ≤ x ∧ x ≤ 1439
  st : 0 ≤ L.getD s.toNat default ∧ L.getD s.toNat default ≤ a
  cls : ∀ i, i < c.Ways.length → 0 ≤ L.getD (way c i).From.toNat default → ∀ b, fin (way c i) (boT c true i) (L.getD (way c i).From.toNat default) = some b → 0 ≤ L.getD (way c i).To.toNat default ∧ L.getD (way c i).To.toNat default ≤ b
def MarkP (c : Chart) (s a : Int) (L : List Int) (e : Int) : Prop := (askE c s a ≠ 0 ∧ e = askE c s a) ∨ (askE c s a = 0 ∧ MkOk c s a L ∧ e = 0) ∨ (askE c s a = 0 ∧ ¬ MkOk c s a L ∧ e = 37)
theorem MarkP.unique {c : Chart} {s a : Int} {L : List Int} {e e' : Int} (h : MarkP c s a L e) (h' : MarkP c s a L e') : e = e' := by
  rcases h with ⟨h1, h2⟩ | ⟨h1, h2, h3⟩ | ⟨h1, h2, h3⟩ <;> rcases h' with ⟨k1, k2⟩ | ⟨k1, k2, k3⟩ | ⟨k1, k2, k3⟩
  · omega
  · exact absurd k1 h1
  · exact absurd k1 h1
  · exact absurd h1 k1
  · omega
  · exact absurd h2 k2
  · exact absurd h1 k1
  · exact absurd k2 h2
  · omega
end Go.Sp
