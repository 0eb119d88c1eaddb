/- Plain laws: charts. No program in sight. -/
import Derived.Test.YtjeolkdhicmhgaaRTSpec
import Derived.KernelRfl
set_option linter.all false
namespace Go.Sp
open Go.Av
theorem bindO_some {S R : Type} (s : S) (k : S → Option R) : bindO (some s) k = k s := rfl
theorem must_pos {R : Type} {c : Prop} [Decidable c] (h : c) (x : Option R) : must c x = x := if_pos h
theorem drop_get {T : Type} [Inhabited T] {l : List T} {i : Nat} (h : i < l.length) : l.drop i = l.getD i default :: l.drop (i + 1) := by
  rw [List.getD_eq_getElem?_getD, List.getElem?_eq_getElem h]
  simp
theorem room_small {n b : Nat} (hn : n ≤ 1000) (hb : b ≤ 1000) : room n b := by
  unfold room
  have : n * b ≤ 1000 * 1000 := Nat.mul_le_mul hn hb
  omega
theorem index_go {T : Type} [Inhabited T] (l : List T) (g : T → Bool) : ∀ n i, i + n = l.length →
    ∃ z : Int, rangeGo (fun i1 (_ : Unit) k1 => bindO (some (g (l.getD i1 default))) fun y3 => (bif y3 then some (i1 : Int) else k1 ())) (fun (_ : Unit) => some (-1)) n i () = some z ∧ (decide (0 ≤ z)) = (l.drop i).any g := by
  intro n
  induction n with
  | zero =>
    intro i hi
    refine ⟨-1, rfl, ?_⟩
    rw [List.drop_eq_nil_of_le (by omega)]; rfl
  | succ n ih =>
    intro i hi
    rw [drop_get (by omega), List.any_cons]
    show ∃ z : Int, (bif g (l.getD i default) then some (i : Int) else _) = some z ∧ _
    cases hg : g (l.getD i default) with
    | true => exact ⟨i, rfl, by simp⟩
    | false =>
      obtain ⟨z, h1, h2⟩ := ih (i + 1) (by omega)
      exact ⟨z, h1, by rw [h2]; rfl⟩
theorem containsWay (l : List Way) (g : Way → Bool) : slices_ContainsFunc_Way l (fun x => some (g x)) = some (l.any g) := by
  obtain ⟨z, h1, h2⟩ := index_go l g l.length 0 (by omega)
  show bindO (slices_IndexFunc_Way l _) _ = _
  unfold slices_IndexFunc_Way
  rw [h1, bindO_some, h2, List.drop_zero]
def valid (c : Chart) : Bool := (decide (1 ≤ c.Places) && decide (c.Places ≤ 12)) && decide (c.Ways.length ≤ 40) && c.Ways.all (round_joins c)
theorem valid_iff {c : Chart} : valid c = true ↔ (1 ≤ c.Places ∧ c.Places ≤ 12) ∧ c.Ways.length ≤ 40 ∧ ∀ w ∈ c.Ways, round_joins c w = true := by
  simp [valid, and_assoc]
theorem any_not {T : Type} (l : List T) (g : T → Bool) : l.any (fun x => !g x) = !l.all g := by
  induction l with
  | nil => rfl
  | cons x l ih => rw [List.any_cons, List.all_cons, ih]; cases g x <;> rfl
theorem round_Check_eq (c : Chart) : round_Check c = some (bif valid c then 0 else 31) := by
  unfold round_Check valid round_within
  have e : (fun x0 => some (round_Check_1 x0 c)) = (fun x0 => some ((fun x => !round_joins c x) x0)) := rfl
  rw [e, containsWay, any_not]
  have e2 : decide (40 < ((c.Ways.length : Nat) : Int)) = !decide (c.Ways.length ≤ 40) := by
    rw [Bool.eq_iff_iff]; simp; omega
  rw [e2]
  cases (decide (1 ≤ c.Places) && decide (c.Places ≤ 12)) <;> cases decide (c.Ways.length ≤ 40) <;> cases c.Ways.all (round_joins c) <;> rfl
def less (c : Chart) (i : Nat) : Chart := ⟨c.Places, c.Ways.take i ++ c.Ways.drop (i + 1)⟩
theorem sane_ok : gasolierlaw03_sane 20000 = some true := by kernel_rfl
end Go.Sp
