/- Plain laws, crew: the chapter's search, and the numbers of rounds. No program in sight. -/
import Derived.Test.YtnaodipmfaglfaaCPlC
import Derived.Test.YtnaodipmfaglfaaRKo
set_option linter.all false
namespace Go.Sp
open Go.Av
set_option maxRecDepth 100000
theorem rfollows_eq {c : Crew} (V : Valid c) {i j : Nat} (hi : i < c.Tasks.length) (hj : j < c.Tasks.length) : gasolierref04_follows c (i : Int) (j : Int) = some (if 0 ≤ gap c Range.Hi i j then 1 else if gap c Range.Lo i j < 0 then 0 else 2) := by
  refine Wp.eq ?_
  unfold gasolierref04_follows
  have hpi := V.place hi
  have hpj := V.place hj
  have hai := V.at hi
  have haj := V.at hj
  have hr := V.travel.rng _ _ hpi.2.1 hpj.2.1
  have hrow := V.travel.row _ hpi.2.1
  have e1 : c.Tasks.getD ((i : Int)).toNat default = tk c i := rfl
  have e2 : c.Tasks.getD ((j : Int)).toNat default = tk c j := rfl
  have e3 : ((c.Travel.getD ((tk c i).Place).toNat default).getD ((tk c j).Place).toNat default) = tv c.Travel (tk c i).Place.toNat (tk c j).Place.toNat := rfl
  rw [e1, e2, e3]
  refine wp_must (by omega) (wp_must (by omega) (wp_must (by omega) (wp_must (by omega) (wp_mustI (by omega) (wp_mustI (by omega) ?_)))))
  unfold gap
  refine wp_ifd (fun h => wp_some (by rw [if_pos (by omega)])) (fun h => ?_)
  refine wp_mustI (by omega) (wp_mustI (by omega) (wp_ifd (fun h' => wp_some (by rw [if_neg (by omega), if_pos (by omega)])) (fun h' => wp_some (by rw [if_neg (by omega), if_neg (by omega)]))))
theorem yes_iff {c : Crew} (V : Valid c) {i j : Nat} (hi : i < c.Tasks.length) (hj : j < c.Tasks.length) : (if 0 ≤ gap c Range.Hi i j then (1 : Int) else if gap c Range.Lo i j < 0 then 0 else 2) = 1 ↔ fol c Range.Hi i j := by
  unfold fol
  by_cases h : 0 ≤ gap c Range.Hi i j
  · rw [if_pos h]; exact ⟨fun _ => ⟨hi, hj, h⟩, fun _ => rfl⟩
  · rw [if_neg h]
    constructor
    · intro h'; split at h' <;> cases h'
    · intro h'; exact absurd h'.2.2 h
theorem most_fun : (fun x0 => some (crew_most x0)) = fun x => some (Range.Hi x) := rfl
def sl (l : List Bool) : Nat → Bool := fun k => l.getD k false
structure OS (n : Nat) (own : List Int) : Prop where
  ol : own.length = n
  ok : ∀ k, k < n → -1 ≤ ab own k ∧ ab own k < n
def lc (back : Nat → Int) (i : Nat) : Nat := (loose i back).length
end Go.Sp
