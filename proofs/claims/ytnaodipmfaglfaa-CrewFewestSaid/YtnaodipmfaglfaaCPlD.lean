/- Plain laws, crew: the chapter's search, and the numbers of rounds. No program in sight. -/
import Derived.Test.YtnaodipmfaglfaaCPlC
import Derived.Test.YtnaodipmfaglfaaRKo
set_option linter.all false
namespace Go.Sp
open Go.Av
set_option maxRecDepth 100000
theorem most_fun : (fun x0 => some (crew_most x0)) = fun x => some (Range.Hi x) := rfl
def sl (l : List Bool) : Nat → Bool := fun k => l.getD k false
structure OS (n : Nat) (own : List Int) : Prop where
  ol : own.length = n
  ok : ∀ k, k < n → -1 ≤ ab own k ∧ ab own k < n
theorem fol_ord {c : Crew} (V : Valid c) {e : Range → Int} (he : EndOf e) : Ord (fol c e) c.Tasks.length (fun x => (tk c x).At) :=
  ⟨fun _ _ h => ⟨h.1, h.2.1⟩, fun _ _ h => fol_at V he h, fun _ _ _ h1 h2 => fol_trans V he h1 h2⟩
def lc (back : Nat → Int) (i : Nat) : Nat := (loose i back).length
theorem lc_succ (back : Nat → Int) (i : Nat) : lc back (i + 1) = lc back i + if back i < 0 then 1 else 0 := by
  unfold lc loose
  rw [List.range_succ, List.filter_append, List.length_append, List.filter_cons]
  split <;> rename_i h <;> simp at h <;> simp [h]
theorem count_wp {n : Nat} {adj : Nat → Nat → Prop} {p : crew_plan} {rank : Nat → Int} (IP : IsPlan n adj p) (O : Ord adj n rank) {fuel : Nat} (hf : 25 ≤ fuel) : Wp (crew_plan__count fuel p) (fun r => ∃ u : Nat, r = (u : Int) ∧ Most adj n u) := by
  have hn := IP.le
  unfold crew_plan__count
  refine wp_bind (pair_wp IP hf) (fun y hy => ?_)
  obtain ⟨hP, seen, D, hK⟩ := hy
  have hol := hP.ol
  refine wp_range (fun i s => s = (lc (ab y.1) i : Int)) rfl (fun i s K hi hI hK' => ?_) (fun s hI => ?_)
  · subst hI
    have hl := lc_succ (ab y.1) i
    have e : y.1.getD i default = ab y.1 i := (ab_lt hi).symm
    rw [e]
    have : lc (ab y.1) i ≤ i := by unfold lc loose; exact Nat.le_trans (List.length_filter_le _ _) (by simp)
    refine wp_ifd (fun h => ?_) (fun h => ?_)
    · rw [if_pos h] at hl
      exact wp_mustI (by omega) (hK' _ (by omega))
    · rw [if_neg h] at hl
      exact hK' _ (by omega)
  · subst hI
    refine wp_some ⟨_, rfl, ?_⟩
    have h1 := kuhn_most hK O (fun k hk => (hP.ok k hk).2)
    have h2 := loose_own hK.mat hK.rest (fun k hk => (hP.ok k hk).2)
    unfold lc
    rw [hol, h2]; exact h1
noncomputable def nr (c : Crew) (e : Range → Int) : Nat := @dite _ (∃ u, Most (fol c e) c.Tasks.length u) (Classical.propDecidable _) (fun h => Classical.choose h) (fun _ => 0)
theorem nr_eq {c : Crew} {e : Range → Int} {u : Nat} (h : Most (fol c e) c.Tasks.length u) : nr c e = u := by
  unfold nr
  rw [dif_pos ⟨u, h⟩]
  exact (Classical.choose_spec (⟨u, h⟩ : ∃ u, Most (fol c e) c.Tasks.length u)).unique h
theorem pcount_eq {c : Crew} (V : Valid c) {e : Range → Int} (he : EndOf e) {p : crew_plan} (IP : IsPlan c.Tasks.length (fol c e) p) {fuel : Nat} (hf : 25 ≤ fuel) : crew_plan__count fuel p = some (nr c e : Int) ∧ Most (fol c e) c.Tasks.length (nr c e) := by
  obtain ⟨r, h1, u, rfl, h2⟩ := count_wp IP (fol_ord V he) hf
  rw [nr_eq h2]; exact ⟨h1, h2⟩
theorem most_nr {c : Crew} (V : Valid c) {e : Range → Int} (he : EndOf e) : Most (fol c e) c.Tasks.length (nr c e) := by
  obtain ⟨_, _, p, _, _, IP⟩ := newPlan_wp V he
  exact (pcount_eq V he IP (Nat.le_refl 25)).2
theorem count_eq (c : Crew) {fuel : Nat} (hf : 25 ≤ fuel) : crew_Count fuel c = some (if chk c = 0 then ((nr c Range.Hi : Int), 0) else (0, 42)) := by
  refine Wp.eq ?_
  unfold crew_Count
  refine wp_bindE (check_eq c) ?_
  by_cases V : Valid c
  · rw [chk_valid V, if_pos rfl]
    refine wp_false rfl ?_
    rw [most_fun]
    refine wp_bind (newPlan_wp V (.inr rfl)) (fun y hy => ?_)
    obtain ⟨p, rfl, _, IP⟩ := hy
    exact wp_must rfl (wp_bindE (pcount_eq V (.inr rfl) IP hf).1 (wp_some rfl))
  · rw [chk_not V, if_neg (by decide)]
    exact wp_true rfl (wp_some rfl)
end Go.Sp
