/- Plain laws: what is asked; Sure, Soonest, Walked; RoundTimes. No program in sight. -/
import Derived.Test.YtjeolkdhicmhgaaRPlD
set_option linter.all false
namespace Go.Sp
open Go.Av
set_option maxRecDepth 100000
theorem containsInt (l : List Int) (g : Int → Bool) (f : Int → Option Bool) (hf : ∀ x ∈ l, f x = some (g x)) : slices_ContainsFunc_int l f = some (l.any g) := by
  have go : ∀ n i, i + n = l.length → ∃ z : Int, rangeGo (fun i1 (_ : Unit) k1 => bindO (f (l.getD i1 default)) fun y3 => (bif y3 then some (i1 : Int) else k1 ())) (fun (_ : Unit) => some (-1)) n i () = some z ∧ (decide (0 ≤ z)) = (l.drop i).any g := by
    intro n
    induction n with
    | zero =>
      intro i hi
      refine ⟨-1, rfl, ?_⟩
      rw [List.drop_eq_nil_of_le (by omega)]; rfl
    | succ n ih =>
      intro i hi
      rw [drop_get (by omega), List.any_cons, rangeGo_succ, hf _ (by rw [List.getD_eq_getElem?_getD, List.getElem?_eq_getElem (by omega)]; exact List.getElem_mem _), bindO_some]
      cases hg : g (l.getD i default) with
      | true => exact ⟨i, rfl, by simp⟩
      | false =>
        obtain ⟨z, h1, h2⟩ := ih (i + 1) (by omega)
        exact ⟨z, h1, by rw [h2]; rfl⟩
  obtain ⟨z, h1, h2⟩ := go l.length 0 (by omega)
  show bindO (slices_IndexFunc_int l f) _ = _
  unfold slices_IndexFunc_int
  rw [h1, bindO_some, h2, List.drop_zero]
def isMin (a : Int) : Bool := decide (0 ≤ a ∧ a ≤ 1439)
def isPl (c : Chart) (p : Int) : Bool := decide (0 ≤ p ∧ p < c.Places)
def askE (c : Chart) (p a : Int) : Int := bif valid c then (bif isMin a && isPl c p then 0 else 1) else 31
theorem isMin_iff {a : Int} : isMin a = true ↔ 0 ≤ a ∧ a ≤ 1439 := by simp [isMin]
theorem isPl_iff {c : Chart} {p : Int} : isPl c p = true ↔ 0 ≤ p ∧ p < c.Places := by simp [isPl]
theorem within_pl (c : Chart) (p : Int) : round_within p 0 (c.Places - 1) = isPl c p := by
  unfold round_within isPl
  rw [Bool.eq_iff_iff]; simp; omega
theorem within_min (a : Int) : round_isMinute a = isMin a := by
  unfold round_isMinute round_within isMin
  rw [Bool.eq_iff_iff]; simp
theorem placeOf_eq (c : Chart) (a : Int) (l : List Int) : round_placeOf c a l = some (bif valid c then (bif isMin a && l.all (isPl c) then 0 else 1) else 31) := by
  unfold round_placeOf
  rw [round_Check_eq, bindO_some]
  cases hv : valid c with
  | false => rfl
  | true =>
    have h := valid_iff.1 hv
    rw [cond_true, (by decide : decide ((0 : Int) = 0) = true), Bool.not_true, cond_false, containsInt l (fun p => !isPl c p) (fun x0 => round_placeOf_1 x0 c) (fun p _ => by
      unfold round_placeOf_1
      rw [must_pos (by unfold inI; omega), within_pl]), within_min, any_not]
    cases isMin a <;> cases l.all (isPl c) <;> rfl
theorem placeOf_one (c : Chart) (p a : Int) : round_placeOf c a [p] = some (askE c p a) := by
  rw [placeOf_eq]
  unfold askE
  simp
def pickT (high : Bool) (w : Way) : Int := bif high then w.Takes.Hi else w.Takes.Lo
def boT (c : Chart) (high : Bool) (i : Nat) : Int := pickT high (way c i)
theorem net_bo {c : Chart} (hv : valid c = true) (high : Bool) : Net c (boT c high) :=
  ⟨hv, fun i hi => by
    have := joins_iff.1 (joins_of hv hi)
    unfold boT pickT
    cases high <;> simp only [cond_true, cond_false] <;> omega⟩
theorem most_eq (c : Chart) (i : Nat) (hi : i < c.Ways.length) : round_most_1 (i : Int) c = some (boT c true i) := by
  unfold round_most_1
  rw [must_pos (by omega)]; rfl
theorem leastT_eq (c : Chart) (i : Nat) (hi : i < c.Ways.length) : round_least_1 (i : Int) c = some (boT c false i) := by
  unfold round_least_1
  rw [must_pos (by omega)]; rfl
def SureP (c : Chart) (T : Nat → Int) (p a : Int) (r : List Int × Int) : Prop := r.2 = askE c p a ∧ ((askE c p a ≠ 0 ∧ r.1 = []) ∨ (askE c p a = 0 ∧ Mins c T p a r.1))
theorem SureP.unique {c : Chart} {T : Nat → Int} {p a : Int} {r r' : List Int × Int} (h : SureP c T p a r) (h' : SureP c T p a r') : r = r' := by
  obtain ⟨L, e⟩ := r
  obtain ⟨L', e'⟩ := r'
  obtain ⟨h1, h2⟩ := h
  obtain ⟨k1, k2⟩ := h'
  simp only at h1 k1 h2 k2
  subst h1 k1
  rcases h2 with ⟨h2, h3⟩ | ⟨h2, h3⟩
  · rcases k2 with ⟨_, k3⟩ | ⟨k2, _⟩
    · rw [h3, k3]
    · exact absurd k2 h2
  · rcases k2 with ⟨k2, _⟩ | ⟨_, k3⟩
    · exact absurd h2 k2
    · rw [h3.unique k3]
theorem askE_zero {c : Chart} {p a : Int} (h : askE c p a = 0) : valid c = true ∧ (0 ≤ p ∧ p < c.Places) ∧ (0 ≤ a ∧ a ≤ 1439) := by
  unfold askE at h
  cases hv : valid c with
  | false => rw [hv] at h; simp at h
  | true =>
    rw [hv] at h
    cases hb : isMin a && isPl c p with
    | false => rw [hb] at h; simp at h
    | true =>
      rw [Bool.and_eq_true] at hb
      exact ⟨rfl, isPl_iff.1 hb.2, isMin_iff.1 hb.1⟩
theorem sure_eq {fuel : Nat} (hf : 20000 ≤ fuel) (c : Chart) (p a : Int) : ∃ r, round_Sure fuel c p a = some r ∧ SureP c (boT c true) p a r := by
  unfold round_Sure
  rw [placeOf_one, bindO_some]
  by_cases h : askE c p a = 0
  · rw [h, (by decide : decide ((0 : Int) = 0) = true), Bool.not_true, cond_false]
    obtain ⟨hv, hp, ha⟩ := askE_zero h
    obtain ⟨out, e, D⟩ := reach_done (net_bo hv true) hp ha (fun x0 => round_most_1 x0 c) (fun i hi => most_eq c i hi) (fuel := fuel) (by omega)
    obtain ⟨L, e2, M⟩ := minutes_mins (net_bo hv true) hp ha D
    rw [e, bindO_some, e2, bindO_some]
    exact ⟨(L, 0), rfl, h.symm, .inr ⟨h, M⟩⟩
  · rw [decide_eq_false h, Bool.not_false, cond_true]
    exact ⟨([], askE c p a), rfl, rfl, .inl ⟨h, rfl⟩⟩
end Go.Sp
