/- Plain laws: the path that is returned; RoundPaths. No program in sight. -/
import Derived.Test.YtjeolkdhicmhgaaRPlM
set_option linter.all false
namespace Go.Sp
open Go.Av
set_option maxRecDepth 100000
theorem list_ext {T : Type} {l l' : List T} {d : T} (hl : l.length = l'.length) (h : ∀ k, k < l.length → l.getD k d = l'.getD k d) : l = l' := by
  refine List.ext_getElem hl (fun k h1 h2 => ?_)
  have := h k h1
  rw [List.getD_eq_getElem?_getD, List.getD_eq_getElem?_getD, List.getElem?_eq_getElem h1, List.getElem?_eq_getElem h2] at this
  exact this
theorem reverse_eq {fuel : Nat} (l : List Int) (hf : l.length < fuel) (hl : l.length ≤ 100000) : slices_Reverse_int_l fuel l = some l.reverse := by
  refine Wp.eq ?_
  unfold slices_Reverse_int_l
  refine wp_mustI (by omega) ?_
  refine wp_loop (fun s => 0 ≤ s.1 ∧ s.1 + s.2.1 = (l.length : Int) - 1 ∧ s.1 ≤ s.2.1 + 1 ∧ s.2.2.length = l.length ∧ ∀ k : Nat, k < l.length → s.2.2.getD k default = if (k : Int) < s.1 ∨ s.2.1 < (k : Int) then l.getD (l.length - 1 - k) default else l.getD k default)
    (fun s => (l.length - s.1.toNat)) (by show l.length - (0 : Int).toNat < fuel; omega) ⟨Int.le_refl _, by show (0 : Int) + ((l.length : Int) - 1) = _; omega, by show (0 : Int) ≤ (l.length : Int) - 1 + 1; omega, rfl, fun k hk => by rw [if_neg (by show ¬ ((k : Int) < 0 ∨ (l.length : Int) - 1 < (k : Int)); omega)]⟩ ?_
  rintro ⟨i, j, L⟩ K ⟨h0, h1, h4, h2, h3⟩ hK
  dsimp only at h0 h1 h2 h3 h4 hK ⊢
  refine wp_ifd (fun h => ?_) (fun h => wp_some ?_)
  · repeat (first | refine wp_must (by omega) ?_ | refine wp_mustI (by omega) ?_ | refine wp_mustR (by simp only [List.length_append, List.length_cons, List.length_nil, List.length_set, List.length_replicate]; omega) ?_ | refine wp_must (by simp only [List.length_append, List.length_cons, List.length_nil, List.length_set, List.length_replicate]; omega) ?_ | refine wp_must (fun _ => by omega) ?_ | refine wp_mustW (fun _ => by omega) ?_)
    refine hK _ ⟨?_, ?_, ?_, ?_, fun k hk => ?_⟩ ?_
    · show 0 ≤ i + 1; omega
    · show i + 1 + (j - 1) = _; omega
    · show i + 1 ≤ j - 1 + 1; omega
    · rw [List.length_set, List.length_set, h2]
    rotate_left
    · show l.length - (i + 1).toNat < l.length - i.toNat; omega
    have a1 : L.getD i.toNat default = l.getD i.toNat default := by rw [h3 _ (by omega), if_neg (by omega)]
    have a2 : L.getD j.toNat default = l.getD j.toNat default := by rw [h3 _ (by omega), if_neg (by omega)]
    dsimp only
    rw [getD_set _ _ _ _ (by rw [List.length_set]; omega), getD_set _ _ _ _ (by omega), a1, a2, h3 k hk]
    by_cases e1 : k = j.toNat
    · rw [if_pos e1, if_pos (by omega), show l.length - 1 - k = i.toNat by omega]
    · rw [if_neg e1]
      by_cases e2 : k = i.toNat
      · rw [if_pos e2, if_pos (by omega), show l.length - 1 - k = j.toNat by omega]
      · rw [if_neg e2]
        by_cases e3 : (k : Int) < i ∨ j < (k : Int)
        · rw [if_pos e3, if_pos (by omega)]
        · rw [if_neg e3, if_neg (by omega)]
  · refine list_ext (d := default) (by rw [h2, List.length_reverse]) (fun k hk => ?_)
    rw [h2] at hk
    rw [h3 k hk, List.getD_eq_getElem?_getD (l := l.reverse), List.getElem?_reverse hk, ← List.getD_eq_getElem?_getD]
    by_cases e3 : (k : Int) < i ∨ j < (k : Int)
    · rw [if_pos e3]
    · rw [if_neg e3, show l.length - 1 - k = k by omega]
def PathP (c : Chart) (t : Trip) (r : List Int × Int) : Prop :=
  (tripE c t ≠ 0 ∧ r = ([], tripE c t)) ∨ (tripE c t = 0 ∧ Lst c (boT c true) t.From t.At t.To none ∧ r = ([], 35)) ∨
  (tripE c t = 0 ∧ ∃ m, Lst c (boT c true) t.From t.At t.To (some m) ∧ r.2 = 0 ∧ trail c r.1 t.From t.At = some (t.To, m) ∧ r.1.length ≤ 1439)
theorem Path_eq {fuel : Nat} (hf : 20000 ≤ fuel) (c : Chart) (t : Trip) : Wp (round_Path fuel c t) (PathP c t) := by
  unfold round_Path
  refine wp_bindE (placeOf_trip c t) ?_
  refine wp_ifn (fun h => wp_some (.inl ⟨h, rfl⟩)) (fun h => ?_)
  obtain ⟨hv, hfr, ht, ha⟩ := tripE_zero h
  have N := net_bo hv true
  obtain ⟨D, e, hD⟩ := reach_done N hfr ha (fun x0 => round_most_1 x0 c) (fun i hi => most_eq c i hi) (fuel := fuel) (by omega)
  refine wp_bindE e ?_
  have hl := hD.lst t.To
  cases hg : D.get t.To with
  | none =>
    rw [hg] at hl
    exact wp_true rfl (wp_some (.inr (.inl ⟨h, hl, rfl⟩)))
  | some x =>
    rw [hg] at hl
    refine wp_false rfl ?_
    have bnd : ∀ p y, D.get p = some y → 0 ≤ y.at_ ∧ y.at_ ≤ 1439 := fun p y hy => by
      have h1 := hD.lst p
      rw [hy] at h1
      have h2 : t.At ≤ y.at_ ∧ y.at_ ≤ 1439 := (Arr.bounds N hfr ha h1.1).2
      omega
    refine wp_loop (fun s => s.1.length + s.2.at_ ≤ 1439 ∧ ∃ p, D.get p = some s.2 ∧ trail c s.1.reverse p s.2.at_ = some (t.To, x.at_)) (fun s => s.2.at_.toNat)
      (by have := bnd _ _ hg; show x.at_.toNat < fuel; omega) ⟨by have := bnd _ _ hg; show ((0 : Nat) : Int) + x.at_ ≤ 1439; omega, t.To, hg, rfl⟩ ?_
    rintro ⟨out, y⟩ K ⟨h1, p, h2, h3⟩ hK
    dsimp only at h1 h2 h3 hK ⊢
    have by_ := bnd _ _ h2
    refine wp_ifd (fun hw => ?_) (fun hw => ?_)
    · rcases hD.how p y h2 with ⟨k1, _⟩ | ⟨i, k1, k2, k3, z, k4, k5⟩
      · omega
      have bz := bnd _ _ k4
      have hfit := fit_of (joins_of hv k2)
      have hji := joins_iff.1 (joins_of hv k2)
      have hgt := fin_gt hfit (show 1 ≤ boT c true i by unfold boT pickT; dsimp only [cond_true]; omega) k5
      have hv' := valid_iff.1 hv
      repeat (first | refine wp_must (by omega) ?_ | refine wp_mustI (by omega) ?_ | refine wp_mustR (by simp only [List.length_append, List.length_cons, List.length_nil, List.length_set, List.length_replicate]; omega) ?_ | refine wp_must (by simp only [List.length_append, List.length_cons, List.length_nil, List.length_set, List.length_replicate]; omega) ?_ | refine wp_must (fun _ => by omega) ?_ | refine wp_mustW (fun _ => by omega) ?_)
      have hi : y.way.toNat = i := by omega
      refine hK _ ⟨?_, (way c i).From, ?_, ?_⟩ ?_
      · show ((out ++ [y.way]).length : Int) + ((D.get (c.Ways.getD y.way.toNat default).From).getD default).at_ ≤ 1439
        rw [hi, show (c.Ways.getD i default) = way c i from rfl, k4]
        simp only [List.length_append, List.length_cons, List.length_nil, Option.getD_some]
        omega
      · show D.get _ = some ((D.get (c.Ways.getD y.way.toNat default).From).getD default)
        rw [hi, show (c.Ways.getD i default) = way c i from rfl, k4]; rfl
      · show trail c (out ++ [y.way]).reverse _ ((D.get (c.Ways.getD y.way.toNat default).From).getD default).at_ = _
        rw [hi, show (c.Ways.getD i default) = way c i from rfl, k4, List.reverse_append]
        show trail c (y.way :: out.reverse) (way c i).From z.at_ = _
        rw [trail_cons, if_pos ⟨by omega, by rw [hi]⟩, hi, k5, k3]
        exact h3
      · show ((D.get (c.Ways.getD y.way.toNat default).From).getD default).at_.toNat < _
        rw [hi, show (c.Ways.getD i default) = way c i from rfl, k4]
        show z.at_.toNat < y.at_.toNat
        omega
    · rcases hD.how p y h2 with ⟨_, rfl, k3⟩ | ⟨i, k1, k2, k3, z, k4, k5⟩
      · refine wp_bindE (reverse_eq out (by omega) (by omega)) ?_
        refine wp_must (by rw [List.length_reverse]) (wp_some (.inr (.inr ⟨h, x.at_, hl, rfl, ?_, by dsimp only; rw [List.length_reverse]; omega⟩)))
        rw [k3] at h3
        exact h3
      · omega
end Go.Sp
