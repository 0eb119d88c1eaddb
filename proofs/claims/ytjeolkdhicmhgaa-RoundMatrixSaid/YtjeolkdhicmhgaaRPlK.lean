/- Plain laws: Matrix, as the program and as the reference find it. No program in sight. -/
import Derived.Test.YtjeolkdhicmhgaaRPlJ
import Derived.Test.YtjeolkdhicmhgaaRWp
set_option linter.all false
namespace Go.Sp
open Go.Av
set_option maxRecDepth 100000
theorem getD_snoc {T : Type} (l : List T) (x d : T) (i : Nat) : (l ++ [x]).getD i d = if i = l.length then x else l.getD i d := by
  rw [List.getD_eq_getElem?_getD, List.getD_eq_getElem?_getD, List.getElem?_append]
  by_cases h : i < l.length
  · rw [if_pos h, if_neg (by omega)]
  · rw [if_neg h]
    by_cases e : i = l.length
    · rw [if_pos e, e, Nat.sub_self]; rfl
    · rw [if_neg e, List.getElem?_eq_none (by simp; omega), List.getElem?_eq_none (by omega)]
def lo (c : Chart) : Mx := dst c (boT c false)
def hi (c : Chart) : Mx := dst c (boT c true)
def MatP (c : Chart) (x : List (List Range) × Int) : Prop :=
  (valid c = false ∧ x = ([], 31)) ∨ (valid c = true ∧ (∃ p q, p < c.Places.toNat ∧ q < c.Places.toNat ∧ (hi c p q < 0 ∨ 600 < hi c p q)) ∧ x = ([], 35)) ∨
  (valid c = true ∧ (∀ p q, p < c.Places.toNat → q < c.Places.toNat → 0 ≤ hi c p q ∧ hi c p q ≤ 600) ∧ x.2 = 0 ∧ Shp c.Places.toNat x.1 ∧ ∀ p q, p < c.Places.toNat → q < c.Places.toNat → mat x.1 p q = ⟨lo c p q, hi c p q⟩)
theorem MatP.unique {c : Chart} {x y : List (List Range) × Int} (h : MatP c x) (k : MatP c y) : x = y := by
  rcases h with ⟨h1, h2⟩ | ⟨h1, ⟨p, q, hp, hq, h2⟩, h3⟩ | ⟨h1, h2, h3, h4, h5⟩ <;> rcases k with ⟨k1, k2⟩ | ⟨k1, ⟨p', q', kp, kq, k2⟩, k3⟩ | ⟨k1, k2, k3, k4, k5⟩
  · rw [h2, k2]
  · rw [h1] at k1; cases k1
  · rw [h1] at k1; cases k1
  · rw [h1] at k1; cases k1
  · rw [h3, k3]
  · have := k2 p q hp hq; omega
  · rw [h1] at k1; cases k1
  · have := h2 p' q' kp kq; omega
  · have e : x.1 = y.1 := mat_ext h4 k4 (fun p q hp hq => by rw [h5 p q hp hq, k5 p q hp hq])
    exact Prod.ext e (h3.trans k3.symm)
theorem matrix_eq {fuel : Nat} (hf : 41 ≤ fuel) (c : Chart) : Wp (round_Matrix fuel c) (MatP c) := by
  unfold round_Matrix
  refine wp_bindE (round_Check_eq c) ?_
  cases hv : valid c with
  | false => exact wp_true rfl (wp_some (.inl ⟨hv, rfl⟩))
  | true =>
    refine wp_false rfl ?_
    obtain ⟨⟨v1, v2⟩, _⟩ := valid_iff.1 hv
    obtain ⟨y4, e4, s4, m4⟩ := sums_eq hf (net_bo hv false) (fun x0 => round_least_1 x0 c) (leastT_eq c)
    obtain ⟨y6, e6, s6, m6⟩ := sums_eq hf (net_bo hv true) (fun x0 => round_most_1 x0 c) (most_eq c)
    refine wp_bindE e4 (wp_bindE e6 (wp_must (by omega) ?_))
    have l4 := s4.len
    have l6 := s6.len
    refine wp_range (fun i s => s.length = i ∧ ∀ p, p < i → (s.getD p []).length = c.Places.toNat ∧ ∀ q, q < c.Places.toNat → (0 ≤ hi c p q ∧ hi c p q ≤ 600) ∧ mat s p q = ⟨lo c p q, hi c p q⟩) ⟨rfl, fun p hp => by omega⟩ ?_ ?_
    · intro i s K hi' hI hK
      have r4 := s4.row i hi'
      have r6 := s6.row i hi'
      refine wp_must (by omega) ?_
      refine wp_range (fun j r => r.length = j ∧ ∀ q, q < j → (0 ≤ hi c i q ∧ hi c i q ≤ 600) ∧ r.getD q default = ⟨lo c i q, hi c i q⟩) ⟨rfl, fun p hp => by omega⟩ ?_ ?_
      · intro j r K2 hj hJ hK2
        have a4 : (y4.getD i default).getD j default = lo c i j := m4 i j hi' hj
        have a6 : (y6.getD i default).getD j default = hi c i j := m6 i j hi' hj
        have b6 : ((y6.getD i default).length : Nat) = c.Places.toNat := r6
        have b4 : ((y4.getD i default).length : Nat) = c.Places.toNat := r4
        rw [a6, a4, b6, b4, l6, l4]
        refine wp_must (by omega) (wp_must (by omega) (wp_must (fun _ => by omega) (wp_must (fun _ => by omega) ?_)))
        refine wp_bif (fun h => ?_) (fun h => ?_)
        · simp only [Bool.or_eq_true, decide_eq_true_eq] at h
          exact wp_some (.inr (.inl ⟨hv, ⟨i, j, hi', hj, h⟩, rfl⟩))
        · simp only [Bool.or_eq_false_iff, decide_eq_false_iff_not] at h
          refine wp_must (by omega) (wp_must (by omega) (wp_must (by omega) (wp_must (by omega) (wp_must ?_ ?_))))
          · rw [List.length_append]; exact room_small (by simp; omega) (by omega)
          · refine hK2 _ ⟨by rw [List.length_append]; simp; omega, fun q hq => ?_⟩
            rw [getD_snoc, hJ.1]
            by_cases e : q = j
            · subst e; rw [if_pos rfl]; exact ⟨by omega, rfl⟩
            · rw [if_neg e]; exact hJ.2 q (by omega)
      · intro r hJ
        refine wp_must ?_ (hK _ ⟨by rw [List.length_append]; simp; omega, fun p hp => ?_⟩)
        · rw [List.length_append]; exact room_small (by simp; omega) (by omega)
        · unfold mat
          rw [getD_snoc, hI.1]
          by_cases e : p = i
          · subst e; rw [if_pos rfl]; exact hJ
          · rw [if_neg e]; exact hI.2 p (by omega)
    · intro s hI
      exact wp_some (.inr (.inr ⟨hv, fun p q hp hq => ((hI.2 p hp).2 q hq).1, rfl, ⟨hI.1, fun p hp => (hI.2 p hp).1⟩, fun p q hp hq => ((hI.2 p hp).2 q hq).2⟩))
def cap (x : Int) : Int := if x < 0 then 601 else min x 601
def capR (L H : Mx) (p q : Nat) : Range := ⟨cap (L p q), cap (H p q)⟩
theorem le_fw {A B : Mx} (h : ∀ p q, 0 ≤ B p q → 0 ≤ A p q ∧ A p q ≤ B p q) : ∀ k p q, 0 ≤ fw B k p q → 0 ≤ fw A k p q ∧ fw A k p q ≤ fw B k p q
  | 0, p, q, h1 => h p q h1
  | k + 1, p, q, h1 => by
    have a := le_fw h k p q
    have b := le_fw h k p k
    have d := le_fw h k k q
    unfold fw upd at h1 ⊢
    generalize fw A k p q = x1 at *; generalize fw A k p k = x2 at *; generalize fw A k k q = x3 at *
    generalize fw B k p q = y1 at *; generalize fw B k p k = y2 at *; generalize fw B k k q = y3 at *
    split at h1 <;> split <;> omega
theorem le_mw {c : Chart} {T U : Nat → Int} (h : ∀ i, i < c.Ways.length → 0 ≤ T i ∧ T i ≤ U i) : ∀ n, n ≤ c.Ways.length → ∀ p q, 0 ≤ mw c U n p q → 0 ≤ mw c T n p q ∧ mw c T n p q ≤ mw c U n p q
  | 0, _, p, q, h1 => ⟨h1, Int.le_refl _⟩
  | n + 1, hn, p, q, h1 => by
    have a := le_mw h n (by omega) p q
    have b := h n (by omega)
    unfold mw at h1 ⊢
    by_cases e : p = (way c n).From.toNat ∧ q = (way c n).To.toNat ∧ alw (way c n) = true
    · obtain ⟨e1, e2, e3⟩ := e
      revert h1 a
      generalize mw c T n p q = x; generalize mw c U n p q = y
      intro a h1
      simp only [e1, e2, e3, true_and] at h1 ⊢
      split at h1 <;> split <;> omega
    · rw [if_neg (fun x => e ⟨x.1, x.2.1, x.2.2.1⟩)] at h1 ⊢
      rw [if_neg (fun x => e ⟨x.1, x.2.1, x.2.2.1⟩)]
      exact a h1
theorem lo_le {c : Chart} (hv : valid c = true) (p q : Nat) (h : 0 ≤ hi c p q) : 0 ≤ lo c p q ∧ lo c p q ≤ hi c p q := by
  refine le_fw (le_mw (fun i hi => ?_) _ (Nat.le_refl _)) _ p q h
  have J := joins_iff.1 (joins_of hv hi)
  show 0 ≤ (way c i).Takes.Lo ∧ (way c i).Takes.Lo ≤ (way c i).Takes.Hi
  omega
theorem mw_hit {c : Chart} {T : Nat → Int} {n : Nat} (h : alw (way c n) = true) : mw c T (n + 1) (way c n).From.toNat (way c n).To.toNat = if mw c T n (way c n).From.toNat (way c n).To.toNat < 0 ∨ T n < mw c T n (way c n).From.toNat (way c n).To.toNat then T n else mw c T n (way c n).From.toNat (way c n).To.toNat := by
  show (if _ then _ else _) = _
  simp only [h, true_and]
structure MidR (P : Nat) (L H : Mx) (k p i : Nat) (s : List (List Range)) : Prop where
  shp : Shp P s
  val : ∀ p' q', p' < P → q' < P → mat s p' q' = if p' < p ∨ (p' = p ∧ q' < i) then ⟨cap (upd (L p' q') (L p' k) (L k q')), cap (upd (H p' q') (H p' k) (H k q'))⟩ else capR L H p' q'
end Go.Sp
