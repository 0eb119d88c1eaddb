/- Plain laws: Matrix, as the program and as the reference find it. No program in sight. -/
import Derived.Test.YtjeolkdhicmhgaaRPlJ
import Derived.Test.YtjeolkdhicmhgaaRWp
set_option linter.all false
namespace Go.Sp
open Go.Av
set_option maxRecDepth 100000

theorem getD_snoc {T : Type} (l : List T) (x d : T) (i : Nat) : (l ++ [x]).getD i d = if i = l.length then x else l.getD i d := by
  rw [List.getD_eq_getElem?_getD, List.getD_eq_getElem?_getD, List.getElem?_append]
  by_cases h : i < l.length
  · rw [if_pos h, if_neg (by omega)]
  · rw [if_neg h]
    by_cases e : i = l.length
    · rw [if_pos e, e, Nat.sub_self]; rfl
    · rw [if_neg e, List.getElem?_eq_none (by simp; omega), List.getElem?_eq_none (by omega)]

def lo (c : Chart) : Mx := dst c (boT c false)
def hi (c : Chart) : Mx := dst c (boT c true)

/-- What Matrix answers. -/
def MatP (c : Chart) (x : List (List Range) × Int) : Prop :=
  (valid c = false ∧ x = ([], 31)) ∨ (valid c = true ∧ (∃ p q, p < c.Places.toNat ∧ q < c.Places.toNat ∧ (hi c p q < 0 ∨ 600 < hi c p q)) ∧ x = ([], 35)) ∨
  (valid c = true ∧ (∀ p q, p < c.Places.toNat → q < c.Places.toNat → 0 ≤ hi c p q ∧ hi c p q ≤ 600) ∧ x.2 = 0 ∧ Shp c.Places.toNat x.1 ∧ ∀ p q, p < c.Places.toNat → q < c.Places.toNat → mat x.1 p q = ⟨lo c p q, hi c p q⟩)

theorem MatP.unique {c : Chart} {x y : List (List Range) × Int} (h : MatP c x) (k : MatP c y) : x = y := by
  rcases h with ⟨h1, h2⟩ | ⟨h1, ⟨p, q, hp, hq, h2⟩, h3⟩ | ⟨h1, h2, h3, h4, h5⟩ <;> rcases k with ⟨k1, k2⟩ | ⟨k1, ⟨p', q', kp, kq, k2⟩, k3⟩ | ⟨k1, k2, k3, k4, k5⟩
  · rw [h2, k2]
  · rw [h1] at k1; cases k1
  · rw [h1] at k1; cases k1
  · rw [h1] at k1; cases k1
  · rw [h3, k3]
  · have := k2 p q hp hq; omega
  · rw [h1] at k1; cases k1
  · have := h2 p' q' kp kq; omega
  · have e : x.1 = y.1 := mat_ext h4 k4 (fun p q hp hq => by rw [h5 p q hp hq, k5 p q hp hq])
    exact Prod.ext e (h3.trans k3.symm)

theorem matrix_eq {fuel : Nat} (hf : 41 ≤ fuel) (c : Chart) : Wp (round_Matrix fuel c) (MatP c) := by
  unfold round_Matrix
  refine wp_bindE (round_Check_eq c) ?_
  cases hv : valid c with
  | false => exact wp_true rfl (wp_some (.inl ⟨hv, rfl⟩))
  | true =>
    refine wp_false rfl ?_
    obtain ⟨⟨v1, v2⟩, _⟩ := valid_iff.1 hv
    obtain ⟨y4, e4, s4, m4⟩ := sums_eq hf (net_bo hv false) (fun x0 => round_least_1 x0 c) (leastT_eq c)
    obtain ⟨y6, e6, s6, m6⟩ := sums_eq hf (net_bo hv true) (fun x0 => round_most_1 x0 c) (most_eq c)
    refine wp_bindE e4 (wp_bindE e6 (wp_must (by omega) ?_))
    have l4 := s4.len
    have l6 := s6.len
    refine wp_range (fun i s => s.length = i ∧ ∀ p, p < i → (s.getD p []).length = c.Places.toNat ∧ ∀ q, q < c.Places.toNat → (0 ≤ hi c p q ∧ hi c p q ≤ 600) ∧ mat s p q = ⟨lo c p q, hi c p q⟩) ⟨rfl, fun p hp => by omega⟩ ?_ ?_
    · intro i s K hi' hI hK
      have r4 := s4.row i hi'
      have r6 := s6.row i hi'
      refine wp_must (by omega) ?_
      refine wp_range (fun j r => r.length = j ∧ ∀ q, q < j → (0 ≤ hi c i q ∧ hi c i q ≤ 600) ∧ r.getD q default = ⟨lo c i q, hi c i q⟩) ⟨rfl, fun p hp => by omega⟩ ?_ ?_
      · intro j r K2 hj hJ hK2
        have a4 : (y4.getD i default).getD j default = lo c i j := m4 i j hi' hj
        have a6 : (y6.getD i default).getD j default = hi c i j := m6 i j hi' hj
        have b6 : ((y6.getD i default).length : Nat) = c.Places.toNat := r6
        have b4 : ((y4.getD i default).length : Nat) = c.Places.toNat := r4
        rw [a6, a4, b6, b4, l6, l4]
        refine wp_must (by omega) (wp_must (by omega) (wp_must (fun _ => by omega) (wp_must (fun _ => by omega) ?_)))
        refine wp_bif (fun h => ?_) (fun h => ?_)
        · simp only [Bool.or_eq_true, decide_eq_true_eq] at h
          exact wp_some (.inr (.inl ⟨hv, ⟨i, j, hi', hj, h⟩, rfl⟩))
        · simp only [Bool.or_eq_false_iff, decide_eq_false_iff_not] at h
          refine wp_must (by omega) (wp_must (by omega) (wp_must (by omega) (wp_must (by omega) (wp_must ?_ ?_))))
          · rw [List.length_append]; exact room_small (by simp; omega) (by omega)
          · refine hK2 _ ⟨by rw [List.length_append]; simp; omega, fun q hq => ?_⟩
            rw [getD_snoc, hJ.1]
            by_cases e : q = j
            · subst e; rw [if_pos rfl]; exact ⟨by omega, rfl⟩
            · rw [if_neg e]; exact hJ.2 q (by omega)
      · intro r hJ
        refine wp_must ?_ (hK _ ⟨by rw [List.length_append]; simp; omega, fun p hp => ?_⟩)
        · rw [List.length_append]; exact room_small (by simp; omega) (by omega)
        · unfold mat
          rw [getD_snoc, hI.1]
          by_cases e : p = i
          · subst e; rw [if_pos rfl]; exact hJ
          · rw [if_neg e]; exact hI.2 p (by omega)
    · intro s hI
      exact wp_some (.inr (.inr ⟨hv, fun p q hp hq => ((hI.2 p hp).2 q hq).1, rfl, ⟨hI.1, fun p hp => (hI.2 p hp).1⟩, fun p q hp hq => ((hI.2 p hp).2 q hq).2⟩))

/-! ### The reference's -/
def cap (x : Int) : Int := if x < 0 then 601 else min x 601
theorem cap_upd {c a b : Int} (hc : -1 ≤ c) (ha : -1 ≤ a) (hb : -1 ≤ b) : cap (upd c a b) = min (cap c) (cap a + cap b) := by
  unfold cap upd
  repeat' split <;> omega
theorem cap_way {c t : Int} (hc : -1 ≤ c) (ht : 0 ≤ t ∧ t ≤ 600) : cap (if c < 0 ∨ t < c then t else c) = min (cap c) t := by
  unfold cap
  repeat' split <;> omega
def capR (L H : Mx) (p q : Nat) : Range := ⟨cap (L p q), cap (H p q)⟩

theorem le_fw {A B : Mx} (h : ∀ p q, 0 ≤ B p q → 0 ≤ A p q ∧ A p q ≤ B p q) : ∀ k p q, 0 ≤ fw B k p q → 0 ≤ fw A k p q ∧ fw A k p q ≤ fw B k p q
  | 0, p, q, h1 => h p q h1
  | k + 1, p, q, h1 => by
    have a := le_fw h k p q
    have b := le_fw h k p k
    have d := le_fw h k k q
    unfold fw upd at h1 ⊢
    generalize fw A k p q = x1 at *; generalize fw A k p k = x2 at *; generalize fw A k k q = x3 at *
    generalize fw B k p q = y1 at *; generalize fw B k p k = y2 at *; generalize fw B k k q = y3 at *
    split at h1 <;> split <;> omega
theorem le_mw {c : Chart} {T U : Nat → Int} (h : ∀ i, i < c.Ways.length → 0 ≤ T i ∧ T i ≤ U i) : ∀ n, n ≤ c.Ways.length → ∀ p q, 0 ≤ mw c U n p q → 0 ≤ mw c T n p q ∧ mw c T n p q ≤ mw c U n p q
  | 0, _, p, q, h1 => ⟨h1, Int.le_refl _⟩
  | n + 1, hn, p, q, h1 => by
    have a := le_mw h n (by omega) p q
    have b := h n (by omega)
    unfold mw at h1 ⊢
    by_cases e : p = (way c n).From.toNat ∧ q = (way c n).To.toNat ∧ alw (way c n) = true
    · obtain ⟨e1, e2, e3⟩ := e
      revert h1 a
      generalize mw c T n p q = x; generalize mw c U n p q = y
      intro a h1
      simp only [e1, e2, e3, true_and] at h1 ⊢
      split at h1 <;> split <;> omega
    · rw [if_neg (fun x => e ⟨x.1, x.2.1, x.2.2.1⟩)] at h1 ⊢
      rw [if_neg (fun x => e ⟨x.1, x.2.1, x.2.2.1⟩)]
      exact a h1
theorem lo_le {c : Chart} (hv : valid c = true) (p q : Nat) (h : 0 ≤ hi c p q) : 0 ≤ lo c p q ∧ lo c p q ≤ hi c p q := by
  refine le_fw (le_mw (fun i hi => ?_) _ (Nat.le_refl _)) _ p q h
  have J := joins_iff.1 (joins_of hv hi)
  show 0 ≤ (way c i).Takes.Lo ∧ (way c i).Takes.Lo ≤ (way c i).Takes.Hi
  omega

theorem mw_hit {c : Chart} {T : Nat → Int} {n : Nat} (h : alw (way c n) = true) : mw c T (n + 1) (way c n).From.toNat (way c n).To.toNat = if mw c T n (way c n).From.toNat (way c n).To.toNat < 0 ∨ T n < mw c T n (way c n).From.toNat (way c n).To.toNat then T n else mw c T n (way c n).From.toNat (way c n).To.toNat := by
  show (if _ then _ else _) = _
  simp only [h, true_and]
theorem mw_miss {c : Chart} {T : Nat → Int} {n p q : Nat} (h : ¬ (p = (way c n).From.toNat ∧ q = (way c n).To.toNat ∧ alw (way c n) = true)) : mw c T (n + 1) p q = mw c T n p q := by
  show (if _ then _ else _) = _
  rw [if_neg (fun x => h ⟨x.1, x.2.1, x.2.2.1⟩)]

structure MidR (P : Nat) (L H : Mx) (k p i : Nat) (s : List (List Range)) : Prop where
  shp : Shp P s
  val : ∀ p' q', p' < P → q' < P → mat s p' q' = if p' < p ∨ (p' = p ∧ q' < i) then ⟨cap (upd (L p' q') (L p' k) (L k q')), cap (upd (H p' q') (H p' k) (H k q'))⟩ else capR L H p' q'

theorem ref_matrix_eq {fuel : Nat} (hf : 41 ≤ fuel) (c : Chart) : Wp (gasolierref03_Matrix fuel c) (MatP c) := by
  unfold gasolierref03_Matrix
  refine wp_bindE (ref_Check_eq hf c) ?_
  cases hv : valid c with
  | false => exact wp_true rfl (wp_some (.inl ⟨hv, rfl⟩))
  | true =>
    refine wp_false rfl ?_
    obtain ⟨⟨v1, v2⟩, v3, v4⟩ := valid_iff.1 hv
    obtain ⟨P, hP⟩ : ∃ P : Nat, c.Places.toNat = P := ⟨_, rfl⟩
    have hPi : c.Places = (P : Int) := by omega
    refine wp_must ⟨by omega, by omega, room_small (by omega) (by omega)⟩ ?_
    rw [hP, hPi]
    refine wp_for P (by omega) (fun i s => s.length = P ∧ ∀ p, p < P → (p < i → (s.getD p []).length = P ∧ ∀ q, q < P → mat s p q = if p = q then ⟨0, 0⟩ else ⟨601, 601⟩) ∧ (i ≤ p → s.getD p [] = [])) ⟨List.length_replicate, fun p hp => ⟨fun h => by omega, fun _ => by rw [List.getD_eq_getElem?_getD, List.getElem?_replicate, if_pos hp]; rfl⟩⟩ ?_
    intro i s K hi' hI hK
    dsimp only
    refine wp_ifd (fun h => ?_) (fun h => ?_)
    · have hiP : i < P := by omega
      refine wp_must ⟨by omega, by omega, room_small (by omega) (by omega)⟩ (wp_must (by omega) (wp_must ?_ ?_))
      · rw [Int.toNat_natCast, (hI.2 i hiP).2 (Nat.le_refl _), List.length_replicate]; show 0 < _; omega
      rw [Int.toNat_natCast]
      refine wp_for P (by omega) (fun j t => t.length = P ∧ (∀ p, p < P → p ≠ i → t.getD p [] = s.getD p []) ∧ (t.getD i []).length = P ∧ ∀ q, q < P → mat t i q = if q < j ∧ i ≠ q then ⟨601, 601⟩ else ⟨0, 0⟩) ⟨by rw [List.length_set]; exact hI.1, fun p hp hne => ?_, ?_, fun q hq => ?_⟩ ?_
      · rw [getD_set' _ _ _ _ _ (by omega), if_neg hne]
      · rw [getD_set' _ _ _ _ _ (by omega), if_pos rfl, List.length_replicate]
      · unfold mat
        rw [getD_set' _ _ _ _ _ (by omega), if_pos rfl, if_neg (by omega), List.getD_eq_getElem?_getD, List.getElem?_replicate, if_pos hq]; rfl
      · intro j t K2 hj hJ hK2
        dsimp only
        refine wp_ifd (fun g => ?_) (fun g => ?_)
        · have hjP : j < P := by omega
          refine wp_ifn (fun g2 => ?_) (fun g2 => ?_)
          · rw [Int.toNat_natCast]
            refine wp_must (by omega) (wp_must (by omega) (wp_must (by unfold inI; omega) (hK2 _ hjP ⟨by rw [List.length_set]; exact hJ.1, fun p hp hne => ?_, ?_, fun q hq => ?_⟩)))
            · rw [getD_set' _ _ _ _ _ (by omega), if_neg hne]; exact hJ.2.1 p hp hne
            · rw [getD_set' _ _ _ _ _ (by omega), if_pos rfl, List.length_set]; exact hJ.2.2.1
            · have := hJ.2.2.2 q hq
              unfold mat at this ⊢
              rw [getD_set' _ _ _ _ _ (by omega), if_pos rfl, getD_set _ _ _ _ (by omega)]
              by_cases e : q = j
              · subst e; rw [if_pos rfl, if_pos (by omega)]
              · rw [if_neg e, this]
                by_cases e2 : q < j ∧ i ≠ q
                · rw [if_pos e2, if_pos (by omega)]
                · rw [if_neg e2, if_neg (by omega)]
          · refine wp_must (by unfold inI; omega) (hK2 _ hjP ⟨hJ.1, hJ.2.1, hJ.2.2.1, fun q hq => ?_⟩)
            rw [hJ.2.2.2 q hq]
            by_cases e2 : q < j ∧ i ≠ q
            · rw [if_pos e2, if_pos (by omega)]
            · rw [if_neg e2, if_neg (by omega)]
        · have hjP : j = P := by omega
          refine wp_must (by unfold inI; omega) (hK _ hiP ⟨hJ.1, fun p hp => ⟨fun hl => ?_, fun hl => ?_⟩⟩)
          · by_cases e : p = i
            · subst e
              refine ⟨hJ.2.2.1, fun q hq => ?_⟩
              rw [hJ.2.2.2 q hq]
              by_cases e2 : p = q
              · rw [if_pos e2, if_neg (by omega)]
              · rw [if_neg e2, if_pos (by omega)]
            · have e1 := hJ.2.1 p hp e
              have := (hI.2 p hp).1 (by omega)
              refine ⟨by rw [e1]; exact this.1, fun q hq => ?_⟩
              have g3 := this.2 q hq
              unfold mat at g3 ⊢
              rw [e1]; exact g3
          · rw [hJ.2.1 p hp (by omega)]
            exact (hI.2 p hp).2 (by omega)
    · have hiP : i = P := by omega
      subst hiP
      have N0 := net_bo hv false
      have N1 := net_bo hv true
      have nl0 := nice_mw N0
      have nl1 := nice_mw N1
      rw [hP] at nl0 nl1
      refine wp_for c.Ways.length (by omega) (fun n t => Shp i t ∧ ∀ p q, p < i → q < i → mat t p q = capR (mw c (boT c false) n) (mw c (boT c true) n) p q) ⟨⟨hI.1, fun p hp => ((hI.2 p hp).1 hp).1⟩, fun p q hp hq => ?_⟩ ?_
      · rw [((hI.2 p hp).1 hp).2 q hq]
        unfold capR mw m0
        by_cases e : p = q
        · simp only [if_pos e]; rfl
        · simp only [if_neg e]; rfl
      intro n t K2 hn hT hK2
      dsimp only
      refine wp_ifd (fun g => ?_) (fun g => ?_)
      · have hnl : n < c.Ways.length := by omega
        have J := joins_iff.1 (joins_of hv hnl)
        rw [Int.toNat_natCast, show c.Ways.getD n default = way c n from rfl]
        have hF : (way c n).From.toNat < i := by omega
        have hTo : (way c n).To.toNat < i := by omega
        have ln := hT.1.len
        have rw1 := hT.1.row _ hF
        refine wp_must (by omega) (wp_bif (fun g2 => ?_) (fun g2 => ?_))
        · refine wp_must (by omega) (wp_must (by omega) (wp_must (by omega) (wp_must (by omega) (wp_must (by unfold inI; omega) (hK2 _ hnl ⟨(mat_set hT.1 hF hTo _).1, fun p q hp hq => ?_⟩)))))
          rw [(mat_set hT.1 hF hTo _).2 p q]
          have ev := hT.2 _ _ hF hTo
          have e0 := nl0 n (by omega)
          have e1 := nl1 n (by omega)
          have alw1 : alw (way c n) = true := g2
          by_cases e : p = (way c n).From.toNat ∧ q = (way c n).To.toNat
          · rw [if_pos e]
            unfold mat at ev
            rw [ev]
            obtain ⟨rfl, rfl⟩ := e
            unfold capR
            rw [mw_hit alw1, mw_hit alw1, cap_way (e0.ge _ _ hF hTo).1 (by show 0 ≤ (way c n).Takes.Lo ∧ (way c n).Takes.Lo ≤ 600; omega), cap_way (e1.ge _ _ hF hTo).1 (by show 0 ≤ (way c n).Takes.Hi ∧ (way c n).Takes.Hi ≤ 600; omega)]
            rfl
          · rw [if_neg e, hT.2 p q hp hq]
            unfold capR
            rw [mw_miss (fun x => e ⟨x.1, x.2.1⟩), mw_miss (fun x => e ⟨x.1, x.2.1⟩)]
        · refine wp_must (by unfold inI; omega) (hK2 _ hnl ⟨hT.1, fun p q hp hq => ?_⟩)
          have alw1 : ¬ alw (way c n) = true := by intro x; have g3 : alw (way c n) = false := g2; rw [g3] at x; cases x
          rw [hT.2 p q hp hq]
          unfold capR
          rw [mw_miss (fun x => alw1 x.2.2), mw_miss (fun x => alw1 x.2.2)]
      · have hnl : n = c.Ways.length := by omega
        subst hnl
        have f0 := nice_fw (nl0 _ (Nat.le_refl _))
        have f1 := nice_fw (nl1 _ (Nat.le_refl _))
        generalize hL : mw c (boT c false) c.Ways.length = L at hT f0
        generalize hH : mw c (boT c true) c.Ways.length = H at hT f1
        refine wp_for i (by omega) (fun k t => Shp i t ∧ ∀ p q, p < i → q < i → mat t p q = capR (fw L k) (fw H k) p q) ⟨hT.1, hT.2⟩ ?_
        intro k t2 K3 hk hT2 hK3
        dsimp only
        refine wp_ifd (fun g2 => ?_) (fun g2 => ?_)
        · have hki : k < i := by omega
          have F0 := f0 k (by omega)
          have F1 := f1 k (by omega)
          have bl := bnd_12 (k := k) (by omega)
          refine wp_for i (by omega) (fun a u => MidR i (fw L k) (fw H k) k a 0 u) ⟨hT2.1, fun p q hp hq => by rw [if_neg (by omega)]; exact hT2.2 p q hp hq⟩ ?_
          intro a u K4 ha hU hK4
          dsimp only
          refine wp_ifd (fun g3 => ?_) (fun g3 => ?_)
          · have hai : a < i := by omega
            refine wp_for i (by omega) (fun d v => MidR i (fw L k) (fw H k) k a d v) hU ?_
            intro d v K5 hd hV hK5
            dsimp only
            refine wp_ifd (fun g4 => ?_) (fun g4 => ?_)
            · have hdi : d < i := by omega
              have ln := hV.shp.len
              have ra := hV.shp.row a hai
              have rk := hV.shp.row k hki
              have ead : (v.getD a []).getD d default = capR (fw L k) (fw H k) a d := by
                have := hV.val a d hai hdi; rw [if_neg (by omega)] at this; exact this
              have eak : (v.getD a []).getD k default = capR (fw L k) (fw H k) a k := by
                have := hV.val a k hai hki
                rw [F0.dg k hki, F1.dg k hki, upd_a, upd_a] at this
                unfold mat at this; rw [this]; split <;> rfl
              have ekd : (v.getD k []).getD d default = capR (fw L k) (fw H k) k d := by
                have := hV.val k d hki hdi
                rw [F0.dg k hki, F1.dg k hki, upd_b, upd_b] at this
                unfold mat at this; rw [this]; split <;> rfl
              have c1 := F0.ge a d hai hdi
              have c2 := F0.ge a k hai hki
              have c3 := F0.ge k d hki hdi
              have c4 := F1.ge a d hai hdi
              have c5 := F1.ge a k hai hki
              have c6 := F1.ge k d hki hdi
              have cb : ∀ x : Int, 0 ≤ cap x ∧ cap x ≤ 601 := fun x => by unfold cap; split <;> omega
              simp only [Int.toNat_natCast]
              have w1 := cb (fw L k a k)
              have w2 := cb (fw L k k d)
              have w3 := cb (fw H k a k)
              have w4 := cb (fw H k k d)
              refine wp_must (by omega) (wp_must (by omega) (wp_must (by omega) (wp_must (by omega) (wp_must (by omega) (wp_must (by omega) (wp_must (by omega) (wp_must (by rw [eak, ekd]; unfold inI capR; dsimp only; omega) ?_)))))))
              refine wp_must (by omega) (wp_must (by omega) (wp_must (by omega) (wp_must (by omega) (wp_must (by rw [eak, ekd]; unfold inI capR; dsimp only; omega) (wp_must (by omega) (wp_must (by unfold inI; omega) (hK5 _ hdi ⟨(mat_set hV.shp hai hdi _).1, fun p q hp hq => ?_⟩)))))))
              rw [(mat_set hV.shp hai hdi _).2 p q]
              by_cases e : p = a ∧ q = d
              · obtain ⟨rfl, rfl⟩ := e
                rw [ead, eak, ekd, if_pos ⟨rfl, rfl⟩, if_pos (by omega), cap_upd c1.1 c2.1 c3.1, cap_upd c4.1 c5.1 c6.1]; rfl
              · rw [if_neg e, hV.val p q hp hq]
                by_cases e2 : p < a ∨ p = a ∧ q < d
                · rw [if_pos e2, if_pos (by omega)]
                · rw [if_neg e2, if_neg (by omega)]
            · have hdi : d = i := by omega
              subst hdi
              refine wp_must (by unfold inI; omega) (hK4 _ hai ⟨hV.shp, fun p q hp hq => ?_⟩)
              rw [hV.val p q hp hq]
              by_cases e2 : p < a ∨ p = a ∧ q < d
              · rw [if_pos e2, if_pos (by omega)]
              · rw [if_neg e2, if_neg (by omega)]
          · have hai : a = i := by omega
            subst hai
            refine wp_must (by unfold inI; omega) (hK3 _ hki ⟨hU.shp, fun p q hp hq => ?_⟩)
            rw [hU.val p q hp hq, if_pos (by omega)]; rfl
        · have hki : k = i := by omega
          subst hki
          have hlo : lo c = fw L k := by unfold lo dst; rw [hL, hP]
          have hhi : hi c = fw H k := by unfold hi dst; rw [hH, hP]
          have F1 := f1 k (Nat.le_refl _)
          refine wp_for1 k (by omega) (fun a => ∀ p q, p < a → q < k → cap (fw H k p q) ≤ 600) (fun p q hp => by omega) ?_
          intro a K4 ha hA hK4
          try dsimp only
          refine wp_ifd (fun g3 => ?_) (fun g3 => ?_)
          · have hak : a < k := by omega
            refine wp_for1 k (by omega) (fun b => ∀ q, q < b → cap (fw H k a q) ≤ 600) (fun q hq => by omega) ?_
            intro b K5 hb hB hK5
            try dsimp only
            refine wp_ifd (fun g4 => ?_) (fun g4 => ?_)
            · have hbk : b < k := by omega
              have ln := hT2.1.len
              have ra := hT2.1.row a hak
              have eab : (t2.getD a []).getD b default = capR (fw L k) (fw H k) a b := hT2.2 a b hak hbk
              simp only [Int.toNat_natCast]
              refine wp_must (by omega) (wp_must (by omega) (wp_ifd (fun g5 => ?_) (fun g5 => ?_)))
              · refine wp_some (.inr (.inl ⟨hv, ⟨a, b, by omega, by omega, ?_⟩, rfl⟩))
                rw [hhi]
                rw [eab] at g5
                have : 600 < cap (fw H k a b) := g5
                unfold cap at this
                split at this <;> omega
              · refine wp_must (by unfold inI; omega) (hK5 hbk (fun q hq => ?_))
                by_cases e : q = b
                · subst e; rw [eab] at g5; have : ¬ 600 < cap (fw H k a q) := g5; omega
                · exact hB q (by omega)
            · have hbk : b = k := by omega
              subst hbk
              refine wp_must (by unfold inI; omega) (hK4 hak (fun p q hp hq => ?_))
              by_cases e : p = a
              · subst e; exact hB q hq
              · exact hA p q (by omega) hq
          · have hak : a = k := by omega
            subst hak
            have ok : ∀ p q, p < a → q < a → 0 ≤ hi c p q ∧ hi c p q ≤ 600 := fun p q hp hq => by
              have h1 := hA p q hp hq
              have h2 := F1.ge p q hp hq
              rw [hhi]
              unfold cap at h1
              split at h1 <;> omega
            refine wp_some (.inr (.inr ⟨hv, by rw [hP]; exact ok, rfl, by rw [hP]; exact hT2.1, fun p q hp hq => ?_⟩))
            rw [hP] at hp hq
            have h1 := ok p q hp hq
            have h2 := lo_le hv p q h1.1
            rw [hT2.2 p q hp hq, ← hlo, ← hhi]
            unfold capR cap
            rw [if_neg (by omega), if_neg (by omega), Int.min_eq_left (by omega), Int.min_eq_left (by omega)]

end Go.Sp
