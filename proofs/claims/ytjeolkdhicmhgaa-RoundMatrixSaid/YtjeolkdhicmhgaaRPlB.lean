/- Plain laws: when a way ends; the least minutes. No program in sight. -/
import Derived.Test.YtjeolkdhicmhgaaRPlA
set_option linter.all false
namespace Go.Sp
open Go.Av
theorem joins_iff {c : Chart} {w : Way} : round_joins c w = true ↔ (0 ≤ w.From ∧ w.From ≤ 11) ∧ (0 ≤ w.To ∧ w.To ≤ 11) ∧ w.From ≠ w.To ∧ (1 ≤ w.Takes.Lo ∧ w.Takes.Lo ≤ w.Takes.Hi ∧ w.Takes.Hi ≤ 600) ∧
    (0 ≤ w.Open.Lo ∧ w.Open.Lo ≤ w.Open.Hi ∧ w.Open.Hi ≤ 1439) ∧ (0 ≤ w.Every ∧ w.Every ≤ 600) ∧ w.From < c.Places ∧ w.To < c.Places := by
  unfold round_joins round_isWay round_isSpan round_within
  simp only [Bool.and_eq_true, Bool.not_eq_true', decide_eq_true_eq, decide_eq_false_iff_not]
  omega
structure Fit (w : Way) : Prop where
  lo : 0 ≤ w.Open.Lo
  hi : w.Open.Lo ≤ w.Open.Hi
  top : w.Open.Hi ≤ 1439
  every : 0 ≤ w.Every ∧ w.Every ≤ 600
theorem fit_of {c : Chart} {w : Way} (h : round_joins c w = true) : Fit w := by
  have := joins_iff.1 h
  exact ⟨this.2.2.2.2.1.1, this.2.2.2.2.1.2.1, this.2.2.2.2.1.2.2, this.2.2.2.2.2.1⟩
def bgn (w : Way) (a : Int) : Int := if 0 < w.Every then w.Open.Lo + ((max a w.Open.Lo - w.Open.Lo + w.Every - 1) / w.Every) * w.Every else max a w.Open.Lo
theorem bgn_ge {w : Way} (hf : Fit w) (a : Int) : a ≤ bgn w a ∧ w.Open.Lo ≤ bgn w a ∧ bgn w a ≤ max a w.Open.Lo + 599 := by
  unfold bgn
  have h1 := hf.every
  split
  · rename_i hE
    have h2 := Int.lt_ediv_add_one_mul_self (max a w.Open.Lo - w.Open.Lo + w.Every - 1) hE
    have h3 := Int.ediv_mul_le (max a w.Open.Lo - w.Open.Lo + w.Every - 1) (b := w.Every) (by omega)
    rw [Int.add_mul, Int.one_mul] at h2
    generalize (max a w.Open.Lo - w.Open.Lo + w.Every - 1) / w.Every * w.Every = q at *
    omega
  · omega
theorem bgn_mono {w : Way} (hf : Fit w) {a b : Int} (h : a ≤ b) : bgn w a ≤ bgn w b := by
  unfold bgn
  split
  · rename_i hE
    have : (max a w.Open.Lo - w.Open.Lo + w.Every - 1) / w.Every ≤ (max b w.Open.Lo - w.Open.Lo + w.Every - 1) / w.Every := Int.ediv_le_ediv hE (by omega)
    have := Int.mul_le_mul_of_nonneg_right this (by omega : (0 : Int) ≤ w.Every)
    omega
  · omega
theorem bgn_tdiv {w : Way} (hf : Fit w) (hE : 0 < w.Every) (a : Int) : Int.tdiv (max a w.Open.Lo - w.Open.Lo + w.Every - 1) w.Every = (max a w.Open.Lo - w.Open.Lo + w.Every - 1) / w.Every :=
  Int.tdiv_eq_ediv_of_nonneg (by have := hf.lo; omega)
theorem begin_joinK {R : Type} {w : Way} (hf : Fit w) {a : Int} (h0 : 0 ≤ a) (h1 : a ≤ 100000) (k : Int → Option R) :
    (joinK (fun (k1 : Int → _) => (bif (decide (0 < w.Every)) then must (inI ((max a w.Open.Lo) - w.Open.Lo)) <| must (inI (((max a w.Open.Lo) - w.Open.Lo) + w.Every)) <| must (inI ((((max a w.Open.Lo) - w.Open.Lo) + w.Every) - 1)) <| must ((w.Every : Int) ≠ 0 ∧ inI (Int.tdiv ((((max a w.Open.Lo) - w.Open.Lo) + w.Every) - 1) w.Every)) <| must (inI ((Int.tdiv ((((max a w.Open.Lo) - w.Open.Lo) + w.Every) - 1) w.Every) * w.Every)) <| must (inI (w.Open.Lo + ((Int.tdiv ((((max a w.Open.Lo) - w.Open.Lo) + w.Every) - 1) w.Every) * w.Every))) <| k1 (w.Open.Lo + ((Int.tdiv ((((max a w.Open.Lo) - w.Open.Lo) + w.Every) - 1) w.Every) * w.Every)) else k1 (max a w.Open.Lo))) k) = k (bgn w a) := by
  have g := bgn_ge hf a
  have g1 := hf.lo; have g2 := hf.hi; have g3 := hf.top; have g4 := hf.every
  unfold joinK
  dsimp only
  by_cases hE : 0 < w.Every
  · rw [decide_eq_true hE, cond_true, bgn_tdiv hf hE]
    unfold bgn at g ⊢
    rw [if_pos hE] at g ⊢
    have h3 := Int.ediv_mul_le (max a w.Open.Lo - w.Open.Lo + w.Every - 1) (b := w.Every) (by omega)
    have h4 : (max a w.Open.Lo - w.Open.Lo + w.Every - 1) / w.Every ≤ max a w.Open.Lo - w.Open.Lo + w.Every - 1 := Int.ediv_le_self _ (by omega)
    have h5 : 0 ≤ (max a w.Open.Lo - w.Open.Lo + w.Every - 1) / w.Every := Int.ediv_nonneg (by omega) (by omega)
    rw [must_pos (by unfold inI; omega), must_pos (by unfold inI; omega), must_pos (by unfold inI; omega), must_pos (by unfold inI; omega), must_pos (by unfold inI; omega), must_pos (by unfold inI; omega)]
  · rw [decide_eq_false hE, cond_false]
    unfold bgn
    rw [if_neg hE]
theorem leave_eq {w : Way} (hf : Fit w) {a : Int} (h0 : 0 ≤ a) (h1 : a ≤ 100000) : round_leave w a = some (bgn w a, decide (bgn w a ≤ w.Open.Hi)) := by
  unfold round_leave
  rw [begin_joinK hf h0 h1]
def fin (w : Way) (t a : Int) : Option Int := if bgn w a ≤ w.Open.Hi ∧ bgn w a + t ≤ 1439 then some (bgn w a + t) else none
theorem fin_gt {w : Way} (hf : Fit w) {t a b : Int} (ht : 1 ≤ t) (h : fin w t a = some b) : a < b ∧ 0 < b ∧ b ≤ 1439 := by
  unfold fin at h
  have g := bgn_ge hf a
  have := hf.lo
  split at h
  · cases h; omega
  · cases h
theorem fin_mono {w : Way} (hf : Fit w) {t a b y : Int} (h : a ≤ b) (hb : fin w t b = some y) : ∃ x, fin w t a = some x ∧ x ≤ y := by
  unfold fin at hb ⊢
  have g := bgn_mono hf h
  split at hb
  · cases hb
    rename_i hc
    rw [if_pos (by omega)]
    exact ⟨_, rfl, by omega⟩
  · cases hb
theorem fin_less {w : Way} {t u a y : Int} (h : t ≤ u) (hb : fin w u a = some y) : ∃ x, fin w t a = some x ∧ x ≤ y := by
  unfold fin at hb ⊢
  split at hb
  · cases hb
    rename_i hc
    rw [if_pos (by omega)]
    exact ⟨_, rfl, by omega⟩
  · cases hb
def way (c : Chart) (i : Nat) : Way := c.Ways.getD i default
structure Net (c : Chart) (T : Nat → Int) : Prop where
  val : valid c = true
  len : ∀ i, i < c.Ways.length → 1 ≤ T i ∧ T i ≤ 600
theorem way_mem {c : Chart} {i : Nat} (hi : i < c.Ways.length) : way c i ∈ c.Ways := by
  unfold way
  rw [List.getD_eq_getElem?_getD, List.getElem?_eq_getElem hi]
  exact List.getElem_mem hi
theorem joins_of {c : Chart} (hv : valid c = true) {i : Nat} (hi : i < c.Ways.length) : round_joins c (way c i) = true := (valid_iff.1 hv).2.2 _ (way_mem hi)
inductive Arr (c : Chart) (T : Nat → Int) (s a0 : Int) : Int → Int → Prop
  | start : Arr c T s a0 s a0
  | step (p a : Int) (i : Nat) (b : Int) (h : Arr c T s a0 p a) (hi : i < c.Ways.length) (hf : (way c i).From = p) (hb : fin (way c i) (T i) a = some b) : Arr c T s a0 (way c i).To b
theorem Arr.bounds {c : Chart} {T : Nat → Int} (N : Net c T) {s a0 p a : Int} (hs : 0 ≤ s ∧ s < c.Places) (h0 : 0 ≤ a0 ∧ a0 ≤ 1439) (h : Arr c T s a0 p a) : (0 ≤ p ∧ p < c.Places) ∧ a0 ≤ a ∧ a ≤ 1439 := by
  induction h with
  | start => omega
  | step p a i b h hi hf hb ih =>
    have j := joins_iff.1 (joins_of N.val hi)
    have g := fin_gt (fit_of (joins_of N.val hi)) (N.len i hi).1 hb
    omega
def Lst (c : Chart) (T : Nat → Int) (s a0 p : Int) : Option Int → Prop
  | some a => Arr c T s a0 p a ∧ ∀ b, Arr c T s a0 p b → a ≤ b
  | none => ∀ b, ¬ Arr c T s a0 p b
theorem Lst.unique {c : Chart} {T : Nat → Int} {s a0 p : Int} {x y : Option Int} (hx : Lst c T s a0 p x) (hy : Lst c T s a0 p y) : x = y := by
  cases x with
  | none => cases y with
    | none => rfl
    | some b => exact absurd hy.1 (hx b)
  | some a => cases y with
    | none => exact absurd hx.1 (hy a)
    | some b =>
      have h1 := hx.2 b hy.1
      have h2 := hy.2 a hx.1
      rw [show a = b by omega]
theorem cert {c : Chart} {T : Nat → Int} (N : Net c T) {s a0 : Int} (d : Int → Option Int) (sound : ∀ p a, d p = some a → Arr c T s a0 p a) (st : ∃ a, d s = some a ∧ a ≤ a0)
    (closed : ∀ i, i < c.Ways.length → ∀ a b, d (way c i).From = some a → fin (way c i) (T i) a = some b → ∃ x, d (way c i).To = some x ∧ x ≤ b) (p : Int) : Lst c T s a0 p (d p) := by
  have key : ∀ p b, Arr c T s a0 p b → ∃ a, d p = some a ∧ a ≤ b := by
    intro p b h
    induction h with
    | start => exact st
    | step p a i b h hi hf hb ih =>
      obtain ⟨a', h1, h2⟩ := ih
      obtain ⟨b', k1, k2⟩ := fin_mono (fit_of (joins_of N.val hi)) h2 hb
      rw [← hf] at h1
      obtain ⟨x, h3, h4⟩ := closed i hi a' b' h1 k1
      exact ⟨x, h3, by omega⟩
  cases hd : d p with
  | none =>
    intro b hb
    obtain ⟨a, h1, _⟩ := key p b hb
    rw [hd] at h1; cases h1
  | some a =>
    refine ⟨sound p a hd, fun b hb => ?_⟩
    obtain ⟨a', h1, h2⟩ := key p b hb
    rw [hd] at h1; cases h1; exact h2
end Go.Sp
