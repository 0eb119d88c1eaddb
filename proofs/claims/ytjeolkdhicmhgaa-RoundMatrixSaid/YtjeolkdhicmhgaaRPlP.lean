/- Plain laws: walks over ways that are always open; the matrix is their least sum. No program in sight. -/
import Derived.Test.YtjeolkdhicmhgaaRPlK
import Derived.Test.YtjeolkdhicmhgaaRWq
set_option linter.all false
namespace Go.Sp
open Go.Av
set_option maxRecDepth 100000
inductive Wk (c : Chart) (T : Nat → Int) (s : Nat) : Nat → Int → Prop
  | nil : Wk c T s s 0
  | snoc (p : Nat) (x : Int) (i : Nat) (h : Wk c T s p x) (hi : i < c.Ways.length) (ha : alw (way c i) = true) (hf : (way c i).From.toNat = p) : Wk c T s (way c i).To.toNat (x + T i)
theorem Wk.cat {c : Chart} {T : Nat → Int} {s k d : Nat} {x y : Int} (h : Wk c T s k x) (h2 : Wk c T k d y) : Wk c T s d (x + y) := by
  induction h2 with
  | nil => rw [Int.add_zero]; exact h
  | snoc p x i h hi ha hf ih => rw [← Int.add_assoc]; exact .snoc p _ i ih hi ha hf
theorem Wk.ge {c : Chart} {T : Nat → Int} (N : Net c T) {s p : Nat} {x : Int} (h : Wk c T s p x) : 0 ≤ x := by
  induction h with
  | nil => omega
  | snoc p x i h hi ha hf ih => have := N.len i hi; omega
theorem wk_mw {c : Chart} {T : Nat → Int} : ∀ n, n ≤ c.Ways.length → ∀ p q, 0 ≤ mw c T n p q → Wk c T p q (mw c T n p q)
  | 0, _, p, q, h => by
    unfold mw m0 at h ⊢
    split at h
    · rename_i e; subst e; rw [if_pos rfl]; exact .nil
    · omega
  | n + 1, hn, p, q, h => by
    unfold mw at h ⊢
    split at h
    · rename_i e
      rw [if_pos e]
      obtain ⟨rfl, rfl, e3, _⟩ := e
      have := Wk.snoc (T := T) (s := (way c n).From.toNat) _ 0 n .nil (by omega) e3 rfl
      rw [Int.zero_add] at this; exact this
    · rename_i e
      rw [if_neg e]
      exact wk_mw n (by omega) p q h
theorem wk_fw {c : Chart} {T : Nat → Int} {M : Mx} (hM : ∀ p q, 0 ≤ M p q → Wk c T p q (M p q)) : ∀ k p q, 0 ≤ fw M k p q → Wk c T p q (fw M k p q)
  | 0, p, q, h => hM p q h
  | k + 1, p, q, h => by
    unfold fw upd at h ⊢
    split at h
    · rename_i e
      rw [if_pos e]
      exact (wk_fw hM k p k e.1).cat (wk_fw hM k k q e.2.1)
    · rename_i e
      rw [if_neg e]
      exact wk_fw hM k p q h
theorem fw_tri {P : Nat} {M : Mx} (N : Nice P 600 M) : ∀ k, k ≤ P → ∀ i, i < k → ∀ a d, a < P → d < P → 0 ≤ fw M k a i → 0 ≤ fw M k i d → 0 ≤ fw M k a d ∧ fw M k a d ≤ fw M k a i + fw M k i d
  | 0, _, i, hi, _, _, _, _, _, _ => by omega
  | k + 1, hk, i, hi, a, d, ha, hd, h1, h2 => by
    have Nk := nice_fw N k (by omega)
    have kk := Nk.dg k (by omega)
    have g1 := Nk.ge a d ha hd
    have g2 := Nk.ge a k ha (by omega)
    have g3 := Nk.ge k d (by omega) hd
    unfold fw upd at h1 h2 ⊢
    by_cases e : i = k
    · subst e
      rw [kk] at h1 h2 ⊢
      have e1 : ∀ z : Int, (if 0 ≤ z ∧ (0 : Int) ≤ 0 ∧ (z < 0 ∨ z + 0 < z) then z + 0 else z) = z := fun z => if_neg (by omega)
      have e2 : ∀ z : Int, (if (0 : Int) ≤ 0 ∧ 0 ≤ z ∧ (z < 0 ∨ 0 + z < z) then 0 + z else z) = z := fun z => if_neg (by omega)
      rw [e1] at h1 ⊢
      rw [e2] at h2 ⊢
      split <;> omega
    · have g4 := Nk.ge a i ha (by omega)
      have g5 := Nk.ge i d (by omega) hd
      have g6 := Nk.ge k i (by omega) (by omega)
      have g7 := Nk.ge i k (by omega) (by omega)
      have t1 := fw_tri N k (by omega) i (by omega) a d ha hd
      have t2 := fw_tri N k (by omega) i (by omega) a k ha (by omega)
      have t3 := fw_tri N k (by omega) i (by omega) k d (by omega) hd
      generalize fw M k a d = x at *
      generalize fw M k a k = x1 at *
      generalize fw M k k d = x2 at *
      generalize fw M k a i = x3 at *
      generalize fw M k i d = x4 at *
      generalize fw M k k i = x5 at *
      generalize fw M k i k = x6 at *
      split at h1 <;> split at h2
      · rename_i e1 e2
        rw [if_pos e1, if_pos e2]
        split <;> omega
      · rename_i e1 e2
        rw [if_pos e1, if_neg e2]
        have := t3 e1.2.1 h2
        split <;> omega
      · rename_i e1 e2
        rw [if_neg e1, if_pos e2]
        have := t2 h1 e2.1
        split <;> omega
      · rename_i e1 e2
        rw [if_neg e1, if_neg e2]
        have := t1 h1 h2
        split <;> omega
theorem mw_edge {c : Chart} {T : Nat → Int} (N : Net c T) : ∀ n, n ≤ c.Ways.length → ∀ i, i < n → alw (way c i) = true → 0 ≤ mw c T n (way c i).From.toNat (way c i).To.toNat ∧ mw c T n (way c i).From.toNat (way c i).To.toNat ≤ T i
  | 0, _, i, hi, _ => by omega
  | n + 1, hn, i, hi, ha => by
    have hT := N.len n (by omega)
    by_cases e : i = n
    · subst e
      have h0 := (nice_mw N i (by omega)).ge (way c i).From.toNat (way c i).To.toNat (by have := joins_iff.1 (joins_of N.val (show i < c.Ways.length by omega)); omega) (by have := joins_iff.1 (joins_of N.val (show i < c.Ways.length by omega)); omega)
      rw [mw_hit ha]
      split <;> omega
    · have := mw_edge N n (by omega) i (by omega) ha
      unfold mw
      split <;> omega
theorem fw_le {M : Mx} : ∀ k p q, 0 ≤ M p q → 0 ≤ fw M k p q ∧ fw M k p q ≤ M p q
  | 0, p, q, h => ⟨h, Int.le_refl _⟩
  | k + 1, p, q, h => by
    have := fw_le k p q h
    unfold fw upd
    split <;> omega
theorem dst_wk {c : Chart} {T : Nat → Int} (p q : Nat) (h : 0 ≤ dst c T p q) : Wk c T p q (dst c T p q) :=
  wk_fw (fun p q h => wk_mw _ (Nat.le_refl _) p q h) _ p q h
theorem dst_tri {c : Chart} {T : Nat → Int} (N : Net c T) {a b d : Nat} (ha : a < c.Places.toNat) (hb : b < c.Places.toNat) (hd : d < c.Places.toNat) (h1 : 0 ≤ dst c T a b) (h2 : 0 ≤ dst c T b d) : 0 ≤ dst c T a d ∧ dst c T a d ≤ dst c T a b + dst c T b d :=
  fw_tri (nice_mw N _ (Nat.le_refl _)) _ (Nat.le_refl _) b hb a d ha hd h1 h2
theorem dst_self {c : Chart} {T : Nat → Int} (N : Net c T) {a : Nat} (ha : a < c.Places.toNat) : dst c T a a = 0 := (nice_fw (nice_mw N _ (Nat.le_refl _)) _ (Nat.le_refl _)).dg a ha
theorem Wk.le {c : Chart} {T : Nat → Int} (N : Net c T) {s p : Nat} {x : Int} (hs : s < c.Places.toNat) (h : Wk c T s p x) : p < c.Places.toNat ∧ 0 ≤ dst c T s p ∧ dst c T s p ≤ x := by
  induction h with
  | nil => rw [dst_self N hs]; exact ⟨hs, Int.le_refl _, Int.le_refl _⟩
  | snoc p x i h hi ha hf ih =>
    obtain ⟨h1, h2, h3⟩ := ih
    have hj := joins_iff.1 (joins_of N.val hi)
    have ht : (way c i).To.toNat < c.Places.toNat := by omega
    obtain ⟨e1, e2⟩ := mw_edge N _ (Nat.le_refl _) i hi ha
    have := fw_le (M := mw c T c.Ways.length) c.Places.toNat _ _ e1
    rw [hf] at this e2
    have t := dst_tri N hs h1 ht h2 this.1
    refine ⟨ht, t.1, ?_⟩
    have := this.2
    unfold dst at t h3 ⊢
    omega
theorem alw_iff {w : Way} : alw w = true ↔ w.Every = 0 ∧ w.Open.Lo = 0 ∧ w.Open.Hi = 1439 := by unfold alw; simp
theorem fin_alw {w : Way} (ha : alw w = true) {t a : Int} (h0 : 0 ≤ a) (ht : 0 ≤ t) : fin w t a = if a + t ≤ 1439 then some (a + t) else none := by
  obtain ⟨h1, h2, h3⟩ := alw_iff.1 ha
  have : bgn w a = a := by unfold bgn; rw [if_neg (by omega), h2]; omega
  unfold fin
  rw [this, h3]
  by_cases h : a + t ≤ 1439
  · rw [if_pos ⟨by omega, h⟩, if_pos h]
  · rw [if_neg (fun e => h e.2), if_neg h]
theorem arr_wk {c : Chart} {T : Nat → Int} (N : Net c T) (hall : ∀ i, i < c.Ways.length → alw (way c i) = true) {s a0 p b : Int} (hs : 0 ≤ s ∧ s < c.Places) (h0 : 0 ≤ a0 ∧ a0 ≤ 1439) (h : Arr c T s a0 p b) : Wk c T s.toNat p.toNat (b - a0) := by
  induction h with
  | start => rw [Int.sub_self]; exact .nil
  | step p a i b h hi hf hb ih =>
    have ba := h.bounds N hs h0
    have ht := N.len i hi
    rw [fin_alw (hall i hi) (by omega) (by omega)] at hb
    split at hb
    · cases hb
      rw [show a + T i - a0 = a - a0 + T i by omega]
      exact .snoc _ _ i ih hi (hall i hi) (by rw [hf])
    · cases hb
theorem wk_arr {c : Chart} {T : Nat → Int} (N : Net c T) {s a0 : Int} (hs : 0 ≤ s ∧ s < c.Places) (h0 : 0 ≤ a0 ∧ a0 ≤ 1439) {p : Nat} {x : Int} (h : Wk c T s.toNat p x) : a0 + x ≤ 1439 → Arr c T s a0 (p : Int) (a0 + x) := by
  induction h with
  | nil => intro _; rw [Int.add_zero, show ((s.toNat : Nat) : Int) = s by omega]; exact .start
  | snoc p x i h hi ha hf ih =>
    intro hx
    have ht := N.len i hi
    have hj := joins_iff.1 (joins_of N.val hi)
    have A := ih (by omega)
    have ba := A.bounds N hs h0
    have := Arr.step _ _ i (a0 + x + T i) A hi (by omega) (by rw [fin_alw ha (by omega) (by omega), if_pos (by omega)])
    rw [show (((way c i).To.toNat : Nat) : Int) = (way c i).To by omega, ← Int.add_assoc]
    exact this
theorem sure_dst {c : Chart} {T : Nat → Int} (N : Net c T) (hall : ∀ i, i < c.Ways.length → alw (way c i) = true) {s a0 : Int} (hs : 0 ≤ s ∧ s < c.Places) (h0 : 0 ≤ a0 ∧ a0 ≤ 1439) {L : List Int} (h : Mins c T s a0 L) {q : Nat} (hq : q < c.Places.toNat) (hd : 0 ≤ dst c T s.toNat q) (hn : a0 + dst c T s.toNat q ≤ 1439) : L.getD q default = a0 + dst c T s.toNat q := by
  have A := wk_arr N hs h0 (dst_wk _ _ hd) hn
  obtain ⟨h1, h2⟩ := h.lst q hq
  by_cases e : L.getD q default < 0
  · rw [mrk_neg e] at h2; exact absurd A (h2 _)
  · rw [mrk_pos (by omega)] at h2
    have := h2.2 _ A
    have := ((arr_wk N hall hs h0 h2.1).le N (by omega)).2.2
    rw [show (((q : Nat) : Int)).toNat = q by omega] at this
    omega
end Go.Sp
