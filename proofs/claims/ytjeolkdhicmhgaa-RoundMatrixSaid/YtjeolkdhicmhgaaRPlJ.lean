/- Plain laws: the matrix. No program in sight. -/
import Derived.Test.YtjeolkdhicmhgaaRPlI
set_option linter.all false
namespace Go.Sp
open Go.Av
set_option maxRecDepth 100000
def mat {T : Type} [Inhabited T] (s : List (List T)) (p q : Nat) : T := (s.getD p []).getD q default
structure Shp {T : Type} (P : Nat) (s : List (List T)) : Prop where
  len : s.length = P
  row : ∀ p, p < P → (s.getD p []).length = P
theorem getD_set' {T : Type} (l : List T) (i j : Nat) (x d : T) (hi : i < l.length) : (l.set i x).getD j d = if j = i then x else l.getD j d := by
  rw [List.getD_eq_getElem?_getD, List.getElem?_set, List.getD_eq_getElem?_getD]
  by_cases h : i = j
  · subst h; simp [hi]
  · rw [if_neg h, if_neg (fun e => h e.symm)]
theorem mat_set {T : Type} [Inhabited T] {P : Nat} {s : List (List T)} (h : Shp P s) {p q : Nat} (hp : p < P) (hq : q < P) (v : T) :
    Shp P (s.set p ((s.getD p []).set q v)) ∧ ∀ p' q', mat (s.set p ((s.getD p []).set q v)) p' q' = if p' = p ∧ q' = q then v else mat s p' q' := by
  have hr := h.row p hp
  have hl := h.len
  refine ⟨⟨by rw [List.length_set]; exact hl, fun p' hp' => ?_⟩, fun p' q' => ?_⟩
  · rw [getD_set' _ _ _ _ _ (by omega)]
    split
    · rw [List.length_set]; exact hr
    · exact h.row p' hp'
  · unfold mat
    rw [getD_set' _ _ _ _ _ (by omega)]
    by_cases e : p' = p
    · subst e
      rw [if_pos rfl, getD_set _ _ _ _ (by omega)]
      by_cases e2 : q' = q
      · rw [if_pos e2, if_pos ⟨rfl, e2⟩]
      · rw [if_neg e2, if_neg (fun x => e2 x.2)]
    · rw [if_neg e, if_neg (fun x => e x.1)]
theorem mat_ext {T : Type} [Inhabited T] {P : Nat} {s s' : List (List T)} (h : Shp P s) (h' : Shp P s') (e : ∀ p q, p < P → q < P → mat s p q = mat s' p q) : s = s' := by
  apply List.ext_getElem (h.len.trans h'.len.symm)
  intro p h1 h2
  have hp : p < P := by rw [← h.len]; exact h1
  have r1 := h.row p hp
  have r2 := h'.row p hp
  have e1 : s.getD p [] = s[p] := by rw [List.getD_eq_getElem?_getD, List.getElem?_eq_getElem h1]; rfl
  have e2 : s'.getD p [] = s'[p] := by rw [List.getD_eq_getElem?_getD, List.getElem?_eq_getElem h2]; rfl
  rw [e1] at r1
  rw [e2] at r2
  apply List.ext_getElem (r1.trans r2.symm)
  intro q g1 g2
  have := e p q hp (by omega)
  unfold mat at this
  rw [e1, e2, List.getD_eq_getElem?_getD, List.getElem?_eq_getElem g1, List.getD_eq_getElem?_getD, List.getElem?_eq_getElem g2] at this
  exact this
abbrev Mx := Nat → Nat → Int
def upd (c a b : Int) : Int := if 0 ≤ a ∧ 0 ≤ b ∧ (c < 0 ∨ a + b < c) then a + b else c
def alw (w : Way) : Bool := decide (w.Every = 0) && (decide (w.Open.Lo = 0) && decide (w.Open.Hi = 1439))
def m0 : Mx := fun p q => if p = q then 0 else -1
def mw (c : Chart) (T : Nat → Int) : Nat → Mx
  | 0 => m0
  | n + 1 => fun p q => if p = (way c n).From.toNat ∧ q = (way c n).To.toNat ∧ alw (way c n) = true ∧ (mw c T n p q < 0 ∨ T n < mw c T n p q) then T n else mw c T n p q
def fw (M : Mx) : Nat → Mx
  | 0 => M
  | k + 1 => fun p q => upd (fw M k p q) (fw M k p k) (fw M k k q)
def dst (c : Chart) (T : Nat → Int) : Mx := fw (mw c T c.Ways.length) c.Places.toNat
structure Nice (P : Nat) (B : Int) (M : Mx) : Prop where
  ge : ∀ p q, p < P → q < P → -1 ≤ M p q ∧ M p q ≤ B
  dg : ∀ p, p < P → M p p = 0
theorem Nice.upd {P : Nat} {B : Int} {M : Mx} (h : Nice P B M) (hB : 0 ≤ B) {k : Nat} (hk : k < P) : Nice P (2 * B) (fun p q => upd (M p q) (M p k) (M k q)) := by
  refine ⟨fun p q hp hq => ?_, fun p hp => ?_⟩
  · have a := h.ge p q hp hq
    have b := h.ge p k hp hk
    have c := h.ge k q hk hq
    unfold Sp.upd
    split <;> omega
  · have a := h.dg p hp
    have b := h.ge p k hp hk
    have c := h.ge k p hk hp
    unfold Sp.upd
    rw [a, if_neg (by omega)]
theorem nice_mw {c : Chart} {T : Nat → Int} (N : Net c T) : ∀ n, n ≤ c.Ways.length → Nice c.Places.toNat 600 (mw c T n)
  | 0, _ => ⟨fun p q _ _ => by unfold mw m0; split <;> omega, fun p _ => by unfold mw m0; rw [if_pos rfl]⟩
  | n + 1, hn => by
    have h := nice_mw N n (by omega)
    have J := joins_iff.1 (joins_of N.val (i := n) (by omega))
    have t := N.len n (by omega)
    refine ⟨fun p q hp hq => ?_, fun p hp => ?_⟩
    · have := h.ge p q hp hq
      unfold mw
      split <;> omega
    · have := h.dg p hp
      unfold mw
      rw [if_neg (fun x => by omega)]
      exact this
def bnd : Nat → Int
  | 0 => 600
  | k + 1 => 2 * bnd k
theorem bnd_ge : ∀ k, 600 ≤ bnd k
  | 0 => Int.le_refl _
  | k + 1 => by have := bnd_ge k; unfold bnd; omega
theorem bnd_mono : ∀ {j k}, j ≤ k → bnd j ≤ bnd k
  | j, 0, h => by have : j = 0 := by omega
                  subst this; exact Int.le_refl _
  | j, k + 1, h => by
    by_cases e : j = k + 1
    · subst e; exact Int.le_refl _
    · have := bnd_mono (j := j) (k := k) (by omega)
      have := bnd_ge k
      show _ ≤ 2 * bnd k
      omega
theorem bnd_12 {k : Nat} (h : k ≤ 12) : bnd k ≤ 2457600 := Int.le_trans (bnd_mono h) (by decide)
theorem nice_fw {P : Nat} {M : Mx} (h : Nice P 600 M) : ∀ k, k ≤ P → Nice P (bnd k) (fw M k)
  | 0, _ => h
  | k + 1, hk => (nice_fw h k (by omega)).upd (by have := bnd_ge k; omega) (by omega)
structure Mid (P : Nat) (M : Mx) (k p i : Nat) (s : List (List Int)) : Prop where
  shp : Shp P s
  val : ∀ p' q', p' < P → q' < P → mat s p' q' = if p' < p ∨ (p' = p ∧ q' < i) then upd (M p' q') (M p' k) (M k q') else M p' q'
theorem upd_a {a : Int} : upd a a 0 = a := by unfold upd; rw [if_neg (by omega)]
theorem upd_b {b : Int} : upd b 0 b = b := by unfold upd; rw [if_neg (by omega)]
theorem Mid.colk {P : Nat} {B : Int} {M : Mx} (N : Nice P B M) {k p i : Nat} (hk : k < P) {s : List (List Int)} (h : Mid P M k p i s) {p' : Nat} (hp : p' < P) : mat s p' k = M p' k := by
  rw [h.val p' k hp hk]
  split
  · rw [N.dg k hk, upd_a]
  · rfl
theorem Mid.rowk {P : Nat} {B : Int} {M : Mx} (N : Nice P B M) {k p i : Nat} (hk : k < P) {s : List (List Int)} (h : Mid P M k p i s) {q' : Nat} (hq : q' < P) : mat s k q' = M k q' := by
  rw [h.val k q' hk hq]
  split
  · rw [N.dg k hk, upd_b]
  · rfl
theorem sumQ_go {P : Nat} {B : Int} {M : Mx} (N : Nice P B M) (hB : 0 ≤ B ∧ B ≤ 100000000) {R : Type} (ex : List (List Int) → Option R) {i21 i23 : Nat} (hk : i21 < P) (hp : i23 < P) : ∀ (n i : Nat), i + n = P → ∀ s, Mid P M i21 i23 i s →
    ∃ s', Mid P M i21 i23 P s' ∧ rangeGo ((fun i25 (s25 : (List (List Int))) k25 => must (0 ≤ ((i23 : Int) : Int) ∧ ((i23 : Int) : Int) < ((s25.length : Nat) : Int)) <| must (0 ≤ ((i21 : Int) : Int) ∧ ((i21 : Int) : Int) < (((s25.getD i23 []).length : Nat) : Int)) <| must (0 ≤ ((i21 : Int) : Int) ∧ ((i21 : Int) : Int) < ((s25.length : Nat) : Int)) <| must (0 ≤ ((i25 : Int) : Int) ∧ ((i25 : Int) : Int) < (((s25.getD i21 []).length : Nat) : Int)) <| must ((((decide (0 ≤ ((s25.getD i23 []).getD i21 default))) && (decide (0 ≤ ((s25.getD i21 []).getD i25 default)))) = true → (0 ≤ ((i23 : Int) : Int) ∧ ((i23 : Int) : Int) < ((s25.length : Nat) : Int)))) <| must ((((decide (0 ≤ ((s25.getD i23 []).getD i21 default))) && (decide (0 ≤ ((s25.getD i21 []).getD i25 default)))) = true → (0 ≤ ((i25 : Int) : Int) ∧ ((i25 : Int) : Int) < (((s25.getD i23 []).length : Nat) : Int)))) <| must (((((decide (0 ≤ ((s25.getD i23 []).getD i21 default))) && (decide (0 ≤ ((s25.getD i21 []).getD i25 default)))) && !(decide (((s25.getD i23 []).getD i25 default) < 0))) = true → (inI (((s25.getD i23 []).getD i21 default) + ((s25.getD i21 []).getD i25 default))))) <| must (((((decide (0 ≤ ((s25.getD i23 []).getD i21 default))) && (decide (0 ≤ ((s25.getD i21 []).getD i25 default)))) && !(decide (((s25.getD i23 []).getD i25 default) < 0))) = true → (0 ≤ ((i23 : Int) : Int) ∧ ((i23 : Int) : Int) < ((s25.length : Nat) : Int)))) <| must (((((decide (0 ≤ ((s25.getD i23 []).getD i21 default))) && (decide (0 ≤ ((s25.getD i21 []).getD i25 default)))) && !(decide (((s25.getD i23 []).getD i25 default) < 0))) = true → (0 ≤ ((i25 : Int) : Int) ∧ ((i25 : Int) : Int) < (((s25.getD i23 []).length : Nat) : Int)))) <| (bif (((decide (0 ≤ ((s25.getD i23 []).getD i21 default))) && (decide (0 ≤ ((s25.getD i21 []).getD i25 default)))) && ((decide (((s25.getD i23 []).getD i25 default) < 0)) || (decide ((((s25.getD i23 []).getD i21 default) + ((s25.getD i21 []).getD i25 default)) < ((s25.getD i23 []).getD i25 default))))) then must (0 ≤ ((i23 : Int) : Int) ∧ ((i23 : Int) : Int) < ((s25.length : Nat) : Int)) <| must (inI (((s25.getD i23 []).getD i21 default) + ((s25.getD i21 []).getD i25 default))) <| must (0 ≤ ((i25 : Int) : Int) ∧ ((i25 : Int) : Int) < (((s25.getD i23 []).length : Nat) : Int)) <| k25 (s25.set i23 ((s25.getD i23 []).set i25 (((s25.getD i23 []).getD i21 default) + ((s25.getD i21 []).getD i25 default)))) else k25 s25))) ex n i s = ex s' := by
  intro n
  induction n with
  | zero => intro i hi s h; have e : i = P := by omega
            subst e; exact ⟨s, h, rfl⟩
  | succ n ih =>
    intro i hi s h
    have hlt : i < P := by omega
    have hl := h.shp.len
    have r1 := h.shp.row i23 hp
    have r2 := h.shp.row i21 hk
    have ea : mat s i23 i21 = M i23 i21 := h.colk N hk hp
    have eb : mat s i21 i = M i21 i := h.rowk N hk hlt
    have ec : mat s i23 i = M i23 i := by rw [h.val i23 i hp hlt, if_neg (by omega)]
    have ga := N.ge i23 i21 hp hk
    have gb := N.ge i21 i hk hlt
    rw [rangeGo_succ]
    have ha' : (s.getD i23 []).getD i21 default = M i23 i21 := ea
    have hb' : (s.getD i21 []).getD i default = M i21 i := eb
    have hc' : (s.getD i23 []).getD i default = M i23 i := ec
    rw [ha', hb', hc', must_pos (by omega), must_pos (by omega), must_pos (by omega), must_pos (by omega), must_pos (fun _ => by omega), must_pos (fun _ => by omega), must_pos (fun _ => by unfold inI; omega), must_pos (fun _ => by omega), must_pos (fun _ => by omega)]
    by_cases hc : 0 ≤ M i23 i21 ∧ 0 ≤ M i21 i ∧ (M i23 i < 0 ∨ M i23 i21 + M i21 i < M i23 i)
    · have : ((decide (0 ≤ M i23 i21) && decide (0 ≤ M i21 i)) && (decide (M i23 i < 0) || decide (M i23 i21 + M i21 i < M i23 i))) = true := by
        simp only [Bool.and_eq_true, Bool.or_eq_true, decide_eq_true_eq]; omega
      rw [this, cond_true, must_pos (by omega), must_pos (by unfold inI; omega), must_pos (by omega)]
      obtain ⟨t1, t2⟩ := mat_set h.shp hp hlt (M i23 i21 + M i21 i)
      refine ih (i + 1) (by omega) _ ⟨t1, fun p' q' hp' hq' => ?_⟩
      rw [t2 p' q']
      by_cases e : p' = i23 ∧ q' = i
      · obtain ⟨rfl, rfl⟩ := e
        rw [if_pos ⟨rfl, rfl⟩, if_pos (by omega)]
        unfold upd
        rw [if_pos hc]
      · rw [if_neg e, h.val p' q' hp' hq']
        by_cases e2 : p' < i23 ∨ p' = i23 ∧ q' < i
        · rw [if_pos e2, if_pos (by omega)]
        · rw [if_neg e2, if_neg (by omega)]
    · have : ((decide (0 ≤ M i23 i21) && decide (0 ≤ M i21 i)) && (decide (M i23 i < 0) || decide (M i23 i21 + M i21 i < M i23 i))) = false := by
        rw [← Bool.not_eq_true]
        simp only [Bool.and_eq_true, Bool.or_eq_true, decide_eq_true_eq]; omega
      rw [this, cond_false]
      refine ih (i + 1) (by omega) s ⟨h.shp, fun p' q' hp' hq' => ?_⟩
      rw [h.val p' q' hp' hq']
      by_cases e : p' = i23 ∧ q' = i
      · obtain ⟨rfl, rfl⟩ := e
        rw [if_neg (by omega), if_pos (by omega)]
        unfold upd
        rw [if_neg hc]
      · by_cases e2 : p' < i23 ∨ p' = i23 ∧ q' < i
        · rw [if_pos e2, if_pos (by omega)]
        · rw [if_neg e2, if_neg (by omega)]
theorem sumP_go {p0 : Chart} {P : Nat} (hP : P = p0.Places.toNat) (hP2 : P ≤ 12) {B : Int} {M : Mx} (N : Nice P B M) (hB : 0 ≤ B ∧ B ≤ 100000000) {R : Type} (ex : List (List Int) → Option R) {i21 : Nat} (hk : i21 < P) : ∀ (n i : Nat), i + n = P → ∀ s, Mid P M i21 i 0 s →
    ∃ s', Mid P M i21 P 0 s' ∧ rangeGo ((fun i23 (s23 : (List (List Int))) k23 => must ((p0.Places).toNat ≤ 9223372036854775807) <| (rangeGo (fun i25 (s25 : (List (List Int))) k25 => must (0 ≤ ((i23 : Int) : Int) ∧ ((i23 : Int) : Int) < ((s25.length : Nat) : Int)) <| must (0 ≤ ((i21 : Int) : Int) ∧ ((i21 : Int) : Int) < (((s25.getD i23 []).length : Nat) : Int)) <| must (0 ≤ ((i21 : Int) : Int) ∧ ((i21 : Int) : Int) < ((s25.length : Nat) : Int)) <| must (0 ≤ ((i25 : Int) : Int) ∧ ((i25 : Int) : Int) < (((s25.getD i21 []).length : Nat) : Int)) <| must ((((decide (0 ≤ ((s25.getD i23 []).getD i21 default))) && (decide (0 ≤ ((s25.getD i21 []).getD i25 default)))) = true → (0 ≤ ((i23 : Int) : Int) ∧ ((i23 : Int) : Int) < ((s25.length : Nat) : Int)))) <| must ((((decide (0 ≤ ((s25.getD i23 []).getD i21 default))) && (decide (0 ≤ ((s25.getD i21 []).getD i25 default)))) = true → (0 ≤ ((i25 : Int) : Int) ∧ ((i25 : Int) : Int) < (((s25.getD i23 []).length : Nat) : Int)))) <| must (((((decide (0 ≤ ((s25.getD i23 []).getD i21 default))) && (decide (0 ≤ ((s25.getD i21 []).getD i25 default)))) && !(decide (((s25.getD i23 []).getD i25 default) < 0))) = true → (inI (((s25.getD i23 []).getD i21 default) + ((s25.getD i21 []).getD i25 default))))) <| must (((((decide (0 ≤ ((s25.getD i23 []).getD i21 default))) && (decide (0 ≤ ((s25.getD i21 []).getD i25 default)))) && !(decide (((s25.getD i23 []).getD i25 default) < 0))) = true → (0 ≤ ((i23 : Int) : Int) ∧ ((i23 : Int) : Int) < ((s25.length : Nat) : Int)))) <| must (((((decide (0 ≤ ((s25.getD i23 []).getD i21 default))) && (decide (0 ≤ ((s25.getD i21 []).getD i25 default)))) && !(decide (((s25.getD i23 []).getD i25 default) < 0))) = true → (0 ≤ ((i25 : Int) : Int) ∧ ((i25 : Int) : Int) < (((s25.getD i23 []).length : Nat) : Int)))) <| (bif (((decide (0 ≤ ((s25.getD i23 []).getD i21 default))) && (decide (0 ≤ ((s25.getD i21 []).getD i25 default)))) && ((decide (((s25.getD i23 []).getD i25 default) < 0)) || (decide ((((s25.getD i23 []).getD i21 default) + ((s25.getD i21 []).getD i25 default)) < ((s25.getD i23 []).getD i25 default))))) then must (0 ≤ ((i23 : Int) : Int) ∧ ((i23 : Int) : Int) < ((s25.length : Nat) : Int)) <| must (inI (((s25.getD i23 []).getD i21 default) + ((s25.getD i21 []).getD i25 default))) <| must (0 ≤ ((i25 : Int) : Int) ∧ ((i25 : Int) : Int) < (((s25.getD i23 []).length : Nat) : Int)) <| k25 (s25.set i23 ((s25.getD i23 []).set i25 (((s25.getD i23 []).getD i21 default) + ((s25.getD i21 []).getD i25 default)))) else k25 s25)) (fun (s25 : (List (List Int))) => k23 s25) ((p0.Places).toNat) 0 s23))) ex n i s = ex s' := by
  subst hP
  intro n
  induction n with
  | zero => intro i hi s h; have e : i = p0.Places.toNat := by omega
            rw [e] at h; exact ⟨s, h, rfl⟩
  | succ n ih =>
    intro i hi s h
    rw [rangeGo_succ]
    obtain ⟨s', h1, h2⟩ := sumQ_go N hB (rangeGo ((fun i23 (s23 : (List (List Int))) k23 => must ((p0.Places).toNat ≤ 9223372036854775807) <| (rangeGo (fun i25 (s25 : (List (List Int))) k25 => must (0 ≤ ((i23 : Int) : Int) ∧ ((i23 : Int) : Int) < ((s25.length : Nat) : Int)) <| must (0 ≤ ((i21 : Int) : Int) ∧ ((i21 : Int) : Int) < (((s25.getD i23 []).length : Nat) : Int)) <| must (0 ≤ ((i21 : Int) : Int) ∧ ((i21 : Int) : Int) < ((s25.length : Nat) : Int)) <| must (0 ≤ ((i25 : Int) : Int) ∧ ((i25 : Int) : Int) < (((s25.getD i21 []).length : Nat) : Int)) <| must ((((decide (0 ≤ ((s25.getD i23 []).getD i21 default))) && (decide (0 ≤ ((s25.getD i21 []).getD i25 default)))) = true → (0 ≤ ((i23 : Int) : Int) ∧ ((i23 : Int) : Int) < ((s25.length : Nat) : Int)))) <| must ((((decide (0 ≤ ((s25.getD i23 []).getD i21 default))) && (decide (0 ≤ ((s25.getD i21 []).getD i25 default)))) = true → (0 ≤ ((i25 : Int) : Int) ∧ ((i25 : Int) : Int) < (((s25.getD i23 []).length : Nat) : Int)))) <| must (((((decide (0 ≤ ((s25.getD i23 []).getD i21 default))) && (decide (0 ≤ ((s25.getD i21 []).getD i25 default)))) && !(decide (((s25.getD i23 []).getD i25 default) < 0))) = true → (inI (((s25.getD i23 []).getD i21 default) + ((s25.getD i21 []).getD i25 default))))) <| must (((((decide (0 ≤ ((s25.getD i23 []).getD i21 default))) && (decide (0 ≤ ((s25.getD i21 []).getD i25 default)))) && !(decide (((s25.getD i23 []).getD i25 default) < 0))) = true → (0 ≤ ((i23 : Int) : Int) ∧ ((i23 : Int) : Int) < ((s25.length : Nat) : Int)))) <| must (((((decide (0 ≤ ((s25.getD i23 []).getD i21 default))) && (decide (0 ≤ ((s25.getD i21 []).getD i25 default)))) && !(decide (((s25.getD i23 []).getD i25 default) < 0))) = true → (0 ≤ ((i25 : Int) : Int) ∧ ((i25 : Int) : Int) < (((s25.getD i23 []).length : Nat) : Int)))) <| (bif (((decide (0 ≤ ((s25.getD i23 []).getD i21 default))) && (decide (0 ≤ ((s25.getD i21 []).getD i25 default)))) && ((decide (((s25.getD i23 []).getD i25 default) < 0)) || (decide ((((s25.getD i23 []).getD i21 default) + ((s25.getD i21 []).getD i25 default)) < ((s25.getD i23 []).getD i25 default))))) then must (0 ≤ ((i23 : Int) : Int) ∧ ((i23 : Int) : Int) < ((s25.length : Nat) : Int)) <| must (inI (((s25.getD i23 []).getD i21 default) + ((s25.getD i21 []).getD i25 default))) <| must (0 ≤ ((i25 : Int) : Int) ∧ ((i25 : Int) : Int) < (((s25.getD i23 []).length : Nat) : Int)) <| k25 (s25.set i23 ((s25.getD i23 []).set i25 (((s25.getD i23 []).getD i21 default) + ((s25.getD i21 []).getD i25 default)))) else k25 s25)) (fun (s25 : (List (List Int))) => k23 s25) ((p0.Places).toNat) 0 s23))) ex n (i + 1)) hk (by omega : i < p0.Places.toNat) p0.Places.toNat 0 (by omega) s h
    obtain ⟨s2, h3, h4⟩ := ih (i + 1) (by omega) s' ⟨h1.shp, fun p' q' hp' hq' => by
      rw [h1.val p' q' hp' hq']
      by_cases e : p' < i ∨ p' = i ∧ q' < p0.Places.toNat
      · rw [if_pos e, if_pos (by omega)]
      · rw [if_neg e, if_neg (by omega)]⟩
    refine ⟨s2, h3, ?_⟩
    rw [must_pos (by omega)]
    exact h2.trans h4
theorem sumK_go {p0 : Chart} {P : Nat} (hP : P = p0.Places.toNat) (hP2 : P ≤ 12) {M : Mx} (N : Nice P 600 M) {R : Type} (ex : List (List Int) → Option R) : ∀ (n i : Nat), i + n = P → ∀ s, Shp P s → (∀ p q, p < P → q < P → mat s p q = fw M i p q) →
    ∃ s', Shp P s' ∧ (∀ p q, p < P → q < P → mat s' p q = fw M P p q) ∧ rangeGo ((fun i21 (s21 : (List (List Int))) k21 => must ((p0.Places).toNat ≤ 9223372036854775807) <| (rangeGo (fun i23 (s23 : (List (List Int))) k23 => must ((p0.Places).toNat ≤ 9223372036854775807) <| (rangeGo (fun i25 (s25 : (List (List Int))) k25 => must (0 ≤ ((i23 : Int) : Int) ∧ ((i23 : Int) : Int) < ((s25.length : Nat) : Int)) <| must (0 ≤ ((i21 : Int) : Int) ∧ ((i21 : Int) : Int) < (((s25.getD i23 []).length : Nat) : Int)) <| must (0 ≤ ((i21 : Int) : Int) ∧ ((i21 : Int) : Int) < ((s25.length : Nat) : Int)) <| must (0 ≤ ((i25 : Int) : Int) ∧ ((i25 : Int) : Int) < (((s25.getD i21 []).length : Nat) : Int)) <| must ((((decide (0 ≤ ((s25.getD i23 []).getD i21 default))) && (decide (0 ≤ ((s25.getD i21 []).getD i25 default)))) = true → (0 ≤ ((i23 : Int) : Int) ∧ ((i23 : Int) : Int) < ((s25.length : Nat) : Int)))) <| must ((((decide (0 ≤ ((s25.getD i23 []).getD i21 default))) && (decide (0 ≤ ((s25.getD i21 []).getD i25 default)))) = true → (0 ≤ ((i25 : Int) : Int) ∧ ((i25 : Int) : Int) < (((s25.getD i23 []).length : Nat) : Int)))) <| must (((((decide (0 ≤ ((s25.getD i23 []).getD i21 default))) && (decide (0 ≤ ((s25.getD i21 []).getD i25 default)))) && !(decide (((s25.getD i23 []).getD i25 default) < 0))) = true → (inI (((s25.getD i23 []).getD i21 default) + ((s25.getD i21 []).getD i25 default))))) <| must (((((decide (0 ≤ ((s25.getD i23 []).getD i21 default))) && (decide (0 ≤ ((s25.getD i21 []).getD i25 default)))) && !(decide (((s25.getD i23 []).getD i25 default) < 0))) = true → (0 ≤ ((i23 : Int) : Int) ∧ ((i23 : Int) : Int) < ((s25.length : Nat) : Int)))) <| must (((((decide (0 ≤ ((s25.getD i23 []).getD i21 default))) && (decide (0 ≤ ((s25.getD i21 []).getD i25 default)))) && !(decide (((s25.getD i23 []).getD i25 default) < 0))) = true → (0 ≤ ((i25 : Int) : Int) ∧ ((i25 : Int) : Int) < (((s25.getD i23 []).length : Nat) : Int)))) <| (bif (((decide (0 ≤ ((s25.getD i23 []).getD i21 default))) && (decide (0 ≤ ((s25.getD i21 []).getD i25 default)))) && ((decide (((s25.getD i23 []).getD i25 default) < 0)) || (decide ((((s25.getD i23 []).getD i21 default) + ((s25.getD i21 []).getD i25 default)) < ((s25.getD i23 []).getD i25 default))))) then must (0 ≤ ((i23 : Int) : Int) ∧ ((i23 : Int) : Int) < ((s25.length : Nat) : Int)) <| must (inI (((s25.getD i23 []).getD i21 default) + ((s25.getD i21 []).getD i25 default))) <| must (0 ≤ ((i25 : Int) : Int) ∧ ((i25 : Int) : Int) < (((s25.getD i23 []).length : Nat) : Int)) <| k25 (s25.set i23 ((s25.getD i23 []).set i25 (((s25.getD i23 []).getD i21 default) + ((s25.getD i21 []).getD i25 default)))) else k25 s25)) (fun (s25 : (List (List Int))) => k23 s25) ((p0.Places).toNat) 0 s23)) (fun (s23 : (List (List Int))) => k21 s23) ((p0.Places).toNat) 0 s21))) ex n i s = ex s' := by
  subst hP
  intro n
  induction n with
  | zero => intro i hi s h1 h2; have e : i = p0.Places.toNat := by omega
            rw [e] at h2; exact ⟨s, h1, h2, rfl⟩
  | succ n ih =>
    intro i hi s h1 h2
    rw [rangeGo_succ]
    have Ni := nice_fw N i (by omega)
    have bg := bnd_ge i
    have bl := bnd_12 (k := i) (by omega)
    obtain ⟨s', h3, h4⟩ := sumP_go rfl hP2 Ni (by omega) (rangeGo ((fun i21 (s21 : (List (List Int))) k21 => must ((p0.Places).toNat ≤ 9223372036854775807) <| (rangeGo (fun i23 (s23 : (List (List Int))) k23 => must ((p0.Places).toNat ≤ 9223372036854775807) <| (rangeGo (fun i25 (s25 : (List (List Int))) k25 => must (0 ≤ ((i23 : Int) : Int) ∧ ((i23 : Int) : Int) < ((s25.length : Nat) : Int)) <| must (0 ≤ ((i21 : Int) : Int) ∧ ((i21 : Int) : Int) < (((s25.getD i23 []).length : Nat) : Int)) <| must (0 ≤ ((i21 : Int) : Int) ∧ ((i21 : Int) : Int) < ((s25.length : Nat) : Int)) <| must (0 ≤ ((i25 : Int) : Int) ∧ ((i25 : Int) : Int) < (((s25.getD i21 []).length : Nat) : Int)) <| must ((((decide (0 ≤ ((s25.getD i23 []).getD i21 default))) && (decide (0 ≤ ((s25.getD i21 []).getD i25 default)))) = true → (0 ≤ ((i23 : Int) : Int) ∧ ((i23 : Int) : Int) < ((s25.length : Nat) : Int)))) <| must ((((decide (0 ≤ ((s25.getD i23 []).getD i21 default))) && (decide (0 ≤ ((s25.getD i21 []).getD i25 default)))) = true → (0 ≤ ((i25 : Int) : Int) ∧ ((i25 : Int) : Int) < (((s25.getD i23 []).length : Nat) : Int)))) <| must (((((decide (0 ≤ ((s25.getD i23 []).getD i21 default))) && (decide (0 ≤ ((s25.getD i21 []).getD i25 default)))) && !(decide (((s25.getD i23 []).getD i25 default) < 0))) = true → (inI (((s25.getD i23 []).getD i21 default) + ((s25.getD i21 []).getD i25 default))))) <| must (((((decide (0 ≤ ((s25.getD i23 []).getD i21 default))) && (decide (0 ≤ ((s25.getD i21 []).getD i25 default)))) && !(decide (((s25.getD i23 []).getD i25 default) < 0))) = true → (0 ≤ ((i23 : Int) : Int) ∧ ((i23 : Int) : Int) < ((s25.length : Nat) : Int)))) <| must (((((decide (0 ≤ ((s25.getD i23 []).getD i21 default))) && (decide (0 ≤ ((s25.getD i21 []).getD i25 default)))) && !(decide (((s25.getD i23 []).getD i25 default) < 0))) = true → (0 ≤ ((i25 : Int) : Int) ∧ ((i25 : Int) : Int) < (((s25.getD i23 []).length : Nat) : Int)))) <| (bif (((decide (0 ≤ ((s25.getD i23 []).getD i21 default))) && (decide (0 ≤ ((s25.getD i21 []).getD i25 default)))) && ((decide (((s25.getD i23 []).getD i25 default) < 0)) || (decide ((((s25.getD i23 []).getD i21 default) + ((s25.getD i21 []).getD i25 default)) < ((s25.getD i23 []).getD i25 default))))) then must (0 ≤ ((i23 : Int) : Int) ∧ ((i23 : Int) : Int) < ((s25.length : Nat) : Int)) <| must (inI (((s25.getD i23 []).getD i21 default) + ((s25.getD i21 []).getD i25 default))) <| must (0 ≤ ((i25 : Int) : Int) ∧ ((i25 : Int) : Int) < (((s25.getD i23 []).length : Nat) : Int)) <| k25 (s25.set i23 ((s25.getD i23 []).set i25 (((s25.getD i23 []).getD i21 default) + ((s25.getD i21 []).getD i25 default)))) else k25 s25)) (fun (s25 : (List (List Int))) => k23 s25) ((p0.Places).toNat) 0 s23)) (fun (s23 : (List (List Int))) => k21 s23) ((p0.Places).toNat) 0 s21))) ex n (i + 1)) (by omega : i < p0.Places.toNat) p0.Places.toNat 0 (by omega) s ⟨h1, fun p' q' hp' hq' => by rw [h2 p' q' hp' hq', if_neg (by omega)]⟩
    obtain ⟨s2, h5, h6, h7⟩ := ih (i + 1) (by omega) s' h3.shp (fun p q hp hq => by rw [h3.val p q hp hq, if_pos (by omega)]; rfl)
    refine ⟨s2, h5, h6, ?_⟩
    rw [must_pos (by omega)]
    exact h4.trans h7
theorem sumW_go {p0 : Chart} {T : Nat → Int} (NT : Net p0 T) (p1 : Int → Option Int) (hk : ∀ i : Nat, i < p0.Ways.length → p1 i = some (T i)) {R : Type} (ex : List (List Int) → Option R) : ∀ (n i : Nat), i + n = p0.Ways.length → ∀ s, Shp p0.Places.toNat s → (∀ p q, p < p0.Places.toNat → q < p0.Places.toNat → mat s p q = mw p0 T i p q) →
    ∃ s', Shp p0.Places.toNat s' ∧ (∀ p q, p < p0.Places.toNat → q < p0.Places.toNat → mat s' p q = mw p0 T p0.Ways.length p q) ∧ rangeGo ((fun i10 (s10 : (List (List Int))) k10 => must (0 ≤ ((p0.Ways.getD i10 default).From : Int) ∧ ((p0.Ways.getD i10 default).From : Int) < ((s10.length : Nat) : Int)) <| must (0 ≤ ((p0.Ways.getD i10 default).To : Int) ∧ ((p0.Ways.getD i10 default).To : Int) < (((s10.getD ((p0.Ways.getD i10 default).From).toNat []).length : Nat) : Int)) <| bindO ((bif (((decide ((p0.Ways.getD i10 default).Every = 0)) && ((decide ((p0.Ways.getD i10 default).Open.Lo = 0)) && (decide ((p0.Ways.getD i10 default).Open.Hi = 1439)))) && !(decide (((s10.getD ((p0.Ways.getD i10 default).From).toNat []).getD ((p0.Ways.getD i10 default).To).toNat default) < 0))) then p1 (i10 : Int) else some default)) fun y14 => (bif (((decide ((p0.Ways.getD i10 default).Every = 0)) && ((decide ((p0.Ways.getD i10 default).Open.Lo = 0)) && (decide ((p0.Ways.getD i10 default).Open.Hi = 1439)))) && ((decide (((s10.getD ((p0.Ways.getD i10 default).From).toNat []).getD ((p0.Ways.getD i10 default).To).toNat default) < 0)) || (decide (y14 < ((s10.getD ((p0.Ways.getD i10 default).From).toNat []).getD ((p0.Ways.getD i10 default).To).toNat default))))) then must (0 ≤ ((p0.Ways.getD i10 default).From : Int) ∧ ((p0.Ways.getD i10 default).From : Int) < ((s10.length : Nat) : Int)) <| bindO (p1 (i10 : Int)) fun y18 => must (0 ≤ ((p0.Ways.getD i10 default).To : Int) ∧ ((p0.Ways.getD i10 default).To : Int) < (((s10.getD ((p0.Ways.getD i10 default).From).toNat []).length : Nat) : Int)) <| k10 (s10.set ((p0.Ways.getD i10 default).From).toNat ((s10.getD ((p0.Ways.getD i10 default).From).toNat []).set ((p0.Ways.getD i10 default).To).toNat y18)) else k10 s10))) ex n i s = ex s' := by
  intro n
  induction n with
  | zero => intro i hi s h1 h2; have e : i = p0.Ways.length := by omega
            subst e; exact ⟨s, h1, h2, rfl⟩
  | succ n ih =>
    intro i hi s h1 h2
    have hlt : i < p0.Ways.length := by omega
    have J := joins_iff.1 (joins_of NT.val hlt)
    have hf : (way p0 i).From.toNat < p0.Places.toNat := by omega
    have ht : (way p0 i).To.toNat < p0.Places.toNat := by omega
    have hl := h1.len
    have r1 := h1.row _ hf
    rw [rangeGo_succ]
    have ew : p0.Ways.getD i default = way p0 i := rfl
    have em : (s.getD (way p0 i).From.toNat []).getD (way p0 i).To.toNat default = mw p0 T i (way p0 i).From.toNat (way p0 i).To.toNat := h2 _ _ hf ht
    have ea : (decide ((way p0 i).Every = 0) && (decide ((way p0 i).Open.Lo = 0) && decide ((way p0 i).Open.Hi = 1439))) = alw (way p0 i) := rfl
    rw [ew, em, ea, must_pos (by omega), must_pos (by omega), hk i hlt]
    have same : ∀ s2 : List (List Int), s2 = s → ¬ (alw (way p0 i) = true ∧ (mw p0 T i (way p0 i).From.toNat (way p0 i).To.toNat < 0 ∨ T i < mw p0 T i (way p0 i).From.toNat (way p0 i).To.toNat)) → ∃ s', Shp p0.Places.toNat s' ∧ (∀ p q, p < p0.Places.toNat → q < p0.Places.toNat → mat s' p q = mw p0 T p0.Ways.length p q) ∧ rangeGo ((fun i10 (s10 : (List (List Int))) k10 => must (0 ≤ ((p0.Ways.getD i10 default).From : Int) ∧ ((p0.Ways.getD i10 default).From : Int) < ((s10.length : Nat) : Int)) <| must (0 ≤ ((p0.Ways.getD i10 default).To : Int) ∧ ((p0.Ways.getD i10 default).To : Int) < (((s10.getD ((p0.Ways.getD i10 default).From).toNat []).length : Nat) : Int)) <| bindO ((bif (((decide ((p0.Ways.getD i10 default).Every = 0)) && ((decide ((p0.Ways.getD i10 default).Open.Lo = 0)) && (decide ((p0.Ways.getD i10 default).Open.Hi = 1439)))) && !(decide (((s10.getD ((p0.Ways.getD i10 default).From).toNat []).getD ((p0.Ways.getD i10 default).To).toNat default) < 0))) then p1 (i10 : Int) else some default)) fun y14 => (bif (((decide ((p0.Ways.getD i10 default).Every = 0)) && ((decide ((p0.Ways.getD i10 default).Open.Lo = 0)) && (decide ((p0.Ways.getD i10 default).Open.Hi = 1439)))) && ((decide (((s10.getD ((p0.Ways.getD i10 default).From).toNat []).getD ((p0.Ways.getD i10 default).To).toNat default) < 0)) || (decide (y14 < ((s10.getD ((p0.Ways.getD i10 default).From).toNat []).getD ((p0.Ways.getD i10 default).To).toNat default))))) then must (0 ≤ ((p0.Ways.getD i10 default).From : Int) ∧ ((p0.Ways.getD i10 default).From : Int) < ((s10.length : Nat) : Int)) <| bindO (p1 (i10 : Int)) fun y18 => must (0 ≤ ((p0.Ways.getD i10 default).To : Int) ∧ ((p0.Ways.getD i10 default).To : Int) < (((s10.getD ((p0.Ways.getD i10 default).From).toNat []).length : Nat) : Int)) <| k10 (s10.set ((p0.Ways.getD i10 default).From).toNat ((s10.getD ((p0.Ways.getD i10 default).From).toNat []).set ((p0.Ways.getD i10 default).To).toNat y18)) else k10 s10))) ex n (i + 1) s2 = ex s' := by
      rintro _ rfl hno
      refine ih (i + 1) (by omega) _ h1 (fun p q hp hq => ?_)
      rw [h2 p q hp hq]
      show mw p0 T i p q = if _ then _ else _
      rw [if_neg]
      rintro ⟨rfl, rfl, h3, h4⟩
      exact hno ⟨h3, h4⟩
    cases hal : alw (way p0 i) with
    | false =>
      rw [Bool.false_and, cond_false, bindO_some, Bool.false_and, cond_false]
      exact same s rfl (fun h => by rw [hal] at h; cases h.1)
    | true =>
      rw [Bool.true_and]
      by_cases hn : mw p0 T i (way p0 i).From.toNat (way p0 i).To.toNat < 0
      · rw [decide_eq_true hn, Bool.not_true, cond_false, bindO_some, Bool.true_or, Bool.true_and, cond_true, must_pos (by omega), bindO_some, must_pos (by omega)]
        obtain ⟨t1, t2⟩ := mat_set h1 hf ht (T i)
        refine ih (i + 1) (by omega) _ t1 (fun p q hp hq => ?_)
        rw [t2 p q]
        show _ = if _ then _ else _
        by_cases e : p = (way p0 i).From.toNat ∧ q = (way p0 i).To.toNat
        · obtain ⟨rfl, rfl⟩ := e
          rw [if_pos ⟨rfl, rfl⟩, if_pos ⟨rfl, rfl, hal, .inl hn⟩]
        · rw [if_neg e, if_neg (fun x => e ⟨x.1, x.2.1⟩), h2 p q hp hq]
      · rw [decide_eq_false hn, Bool.not_false, cond_true, bindO_some, Bool.false_or, Bool.true_and]
        by_cases h3 : T i < mw p0 T i (way p0 i).From.toNat (way p0 i).To.toNat
        · rw [decide_eq_true h3, cond_true, must_pos (by omega), bindO_some, must_pos (by omega)]
          obtain ⟨t1, t2⟩ := mat_set h1 hf ht (T i)
          refine ih (i + 1) (by omega) _ t1 (fun p q hp hq => ?_)
          rw [t2 p q]
          show _ = if _ then _ else _
          by_cases e : p = (way p0 i).From.toNat ∧ q = (way p0 i).To.toNat
          · obtain ⟨rfl, rfl⟩ := e
            rw [if_pos ⟨rfl, rfl⟩, if_pos ⟨rfl, rfl, hal, .inr h3⟩]
          · rw [if_neg e, if_neg (fun x => e ⟨x.1, x.2.1⟩), h2 p q hp hq]
        · rw [decide_eq_false h3, cond_false]
          exact same s rfl (fun h => by rcases h.2 with h | h; exact hn h; exact h3 h)
theorem sumI_go {p0 : Chart} (hP : 1 ≤ p0.Places ∧ p0.Places ≤ 12) {fuel : Nat} (hf : 41 ≤ fuel) {R : Type} (ex : List (List Int) → Option R) : ∀ (n i : Nat), i + n = p0.Places.toNat → ∀ s : List (List Int), s.length = p0.Places.toNat → (∀ p, p < p0.Places.toNat → (p < i → (s.getD p []).length = p0.Places.toNat ∧ ∀ q, q < p0.Places.toNat → mat s p q = m0 p q) ∧ (i ≤ p → s.getD p [] = [])) →
    ∃ s', Shp p0.Places.toNat s' ∧ (∀ p q, p < p0.Places.toNat → q < p0.Places.toNat → mat s' p q = m0 p q) ∧ rangeGo ((fun i2 (s2 : (List (List Int))) k2 => bindO (slices_Repeat_int fuel ([(-1)] : List Int) p0.Places) fun y4 => must (0 ≤ ((i2 : Int) : Int) ∧ ((i2 : Int) : Int) < ((s2.length : Nat) : Int)) <| must ((s2.getD i2 []).length < y4.length) <| must (0 ≤ ((i2 : Int) : Int) ∧ ((i2 : Int) : Int) < (((s2.set i2 y4).length : Nat) : Int)) <| must (0 ≤ ((i2 : Int) : Int) ∧ ((i2 : Int) : Int) < ((((s2.set i2 y4).getD i2 []).length : Nat) : Int)) <| k2 ((s2.set i2 y4).set i2 (((s2.set i2 y4).getD i2 []).set i2 0)))) ex n i s = ex s' := by
  intro n
  induction n with
  | zero => intro i hi s h1 h2; exact ⟨s, ⟨h1, fun p hp => ((h2 p hp).1 (by omega)).1⟩, fun p q hp hq => ((h2 p hp).1 (by omega)).2 q hq, rfl⟩
  | succ n ih =>
    intro i hi s h1 h2
    have hlt : i < p0.Places.toNat := by omega
    rw [rangeGo_succ]
    generalize hz : rangeGo _ ex n (i + 1) = Z
    have hrep := repeat_eq hf p0.Places.toNat (by omega)
    rw [show ((p0.Places.toNat : Nat) : Int) = p0.Places by omega] at hrep
    have g1 : (s.set i (List.replicate p0.Places.toNat (-1))).getD i [] = List.replicate p0.Places.toNat (-1) := by rw [getD_set' _ _ _ _ _ (by omega), if_pos rfl]
    rw [hrep, bindO_some, must_pos (by omega), must_pos (by rw [(h2 i hlt).2 (Nat.le_refl _), List.length_replicate]; show 0 < _; omega), must_pos (by rw [List.length_set]; omega), g1, must_pos (by rw [List.length_replicate]; omega)]
    subst hz
    refine ih (i + 1) (by omega) ((s.set i (List.replicate p0.Places.toNat (-1))).set i ((List.replicate p0.Places.toNat (-1 : Int)).set i 0)) (by rw [List.length_set, List.length_set]; exact h1) (fun p hp => ?_)
    have g2 : ((s.set i (List.replicate p0.Places.toNat (-1))).set i ((List.replicate p0.Places.toNat (-1 : Int)).set i 0)).getD p [] = if p = i then (List.replicate p0.Places.toNat (-1 : Int)).set i 0 else s.getD p [] := by
      rw [getD_set' _ _ _ _ _ (by rw [List.length_set]; omega)]
      split
      · rfl
      · rename_i e; rw [getD_set' _ _ _ _ _ (by omega), if_neg e]
    refine ⟨fun hp2 => ?_, fun hp2 => ?_⟩
    · by_cases e : p = i
      · subst e
        refine ⟨by rw [g2, if_pos rfl, List.length_set, List.length_replicate], fun q hq => ?_⟩
        unfold mat
        rw [g2, if_pos rfl, getD_set _ _ _ _ (by rw [List.length_replicate]; omega)]
        unfold m0
        by_cases e2 : q = p
        · rw [if_pos e2, if_pos e2.symm]
        · rw [if_neg e2, if_neg (fun x => e2 x.symm), List.getD_eq_getElem?_getD, List.getElem?_replicate, if_pos hq]; rfl
      · obtain ⟨a1, a2⟩ := (h2 p hp).1 (by omega)
        refine ⟨by rw [g2, if_neg e]; exact a1, fun q hq => ?_⟩
        have := a2 q hq
        unfold mat at this ⊢
        rw [g2, if_neg e]; exact this
    · rw [g2, if_neg (by omega)]
      exact (h2 p hp).2 (by omega)
theorem sums_eq {fuel : Nat} (hf : 41 ≤ fuel) {c : Chart} {T : Nat → Int} (N : Net c T) (p1 : Int → Option Int) (hk : ∀ i : Nat, i < c.Ways.length → p1 i = some (T i)) :
    ∃ s, round_sums fuel c p1 = some s ∧ Shp c.Places.toNat s ∧ ∀ p q, p < c.Places.toNat → q < c.Places.toNat → mat s p q = dst c T p q := by
  have hv := valid_iff.1 N.val
  unfold round_sums
  rw [must_pos ⟨by omega, by omega, room_small (by omega) (by omega)⟩, must_pos (by rw [List.length_replicate]; omega), List.length_replicate]
  obtain ⟨s1, a1, a2, a3⟩ := sumI_go (p0 := c) hv.1 hf (R := List (List Int)) (fun (s2 : (List (List Int))) => (rangeGo (fun i10 (s10 : (List (List Int))) k10 => must (0 ≤ ((c.Ways.getD i10 default).From : Int) ∧ ((c.Ways.getD i10 default).From : Int) < ((s10.length : Nat) : Int)) <| must (0 ≤ ((c.Ways.getD i10 default).To : Int) ∧ ((c.Ways.getD i10 default).To : Int) < (((s10.getD ((c.Ways.getD i10 default).From).toNat []).length : Nat) : Int)) <| bindO ((bif (((decide ((c.Ways.getD i10 default).Every = 0)) && ((decide ((c.Ways.getD i10 default).Open.Lo = 0)) && (decide ((c.Ways.getD i10 default).Open.Hi = 1439)))) && !(decide (((s10.getD ((c.Ways.getD i10 default).From).toNat []).getD ((c.Ways.getD i10 default).To).toNat default) < 0))) then p1 (i10 : Int) else some default)) fun y14 => (bif (((decide ((c.Ways.getD i10 default).Every = 0)) && ((decide ((c.Ways.getD i10 default).Open.Lo = 0)) && (decide ((c.Ways.getD i10 default).Open.Hi = 1439)))) && ((decide (((s10.getD ((c.Ways.getD i10 default).From).toNat []).getD ((c.Ways.getD i10 default).To).toNat default) < 0)) || (decide (y14 < ((s10.getD ((c.Ways.getD i10 default).From).toNat []).getD ((c.Ways.getD i10 default).To).toNat default))))) then must (0 ≤ ((c.Ways.getD i10 default).From : Int) ∧ ((c.Ways.getD i10 default).From : Int) < ((s10.length : Nat) : Int)) <| bindO (p1 (i10 : Int)) fun y18 => must (0 ≤ ((c.Ways.getD i10 default).To : Int) ∧ ((c.Ways.getD i10 default).To : Int) < (((s10.getD ((c.Ways.getD i10 default).From).toNat []).length : Nat) : Int)) <| k10 (s10.set ((c.Ways.getD i10 default).From).toNat ((s10.getD ((c.Ways.getD i10 default).From).toNat []).set ((c.Ways.getD i10 default).To).toNat y18)) else k10 s10)) (fun (s10 : (List (List Int))) => must ((c.Places).toNat ≤ 9223372036854775807) <| (rangeGo (fun i21 (s21 : (List (List Int))) k21 => must ((c.Places).toNat ≤ 9223372036854775807) <| (rangeGo (fun i23 (s23 : (List (List Int))) k23 => must ((c.Places).toNat ≤ 9223372036854775807) <| (rangeGo (fun i25 (s25 : (List (List Int))) k25 => must (0 ≤ ((i23 : Int) : Int) ∧ ((i23 : Int) : Int) < ((s25.length : Nat) : Int)) <| must (0 ≤ ((i21 : Int) : Int) ∧ ((i21 : Int) : Int) < (((s25.getD i23 []).length : Nat) : Int)) <| must (0 ≤ ((i21 : Int) : Int) ∧ ((i21 : Int) : Int) < ((s25.length : Nat) : Int)) <| must (0 ≤ ((i25 : Int) : Int) ∧ ((i25 : Int) : Int) < (((s25.getD i21 []).length : Nat) : Int)) <| must ((((decide (0 ≤ ((s25.getD i23 []).getD i21 default))) && (decide (0 ≤ ((s25.getD i21 []).getD i25 default)))) = true → (0 ≤ ((i23 : Int) : Int) ∧ ((i23 : Int) : Int) < ((s25.length : Nat) : Int)))) <| must ((((decide (0 ≤ ((s25.getD i23 []).getD i21 default))) && (decide (0 ≤ ((s25.getD i21 []).getD i25 default)))) = true → (0 ≤ ((i25 : Int) : Int) ∧ ((i25 : Int) : Int) < (((s25.getD i23 []).length : Nat) : Int)))) <| must (((((decide (0 ≤ ((s25.getD i23 []).getD i21 default))) && (decide (0 ≤ ((s25.getD i21 []).getD i25 default)))) && !(decide (((s25.getD i23 []).getD i25 default) < 0))) = true → (inI (((s25.getD i23 []).getD i21 default) + ((s25.getD i21 []).getD i25 default))))) <| must (((((decide (0 ≤ ((s25.getD i23 []).getD i21 default))) && (decide (0 ≤ ((s25.getD i21 []).getD i25 default)))) && !(decide (((s25.getD i23 []).getD i25 default) < 0))) = true → (0 ≤ ((i23 : Int) : Int) ∧ ((i23 : Int) : Int) < ((s25.length : Nat) : Int)))) <| must (((((decide (0 ≤ ((s25.getD i23 []).getD i21 default))) && (decide (0 ≤ ((s25.getD i21 []).getD i25 default)))) && !(decide (((s25.getD i23 []).getD i25 default) < 0))) = true → (0 ≤ ((i25 : Int) : Int) ∧ ((i25 : Int) : Int) < (((s25.getD i23 []).length : Nat) : Int)))) <| (bif (((decide (0 ≤ ((s25.getD i23 []).getD i21 default))) && (decide (0 ≤ ((s25.getD i21 []).getD i25 default)))) && ((decide (((s25.getD i23 []).getD i25 default) < 0)) || (decide ((((s25.getD i23 []).getD i21 default) + ((s25.getD i21 []).getD i25 default)) < ((s25.getD i23 []).getD i25 default))))) then must (0 ≤ ((i23 : Int) : Int) ∧ ((i23 : Int) : Int) < ((s25.length : Nat) : Int)) <| must (inI (((s25.getD i23 []).getD i21 default) + ((s25.getD i21 []).getD i25 default))) <| must (0 ≤ ((i25 : Int) : Int) ∧ ((i25 : Int) : Int) < (((s25.getD i23 []).length : Nat) : Int)) <| k25 (s25.set i23 ((s25.getD i23 []).set i25 (((s25.getD i23 []).getD i21 default) + ((s25.getD i21 []).getD i25 default)))) else k25 s25)) (fun (s25 : (List (List Int))) => k23 s25) ((c.Places).toNat) 0 s23)) (fun (s23 : (List (List Int))) => k21 s23) ((c.Places).toNat) 0 s21)) (fun (s21 : (List (List Int))) => some s21) ((c.Places).toNat) 0 s10)) c.Ways.length 0 s2)) c.Places.toNat 0 (by omega) (List.replicate c.Places.toNat []) (by simp) (fun p hp => ⟨fun h => by omega, fun _ => by rw [List.getD_eq_getElem?_getD, List.getElem?_replicate, if_pos hp]; rfl⟩)
  obtain ⟨s2, b1, b2, b3⟩ := sumW_go N p1 hk (R := List (List Int)) (fun (s10 : (List (List Int))) => must ((c.Places).toNat ≤ 9223372036854775807) <| (rangeGo (fun i21 (s21 : (List (List Int))) k21 => must ((c.Places).toNat ≤ 9223372036854775807) <| (rangeGo (fun i23 (s23 : (List (List Int))) k23 => must ((c.Places).toNat ≤ 9223372036854775807) <| (rangeGo (fun i25 (s25 : (List (List Int))) k25 => must (0 ≤ ((i23 : Int) : Int) ∧ ((i23 : Int) : Int) < ((s25.length : Nat) : Int)) <| must (0 ≤ ((i21 : Int) : Int) ∧ ((i21 : Int) : Int) < (((s25.getD i23 []).length : Nat) : Int)) <| must (0 ≤ ((i21 : Int) : Int) ∧ ((i21 : Int) : Int) < ((s25.length : Nat) : Int)) <| must (0 ≤ ((i25 : Int) : Int) ∧ ((i25 : Int) : Int) < (((s25.getD i21 []).length : Nat) : Int)) <| must ((((decide (0 ≤ ((s25.getD i23 []).getD i21 default))) && (decide (0 ≤ ((s25.getD i21 []).getD i25 default)))) = true → (0 ≤ ((i23 : Int) : Int) ∧ ((i23 : Int) : Int) < ((s25.length : Nat) : Int)))) <| must ((((decide (0 ≤ ((s25.getD i23 []).getD i21 default))) && (decide (0 ≤ ((s25.getD i21 []).getD i25 default)))) = true → (0 ≤ ((i25 : Int) : Int) ∧ ((i25 : Int) : Int) < (((s25.getD i23 []).length : Nat) : Int)))) <| must (((((decide (0 ≤ ((s25.getD i23 []).getD i21 default))) && (decide (0 ≤ ((s25.getD i21 []).getD i25 default)))) && !(decide (((s25.getD i23 []).getD i25 default) < 0))) = true → (inI (((s25.getD i23 []).getD i21 default) + ((s25.getD i21 []).getD i25 default))))) <| must (((((decide (0 ≤ ((s25.getD i23 []).getD i21 default))) && (decide (0 ≤ ((s25.getD i21 []).getD i25 default)))) && !(decide (((s25.getD i23 []).getD i25 default) < 0))) = true → (0 ≤ ((i23 : Int) : Int) ∧ ((i23 : Int) : Int) < ((s25.length : Nat) : Int)))) <| must (((((decide (0 ≤ ((s25.getD i23 []).getD i21 default))) && (decide (0 ≤ ((s25.getD i21 []).getD i25 default)))) && !(decide (((s25.getD i23 []).getD i25 default) < 0))) = true → (0 ≤ ((i25 : Int) : Int) ∧ ((i25 : Int) : Int) < (((s25.getD i23 []).length : Nat) : Int)))) <| (bif (((decide (0 ≤ ((s25.getD i23 []).getD i21 default))) && (decide (0 ≤ ((s25.getD i21 []).getD i25 default)))) && ((decide (((s25.getD i23 []).getD i25 default) < 0)) || (decide ((((s25.getD i23 []).getD i21 default) + ((s25.getD i21 []).getD i25 default)) < ((s25.getD i23 []).getD i25 default))))) then must (0 ≤ ((i23 : Int) : Int) ∧ ((i23 : Int) : Int) < ((s25.length : Nat) : Int)) <| must (inI (((s25.getD i23 []).getD i21 default) + ((s25.getD i21 []).getD i25 default))) <| must (0 ≤ ((i25 : Int) : Int) ∧ ((i25 : Int) : Int) < (((s25.getD i23 []).length : Nat) : Int)) <| k25 (s25.set i23 ((s25.getD i23 []).set i25 (((s25.getD i23 []).getD i21 default) + ((s25.getD i21 []).getD i25 default)))) else k25 s25)) (fun (s25 : (List (List Int))) => k23 s25) ((c.Places).toNat) 0 s23)) (fun (s23 : (List (List Int))) => k21 s23) ((c.Places).toNat) 0 s21)) (fun (s21 : (List (List Int))) => some s21) ((c.Places).toNat) 0 s10)) c.Ways.length 0 (by omega) s1 a1 a2
  obtain ⟨s3, c1, c2, c3⟩ := sumK_go (p0 := c) rfl (by omega) (nice_mw N _ (Nat.le_refl _)) (R := List (List Int)) (fun (s21 : (List (List Int))) => some s21) c.Places.toNat 0 (by omega) s2 b1 b2
  exact ⟨s3, a3.trans (b3.trans ((must_pos (by omega) _).trans c3)), c1, c2⟩
end Go.Sp
