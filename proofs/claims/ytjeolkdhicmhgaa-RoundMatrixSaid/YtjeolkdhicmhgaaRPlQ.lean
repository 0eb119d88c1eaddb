/- Plain laws: RoundMatrix. No program in sight. -/
import Derived.Test.YtjeolkdhicmhgaaRPlP
set_option linter.all false
namespace Go.Sp
open Go.Av
set_option maxRecDepth 100000
def openW (w : Way) : Way := ⟨w.From, w.To, w.Takes, ⟨0, 1439⟩, 0⟩
def ringW (P : Int) (i : Nat) : Way := ⟨i, Int.tmod ((i : Int) + 1) P, ⟨9, 15⟩, ⟨0, 1439⟩, 0⟩
theorem ring_wk {c : Chart} {T : Nat → Int} (n : Nat) (hlen : c.Ways.length = n + c.Places.toNat) (hP : 2 ≤ c.Places ∧ c.Places ≤ 6) (hw : ∀ i : Nat, i < c.Places.toNat → way c (n + i) = ringW c.Places i) (hT : ∀ i : Nat, i < c.Places.toNat → T (n + i) = 15) {p : Nat} (hp : p < c.Places.toNat) :
    ∀ j : Nat, Wk c T p ((p + j) % c.Places.toNat) (15 * (j : Int))
  | 0 => by rw [Nat.add_zero, Nat.mod_eq_of_lt hp]; exact .nil
  | j + 1 => by
    have hm : (p + j) % c.Places.toNat < c.Places.toNat := Nat.mod_lt _ (by omega)
    have e := hw _ hm
    have W := Wk.snoc _ _ (n + (p + j) % c.Places.toNat) (ring_wk n hlen hP hw hT hp j) (by omega) (by rw [e]; rfl) (by rw [e]; rfl)
    rw [hT _ hm, e] at W
    have e2 : (ringW c.Places ((p + j) % c.Places.toNat)).To.toNat = (p + (j + 1)) % c.Places.toNat := by
      show (Int.tmod ((((p + j) % c.Places.toNat : Nat) : Int) + 1) c.Places).toNat = _
      obtain ⟨P, hPP⟩ : ∃ P : Nat, c.Places = (P : Int) := ⟨c.Places.toNat, by omega⟩
      rw [hPP, show ((P : Int)).toNat = P by omega]
      rw [Int.tmod_eq_emod_of_nonneg (by omega)]
      have : ((((p + j) % P : Nat) : Int) + 1) % (P : Int) = ((((p + j) % P + 1) % P : Nat) : Int) := by simp
      rw [this, Int.toNat_natCast, Nat.mod_add_mod, Nat.add_assoc]
    rw [e2] at W
    rw [show (15 : Int) * ((j + 1 : Nat) : Int) = 15 * (j : Int) + 15 by omega]
    exact W
theorem valid_of {c : Chart} (h1 : 1 ≤ c.Places ∧ c.Places ≤ 12) (h2 : c.Ways.length ≤ 40) (h3 : ∀ i, i < c.Ways.length → round_joins c (way c i) = true) : valid c = true :=
  valid_iff.2 ⟨h1, h2, fun w hw => by
    obtain ⟨i, hi, rfl⟩ := List.getElem_of_mem hw
    have := h3 i hi
    unfold way at this
    rw [List.getD_eq_getElem?_getD, List.getElem?_eq_getElem hi] at this
    exact this⟩
theorem roundMatrix_true (x : gasolierref03_Raw) (at_ : Int) : gasolierlaw03_RoundMatrix 20000 x at_ = some true := by
  refine Wp.eq ?_
  unfold gasolierlaw03_RoundMatrix
  obtain ⟨c, r, e1, M⟩ := made_eq (fuel := 20000) (by omega) x
  have hvv := valid_iff.1 M.val
  obtain ⟨hp, ha, _, _⟩ := isRd_iff.1 M.rd
  have hP := M.pl
  have hn12 := M.ways
  refine wp_bindE sane_ok (wp_bindE e1 ?_)
  dsimp only
  refine wp_loop (fun s => 0 ≤ s.1 ∧ s.1 ≤ c.Ways.length ∧ s.2.length = c.Ways.length ∧ ∀ j : Nat, j < c.Ways.length → s.2.getD j default = if (j : Int) < s.1 then openW (way c j) else way c j) (fun s => 12 - s.1.toNat) (by show 12 - (0 : Int).toNat < 20000; omega)
    ⟨Int.le_refl _, by show (0 : Int) ≤ _; omega, rfl, fun j hj => by rw [if_neg (by show ¬ ((j : Int) < 0); omega)]; rfl⟩ ?_
  rintro ⟨i, W⟩ K ⟨h1, h2, h3, h4⟩ hK
  dsimp only at h1 h2 h3 h4 hK ⊢
  refine wp_ifd (fun h => ?_) (fun h => ?_)
  · repeat (first | (refine wp_must ?_ ?_; · omega) | (refine wp_mustI ?_ ?_; · omega) | (refine wp_mustR ?_ ?_; · (simp only [List.length_append, List.length_cons, List.length_nil, List.length_set, List.length_replicate]; omega)) | (refine wp_must ?_ ?_; · (simp only [List.length_append, List.length_cons, List.length_nil, List.length_set, List.length_replicate]; omega)) | (refine wp_must ?_ ?_; · (intro _; omega)) | (refine wp_mustW ?_ ?_; · (intro _; omega)))
    refine hK _ ⟨by show 0 ≤ i + 1; omega, by show i + 1 ≤ _; omega, by rw [List.length_set, List.length_set]; exact h3, fun j hj => ?_⟩ (by show 12 - (i + 1).toNat < 12 - i.toNat; omega)
    dsimp only
    have hi : i.toNat < W.length := by omega
    have a1 : W.getD i.toNat default = way c i.toNat := by rw [h4 _ (by omega), if_neg (by omega)]
    rw [getD_set _ _ _ _ (by rw [List.length_set]; exact hi), getD_set _ _ _ _ hi, getD_set _ _ _ _ hi, if_pos rfl, a1, h4 j hj]
    by_cases e : j = i.toNat
    · subst e; rw [if_pos rfl, if_pos (by omega)]; rfl
    · rw [if_neg e, if_neg e]
      by_cases e2 : (j : Int) < i
      · rw [if_pos e2, if_pos (by omega)]
      · rw [if_neg e2, if_neg (by omega)]
  have hW : ∀ j : Nat, j < c.Ways.length → W.getD j default = openW (way c j) := fun j hj => by rw [h4 j hj, if_pos (by omega)]
  clear h4 hK K h1 h2
  refine wp_loop (fun s => 0 ≤ s.1 ∧ s.1 ≤ c.Places ∧ s.2.length = c.Ways.length + s.1.toNat ∧ (∀ j : Nat, j < c.Ways.length → s.2.getD j default = openW (way c j)) ∧ ∀ j : Nat, (j : Int) < s.1 → s.2.getD (c.Ways.length + j) default = ringW c.Places j) (fun s => 12 - s.1.toNat) (by show 12 - (0 : Int).toNat < 20000; omega)
    ⟨Int.le_refl _, by show (0 : Int) ≤ _; omega, h3, hW, fun j hj => absurd hj (by show ¬ ((j : Int) < 0); omega)⟩ ?_
  rintro ⟨i, V⟩ K ⟨h1, h2, h3', h4, h5⟩ hK
  dsimp only at h1 h2 h3' h4 h5 hK ⊢
  refine wp_ifd (fun h => ?_) (fun h => ?_)
  · repeat (first | (refine wp_must ?_ ?_; · omega) | (refine wp_mustI ?_ ?_; · omega) | (refine wp_mustR ?_ ?_; · (simp only [List.length_append, List.length_cons, List.length_nil, List.length_set, List.length_replicate]; omega)) | (refine wp_must ?_ ?_; · (simp only [List.length_append, List.length_cons, List.length_nil, List.length_set, List.length_replicate]; omega)) | (refine wp_must ?_ ?_; · (intro _; omega)) | (refine wp_mustW ?_ ?_; · (intro _; omega)))
    refine hK _ ⟨by show 0 ≤ i + 1; omega, by show i + 1 ≤ _; omega, by show (V ++ [_]).length = _ + (i + 1).toNat; simp; omega, fun j hj => ?_, fun j hj => ?_⟩ (by show 12 - (i + 1).toNat < 12 - i.toNat; omega)
    · dsimp only; rw [getD_snoc, if_neg (by omega)]; exact h4 j hj
    · have hj : (j : Int) < i + 1 := hj
      dsimp only
      rw [getD_snoc]
      by_cases e : c.Ways.length + j = V.length
      · rw [if_pos e]
        have : i = (j : Int) := by omega
        subst this; rfl
      · rw [if_neg e]; exact h5 j (by omega)
  have hi : i = c.Places := by omega
  subst hi
  clear hK K h h1 h2
  -- the chart
  have c1 : ∀ j, j < c.Ways.length → way ⟨c.Places, V⟩ j = openW (way c j) := h4
  have c2 : ∀ j, j < c.Places.toNat → way ⟨c.Places, V⟩ (c.Ways.length + j) = ringW c.Places j := fun j hj => h5 j (by omega)
  have hcase : ∀ k, k < V.length → (k < c.Ways.length) ∨ ∃ j, j < c.Places.toNat ∧ k = c.Ways.length + j := fun k hk => by
    by_cases e : k < c.Ways.length
    · exact .inl e
    · exact .inr ⟨k - c.Ways.length, by omega, by omega⟩
  have hv : valid ⟨c.Places, V⟩ = true := by
    refine valid_of (by dsimp only; omega) (by dsimp only; omega) (fun k hk => ?_)
    rcases hcase k hk with e | ⟨j, hj, rfl⟩
    · rw [c1 k e]
      have := joins_iff.1 (joins_of M.val e)
      exact joins_iff.2 ⟨this.1, this.2.1, this.2.2.1, this.2.2.2.1, by show 0 ≤ (0 : Int) ∧ (0 : Int) ≤ 1439 ∧ (1439 : Int) ≤ 1439; omega, by show 0 ≤ (0 : Int) ∧ (0 : Int) ≤ 600; omega, this.2.2.2.2.2.2.1, this.2.2.2.2.2.2.2⟩
    · rw [c2 j hj]
      have t0 : Int.tmod ((j : Int) + 1) c.Places = ((j : Int) + 1) % c.Places := Int.tmod_eq_emod_of_nonneg (by omega)
      have t1 := Int.emod_nonneg ((j : Int) + 1) (show c.Places ≠ 0 by omega)
      have t2 := Int.emod_lt_of_pos ((j : Int) + 1) (show 0 < c.Places by omega)
      have t3 : ((j : Int) + 1) % c.Places ≠ j := by
        by_cases e : (j : Int) + 1 < c.Places
        · rw [Int.emod_eq_of_lt (by omega) e]; omega
        · have : (j : Int) + 1 = c.Places := by omega
          rw [this, Int.emod_self]; omega
      refine joins_iff.2 ?_
      unfold ringW
      dsimp only
      rw [t0]
      omega
  have hall : ∀ k, k < (⟨c.Places, V⟩ : Chart).Ways.length → alw (way ⟨c.Places, V⟩ k) = true := fun k hk => by
    rcases hcase k hk with e | ⟨j, hj, rfl⟩
    · rw [c1 k e]; rfl
    · rw [c2 j hj]; rfl
  have NH := net_bo hv true
  have NL := net_bo hv false
  have hring : ∀ p q, p < c.Places.toNat → q < c.Places.toNat → 0 ≤ hi ⟨c.Places, V⟩ p q ∧ hi ⟨c.Places, V⟩ p q ≤ 600 := fun p q hp' hq' => by
    have W := ring_wk (c := ⟨c.Places, V⟩) (T := boT ⟨c.Places, V⟩ true) c.Ways.length (by dsimp only; omega) hP c2 (fun j hj => by unfold boT; rw [c2 j hj]; rfl) hp' (q + c.Places.toNat - p)
    have e : (p + (q + c.Places.toNat - p)) % (⟨c.Places, V⟩ : Chart).Places.toNat = q := by
      rw [show p + (q + c.Places.toNat - p) = q + c.Places.toNat by omega]
      show (q + c.Places.toNat) % c.Places.toNat = q
      rw [Nat.add_mod_right, Nat.mod_eq_of_lt hq']
    rw [e] at W
    have := W.le NH (by exact hp')
    exact ⟨this.2.1, by unfold hi; omega⟩
  generalize hcc : (⟨c.Places, V⟩ : Chart) = d at *
  have hdP : d.Places = c.Places := by rw [← hcc]
  have hdv := valid_iff.1 hv
  refine wp_bind (matrix_eq (by omega) d) (fun m hm => ?_)
  obtain ⟨m1, m2, m3⟩ : m.2 = 0 ∧ Shp d.Places.toNat m.1 ∧ ∀ p q, p < d.Places.toNat → q < d.Places.toNat → mat m.1 p q = ⟨lo d p q, hi d p q⟩ := by
    rcases hm with ⟨h6, _⟩ | ⟨_, ⟨p, q, hp', hq', h6⟩, _⟩ | ⟨_, _, h6, h7, h8⟩
    · rw [hv] at h6; cases h6
    · have := hring p q (by omega) (by omega); omega
    · exact ⟨h6, h7, h8⟩
  rw [hdP] at m2 m3
  obtain ⟨t, et, ht⟩ := mod_eq at_ (m := 1440) (by omega) (by omega)
  refine wp_bindE et ?_
  obtain ⟨s1, k1, p1⟩ := sure_eq (Nat.le_refl 20000) d r.Place t
  refine wp_bindE k1 ?_
  obtain ⟨z1, q1⟩ := p1.ok (askE_ok hv (by omega) (by omega))
  have hl := q1.len
  have hml := m2.len
  have hrow : ∀ p, p < c.Places.toNat → (m.1.getD p default).length = c.Places.toNat := m2.row
  refine wp_false (by rw [m1, z1, decide_eq_true (show ((m.1.length : Nat) : Int) = c.Places by omega), decide_eq_true (show ((s1.1.length : Nat) : Int) = c.Places by omega)]; rfl) ?_
  have ent : ∀ p q : Int, 0 ≤ p → p < c.Places → 0 ≤ q → q < c.Places → ((m.1.getD p.toNat default).getD q.toNat default) = (⟨lo d p.toNat q.toNat, hi d p.toNat q.toNat⟩ : Range) := fun p q a1 a2 a3 a4 => m3 p.toNat q.toNat (by omega) (by omega)
  have dg : ∀ p : Nat, p < c.Places.toNat → lo d p p = 0 ∧ hi d p p = 0 := fun p hp' => ⟨dst_self NL (by omega), dst_self NH (by omega)⟩
  refine wp_loop (fun s => 0 ≤ s ∧ s ≤ c.Places) (fun s => 12 - s.toNat) (by show 12 - (0 : Int).toNat < 20000; omega) ⟨Int.le_refl _, by omega⟩ ?_
  intro a K ⟨h1, h2⟩ hK
  refine wp_ifd (fun h => ?_) (fun h => ?_)
  · have hr := hrow a.toNat (by omega)
    rw [ent a a h1 h h1 h, (dg a.toNat (by omega)).1, (dg a.toNat (by omega)).2]
    repeat (first | (refine wp_must ?_ ?_; · omega) | (refine wp_mustI ?_ ?_; · omega) | (refine wp_mustR ?_ ?_; · (simp only [List.length_append, List.length_cons, List.length_nil, List.length_set, List.length_replicate]; omega)) | (refine wp_must ?_ ?_; · (simp only [List.length_append, List.length_cons, List.length_nil, List.length_set, List.length_replicate]; omega)) | (refine wp_must ?_ ?_; · (intro _; omega)) | (refine wp_mustW ?_ ?_; · (intro _; omega)))
    refine wp_false (by rw [decide_eq_true (show (((m.1.getD a.toNat default).length : Nat) : Int) = c.Places by omega)]; rfl) ?_
    repeat (first | (refine wp_must ?_ ?_; · omega) | (refine wp_mustI ?_ ?_; · omega) | (refine wp_mustR ?_ ?_; · (simp only [List.length_append, List.length_cons, List.length_nil, List.length_set, List.length_replicate]; omega)) | (refine wp_must ?_ ?_; · (simp only [List.length_append, List.length_cons, List.length_nil, List.length_set, List.length_replicate]; omega)) | (refine wp_must ?_ ?_; · (intro _; omega)) | (refine wp_mustW ?_ ?_; · (intro _; omega)))
    exact hK _ ⟨by omega, by omega⟩ (by omega)
  clear hK K h h1 h2
  refine wp_loop (fun s => 0 ≤ s ∧ s ≤ c.Places) (fun s => 12 - s.toNat) (by show 12 - (0 : Int).toNat < 20000; omega) ⟨Int.le_refl _, by omega⟩ ?_
  intro a K ⟨h1, h2⟩ hK
  refine wp_ifd (fun h => ?_) (fun h => wp_some rfl)
  have hra := hrow a.toNat (by omega)
  refine wp_loop (fun s => 0 ≤ s ∧ s ≤ c.Places) (fun s => 12 - s.toNat) (by show 12 - (0 : Int).toNat < 20000; omega) ⟨Int.le_refl _, by omega⟩ ?_
  intro b K2 ⟨h3, h4⟩ hK2
  refine wp_ifd (fun h' => ?_) (fun h' => ?_)
  · have hrb := hrow b.toNat (by omega)
    refine wp_loop (fun s => 0 ≤ s ∧ s ≤ c.Places) (fun s => 12 - s.toNat) (by show 12 - (0 : Int).toNat < 20000; omega) ⟨Int.le_refl _, by omega⟩ ?_
    intro e K3 ⟨h5, h6⟩ hK3
    refine wp_ifd (fun h'' => ?_) (fun h'' => ?_)
    · rw [ent a b h1 h h3 h', ent b e h3 h' h5 h'', ent a e h1 h h5 h'']
      have H1 := hring a.toNat b.toNat (by omega) (by omega)
      have H2 := hring b.toNat e.toNat (by omega) (by omega)
      have H3 := hring a.toNat e.toNat (by omega) (by omega)
      have L1 := lo_le hv a.toNat b.toNat H1.1
      have L2 := lo_le hv b.toNat e.toNat H2.1
      have L3 := lo_le hv a.toNat e.toNat H3.1
      have t1 : 0 ≤ hi d a.toNat e.toNat ∧ hi d a.toNat e.toNat ≤ hi d a.toNat b.toNat + hi d b.toNat e.toNat := dst_tri NH (by omega) (by omega) (by omega) H1.1 H2.1
      have t2 : 0 ≤ lo d a.toNat e.toNat ∧ lo d a.toNat e.toNat ≤ lo d a.toNat b.toNat + lo d b.toNat e.toNat := dst_tri NL (by omega) (by omega) (by omega) L1.1 L2.1
      dsimp only
      repeat (first | (refine wp_must ?_ ?_; · omega) | (refine wp_mustI ?_ ?_; · omega) | (refine wp_mustR ?_ ?_; · (simp only [List.length_append, List.length_cons, List.length_nil, List.length_set, List.length_replicate]; omega)) | (refine wp_must ?_ ?_; · (simp only [List.length_append, List.length_cons, List.length_nil, List.length_set, List.length_replicate]; omega)) | (refine wp_must ?_ ?_; · (intro _; omega)) | (refine wp_mustW ?_ ?_; · (intro _; omega)))
      refine wp_false ?_ ?_
      · rw [decide_eq_false (by omega), decide_eq_false (by omega), decide_eq_false (by omega)]; rfl
      repeat (first | (refine wp_must ?_ ?_; · omega) | (refine wp_mustI ?_ ?_; · omega) | (refine wp_mustR ?_ ?_; · (simp only [List.length_append, List.length_cons, List.length_nil, List.length_set, List.length_replicate]; omega)) | (refine wp_must ?_ ?_; · (simp only [List.length_append, List.length_cons, List.length_nil, List.length_set, List.length_replicate]; omega)) | (refine wp_must ?_ ?_; · (intro _; omega)) | (refine wp_mustW ?_ ?_; · (intro _; omega)))
      exact hK3 _ ⟨by omega, by omega⟩ (by omega)
    · repeat (first | (refine wp_must ?_ ?_; · omega) | (refine wp_mustI ?_ ?_; · omega) | (refine wp_mustR ?_ ?_; · (simp only [List.length_append, List.length_cons, List.length_nil, List.length_set, List.length_replicate]; omega)) | (refine wp_must ?_ ?_; · (simp only [List.length_append, List.length_cons, List.length_nil, List.length_set, List.length_replicate]; omega)) | (refine wp_must ?_ ?_; · (intro _; omega)) | (refine wp_mustW ?_ ?_; · (intro _; omega)))
      exact hK2 _ ⟨by omega, by omega⟩ (by omega)
  · have hrp := hrow r.Place.toNat (by omega)
    rw [ent r.Place a (by omega) (by omega) h1 h]
    have H1 := hring r.Place.toNat a.toNat (by omega) (by omega)
    dsimp only
    repeat (first | (refine wp_must ?_ ?_; · omega) | (refine wp_mustI ?_ ?_; · omega) | (refine wp_mustR ?_ ?_; · (simp only [List.length_append, List.length_cons, List.length_nil, List.length_set, List.length_replicate]; omega)) | (refine wp_must ?_ ?_; · (simp only [List.length_append, List.length_cons, List.length_nil, List.length_set, List.length_replicate]; omega)) | (refine wp_must ?_ ?_; · (intro _; omega)) | (refine wp_mustW ?_ ?_; · (intro _; omega)))
    refine wp_false ?_ ?_
    · by_cases e : t + hi d r.Place.toNat a.toNat ≤ 1439
      · have : s1.1.getD a.toNat default = t + hi d r.Place.toNat a.toNat := sure_dst NH hall (by omega) (by omega) q1 (by omega) H1.1 e
        rw [decide_eq_true this, Bool.not_true, Bool.and_false]
      · rw [decide_eq_false e, Bool.false_and]
    repeat (first | (refine wp_must ?_ ?_; · omega) | (refine wp_mustI ?_ ?_; · omega) | (refine wp_mustR ?_ ?_; · (simp only [List.length_append, List.length_cons, List.length_nil, List.length_set, List.length_replicate]; omega)) | (refine wp_must ?_ ?_; · (simp only [List.length_append, List.length_cons, List.length_nil, List.length_set, List.length_replicate]; omega)) | (refine wp_must ?_ ?_; · (intro _; omega)) | (refine wp_mustW ?_ ?_; · (intro _; omega)))
    exact hK _ ⟨by omega, by omega⟩ (by omega)
end Go.Sp
