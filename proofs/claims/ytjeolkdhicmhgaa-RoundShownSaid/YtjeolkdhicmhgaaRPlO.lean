/- Plain laws: RoundShown. No program in sight. -/
import Derived.Test.YtjeolkdhicmhgaaRPlN
import Derived.Test.YtjeolkdhicmhgaaRPlL
set_option linter.all false
namespace Go.Sp
open Go.Av
set_option maxRecDepth 100000
theorem trail_arr {c : Chart} {s a0 : Int} : ∀ {l : List Int} {p a q b : Int}, trail c l p a = some (q, b) → Arr c (boT c true) s a0 p a → Arr c (boT c true) s a0 q b
  | [], p, a, q, b, h, H => by cases h; exact H
  | i :: l, p, a, q, b, h, H => by
    rw [trail_cons] at h
    split at h
    · rename_i hc
      cases hf : fin (way c i.toNat) (boT c true i.toNat) a with
      | none => rw [hf] at h; cases h
      | some m =>
        rw [hf] at h
        exact trail_arr h (.step p a i.toNat m H (by omega) hc.2 hf)
    · cases h
theorem MkOk.le {c : Chart} (hv : valid c = true) {s a : Int} {L : List Int} (h : MkOk c s a L) {p b : Int} (H : Arr c (boT c true) s a p b) : 0 ≤ L.getD p.toNat default ∧ L.getD p.toNat default ≤ b := by
  induction H with
  | start => exact h.st
  | step p a i b H hi hf hb ih =>
    obtain ⟨x, k1, k2⟩ := fin_mono (fit_of (joins_of hv hi)) ih.2 hb
    subst hf
    have := h.cls i hi ih.1 x k1
    omega
theorem Mins.marks {c : Chart} (hv : valid c = true) {s a : Int} {L : List Int} (hs : 0 ≤ s ∧ s < c.Places) (ha : 0 ≤ a ∧ a ≤ 1439) (h : Mins c (boT c true) s a L) : MkOk c s a L := by
  have N := net_bo hv true
  have hl := h.len
  have hvv := valid_iff.1 hv
  have bd : ∀ p : Nat, p < c.Places.toNat → -1 ≤ L.getD p default ∧ L.getD p default ≤ 1439 := fun p hp => by
    obtain ⟨h1, h2⟩ := h.lst p hp
    refine ⟨h1, ?_⟩
    by_cases hn : L.getD p default < 0
    · omega
    · rw [mrk_pos (by omega)] at h2
      exact (h2.1.bounds N hs ha).2.2
  refine ⟨by omega, fun x hx => ?_, ?_, fun i hi h0 b hb => ?_⟩
  · obtain ⟨i, hi, rfl⟩ := List.getElem_of_mem hx
    have := bd i (by omega)
    rw [List.getD_eq_getElem?_getD, List.getElem?_eq_getElem hi] at this
    exact this
  · rw [Mins.start N hs ha h]; omega
  · have hj := joins_iff.1 (joins_of hv hi)
    obtain ⟨h1, h2⟩ := h.lst (way c i).From.toNat (by omega)
    rw [mrk_pos h0, show (((way c i).From.toNat : Nat) : Int) = (way c i).From by omega] at h2
    have A := Arr.step _ _ i b h2.1 hi rfl hb
    obtain ⟨g1, g2⟩ := h.lst (way c i).To.toNat (by omega)
    rw [show (((way c i).To.toNat : Nat) : Int) = (way c i).To by omega] at g2
    by_cases hn : L.getD (way c i).To.toNat default < 0
    · rw [mrk_neg hn] at g2; exact absurd A (g2 b)
    · rw [mrk_pos (by omega)] at g2
      exact ⟨by omega, g2.2 b A⟩
theorem pathE_zero {c : Chart} {t : Trip} {l : List Int} {b : Int} (h0 : tripE c t = 0) (h : pathE c t l b = 0) : ∃ m, trail c l t.From t.At = some (t.To, m) ∧ m ≤ b := by
  unfold pathE at h
  rw [if_neg (by omega)] at h
  cases e : trail c l t.From t.At with
  | none => rw [e] at h; cases h
  | some s =>
    rw [e] at h
    have h : (if s.1 ≠ t.To then (34 : Int) else if b < s.2 then 36 else 0) = 0 := h
    split at h
    · cases h
    · rename_i h1
      split at h
      · cases h
      · rename_i h2
        obtain ⟨q, m⟩ := s
        simp only [ne_eq, Decidable.not_not] at h1
        exact ⟨m, by rw [← h1], by dsimp only at h2; omega⟩
theorem pathE_of {c : Chart} {t : Trip} {l : List Int} {b m : Int} (h0 : tripE c t = 0) (h : trail c l t.From t.At = some (t.To, m)) : pathE c t l b = if b < m then 36 else 0 := by
  unfold pathE
  rw [if_neg (by omega), h]
  show (if t.To ≠ t.To then (34 : Int) else if b < m then 36 else 0) = _
  rw [if_neg (by simp)]
theorem roundShown_true (x : gasolierref03_Raw) (ways less : List Int) : gasolierlaw03_RoundShown 20000 x ways less = some true := by
  refine Wp.eq ?_
  unfold gasolierlaw03_RoundShown
  obtain ⟨c, r, e1, M⟩ := made_eq (fuel := 20000) (by omega) x
  have hv := M.val
  have hvv := valid_iff.1 hv
  obtain ⟨hp, ha, _, _⟩ := isRd_iff.1 M.rd
  obtain ⟨s1, k1, p1⟩ := sure_eq (Nat.le_refl 20000) c r.Place r.At
  have h0 := askE_ok hv hp ha
  obtain ⟨z1, q1⟩ := p1.ok h0
  have hl := q1.len
  have mk := q1.marks hv hp ha
  refine wp_bindE sane_ok (wp_bindE e1 (wp_bindE k1 ?_))
  have hle : decide (((s1.1.length : Nat) : Int) = c.Places) = true := decide_eq_true (by omega)
  dsimp only
  rw [z1, hle]
  refine wp_bind (checkMarks_eq c r.Place r.At s1.1) (fun e he => ?_)
  have he0 : e = 0 := by
    rcases he with ⟨h1, _⟩ | ⟨_, _, h3⟩ | ⟨_, h2, _⟩
    · exact absurd h0 h1
    · exact h3
    · exact absurd mk h2
  subst he0
  refine wp_false rfl ?_
  refine wp_loop (fun s => 0 ≤ s.1 ∧ s.1 ≤ 6 ∧ s.2.length = s.1.toNat) (fun s => 6 - s.1.toNat) (by show 6 - (0 : Int).toNat < 20000; omega) ⟨Int.le_refl _, by show (0 : Int) ≤ 6; omega, rfl⟩ ?_
  rintro ⟨i, path⟩ K ⟨h1, h2, h3⟩ hK
  dsimp only at h1 h2 h3 hK ⊢
  refine wp_if (p := (i < (ways.length : Int) ∧ i < 6) ∧ 0 < (c.Ways.length : Int)) (by simp) (fun h => ?_) (fun _ => ?_)
  · repeat (first | (refine wp_must ?_ ?_; · omega) | (refine wp_mustI ?_ ?_; · omega) | (refine wp_mustR ?_ ?_; · (simp only [List.length_append, List.length_cons, List.length_nil, List.length_set, List.length_replicate]; omega)) | (refine wp_must ?_ ?_; · (simp only [List.length_append, List.length_cons, List.length_nil, List.length_set, List.length_replicate]; omega)) | (refine wp_must ?_ ?_; · (intro _; omega)) | (refine wp_mustW ?_ ?_; · (intro _; omega)))
    obtain ⟨y, ey, hy⟩ := mod_eq (ways.getD i.toNat default) (m := ((c.Ways.length : Nat) : Int)) (by omega) (by omega)
    refine wp_bindE ey ?_
    repeat (first | (refine wp_must ?_ ?_; · omega) | (refine wp_mustI ?_ ?_; · omega) | (refine wp_mustR ?_ ?_; · (simp only [List.length_append, List.length_cons, List.length_nil, List.length_set, List.length_replicate]; omega)) | (refine wp_must ?_ ?_; · (simp only [List.length_append, List.length_cons, List.length_nil, List.length_set, List.length_replicate]; omega)) | (refine wp_must ?_ ?_; · (intro _; omega)) | (refine wp_mustW ?_ ?_; · (intro _; omega)))
    exact hK _ ⟨by show 0 ≤ i + 1; omega, by show i + 1 ≤ 6; omega, by show (path ++ [y]).length = (i + 1).toNat; simp; omega⟩ (by show 6 - (i + 1).toNat < 6 - i.toNat; omega)
  clear hK K h2 h3 h1
  refine wp_mustR (by simp only [List.nil_append]; omega) ?_
  refine wp_loop (fun s => 0 ≤ s.1 ∧ s.1 ≤ s.2.length ∧ s.2.length = c.Places.toNat ∧ ∀ x ∈ s.2, -1 ≤ x ∧ x ≤ 1439) (fun s => 12 - s.1.toNat) (by show 12 - (0 : Int).toNat < 20000; omega)
    ⟨Int.le_refl _, by show (0 : Int) ≤ _; omega, by show ([] ++ s1.1).length = _; simpa using hl, by simpa using mk.rng⟩ ?_
  rintro ⟨j, L⟩ K ⟨h1, h2, h3, h4⟩ hK
  dsimp only at h1 h2 h3 h4 hK ⊢
  refine wp_if (p := j < (L.length : Int) ∧ 0 < (less.length : Int)) (by simp) (fun h => ?_) (fun _ => ?_)
  · have hx := h4 _ (mem_getD (L := L) (i := j.toNat) (by omega))
    generalize L.getD j.toNat default = m at hx ⊢
    repeat (first | (refine wp_must ?_ ?_; · omega) | (refine wp_mustI ?_ ?_; · omega) | (refine wp_mustR ?_ ?_; · (simp only [List.length_append, List.length_cons, List.length_nil, List.length_set, List.length_replicate]; omega)) | (refine wp_must ?_ ?_; · (simp only [List.length_append, List.length_cons, List.length_nil, List.length_set, List.length_replicate]; omega)) | (refine wp_must ?_ ?_; · (intro _; omega)) | (refine wp_mustW ?_ ?_; · (intro _; omega)))
    have hmod := Int.emod_nonneg j (show (less.length : Int) ≠ 0 by omega)
    have hmod2 := Int.emod_lt_of_pos j (show 0 < (less.length : Int) by omega)
    rw [Int.tmod_eq_emod_of_nonneg h1]
    refine wp_ifd (fun h5 => ?_) (fun h5 => ?_)
    · repeat (first | (refine wp_must ?_ ?_; · omega) | (refine wp_mustI ?_ ?_; · omega) | (refine wp_mustR ?_ ?_; · (simp only [List.length_append, List.length_cons, List.length_nil, List.length_set, List.length_replicate]; omega)) | (refine wp_must ?_ ?_; · (simp only [List.length_append, List.length_cons, List.length_nil, List.length_set, List.length_replicate]; omega)) | (refine wp_must ?_ ?_; · (intro _; omega)) | (refine wp_mustW ?_ ?_; · (intro _; omega)))
      obtain ⟨y, ey, hy⟩ := mod_eq (less.getD (j % (less.length : Int)).toNat default) (m := 8) (by omega) (by omega)
      refine wp_bindE ey ?_
      repeat (first | (refine wp_must ?_ ?_; · omega) | (refine wp_mustI ?_ ?_; · omega) | (refine wp_mustR ?_ ?_; · (simp only [List.length_append, List.length_cons, List.length_nil, List.length_set, List.length_replicate]; omega)) | (refine wp_must ?_ ?_; · (simp only [List.length_append, List.length_cons, List.length_nil, List.length_set, List.length_replicate]; omega)) | (refine wp_must ?_ ?_; · (intro _; omega)) | (refine wp_mustW ?_ ?_; · (intro _; omega)))
      refine hK _ ⟨by show 0 ≤ j + 1; omega, by show j + 1 ≤ ((L.set j.toNat _).length : Int); rw [List.length_set]; omega, by rw [List.length_set]; exact h3, fun z hz => ?_⟩ (by show 12 - (j + 1).toNat < 12 - j.toNat; omega)
      rcases List.mem_or_eq_of_mem_set hz with hz | rfl
      · exact h4 z hz
      · omega
    · repeat (first | (refine wp_must ?_ ?_; · omega) | (refine wp_mustI ?_ ?_; · omega) | (refine wp_mustR ?_ ?_; · (simp only [List.length_append, List.length_cons, List.length_nil, List.length_set, List.length_replicate]; omega)) | (refine wp_must ?_ ?_; · (simp only [List.length_append, List.length_cons, List.length_nil, List.length_set, List.length_replicate]; omega)) | (refine wp_must ?_ ?_; · (intro _; omega)) | (refine wp_mustW ?_ ?_; · (intro _; omega)))
      exact hK _ ⟨by show 0 ≤ j + 1; omega, by show j + 1 ≤ (L.length : Int); omega, h3, h4⟩ (by show 12 - (j + 1).toNat < 12 - j.toNat; omega)
  clear hK K h2 h1
  refine wp_bind (checkMarks_eq c r.Place r.At L) (fun e he => ?_)
  refine wp_loop (fun s => 0 ≤ s ∧ s ≤ c.Places) (fun s => 12 - s.toNat) (by show 12 - (0 : Int).toNat < 20000; omega) ⟨Int.le_refl _, by omega⟩ ?_
  intro k K ⟨h1, h2⟩ hK
  refine wp_ifd (fun hk => ?_) (fun _ => wp_some rfl)
  refine wp_join (fun _ => True) (fun K2 hK2 => ?_) (fun _ _ => ?_)
  rotate_left
  · repeat (first | (refine wp_must ?_ ?_; · omega) | (refine wp_mustI ?_ ?_; · omega) | (refine wp_mustR ?_ ?_; · (simp only [List.length_append, List.length_cons, List.length_nil, List.length_set, List.length_replicate]; omega)) | (refine wp_must ?_ ?_; · (simp only [List.length_append, List.length_cons, List.length_nil, List.length_set, List.length_replicate]; omega)) | (refine wp_must ?_ ?_; · (intro _; omega)) | (refine wp_mustW ?_ ?_; · (intro _; omega)))
    exact hK _ ⟨by omega, by omega⟩ (by omega)
  have ht0 : tripE c ⟨r.Place, k, r.At⟩ = 0 := by
    unfold tripE
    rw [hv, isMin_iff.2 ha, isPl_iff.2 hp, isPl_iff.2 (show 0 ≤ (⟨r.Place, k, r.At⟩ : Trip).To ∧ _ from ⟨h1, hk⟩)]; rfl
  obtain ⟨g1, g2⟩ := q1.lst k.toNat (by omega)
  rw [show ((k.toNat : Nat) : Int) = k by omega] at g2
  refine wp_bind (Path_eq (Nat.le_refl 20000) c ⟨r.Place, k, r.At⟩) (fun y hy => ?_)
  have hpa : ∀ b, pathE c ⟨r.Place, k, r.At⟩ path b = 0 → ∃ m, Arr c (boT c true) r.Place r.At k m ∧ m ≤ b := fun b hb => by
    obtain ⟨m, m1, m2⟩ := pathE_zero ht0 hb
    exact ⟨m, trail_arr m1 .start, m2⟩
  repeat (first | (refine wp_must ?_ ?_; · omega) | (refine wp_mustI ?_ ?_; · omega) | (refine wp_mustR ?_ ?_; · (simp only [List.length_append, List.length_cons, List.length_nil, List.length_set, List.length_replicate]; omega)) | (refine wp_must ?_ ?_; · (simp only [List.length_append, List.length_cons, List.length_nil, List.length_set, List.length_replicate]; omega)) | (refine wp_must ?_ ?_; · (intro _; omega)) | (refine wp_mustW ?_ ?_; · (intro _; omega)))
  refine wp_ifd (fun h5 => ?_) (fun h5 => ?_)
  · rw [mrk_neg h5] at g2
    have hy2 : y.2 = 35 := by
      rcases hy with ⟨h6, _⟩ | ⟨_, _, h6⟩ | ⟨_, m, h6, _⟩
      · exact absurd ht0 h6
      · rw [h6]
      · exact absurd h6.1 (g2 m)
    rw [hy2]
    refine wp_bind (checkPath_eq c ⟨r.Place, k, r.At⟩ path 1439) (fun u hu => ?_)
    refine wp_false ?_ (hK2 () trivial)
    have : ¬ u = 0 := fun h => by
      obtain ⟨m, m1, _⟩ := hpa 1439 (hu ▸ h)
      exact g2 m m1
    simp [this]
  · rw [mrk_pos (by omega)] at g2
    obtain ⟨m, hm, hy2, hy3⟩ : ∃ m, Lst c (boT c true) r.Place r.At k (some m) ∧ y.2 = 0 ∧ trail c y.1 r.Place r.At = some (k, m) := by
      rcases hy with ⟨h6, _⟩ | ⟨_, h6, _⟩ | ⟨_, m, h6, h7, h8, _⟩
      · exact absurd ht0 h6
      · exact absurd g2.1 (h6 _)
      · exact ⟨m, h6, h7, h8⟩
    have hmm := hm.unique g2
    simp only [Option.some.injEq] at hmm
    subst hmm
    rw [hy2]
    repeat (first | (refine wp_must ?_ ?_; · omega) | (refine wp_mustI ?_ ?_; · omega) | (refine wp_mustR ?_ ?_; · (simp only [List.length_append, List.length_cons, List.length_nil, List.length_set, List.length_replicate]; omega)) | (refine wp_must ?_ ?_; · (simp only [List.length_append, List.length_cons, List.length_nil, List.length_set, List.length_replicate]; omega)) | (refine wp_must ?_ ?_; · (intro _; omega)) | (refine wp_mustW ?_ ?_; · (intro _; omega)))
    refine wp_bind (checkPath_eq c ⟨r.Place, k, r.At⟩ y.1 _) (fun u hu => ?_)
    rw [pathE_of ht0 hy3, if_neg (by omega)] at hu
    subst hu
    have hrg := mk.rng _ (mem_getD (L := s1.1) (i := k.toNat) (by omega))
    repeat (first | (refine wp_must ?_ ?_; · omega) | (refine wp_mustI ?_ ?_; · omega) | (refine wp_mustR ?_ ?_; · (simp only [List.length_append, List.length_cons, List.length_nil, List.length_set, List.length_replicate]; omega)) | (refine wp_must ?_ ?_; · (simp only [List.length_append, List.length_cons, List.length_nil, List.length_set, List.length_replicate]; omega)) | (refine wp_must ?_ ?_; · (intro _; omega)) | (refine wp_mustW ?_ ?_; · (intro _; omega)))
    refine wp_bind (checkPath_eq c ⟨r.Place, k, r.At⟩ y.1 _) (fun u hu => ?_)
    rw [pathE_of ht0 hy3, if_pos (by omega)] at hu
    subst hu
    refine wp_false rfl ?_
    repeat (first | (refine wp_must ?_ ?_; · omega) | (refine wp_mustI ?_ ?_; · omega) | (refine wp_mustR ?_ ?_; · (simp only [List.length_append, List.length_cons, List.length_nil, List.length_set, List.length_replicate]; omega)) | (refine wp_must ?_ ?_; · (simp only [List.length_append, List.length_cons, List.length_nil, List.length_set, List.length_replicate]; omega)) | (refine wp_must ?_ ?_; · (intro _; omega)) | (refine wp_mustW ?_ ?_; · (intro _; omega)))
    refine wp_bind (checkPath_eq c ⟨r.Place, k, r.At⟩ path _) (fun u hu => ?_)
    have hu0 : ¬ u = 0 := fun h => by
      obtain ⟨m, m1, m2⟩ := hpa _ (hu ▸ h)
      have := g2.2 m m1
      omega
    repeat (first | (refine wp_must ?_ ?_; · omega) | (refine wp_mustI ?_ ?_; · omega) | (refine wp_mustR ?_ ?_; · (simp only [List.length_append, List.length_cons, List.length_nil, List.length_set, List.length_replicate]; omega)) | (refine wp_must ?_ ?_; · (simp only [List.length_append, List.length_cons, List.length_nil, List.length_set, List.length_replicate]; omega)) | (refine wp_must ?_ ?_; · (intro _; omega)) | (refine wp_mustW ?_ ?_; · (intro _; omega)))
    refine wp_false ?_ (hK2 () trivial)
    rw [decide_eq_false hu0]
    by_cases he0 : e = 0
    · have : MkOk c r.Place r.At L := by
        rcases he with ⟨h6, _⟩ | ⟨_, h6, _⟩ | ⟨_, _, h6⟩
        · exact absurd h0 h6
        · exact h6
        · omega
      have hle2 : 0 ≤ L.getD k.toNat default ∧ L.getD k.toNat default ≤ s1.1.getD k.toNat default := this.le hv g2.1
      rw [decide_eq_true he0, decide_eq_false (show ¬ s1.1.getD k.toNat default < L.getD k.toNat default by omega)]; rfl
    · simp [he0]
end Go.Sp
