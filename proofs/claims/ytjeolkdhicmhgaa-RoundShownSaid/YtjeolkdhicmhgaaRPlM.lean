/- Plain laws: paths. No program in sight. -/
import Derived.Test.YtjeolkdhicmhgaaRPlE
import Derived.Test.YtjeolkdhicmhgaaRWq
set_option linter.all false
namespace Go.Sp
open Go.Av
set_option maxRecDepth 100000
def trail (c : Chart) : List Int → Int → Int → Option (Int × Int)
  | [], p, a => some (p, a)
  | i :: l, p, a => if (0 ≤ i ∧ i < c.Ways.length) ∧ (way c i.toNat).From = p then
      match fin (way c i.toNat) (boT c true i.toNat) a with
      | some b => trail c l (way c i.toNat).To b
      | none => none
    else none
theorem trail_cons (c : Chart) (i : Int) (l : List Int) (p a : Int) : trail c (i :: l) p a = if (0 ≤ i ∧ i < c.Ways.length) ∧ (way c i.toNat).From = p then
      match fin (way c i.toNat) (boT c true i.toNat) a with
      | some b => trail c l (way c i.toNat).To b
      | none => none
    else none := rfl
def tripE (c : Chart) (t : Trip) : Int := bif valid c then (bif isMin t.At && (isPl c t.From && isPl c t.To) then 0 else 1) else 31
theorem tripE_zero {c : Chart} {t : Trip} (h : tripE c t = 0) : valid c = true ∧ (0 ≤ t.From ∧ t.From < c.Places) ∧ (0 ≤ t.To ∧ t.To < c.Places) ∧ (0 ≤ t.At ∧ t.At ≤ 1439) := by
  unfold tripE at h
  cases hv : valid c <;> rw [hv] at h
  · simp at h
  · cases h1 : isMin t.At <;> cases h2 : isPl c t.From <;> cases h3 : isPl c t.To <;> simp [h1, h2, h3] at h
    exact ⟨rfl, isPl_iff.1 h2, isPl_iff.1 h3, isMin_iff.1 h1⟩
def pathE (c : Chart) (t : Trip) (l : List Int) (by_ : Int) : Int := if tripE c t ≠ 0 then tripE c t else match trail c l t.From t.At with
  | none => 34
  | some s => if s.1 ≠ t.To then 34 else if by_ < s.2 then 36 else 0
theorem placeOf_trip (c : Chart) (t : Trip) : round_placeOf c t.At [t.From, t.To] = some (tripE c t) := by
  rw [placeOf_eq]; unfold tripE; simp
theorem checkPath_eq (c : Chart) (t : Trip) (path : List Int) (by_ : Int) : Wp (round_CheckPath c t path by_) (· = pathE c t path by_) := by
  unfold round_CheckPath
  refine wp_bindE (placeOf_trip c t) ?_
  refine wp_ifn (fun h => wp_some (by unfold pathE; rw [if_pos h])) (fun h => ?_)
  obtain ⟨hv, hf, ht, ha⟩ := tripE_zero h
  have hv' := valid_iff.1 hv
  have hpe : pathE c t path by_ = match trail c path t.From t.At with
    | none => 34
    | some s => if s.1 ≠ t.To then 34 else if by_ < s.2 then 36 else 0 := by unfold pathE; rw [if_neg (by omega)]
  refine wp_range (fun i s => trail c path t.From t.At = trail c (path.drop i) s.1 s.2 ∧ 0 ≤ s.2 ∧ s.2 ≤ 1439) ⟨rfl, ha⟩ ?_ ?_
  · rintro i ⟨p, a⟩ K hi ⟨h1, h2⟩ hK
    dsimp only at h1 h2 ⊢
    rw [drop_get hi, trail_cons] at h1
    generalize path.getD i default = x at h1 ⊢
    have wl : round_within x 0 (((c.Ways.length : Nat) : Int) - 1) = decide (0 ≤ x ∧ x < c.Ways.length) := by
      unfold round_within
      rw [Bool.eq_iff_iff]
      simp
      omega
    rw [wl]
    refine wp_mustI (by omega) (wp_must (fun e => by simpa using e) ?_)
    by_cases hx : (0 ≤ x ∧ x < c.Ways.length) ∧ (way c x.toNat).From = p
    · rw [if_pos hx] at h1
      obtain ⟨hx, hp⟩ := hx
      have hj := joins_of hv (i := x.toNat) (by omega)
      have hfit := fit_of hj
      have hji := joins_iff.1 hj
      refine wp_false (by rw [decide_eq_true hx]; simp; exact hp) ?_
      refine wp_must hx ?_
      have hg : c.Ways.getD x.toNat default = way c x.toNat := rfl
      rw [hg]
      generalize hw : way c x.toNat = w at *
      refine wp_bindE (leave_eq hfit h2.1 (by omega)) ?_
      dsimp only
      have hb := bgn_ge hfit a
      refine wp_must hx (wp_must hx (wp_mustI (by omega) ?_))
      have hT : boT c true x.toNat = w.Takes.Hi := by unfold boT; rw [hw]; rfl
      rw [hT] at h1
      by_cases hb2 : bgn w a ≤ w.Open.Hi ∧ bgn w a + w.Takes.Hi ≤ 1439
      · have e : fin w w.Takes.Hi a = some (bgn w a + w.Takes.Hi) := by unfold fin; rw [if_pos hb2]
        rw [e] at h1
        refine wp_false (by simp; omega) (hK _ ⟨h1, ?_⟩)
        dsimp only; omega
      · have e : fin w w.Takes.Hi a = none := by unfold fin; rw [if_neg hb2]
        rw [e] at h1
        refine wp_true (by simp; omega) (wp_some ?_)
        rw [hpe, h1]
    · rw [if_neg hx] at h1
      refine wp_true ?_ (wp_some ?_)
      · simp only [Bool.or_eq_true, Bool.not_eq_true', decide_eq_false_iff_not]
        have hg : c.Ways.getD x.toNat default = way c x.toNat := rfl
        rw [hg]
        by_cases h3 : 0 ≤ x ∧ x < (c.Ways.length : Int)
        · exact .inr (fun h4 => hx ⟨h3, h4⟩)
        · exact .inl h3
      · rw [hpe, h1]
  · rintro ⟨p, a⟩ ⟨h1, h2⟩
    dsimp only at h1 h2 ⊢
    rw [List.drop_length] at h1
    have h1 : trail c path t.From t.At = some (p, a) := h1
    have hpe := hpe.trans (by rw [h1])
    have hpe : pathE c t path by_ = if p ≠ t.To then 34 else if by_ < a then 36 else 0 := hpe
    rw [hpe]
    refine wp_ifn (fun h => wp_some (by rw [if_pos h])) (fun h => ?_)
    refine wp_ifd (fun h' => wp_some ?_) (fun h' => wp_some ?_)
    · rw [if_neg (by simpa using h), if_pos h']
    · rw [if_neg (by simpa using h), if_neg h']
end Go.Sp
