/- Plain laws: paths. No program in sight. -/
import Derived.Test.YtjeolkdhicmhgaaRPlE
import Derived.Test.YtjeolkdhicmhgaaRWq
set_option linter.all false
namespace Go.Sp
open Go.Av
set_option maxRecDepth 100000

/-- What a path leads to: the place, and the minute. -/
def trail (c : Chart) : List Int → Int → Int → Option (Int × Int)
  | [], p, a => some (p, a)
  | i :: l, p, a => if (0 ≤ i ∧ i < c.Ways.length) ∧ (way c i.toNat).From = p then
      match fin (way c i.toNat) (boT c true i.toNat) a with
      | some b => trail c l (way c i.toNat).To b
      | none => none
    else none
theorem trail_cons (c : Chart) (i : Int) (l : List Int) (p a : Int) : trail c (i :: l) p a = if (0 ≤ i ∧ i < c.Ways.length) ∧ (way c i.toNat).From = p then
      match fin (way c i.toNat) (boT c true i.toNat) a with
      | some b => trail c l (way c i.toNat).To b
      | none => none
    else none := rfl

def tripE (c : Chart) (t : Trip) : Int := bif valid c then (bif isMin t.At && (isPl c t.From && isPl c t.To) then 0 else 1) else 31
theorem tripE_zero {c : Chart} {t : Trip} (h : tripE c t = 0) : valid c = true ∧ (0 ≤ t.From ∧ t.From < c.Places) ∧ (0 ≤ t.To ∧ t.To < c.Places) ∧ (0 ≤ t.At ∧ t.At ≤ 1439) := by
  unfold tripE at h
  cases hv : valid c <;> rw [hv] at h
  · simp at h
  · cases h1 : isMin t.At <;> cases h2 : isPl c t.From <;> cases h3 : isPl c t.To <;> simp [h1, h2, h3] at h
    exact ⟨rfl, isPl_iff.1 h2, isPl_iff.1 h3, isMin_iff.1 h1⟩
def pathE (c : Chart) (t : Trip) (l : List Int) (by_ : Int) : Int := if tripE c t ≠ 0 then tripE c t else match trail c l t.From t.At with
  | none => 34
  | some s => if s.1 ≠ t.To then 34 else if by_ < s.2 then 36 else 0

theorem placeOf_trip (c : Chart) (t : Trip) : round_placeOf c t.At [t.From, t.To] = some (tripE c t) := by
  rw [placeOf_eq]; unfold tripE; simp

theorem ref_trip_eq {fuel : Nat} (hf : 41 ≤ fuel) (c : Chart) (t : Trip) : gasolierref03_trip fuel c t = some (tripE c t) := by
  refine Wp.eq ?_
  unfold gasolierref03_trip
  refine wp_bindE (asked_eq hf c t.From t.At) ?_
  refine wp_ifn (fun h => wp_some ?_) (fun h => ?_)
  · unfold askE at h ⊢; unfold tripE
    revert h
    cases valid c <;> cases isMin t.At <;> cases isPl c t.From <;> intro h <;> first | rfl | exact (h rfl).elim
  · obtain ⟨hv, hp, ha⟩ := askE_zero h
    have hv' := valid_iff.1 hv
    refine wp_bindE (in_pl c ⟨by omega, by omega⟩ t.To) ?_
    unfold tripE
    rw [hv, isMin_iff.2 ha, isPl_iff.2 hp]
    cases isPl c t.To <;> exact wp_some rfl

theorem fin_bounds {w : Way} (hf : Fit w) {t a b : Int} (ht : 1 ≤ t) (h : fin w t a = some b) : 0 ≤ b ∧ b ≤ 1439 := by
  have := fin_gt hf ht h; omega

theorem checkPath_eq (c : Chart) (t : Trip) (path : List Int) (by_ : Int) : Wp (round_CheckPath c t path by_) (· = pathE c t path by_) := by
  unfold round_CheckPath
  refine wp_bindE (placeOf_trip c t) ?_
  refine wp_ifn (fun h => wp_some (by unfold pathE; rw [if_pos h])) (fun h => ?_)
  obtain ⟨hv, hf, ht, ha⟩ := tripE_zero h
  have hv' := valid_iff.1 hv
  have hpe : pathE c t path by_ = match trail c path t.From t.At with
    | none => 34
    | some s => if s.1 ≠ t.To then 34 else if by_ < s.2 then 36 else 0 := by unfold pathE; rw [if_neg (by omega)]
  refine wp_range (fun i s => trail c path t.From t.At = trail c (path.drop i) s.1 s.2 ∧ 0 ≤ s.2 ∧ s.2 ≤ 1439) ⟨rfl, ha⟩ ?_ ?_
  · rintro i ⟨p, a⟩ K hi ⟨h1, h2⟩ hK
    dsimp only at h1 h2 ⊢
    rw [drop_get hi, trail_cons] at h1
    generalize path.getD i default = x at h1 ⊢
    have wl : round_within x 0 (((c.Ways.length : Nat) : Int) - 1) = decide (0 ≤ x ∧ x < c.Ways.length) := by
      unfold round_within
      rw [Bool.eq_iff_iff]
      simp
      omega
    rw [wl]
    refine wp_mustI (by omega) (wp_must (fun e => by simpa using e) ?_)
    by_cases hx : (0 ≤ x ∧ x < c.Ways.length) ∧ (way c x.toNat).From = p
    · rw [if_pos hx] at h1
      obtain ⟨hx, hp⟩ := hx
      have hj := joins_of hv (i := x.toNat) (by omega)
      have hfit := fit_of hj
      have hji := joins_iff.1 hj
      refine wp_false (by rw [decide_eq_true hx]; simp; exact hp) ?_
      refine wp_must hx ?_
      have hg : c.Ways.getD x.toNat default = way c x.toNat := rfl
      rw [hg]
      generalize hw : way c x.toNat = w at *
      refine wp_bindE (leave_eq hfit h2.1 (by omega)) ?_
      dsimp only
      have hb := bgn_ge hfit a
      refine wp_must hx (wp_must hx (wp_mustI (by omega) ?_))
      have hT : boT c true x.toNat = w.Takes.Hi := by unfold boT; rw [hw]; rfl
      rw [hT] at h1
      by_cases hb2 : bgn w a ≤ w.Open.Hi ∧ bgn w a + w.Takes.Hi ≤ 1439
      · have e : fin w w.Takes.Hi a = some (bgn w a + w.Takes.Hi) := by unfold fin; rw [if_pos hb2]
        rw [e] at h1
        refine wp_false (by simp; omega) (hK _ ⟨h1, ?_⟩)
        dsimp only; omega
      · have e : fin w w.Takes.Hi a = none := by unfold fin; rw [if_neg hb2]
        rw [e] at h1
        refine wp_true (by simp; omega) (wp_some ?_)
        rw [hpe, h1]
    · rw [if_neg hx] at h1
      refine wp_true ?_ (wp_some ?_)
      · simp only [Bool.or_eq_true, Bool.not_eq_true', decide_eq_false_iff_not]
        have hg : c.Ways.getD x.toNat default = way c x.toNat := rfl
        rw [hg]
        by_cases h3 : 0 ≤ x ∧ x < (c.Ways.length : Int)
        · exact .inr (fun h4 => hx ⟨h3, h4⟩)
        · exact .inl h3
      · rw [hpe, h1]
  · rintro ⟨p, a⟩ ⟨h1, h2⟩
    dsimp only at h1 h2 ⊢
    rw [List.drop_length] at h1
    have h1 : trail c path t.From t.At = some (p, a) := h1
    have hpe := hpe.trans (by rw [h1])
    have hpe : pathE c t path by_ = if p ≠ t.To then 34 else if by_ < a then 36 else 0 := hpe
    rw [hpe]
    refine wp_ifn (fun h => wp_some (by rw [if_pos h])) (fun h => ?_)
    refine wp_ifd (fun h' => wp_some ?_) (fun h' => wp_some ?_)
    · rw [if_neg (by simpa using h), if_pos h']
    · rw [if_neg (by simpa using h), if_neg h']

theorem ref_checkPath_eq {fuel : Nat} (hf : 2000 ≤ fuel) (c : Chart) (g : gasolierref03_Going) (hm : g.Path.length ≤ 9223372036854775807) : Wp (gasolierref03_CheckPath fuel c g) (· = pathE c g.Trip g.Path g.By) := by
  unfold gasolierref03_CheckPath
  refine wp_bindE (ref_trip_eq (by omega) c g.Trip) ?_
  refine wp_ifn (fun h => wp_some (by unfold pathE; rw [if_pos h])) (fun h => ?_)
  obtain ⟨hv, hff, ht, ha⟩ := tripE_zero h
  have hv' := valid_iff.1 hv
  have hpe : pathE c g.Trip g.Path g.By = match trail c g.Path g.Trip.From g.Trip.At with
    | none => 34
    | some s => if s.1 ≠ g.Trip.To then 34 else if g.By < s.2 then 36 else 0 := by unfold pathE; rw [if_neg (by omega)]
  refine wp_loop (fun s => (0 ≤ s.2.2 ∧ s.2.2 ≤ g.Path.length) ∧ trail c g.Path g.Trip.From g.Trip.At = trail c (g.Path.drop s.2.2.toNat) s.1 s.2.1 ∧ 0 ≤ s.2.1 ∧ s.2.1 ≤ 1439) (fun s => (1440 - s.2.1).toNat) (by dsimp only; omega) ⟨⟨Int.le_refl _, by dsimp only; omega⟩, rfl, ha⟩ ?_
  rintro ⟨p, a, i⟩ K ⟨h0, h1, h2⟩ hK
  dsimp only at h0 h1 h2 hK ⊢
  refine wp_ifd (fun hi => ?_) (fun hi => ?_)
  · rw [drop_get (by omega), trail_cons] at h1
    refine wp_must (by omega) (wp_mustI (by omega) ?_)
    generalize g.Path.getD i.toNat default = x at h1 ⊢
    have wl : gasolierref03_In x 0 (((c.Ways.length : Nat) : Int) - 1) = decide (0 ≤ x ∧ x < c.Ways.length) := by
      unfold gasolierref03_In
      rw [Bool.eq_iff_iff]
      simp
      omega
    rw [wl]
    refine wp_must (fun _ => by omega) (wp_must (fun e => by simpa using e) ?_)
    by_cases hx : (0 ≤ x ∧ x < c.Ways.length) ∧ (way c x.toNat).From = p
    · rw [if_pos hx] at h1
      obtain ⟨hx, hp⟩ := hx
      have hj := joins_of hv (i := x.toNat) (by omega)
      have hfit := fit_of hj
      have hji := joins_iff.1 hj
      refine wp_false (by rw [decide_eq_true hx]; simp; exact hp) ?_
      refine wp_must (by omega) (wp_must hx ?_)
      have hg : c.Ways.getD x.toNat default = way c x.toNat := rfl
      rw [hg]
      have hT : boT c true x.toNat = (way c x.toNat).Takes.Hi := rfl
      rw [hT] at h1
      refine wp_bindE (ends_eq hfit h2.1 (by omega) (by omega)) ?_
      cases hfin : fin (way c x.toNat) (way c x.toNat).Takes.Hi a with
      | none =>
        rw [hfin] at h1
        refine wp_true rfl (wp_some ?_)
        rw [hpe, h1]
      | some b =>
        rw [hfin] at h1
        have hb := fin_bounds hfit (by omega) hfin
        have hgt := fin_gt hfit (by omega) hfin
        refine wp_false (by simp; omega) (wp_mustI (by omega) ?_)
        refine hK _ ⟨by dsimp only; omega, ?_, hb⟩ (by show (1440 - b).toNat < (1440 - a).toNat; omega)
        dsimp only
        rw [show (i + 1).toNat = i.toNat + 1 by omega]; exact h1
    · rw [if_neg hx] at h1
      refine wp_true ?_ (wp_some ?_)
      · simp only [Bool.or_eq_true, Bool.not_eq_true', decide_eq_false_iff_not]
        have hg : c.Ways.getD x.toNat default = way c x.toNat := rfl
        rw [hg]
        by_cases h3 : 0 ≤ x ∧ x < (c.Ways.length : Int)
        · exact .inr (fun h4 => hx ⟨h3, h4⟩)
        · exact .inl h3
      · rw [hpe, h1]
  · have hd : g.Path.drop i.toNat = [] := List.drop_eq_nil_of_le (by omega)
    rw [hd] at h1
    have h1 : trail c g.Path g.Trip.From g.Trip.At = some (p, a) := h1
    have hpe := hpe.trans (by rw [h1])
    have hpe : pathE c g.Trip g.Path g.By = if p ≠ g.Trip.To then 34 else if g.By < a then 36 else 0 := hpe
    rw [hpe]
    refine wp_ifn (fun h => wp_some (by rw [if_pos h])) (fun h => ?_)
    refine wp_ifd (fun h' => wp_some ?_) (fun h' => wp_some ?_)
    · rw [if_neg (by simpa using h), if_pos h']
    · rw [if_neg (by simpa using h), if_neg h']

end Go.Sp
