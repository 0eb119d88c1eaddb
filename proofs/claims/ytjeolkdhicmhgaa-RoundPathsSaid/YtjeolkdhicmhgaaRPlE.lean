/- Plain laws: what is asked; Sure, Soonest, Walked; RoundTimes. No program in sight. -/
import Derived.Test.YtjeolkdhicmhgaaRPlD
set_option linter.all false
namespace Go.Sp
open Go.Av
set_option maxRecDepth 100000

theorem containsInt (l : List Int) (g : Int → Bool) (f : Int → Option Bool) (hf : ∀ x ∈ l, f x = some (g x)) : slices_ContainsFunc_int l f = some (l.any g) := by
  have go : ∀ n i, i + n = l.length → ∃ z : Int, rangeGo (fun i1 (_ : Unit) k1 => bindO (f (l.getD i1 default)) fun y3 => (bif y3 then some (i1 : Int) else k1 ())) (fun (_ : Unit) => some (-1)) n i () = some z ∧ (decide (0 ≤ z)) = (l.drop i).any g := by
    intro n
    induction n with
    | zero =>
      intro i hi
      refine ⟨-1, rfl, ?_⟩
      rw [List.drop_eq_nil_of_le (by omega)]; rfl
    | succ n ih =>
      intro i hi
      rw [drop_get (by omega), List.any_cons, rangeGo_succ, hf _ (by rw [List.getD_eq_getElem?_getD, List.getElem?_eq_getElem (by omega)]; exact List.getElem_mem _), bindO_some]
      cases hg : g (l.getD i default) with
      | true => exact ⟨i, rfl, by simp⟩
      | false =>
        obtain ⟨z, h1, h2⟩ := ih (i + 1) (by omega)
        exact ⟨z, h1, by rw [h2]; rfl⟩
  obtain ⟨z, h1, h2⟩ := go l.length 0 (by omega)
  show bindO (slices_IndexFunc_int l f) _ = _
  unfold slices_IndexFunc_int
  rw [h1, bindO_some, h2, List.drop_zero]

def isMin (a : Int) : Bool := decide (0 ≤ a ∧ a ≤ 1439)
def isPl (c : Chart) (p : Int) : Bool := decide (0 ≤ p ∧ p < c.Places)
/-- The error of a chart, a place and a minute. -/
def askE (c : Chart) (p a : Int) : Int := bif valid c then (bif isMin a && isPl c p then 0 else 1) else 31

theorem isMin_iff {a : Int} : isMin a = true ↔ 0 ≤ a ∧ a ≤ 1439 := by simp [isMin]
theorem isPl_iff {c : Chart} {p : Int} : isPl c p = true ↔ 0 ≤ p ∧ p < c.Places := by simp [isPl]

theorem within_pl (c : Chart) (p : Int) : round_within p 0 (c.Places - 1) = isPl c p := by
  unfold round_within isPl
  rw [Bool.eq_iff_iff]; simp; omega
theorem within_min (a : Int) : round_isMinute a = isMin a := by
  unfold round_isMinute round_within isMin
  rw [Bool.eq_iff_iff]; simp
theorem in_min (a : Int) : gasolierref03_isMinute a = isMin a := by
  unfold gasolierref03_isMinute gasolierref03_In isMin
  rw [Bool.eq_iff_iff]; simp
theorem in_pl (c : Chart) (h : 0 ≤ c.Places ∧ c.Places ≤ 1000) (p : Int) : gasolierref03_isPlace c p = some (isPl c p) := by
  unfold gasolierref03_isPlace gasolierref03_In isPl
  rw [must_pos (by unfold inI; omega)]
  congr 1
  rw [Bool.eq_iff_iff]; simp; omega

theorem placeOf_eq (c : Chart) (a : Int) (l : List Int) : round_placeOf c a l = some (bif valid c then (bif isMin a && l.all (isPl c) then 0 else 1) else 31) := by
  unfold round_placeOf
  rw [round_Check_eq, bindO_some]
  cases hv : valid c with
  | false => rfl
  | true =>
    have h := valid_iff.1 hv
    rw [cond_true, (by decide : decide ((0 : Int) = 0) = true), Bool.not_true, cond_false, containsInt l (fun p => !isPl c p) (fun x0 => round_placeOf_1 x0 c) (fun p _ => by
      unfold round_placeOf_1
      rw [must_pos (by unfold inI; omega), within_pl]), within_min, any_not]
    cases isMin a <;> cases l.all (isPl c) <;> rfl

theorem asked_eq {fuel : Nat} (hf : 41 ≤ fuel) (c : Chart) (p a : Int) : gasolierref03_asked fuel c p a = some (askE c p a) := by
  unfold gasolierref03_asked askE
  rw [ref_Check_eq hf, bindO_some]
  cases hv : valid c with
  | false => rfl
  | true =>
    have h := valid_iff.1 hv
    rw [cond_true, (by decide : decide ((0 : Int) = 0) = true), Bool.not_true, cond_false, in_pl c (by omega), bindO_some, in_min]
    cases isMin a <;> cases isPl c p <;> rfl

theorem placeOf_one (c : Chart) (p a : Int) : round_placeOf c a [p] = some (askE c p a) := by
  rw [placeOf_eq]
  unfold askE
  simp

def hiT (c : Chart) (i : Nat) : Int := (way c i).Takes.Hi
def loT (c : Chart) (i : Nat) : Int := (way c i).Takes.Lo
def pickT (high : Bool) (w : Way) : Int := bif high then w.Takes.Hi else w.Takes.Lo
def boT (c : Chart) (high : Bool) (i : Nat) : Int := pickT high (way c i)

theorem net_bo {c : Chart} (hv : valid c = true) (high : Bool) : Net c (boT c high) :=
  ⟨hv, fun i hi => by
    have := joins_iff.1 (joins_of hv hi)
    unfold boT pickT
    cases high <;> simp only [cond_true, cond_false] <;> omega⟩

theorem least_go (c : Chart) (high : Bool) (hl : c.Ways.length ≤ 40) : ∀ n (i : Nat), i ≤ c.Ways.length → c.Ways.length - i < n →
    loopGo (fun (s1 : Int × (List Int)) k1 => (bif (decide (s1.1 < ((c.Ways.length : Nat) : Int))) then (bif high then must (0 ≤ (s1.1 : Int) ∧ (s1.1 : Int) < ((c.Ways.length : Nat) : Int)) <| must (room (s1.2 ++ ([(c.Ways.getD (s1.1).toNat default).Takes.Hi] : List Int)).length 8) <| must (inI (s1.1 + 1)) <| k1 ((s1.1 + 1), (s1.2 ++ ([(c.Ways.getD (s1.1).toNat default).Takes.Hi] : List Int))) else must (0 ≤ (s1.1 : Int) ∧ (s1.1 : Int) < ((c.Ways.length : Nat) : Int)) <| must (room (s1.2 ++ ([(c.Ways.getD (s1.1).toNat default).Takes.Lo] : List Int)).length 8) <| must (inI (s1.1 + 1)) <| k1 ((s1.1 + 1), (s1.2 ++ ([(c.Ways.getD (s1.1).toNat default).Takes.Lo] : List Int)))) else some s1.2)) n ((i : Int), (c.Ways.take i).map (pickT high)) = some (c.Ways.map (pickT high)) := by
  intro n
  induction n with
  | zero => intro i _ h; omega
  | succ n ih =>
    intro i hi hn
    rw [loopGo_succ]
    dsimp only
    by_cases hlt : i < c.Ways.length
    · have IH := ih (i + 1) (by omega) (by omega)
      have et : (c.Ways.take (i + 1)).map (pickT high) = (c.Ways.take i).map (pickT high) ++ [pickT high (c.Ways.getD i default)] := by
        rw [List.take_succ, List.map_append, List.getD_eq_getElem?_getD, List.getElem?_eq_getElem hlt]
        rfl
      rw [et] at IH
      have hlen : ∀ x : Int, ((c.Ways.take i).map (pickT high) ++ [x]).length ≤ 1000 := fun x => by simp; omega
      rw [decide_eq_true (by omega : ((i : Nat) : Int) < c.Ways.length), cond_true]
      cases high with
      | true =>
        rw [cond_true, must_pos (by omega), must_pos (room_small (hlen _) (by omega)), must_pos (by unfold inI; omega)]
        exact IH
      | false =>
        rw [cond_false, must_pos (by omega), must_pos (room_small (hlen _) (by omega)), must_pos (by unfold inI; omega)]
        exact IH
    · rw [decide_eq_false (by omega : ¬ ((i : Nat) : Int) < c.Ways.length), cond_false, List.take_of_length_le (by omega)]

theorem least_eq {fuel : Nat} (hf : 41 ≤ fuel) {c : Chart} (hv : valid c = true) (high : Bool) : gasolierref03_Least fuel c high = some (c.Ways.map (pickT high)) := by
  have := least_go c high (valid_iff.1 hv).2.1 fuel 0 (by omega) (by have := (valid_iff.1 hv).2.1; omega)
  exact this

theorem Tl_map (c : Chart) (high : Bool) : Tl (c.Ways.map (pickT high)) = boT c high := by
  funext i
  unfold Tl boT way
  rw [List.getD_eq_getElem?_getD, List.getElem?_map, List.getD_eq_getElem?_getD]
  cases c.Ways[i]? with
  | none => cases high <;> rfl
  | some w => rfl

theorem most_eq (c : Chart) (i : Nat) (hi : i < c.Ways.length) : round_most_1 (i : Int) c = some (boT c true i) := by
  unfold round_most_1
  rw [must_pos (by omega)]; rfl
theorem leastT_eq (c : Chart) (i : Nat) (hi : i < c.Ways.length) : round_least_1 (i : Int) c = some (boT c false i) := by
  unfold round_least_1
  rw [must_pos (by omega)]; rfl
theorem truly_eq (T : List Int) (i : Nat) (hi : i < T.length) : round_truly_1 (i : Int) T = some (Tl T i) := by
  unfold round_truly_1
  rw [must_pos (by omega)]; rfl

/-- What Sure and Soonest return. -/
def SureP (c : Chart) (T : Nat → Int) (p a : Int) (r : List Int × Int) : Prop := r.2 = askE c p a ∧ ((askE c p a ≠ 0 ∧ r.1 = []) ∨ (askE c p a = 0 ∧ Mins c T p a r.1))

theorem SureP.unique {c : Chart} {T : Nat → Int} {p a : Int} {r r' : List Int × Int} (h : SureP c T p a r) (h' : SureP c T p a r') : r = r' := by
  obtain ⟨L, e⟩ := r
  obtain ⟨L', e'⟩ := r'
  obtain ⟨h1, h2⟩ := h
  obtain ⟨k1, k2⟩ := h'
  simp only at h1 k1 h2 k2
  subst h1 k1
  rcases h2 with ⟨h2, h3⟩ | ⟨h2, h3⟩
  · rcases k2 with ⟨_, k3⟩ | ⟨k2, _⟩
    · rw [h3, k3]
    · exact absurd k2 h2
  · rcases k2 with ⟨k2, _⟩ | ⟨_, k3⟩
    · exact absurd h2 k2
    · rw [h3.unique k3]

theorem askE_zero {c : Chart} {p a : Int} (h : askE c p a = 0) : valid c = true ∧ (0 ≤ p ∧ p < c.Places) ∧ (0 ≤ a ∧ a ≤ 1439) := by
  unfold askE at h
  cases hv : valid c with
  | false => rw [hv] at h; simp at h
  | true =>
    rw [hv] at h
    cases hb : isMin a && isPl c p with
    | false => rw [hb] at h; simp at h
    | true =>
      rw [Bool.and_eq_true] at hb
      exact ⟨rfl, isPl_iff.1 hb.2, isMin_iff.1 hb.1⟩

theorem sure_eq {fuel : Nat} (hf : 20000 ≤ fuel) (c : Chart) (p a : Int) : ∃ r, round_Sure fuel c p a = some r ∧ SureP c (boT c true) p a r := by
  unfold round_Sure
  rw [placeOf_one, bindO_some]
  by_cases h : askE c p a = 0
  · rw [h, (by decide : decide ((0 : Int) = 0) = true), Bool.not_true, cond_false]
    obtain ⟨hv, hp, ha⟩ := askE_zero h
    obtain ⟨out, e, D⟩ := reach_done (net_bo hv true) hp ha (fun x0 => round_most_1 x0 c) (fun i hi => most_eq c i hi) (fuel := fuel) (by omega)
    obtain ⟨L, e2, M⟩ := minutes_mins (net_bo hv true) hp ha D
    rw [e, bindO_some, e2, bindO_some]
    exact ⟨(L, 0), rfl, h.symm, .inr ⟨h, M⟩⟩
  · rw [decide_eq_false h, Bool.not_false, cond_true]
    exact ⟨([], askE c p a), rfl, rfl, .inl ⟨h, rfl⟩⟩

theorem soonest_eq {fuel : Nat} (hf : 20000 ≤ fuel) (c : Chart) (p a : Int) : ∃ r, round_Soonest fuel c p a = some r ∧ SureP c (boT c false) p a r := by
  unfold round_Soonest
  rw [placeOf_one, bindO_some]
  by_cases h : askE c p a = 0
  · rw [h, (by decide : decide ((0 : Int) = 0) = true), Bool.not_true, cond_false]
    obtain ⟨hv, hp, ha⟩ := askE_zero h
    obtain ⟨out, e, D⟩ := reach_done (net_bo hv false) hp ha (fun x0 => round_least_1 x0 c) (fun i hi => leastT_eq c i hi) (fuel := fuel) (by omega)
    obtain ⟨L, e2, M⟩ := minutes_mins (net_bo hv false) hp ha D
    rw [e, bindO_some, e2, bindO_some]
    exact ⟨(L, 0), rfl, h.symm, .inr ⟨h, M⟩⟩
  · rw [decide_eq_false h, Bool.not_false, cond_true]
    exact ⟨([], askE c p a), rfl, rfl, .inl ⟨h, rfl⟩⟩

theorem ref_reached_bo {fuel : Nat} (hf : 20000 ≤ fuel) {c : Chart} (hv : valid c = true) (high : Bool) (t : Trip) (hp : 0 ≤ t.From ∧ t.From < c.Places) (ha : 0 ≤ t.At ∧ t.At ≤ 1439) :
    ∃ L, gasolierref03_reached fuel c (c.Ways.map (pickT high)) t = some L ∧ Mins c (boT c high) t.From t.At L := by
  have := reached_mins (c := c) (T := c.Ways.map (pickT high)) (by rw [Tl_map]; exact net_bo hv high) (by simp) t hp ha hf
  rwa [Tl_map] at this

theorem ref_sure_eq {fuel : Nat} (hf : 20000 ≤ fuel) (c : Chart) (p a : Int) : ∃ r, gasolierref03_Sure fuel c p a = some r ∧ SureP c (boT c true) p a r := by
  unfold gasolierref03_Sure
  rw [asked_eq (by omega), bindO_some]
  by_cases h : askE c p a = 0
  · rw [h, (by decide : decide ((0 : Int) = 0) = true), Bool.not_true, cond_false]
    obtain ⟨hv, hp, ha⟩ := askE_zero h
    obtain ⟨L, e, M⟩ := ref_reached_bo hf hv true ⟨p, 0, a⟩ hp ha
    rw [least_eq (by omega) hv, bindO_some, e, bindO_some]
    exact ⟨(L, 0), rfl, h.symm, .inr ⟨h, M⟩⟩
  · rw [decide_eq_false h, Bool.not_false, cond_true]
    exact ⟨([], askE c p a), rfl, rfl, .inl ⟨h, rfl⟩⟩

theorem ref_soonest_eq {fuel : Nat} (hf : 20000 ≤ fuel) (c : Chart) (p a : Int) : ∃ r, gasolierref03_Soonest fuel c p a = some r ∧ SureP c (boT c false) p a r := by
  unfold gasolierref03_Soonest
  rw [asked_eq (by omega), bindO_some]
  by_cases h : askE c p a = 0
  · rw [h, (by decide : decide ((0 : Int) = 0) = true), Bool.not_true, cond_false]
    obtain ⟨hv, hp, ha⟩ := askE_zero h
    obtain ⟨L, e, M⟩ := ref_reached_bo hf hv false ⟨p, 0, a⟩ hp ha
    rw [least_eq (by omega) hv, bindO_some, e, bindO_some]
    exact ⟨(L, 0), rfl, h.symm, .inr ⟨h, M⟩⟩
  · rw [decide_eq_false h, Bool.not_false, cond_true]
    exact ⟨([], askE c p a), rfl, rfl, .inl ⟨h, rfl⟩⟩

theorem same_go (a : List Int) (hl : a.length ≤ 1000) : ∀ n (i : Nat), i ≤ a.length → a.length - i < n →
    loopGo (fun (s1 : Bool × Int) k1 => (bif ((decide (s1.2 < ((a.length : Nat) : Int))) && s1.1) then must (0 ≤ (s1.2 : Int) ∧ (s1.2 : Int) < ((a.length : Nat) : Int)) <| must (0 ≤ (s1.2 : Int) ∧ (s1.2 : Int) < ((a.length : Nat) : Int)) <| must (inI (s1.2 + 1)) <| k1 ((decide ((a.getD (s1.2).toNat default) = (a.getD (s1.2).toNat default))), (s1.2 + 1)) else some s1.1)) n (true, (i : Int)) = some true := by
  intro n
  induction n with
  | zero => intro i _ h; omega
  | succ n ih =>
    intro i hi hn
    rw [loopGo_succ]
    dsimp only
    by_cases hlt : i < a.length
    · rw [decide_eq_true (by omega : ((i : Nat) : Int) < a.length), Bool.and_self, cond_true, must_pos (by omega), must_pos (by omega), must_pos (by unfold inI; omega), decide_eq_true (rfl : a.getD ((i : Int)).toNat default = a.getD ((i : Int)).toNat default)]
      exact ih (i + 1) (by omega) (by omega)
    · rw [decide_eq_false (by omega : ¬ ((i : Nat) : Int) < a.length), Bool.false_and, cond_false]

theorem same_self {fuel : Nat} (hf : 1001 ≤ fuel) (a : List Int) (hl : a.length ≤ 1000) : gasolierref03_Same fuel a a = some true := by
  unfold gasolierref03_Same
  rw [decide_eq_true rfl]
  exact same_go a hl fuel 0 (by omega) (by omega)

theorem SureP.small {c : Chart} {T : Nat → Int} {p a : Int} {r : List Int × Int} (h : SureP c T p a r) : r.1.length ≤ 1000 := by
  rcases h.2 with ⟨_, h2⟩ | ⟨h1, h2⟩
  · rw [h2]; simp
  · rw [h2.len]
    have := valid_iff.1 (askE_zero h1).1
    omega

theorem Leave_eq {fuel : Nat} (hf : 41 ≤ fuel) (c : Chart) (i a : Int) : ∃ r, round_Leave c i a = some r ∧ gasolierref03_Leave fuel c i a = some r := by
  unfold round_Leave gasolierref03_Leave
  rw [wayOf_eq, ref_Check_eq hf, bindO_some, bindO_some, within_min, in_min]
  cases hv : valid c with
  | false => exact ⟨(0, 31), rfl, rfl⟩
  | true =>
    have hl := (valid_iff.1 hv).2.1
    rw [cond_true, cond_true, (by decide : decide ((0 : Int) = 0) = true), Bool.not_true, cond_false, must_pos (c := inI (((c.Ways.length : Nat) : Int) - 1)) (by unfold inI; omega)]
    have : gasolierref03_In i 0 (((c.Ways.length : Nat) : Int) - 1) = decide (0 ≤ i ∧ i < c.Ways.length) := by
      unfold gasolierref03_In
      rw [Bool.eq_iff_iff]; simp; omega
    rw [this]
    by_cases h : 0 ≤ i ∧ i < ((c.Ways.length : Nat) : Int)
    · rw [decide_eq_true h, cond_true, (by decide : decide ((0 : Int) = 0) = true), Bool.not_true, cond_false, Bool.false_or]
      cases hm : isMin a with
      | false => exact ⟨(0, 1), rfl, rfl⟩
      | true =>
        have hm' := isMin_iff.1 hm
        have hw := fit_of (joins_of hv (i := i.toNat) (by omega))
        have ew : c.Ways.getD i.toNat default = way c i.toNat := rfl
        have g := bgn_ge hw a
        have g1 := hw.lo
        rw [Bool.not_true, cond_false, cond_false, must_pos h, must_pos h, ew, leave_eq hw (by omega) (by omega), begun_eq hw (by omega) (by omega), bindO_some, bindO_some]
        by_cases hb : bgn (way c i.toNat) a ≤ (way c i.toNat).Open.Hi
        · rw [decide_eq_true hb, if_pos hb, decide_eq_false (by omega)]
          exact ⟨_, rfl, rfl⟩
        · rw [decide_eq_false hb, if_neg hb]
          exact ⟨(0, 36), rfl, rfl⟩
    · rw [decide_eq_false h]
      exact ⟨(0, 1), rfl, rfl⟩

theorem roundTimes_true (c : Chart) (w : Int) (t : Trip) : gasolierlaw03_RoundTimes 20000 c w t = some true := by
  unfold gasolierlaw03_RoundTimes
  obtain ⟨r, h1, h2⟩ := Leave_eq (fuel := 20000) (by omega) c w t.At
  obtain ⟨s, k1, k2⟩ := sure_eq (Nat.le_refl 20000) c t.From t.At
  obtain ⟨s', k3, k4⟩ := ref_sure_eq (Nat.le_refl 20000) c t.From t.At
  obtain ⟨u, m1, m2⟩ := soonest_eq (Nat.le_refl 20000) c t.From t.At
  obtain ⟨u', m3, m4⟩ := ref_soonest_eq (Nat.le_refl 20000) c t.From t.At
  have e1 := k2.unique k4
  have e2 := m2.unique m4
  subst e1 e2
  rw [sane_ok, h1, h2, k1, k3, m1, m3]
  simp only [bindO_some]
  rw [same_self (by omega) s.1 k2.small, same_self (by omega) u.1 m2.small]
  simp [bindO_some]

end Go.Sp
