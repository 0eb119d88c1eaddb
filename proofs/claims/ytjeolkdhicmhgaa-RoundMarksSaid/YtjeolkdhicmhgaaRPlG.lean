/- Plain laws: rounds that are in time, slack, rounds without a way. No program in sight. -/
import Derived.Test.YtjeolkdhicmhgaaRPlF
set_option linter.all false
namespace Go.Sp
open Go.Av
set_option maxRecDepth 100000

/-! ### True minutes -/
def isTk (c : Chart) (T : List Int) : Bool := decide (T.length = c.Ways.length) && (List.range' 0 T.length).all fun i => decide ((way c i).Takes.Lo ≤ Tl T i) && decide (Tl T i ≤ (way c i).Takes.Hi)

theorem isTk_iff {c : Chart} {T : List Int} : isTk c T = true ↔ T.length = c.Ways.length ∧ ∀ i, i < c.Ways.length → (way c i).Takes.Lo ≤ Tl T i ∧ Tl T i ≤ (way c i).Takes.Hi := by
  unfold isTk
  simp only [Bool.and_eq_true, decide_eq_true_eq, List.all_eq_true, List.mem_range'_1]
  constructor
  · rintro ⟨h1, h2⟩
    exact ⟨h1, fun i hi => h2 i (by omega)⟩
  · rintro ⟨h1, h2⟩
    exact ⟨h1, fun i hi => h2 i (by omega)⟩

theorem net_tk {c : Chart} {T : List Int} (hv : valid c = true) (h : isTk c T = true) : Net c (Tl T) :=
  ⟨hv, fun i hi => by
    have := joins_iff.1 (joins_of hv hi)
    have := (isTk_iff.1 h).2 i hi
    omega⟩

theorem areTook_go (c : Chart) (T : List Int) (hT : T.length = c.Ways.length) : ∀ n (i : Nat), i + n = T.length →
    rangeGo ((fun i2 (s2 : Unit) k2 => must (0 ≤ ((i2 : Int) : Int) ∧ ((i2 : Int) : Int) < ((c.Ways.length : Nat) : Int)) <| (bif (!(round_within (T.getD i2 default) ((c.Ways.getD i2 default).Takes.Lo) ((c.Ways.getD i2 default).Takes.Hi))) then some false else k2 ()))) (fun (s2 : Unit) => some true) n i () = some ((List.range' i n).all fun i => decide ((way c i).Takes.Lo ≤ Tl T i) && decide (Tl T i ≤ (way c i).Takes.Hi)) := by
  intro n
  induction n with
  | zero => intro i _; rfl
  | succ n ih =>
    intro i hi
    rw [rangeGo_succ, List.range'_succ, List.all_cons, must_pos (by omega)]
    have e : round_within (T.getD i default) ((c.Ways.getD i default).Takes.Lo) ((c.Ways.getD i default).Takes.Hi) = (decide ((way c i).Takes.Lo ≤ Tl T i) && decide (Tl T i ≤ (way c i).Takes.Hi)) := rfl
    rw [e]
    cases (decide ((way c i).Takes.Lo ≤ Tl T i) && decide (Tl T i ≤ (way c i).Takes.Hi)) with
    | false => rfl
    | true =>
      rw [Bool.not_true, cond_false, Bool.true_and]
      exact ih (i + 1) (by omega)

theorem areTook_eq (c : Chart) (T : List Int) : round_areTook c T = some (isTk c T) := by
  unfold round_areTook isTk
  by_cases h : T.length = c.Ways.length
  · rw [decide_eq_true (by omega : ((T.length : Nat) : Int) = c.Ways.length), Bool.not_true, cond_false, decide_eq_true h, Bool.true_and]
    exact areTook_go c T h T.length 0 (by omega)
  · rw [decide_eq_false (by omega : ¬ ((T.length : Nat) : Int) = c.Ways.length), decide_eq_false h]; rfl

theorem isTook_go (c : Chart) (T : List Int) (hT : T.length = c.Ways.length) (hl : T.length ≤ 40) : ∀ n (i : Nat), i ≤ T.length → T.length - i < n →
    loopGo ((fun (s2 : Int) k2 => (bif (decide (s2 < ((T.length : Nat) : Int))) then must (0 ≤ (s2 : Int) ∧ (s2 : Int) < ((T.length : Nat) : Int)) <| must (0 ≤ (s2 : Int) ∧ (s2 : Int) < ((c.Ways.length : Nat) : Int)) <| must (0 ≤ (s2 : Int) ∧ (s2 : Int) < ((c.Ways.length : Nat) : Int)) <| (bif (!(gasolierref03_In (T.getD (s2).toNat default) ((c.Ways.getD (s2).toNat default).Takes.Lo) ((c.Ways.getD (s2).toNat default).Takes.Hi))) then some false else must (inI (s2 + 1)) <| k2 (s2 + 1)) else some true))) n (i : Int) = some ((List.range' i (T.length - i)).all fun i => decide ((way c i).Takes.Lo ≤ Tl T i) && decide (Tl T i ≤ (way c i).Takes.Hi)) := by
  intro n
  induction n with
  | zero => intro i _ h; omega
  | succ n ih =>
    intro i hi hn
    rw [loopGo_succ]
    by_cases hlt : i < T.length
    · have IH := ih (i + 1) (by omega) (by omega)
      have e1 : T.length - i = (T.length - (i + 1)) + 1 := by omega
      have e0 : ((i : Nat) : Int).toNat = i := by omega
      rw [e1, List.range'_succ, List.all_cons, decide_eq_true (by omega : ((i : Nat) : Int) < T.length), cond_true, must_pos (by omega), must_pos (by omega), must_pos (by omega), e0]
      have e : gasolierref03_In (T.getD i default) ((c.Ways.getD i default).Takes.Lo) ((c.Ways.getD i default).Takes.Hi) = (decide ((way c i).Takes.Lo ≤ Tl T i) && decide (Tl T i ≤ (way c i).Takes.Hi)) := rfl
      rw [e]
      cases (decide ((way c i).Takes.Lo ≤ Tl T i) && decide (Tl T i ≤ (way c i).Takes.Hi)) with
      | false => rfl
      | true =>
        rw [Bool.not_true, cond_false, must_pos (by unfold inI; omega), Bool.true_and]
        exact IH
    · rw [decide_eq_false (by omega : ¬ ((i : Nat) : Int) < T.length), cond_false, (by omega : T.length - i = 0)]
      rfl

theorem isTook_eq {fuel : Nat} (hf : 41 ≤ fuel) {c : Chart} (hv : valid c = true) (T : List Int) : gasolierref03_isTook fuel c T = some (isTk c T) := by
  have hl := (valid_iff.1 hv).2.1
  unfold gasolierref03_isTook isTk
  by_cases h : T.length = c.Ways.length
  · rw [decide_eq_true (by omega : ((T.length : Nat) : Int) = c.Ways.length), Bool.not_true, cond_false, decide_eq_true h, Bool.true_and]
    exact isTook_go c T h (by omega) fuel 0 (by omega) (by omega)
  · rw [decide_eq_false (by omega : ¬ ((T.length : Nat) : Int) = c.Ways.length), decide_eq_false h]; rfl

def tkE (c : Chart) (T : List Int) : Int := bif valid c then (bif isTk c T then 0 else 38) else 31

theorem checkTook_eq (c : Chart) (T : List Int) : round_CheckTook c T = some (tkE c T) := by
  unfold round_CheckTook tkE
  rw [round_Check_eq, bindO_some]
  cases hv : valid c with
  | false => rfl
  | true =>
    rw [cond_true, (by decide : decide ((0 : Int) = 0) = true), Bool.not_true, cond_false, areTook_eq, bindO_some]
    cases isTk c T <;> rfl

theorem ref_checkTook_eq {fuel : Nat} (hf : 41 ≤ fuel) (c : Chart) (T : List Int) : gasolierref03_CheckTook fuel c T = some (tkE c T) := by
  unfold gasolierref03_CheckTook tkE
  rw [ref_Check_eq hf, bindO_some]
  cases hv : valid c with
  | false => rfl
  | true =>
    rw [cond_true, (by decide : decide ((0 : Int) = 0) = true), Bool.not_true, cond_false, isTook_eq hf hv, bindO_some]
    cases isTk c T <;> rfl

theorem askE_pos {c : Chart} {p a : Int} (h : askE c p a ≠ 0) : decide (askE c p a = 0) = false := decide_eq_false h

/-- What Walked returns. -/
def WalkP (c : Chart) (T : List Int) (p a : Int) (r : List Int × Int) : Prop :=
  (askE c p a ≠ 0 ∧ r = ([], askE c p a)) ∨ (askE c p a = 0 ∧ isTk c T = false ∧ r = ([], 38)) ∨ (askE c p a = 0 ∧ isTk c T = true ∧ r.2 = 0 ∧ Mins c (Tl T) p a r.1)

theorem WalkP.unique {c : Chart} {T : List Int} {p a : Int} {r r' : List Int × Int} (h : WalkP c T p a r) (h' : WalkP c T p a r') : r = r' := by
  rcases h with ⟨h1, h2⟩ | ⟨h1, h2, h3⟩ | ⟨h1, h2, h3, h4⟩ <;> rcases h' with ⟨k1, k2⟩ | ⟨k1, k2, k3⟩ | ⟨k1, k2, k3, k4⟩
  · rw [h2, k2]
  · exact absurd k1 h1
  · exact absurd k1 h1
  · exact absurd h1 k1
  · rw [h3, k3]
  · rw [h2] at k2; cases k2
  · exact absurd h1 k1
  · rw [h2] at k2; cases k2
  · exact Prod.ext (h4.unique k4) (h3.trans k3.symm)

theorem WalkP.small {c : Chart} {T : List Int} {p a : Int} {r : List Int × Int} (h : WalkP c T p a r) : r.1.length ≤ 1000 := by
  rcases h with ⟨_, h2⟩ | ⟨_, _, h2⟩ | ⟨h1, _, _, h2⟩
  · rw [h2]; simp
  · rw [h2]; simp
  · rw [h2.len]
    have := valid_iff.1 (askE_zero h1).1
    omega

theorem walked_eq {fuel : Nat} (hf : 20000 ≤ fuel) (c : Chart) (T : List Int) (p a : Int) : ∃ r, round_Walked fuel c T p a = some r ∧ WalkP c T p a r := by
  unfold round_Walked
  rw [placeOf_one, bindO_some]
  by_cases h : askE c p a = 0
  · rw [h, (by decide : decide ((0 : Int) = 0) = true), Bool.not_true, cond_false]
    obtain ⟨hv, hp, ha⟩ := askE_zero h
    rw [areTook_eq, bindO_some]
    cases ht : isTk c T with
    | false => exact ⟨_, rfl, .inr (.inl ⟨h, ht, rfl⟩)⟩
    | true =>
      have hl := (isTk_iff.1 ht).1
      obtain ⟨out, e, D⟩ := reach_done (net_tk hv ht) hp ha (fun x0 => round_truly_1 x0 T) (fun i hi => truly_eq T i (by omega)) (fuel := fuel) (by omega)
      obtain ⟨L, e2, M⟩ := minutes_mins (net_tk hv ht) hp ha D
      rw [Bool.not_true, cond_false, e, bindO_some, e2, bindO_some]
      exact ⟨(L, 0), rfl, .inr (.inr ⟨h, ht, rfl, M⟩)⟩
  · rw [decide_eq_false h, Bool.not_false, cond_true]
    exact ⟨_, rfl, .inl ⟨h, rfl⟩⟩

theorem ref_walked_eq {fuel : Nat} (hf : 20000 ≤ fuel) (c : Chart) (T : List Int) (t : Trip) : ∃ r, gasolierref03_Walked fuel c T t = some r ∧ WalkP c T t.From t.At r := by
  unfold gasolierref03_Walked
  rw [asked_eq (by omega), bindO_some]
  by_cases h : askE c t.From t.At = 0
  · rw [h, (by decide : decide ((0 : Int) = 0) = true), Bool.not_true, cond_false]
    obtain ⟨hv, hp, ha⟩ := askE_zero h
    rw [isTook_eq (by omega) hv, bindO_some]
    cases ht : isTk c T with
    | false => exact ⟨_, rfl, .inr (.inl ⟨h, ht, rfl⟩)⟩
    | true =>
      obtain ⟨L, e, M⟩ := reached_mins (net_tk hv ht) (isTk_iff.1 ht).1 t hp ha hf
      rw [Bool.not_true, cond_false, e, bindO_some]
      exact ⟨(L, 0), rfl, .inr (.inr ⟨h, ht, rfl, M⟩)⟩
  · rw [decide_eq_false h, Bool.not_false, cond_true]
    exact ⟨_, rfl, .inl ⟨h, rfl⟩⟩

/-- What Went and Begins return: e is the error. -/
def BegP (c : Chart) (T : Nat → Int) (r : Round) (e : Int) (x : List Int × Int) : Prop := (e ≠ 0 ∧ x = ([], e)) ∨ (e = 0 ∧ x.2 = 0 ∧ r.Stops.length ≤ 16 ∧ Bgs c T r.Stops r.Place r.At x.1)

theorem BegP.unique {c : Chart} {T : Nat → Int} {r : Round} {e : Int} {x x' : List Int × Int} (h : BegP c T r e x) (h' : BegP c T r e x') : x = x' := by
  rcases h with ⟨h1, h2⟩ | ⟨h1, h2, _, h3⟩ <;> rcases h' with ⟨k1, k2⟩ | ⟨k1, k2, _, k3⟩
  · rw [h2, k2]
  · exact absurd k1 h1
  · exact absurd h1 k1
  · exact Prod.ext (h3.unique k3) (h2.trans k2.symm)

theorem BegP.small {c : Chart} {T : Nat → Int} {r : Round} {e : Int} {x : List Int × Int} (h : BegP c T r e x) : x.1.length ≤ 1000 := by
  rcases h with ⟨_, h2⟩ | ⟨_, _, h2, h3⟩
  · rw [h2]; simp
  · rw [h3.len]; omega

def wentE (c : Chart) (T : List Int) (r : Round) : Int := if tkE c T = 0 then (bif isRd c r then 0 else 33) else tkE c T

theorem tkE_zero {c : Chart} {T : List Int} (h : tkE c T = 0) : valid c = true ∧ isTk c T = true := by
  unfold tkE at h
  cases hv : valid c <;> cases hr : isTk c T <;> rw [hv, hr] at h <;> simp at h
  exact ⟨rfl, rfl⟩

theorem went_eq {fuel : Nat} (hf : 20000 ≤ fuel) (c : Chart) (T : List Int) (r : Round) : ∃ x, round_Went fuel c T r = some x ∧ BegP c (Tl T) r (wentE c T r) x := by
  unfold round_Went wentE
  rw [checkTook_eq, bindO_some]
  by_cases h : tkE c T = 0
  · obtain ⟨hv, ht⟩ := tkE_zero h
    rw [if_pos h, h, (by decide : decide ((0 : Int) = 0) = true), Bool.not_true, cond_false, round_isRound_eq hv, bindO_some]
    cases hr : isRd c r with
    | false => exact ⟨_, rfl, .inl ⟨by decide, rfl⟩⟩
    | true =>
      obtain ⟨h1, h2, h3, h4⟩ := isRd_iff.1 hr
      have hl := (isTk_iff.1 ht).1
      obtain ⟨L, e, B⟩ := begins_eq (net_tk hv ht) (fun x0 => round_truly_1 x0 T) (fun i hi => truly_eq T i (by omega)) (fuel := fuel) (by omega) h1 (by omega) h3 h4
      rw [Bool.not_true, cond_false, e, bindO_some]
      exact ⟨_, rfl, .inr ⟨rfl, rfl, h3, B⟩⟩
  · rw [if_neg h, decide_eq_false h, Bool.not_false, cond_true]
    exact ⟨_, rfl, .inl ⟨h, rfl⟩⟩

theorem ref_went_eq {fuel : Nat} (hf : 20000 ≤ fuel) (c : Chart) (T : List Int) (r : Round) : ∃ x, gasolierref03_Went fuel c T r = some x ∧ BegP c (Tl T) r (wentE c T r) x := by
  unfold gasolierref03_Went wentE tkE
  rw [ref_Check_eq (by omega), bindO_some]
  cases hv : valid c with
  | false => exact ⟨([], 31), rfl, .inl ⟨by rw [cond_false, if_neg (by decide)]; decide, rfl⟩⟩
  | true =>
    rw [cond_true, (by decide : decide ((0 : Int) = 0) = true), Bool.not_true, cond_false, isTook_eq (by omega) hv, bindO_some]
    cases ht : isTk c T with
    | false => exact ⟨([], 38), rfl, .inl ⟨by rw [cond_true, cond_false, if_neg (by decide)]; decide, rfl⟩⟩
    | true =>
      rw [Bool.not_true, cond_false, ref_isRound_eq (by omega) hv, bindO_some]
      cases hr : isRd c r with
      | false => exact ⟨([], 33), rfl, .inl ⟨by decide, rfl⟩⟩
      | true =>
        obtain ⟨h1, h2, h3, h4⟩ := isRd_iff.1 hr
        obtain ⟨L, e, B⟩ := ref_begins_eq (net_tk hv ht) (isTk_iff.1 ht).1 hf h1 (by omega) h3 h4
        rw [Bool.not_true, cond_false, e, bindO_some]
        exact ⟨_, rfl, .inr ⟨rfl, rfl, h3, B⟩⟩

theorem roundWalks_true (c : Chart) (T : List Int) (r : Round) : gasolierlaw03_RoundWalks 20000 c T r = some true := by
  unfold gasolierlaw03_RoundWalks
  obtain ⟨s, k1, k2⟩ := walked_eq (Nat.le_refl 20000) c T r.Place r.At
  obtain ⟨s', k3, k4⟩ := ref_walked_eq (Nat.le_refl 20000) c T ⟨r.Place, 0, r.At⟩
  obtain ⟨u, m1, m2⟩ := went_eq (Nat.le_refl 20000) c T r
  obtain ⟨u', m3, m4⟩ := ref_went_eq (Nat.le_refl 20000) c T r
  have e1 := k2.unique k4
  have e2 := m2.unique m4
  subst e1 e2
  rw [sane_ok, k1, k3, m1, m3]
  simp only [bindO_some]
  rw [same_self (by omega) s.1 k2.small, same_self (by omega) u.1 m2.small]
  simp only [bindO_some]
  rw [checkTook_eq, ref_checkTook_eq (by omega)]
  simp [bindO_some]

/-! ### In time -/
def allB (L : List Int) : Bool := L.all fun x => decide (0 ≤ x)

theorem Bgs.ge {c : Chart} {T : Nat → Int} : ∀ {l : List Stop} (_ : ∀ s ∈ l, okStop c s = true) {p a : Int} {L : List Int}, Bgs c T l p a L → ∀ x ∈ L, -1 ≤ x
  | [], _, _, _, _, h, x, hx => by rw [h] at hx; cases hx
  | s :: r, hl, p, a, L, h, x, hx => by
    have rep : L = List.replicate (r.length + 1) (-1) → -1 ≤ x := fun e => by
      rw [e] at hx
      have := List.eq_of_mem_replicate hx
      omega
    rcases h with ⟨_, h2⟩ | ⟨_, ⟨_, h2⟩ | ⟨m, _, ⟨_, h2⟩ | ⟨_, L', h2, h3⟩⟩⟩
    · exact rep h2
    · exact rep h2
    · exact rep h2
    · rw [h2] at hx
      have hs := okStop_iff.1 (hl s (List.mem_cons_self ..))
      rcases List.mem_cons.1 hx with e | hx
      · omega
      · exact Bgs.ge (fun s hs => hl s (List.mem_cons_of_mem _ hs)) h3 x hx

theorem index_int_go (L : List Int) (v : Int) : ∀ n i, i + n = L.length →
    ∃ z : Int, rangeGo (fun i1 (_ : Unit) k1 => (bif (decide (v = (L.getD i1 default))) then some (i1 : Int) else k1 ())) (fun (_ : Unit) => some (-1)) n i () = some z ∧ (decide (0 ≤ z)) = (L.drop i).any (fun x => decide (v = x)) := by
  intro n
  induction n with
  | zero =>
    intro i hi
    refine ⟨-1, rfl, ?_⟩
    rw [List.drop_eq_nil_of_le (by omega)]; rfl
  | succ n ih =>
    intro i hi
    rw [drop_get (by omega), List.any_cons, rangeGo_succ]
    cases hg : decide (v = L.getD i default) with
    | true => exact ⟨i, rfl, by simp⟩
    | false =>
      obtain ⟨z, h1, h2⟩ := ih (i + 1) (by omega)
      exact ⟨z, h1, by rw [h2]; rfl⟩

theorem all_eq {L : List Int} (h : ∀ x ∈ L, -1 ≤ x) : round_all L = some (allB L) := by
  obtain ⟨z, h1, h2⟩ := index_int_go L (-1) L.length 0 (by omega)
  unfold round_all slices_Contains_int slices_Index_int
  rw [h1, bindO_some, bindO_some, h2, List.drop_zero]
  congr 1
  unfold allB
  clear h1 h2
  induction L with
  | nil => rfl
  | cons x L ih =>
    have hx := h x (List.mem_cons_self ..)
    have IH := ih (fun y hy => h y (List.mem_cons_of_mem _ hy))
    rw [List.any_cons, List.all_cons, ← IH]
    by_cases e : x = -1
    · rw [decide_eq_true e.symm, decide_eq_false (by omega)]; rfl
    · rw [decide_eq_false (fun h => e h.symm), decide_eq_true (by omega), Bool.false_or, Bool.true_and]

theorem ref_all_go (L : List Int) (hl : L.length ≤ 1000) : ∀ n (i : Nat), i ≤ L.length → L.length - i < n → loopGo ((fun (s1 : Int) k1 => (bif (decide (s1 < ((L.length : Nat) : Int))) then must (0 ≤ (s1 : Int) ∧ (s1 : Int) < ((L.length : Nat) : Int)) <| (bif (decide ((L.getD (s1).toNat default) < 0)) then some false else must (inI (s1 + 1)) <| k1 (s1 + 1)) else some true))) n (i : Int) = some ((L.drop i).all fun x => decide (0 ≤ x)) := by
  intro n
  induction n with
  | zero => intro i _ h; omega
  | succ n ih =>
    intro i hi hn
    rw [loopGo_succ]
    by_cases hlt : i < L.length
    · have IH := ih (i + 1) (by omega) (by omega)
      have e0 : ((i : Nat) : Int).toNat = i := by omega
      rw [decide_eq_true (by omega : ((i : Nat) : Int) < L.length), cond_true, must_pos (by omega), drop_get hlt, List.all_cons, e0]
      by_cases hx : L.getD i default < 0
      · rw [decide_eq_true hx, decide_eq_false (by omega)]; rfl
      · rw [decide_eq_false hx, decide_eq_true (by omega), cond_false, must_pos (by unfold inI; omega), Bool.true_and]
        exact IH
    · rw [decide_eq_false (by omega : ¬ ((i : Nat) : Int) < L.length), cond_false, List.drop_eq_nil_of_le (by omega)]
      rfl

theorem ref_all_eq {fuel : Nat} {L : List Int} (hl : L.length ≤ 1000) (hf : 1001 ≤ fuel) : gasolierref03_All fuel L = some (allB L) := by
  have := ref_all_go L hl fuel 0 (by omega) (by omega)
  rw [List.drop_zero] at this
  exact this

/-- In time: 1; 2: perhaps; 0: not. -/
def Itm (c : Chart) (r : Round) (v : Int) : Prop := ∃ L1 L2, Bgs c (boT c true) r.Stops r.Place r.At L1 ∧ Bgs c (boT c false) r.Stops r.Place r.At L2 ∧ v = (bif allB L1 then 1 else (bif allB L2 then 2 else 0))

theorem Itm.unique {c : Chart} {r : Round} {v w : Int} (h : Itm c r v) (h' : Itm c r w) : v = w := by
  obtain ⟨L1, L2, h1, h2, h3⟩ := h
  obtain ⟨M1, M2, k1, k2, k3⟩ := h'
  rw [h3, k3, h1.unique k1, h2.unique k2]

/-- A round that may be walked: from whichever minute on. -/
structure RdOk (c : Chart) (r : Round) : Prop where
  pl : 0 ≤ r.Place ∧ r.Place < c.Places
  at_ : 0 ≤ r.At ∧ r.At ≤ 100000
  len : r.Stops.length ≤ 16
  ok : ∀ s ∈ r.Stops, okStop c s = true

theorem rdOk_of {c : Chart} {r : Round} (h : isRd c r = true) : RdOk c r := by
  obtain ⟨h1, h2, h3, h4⟩ := isRd_iff.1 h
  exact ⟨h1, by omega, h3, h4⟩

theorem begins_bo {fuel : Nat} (hf : 41 ≤ fuel) {c : Chart} (hv : valid c = true) {r : Round} (hr : RdOk c r) : (∃ L, round_begins fuel c r (fun x0 => round_most_1 x0 c) = some L ∧ Bgs c (boT c true) r.Stops r.Place r.At L) ∧ ∃ L, round_begins fuel c r (fun x0 => round_least_1 x0 c) = some L ∧ Bgs c (boT c false) r.Stops r.Place r.At L :=
  ⟨begins_eq (net_bo hv true) _ (fun i hi => most_eq c i hi) hf hr.pl hr.at_ hr.len hr.ok, begins_eq (net_bo hv false) _ (fun i hi => leastT_eq c i hi) hf hr.pl hr.at_ hr.len hr.ok⟩

theorem ref_begins_bo {fuel : Nat} (hf : 20000 ≤ fuel) {c : Chart} (hv : valid c = true) {r : Round} (hr : RdOk c r) (high : Bool) : ∃ L, gasolierref03_begins fuel c (c.Ways.map (pickT high)) r = some L ∧ Bgs c (boT c high) r.Stops r.Place r.At L := by
  have := ref_begins_eq (c := c) (T := c.Ways.map (pickT high)) (by rw [Tl_map]; exact net_bo hv high) (by simp) hf hr.pl hr.at_ hr.len hr.ok
  rwa [Tl_map] at this

theorem inTime_eq {fuel : Nat} (hf : 41 ≤ fuel) {c : Chart} (hv : valid c = true) {r : Round} (hr : RdOk c r) : ∃ v, round_inTime fuel c r = some v ∧ Itm c r v := by
  obtain ⟨⟨L1, e1, B1⟩, L2, e2, B2⟩ := begins_bo hf hv hr
  refine ⟨_, ?_, L1, L2, B1, B2, rfl⟩
  unfold round_inTime
  rw [e1, bindO_some, all_eq (B1.ge hr.ok), bindO_some]
  cases allB L1 with
  | true => rfl
  | false =>
    rw [cond_false, cond_false, e2, bindO_some, all_eq (B2.ge hr.ok), bindO_some]
    cases allB L2 <;> rfl

theorem ref_inTime_eq {fuel : Nat} (hf : 20000 ≤ fuel) {c : Chart} (hv : valid c = true) {r : Round} (hr : RdOk c r) : ∃ v, gasolierref03_inTime fuel c r = some v ∧ Itm c r v := by
  obtain ⟨L1, e1, B1⟩ := ref_begins_bo hf hv hr true
  obtain ⟨L2, e2, B2⟩ := ref_begins_bo hf hv hr false
  have l1 := B1.len
  have l2 := B2.len
  have l3 := hr.len
  refine ⟨_, ?_, L1, L2, B1, B2, rfl⟩
  unfold gasolierref03_inTime
  rw [least_eq (by omega) hv, bindO_some, e1, bindO_some, ref_all_eq (by omega) (by omega), bindO_some]
  cases allB L1 with
  | true => rfl
  | false =>
    rw [cond_false, cond_false, least_eq (by omega) hv, bindO_some, e2, bindO_some, ref_all_eq (by omega) (by omega), bindO_some]
    cases allB L2 <;> rfl

theorem Begins_eq {fuel : Nat} (hf : 20000 ≤ fuel) (c : Chart) (r : Round) : ∃ x, round_Begins fuel c r = some x ∧ gasolierref03_Begins fuel c r = some x ∧ BegP c (boT c true) r (rdE c r) x := by
  unfold round_Begins gasolierref03_Begins
  rw [checkRound_eq, ref_checkRound_eq (by omega), bindO_some, bindO_some]
  by_cases h : rdE c r = 0
  · obtain ⟨hv, hr⟩ := rdE_zero h
    have ok := rdOk_of hr
    obtain ⟨⟨L1, e1, B1⟩, _⟩ := begins_bo (fuel := fuel) (by omega) hv ok
    obtain ⟨L2, e2, B2⟩ := ref_begins_bo hf hv ok true
    have e := B1.unique B2
    subst e
    rw [h, (by decide : decide ((0 : Int) = 0) = true), Bool.not_true, cond_false, cond_false, e1, bindO_some, least_eq (by omega) hv, bindO_some, e2, bindO_some]
    exact ⟨_, rfl, rfl, .inr ⟨rfl, rfl, ok.len, B1⟩⟩
  · rw [decide_eq_false h, Bool.not_false, cond_true, cond_true]
    exact ⟨_, rfl, rfl, .inl ⟨h, rfl⟩⟩

theorem InTime_eq {fuel : Nat} (hf : 20000 ≤ fuel) (c : Chart) (r : Round) : ∃ x, round_InTime fuel c r = some x ∧ gasolierref03_InTime fuel c r = some x ∧ ((rdE c r ≠ 0 ∧ x = (0, rdE c r)) ∨ (rdE c r = 0 ∧ x.2 = 0 ∧ Itm c r x.1)) := by
  unfold round_InTime gasolierref03_InTime
  rw [checkRound_eq, ref_checkRound_eq (by omega), bindO_some, bindO_some]
  by_cases h : rdE c r = 0
  · obtain ⟨hv, hr⟩ := rdE_zero h
    have ok := rdOk_of hr
    obtain ⟨v, e1, I1⟩ := inTime_eq (fuel := fuel) (by omega) hv ok
    obtain ⟨w, e2, I2⟩ := ref_inTime_eq hf hv ok
    have e := I1.unique I2
    subst e
    rw [h, (by decide : decide ((0 : Int) = 0) = true), Bool.not_true, cond_false, cond_false, e1, bindO_some, e2, bindO_some]
    exact ⟨_, rfl, rfl, .inr ⟨rfl, rfl, I1⟩⟩
  · rw [decide_eq_false h, Bool.not_false, cond_true, cond_true]
    exact ⟨_, rfl, rfl, .inl ⟨h, rfl⟩⟩

/-! ### Who sets out later -/
theorem Arr.later {c : Chart} {T : Nat → Int} (N : Net c T) {s a a' p b' : Int} (h : a ≤ a') (H : Arr c T s a' p b') : ∃ b, Arr c T s a p b ∧ b ≤ b' := by
  induction H with
  | start => exact ⟨a, .start, h⟩
  | step p x i y h hi hf hb ih =>
    obtain ⟨x', h1, h2⟩ := ih
    obtain ⟨y', h3, h4⟩ := fin_mono (fit_of (joins_of N.val hi)) h2 hb
    exact ⟨y', .step p x' i y' h1 hi hf h3, h4⟩

/-- With less minutes. -/
theorem Arr.less {c : Chart} {T U : Nat → Int} (N : Net c T) (hTU : ∀ i, i < c.Ways.length → T i ≤ U i) {s a p b' : Int} (H : Arr c U s a p b') : ∃ b, Arr c T s a p b ∧ b ≤ b' := by
  induction H with
  | start => exact ⟨a, .start, Int.le_refl _⟩
  | step p x i y h hi hf hb ih =>
    obtain ⟨x', h1, h2⟩ := ih
    obtain ⟨y1, h3, h4⟩ := fin_less (hTU i hi) hb
    obtain ⟨y', h5, h6⟩ := fin_mono (fit_of (joins_of N.val hi)) h2 h3
    exact ⟨y', .step p x' i y' h1 hi hf h5, by omega⟩

theorem lst_ex {c : Chart} {T : Nat → Int} (N : Net c T) {s a : Int} (hs : 0 ≤ s ∧ s < c.Places) (ha : 0 ≤ a ∧ a ≤ 1439) (p : Int) : ∃ d, Lst c T s a p d := by
  obtain ⟨out, _, D⟩ := reach_done N hs ha (fun i => some (T i.toNat)) (fun i _ => rfl) (Nat.le_refl 14)
  exact ⟨_, D.lst p⟩

theorem Lst.better {c : Chart} {T U : Nat → Int} {s a a' p m' : Int} (hb : ∀ b', Arr c U s a' p b' → ∃ b, Arr c T s a p b ∧ b ≤ b') (h : Lst c U s a' p (some m')) {d : Option Int} (hd : Lst c T s a p d) : ∃ m, d = some m ∧ m ≤ m' := by
  obtain ⟨b, h1, h2⟩ := hb m' h.1
  cases d with
  | none => exact absurd h1 (hd b)
  | some m => exact ⟨m, rfl, Int.le_trans (hd.2 b h1) h2⟩

theorem allB_rep (n : Nat) : allB (List.replicate (n + 1) (-1)) = false := rfl

/-- Who sets out earlier, and has less minutes, begins all that another one begins, and no later. -/
theorem Bgs.better {c : Chart} {T U : Nat → Int} (N : Net c T) (NU : Net c U) (hTU : ∀ i, i < c.Ways.length → T i ≤ U i) : ∀ {l : List Stop} (_ : ∀ s ∈ l, okStop c s = true) {p a a' : Int} {L L' : List Int}, a ≤ a' → Bgs c U l p a' L' → Bgs c T l p a L → allB L' = true → allB L = true
  | [], _, _, _, _, L, _, _, _, h, _ => by rw [h]; rfl
  | s :: r, hl, p, a, a', L, L', hle, h', h, hall => by
    have no : L' ≠ List.replicate (r.length + 1) (-1) := fun e => by rw [e, allB_rep] at hall; cases hall
    rcases h' with ⟨_, k2⟩ | ⟨k1, ⟨_, k2⟩ | ⟨m', k2, ⟨_, k3⟩ | ⟨k3, M', k4, k5⟩⟩⟩
    · exact absurd k2 no
    · exact absurd k2 no
    · exact absurd k3 no
    · have hb : ∀ b', Arr c U p a' s.Place b' → ∃ b, Arr c T p a s.Place b ∧ b ≤ b' := fun b' hb' => by
        obtain ⟨b1, h1, h2⟩ := hb'.later NU hle
        obtain ⟨b2, h3, h4⟩ := h1.less N hTU
        exact ⟨b2, h3, by omega⟩
      rw [k4] at hall
      simp only [allB, List.all_cons, Bool.and_eq_true, decide_eq_true_eq] at hall
      have hs := okStop_iff.1 (hl s (List.mem_cons_self ..))
      rcases h with ⟨h1, _⟩ | ⟨h1, ⟨h2, _⟩ | ⟨m, h2, h3⟩⟩
      · omega
      · obtain ⟨m, e, _⟩ := k2.better hb h2
        cases e
      · obtain ⟨m2, e, hm⟩ := k2.better hb h2
        cases e
        rcases h3 with ⟨h3, _⟩ | ⟨h3, M, h4, h5⟩
        · omega
        · have := Bgs.better N NU hTU (fun s hs => hl s (List.mem_cons_of_mem _ hs)) (by omega) k5 h5 hall.2
          rw [h4]
          simp only [allB, List.all_cons, Bool.and_eq_true, decide_eq_true_eq]
          exact ⟨by omega, this⟩

/-- Still in time, so many minutes later. -/
def Still (c : Chart) (r : Round) (d : Int) : Prop := r.At + d ≤ 1439 ∧ ∃ L, Bgs c (boT c true) r.Stops r.Place (r.At + d) L ∧ allB L = true

theorem Still.less {c : Chart} (hv : valid c = true) {r : Round} (hr : RdOk c r) {d d' : Int} (h0 : 0 ≤ d) (h : d ≤ d') (H : Still c r d') : Still c r d := by
  obtain ⟨h1, L, h2, h3⟩ := H
  refine ⟨by omega, ?_⟩
  have at0 := hr.at_.1
  obtain ⟨⟨M, _, B⟩, _⟩ := begins_bo (fuel := 41) (Nat.le_refl _) hv (r := ⟨r.Place, r.At + d, r.Stops⟩) ⟨hr.pl, ⟨by show 0 ≤ r.At + d; omega, by show r.At + d ≤ 100000; omega⟩, hr.len, hr.ok⟩
  exact ⟨M, B, Bgs.better (net_bo hv true) (net_bo hv true) (fun i _ => Int.le_refl _) hr.ok (by show r.At + d ≤ r.At + d'; omega) h2 B h3⟩

theorem slack1_eq {fuel : Nat} (hf : 41 ≤ fuel) {c : Chart} (hv : valid c = true) {r : Round} (hr : isRd c r = true) {d : Int} (h0 : 0 ≤ d) (h1 : d ≤ 1440) : ∃ b, round_Slack_1 fuel d r c = some b ∧ (b = true ↔ Still c r d) := by
  have ok := rdOk_of hr
  obtain ⟨p1, p2, _, _⟩ := isRd_iff.1 hr
  unfold round_Slack_1
  rw [must_pos (by unfold inI; omega)]
  by_cases h : r.At + d ≤ 1439
  · obtain ⟨⟨L, e, B⟩, _⟩ := begins_bo hf hv (r := ⟨r.Place, r.At + d, r.Stops⟩) ⟨ok.pl, ⟨by show 0 ≤ r.At + d; omega, by show r.At + d ≤ 100000; omega⟩, ok.len, ok.ok⟩
    rw [decide_eq_true h, cond_true, e, bindO_some, cond_true, all_eq (B.ge ok.ok), bindO_some, Bool.true_and]
    refine ⟨allB L, rfl, fun hb => ⟨h, L, B, hb⟩, fun ⟨_, L', B', hb⟩ => ?_⟩
    rw [B.unique B']; exact hb
  · rw [decide_eq_false h, cond_false, bindO_some, cond_false, bindO_some, Bool.false_and]
    exact ⟨false, rfl, ⟨fun hb => (by cases hb), fun hb => absurd hb.1 h⟩⟩

/-- The greatest number of minutes later. -/
def Slk (c : Chart) (r : Round) (m : Int) : Prop := 0 ≤ m ∧ Still c r m ∧ ∀ d, m < d → ¬ Still c r d

theorem Slk.unique {c : Chart} {r : Round} {m m' : Int} (h : Slk c r m) (h' : Slk c r m') : m = m' := by
  have h1 := h.2.2 m'
  have h2 := h'.2.2 m
  by_cases e : m < m'
  · exact absurd h'.2.1 (h1 e)
  · by_cases e2 : m' < m
    · exact absurd h.2.1 (h2 e2)
    · omega

theorem slack_go {fuel : Nat} (hf : 41 ≤ fuel) {c : Chart} (hv : valid c = true) {r : Round} (hr : isRd c r = true) : ∀ (n : Nat) (lo hi : Int), (hi - lo).toNat < n → 0 ≤ lo → lo < hi → hi ≤ 1440 → Still c r lo → (∀ d, hi ≤ d → ¬ Still c r d) →
    ∃ m, loopGo ((fun (s7 : Int × Int) k7 => must (inI (s7.2 - s7.1)) <| (bif (decide (1 < (s7.2 - s7.1))) then must (inI (s7.1 + s7.2)) <| must ((2 : Int) ≠ 0 ∧ inI (Int.tdiv (s7.1 + s7.2) 2)) <| bindO (round_Slack_1 fuel (Int.tdiv (s7.1 + s7.2) 2) r c) fun y12 => (bif y12 then k7 ((Int.tdiv (s7.1 + s7.2) 2), s7.2) else k7 (s7.1, (Int.tdiv (s7.1 + s7.2) 2))) else some (s7.1, 0)))) n (lo, hi) = some ((m, 0) : Int × Int) ∧ Slk c r m := by
  intro n
  induction n with
  | zero => intro lo hi h; omega
  | succ n ih =>
    intro lo hi hn h0 h1 h2 hlo hhi
    rw [loopGo_succ]
    dsimp only
    rw [must_pos (by unfold inI; omega)]
    by_cases h : 1 < hi - lo
    · have et : Int.tdiv (lo + hi) 2 = (lo + hi) / 2 := Int.tdiv_eq_ediv_of_nonneg (by omega)
      rw [decide_eq_true h, cond_true, must_pos (by unfold inI; omega), et, must_pos (by unfold inI; omega)]
      obtain ⟨b, e, hb⟩ := slack1_eq hf hv hr (d := (lo + hi) / 2) (by omega) (by omega)
      rw [e, bindO_some]
      cases b with
      | true =>
        rw [cond_true]
        exact ih _ _ (by omega) (by omega) (by omega) (by omega) (hb.1 rfl) hhi
      | false =>
        rw [cond_false]
        exact ih _ _ (by omega) (by omega) (by omega) (by omega) hlo (fun d hd hs => by
          have := hb.2 (hs.less hv (rdOk_of hr) (by omega) hd)
          cases this)
    · rw [decide_eq_false h, cond_false]
      exact ⟨lo, rfl, h0, hlo, fun d hd => hhi d (by omega)⟩

theorem itm_still {c : Chart} (hv : valid c = true) {r : Round} (hr : RdOk c r) (hat : r.At ≤ 1439) {v : Int} (h : Itm c r v) : v = 1 ↔ Still c r 0 := by
  obtain ⟨L1, L2, B1, B2, hv1⟩ := h
  have e : r.At + 0 = r.At := by omega
  constructor
  · intro h1
    refine ⟨by omega, L1, by rw [e]; exact B1, ?_⟩
    cases hb : allB L1 with
    | true => rfl
    | false =>
      rw [hb] at hv1
      cases hb2 : allB L2 <;> rw [hb2] at hv1 <;> simp at hv1 <;> omega
  · rintro ⟨_, L, B, hL⟩
    rw [e] at B
    rw [B1.unique B] at hv1
    rw [hv1, hL]; rfl

theorem ref_slack_go {fuel : Nat} (hf : 20000 ≤ fuel) {c : Chart} (hv : valid c = true) {r : Round} (hr : isRd c r = true) : ∀ (n : Nat) (lo hi : Int), (hi - lo).toNat < n → 0 ≤ lo → lo ≤ hi → r.At + hi ≤ 1439 → Still c r lo → (∀ d, hi < d → ¬ Still c r d) →
    ∃ m, loopGo ((fun (s8 : Int × Int) k8 => (bif (decide (s8.1 < s8.2)) then must (inI (s8.1 + s8.2)) <| must (inI ((s8.1 + s8.2) + 1)) <| must ((2 : Int) ≠ 0 ∧ inI (Int.tdiv ((s8.1 + s8.2) + 1) 2)) <| must (inI (r.At + (Int.tdiv ((s8.1 + s8.2) + 1) 2))) <| bindO (gasolierref03_inTime fuel c (⟨r.Place, (r.At + (Int.tdiv ((s8.1 + s8.2) + 1) 2)), r.Stops⟩ : Round)) fun y14 => (bif (decide (y14 = 1)) then k8 ((Int.tdiv ((s8.1 + s8.2) + 1) 2), s8.2) else must (inI ((Int.tdiv ((s8.1 + s8.2) + 1) 2) - 1)) <| k8 (s8.1, ((Int.tdiv ((s8.1 + s8.2) + 1) 2) - 1))) else some (s8.1, 0)))) n (lo, hi) = some ((m, 0) : Int × Int) ∧ Slk c r m := by
  have ok := rdOk_of hr
  obtain ⟨p1, p2, _, _⟩ := isRd_iff.1 hr
  intro n
  induction n with
  | zero => intro lo hi h; omega
  | succ n ih =>
    intro lo hi hn h0 h1 h2 hlo hhi
    rw [loopGo_succ]
    dsimp only
    by_cases h : lo < hi
    · have et : Int.tdiv (lo + hi + 1) 2 = (lo + hi + 1) / 2 := Int.tdiv_eq_ediv_of_nonneg (by omega)
      rw [decide_eq_true h, cond_true, must_pos (by unfold inI; omega), must_pos (by unfold inI; omega), et, must_pos (by unfold inI; omega), must_pos (by unfold inI; omega)]
      obtain ⟨v, e, hI⟩ := ref_inTime_eq hf hv (r := ⟨r.Place, r.At + (lo + hi + 1) / 2, r.Stops⟩) ⟨ok.pl, ⟨by show 0 ≤ r.At + (lo + hi + 1) / 2; omega, by show r.At + (lo + hi + 1) / 2 ≤ 100000; omega⟩, ok.len, ok.ok⟩
      have hs := itm_still hv (r := ⟨r.Place, r.At + (lo + hi + 1) / 2, r.Stops⟩) ⟨ok.pl, ⟨by show 0 ≤ r.At + (lo + hi + 1) / 2; omega, by show r.At + (lo + hi + 1) / 2 ≤ 100000; omega⟩, ok.len, ok.ok⟩ (by show r.At + (lo + hi + 1) / 2 ≤ 1439; omega) hI
      have hs2 : Still c ⟨r.Place, r.At + (lo + hi + 1) / 2, r.Stops⟩ 0 ↔ Still c r ((lo + hi + 1) / 2) := by
        unfold Still
        dsimp only
        rw [Int.add_zero]
      rw [hs2] at hs
      rw [e, bindO_some]
      by_cases h3 : v = 1
      · rw [decide_eq_true h3, cond_true]
        exact ih _ _ (by omega) (by omega) (by omega) (by omega) (hs.1 h3) hhi
      · rw [decide_eq_false h3, cond_false, must_pos (by unfold inI; omega)]
        exact ih _ _ (by omega) (by omega) (by omega) (by omega) hlo (fun d hd hS => h3 (hs.2 (hS.less hv ok (by omega) (by omega))))
    · rw [decide_eq_false h, cond_false]
      exact ⟨lo, rfl, h0, hlo, fun d hd => hhi d (by omega)⟩

/-- What Slack returns. -/
def SlkP (c : Chart) (r : Round) (x : Int × Int) : Prop := (rdE c r ≠ 0 ∧ x = (0, rdE c r)) ∨ (rdE c r = 0 ∧ ¬ Still c r 0 ∧ x = (0, 36)) ∨ (rdE c r = 0 ∧ Still c r 0 ∧ x.2 = 0 ∧ Slk c r x.1)

theorem SlkP.unique {c : Chart} {r : Round} {x x' : Int × Int} (h : SlkP c r x) (h' : SlkP c r x') : x = x' := by
  rcases h with ⟨h1, h2⟩ | ⟨h1, h2, h3⟩ | ⟨h1, h2, h3, h4⟩ <;> rcases h' with ⟨k1, k2⟩ | ⟨k1, k2, k3⟩ | ⟨k1, k2, k3, k4⟩
  · rw [h2, k2]
  · exact absurd k1 h1
  · exact absurd k1 h1
  · exact absurd h1 k1
  · rw [h3, k3]
  · exact absurd k2 h2
  · exact absurd h1 k1
  · exact absurd h2 k2
  · exact Prod.ext (h4.unique k4) (h3.trans k3.symm)

theorem slack_eq {fuel : Nat} (hf : 20000 ≤ fuel) (c : Chart) (r : Round) : ∃ x, round_Slack fuel c r = some x ∧ SlkP c r x := by
  unfold round_Slack
  rw [checkRound_eq, bindO_some]
  by_cases h : rdE c r = 0
  · obtain ⟨hv, hr⟩ := rdE_zero h
    rw [h, (by decide : decide ((0 : Int) = 0) = true), Bool.not_true, cond_false]
    obtain ⟨b, e, hb⟩ := slack1_eq (fuel := fuel) (by omega) hv hr (d := 0) (by omega) (by omega)
    rw [e, bindO_some]
    cases b with
    | false => exact ⟨(0, 36), rfl, .inr (.inl ⟨h, fun hs => (by have := hb.2 hs; cases this), rfl⟩)⟩
    | true =>
      rw [Bool.not_true, cond_false]
      obtain ⟨p1, p2, _, _⟩ := isRd_iff.1 hr
      obtain ⟨m, e2, hm⟩ := slack_go (fuel := fuel) (by omega) hv hr fuel 0 1440 (by omega) (by omega) (by omega) (by omega) (hb.1 rfl) (fun d hd hs => by have := hs.1; omega)
      exact ⟨(m, 0), e2, .inr (.inr ⟨h, hb.1 rfl, rfl, hm⟩)⟩
  · rw [decide_eq_false h, Bool.not_false, cond_true]
    exact ⟨_, rfl, .inl ⟨h, rfl⟩⟩

theorem ref_slack_eq {fuel : Nat} (hf : 20000 ≤ fuel) (c : Chart) (r : Round) : ∃ x, gasolierref03_Slack fuel c r = some x ∧ SlkP c r x := by
  unfold gasolierref03_Slack
  rw [ref_checkRound_eq (by omega), bindO_some]
  by_cases h : rdE c r = 0
  · obtain ⟨hv, hr⟩ := rdE_zero h
    have ok := rdOk_of hr
    obtain ⟨p1, p2, _, _⟩ := isRd_iff.1 hr
    rw [h, (by decide : decide ((0 : Int) = 0) = true), Bool.not_true, cond_false]
    obtain ⟨v, e, hI⟩ := ref_inTime_eq hf hv ok
    have hs := itm_still hv ok (by omega) hI
    rw [e, bindO_some]
    by_cases h3 : v = 1
    · rw [decide_eq_true h3, Bool.not_true, cond_false, must_pos (by unfold inI; omega)]
      obtain ⟨m, e2, hm⟩ := ref_slack_go hf hv hr fuel 0 (1439 - r.At) (by omega) (by omega) (by omega) (by omega) (hs.1 h3) (fun d hd hS => by have := hS.1; omega)
      exact ⟨(m, 0), e2, .inr (.inr ⟨h, hs.1 h3, rfl, hm⟩)⟩
    · rw [decide_eq_false h3, Bool.not_false, cond_true]
      exact ⟨(0, 36), rfl, .inr (.inl ⟨h, fun hS => h3 (hs.2 hS), rfl⟩)⟩
  · rw [decide_eq_false h, Bool.not_false, cond_true]
    exact ⟨_, rfl, .inl ⟨h, rfl⟩⟩

theorem roundRounds_true (c : Chart) (r : Round) : gasolierlaw03_RoundRounds 20000 c r = some true := by
  unfold gasolierlaw03_RoundRounds
  obtain ⟨x, h1, h2, h3⟩ := Begins_eq (Nat.le_refl 20000) c r
  obtain ⟨y, k1, k2, _⟩ := InTime_eq (Nat.le_refl 20000) c r
  obtain ⟨z, m1, m2⟩ := slack_eq (Nat.le_refl 20000) c r
  obtain ⟨z', m3, m4⟩ := ref_slack_eq (Nat.le_refl 20000) c r
  have e := m2.unique m4
  subst e
  rw [sane_ok, h1, h2, k1, k2, m1, m3]
  simp only [bindO_some]
  rw [same_self (by omega) x.1 h3.small]
  simp only [bindO_some]
  rw [checkRound_eq, ref_checkRound_eq (by omega)]
  simp [bindO_some]

/-! ### Without a way -/
theorem less_ways (c : Chart) (i : Nat) : ∀ w ∈ (less c i).Ways, w ∈ c.Ways := by
  intro w hw
  unfold less at hw
  rcases List.mem_append.1 hw with h | h
  · exact List.mem_of_mem_take h
  · exact List.mem_of_mem_drop h

theorem less_valid {c : Chart} (hv : valid c = true) (i : Nat) : valid (less c i) = true := by
  obtain ⟨h1, h2, h3⟩ := valid_iff.1 hv
  refine valid_iff.2 ⟨h1, by simp [less]; omega, fun w hw => ?_⟩
  have := h3 w (less_ways c i w hw)
  exact this

theorem less_rd (c : Chart) (i : Nat) (r : Round) : isRd (less c i) r = isRd c r := rfl

/-- The rounds that are answered otherwise. -/
def Mvd (c c' : Chart) : List Round → Nat → List Int → Prop
  | [], _, R => R = []
  | r :: l, i, R => ∃ v w R', Itm c r v ∧ Itm c' r w ∧ Mvd c c' l (i + 1) R' ∧ R = if v = w then R' else (i : Int) :: R'

theorem Mvd.unique {c c' : Chart} : ∀ {l : List Round} {i : Nat} {R R' : List Int}, Mvd c c' l i R → Mvd c c' l i R' → R = R'
  | [], _, _, _, h, h' => h.trans h'.symm
  | r :: l, i, R, R', ⟨v, w, Q, h1, h2, h3, h4⟩, ⟨v', w', Q', k1, k2, k3, k4⟩ => by
    rw [h4, k4, h1.unique k1, h2.unique k2, Mvd.unique h3 k3]

theorem Mvd.len {c c' : Chart} : ∀ {l : List Round} {i : Nat} {R : List Int}, Mvd c c' l i R → R.length ≤ l.length
  | [], _, _, h => by rw [h]; simp
  | r :: l, i, R, ⟨v, w, Q, _, _, h3, h4⟩ => by
    have := h3.len
    rw [h4]
    split
    · simp; omega
    · simp; omega

theorem moved_go {fuel : Nat} (hf : 41 ≤ fuel) {c c' : Chart} (hv : valid c = true) (hv' : valid c' = true) (l : List Round) (hl : ∀ r ∈ l, isRd c r = true ∧ isRd c' r = true) (hn : l.length ≤ 12) : ∀ (n i : Nat), i + n = l.length → ∀ R : List Int, R.length ≤ i →
    ∃ R', Mvd c c' (l.drop i) i R' ∧ rangeGo ((fun i10 (s10 : (List Int)) k10 => bindO (round_inTime fuel c (l.getD i10 default)) fun y12 => bindO (round_inTime fuel c' (l.getD i10 default)) fun y14 => (bif (!decide (y12 = y14)) then must (room (s10 ++ ([(i10 : Int)] : List Int)).length 8) <| k10 (s10 ++ ([(i10 : Int)] : List Int)) else k10 s10))) (fun (s10 : (List Int)) => some (s10, (0 : Int))) n i R = some (R ++ R', 0) := by
  intro n
  induction n with
  | zero =>
    intro i hi R hR
    rw [List.drop_eq_nil_of_le (by omega)]
    exact ⟨[], rfl, by rw [List.append_nil]; rfl⟩
  | succ n ih =>
    intro i hi R hR
    have hlt : i < l.length := by omega
    rw [drop_get hlt, rangeGo_succ]
    generalize hr : l.getD i default = r
    have hm : r ∈ l := by rw [← hr, List.getD_eq_getElem?_getD, List.getElem?_eq_getElem hlt]; exact List.getElem_mem _
    obtain ⟨v, e1, I1⟩ := inTime_eq hf hv (rdOk_of (hl r hm).1)
    obtain ⟨w, e2, I2⟩ := inTime_eq hf hv' (rdOk_of (hl r hm).2)
    rw [e1, bindO_some, e2, bindO_some]
    by_cases h : v = w
    · rw [decide_eq_true h, Bool.not_true, cond_false]
      obtain ⟨R', h1, h2⟩ := ih (i + 1) (by omega) R (by omega)
      exact ⟨R', ⟨v, w, R', I1, I2, h1, by rw [if_pos h]⟩, h2⟩
    · rw [decide_eq_false h, Bool.not_false, cond_true, must_pos (room_small (by simp; omega) (by omega))]
      obtain ⟨R', h1, h2⟩ := ih (i + 1) (by omega) (R ++ [(i : Int)]) (by simp; omega)
      exact ⟨(i : Int) :: R', ⟨v, w, R', I1, I2, h1, by rw [if_neg h]⟩, by rw [h2, List.append_assoc]; rfl⟩

/-- What Moved returns. -/
def MvdP (c : Chart) (i : Int) (l : List Round) (x : List Int × Int) : Prop :=
  (valid c = false ∧ x = ([], 31)) ∨ (valid c = true ∧ ¬ (0 ≤ i ∧ i < c.Ways.length) ∧ x = ([], 1)) ∨ (valid c = true ∧ (0 ≤ i ∧ i < c.Ways.length) ∧
    ((12 < l.length ∧ x = ([], 2)) ∨ (l.length ≤ 12 ∧ ((l.all (isRd c) = false ∧ x = ([], 33)) ∨ (l.all (isRd c) = true ∧ x.2 = 0 ∧ Mvd c (less c i.toNat) l 0 x.1)))))

theorem MvdP.unique {c : Chart} {i : Int} {l : List Round} {x x' : List Int × Int} (h : MvdP c i l x) (h' : MvdP c i l x') : x = x' := by
  rcases h with ⟨h1, h2⟩ | ⟨h1, h2, h3⟩ | ⟨h1, h2, h3⟩ <;> rcases h' with ⟨k1, k2⟩ | ⟨k1, k2, k3⟩ | ⟨k1, k2, k3⟩
  · rw [h2, k2]
  · rw [h1] at k1; cases k1
  · rw [h1] at k1; cases k1
  · rw [h1] at k1; cases k1
  · rw [h3, k3]
  · exact absurd k2 h2
  · rw [h1] at k1; cases k1
  · exact absurd h2 k2
  · rcases h3 with ⟨h3, h4⟩ | ⟨h3, h4⟩ <;> rcases k3 with ⟨k3, k4⟩ | ⟨k3, k4⟩
    · rw [h4, k4]
    · omega
    · omega
    · rcases h4 with ⟨h4, h5⟩ | ⟨h4, h5, h6⟩ <;> rcases k4 with ⟨k4, k5⟩ | ⟨k4, k5, k6⟩
      · rw [h5, k5]
      · rw [h4] at k4; cases k4
      · rw [h4] at k4; cases k4
      · exact Prod.ext (h6.unique k6) (h5.trans k5.symm)

theorem MvdP.small {c : Chart} {i : Int} {l : List Round} {x : List Int × Int} (h : MvdP c i l x) : x.1.length ≤ 1000 := by
  rcases h with ⟨_, h2⟩ | ⟨_, _, h2⟩ | ⟨_, _, ⟨_, h2⟩ | ⟨h3, ⟨_, h2⟩ | ⟨_, _, h4⟩⟩⟩
  · rw [h2]; simp
  · rw [h2]; simp
  · rw [h2]; simp
  · rw [h2]; simp
  · have := h4.len; omega

theorem moved_eq {fuel : Nat} (hf : 41 ≤ fuel) (c : Chart) (i : Int) (l : List Round) : ∃ x, round_Moved fuel c i l = some x ∧ MvdP c i l x := by
  unfold round_Moved
  rw [wayOf_eq, bindO_some]
  cases hv : valid c with
  | false => exact ⟨_, rfl, .inl ⟨hv, rfl⟩⟩
  | true =>
    have hl40 := (valid_iff.1 hv).2.1
    rw [cond_true]
    by_cases hi : 0 ≤ i ∧ i < ((c.Ways.length : Nat) : Int)
    · rw [decide_eq_true hi, cond_true, (by decide : decide ((0 : Int) = 0) = true), Bool.not_true, cond_false]
      by_cases hl : 12 < l.length
      · rw [decide_eq_true (by omega : (12 : Int) < ((l.length : Nat) : Int)), cond_true]
        exact ⟨_, rfl, .inr (.inr ⟨hv, hi, .inl ⟨hl, rfl⟩⟩)⟩
      · rw [decide_eq_false (by omega : ¬ (12 : Int) < ((l.length : Nat) : Int)), cond_false, containsRound l (fun r => !isRd c r) (fun x0 => round_Moved_1 x0 c) (fun r _ => by
          unfold round_Moved_1
          rw [round_isRound_eq hv, bindO_some]), bindO_some, any_not]
        cases ha : l.all (isRd c) with
        | false => exact ⟨_, rfl, .inr (.inr ⟨hv, hi, .inr ⟨by omega, .inl ⟨ha, rfl⟩⟩⟩)⟩
        | true =>
          rw [Bool.not_true, cond_false, round_without_eq c i hi.1 hi.2 hl40, bindO_some]
          rw [List.all_eq_true] at ha
          obtain ⟨R, h1, h2⟩ := moved_go hf hv (less_valid hv i.toNat) l (fun r hr => ⟨ha r hr, ha r hr⟩) (by omega) l.length 0 (by omega) [] (by simp)
          exact ⟨_, h2, .inr (.inr ⟨hv, hi, .inr ⟨by omega, .inr ⟨List.all_eq_true.2 ha, rfl, h1⟩⟩⟩)⟩
    · rw [decide_eq_false hi, cond_false]
      exact ⟨_, rfl, .inr (.inl ⟨hv, hi, rfl⟩)⟩

theorem ref_moved_go {fuel : Nat} (hf : 20000 ≤ fuel) {c : Chart} (y1 : Chart × Int) (hv : valid c = true) (hv' : valid y1.1 = true) (l : List Round) (hl : ∀ r ∈ l, isRd y1.1 r = isRd c r) (hn : l.length ≤ 12) : ∀ (n i : Nat), i ≤ l.length → l.length - i < n → ∀ R : List Int, R.length ≤ i →
    ((l.drop i).all (isRd c) = false ∧ loopGo ((fun (s5 : Int × (List Int)) k5 => (bif (decide (s5.1 < ((l.length : Nat) : Int))) then must (0 ≤ (s5.1 : Int) ∧ (s5.1 : Int) < ((l.length : Nat) : Int)) <| bindO (gasolierref03_isRound fuel c (l.getD (s5.1).toNat default)) fun y8 => (bif (!y8) then some ([], 33) else must (0 ≤ (s5.1 : Int) ∧ (s5.1 : Int) < ((l.length : Nat) : Int)) <| bindO (gasolierref03_inTime fuel c (l.getD (s5.1).toNat default)) fun y12 => must (0 ≤ (s5.1 : Int) ∧ (s5.1 : Int) < ((l.length : Nat) : Int)) <| bindO (gasolierref03_inTime fuel y1.1 (l.getD (s5.1).toNat default)) fun y15 => (bif (!decide (y12 = y15)) then must (room (s5.2 ++ ([s5.1] : List Int)).length 8) <| must (inI (s5.1 + 1)) <| k5 ((s5.1 + 1), (s5.2 ++ ([s5.1] : List Int))) else must (inI (s5.1 + 1)) <| k5 ((s5.1 + 1), s5.2))) else some (s5.2, 0)))) n ((i : Int), R) = some (([] : List Int), (33 : Int))) ∨ ((l.drop i).all (isRd c) = true ∧ ∃ R', Mvd c y1.1 (l.drop i) i R' ∧ loopGo ((fun (s5 : Int × (List Int)) k5 => (bif (decide (s5.1 < ((l.length : Nat) : Int))) then must (0 ≤ (s5.1 : Int) ∧ (s5.1 : Int) < ((l.length : Nat) : Int)) <| bindO (gasolierref03_isRound fuel c (l.getD (s5.1).toNat default)) fun y8 => (bif (!y8) then some ([], 33) else must (0 ≤ (s5.1 : Int) ∧ (s5.1 : Int) < ((l.length : Nat) : Int)) <| bindO (gasolierref03_inTime fuel c (l.getD (s5.1).toNat default)) fun y12 => must (0 ≤ (s5.1 : Int) ∧ (s5.1 : Int) < ((l.length : Nat) : Int)) <| bindO (gasolierref03_inTime fuel y1.1 (l.getD (s5.1).toNat default)) fun y15 => (bif (!decide (y12 = y15)) then must (room (s5.2 ++ ([s5.1] : List Int)).length 8) <| must (inI (s5.1 + 1)) <| k5 ((s5.1 + 1), (s5.2 ++ ([s5.1] : List Int))) else must (inI (s5.1 + 1)) <| k5 ((s5.1 + 1), s5.2))) else some (s5.2, 0)))) n ((i : Int), R) = some (R ++ R', (0 : Int))) := by
  intro n
  induction n with
  | zero => intro i _ h; omega
  | succ n ih =>
    intro i hi hn' R hR
    rw [loopGo_succ]
    dsimp only
    by_cases hlt : i < l.length
    · have e0 : ((i : Nat) : Int).toNat = i := by omega
      rw [drop_get hlt, e0]
      generalize hr : l.getD i default = r
      have hm : r ∈ l := by rw [← hr, List.getD_eq_getElem?_getD, List.getElem?_eq_getElem hlt]; exact List.getElem_mem _
      rw [decide_eq_true (by omega : ((i : Nat) : Int) < l.length), cond_true, must_pos (by omega), ref_isRound_eq (by omega) hv, bindO_some, List.all_cons]
      cases hrd : isRd c r with
      | false => exact .inl ⟨rfl, rfl⟩
      | true =>
        rw [Bool.not_true, cond_false, must_pos (by omega), Bool.true_and]
        obtain ⟨v, e1, I1⟩ := ref_inTime_eq hf hv (rdOk_of hrd)
        obtain ⟨w, e2, I2⟩ := ref_inTime_eq hf hv' (rdOk_of ((hl r hm).trans hrd))
        rw [e1, bindO_some, must_pos (by omega), e2, bindO_some]
        by_cases h : v = w
        · rw [decide_eq_true h, Bool.not_true, cond_false, must_pos (by unfold inI; omega)]
          rcases ih (i + 1) (by omega) (by omega) R (by omega) with ⟨h1, h2⟩ | ⟨h1, R', h2, h3⟩
          · exact .inl ⟨h1, h2⟩
          · exact .inr ⟨h1, R', ⟨v, w, R', I1, I2, h2, by rw [if_pos h]⟩, h3⟩
        · rw [decide_eq_false h, Bool.not_false, cond_true, must_pos (room_small (by simp; omega) (by omega)), must_pos (by unfold inI; omega)]
          rcases ih (i + 1) (by omega) (by omega) (R ++ [(i : Int)]) (by simp; omega) with ⟨h1, h2⟩ | ⟨h1, R', h2, h3⟩
          · exact .inl ⟨h1, h2⟩
          · exact .inr ⟨h1, (i : Int) :: R', ⟨v, w, R', I1, I2, h2, by rw [if_neg h]⟩, h3.trans (by rw [List.append_assoc]; rfl)⟩
    · right
      rw [List.drop_eq_nil_of_le (by omega), decide_eq_false (by omega : ¬ ((i : Nat) : Int) < l.length), cond_false]
      exact ⟨rfl, [], rfl, by rw [List.append_nil]⟩

theorem ref_moved_eq {fuel : Nat} (hf : 20000 ≤ fuel) (c : Chart) (i : Int) (l : List Round) : ∃ x, gasolierref03_Moved fuel c i l = some x ∧ MvdP c i l x := by
  unfold gasolierref03_Moved gasolierref03_Without
  rw [ref_Check_eq (by omega), bindO_some]
  cases hv : valid c with
  | false => exact ⟨_, rfl, .inl ⟨hv, rfl⟩⟩
  | true =>
    have hl40 := (valid_iff.1 hv).2.1
    rw [cond_true, (by decide : decide ((0 : Int) = 0) = true), Bool.not_true, cond_false, must_pos (by unfold inI; omega)]
    have ein : gasolierref03_In i 0 (((c.Ways.length : Nat) : Int) - 1) = decide (0 ≤ i ∧ i < c.Ways.length) := by
      unfold gasolierref03_In
      rw [Bool.eq_iff_iff]; simp; omega
    rw [ein]
    by_cases hi : 0 ≤ i ∧ i < ((c.Ways.length : Nat) : Int)
    · rw [decide_eq_true hi, Bool.not_true, cond_false, ref_without_eq c i hi.1 hi.2 hl40, bindO_some, bindO_some, (by rfl : decide ((less c i.toNat, (0 : Int)).2 = 0) = true), Bool.not_true, cond_false]
      by_cases hl : 12 < l.length
      · rw [decide_eq_true (by omega : (12 : Int) < ((l.length : Nat) : Int)), cond_true]
        exact ⟨_, rfl, .inr (.inr ⟨hv, hi, .inl ⟨hl, rfl⟩⟩)⟩
      · rw [decide_eq_false (by omega : ¬ (12 : Int) < ((l.length : Nat) : Int)), cond_false]
        rcases ref_moved_go hf (c := c) (less c i.toNat, 0) hv (less_valid hv i.toNat) l (fun r _ => rfl) (by omega) fuel 0 (by omega) (by omega) [] (by simp) with ⟨h1, h2⟩ | ⟨h1, R, h2, h3⟩
        · exact ⟨_, h2, .inr (.inr ⟨hv, hi, .inr ⟨by omega, .inl ⟨h1, rfl⟩⟩⟩)⟩
        · exact ⟨_, h3, .inr (.inr ⟨hv, hi, .inr ⟨by omega, .inr ⟨h1, rfl, h2⟩⟩⟩)⟩
    · rw [decide_eq_false hi, Bool.not_false, cond_true, bindO_some]
      exact ⟨_, rfl, .inr (.inl ⟨hv, hi, rfl⟩)⟩

theorem roundMoves_true (c : Chart) (i : Int) (l : List Round) : gasolierlaw03_RoundMoves 20000 c i l = some true := by
  unfold gasolierlaw03_RoundMoves
  obtain ⟨z, m1, m2⟩ := moved_eq (fuel := 20000) (by omega) c i l
  obtain ⟨z', m3, m4⟩ := ref_moved_eq (Nat.le_refl 20000) c i l
  have e := m2.unique m4
  subst e
  rw [sane_ok, m1, m3]
  simp only [bindO_some]
  rw [same_self (by omega) z.1 m2.small]
  simp [bindO_some]

end Go.Sp
