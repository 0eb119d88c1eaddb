/- Plain laws: charts. No program in sight. -/
import Derived.Test.YtjeolkdhicmhgaaRTSpec
import Derived.KernelRfl
set_option linter.all false
namespace Go.Sp
open Go.Av

theorem bindO_some {S R : Type} (s : S) (k : S → Option R) : bindO (some s) k = k s := rfl
theorem must_pos {R : Type} {c : Prop} [Decidable c] (h : c) (x : Option R) : must c x = x := if_pos h

theorem drop_get {T : Type} [Inhabited T] {l : List T} {i : Nat} (h : i < l.length) : l.drop i = l.getD i default :: l.drop (i + 1) := by
  rw [List.getD_eq_getElem?_getD, List.getElem?_eq_getElem h]
  simp

theorem room_small {n b : Nat} (hn : n ≤ 1000) (hb : b ≤ 1000) : room n b := by
  unfold room
  have : n * b ≤ 1000 * 1000 := Nat.mul_le_mul hn hb
  omega

theorem index_go {T : Type} [Inhabited T] (l : List T) (g : T → Bool) : ∀ n i, i + n = l.length →
    ∃ z : Int, rangeGo (fun i1 (_ : Unit) k1 => bindO (some (g (l.getD i1 default))) fun y3 => (bif y3 then some (i1 : Int) else k1 ())) (fun (_ : Unit) => some (-1)) n i () = some z ∧ (decide (0 ≤ z)) = (l.drop i).any g := by
  intro n
  induction n with
  | zero =>
    intro i hi
    refine ⟨-1, rfl, ?_⟩
    rw [List.drop_eq_nil_of_le (by omega)]; rfl
  | succ n ih =>
    intro i hi
    rw [drop_get (by omega), List.any_cons]
    show ∃ z : Int, (bif g (l.getD i default) then some (i : Int) else _) = some z ∧ _
    cases hg : g (l.getD i default) with
    | true => exact ⟨i, rfl, by simp⟩
    | false =>
      obtain ⟨z, h1, h2⟩ := ih (i + 1) (by omega)
      exact ⟨z, h1, by rw [h2]; rfl⟩

theorem containsWay (l : List Way) (g : Way → Bool) : slices_ContainsFunc_Way l (fun x => some (g x)) = some (l.any g) := by
  obtain ⟨z, h1, h2⟩ := index_go l g l.length 0 (by omega)
  show bindO (slices_IndexFunc_Way l _) _ = _
  unfold slices_IndexFunc_Way
  rw [h1, bindO_some, h2, List.drop_zero]

theorem joins_eq (c : Chart) (w : Way) : gasolierref03_fits c w = round_joins c w := by
  unfold gasolierref03_fits round_joins gasolierref03_CheckWay round_isWay round_isSpan round_within gasolierref03_In
  rw [Bool.eq_iff_iff]
  by_cases h : (((((((!(decide ((0 : Int) ≤ w.From) && decide (w.From ≤ 11)) || !(decide (0 ≤ w.To) && decide (w.To ≤ 11))) || decide (w.From = w.To)) || !(decide (1 ≤ w.Takes.Lo) && decide (w.Takes.Lo ≤ w.Takes.Hi))) || decide (600 < w.Takes.Hi)) || !(decide (0 ≤ w.Open.Lo) && decide (w.Open.Lo ≤ w.Open.Hi))) || decide (1439 < w.Open.Hi)) || !(decide (0 ≤ w.Every) && decide (w.Every ≤ 600))) = true
  · rw [h]
    simp only [Bool.and_eq_true, Bool.or_eq_true, Bool.not_eq_true', decide_eq_true_eq, Bool.and_eq_false_iff, decide_eq_false_iff_not, cond_true] at h ⊢
    omega
  · rw [Bool.not_eq_true] at h
    rw [h]
    simp only [Bool.and_eq_true, Bool.or_eq_false_iff, Bool.not_eq_false', Bool.not_eq_true', decide_eq_true_eq, decide_eq_false_iff_not, cond_false] at h ⊢
    constructor
    · intro h2; omega
    · intro h2; exact ⟨⟨trivial, h2.1.2⟩, h2.2⟩

def valid (c : Chart) : Bool := (decide (1 ≤ c.Places) && decide (c.Places ≤ 12)) && decide (c.Ways.length ≤ 40) && c.Ways.all (round_joins c)

theorem valid_iff {c : Chart} : valid c = true ↔ (1 ≤ c.Places ∧ c.Places ≤ 12) ∧ c.Ways.length ≤ 40 ∧ ∀ w ∈ c.Ways, round_joins c w = true := by
  simp [valid, and_assoc]

theorem any_not {T : Type} (l : List T) (g : T → Bool) : l.any (fun x => !g x) = !l.all g := by
  induction l with
  | nil => rfl
  | cons x l ih => rw [List.any_cons, List.all_cons, ih]; cases g x <;> rfl

theorem round_Check_eq (c : Chart) : round_Check c = some (bif valid c then 0 else 31) := by
  unfold round_Check valid round_within
  have e : (fun x0 => some (round_Check_1 x0 c)) = (fun x0 => some ((fun x => !round_joins c x) x0)) := rfl
  rw [e, containsWay, any_not]
  have e2 : decide (40 < ((c.Ways.length : Nat) : Int)) = !decide (c.Ways.length ≤ 40) := by
    rw [Bool.eq_iff_iff]; simp; omega
  rw [e2]
  cases (decide (1 ≤ c.Places) && decide (c.Places ≤ 12)) <;> cases decide (c.Ways.length ≤ 40) <;> cases c.Ways.all (round_joins c) <;> rfl

theorem ref_Check_go (c : Chart) (hl : c.Ways.length ≤ 40) : ∀ n (i : Nat), i ≤ c.Ways.length → c.Ways.length - i < n →
    loopGo (fun (s2 : Int) k2 => (bif (decide (s2 < ((c.Ways.length : Nat) : Int))) then must (0 ≤ (s2 : Int) ∧ (s2 : Int) < ((c.Ways.length : Nat) : Int)) <| (bif (!(gasolierref03_fits c (c.Ways.getD (s2).toNat default))) then some 31 else must (inI (s2 + 1)) <| k2 (s2 + 1)) else some (0 : Int))) n (i : Int)
      = some (bif (c.Ways.drop i).all (round_joins c) then 0 else 31) := by
  intro n
  induction n with
  | zero => intro i _ h; omega
  | succ n ih =>
    intro i hi hn
    unfold loopGo
    by_cases hlt : i < c.Ways.length
    · rw [decide_eq_true (by omega : ((i : Nat) : Int) < c.Ways.length), cond_true, must_pos (by omega), joins_eq, drop_get hlt, List.all_cons]
      simp only [Int.toNat_natCast]
      cases round_joins c (c.Ways.getD i default) with
      | false => rfl
      | true =>
        rw [Bool.not_true, cond_false, must_pos (by unfold inI; omega), Bool.true_and]
        exact ih (i + 1) (by omega) (by omega)
    · rw [decide_eq_false (by omega : ¬ ((i : Nat) : Int) < c.Ways.length), cond_false, List.drop_eq_nil_of_le (by omega)]
      rfl

theorem ref_Check_eq {fuel : Nat} (hf : 41 ≤ fuel) (c : Chart) : gasolierref03_Check fuel c = some (bif valid c then 0 else 31) := by
  unfold gasolierref03_Check valid gasolierref03_In
  have e2 : decide (40 < ((c.Ways.length : Nat) : Int)) = !decide (c.Ways.length ≤ 40) := by
    rw [Bool.eq_iff_iff]; simp; omega
  rw [e2]
  cases (decide (1 ≤ c.Places) && decide (c.Places ≤ 12)) with
  | false => rfl
  | true =>
    by_cases h : c.Ways.length ≤ 40
    · rw [decide_eq_true h]
      have := ref_Check_go c h fuel 0 (by omega) (by omega)
      simpa using this
    · rw [decide_eq_false h]; rfl

theorem checkWay_eq (w : Way) : round_CheckWay w = gasolierref03_CheckWay w := by
  unfold round_CheckWay
  have h := joins_eq ⟨12, []⟩ w
  unfold gasolierref03_fits round_joins at h
  have hp : round_isWay w = true → w.From < 12 ∧ w.To < 12 := by
    unfold round_isWay round_within
    simp only [Bool.and_eq_true, decide_eq_true_eq]
    omega
  have hq : gasolierref03_CheckWay w = 0 → w.From < 12 ∧ w.To < 12 := by
    intro h0
    unfold gasolierref03_CheckWay at h0
    cases hb : ((((((((!(gasolierref03_In w.From 0 11)) || (!(gasolierref03_In w.To 0 11))) || (decide (w.From = w.To))) || (!(gasolierref03_In w.Takes.Lo 1 w.Takes.Hi))) || (decide (600 < w.Takes.Hi))) || (!(gasolierref03_In w.Open.Lo 0 w.Open.Hi))) || (decide (1439 < w.Open.Hi))) || (!(gasolierref03_In w.Every 0 600))) with
    | true => rw [hb] at h0; simp at h0
    | false =>
      simp only [gasolierref03_In, Bool.or_eq_false_iff, Bool.not_eq_false', Bool.and_eq_true, decide_eq_true_eq] at hb
      omega
  have h30 : gasolierref03_CheckWay w = 0 ∨ gasolierref03_CheckWay w = 30 := by
    unfold gasolierref03_CheckWay
    cases ((((((((!(gasolierref03_In w.From 0 11)) || (!(gasolierref03_In w.To 0 11))) || (decide (w.From = w.To))) || (!(gasolierref03_In w.Takes.Lo 1 w.Takes.Hi))) || (decide (600 < w.Takes.Hi))) || (!(gasolierref03_In w.Open.Lo 0 w.Open.Hi))) || (decide (1439 < w.Open.Hi))) || (!(gasolierref03_In w.Every 0 600))) <;> simp
  rcases h30 with h0 | h0
  · obtain ⟨h1, h2⟩ := hq h0
    rw [h0, decide_eq_true h1, decide_eq_true h2] at h
    have : round_isWay w = true := by simpa using h
    rw [this, h0]; rfl
  · rw [h0] at h
    cases hw : round_isWay w with
    | false => rw [h0]; rfl
    | true =>
      obtain ⟨h1, h2⟩ := hp hw
      rw [hw, decide_eq_true h1, decide_eq_true h2] at h
      simp at h

theorem checkStop_eq (s : Stop) : round_CheckStop s = gasolierref03_CheckStop s := by
  unfold round_CheckStop gasolierref03_CheckStop round_isStop round_isSpan round_within gasolierref03_In
  congr 1
  rw [Bool.eq_iff_iff]
  simp only [Bool.and_eq_true, Bool.or_eq_true, Bool.not_eq_true', decide_eq_true_eq, Bool.and_eq_false_iff, decide_eq_false_iff_not]
  omega

theorem sameChart_go (a : Chart) (hl : a.Ways.length ≤ 1000) : ∀ n (i : Nat), i ≤ a.Ways.length → a.Ways.length - i < n →
    loopGo (fun (s1 : Bool × Int) k1 => (bif ((decide (s1.2 < ((a.Ways.length : Nat) : Int))) && s1.1) then must (0 ≤ (s1.2 : Int) ∧ (s1.2 : Int) < ((a.Ways.length : Nat) : Int)) <| must (0 ≤ (s1.2 : Int) ∧ (s1.2 : Int) < ((a.Ways.length : Nat) : Int)) <| must (inI (s1.2 + 1)) <| k1 (((decide ((a.Ways.getD (s1.2).toNat default).From = (a.Ways.getD (s1.2).toNat default).From)) && ((decide ((a.Ways.getD (s1.2).toNat default).To = (a.Ways.getD (s1.2).toNat default).To)) && (((decide ((a.Ways.getD (s1.2).toNat default).Takes.Lo = (a.Ways.getD (s1.2).toNat default).Takes.Lo)) && (decide ((a.Ways.getD (s1.2).toNat default).Takes.Hi = (a.Ways.getD (s1.2).toNat default).Takes.Hi))) && (((decide ((a.Ways.getD (s1.2).toNat default).Open.Lo = (a.Ways.getD (s1.2).toNat default).Open.Lo)) && (decide ((a.Ways.getD (s1.2).toNat default).Open.Hi = (a.Ways.getD (s1.2).toNat default).Open.Hi))) && (decide ((a.Ways.getD (s1.2).toNat default).Every = (a.Ways.getD (s1.2).toNat default).Every)))))), (s1.2 + 1)) else some s1.1)) n (true, (i : Int)) = some true := by
  intro n
  induction n with
  | zero => intro i _ h; omega
  | succ n ih =>
    intro i hi hn
    unfold loopGo
    by_cases hlt : i < a.Ways.length
    · simp only [decide_eq_true (by omega : ((i : Nat) : Int) < a.Ways.length), Bool.and_self, cond_true]
      rw [must_pos (by omega), must_pos (by omega), must_pos (by unfold inI; omega)]
      have h2 := ih (i + 1) (by omega) (by omega)
      simp only [decide_true, Bool.and_self] at h2 ⊢
      exact h2
    · simp only [decide_eq_false (by omega : ¬ ((i : Nat) : Int) < a.Ways.length), Bool.false_and, cond_false]

theorem sameChart_self {fuel : Nat} (hf : 1001 ≤ fuel) (a : Chart) (hl : a.Ways.length ≤ 1000) : gasolierref03_SameChart fuel a a = some true := by
  unfold gasolierref03_SameChart
  have := sameChart_go a hl fuel 0 (by omega) (by omega)
  simpa using this

theorem with_eq {fuel : Nat} (hf : 41 ≤ fuel) (c : Chart) (w : Way) : ∃ r, round_With c w = some r ∧ gasolierref03_With fuel c w = some r ∧ r.1.Ways.length ≤ 1000 := by
  unfold round_With gasolierref03_With
  rw [round_Check_eq, ref_Check_eq hf]
  simp only [bindO_some]
  cases hv : valid c with
  | false => exact ⟨(⟨0, []⟩, 31), rfl, rfl, by simp⟩
  | true =>
    rw [joins_eq]
    obtain ⟨_, hlen, _⟩ := valid_iff.1 hv
    cases hj : round_joins c w with
    | false => exact ⟨(⟨0, []⟩, 30), rfl, rfl, by simp⟩
    | true =>
      by_cases h40 : c.Ways.length = 40
      · rw [decide_eq_true (by omega : ((c.Ways.length : Nat) : Int) = 40)]
        exact ⟨(⟨0, []⟩, 2), rfl, rfl, by simp⟩
      · rw [decide_eq_false (by omega : ¬ ((c.Ways.length : Nat) : Int) = 40)]
        refine ⟨(⟨c.Places, c.Ways ++ [w]⟩, 0), ?_, ?_, by simp; omega⟩
        · unfold slices_Clone_Way
          rw [must_pos (room_small (by simp; omega) (by omega))]
          simp only [List.nil_append, bindO_some]
          simp only [must_pos (room_small (n := (c.Ways ++ [w]).length) (b := 56) (by simp; omega) (by omega))]
          rfl
        · simp only [List.nil_append]
          simp only [must_pos (room_small (n := (c.Ways ++ [w]).length) (b := 56) (by simp; omega) (by omega)), must_pos (room_small (n := c.Ways.length) (b := 56) (by omega) (by omega))]
          rfl

theorem wayOf_eq (c : Chart) (i : Int) : round_wayOf c i = some (bif valid c then (bif decide (0 ≤ i ∧ i < c.Ways.length) then 0 else 1) else 31) := by
  unfold round_wayOf
  rw [round_Check_eq, bindO_some]
  cases hv : valid c with
  | false => rfl
  | true =>
    obtain ⟨_, hlen, _⟩ := valid_iff.1 hv
    simp only [cond_true, decide_true, Bool.not_true, cond_false]
    rw [must_pos (by unfold inI; omega)]
    have : round_within i 0 (((c.Ways.length : Nat) : Int) - 1) = decide (0 ≤ i ∧ i < c.Ways.length) := by
      unfold round_within
      rw [Bool.eq_iff_iff]; simp; omega
    rw [this]
    cases decide (0 ≤ i ∧ i < ((c.Ways.length : Nat) : Int)) <;> rfl

/-- A chart without a way. -/
def less (c : Chart) (i : Nat) : Chart := ⟨c.Places, c.Ways.take i ++ c.Ways.drop (i + 1)⟩

theorem round_without_eq (c : Chart) (i : Int) (h0 : 0 ≤ i) (h1 : i < c.Ways.length) (hl : c.Ways.length ≤ 40) : round_without c i = some (less c i.toNat) := by
  unfold round_without slices_Clone_Way slices_Delete_Way
  rw [must_pos (room_small (by simp; omega) (by omega))]
  simp only [List.nil_append, bindO_some]
  rw [must_pos (by unfold inI; omega), must_pos (by omega), decide_eq_false (by omega), cond_false, must_pos (by omega), must_pos (by omega), must_pos (by omega), must_pos (by simp; omega)]
  have : (i + 1).toNat = i.toNat + 1 := by omega
  rw [this]
  rfl

theorem ref_without_eq (c : Chart) (i : Int) (h0 : 0 ≤ i) (h1 : i < c.Ways.length) (hl : c.Ways.length ≤ 40) : gasolierref03_without c i = some (less c i.toNat) := by
  unfold gasolierref03_without
  rw [must_pos (by omega), must_pos (room_small (by simp; omega) (by omega)), must_pos (by unfold inI; omega), must_pos (by omega), must_pos (room_small (by simp; omega) (by omega))]
  have : (i + 1).toNat = i.toNat + 1 := by omega
  rw [this]
  rfl

theorem without_eq {fuel : Nat} (hf : 41 ≤ fuel) (c : Chart) (i : Int) : ∃ r, round_Without c i = some r ∧ gasolierref03_Without fuel c i = some r ∧ r.1.Ways.length ≤ 1000 := by
  unfold round_Without gasolierref03_Without
  rw [wayOf_eq, ref_Check_eq hf]
  simp only [bindO_some]
  cases hv : valid c with
  | false => exact ⟨(⟨0, []⟩, 31), rfl, rfl, by simp⟩
  | true =>
    obtain ⟨_, hlen, _⟩ := valid_iff.1 hv
    simp only [cond_true, decide_true, Bool.not_true, cond_false]
    rw [must_pos (by unfold inI; omega)]
    have : gasolierref03_In i 0 (((c.Ways.length : Nat) : Int) - 1) = decide (0 ≤ i ∧ i < c.Ways.length) := by
      unfold gasolierref03_In
      rw [Bool.eq_iff_iff]; simp; omega
    rw [this]
    by_cases h : 0 ≤ i ∧ i < ((c.Ways.length : Nat) : Int)
    · rw [decide_eq_true h]
      simp only [cond_true, decide_true, Bool.not_true, cond_false]
      rw [round_without_eq c i h.1 h.2 hlen, ref_without_eq c i h.1 h.2 hlen]
      exact ⟨(less c i.toNat, 0), rfl, rfl, by simp [less]; omega⟩
    · rw [decide_eq_false h]
      exact ⟨(⟨0, []⟩, 1), rfl, rfl, by simp⟩

theorem sane_ok : gasolierlaw03_sane 20000 = some true := by kernel_rfl

theorem roundCharts_true (c : Chart) (x : gasolierlaw03_Ask) : gasolierlaw03_RoundCharts 20000 c x = some true := by
  unfold gasolierlaw03_RoundCharts
  obtain ⟨r, h1, h2, h3⟩ := with_eq (fuel := 20000) (by omega) c x.Way
  obtain ⟨q, k1, k2, k3⟩ := without_eq (fuel := 20000) (by omega) c x.At
  rw [sane_ok, h1, h2, k1, k2]
  simp only [bindO_some]
  rw [sameChart_self (by omega) r.1 h3, sameChart_self (by omega) q.1 k3]
  simp only [bindO_some]
  rw [checkWay_eq, checkStop_eq, round_Check_eq, ref_Check_eq (by omega)]
  simp [bindO_some]

end Go.Sp
