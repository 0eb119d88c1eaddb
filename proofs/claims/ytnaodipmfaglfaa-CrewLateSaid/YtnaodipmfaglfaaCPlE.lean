/- Plain laws, crew: what rounds and cuts are accepted. No program in sight. -/
import Derived.Test.YtnaodipmfaglfaaCPlD
set_option linter.all false
namespace Go.Sp
open Go.Av
set_option maxRecDepth 100000
theorem take_snoc {T : Type} [Inhabited T] {l : List T} {k : Nat} (h : k < l.length) : l.take (k + 1) = l.take k ++ [l.getD k default] := by
  rw [List.take_add_one, List.getElem?_eq_getElem h, List.getD_eq_getElem?_getD, List.getElem?_eq_getElem h]; rfl
noncomputable def ck {T : Type} (p : Prop) (a b : T) : T := @ite _ p (Classical.propDecidable p) a b
theorem ck_pos {T : Type} {p : Prop} (h : p) (a b : T) : ck p a b = a := if_pos h
theorem ck_neg {T : Type} {p : Prop} (h : ¬ p) (a b : T) : ck p a b = b := if_neg h
theorem wp_ck {T : Type} {x : Option T} {p : Prop} {a b : T} (h : Wp x (fun r => (p ∧ r = a) ∨ (¬ p ∧ r = b))) : x = some (ck p a b) := by
  refine Wp.eq (h.mono (fun r hr => ?_))
  rcases hr with ⟨q, rfl⟩ | ⟨q, rfl⟩
  · exact (ck_pos q _ _).symm
  · exact (ck_neg q _ _).symm
structure IsRound (adj : Nat → Nat → Prop) (n : Nat) (l : List Int) : Prop where
  ne : 0 < l.length
  rng : ∀ k, k < l.length → 0 ≤ l.getD k default ∧ l.getD k default < n
  link : ∀ k, 0 < k → k < l.length → adj (l.getD (k - 1) default).toNat (l.getD k default).toNat
def rd (ls : List (List Int)) (k : Nat) : List Int := ls.getD k default
def Fit (ls : List (List Int)) : Prop := ls.length ≤ 9223372036854775807 ∧ ∀ k, k < ls.length → (rd ls k).length ≤ 9223372036854775807
def flat (ls : List (List Int)) (k : Nat) : List Int := (ls.take k).flatten
structure AreRounds (adj : Nat → Nat → Prop) (n : Nat) (ls : List (List Int)) : Prop where
  round : ∀ k, k < ls.length → IsRound adj n (rd ls k)
  heads : ∀ k, 0 < k → k < ls.length → (rd ls (k - 1)).getD 0 default < (rd ls k).getD 0 default
  nd : ls.flatten.Nodup
  all : ∀ x : Nat, x < n → (x : Int) ∈ ls.flatten
theorem flat_succ {ls : List (List Int)} {k : Nat} (h : k < ls.length) : flat ls (k + 1) = flat ls k ++ rd ls k := by
  unfold flat rd
  rw [take_snoc h, List.flatten_append, List.flatten_singleton]
theorem flat_all (ls : List (List Int)) : flat ls ls.length = ls.flatten := by unfold flat; rw [List.take_length]
theorem flat_pre {ls : List (List Int)} {k m : Nat} (h : k < ls.length) : ∃ r, ls.flatten = (flat ls k ++ (rd ls k).take m) ++ r := by
  refine ⟨(rd ls k).drop m ++ (ls.drop (k + 1)).flatten, ?_⟩
  have e : ls.flatten = flat ls (k + 1) ++ (ls.drop (k + 1)).flatten := by
    unfold flat; rw [← List.flatten_append, List.take_append_drop]
  rw [e, flat_succ h]
  conv => lhs; rw [← List.take_append_drop m (rd ls k)]
  simp only [List.append_assoc]
section
variable {n : Nat} {adj : Nat → Nat → Prop} {p : crew_plan}
theorem isRound_wp (IP : IsPlan n adj p) (l : List Int) (hll : l.length ≤ 9223372036854775807) : Wp (crew_plan__isRound p l) (fun r => r = true ↔ IsRound adj n l) := by
  have hn := IP.le
  have hl := IP.len
  unfold crew_plan__isRound
  rw [hl]
  refine wp_forall (fun k => (0 ≤ l.getD k default ∧ l.getD k default < n) ∧ (0 < k → adj (l.getD (k - 1) default).toNat (l.getD k default).toNat)) (fun k K hk hpre hK => ?_) (fun h => ?_)
  · have e : (((k : Int) - 1)).toNat = k - 1 := by omega
    rw [e]
    by_cases hin : 0 ≤ l.getD k default ∧ l.getD k default < n
    · have h1 : crew_in (l.getD k default) 0 (((n : Nat) : Int) - 1) = true := in_iff.2 (by omega)
      rw [h1]
      by_cases h0 : 0 < k
      · have hp := (hpre (k - 1) (by omega)).1
        obtain ⟨a, ha⟩ := Int.eq_ofNat_of_zero_le hp.1
        obtain ⟨b, hb⟩ := Int.eq_ofNat_of_zero_le hin.1
        have hpa : a < n := by omega
        have hpb : b < n := by omega
        have ea : ((a : Int)).toNat = a := rfl
        have eb : ((b : Int)).toNat = b := rfl
        have lk : adj (l.getD (k - 1) default).toNat (l.getD k default).toNat ↔ adj a b := by rw [ha, hb, ea, eb]
        rw [ha, hb, ea, eb]
        obtain ⟨q1, q2, q3⟩ := IP.bits a hpa
        refine wp_mustI (by omega) (wp_must (fun _ => by unfold inI; omega) (wp_must (fun _ => by omega) (wp_must (fun _ => by omega) (wp_must (fun _ => by omega) (wp_must (fun _ => bit_rng q1 q2 hn) ?_)))))
        rw [bit_dec0 q1, decide_eq_true (show (0 : Int) < (k : Int) by omega)]
        refine wp_bif (fun h => wp_some ⟨fun h' => (by cases h'), fun R => ?_⟩) (fun h => ?_)
        · have := lk.1 (R.link k h0 hk)
          have := (q3 b hpb).2 this
          rw [this] at h; cases h
        · refine hK ⟨hin, fun _ => lk.2 ((q3 b hpb).1 ?_)⟩
          simpa using h
      · rw [decide_eq_false (show ¬ (0 : Int) < (k : Int) by omega)]
        refine wp_mustI (by omega) (wp_must (fun h => by cases h) (wp_must (fun h => by cases h) (wp_must (fun h => by cases h) (wp_must (fun h => by cases h) (wp_must (fun h => by cases h) ?_)))))
        exact wp_false rfl (hK ⟨hin, fun h => absurd h h0⟩)
    · have h1 : crew_in (l.getD k default) 0 (((n : Nat) : Int) - 1) = false := by
        cases h : crew_in (l.getD k default) 0 (((n : Nat) : Int) - 1) with
        | false => rfl
        | true => exfalso; have := in_iff.1 h; omega
      rw [h1]
      refine wp_mustI (by omega) (wp_must (fun h => by cases h) (wp_must (fun h => by cases h) (wp_must (fun h => by cases h) (wp_must (fun h => by cases h) (wp_must (fun h => by cases h) ?_)))))
      exact wp_true rfl (wp_some ⟨fun h' => (by cases h'), fun R => absurd (R.rng k hk) hin⟩)
  · exact wp_some (by
      rw [decide_eq_true_eq]
      exact ⟨fun h0 => ⟨by omega, fun k hk => (h k hk).1, fun k h1 h2 => (h k h2).2 h1⟩, fun R => by have := R.ne; omega⟩)
theorem full_bits {x n : Nat} (h : x < 2 ^ n) : x = 2 ^ n - 1 ↔ ∀ j, j < n → x.testBit j = true := by
  constructor
  · rintro rfl j hj; rw [Nat.testBit_two_pow_sub_one]; exact decide_eq_true hj
  · intro hb
    refine Nat.eq_of_testBit_eq (fun j => ?_)
    rw [Nat.testBit_two_pow_sub_one]
    by_cases hj : j < n
    · rw [hb j hj, decide_eq_true hj]
    · rw [decide_eq_false hj]
      exact Nat.testBit_lt_two_pow (Nat.lt_of_lt_of_le h (Nat.pow_le_pow_right (by omega) (by omega)))
theorem areRounds_wp (IP : IsPlan n adj p) (ls : List (List Int)) (hF : Fit ls) : Wp (crew_plan__areRounds p ls) (fun r => r = true ↔ AreRounds adj n ls) := by
  have hn := IP.le
  have hl := IP.len
  unfold crew_plan__areRounds
  rw [hl]
  refine wp_range (fun i s => SB n s ∧ (∀ k, k < i → IsRound adj n (rd ls k)) ∧ (∀ k, 0 < k → k < i → (rd ls (k - 1)).getD 0 default < (rd ls k).getD 0 default) ∧ (flat ls i).Nodup ∧ ∀ x : Nat, x < n → (sb s x = true ↔ (x : Int) ∈ flat ls i))
    ⟨SB.zero n, fun k hk => by omega, fun k _ hk => by omega, List.nodup_nil, fun x _ => by unfold sb flat; simp⟩ (fun i s K hi hI hK => ?_) (fun s hI => ?_)
  · obtain ⟨hS, hR, hH, hN, hB⟩ := hI
    have er : ls.getD i default = rd ls i := rfl
    have e : (((i : Int) - 1)).toNat = i - 1 := by omega
    have er2 : ls.getD (i - 1) default = rd ls (i - 1) := rfl
    rw [e, er, er2]
    refine wp_bind (isRound_wp IP (rd ls i) (hF.2 i hi)) (fun y hy => ?_)
    cases y with
    | false =>
      refine wp_must (fun h => by cases h) (wp_must (fun h => by cases h) (wp_must (fun h => by cases h) (wp_must (fun h => by cases h) (wp_true rfl (wp_some ⟨fun h => (by cases h), fun A => ?_⟩)))))
      have := hy.2 (A.round i hi); cases this
    | true =>
      have hRi := hy.1 rfl
      have hne := hRi.ne
      have hpp : 0 < i → 0 < (rd ls (i - 1)).length := fun h => (hR (i - 1) (by omega)).ne
      refine wp_must (fun _ => by have := hF.1; unfold inI; omega) (wp_must (fun h => by simp at h; omega) (wp_must (fun h => by have := hpp (by simpa using h); omega) (wp_must (fun h => by omega) ?_)))
      refine wp_bif (fun h => wp_some ⟨fun h => (by cases h), fun A => ?_⟩) (fun h => ?_)
      · simp only [Bool.not_true, Bool.false_or, Bool.and_eq_true, decide_eq_true_eq] at h
        have := A.heads i (by omega) hi
        omega
      · simp only [Bool.not_true, Bool.false_or, Bool.and_eq_false_iff, decide_eq_false_iff_not] at h
        have hhead : 0 < i → (rd ls (i - 1)).getD 0 default < (rd ls i).getD 0 default := fun h0 => by rcases h with h | h <;> omega
        refine wp_range (fun m s => SB n s ∧ (flat ls i ++ (rd ls i).take m).Nodup ∧ ∀ x : Nat, x < n → (sb s x = true ↔ (x : Int) ∈ flat ls i ++ (rd ls i).take m)) ⟨hS, by simpa using hN, by simpa using hB⟩ (fun m s K' hm hI' hK' => ?_) (fun s hI' => ?_)
        · obtain ⟨hS', hN', hB'⟩ := hI'
          obtain ⟨b1, b2⟩ := hRi.rng m hm
          obtain ⟨b, hb⟩ := Int.eq_ofNat_of_zero_le b1
          rw [hb]
          have eb : ((b : Int)).toNat = b := rfl
          rw [eb]
          have hbn : b < n := by omega
          have hp := pow_rng hbn hn
          refine wp_must (by omega) (wp_must (bit_rng hS'.nn hS'.lt hn) ?_)
          rw [bit_dec hS'.nn]
          refine wp_bif (fun h => wp_some ⟨fun h => (by cases h), fun A => ?_⟩) (fun h => ?_)
          · exfalso
            obtain ⟨r, hr⟩ := flat_pre (m := m + 1) hi
            have hnd := A.nd
            rw [hr, take_snoc hm, hb, ← List.append_assoc] at hnd
            have := (List.nodup_append.1 hnd).1
            exact (List.nodup_append.1 this).2.2 (b : Int) ((hB' b hbn).1 h) (b : Int) (by simp) rfl
          · refine wp_must ⟨by omega, by omega, by unfold inI; omega⟩ (wp_must ⟨hS'.nn, hp.1, hS'.inI hn, by unfold inI; omega⟩ (hK' _ ⟨hS'.put hbn, ?_, fun x hx => ?_⟩))
            · rw [take_snoc hm, hb, ← List.append_assoc, List.nodup_append]
              refine ⟨hN', by simp, fun x hx y hy e => ?_⟩
              have hy : y = (b : Int) := by simpa using hy
              subst hy e
              have t' : s.toNat.testBit b = true := (hB' b hbn).2 hx
              rw [h] at t'; cases t'
            · rw [sb_put, take_snoc hm, hb, ← List.append_assoc, List.mem_append, Bool.or_eq_true, hB' x hx, decide_eq_true_eq, List.mem_singleton]
              constructor
              · rintro (h | h)
                · exact .inl h
                · exact .inr (by omega)
              · rintro (h | h)
                · exact .inl h
                · exact .inr (by omega)
        · obtain ⟨hS', hN', hB'⟩ := hI'
          rw [List.take_length] at hN' hB'
          rw [← flat_succ hi] at hN' hB'
          refine hK _ ⟨hS', fun k hk => ?_, fun k h0 hk => ?_, hN', hB'⟩
          · by_cases e : k = i
            · subst e; exact hRi
            · exact hR k (by omega)
          · by_cases e : k = i
            · subst e; exact hhead h0
            · exact hH k h0 (by omega)
  · obtain ⟨hS, hR, hH, hN, hB⟩ := hI
    rw [flat_all] at hN hB
    have en : (((n : Nat) : Int)).toNat = n := rfl
    have hp : ((1 : Int) * 2 ^ n) = ((2 ^ n : Nat) : Int) := pow_nat n
    have hp2 := pow24 hn
    have hp3 : 0 < 2 ^ n := Nat.pow_pos (by omega)
    rw [en, hp]
    have hfb := full_bits hS.lt
    have hs0 := hS.nn
    generalize 2 ^ n = q at *
    refine wp_must ⟨by omega, by omega, by unfold inI; omega⟩ (wp_mustI (by omega) (wp_some ?_))
    rw [decide_eq_true_eq]
    constructor
    · intro h
      have h2 := hfb.1 (by omega)
      exact ⟨hR, hH, hN, fun x hx => (hB x hx).1 (h2 x hx)⟩
    · intro A
      have := hfb.2 (fun j hj => (hB j hj).2 (A.all j hj))
      omega
end
section
variable {c : Crew}
theorem risRound_wp (V : Valid c) (l : List Int) (hll : l.length ≤ 9223372036854775807) : Wp (gasolierref04_isRound c l) (fun r => r = true ↔ IsRound (fol c Range.Hi) c.Tasks.length l) := by
  have hn := V.tasks
  unfold gasolierref04_isRound
  refine wp_forall (fun k => (0 ≤ l.getD k default ∧ l.getD k default < c.Tasks.length) ∧ (0 < k → fol c Range.Hi (l.getD (k - 1) default).toNat (l.getD k default).toNat)) (fun k K hk hpre hK => ?_) (fun h => ?_)
  · have e : (((k : Int) - 1)).toNat = k - 1 := by omega
    rw [e]
    by_cases hin : 0 ≤ l.getD k default ∧ l.getD k default < c.Tasks.length
    · have h1 : gasolierref01_Within (l.getD k default) 0 (((c.Tasks.length : Nat) : Int) - 1) = true := within_iff.2 (by omega)
      rw [h1]
      by_cases h0 : 0 < k
      · have hp := (hpre (k - 1) (by omega)).1
        obtain ⟨a, ha⟩ := Int.eq_ofNat_of_zero_le hp.1
        obtain ⟨b, hb⟩ := Int.eq_ofNat_of_zero_le hin.1
        have hpa : a < c.Tasks.length := by omega
        have hpb : b < c.Tasks.length := by omega
        have ea : ((a : Int)).toNat = a := rfl
        have eb : ((b : Int)).toNat = b := rfl
        have lk : fol c Range.Hi (l.getD (k - 1) default).toNat (l.getD k default).toNat ↔ fol c Range.Hi a b := by rw [ha, hb, ea, eb]
        rw [ha, hb]
        refine wp_mustI (by omega) (wp_must (fun _ => by unfold inI; omega) (wp_must (fun _ => by omega) ?_))
        rw [decide_eq_true (show (0 : Int) < (k : Int) by omega)]
        refine wp_bindE (rfollows_eq V hpa hpb) ?_
        have hy := yes_iff V (i := a) (j := b) hpa hpb
        refine wp_bif (fun h => wp_some ⟨fun h' => (by cases h'), fun R => ?_⟩) (fun h => ?_)
        · rw [decide_eq_true (hy.2 (lk.1 (R.link k h0 hk)))] at h; cases h
        · refine hK ⟨hin, fun _ => lk.2 (hy.1 ?_)⟩
          simpa using h
      · rw [decide_eq_false (show ¬ (0 : Int) < (k : Int) by omega)]
        refine wp_mustI (by omega) (wp_must (fun h => by cases h) (wp_must (fun h => by cases h) (wp_bindE rfl ?_)))
        exact wp_false rfl (hK ⟨hin, fun h => absurd h h0⟩)
    · have h1 : gasolierref01_Within (l.getD k default) 0 (((c.Tasks.length : Nat) : Int) - 1) = false := by
        cases h : gasolierref01_Within (l.getD k default) 0 (((c.Tasks.length : Nat) : Int) - 1) with
        | false => rfl
        | true => exfalso; have := within_iff.1 h; omega
      rw [h1]
      refine wp_mustI (by omega) (wp_must (fun h => by cases h) (wp_must (fun h => by cases h) (wp_bindE rfl ?_)))
      exact wp_true rfl (wp_some ⟨fun h' => (by cases h'), fun R => absurd (R.rng k hk) hin⟩)
  · exact wp_some (by
      rw [decide_eq_true_eq]
      exact ⟨fun h0 => ⟨by omega, fun k hk => (h k hk).1, fun k h1 h2 => (h k h2).2 h1⟩, fun R => by have := R.ne; omega⟩)
theorem IsRound.at_lt (V : Valid c) {l : List Int} (R : IsRound (fol c Range.Hi) c.Tasks.length l) : ∀ (b a : Nat), a < b → b < l.length → fol c Range.Hi (l.getD a default).toNat (l.getD b default).toNat
  | 0, a, h, _ => by omega
  | b + 1, a, h, hb => by
    have h1 := R.link (b + 1) (by omega) hb
    rw [show b + 1 - 1 = b by omega] at h1
    by_cases e : a = b
    · subst e; exact h1
    · exact fol_trans V (.inr rfl) (IsRound.at_lt V R b a (by omega) (by omega)) h1
theorem IsRound.nodup (V : Valid c) {l : List Int} (R : IsRound (fol c Range.Hi) c.Tasks.length l) : l.Nodup := by
  show List.Pairwise (· ≠ ·) l
  rw [List.pairwise_iff_getElem]
  intro i j hi hj hij e
  have h := R.at_lt V j i hij hj
  have : l.getD i default = l.getD j default := by rw [List.getD_eq_getElem?_getD, List.getD_eq_getElem?_getD, List.getElem?_eq_getElem hi, List.getElem?_eq_getElem hj, e]
  rw [this] at h
  exact fol_irrefl V (.inr rfl) h
theorem rcheckRounds_wp (c : Crew) (ls : List (List Int)) (hF : Fit ls) : Wp (gasolierref04_CheckRounds c ls) (fun r => (¬ Valid c ∧ r = 42) ∨ (Valid c ∧ ¬ AreRounds (fol c Range.Hi) c.Tasks.length ls ∧ r = 43) ∨ (Valid c ∧ AreRounds (fol c Range.Hi) c.Tasks.length ls ∧ r = 0)) := by
  unfold gasolierref04_CheckRounds
  refine wp_bindE (rcheck_eq c) ?_
  by_cases V : Valid c
  · rw [chk_valid V]
    have hn := V.tasks
    refine wp_false rfl (wp_must ⟨by omega, by omega, by unfold room; omega⟩ ?_)
    have en : (((c.Tasks.length : Nat) : Int)).toNat = c.Tasks.length := rfl
    rw [en]
    refine wp_range (fun i s => s.length = c.Tasks.length ∧ i ≤ c.Tasks.length ∧ (∀ k, k < i → IsRound (fol c Range.Hi) c.Tasks.length (rd ls k) ∧ (k : Int) ≤ (rd ls k).getD 0 default) ∧ (∀ k, 0 < k → k < i → (rd ls (k - 1)).getD 0 default < (rd ls k).getD 0 default) ∧ ∀ x : Nat, x < c.Tasks.length → s.getD x default = ((flat ls i).count (x : Int) : Int) ∧ (flat ls i).count (x : Int) ≤ i)
      ⟨by simp, by omega, fun k hk => by omega, fun k _ hk => by omega, fun x _ => ⟨by rw [getD0, getD_replicate]; unfold flat; simp, by unfold flat; simp⟩⟩ (fun i s K hi hI hK => ?_) (fun s hI => ?_)
    · obtain ⟨hL, hin, hR, hH, hB⟩ := hI
      have er : ls.getD i default = rd ls i := rfl
      have e : (((i : Int) - 1)).toNat = i - 1 := by omega
      have er2 : ls.getD (i - 1) default = rd ls (i - 1) := rfl
      rw [e, er, er2]
      refine wp_bind (risRound_wp V (rd ls i) (hF.2 i hi)) (fun y hy => ?_)
      cases y with
      | false =>
        refine wp_must (fun h => by cases h) (wp_must (fun h => by cases h) (wp_must (fun h => by cases h) (wp_must (fun h => by cases h) (wp_true rfl (wp_some (.inr (.inl ⟨V, fun A => ?_, rfl⟩)))))))
        have := hy.2 (A.round i hi); cases this
      | true =>
        have hRi := hy.1 rfl
        have hne := hRi.ne
        have hpp : 0 < i → 0 < (rd ls (i - 1)).length := fun h => (hR (i - 1) (by omega)).1.ne
        refine wp_must (fun _ => by have := hF.1; unfold inI; omega) (wp_must (fun h => by simp at h; omega) (wp_must (fun h => by have := hpp (by simpa using h); omega) (wp_must (fun h => by omega) ?_)))
        refine wp_bif (fun h => wp_some (.inr (.inl ⟨V, fun A => ?_, rfl⟩))) (fun h => ?_)
        · simp only [Bool.not_true, Bool.false_or, Bool.and_eq_true, decide_eq_true_eq] at h
          have := A.heads i (by omega) hi
          omega
        · simp only [Bool.not_true, Bool.false_or, Bool.and_eq_false_iff, decide_eq_false_iff_not] at h
          have hhead : 0 < i → (rd ls (i - 1)).getD 0 default < (rd ls i).getD 0 default := fun h0 => by rcases h with h | h <;> omega
          have hh0 := hRi.rng 0 hne
          have hge : (i : Int) ≤ (rd ls i).getD 0 default := by
            by_cases h0 : 0 < i
            · have := hhead h0
              have := (hR (i - 1) (by omega)).2
              omega
            · omega
          have hnd := hRi.nodup V
          have htk : ∀ m x, ((rd ls i).take m).count x ≤ 1 := fun m x => List.nodup_iff_count.1 (List.Pairwise.sublist (List.take_sublist m _) hnd) x
          refine wp_range (fun m s => s.length = c.Tasks.length ∧ ∀ x : Nat, x < c.Tasks.length → s.getD x default = ((flat ls i ++ (rd ls i).take m).count (x : Int) : Int)) ⟨hL, fun x hx => by rw [(hB x hx).1]; simp⟩ (fun m s K' hm hI' hK' => ?_) (fun s hI' => ?_)
          · obtain ⟨hL', hB'⟩ := hI'
            obtain ⟨b1, b2⟩ := hRi.rng m hm
            obtain ⟨b, hb⟩ := Int.eq_ofNat_of_zero_le b1
            rw [hb]
            have eb : ((b : Int)).toNat = b := rfl
            rw [eb]
            have hbn : b < c.Tasks.length := by omega
            have hcnt := hB' b hbn
            have hc2 : (flat ls i ++ (rd ls i).take m).count (b : Int) ≤ i + 1 := by
              rw [List.count_append]
              have := (hB b hbn).2
              have := htk m (b : Int)
              omega
            refine wp_must (by omega) (wp_mustI (by omega) (wp_must (by omega) (hK' _ ⟨by rw [List.length_set]; exact hL', fun x hx => ?_⟩)))
            rw [getD_set _ _ _ _ _ (by omega), take_snoc hm, hb, ← List.append_assoc, List.count_append]
            by_cases e : x = b
            · subst e
              rw [if_pos rfl, hcnt]; simp
            · rw [if_neg e, hB' x hx]
              have : List.count (x : Int) [(b : Int)] = 0 := List.count_eq_zero.2 (by simp; omega)
              rw [this]; simp
          · obtain ⟨hL', hB'⟩ := hI'
            rw [List.take_length] at hB'
            rw [← flat_succ hi] at hB'
            refine hK _ ⟨hL', by omega, fun k hk => ?_, fun k h0 hk => ?_, fun x hx => ⟨hB' x hx, ?_⟩⟩
            · by_cases e : k = i
              · subst e; exact ⟨hRi, hge⟩
              · exact hR k (by omega)
            · by_cases e : k = i
              · subst e; exact hhead h0
              · exact hH k h0 (by omega)
            · rw [flat_succ hi, List.count_append]
              have := (hB x hx).2
              have := List.nodup_iff_count.1 hnd (x : Int)
              omega
    · obtain ⟨hL, hin, hR, hH, hB⟩ := hI
      rw [flat_all] at hB
      refine wp_must (by omega) ?_
      rw [hL]
      refine wp_forall (fun x => ls.flatten.count (x : Int) = 1) (fun x K hx _ hK => ?_) (fun h => ?_)
      · rw [(hB x hx).1]
        refine wp_ifn (fun h => wp_some (.inr (.inl ⟨V, fun A => ?_, rfl⟩))) (fun h => hK (by omega))
        have h1 := List.nodup_iff_count.1 A.nd (x : Int)
        have h2 := List.count_pos_iff.2 (A.all x hx)
        omega
      · refine wp_some (.inr (.inr ⟨V, ⟨fun k hk => (hR k hk).1, hH, ?_, fun x hx => List.count_pos_iff.1 (by rw [h x hx]; omega)⟩, rfl⟩))
        rw [List.nodup_iff_count]
        intro a
        by_cases ha : a ∈ ls.flatten
        · obtain ⟨r, hr, har⟩ := List.mem_flatten.1 ha
          obtain ⟨k, hk, rfl⟩ := mem_getD hr
          obtain ⟨m, hm, rfl⟩ := mem_getD har
          obtain ⟨b1, b2⟩ := ((hR k hk).1).rng m hm
          obtain ⟨b, hb⟩ := Int.eq_ofNat_of_zero_le b1
          have hb : (ls.getD k default).getD m default = (b : Int) := hb
          rw [hb, h b (by have : (rd ls k).getD m default = (b : Int) := hb; omega)]; omega
        · rw [List.count_eq_zero.2 ha]; omega
  · rw [chk_not V]
    exact wp_true rfl (wp_some (.inl ⟨V, rfl⟩))
theorem asked_wp (c : Crew) (ls : List (List Int)) (hF : Fit ls) : Wp (crew_asked c ls) (fun r => (¬ Valid c ∧ r = (none, 42)) ∨ (Valid c ∧ ¬ AreRounds (fol c Range.Hi) c.Tasks.length ls ∧ r = (none, 43)) ∨
    (Valid c ∧ AreRounds (fol c Range.Hi) c.Tasks.length ls ∧ ∃ p, r = (some p, 0) ∧ p.Crew = c ∧ IsPlan c.Tasks.length (fol c Range.Hi) p)) := by
  unfold crew_asked
  refine wp_bindE (check_eq c) ?_
  by_cases V : Valid c
  · rw [chk_valid V]
    refine wp_false rfl ?_
    rw [most_fun]
    refine wp_bind (newPlan_wp V (.inr rfl)) (fun y hy => ?_)
    obtain ⟨p, rfl, hpc, IP⟩ := hy
    refine wp_must rfl (wp_bind (areRounds_wp IP ls hF) (fun y hy => ?_))
    cases y with
    | false => exact wp_true rfl (wp_some (.inr (.inl ⟨V, fun A => (by have := hy.2 A; cases this), rfl⟩)))
    | true => exact wp_false rfl (wp_some (.inr (.inr ⟨V, hy.1 rfl, p, rfl, hpc, IP⟩)))
  · rw [chk_not V]
    exact wp_true rfl (wp_some (.inl ⟨V, rfl⟩))
noncomputable def ckR (c : Crew) (ls : List (List Int)) : Int := ck (Valid c) (ck (AreRounds (fol c Range.Hi) c.Tasks.length ls) 0 43) 42
theorem ckR_zero {c : Crew} {ls : List (List Int)} : ckR c ls = 0 ↔ Valid c ∧ AreRounds (fol c Range.Hi) c.Tasks.length ls := by
  unfold ckR
  by_cases V : Valid c
  · rw [ck_pos V]
    by_cases A : AreRounds (fol c Range.Hi) c.Tasks.length ls
    · rw [ck_pos A]; exact ⟨fun _ => ⟨V, A⟩, fun _ => rfl⟩
    · rw [ck_neg A]; exact ⟨fun h => (by cases h), fun h => absurd h.2 A⟩
  · rw [ck_neg V]; exact ⟨fun h => (by cases h), fun h => absurd h.1 V⟩
theorem rcheckRounds_eq (c : Crew) (ls : List (List Int)) (hF : Fit ls) : gasolierref04_CheckRounds c ls = some (ckR c ls) := by
  refine Wp.eq ((rcheckRounds_wp c ls hF).mono (fun y hy => ?_))
  unfold ckR
  rcases hy with ⟨h, rfl⟩ | ⟨h, h2, rfl⟩ | ⟨h, h2, rfl⟩
  · rw [ck_neg h]
  · rw [ck_pos h, ck_neg h2]
  · rw [ck_pos h, ck_pos h2]
end
end Go.Sp
