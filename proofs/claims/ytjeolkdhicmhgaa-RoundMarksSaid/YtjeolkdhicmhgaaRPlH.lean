/- Plain laws: what numbers determine; RoundLater, RoundSure. No program in sight. -/
import Derived.Test.YtjeolkdhicmhgaaRPlG
set_option linter.all false
namespace Go.Sp
open Go.Av
set_option maxRecDepth 100000

theorem mod_eq (n : Int) {m : Int} (h0 : 0 < m) (h1 : m ≤ 1000000) : ∃ y, gasolierref03_Mod n m = some y ∧ 0 ≤ y ∧ y < m := by
  have a1 := Int.tmod_lt_of_pos n h0
  have a2 : -m < Int.tmod n m := by
    exact Int.lt_tmod_of_pos n h0
  have a3 := Int.tmod_nonneg m (a := Int.tmod n m + m) (by omega)
  have a4 := Int.tmod_lt_of_pos (Int.tmod n m + m) h0
  unfold gasolierref03_Mod
  rw [must_pos (by omega), must_pos (by unfold inI; omega), must_pos (by omega)]
  exact ⟨_, rfl, a3, a4⟩

theorem to_eq {P a b : Int} (hP : 2 ≤ P ∧ P ≤ 6) (ha : 0 ≤ a ∧ a < P) (hb : 0 ≤ b ∧ b < P - 1) : (0 ≤ Int.tmod (a + 1 + b) P ∧ Int.tmod (a + 1 + b) P < P) ∧ a ≠ Int.tmod (a + 1 + b) P := by
  rw [Int.tmod_eq_emod_of_nonneg (by omega)]
  have : P = 2 ∨ P = 3 ∨ P = 4 ∨ P = 5 ∨ P = 6 := by omega
  rcases this with rfl | rfl | rfl | rfl | rfl <;> omega

def mdStop (p0 : gasolierref03_Raw) (y1 y39 y41 : Int) (W : List Way) : (Int × Int × (List Stop)) → ((Int × Int × (List Stop)) → Option (Chart × Round)) → Option (Chart × Round) := (fun (s43 : Int × Int × (List Stop)) k43 => (bif ((decide (s43.2.1 < ((p0.Stops.length : Nat) : Int))) && (decide (s43.2.1 < 5))) then must (0 ≤ (s43.2.1 : Int) ∧ (s43.2.1 : Int) < ((p0.Stops.length : Nat) : Int)) <| bindO (gasolierref03_Mod ((p0.Stops.getD (s43.2.1).toNat default).x0) (2 + y1)) fun y46 => bindO (gasolierref03_Mod ((p0.Stops.getD (s43.2.1).toNat default).x3) 9) fun y48 => bindO (gasolierref03_Mod ((p0.Stops.getD (s43.2.1).toNat default).x1) 40) fun y50 => must (inI (s43.1 + y50)) <| must (inI ((s43.1 + y50) - 10)) <| bindO (gasolierref03_Mod ((p0.Stops.getD (s43.2.1).toNat default).x2) 60) fun y54 => must (inI ((max ((s43.1 + y50) - 10) 0) + y54)) <| must (room (s43.2.2 ++ ([(⟨y46, (⟨(max ((s43.1 + y50) - 10) 0), ((max ((s43.1 + y50) - 10) 0) + y54)⟩ : Range), y48⟩ : Stop)] : List Stop)).length 32) <| must (inI (s43.2.1 + 1)) <| k43 ((max ((s43.1 + y50) - 10) 0), (s43.2.1 + 1), (s43.2.2 ++ ([(⟨y46, (⟨(max ((s43.1 + y50) - 10) 0), ((max ((s43.1 + y50) - 10) 0) + y54)⟩ : Range), y48⟩ : Stop)] : List Stop))) else some ((⟨(2 + y1), W⟩ : Chart), (⟨y39, y41, s43.2.2⟩ : Round))))
def mdWay (fuel : Nat) (p0 : gasolierref03_Raw) (y1 : Int) : (Int × (List Way)) → ((Int × (List Way)) → Option (Chart × Round)) → Option (Chart × Round) := (fun (s4 : Int × (List Way)) k4 => (bif ((decide (s4.1 < ((p0.Ways.length : Nat) : Int))) && (decide (s4.1 < 12))) then must (0 ≤ (s4.1 : Int) ∧ (s4.1 : Int) < ((p0.Ways.length : Nat) : Int)) <| bindO (gasolierref03_Mod ((p0.Ways.getD (s4.1).toNat default).x0) (2 + y1)) fun y7 => must (inI (y7 + 1)) <| must (inI ((2 + y1) - 1)) <| bindO (gasolierref03_Mod ((p0.Ways.getD (s4.1).toNat default).x1) ((2 + y1) - 1)) fun y11 => must (inI ((y7 + 1) + y11)) <| must (((2 + y1) : Int) ≠ 0) <| bindO (gasolierref03_Mod ((p0.Ways.getD (s4.1).toNat default).x2) 20) fun y15 => must (inI (1 + y15)) <| bindO (gasolierref03_Mod ((p0.Ways.getD (s4.1).toNat default).x3) 12) fun y18 => must (inI ((1 + y15) + y18)) <| bindO (gasolierref03_Mod ((p0.Ways.getD (s4.1).toNat default).x4) 3) fun y21 => (joinK (fun (k23 : Way → _) => (bif (decide (0 < y21)) then bindO (gasolierref03_Mod ((p0.Ways.getD (s4.1).toNat default).x5) 200) fun y34 => bindO (gasolierref03_Mod ((p0.Ways.getD (s4.1).toNat default).x6) 150) fun y36 => must (inI (y34 + y36)) <| k23 (⟨y7, (Int.tmod ((y7 + 1) + y11) (2 + y1)), (⟨(1 + y15), ((1 + y15) + y18)⟩ : Range), (⟨y34, (y34 + y36)⟩ : Range), 0⟩ : Way) else k23 (⟨y7, (Int.tmod ((y7 + 1) + y11) (2 + y1)), (⟨(1 + y15), ((1 + y15) + y18)⟩ : Range), (⟨0, 1439⟩ : Range), 0⟩ : Way))) (fun (s23 : Way) => bindO (gasolierref03_Mod ((p0.Ways.getD (s4.1).toNat default).x4) 3) fun y24 => (joinK (fun (k26 : Way → _) => (bif (decide (y24 = 2)) then bindO (gasolierref03_Mod ((p0.Ways.getD (s4.1).toNat default).x6) 40) fun y30 => must (inI (1 + y30)) <| k26 (⟨s23.From, s23.To, s23.Takes, s23.Open, (1 + y30)⟩ : Way) else k26 s23)) (fun (s26 : Way) => must (room (s4.2 ++ ([s26] : List Way)).length 56) <| must (inI (s4.1 + 1)) <| k4 ((s4.1 + 1), (s4.2 ++ ([s26] : List Way))))))) else bindO (gasolierref03_Mod p0.Round.x0 (2 + y1)) fun y39 => bindO (gasolierref03_Mod p0.Round.x1 150) fun y41 => (loopGo (mdStop p0 y1 y39 y41 s4.2) fuel (y41, 0, ([] : List Stop)))))
theorem made_unfold (fuel : Nat) (p0 : gasolierref03_Raw) : gasolierref03_Made fuel p0 = bindO (gasolierref03_Mod p0.Places 5) fun y1 => must (inI (2 + y1)) (loopGo (mdWay fuel p0 y1) fuel (0, ([] : List Way))) := rfl

/-- What is made is valid. -/
structure MadeP (c : Chart) (r : Round) : Prop where
  val : valid c = true
  rd : isRd c r = true
  ways : c.Ways.length ≤ 12
  pl : 2 ≤ c.Places ∧ c.Places ≤ 6
  at_ : r.At < 150

theorem stop_go (p0 : gasolierref03_Raw) (y1 y39 y41 : Int) (W : List Way) (h1 : 0 ≤ y1 ∧ y1 < 5) : ∀ (n i : Nat), i ≤ 5 → 5 - i < n → ∀ (a : Int) (S : List Stop), (0 ≤ a ∧ a ≤ 149 + 29 * i) → S.length = i → (∀ s ∈ S, okStop ⟨2 + y1, W⟩ s = true) →
    ∃ S', loopGo (mdStop p0 y1 y39 y41 W) n (a, (i : Int), S) = some (⟨2 + y1, W⟩, ⟨y39, y41, S'⟩) ∧ S'.length ≤ 5 ∧ ∀ s ∈ S', okStop ⟨2 + y1, W⟩ s = true := by
  intro n
  induction n with
  | zero => intro i _ h; omega
  | succ n ih =>
    intro i hi hn a S ha hS hok
    rw [loopGo_succ]
    unfold mdStop
    dsimp only
    by_cases hlt : i < p0.Stops.length ∧ i < 5
    · rw [decide_eq_true (by omega : ((i : Nat) : Int) < p0.Stops.length), decide_eq_true (by omega : ((i : Nat) : Int) < 5), Bool.and_self, cond_true, must_pos (by omega)]
      obtain ⟨m1, e1, b1⟩ := mod_eq ((p0.Stops.getD ((i : Int)).toNat default).x0) (m := 2 + y1) (by omega) (by omega)
      obtain ⟨m2, e2, b2⟩ := mod_eq ((p0.Stops.getD ((i : Int)).toNat default).x3) (m := 9) (by omega) (by omega)
      obtain ⟨m3, e3, b3⟩ := mod_eq ((p0.Stops.getD ((i : Int)).toNat default).x1) (m := 40) (by omega) (by omega)
      obtain ⟨m4, e4, b4⟩ := mod_eq ((p0.Stops.getD ((i : Int)).toNat default).x2) (m := 60) (by omega) (by omega)
      rw [e1, bindO_some, e2, bindO_some, e3, bindO_some, must_pos (by unfold inI; omega), must_pos (by unfold inI; omega), e4, bindO_some, must_pos (by unfold inI; omega), must_pos (room_small (by simp; omega) (by omega)), must_pos (by unfold inI; omega)]
      refine ih (i + 1) (by omega) (by omega) _ _ (by omega) (by simp; omega) (fun s hs => ?_)
      rcases List.mem_append.1 hs with hs | hs
      · exact hok s hs
      · rw [List.mem_singleton] at hs
        subst hs
        refine okStop_iff.2 ?_
        dsimp only
        omega
    · have : (decide (((i : Nat) : Int) < p0.Stops.length) && decide (((i : Nat) : Int) < 5)) = false := by
        rw [Bool.and_eq_false_iff, decide_eq_false_iff_not, decide_eq_false_iff_not]; omega
      rw [this, cond_false]
      exact ⟨S, rfl, by omega, hok⟩

theorem joinK_ex {S R : Type} {f : (S → R) → R} {k : S → R} (Q : R → Prop) (G : S → Prop) (hf : ∀ K : S → R, (∀ w, G w → Q (K w)) → Q (f K)) (hk : ∀ w, G w → Q (k w)) : Q (joinK f k) := hf k hk

def MadeQ (z : Option (Chart × Round)) : Prop := ∃ c r, z = some (c, r) ∧ MadeP c r
def GoodW (y1 : Int) (w : Way) : Prop := (∀ X, round_joins ⟨2 + y1, X⟩ w = true) ∧ ∀ e, 1 ≤ e ∧ e ≤ 40 → ∀ X, round_joins ⟨2 + y1, X⟩ ⟨w.From, w.To, w.Takes, w.Open, e⟩ = true

theorem way_go (fuel : Nat) (hf : 41 ≤ fuel) (p0 : gasolierref03_Raw) (y1 : Int) (h1 : 0 ≤ y1 ∧ y1 < 5) : ∀ (n i : Nat), i ≤ 12 → 12 - i < n → ∀ (W : List Way), W.length = i → (∀ w ∈ W, ∀ X, round_joins ⟨2 + y1, X⟩ w = true) →
    MadeQ (loopGo (mdWay fuel p0 y1) n ((i : Int), W)) := by
  intro n
  induction n with
  | zero => intro i _ h; omega
  | succ n ih =>
    intro i hi hn W hW hok
    rw [loopGo_succ]
    generalize hZ : loopGo (mdWay fuel p0 y1) n = Z at ih ⊢
    unfold mdWay
    dsimp only
    by_cases hlt : i < p0.Ways.length ∧ i < 12
    · rw [decide_eq_true (by omega : ((i : Nat) : Int) < p0.Ways.length), decide_eq_true (by omega : ((i : Nat) : Int) < 12), Bool.and_self, cond_true, must_pos (by omega)]
      generalize p0.Ways.getD ((i : Int)).toNat default = q
      obtain ⟨m0, e0, b0⟩ := mod_eq q.x0 (m := 2 + y1) (by omega) (by omega)
      obtain ⟨m1, e1, b1⟩ := mod_eq q.x1 (m := 2 + y1 - 1) (by omega) (by omega)
      obtain ⟨m2, e2, b2⟩ := mod_eq q.x2 (m := 20) (by omega) (by omega)
      obtain ⟨m3, e3, b3⟩ := mod_eq q.x3 (m := 12) (by omega) (by omega)
      obtain ⟨m4, e4, b4⟩ := mod_eq q.x4 (m := 3) (by omega) (by omega)
      obtain ⟨m5, e5, b5⟩ := mod_eq q.x5 (m := 200) (by omega) (by omega)
      obtain ⟨m6, e6, b6⟩ := mod_eq q.x6 (m := 150) (by omega) (by omega)
      obtain ⟨m7, e7, b7⟩ := mod_eq q.x6 (m := 40) (by omega) (by omega)
      obtain ⟨t1, t2⟩ := to_eq (P := 2 + y1) (a := m0) (b := m1) (by omega) b0 b1
      rw [e0, bindO_some, must_pos (by unfold inI; omega), must_pos (by unfold inI; omega), e1, bindO_some, must_pos (by unfold inI; omega), must_pos (by omega), e2, bindO_some, must_pos (by unfold inI; omega), e3, bindO_some, must_pos (by unfold inI; omega), e4, bindO_some]
      refine joinK_ex MadeQ (GoodW y1) (fun K hK => ?_) (fun w hw => ?_)
      · by_cases h4 : 0 < m4
        · rw [decide_eq_true h4, cond_true, e5, bindO_some, e6, bindO_some, must_pos (by unfold inI; omega)]
          exact hK _ ⟨fun X => joins_iff.2 (by dsimp only; omega), fun e he X => joins_iff.2 (by dsimp only; omega)⟩
        · rw [decide_eq_false h4, cond_false]
          exact hK _ ⟨fun X => joins_iff.2 (by dsimp only; omega), fun e he X => joins_iff.2 (by dsimp only; omega)⟩
      · rw [bindO_some]
        refine joinK_ex MadeQ (fun w => ∀ X, round_joins ⟨2 + y1, X⟩ w = true) (fun K hK => ?_) (fun w hw => ?_)
        · by_cases h42 : m4 = 2
          · rw [decide_eq_true h42, cond_true, e7, bindO_some, must_pos (by unfold inI; omega)]
            exact hK _ (hw.2 _ (by omega))
          · rw [decide_eq_false h42, cond_false]
            exact hK _ hw.1
        · rw [must_pos (room_small (by simp; omega) (by omega)), must_pos (by unfold inI; omega)]
          refine ih (i + 1) (by omega) (by omega) _ (by simp; omega) (fun s hs => ?_)
          rcases List.mem_append.1 hs with hs | hs
          · exact hok s hs
          · rw [List.mem_singleton] at hs
            subst hs; exact hw
    · have : (decide (((i : Nat) : Int) < p0.Ways.length) && decide (((i : Nat) : Int) < 12)) = false := by
        rw [Bool.and_eq_false_iff, decide_eq_false_iff_not, decide_eq_false_iff_not]; omega
      rw [this, cond_false]
      obtain ⟨m0, e0, b0⟩ := mod_eq p0.Round.x0 (m := 2 + y1) (by omega) (by omega)
      obtain ⟨m1, e1, b1⟩ := mod_eq p0.Round.x1 (m := 150) (by omega) (by omega)
      rw [e0, bindO_some, e1, bindO_some]
      obtain ⟨S', e, h2, h3⟩ := stop_go p0 y1 m0 m1 W h1 fuel 0 (by omega) (by omega) m1 [] (by omega) rfl (fun s hs => by cases hs)
      refine ⟨_, _, e, valid_iff.2 ⟨by dsimp only; omega, by dsimp only; omega, fun w hw => hok w hw _⟩, isRd_iff.2 ⟨by dsimp only; omega, by dsimp only; omega, by dsimp only; omega, h3⟩, by dsimp only; omega, by dsimp only; omega, by dsimp only; omega⟩

theorem made_eq {fuel : Nat} (hf : 41 ≤ fuel) (x : gasolierref03_Raw) : ∃ c r, gasolierref03_Made fuel x = some (c, r) ∧ MadeP c r := by
  rw [made_unfold]
  obtain ⟨m0, e0, b0⟩ := mod_eq x.Places (m := 5) (by omega) (by omega)
  rw [e0, bindO_some, must_pos (by unfold inI; omega)]
  exact way_go fuel hf x m0 (by omega) fuel 0 (by omega) (by omega) [] rfl (fun w hw => by cases hw)

def TookQ (c : Chart) (z : Option (List Int)) : Prop := ∃ T', z = some T' ∧ isTk c T' = true

theorem took_go {c : Chart} (hv : valid c = true) (picks : List Int) : ∀ (n i : Nat), i ≤ c.Ways.length → c.Ways.length - i < n → ∀ (T : List Int), T.length = i → (∀ j, j < i → (way c j).Takes.Lo ≤ Tl T j ∧ Tl T j ≤ (way c j).Takes.Hi) →
    TookQ c (loopGo ((fun (s1 : Int × (List Int)) k1 => (bif (decide (s1.1 < ((c.Ways.length : Nat) : Int))) then must (0 ≤ (s1.1 : Int) ∧ (s1.1 : Int) < ((c.Ways.length : Nat) : Int)) <| (joinK (fun (k4 : Int → _) => (bif (decide (0 < ((picks.length : Nat) : Int))) then must ((((picks.length : Nat) : Int) : Int) ≠ 0) <| must (0 ≤ ((Int.tmod s1.1 ((picks.length : Nat) : Int)) : Int) ∧ ((Int.tmod s1.1 ((picks.length : Nat) : Int)) : Int) < ((picks.length : Nat) : Int)) <| k4 (picks.getD ((Int.tmod s1.1 ((picks.length : Nat) : Int))).toNat default) else k4 0)) (fun (s4 : Int) => must (inI ((c.Ways.getD (s1.1).toNat default).Takes.Hi - (c.Ways.getD (s1.1).toNat default).Takes.Lo)) <| must (inI (((c.Ways.getD (s1.1).toNat default).Takes.Hi - (c.Ways.getD (s1.1).toNat default).Takes.Lo) + 1)) <| bindO (gasolierref03_Mod s4 (((c.Ways.getD (s1.1).toNat default).Takes.Hi - (c.Ways.getD (s1.1).toNat default).Takes.Lo) + 1)) fun y7 => must (inI ((c.Ways.getD (s1.1).toNat default).Takes.Lo + y7)) <| must (room (s1.2 ++ ([((c.Ways.getD (s1.1).toNat default).Takes.Lo + y7)] : List Int)).length 8) <| must (inI (s1.1 + 1)) <| k1 ((s1.1 + 1), (s1.2 ++ ([((c.Ways.getD (s1.1).toNat default).Takes.Lo + y7)] : List Int))))) else some s1.2))) n ((i : Int), T)) := by
  have hl40 := (valid_iff.1 hv).2.1
  intro n
  induction n with
  | zero => intro i _ h; omega
  | succ n ih =>
    intro i hi hn T hT hok
    rw [loopGo_succ]
    generalize loopGo _ n = Z at ih ⊢
    dsimp only
    by_cases hlt : i < c.Ways.length
    · have e0 : ((i : Nat) : Int).toNat = i := by omega
      have J := joins_iff.1 (joins_of hv hlt)
      have ew : c.Ways.getD i default = way c i := rfl
      rw [decide_eq_true (by omega : ((i : Nat) : Int) < c.Ways.length), cond_true, must_pos (by omega), e0, ew]
      refine joinK_ex (TookQ c) (fun _ => True) (fun K hK => ?_) (fun z _ => ?_)
      · by_cases hp : 0 < picks.length
        · have t1 := Int.tmod_nonneg ((picks.length : Nat) : Int) (a := (i : Int)) (by omega)
          have t2 := Int.tmod_lt_of_pos (i : Int) (b := ((picks.length : Nat) : Int)) (by omega)
          rw [decide_eq_true (by omega : (0 : Int) < ((picks.length : Nat) : Int)), cond_true, must_pos (by omega), must_pos ⟨t1, t2⟩]
          exact hK _ trivial
        · rw [decide_eq_false (by omega : ¬ (0 : Int) < ((picks.length : Nat) : Int)), cond_false]
          exact hK _ trivial
      · obtain ⟨m, e, b⟩ := mod_eq z (m := (way c i).Takes.Hi - (way c i).Takes.Lo + 1) (by omega) (by omega)
        rw [must_pos (by unfold inI; omega), must_pos (by unfold inI; omega), e, bindO_some, must_pos (by unfold inI; omega), must_pos (room_small (by simp; omega) (by omega)), must_pos (by unfold inI; omega)]
        refine ih (i + 1) (by omega) (by omega) _ (by simp; omega) (fun j hj => ?_)
        unfold Tl
        rw [List.getD_eq_getElem?_getD]
        by_cases h : j < i
        · rw [List.getElem?_append_left (by omega)]
          have := hok j h
          unfold Tl at this
          rwa [List.getD_eq_getElem?_getD] at this
        · have : j = i := by omega
          subst this
          rw [List.getElem?_append_right (by omega), hT, Nat.sub_self]
          show (way c j).Takes.Lo ≤ (way c j).Takes.Lo + m ∧ (way c j).Takes.Lo + m ≤ (way c j).Takes.Hi
          omega
    · refine ⟨T, ?_, isTk_iff.2 ⟨by omega, fun j hj => hok j (by omega)⟩⟩
      rw [decide_eq_false (by omega : ¬ ((i : Nat) : Int) < c.Ways.length), cond_false]

theorem took_eq {fuel : Nat} (hf : 41 ≤ fuel) {c : Chart} (hv : valid c = true) (picks : List Int) : ∃ T, gasolierref03_Took fuel c picks = some T ∧ isTk c T = true := by
  have hl40 := (valid_iff.1 hv).2.1
  exact took_go hv picks fuel 0 (by omega) (by omega) [] rfl (fun j hj => by omega)

/-! ### Minutes compared -/
theorem Mins.cmp {c : Chart} {T U : Nat → Int} {s a a' : Int} {A B : List Int} (hb : ∀ q b', Arr c U s a' q b' → ∃ b, Arr c T s a q b ∧ b ≤ b') (hA : Mins c T s a A) (hB : Mins c U s a' B) (k : Nat) (hk : k < c.Places.toNat) :
    (decide (0 ≤ B.getD k default) && (decide (A.getD k default < 0) || decide (B.getD k default < A.getD k default))) = false := by
  obtain ⟨a1, a2⟩ := hA.lst k hk
  obtain ⟨b1, b2⟩ := hB.lst k hk
  by_cases h : 0 ≤ B.getD k default
  · rw [mrk_pos h] at b2
    obtain ⟨m, e, hm⟩ := b2.better (fun b' => hb k b') a2
    obtain ⟨e1, e2⟩ := mrk_some e
    rw [decide_eq_true h, Bool.true_and, decide_eq_false (by omega), decide_eq_false (by omega)]; rfl
  · rw [decide_eq_false h]; rfl

theorem SureP.ok {c : Chart} {T : Nat → Int} {p a : Int} {r : List Int × Int} (h : SureP c T p a r) (h0 : askE c p a = 0) : r.2 = 0 ∧ Mins c T p a r.1 := by
  rcases h.2 with ⟨h1, _⟩ | ⟨_, h1⟩
  · exact absurd h0 h1
  · exact ⟨h.1.trans h0, h1⟩

theorem askE_ok {c : Chart} {p a : Int} (hv : valid c = true) (hp : 0 ≤ p ∧ p < c.Places) (ha : 0 ≤ a ∧ a ≤ 1439) : askE c p a = 0 := by
  unfold askE
  rw [hv, isMin_iff.2 ha, isPl_iff.2 hp]; rfl

theorem later_go (y3 : Chart × Round) (y8 y10 y12 y14 : List Int × Int) (hP : 0 ≤ y3.1.Places ∧ y3.1.Places ≤ 1000) (l1 : y8.1.length = y3.1.Places.toNat) (l2 : y10.1.length = y3.1.Places.toNat) (l3 : y12.1.length = y3.1.Places.toNat) (l4 : y14.1.length = y3.1.Places.toNat)
    (c1 : ∀ k, k < y3.1.Places.toNat → (decide (0 ≤ y10.1.getD k default) && (decide (y8.1.getD k default < 0) || decide (y10.1.getD k default < y8.1.getD k default))) = false)
    (c2 : ∀ k, k < y3.1.Places.toNat → (decide (0 ≤ y14.1.getD k default) && (decide (y12.1.getD k default < 0) || decide (y14.1.getD k default < y12.1.getD k default))) = false) :
    ∀ (n i : Nat), i ≤ y3.1.Places.toNat → y3.1.Places.toNat - i < n → loopGo ((fun (s17 : Int) k17 => (bif (decide (s17 < y3.1.Places)) then must (0 ≤ (s17 : Int) ∧ (s17 : Int) < ((y10.1.length : Nat) : Int)) <| must (((decide (0 ≤ (y10.1.getD (s17).toNat default))) = true → (0 ≤ (s17 : Int) ∧ (s17 : Int) < ((y8.1.length : Nat) : Int)))) <| must ((((decide (0 ≤ (y10.1.getD (s17).toNat default))) && !(decide ((y8.1.getD (s17).toNat default) < 0))) = true → (0 ≤ (s17 : Int) ∧ (s17 : Int) < ((y8.1.length : Nat) : Int)))) <| must ((((decide (0 ≤ (y10.1.getD (s17).toNat default))) && !(decide ((y8.1.getD (s17).toNat default) < 0))) = true → (0 ≤ (s17 : Int) ∧ (s17 : Int) < ((y10.1.length : Nat) : Int)))) <| must (((!((decide (0 ≤ (y10.1.getD (s17).toNat default))) && ((decide ((y8.1.getD (s17).toNat default) < 0)) || (decide ((y10.1.getD (s17).toNat default) < (y8.1.getD (s17).toNat default)))))) = true → (0 ≤ (s17 : Int) ∧ (s17 : Int) < ((y14.1.length : Nat) : Int)))) <| must ((((!((decide (0 ≤ (y10.1.getD (s17).toNat default))) && ((decide ((y8.1.getD (s17).toNat default) < 0)) || (decide ((y10.1.getD (s17).toNat default) < (y8.1.getD (s17).toNat default)))))) && (decide (0 ≤ (y14.1.getD (s17).toNat default)))) = true → (0 ≤ (s17 : Int) ∧ (s17 : Int) < ((y12.1.length : Nat) : Int)))) <| must (((((!((decide (0 ≤ (y10.1.getD (s17).toNat default))) && ((decide ((y8.1.getD (s17).toNat default) < 0)) || (decide ((y10.1.getD (s17).toNat default) < (y8.1.getD (s17).toNat default)))))) && (decide (0 ≤ (y14.1.getD (s17).toNat default)))) && !(decide ((y12.1.getD (s17).toNat default) < 0))) = true → (0 ≤ (s17 : Int) ∧ (s17 : Int) < ((y12.1.length : Nat) : Int)))) <| must (((((!((decide (0 ≤ (y10.1.getD (s17).toNat default))) && ((decide ((y8.1.getD (s17).toNat default) < 0)) || (decide ((y10.1.getD (s17).toNat default) < (y8.1.getD (s17).toNat default)))))) && (decide (0 ≤ (y14.1.getD (s17).toNat default)))) && !(decide ((y12.1.getD (s17).toNat default) < 0))) = true → (0 ≤ (s17 : Int) ∧ (s17 : Int) < ((y14.1.length : Nat) : Int)))) <| (bif (((decide (0 ≤ (y10.1.getD (s17).toNat default))) && ((decide ((y8.1.getD (s17).toNat default) < 0)) || (decide ((y10.1.getD (s17).toNat default) < (y8.1.getD (s17).toNat default))))) || ((decide (0 ≤ (y14.1.getD (s17).toNat default))) && ((decide ((y12.1.getD (s17).toNat default) < 0)) || (decide ((y14.1.getD (s17).toNat default) < (y12.1.getD (s17).toNat default)))))) then some false else must (inI (s17 + 1)) <| k17 (s17 + 1)) else some true))) n (i : Int) = some true := by
  intro n
  induction n with
  | zero => intro i _ h; omega
  | succ n ih =>
    intro i hi hn
    rw [loopGo_succ]
    by_cases hlt : i < y3.1.Places.toNat
    · have e0 : ((i : Nat) : Int).toNat = i := by omega
      rw [decide_eq_true (by omega : ((i : Nat) : Int) < y3.1.Places), cond_true, e0, must_pos (by omega), must_pos (fun _ => by omega), must_pos (fun _ => by omega), must_pos (fun _ => by omega), must_pos (fun _ => by omega), must_pos (fun _ => by omega), must_pos (fun _ => by omega), must_pos (fun _ => by omega),
        c1 i hlt, c2 i hlt, Bool.or_self, cond_false, must_pos (by unfold inI; omega)]
      exact ih (i + 1) (by omega) (by omega)
    · rw [decide_eq_false (by omega : ¬ ((i : Nat) : Int) < y3.1.Places), cond_false]

theorem roundLater_true (x : gasolierref03_Raw) (more : Int) : gasolierlaw03_RoundLater 20000 x more = some true := by
  unfold gasolierlaw03_RoundLater
  obtain ⟨c, r, e1, M⟩ := made_eq (fuel := 20000) (by omega) x
  obtain ⟨d, e2, hd⟩ := mod_eq more (m := 100) (by omega) (by omega)
  have hv := valid_iff.1 M.val
  obtain ⟨hp, ha, _, _⟩ := isRd_iff.1 M.rd
  have hat := M.at_
  obtain ⟨s1, k1, p1⟩ := sure_eq (Nat.le_refl 20000) c r.Place r.At
  obtain ⟨s2, k2, p2⟩ := sure_eq (Nat.le_refl 20000) c r.Place (r.At + d)
  obtain ⟨s3, k3, p3⟩ := soonest_eq (Nat.le_refl 20000) c r.Place r.At
  obtain ⟨s4, k4, p4⟩ := soonest_eq (Nat.le_refl 20000) c r.Place (r.At + d)
  obtain ⟨z1, q1⟩ := p1.ok (askE_ok M.val hp ha)
  obtain ⟨z2, q2⟩ := p2.ok (askE_ok M.val hp (by omega))
  obtain ⟨z3, q3⟩ := p3.ok (askE_ok M.val hp ha)
  obtain ⟨z4, q4⟩ := p4.ok (askE_ok M.val hp (by omega))
  have hl : ∀ L : List Int, L.length = c.Places.toNat → decide (((L.length : Nat) : Int) = c.Places) = true := fun L h => decide_eq_true (by omega)
  rw [sane_ok, bindO_some, e1, bindO_some, e2, bindO_some]
  rw [must_pos (by unfold inI; dsimp only; omega), k1, bindO_some, k2, bindO_some, k3, bindO_some, k4, bindO_some]
  rw [z1, z2, z3, z4, hl s1.1 q1.len, hl s2.1 q2.len, hl s3.1 q3.len, hl s4.1 q4.len]
  exact later_go (c, r) s1 s2 s3 s4 (by dsimp only; omega) q1.len q2.len q3.len q4.len
    (fun k hk => Mins.cmp (fun q b' h => h.later (net_bo M.val true) (by omega)) q1 q2 k hk)
    (fun k hk => Mins.cmp (fun q b' h => h.later (net_bo M.val false) (by omega)) q3 q4 k hk) 20000 0 (by omega) (by dsimp only; omega)

theorem Mins.start {c : Chart} {T : Nat → Int} (N : Net c T) {s a : Int} {L : List Int} (hs : 0 ≤ s ∧ s < c.Places) (ha : 0 ≤ a ∧ a ≤ 1439) (h : Mins c T s a L) : L.getD s.toNat default = a := by
  obtain ⟨h1, h2⟩ := h.lst s.toNat (by omega)
  rw [show ((s.toNat : Nat) : Int) = s by omega] at h2
  by_cases hn : L.getD s.toNat default < 0
  · rw [mrk_neg hn] at h2
    exact absurd .start (h2 a)
  · rw [mrk_pos (by omega)] at h2
    have g1 := h2.2 a .start
    have g2 := (h2.1.bounds N hs ha).2.1
    omega

theorem isTk_bo {c : Chart} (hv : valid c = true) (high : Bool) : isTk c (c.Ways.map (pickT high)) = true :=
  isTk_iff.2 ⟨by simp, fun i hi => by
    rw [Tl_map]
    have := joins_iff.1 (joins_of hv hi)
    unfold boT pickT
    cases high <;> simp only [cond_true, cond_false] <;> omega⟩

theorem WalkP.ok {c : Chart} {T : List Int} {p a : Int} {r : List Int × Int} (h : WalkP c T p a r) (h0 : askE c p a = 0) (h1 : isTk c T = true) : r.2 = 0 ∧ Mins c (Tl T) p a r.1 := by
  rcases h with ⟨h2, _⟩ | ⟨_, h2, _⟩ | ⟨_, _, h2, h3⟩
  · exact absurd h0 h2
  · rw [h1] at h2; cases h2
  · exact ⟨h2, h3⟩

theorem sureL_go (y3 : Chart × Round) (y7 y9 y11 : List Int × Int) (hP : 0 ≤ y3.1.Places ∧ y3.1.Places ≤ 1000) (hpl : 0 ≤ y3.2.Place ∧ y3.2.Place < y3.1.Places) (l1 : y7.1.length = y3.1.Places.toNat) (l2 : y9.1.length = y3.1.Places.toNat) (l3 : y11.1.length = y3.1.Places.toNat)
    (c1 : ∀ k, k < y3.1.Places.toNat → (decide (0 ≤ y7.1.getD k default) && (decide (y11.1.getD k default < 0) || decide (y7.1.getD k default < y11.1.getD k default))) = false)
    (c2 : ∀ k, k < y3.1.Places.toNat → (decide (0 ≤ y11.1.getD k default) && (decide (y9.1.getD k default < 0) || decide (y11.1.getD k default < y9.1.getD k default))) = false)
    (d1 : y7.1.getD y3.2.Place.toNat default = y3.2.At) (d2 : y11.1.getD y3.2.Place.toNat default = y3.2.At) :
    ∀ (n i : Nat), i ≤ y3.1.Places.toNat → y3.1.Places.toNat - i < n → loopGo ((fun (s26 : Int) k26 => (bif (decide (s26 < y3.1.Places)) then must (0 ≤ (s26 : Int) ∧ (s26 : Int) < ((y7.1.length : Nat) : Int)) <| must (((decide (0 ≤ (y7.1.getD (s26).toNat default))) = true → (0 ≤ (s26 : Int) ∧ (s26 : Int) < ((y11.1.length : Nat) : Int)))) <| must ((((decide (0 ≤ (y7.1.getD (s26).toNat default))) && !(decide ((y11.1.getD (s26).toNat default) < 0))) = true → (0 ≤ (s26 : Int) ∧ (s26 : Int) < ((y11.1.length : Nat) : Int)))) <| must ((((decide (0 ≤ (y7.1.getD (s26).toNat default))) && !(decide ((y11.1.getD (s26).toNat default) < 0))) = true → (0 ≤ (s26 : Int) ∧ (s26 : Int) < ((y7.1.length : Nat) : Int)))) <| must (((!((decide (0 ≤ (y7.1.getD (s26).toNat default))) && ((decide ((y11.1.getD (s26).toNat default) < 0)) || (decide ((y7.1.getD (s26).toNat default) < (y11.1.getD (s26).toNat default)))))) = true → (0 ≤ (s26 : Int) ∧ (s26 : Int) < ((y11.1.length : Nat) : Int)))) <| must ((((!((decide (0 ≤ (y7.1.getD (s26).toNat default))) && ((decide ((y11.1.getD (s26).toNat default) < 0)) || (decide ((y7.1.getD (s26).toNat default) < (y11.1.getD (s26).toNat default)))))) && (decide (0 ≤ (y11.1.getD (s26).toNat default)))) = true → (0 ≤ (s26 : Int) ∧ (s26 : Int) < ((y9.1.length : Nat) : Int)))) <| must (((((!((decide (0 ≤ (y7.1.getD (s26).toNat default))) && ((decide ((y11.1.getD (s26).toNat default) < 0)) || (decide ((y7.1.getD (s26).toNat default) < (y11.1.getD (s26).toNat default)))))) && (decide (0 ≤ (y11.1.getD (s26).toNat default)))) && !(decide ((y9.1.getD (s26).toNat default) < 0))) = true → (0 ≤ (s26 : Int) ∧ (s26 : Int) < ((y9.1.length : Nat) : Int)))) <| must (((((!((decide (0 ≤ (y7.1.getD (s26).toNat default))) && ((decide ((y11.1.getD (s26).toNat default) < 0)) || (decide ((y7.1.getD (s26).toNat default) < (y11.1.getD (s26).toNat default)))))) && (decide (0 ≤ (y11.1.getD (s26).toNat default)))) && !(decide ((y9.1.getD (s26).toNat default) < 0))) = true → (0 ≤ (s26 : Int) ∧ (s26 : Int) < ((y11.1.length : Nat) : Int)))) <| (bif (((decide (0 ≤ (y7.1.getD (s26).toNat default))) && ((decide ((y11.1.getD (s26).toNat default) < 0)) || (decide ((y7.1.getD (s26).toNat default) < (y11.1.getD (s26).toNat default))))) || ((decide (0 ≤ (y11.1.getD (s26).toNat default))) && ((decide ((y9.1.getD (s26).toNat default) < 0)) || (decide ((y11.1.getD (s26).toNat default) < (y9.1.getD (s26).toNat default)))))) then some false else must (inI (s26 + 1)) <| k26 (s26 + 1)) else must (0 ≤ (y3.2.Place : Int) ∧ (y3.2.Place : Int) < ((y7.1.length : Nat) : Int)) <| must (((decide ((y7.1.getD (y3.2.Place).toNat default) = y3.2.At)) = true → (0 ≤ (y3.2.Place : Int) ∧ (y3.2.Place : Int) < ((y11.1.length : Nat) : Int)))) <| some ((decide ((y7.1.getD (y3.2.Place).toNat default) = y3.2.At)) && (decide ((y11.1.getD (y3.2.Place).toNat default) = y3.2.At)))))) n (i : Int) = some true := by
  intro n
  induction n with
  | zero => intro i _ h; omega
  | succ n ih =>
    intro i hi hn
    rw [loopGo_succ]
    by_cases hlt : i < y3.1.Places.toNat
    · have e0 : ((i : Nat) : Int).toNat = i := by omega
      rw [decide_eq_true (by omega : ((i : Nat) : Int) < y3.1.Places), cond_true, e0, must_pos (by omega), must_pos (fun _ => by omega), must_pos (fun _ => by omega), must_pos (fun _ => by omega), must_pos (fun _ => by omega), must_pos (fun _ => by omega), must_pos (fun _ => by omega), must_pos (fun _ => by omega),
        c1 i hlt, c2 i hlt, Bool.or_self, cond_false, must_pos (by unfold inI; omega)]
      exact ih (i + 1) (by omega) (by omega)
    · rw [decide_eq_false (by omega : ¬ ((i : Nat) : Int) < y3.1.Places), cond_false, must_pos (by omega), must_pos (fun _ => by omega), decide_eq_true d1, decide_eq_true d2]; rfl

theorem roundSure_true (x : gasolierref03_Raw) (picks : List Int) : gasolierlaw03_RoundSure 20000 x picks = some true := by
  unfold gasolierlaw03_RoundSure
  obtain ⟨c, r, e1, M⟩ := made_eq (fuel := 20000) (by omega) x
  have hv := valid_iff.1 M.val
  obtain ⟨hp, ha, _, _⟩ := isRd_iff.1 M.rd
  obtain ⟨T, e2, ht⟩ := took_eq (fuel := 20000) (by omega) M.val picks
  obtain ⟨s1, k1, p1⟩ := sure_eq (Nat.le_refl 20000) c r.Place r.At
  obtain ⟨s2, k2, p2⟩ := soonest_eq (Nat.le_refl 20000) c r.Place r.At
  obtain ⟨s3, k3, p3⟩ := walked_eq (Nat.le_refl 20000) c T r.Place r.At
  obtain ⟨s4, k4, p4⟩ := walked_eq (Nat.le_refl 20000) c (c.Ways.map (pickT true)) r.Place r.At
  obtain ⟨s5, k5, p5⟩ := walked_eq (Nat.le_refl 20000) c (c.Ways.map (pickT false)) r.Place r.At
  have h0 := askE_ok M.val hp ha
  obtain ⟨z1, q1⟩ := p1.ok h0
  obtain ⟨z2, q2⟩ := p2.ok h0
  obtain ⟨z3, q3⟩ := p3.ok h0 ht
  obtain ⟨z4, q4⟩ := p4.ok h0 (isTk_bo M.val true)
  obtain ⟨z5, q5⟩ := p5.ok h0 (isTk_bo M.val false)
  rw [Tl_map] at q4 q5
  have a1 := q4.unique q1
  have a2 := q5.unique q2
  have hl : ∀ L : List Int, L.length = c.Places.toNat → decide (((L.length : Nat) : Int) = c.Places) = true := fun L h => decide_eq_true (by omega)
  have l1 := q1.len
  have l2 := q2.len
  have l3 := q3.len
  rw [sane_ok, bindO_some, e1, bindO_some, e2, bindO_some, k1, bindO_some, k2, bindO_some, k3, bindO_some, least_eq (by omega) M.val, bindO_some, k4, bindO_some, least_eq (by omega) M.val, bindO_some, k5, bindO_some,
    a1, same_self (by omega) s1.1 (by omega), bindO_some, a2, same_self (by omega) s2.1 (by omega), bindO_some, z1, z2, z3, z4, z5, hl s1.1 l1, hl s2.1 l2, hl s3.1 l3]
  have tk := (isTk_iff.1 ht).2
  exact sureL_go (c, r) s1 s2 s3 (by dsimp only; omega) hp l1 l2 l3
    (fun k hk => Mins.cmp (fun q b' h => h.less (net_tk M.val ht) (fun i hi => (tk i hi).2)) q3 q1 k hk)
    (fun k hk => Mins.cmp (fun q b' h => h.less (net_bo M.val false) (fun i hi => (tk i hi).1)) q2 q3 k hk)
    (q1.start (net_bo M.val true) hp ha) (q3.start (net_tk M.val ht) hp ha) 20000 0 (by omega) (by dsimp only; omega)

end Go.Sp
