/- Plain laws: what numbers determine; RoundLater, RoundSure. No program in sight. -/
import Derived.Test.YtjeolkdhicmhgaaRPlG
set_option linter.all false
namespace Go.Sp
open Go.Av
set_option maxRecDepth 100000
theorem mod_eq (n : Int) {m : Int} (h0 : 0 < m) (h1 : m ≤ 1000000) : ∃ y, gasolierref03_Mod n m = some y ∧ 0 ≤ y ∧ y < m := by
  have a1 := Int.tmod_lt_of_pos n h0
  have a2 : -m < Int.tmod n m := by
    exact Int.lt_tmod_of_pos n h0
  have a3 := Int.tmod_nonneg m (a := Int.tmod n m + m) (by omega)
  have a4 := Int.tmod_lt_of_pos (Int.tmod n m + m) h0
  unfold gasolierref03_Mod
  rw [must_pos (by omega), must_pos (by unfold inI; omega), must_pos (by omega)]
  exact ⟨_, rfl, a3, a4⟩
theorem to_eq {P a b : Int} (hP : 2 ≤ P ∧ P ≤ 6) (ha : 0 ≤ a ∧ a < P) (hb : 0 ≤ b ∧ b < P - 1) : (0 ≤ Int.tmod (a + 1 + b) P ∧ Int.tmod (a + 1 + b) P < P) ∧ a ≠ Int.tmod (a + 1 + b) P := by
  rw [Int.tmod_eq_emod_of_nonneg (by omega)]
  have : P = 2 ∨ P = 3 ∨ P = 4 ∨ P = 5 ∨ P = 6 := by omega
  rcases this with rfl | rfl | rfl | rfl | rfl <;> omega
def mdStop (p0 : gasolierref03_Raw) (y1 y39 y41 : Int) (W : List Way) : (Int × Int × (List Stop)) → ((Int × Int × (List Stop)) → Option (Chart × Round)) → Option (Chart × Round) := (fun (s43 : Int × Int × (List Stop)) k43 => (bif ((decide (s43.2.1 < ((p0.Stops.length : Nat) : Int))) && (decide (s43.2.1 < 5))) then must (0 ≤ (s43.2.1 : Int) ∧ (s43.2.1 : Int) < ((p0.Stops.length : Nat) : Int)) <| bindO (gasolierref03_Mod ((p0.Stops.getD (s43.2.1).toNat default).x0) (2 + y1)) fun y46 => bindO (gasolierref03_Mod ((p0.Stops.getD (s43.2.1).toNat default).x3) 9) fun y48 => bindO (gasolierref03_Mod ((p0.Stops.getD (s43.2.1).toNat default).x1) 40) fun y50 => must (inI (s43.1 + y50)) <| must (inI ((s43.1 + y50) - 10)) <| bindO (gasolierref03_Mod ((p0.Stops.getD (s43.2.1).toNat default).x2) 60) fun y54 => must (inI ((max ((s43.1 + y50) - 10) 0) + y54)) <| must (room (s43.2.2 ++ ([(⟨y46, (⟨(max ((s43.1 + y50) - 10) 0), ((max ((s43.1 + y50) - 10) 0) + y54)⟩ : Range), y48⟩ : Stop)] : List Stop)).length 32) <| must (inI (s43.2.1 + 1)) <| k43 ((max ((s43.1 + y50) - 10) 0), (s43.2.1 + 1), (s43.2.2 ++ ([(⟨y46, (⟨(max ((s43.1 + y50) - 10) 0), ((max ((s43.1 + y50) - 10) 0) + y54)⟩ : Range), y48⟩ : Stop)] : List Stop))) else some ((⟨(2 + y1), W⟩ : Chart), (⟨y39, y41, s43.2.2⟩ : Round))))
def mdWay (fuel : Nat) (p0 : gasolierref03_Raw) (y1 : Int) : (Int × (List Way)) → ((Int × (List Way)) → Option (Chart × Round)) → Option (Chart × Round) := (fun (s4 : Int × (List Way)) k4 => (bif ((decide (s4.1 < ((p0.Ways.length : Nat) : Int))) && (decide (s4.1 < 12))) then must (0 ≤ (s4.1 : Int) ∧ (s4.1 : Int) < ((p0.Ways.length : Nat) : Int)) <| bindO (gasolierref03_Mod ((p0.Ways.getD (s4.1).toNat default).x0) (2 + y1)) fun y7 => must (inI (y7 + 1)) <| must (inI ((2 + y1) - 1)) <| bindO (gasolierref03_Mod ((p0.Ways.getD (s4.1).toNat default).x1) ((2 + y1) - 1)) fun y11 => must (inI ((y7 + 1) + y11)) <| must (((2 + y1) : Int) ≠ 0) <| bindO (gasolierref03_Mod ((p0.Ways.getD (s4.1).toNat default).x2) 20) fun y15 => must (inI (1 + y15)) <| bindO (gasolierref03_Mod ((p0.Ways.getD (s4.1).toNat default).x3) 12) fun y18 => must (inI ((1 + y15) + y18)) <| bindO (gasolierref03_Mod ((p0.Ways.getD (s4.1).toNat default).x4) 3) fun y21 => (joinK (fun (k23 : Way → _) => (bif (decide (0 < y21)) then bindO (gasolierref03_Mod ((p0.Ways.getD (s4.1).toNat default).x5) 200) fun y34 => bindO (gasolierref03_Mod ((p0.Ways.getD (s4.1).toNat default).x6) 150) fun y36 => must (inI (y34 + y36)) <| k23 (⟨y7, (Int.tmod ((y7 + 1) + y11) (2 + y1)), (⟨(1 + y15), ((1 + y15) + y18)⟩ : Range), (⟨y34, (y34 + y36)⟩ : Range), 0⟩ : Way) else k23 (⟨y7, (Int.tmod ((y7 + 1) + y11) (2 + y1)), (⟨(1 + y15), ((1 + y15) + y18)⟩ : Range), (⟨0, 1439⟩ : Range), 0⟩ : Way))) (fun (s23 : Way) => bindO (gasolierref03_Mod ((p0.Ways.getD (s4.1).toNat default).x4) 3) fun y24 => (joinK (fun (k26 : Way → _) => (bif (decide (y24 = 2)) then bindO (gasolierref03_Mod ((p0.Ways.getD (s4.1).toNat default).x6) 40) fun y30 => must (inI (1 + y30)) <| k26 (⟨s23.From, s23.To, s23.Takes, s23.Open, (1 + y30)⟩ : Way) else k26 s23)) (fun (s26 : Way) => must (room (s4.2 ++ ([s26] : List Way)).length 56) <| must (inI (s4.1 + 1)) <| k4 ((s4.1 + 1), (s4.2 ++ ([s26] : List Way))))))) else bindO (gasolierref03_Mod p0.Round.x0 (2 + y1)) fun y39 => bindO (gasolierref03_Mod p0.Round.x1 150) fun y41 => (loopGo (mdStop p0 y1 y39 y41 s4.2) fuel (y41, 0, ([] : List Stop)))))
theorem made_unfold (fuel : Nat) (p0 : gasolierref03_Raw) : gasolierref03_Made fuel p0 = bindO (gasolierref03_Mod p0.Places 5) fun y1 => must (inI (2 + y1)) (loopGo (mdWay fuel p0 y1) fuel (0, ([] : List Way))) := rfl
structure MadeP (c : Chart) (r : Round) : Prop where
  val : valid c = true
  rd : isRd c r = true
  ways : c.Ways.length ≤ 12
  pl : 2 ≤ c.Places ∧ c.Places ≤ 6
  at_ : r.At < 150
theorem stop_go (p0 : gasolierref03_Raw) (y1 y39 y41 : Int) (W : List Way) (h1 : 0 ≤ y1 ∧ y1 < 5) : ∀ (n i : Nat), i ≤ 5 → 5 - i < n → ∀ (a : Int) (S : List Stop), (0 ≤ a ∧ a ≤ 149 + 29 * i) → S.length = i → (∀ s ∈ S, okStop ⟨2 + y1, W⟩ s = true) →
    ∃ S', loopGo (mdStop p0 y1 y39 y41 W) n (a, (i : Int), S) = some (⟨2 + y1, W⟩, ⟨y39, y41, S'⟩) ∧ S'.length ≤ 5 ∧ ∀ s ∈ S', okStop ⟨2 + y1, W⟩ s = true := by
  intro n
  induction n with
  | zero => intro i _ h; omega
  | succ n ih =>
    intro i hi hn a S ha hS hok
    rw [loopGo_succ]
    unfold mdStop
    dsimp only
    by_cases hlt : i < p0.Stops.length ∧ i < 5
    · rw [decide_eq_true (by omega : ((i : Nat) : Int) < p0.Stops.length), decide_eq_true (by omega : ((i : Nat) : Int) < 5), Bool.and_self, cond_true, must_pos (by omega)]
      obtain ⟨m1, e1, b1⟩ := mod_eq ((p0.Stops.getD ((i : Int)).toNat default).x0) (m := 2 + y1) (by omega) (by omega)
      obtain ⟨m2, e2, b2⟩ := mod_eq ((p0.Stops.getD ((i : Int)).toNat default).x3) (m := 9) (by omega) (by omega)
      obtain ⟨m3, e3, b3⟩ := mod_eq ((p0.Stops.getD ((i : Int)).toNat default).x1) (m := 40) (by omega) (by omega)
      obtain ⟨m4, e4, b4⟩ := mod_eq ((p0.Stops.getD ((i : Int)).toNat default).x2) (m := 60) (by omega) (by omega)
      rw [e1, bindO_some, e2, bindO_some, e3, bindO_some, must_pos (by unfold inI; omega), must_pos (by unfold inI; omega), e4, bindO_some, must_pos (by unfold inI; omega), must_pos (room_small (by simp; omega) (by omega)), must_pos (by unfold inI; omega)]
      refine ih (i + 1) (by omega) (by omega) _ _ (by omega) (by simp; omega) (fun s hs => ?_)
      rcases List.mem_append.1 hs with hs | hs
      · exact hok s hs
      · rw [List.mem_singleton] at hs
        subst hs
        refine okStop_iff.2 ?_
        dsimp only
        omega
    · have : (decide (((i : Nat) : Int) < p0.Stops.length) && decide (((i : Nat) : Int) < 5)) = false := by
        rw [Bool.and_eq_false_iff, decide_eq_false_iff_not, decide_eq_false_iff_not]; omega
      rw [this, cond_false]
      exact ⟨S, rfl, by omega, hok⟩
theorem joinK_ex {S R : Type} {f : (S → R) → R} {k : S → R} (Q : R → Prop) (G : S → Prop) (hf : ∀ K : S → R, (∀ w, G w → Q (K w)) → Q (f K)) (hk : ∀ w, G w → Q (k w)) : Q (joinK f k) := hf k hk
def MadeQ (z : Option (Chart × Round)) : Prop := ∃ c r, z = some (c, r) ∧ MadeP c r
def GoodW (y1 : Int) (w : Way) : Prop := (∀ X, round_joins ⟨2 + y1, X⟩ w = true) ∧ ∀ e, 1 ≤ e ∧ e ≤ 40 → ∀ X, round_joins ⟨2 + y1, X⟩ ⟨w.From, w.To, w.Takes, w.Open, e⟩ = true
theorem way_go (fuel : Nat) (hf : 41 ≤ fuel) (p0 : gasolierref03_Raw) (y1 : Int) (h1 : 0 ≤ y1 ∧ y1 < 5) : ∀ (n i : Nat), i ≤ 12 → 12 - i < n → ∀ (W : List Way), W.length = i → (∀ w ∈ W, ∀ X, round_joins ⟨2 + y1, X⟩ w = true) →
    MadeQ (loopGo (mdWay fuel p0 y1) n ((i : Int), W)) := by
  intro n
  induction n with
  | zero => intro i _ h; omega
  | succ n ih =>
    intro i hi hn W hW hok
    rw [loopGo_succ]
    generalize hZ : loopGo (mdWay fuel p0 y1) n = Z at ih ⊢
    unfold mdWay
    dsimp only
    by_cases hlt : i < p0.Ways.length ∧ i < 12
    · rw [decide_eq_true (by omega : ((i : Nat) : Int) < p0.Ways.length), decide_eq_true (by omega : ((i : Nat) : Int) < 12), Bool.and_self, cond_true, must_pos (by omega)]
      generalize p0.Ways.getD ((i : Int)).toNat default = q
      obtain ⟨m0, e0, b0⟩ := mod_eq q.x0 (m := 2 + y1) (by omega) (by omega)
      obtain ⟨m1, e1, b1⟩ := mod_eq q.x1 (m := 2 + y1 - 1) (by omega) (by omega)
      obtain ⟨m2, e2, b2⟩ := mod_eq q.x2 (m := 20) (by omega) (by omega)
      obtain ⟨m3, e3, b3⟩ := mod_eq q.x3 (m := 12) (by omega) (by omega)
      obtain ⟨m4, e4, b4⟩ := mod_eq q.x4 (m := 3) (by omega) (by omega)
      obtain ⟨m5, e5, b5⟩ := mod_eq q.x5 (m := 200) (by omega) (by omega)
      obtain ⟨m6, e6, b6⟩ := mod_eq q.x6 (m := 150) (by omega) (by omega)
      obtain ⟨m7, e7, b7⟩ := mod_eq q.x6 (m := 40) (by omega) (by omega)
      obtain ⟨t1, t2⟩ := to_eq (P := 2 + y1) (a := m0) (b := m1) (by omega) b0 b1
      rw [e0, bindO_some, must_pos (by unfold inI; omega), must_pos (by unfold inI; omega), e1, bindO_some, must_pos (by unfold inI; omega), must_pos (by omega), e2, bindO_some, must_pos (by unfold inI; omega), e3, bindO_some, must_pos (by unfold inI; omega), e4, bindO_some]
      refine joinK_ex MadeQ (GoodW y1) (fun K hK => ?_) (fun w hw => ?_)
      · by_cases h4 : 0 < m4
        · rw [decide_eq_true h4, cond_true, e5, bindO_some, e6, bindO_some, must_pos (by unfold inI; omega)]
          exact hK _ ⟨fun X => joins_iff.2 (by dsimp only; omega), fun e he X => joins_iff.2 (by dsimp only; omega)⟩
        · rw [decide_eq_false h4, cond_false]
          exact hK _ ⟨fun X => joins_iff.2 (by dsimp only; omega), fun e he X => joins_iff.2 (by dsimp only; omega)⟩
      · rw [bindO_some]
        refine joinK_ex MadeQ (fun w => ∀ X, round_joins ⟨2 + y1, X⟩ w = true) (fun K hK => ?_) (fun w hw => ?_)
        · by_cases h42 : m4 = 2
          · rw [decide_eq_true h42, cond_true, e7, bindO_some, must_pos (by unfold inI; omega)]
            exact hK _ (hw.2 _ (by omega))
          · rw [decide_eq_false h42, cond_false]
            exact hK _ hw.1
        · rw [must_pos (room_small (by simp; omega) (by omega)), must_pos (by unfold inI; omega)]
          refine ih (i + 1) (by omega) (by omega) _ (by simp; omega) (fun s hs => ?_)
          rcases List.mem_append.1 hs with hs | hs
          · exact hok s hs
          · rw [List.mem_singleton] at hs
            subst hs; exact hw
    · have : (decide (((i : Nat) : Int) < p0.Ways.length) && decide (((i : Nat) : Int) < 12)) = false := by
        rw [Bool.and_eq_false_iff, decide_eq_false_iff_not, decide_eq_false_iff_not]; omega
      rw [this, cond_false]
      obtain ⟨m0, e0, b0⟩ := mod_eq p0.Round.x0 (m := 2 + y1) (by omega) (by omega)
      obtain ⟨m1, e1, b1⟩ := mod_eq p0.Round.x1 (m := 150) (by omega) (by omega)
      rw [e0, bindO_some, e1, bindO_some]
      obtain ⟨S', e, h2, h3⟩ := stop_go p0 y1 m0 m1 W h1 fuel 0 (by omega) (by omega) m1 [] (by omega) rfl (fun s hs => by cases hs)
      refine ⟨_, _, e, valid_iff.2 ⟨by dsimp only; omega, by dsimp only; omega, fun w hw => hok w hw _⟩, isRd_iff.2 ⟨by dsimp only; omega, by dsimp only; omega, by dsimp only; omega, h3⟩, by dsimp only; omega, by dsimp only; omega, by dsimp only; omega⟩
theorem made_eq {fuel : Nat} (hf : 41 ≤ fuel) (x : gasolierref03_Raw) : ∃ c r, gasolierref03_Made fuel x = some (c, r) ∧ MadeP c r := by
  rw [made_unfold]
  obtain ⟨m0, e0, b0⟩ := mod_eq x.Places (m := 5) (by omega) (by omega)
  rw [e0, bindO_some, must_pos (by unfold inI; omega)]
  exact way_go fuel hf x m0 (by omega) fuel 0 (by omega) (by omega) [] rfl (fun w hw => by cases hw)
theorem SureP.ok {c : Chart} {T : Nat → Int} {p a : Int} {r : List Int × Int} (h : SureP c T p a r) (h0 : askE c p a = 0) : r.2 = 0 ∧ Mins c T p a r.1 := by
  rcases h.2 with ⟨h1, _⟩ | ⟨_, h1⟩
  · exact absurd h0 h1
  · exact ⟨h.1.trans h0, h1⟩
theorem askE_ok {c : Chart} {p a : Int} (hv : valid c = true) (hp : 0 ≤ p ∧ p < c.Places) (ha : 0 ≤ a ∧ a ≤ 1439) : askE c p a = 0 := by
  unfold askE
  rw [hv, isMin_iff.2 ha, isPl_iff.2 hp]; rfl
theorem Mins.start {c : Chart} {T : Nat → Int} (N : Net c T) {s a : Int} {L : List Int} (hs : 0 ≤ s ∧ s < c.Places) (ha : 0 ≤ a ∧ a ≤ 1439) (h : Mins c T s a L) : L.getD s.toNat default = a := by
  obtain ⟨h1, h2⟩ := h.lst s.toNat (by omega)
  rw [show ((s.toNat : Nat) : Int) = s by omega] at h2
  by_cases hn : L.getD s.toNat default < 0
  · rw [mrk_neg hn] at h2
    exact absurd .start (h2 a)
  · rw [mrk_pos (by omega)] at h2
    have g1 := h2.2 a .start
    have g2 := (h2.1.bounds N hs ha).2.1
    omega
theorem WalkP.ok {c : Chart} {T : List Int} {p a : Int} {r : List Int × Int} (h : WalkP c T p a r) (h0 : askE c p a = 0) (h1 : isTk c T = true) : r.2 = 0 ∧ Mins c (Tl T) p a r.1 := by
  rcases h with ⟨h2, _⟩ | ⟨_, h2, _⟩ | ⟨_, _, h2, h3⟩
  · exact absurd h0 h2
  · rw [h1] at h2; cases h2
  · exact ⟨h2, h3⟩
end Go.Sp
