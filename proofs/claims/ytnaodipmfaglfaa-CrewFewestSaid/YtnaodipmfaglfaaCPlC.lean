/- Plain laws, crew: pairs of tasks; how many rounds the program and the chapter find. No program in sight. -/
import Derived.Test.YtnaodipmfaglfaaCPlB
set_option linter.all false
namespace Go.Sp
open Go.Av
set_option maxRecDepth 100000
def ab (l : List Int) : Nat → Int := fun k => l.getD k (-1)
def sb (x : Int) : Nat → Bool := fun k => x.toNat.testBit k
theorem ab_lt {l : List Int} {k : Nat} (h : k < l.length) : ab l k = l.getD k default := by
  unfold ab
  rw [List.getD_eq_getElem?_getD, List.getD_eq_getElem?_getD, List.getElem?_eq_getElem h]; rfl
theorem ab_ge {l : List Int} {k : Nat} (h : l.length ≤ k) : ab l k = -1 := by
  unfold ab
  rw [List.getD_eq_getElem?_getD, List.getElem?_eq_none h]; rfl
theorem ab_set {l : List Int} {i : Nat} {x : Int} (h : i < l.length) : ab (l.set i x) = fun k => if k = i then x else ab l k := by
  funext k; unfold ab; exact getD_set l i k x (-1) h
structure PS (n : Nat) (own back : List Int) : Prop where
  ol : own.length = n
  bl : back.length = n
  ok : ∀ k, k < n → -1 ≤ ab own k ∧ ab own k < n
structure SB (n : Nat) (x : Int) : Prop where
  nn : 0 ≤ x
  lt : x.toNat < 2 ^ n
theorem SB.zero (n : Nat) : SB n 0 := ⟨by omega, by exact Nat.pow_pos (by omega)⟩
theorem SB.inI {n : Nat} {x : Int} (h : SB n x) (hn : n ≤ 24) : inI x := by
  have := pow24 hn
  have := h.lt
  have := h.nn
  unfold Av.inI; omega
theorem SB.put {n j : Nat} {x : Int} (h : SB n x) (hj : j < n) : SB n (((x.toNat ||| (((1 : Int) * 2 ^ j)).toNat : Nat) : Int)) := by
  rw [pow_nat, Int.toNat_natCast]
  exact ⟨Int.natCast_nonneg _, by rw [Int.toNat_natCast]; exact or_lt h.lt hj⟩
theorem sb_put {j : Nat} {x : Int} : sb (((x.toNat ||| (((1 : Int) * 2 ^ j)).toNat : Nat) : Int)) = fun k => sb x k || decide (k = j) := by
  funext k
  unfold sb
  rw [pow_nat, Int.toNat_natCast, Int.toNat_natCast, or_bit]
def ks (own back : List Int) (seen : Int) : Ks := ⟨sb seen, ab own, ab back⟩
theorem ks_see {own back : List Int} {seen : Int} {j : Nat} : ks own back (((seen.toNat ||| (((1 : Int) * 2 ^ j)).toNat : Nat) : Int)) = (ks own back seen).see j := by
  unfold ks Ks.see; rw [sb_put]
theorem ks_give {own back : List Int} {seen : Int} {i j : Nat} (ho : j < own.length) (hb : i < back.length) : ks (own.set j (i : Int)) (back.set i (j : Int)) seen = (ks own back seen).give j i := by
  unfold ks Ks.give; rw [ab_set ho, ab_set hb]
section
variable {n : Nat} {adj : Nat → Nat → Prop} {p : crew_plan}
theorem followers_eq (IP : IsPlan n adj p) {i : Nat} (hi : i < n) : crew_plan__followers_1 p (i : Int) = some (flw n (fun j => (p.next.getD i default).toNat.testBit j) 0) := by
  have hn := IP.le
  have hl := IP.len
  obtain ⟨h1, h2, _⟩ := IP.bits i hi
  unfold crew_plan__followers_1
  rw [must_yes (by omega), emit_range (fun j => (p.next.getD i default).toNat.testBit j) (fun j => (j : Int)) (fun j r hj => ?_)]
  · unfold flw; rw [hl, Nat.sub_zero]
  · have e0 : ((i : Int)).toNat = i := rfl
    have e1 : ((j : Int)).toNat = j := rfl
    rw [e0, e1, must_yes (by omega), must_yes (by omega), must_yes (bit_rng h1 h2 hn), bit_dec h1]
theorem pair_step (IP : IsPlan n adj p) (fuel : Nat) : ∀ (f i : Nat) (own back : List Int) (seen : Int), i < n → PS n own back → SB n seen → mu n (sb seen) < f →
    Wp (crew_plan__pair_1_l fuel f (i : Int) p seen own back) (fun r => PS n r.2.2.1 r.2.2.2 ∧ SB n r.2.1 ∧ Srch adj n i 0 (ks own back seen) r.1 (ks r.2.2.1 r.2.2.2 r.2.1)) := by
  have hn := IP.le
  intro f
  induction f with
  | zero => intro i own back seen _ _ _ h; omega
  | succ f ih =>
    intro i own back seen hi hP hS hmu
    show Wp (crew_plan__pair_1_l_F fuel (crew_plan__pair_1_l fuel f) (i : Int) p seen own back) _
    unfold crew_plan__pair_1_l_F
    refine wp_bindE (followers_eq IP hi) ?_
    obtain ⟨_, _, hbit⟩ := IP.bits i hi
    refine wp_flw n _ (fun j s => PS n s.1 s.2.1 ∧ SB n s.2.2 ∧ mu n (sb s.2.2) ≤ mu n (sb seen) ∧ ∀ b s', Srch adj n i j (ks s.1 s.2.1 s.2.2) b s' → Srch adj n i 0 (ks own back seen) b s')
      ⟨hP, hS, Nat.le_refl _, fun _ _ h => h⟩ (fun j s hj hW hI => ⟨hI.1, hI.2.1, hI.2.2.1, fun b s' h => hI.2.2.2 b s' (.skip hj (fun ha => by
        have := (hbit j hj).2 ha
        rw [hW] at this; cases this) h)⟩) (fun j s K hj hW hI hK => ?_) (fun s hI => wp_some ⟨hI.1, hI.2.1, hI.2.2.2 _ _ (.done (Nat.le_refl _))⟩)
    obtain ⟨own1, back1, seen1⟩ := s
    obtain ⟨hP1, hS1, hmu1, hsr⟩ := hI
    dsimp only at hP1 hS1 hmu1 hsr hK ⊢
    have hadj := (hbit j hj).1 hW
    have e1 : ((j : Int)).toNat = j := rfl
    have e2 : ((i : Int)).toNat = i := rfl
    rw [e1, e2]
    have hp := pow_rng hj hn
    refine wp_must (by omega) (wp_must (bit_rng hS1.nn hS1.lt hn) ?_)
    rw [bit_dec hS1.nn]
    refine wp_bif (fun hs => hK _ ⟨hP1, hS1, hmu1, fun b s' h => hsr b s' (.skip hj (fun _ => hs) h)⟩) (fun hs => ?_)
    have hol := hP1.ol
    have hbl := hP1.bl
    refine wp_must ⟨by omega, by omega, by unfold inI; omega⟩ (wp_must ⟨hS1.nn, hp.1, hS1.inI hn, by unfold inI; omega⟩ (wp_must (by omega) (wp_must (fun _ => by omega) ?_)))
    have hS2 := hS1.put hj
    have hsee := @ks_see own1 back1 seen1 j
    have hmu2 : mu n (sb (((seen1.toNat ||| (((1 : Int) * 2 ^ j)).toNat : Nat) : Int))) < mu n (sb seen1) := by
      rw [sb_put]
      exact mu_lt (j := j) (fun k h => by simp [h]) hj hs (by simp)
    generalize (((seen1.toNat ||| (((1 : Int) * 2 ^ j)).toNat : Nat) : Int)) = seen2 at hS2 hsee hmu2
    have ho : own1.getD j default = ab own1 j := (ab_lt (by omega)).symm
    rw [ho]
    have hok := hP1.ok j hj
    refine wp_bind (Q := fun y => PS n y.2.2.1 y.2.2.2 ∧ SB n y.2.1 ∧ mu n (sb y.2.1) ≤ mu n (sb seen1) ∧ ((ab own1 j < 0 ∧ y = (default, seen2, own1, back1)) ∨ ∃ o : Nat, ab own1 j = (o : Int) ∧ Srch adj n o 0 ((ks own1 back1 seen1).see j) y.1 (ks y.2.2.1 y.2.2.2 y.2.1))) ?_ (fun y hy => ?_)
    · by_cases h0 : ab own1 j < 0
      · rw [decide_eq_true h0]
        exact wp_some ⟨hP1, hS2, by dsimp only; omega, .inl ⟨h0, rfl⟩⟩
      · rw [decide_eq_false h0]
        obtain ⟨o, ho'⟩ := Int.eq_ofNat_of_zero_le (show 0 ≤ ab own1 j by omega)
        rw [ho']
        refine (ih o own1 back1 seen2 (by omega) hP1 hS2 (by omega)).mono (fun r hr => ⟨hr.1, hr.2.1, ?_, .inr ⟨o, rfl, by rw [← hsee]; exact hr.2.2⟩⟩)
        have := mu_mono (n := n) hr.2.2.mono
        exact Nat.le_trans this (by show mu n (sb seen2) ≤ _; omega)
    · obtain ⟨b, seen3, own3, back3⟩ := y
      obtain ⟨hP3, hS3, hmu3, hy⟩ := hy
      dsimp only at hP3 hS3 hmu3 hy ⊢
      have hol3 := hP3.ol
      have hbl3 := hP3.bl
      refine wp_must (by omega) (wp_must (by omega) (wp_bif (fun hb => ?_) (fun hb => ?_)))
      · refine wp_must (by omega) (wp_must (by omega) (wp_some ⟨⟨by rw [List.length_set]; exact hol3, by rw [List.length_set]; exact hbl3, fun k hk => ?_⟩, hS3, hsr _ _ ?_⟩))
        · show -1 ≤ ab (own3.set j (i : Int)) k ∧ ab (own3.set j (i : Int)) k < n
          rw [ab_set (by omega)]
          dsimp only
          split
          · omega
          · exact hP3.ok k hk
        · dsimp only
          rw [ks_give (by omega) (by omega)]
          rcases hy with ⟨h0, e⟩ | ⟨o, h0, h1⟩
          · cases e
            rw [hsee]
            exact .free hj hadj hs h0
          · rw [decide_eq_false (by omega)] at hb
            have hb : b = true := by simpa using hb
            subst hb
            exact .aug hj hadj hs h0 h1
      · refine hK _ ⟨hP3, hS3, by dsimp only; omega, fun b' s' h => ?_⟩
        rcases hy with ⟨h0, e⟩ | ⟨o, h0, h1⟩
        · rw [decide_eq_true h0] at hb; simp at hb
        · have hb2 : b = false := by
            cases b with
            | false => rfl
            | true => simp at hb
          subst hb2
          exact hsr _ _ (.fail hj hadj hs h0 h1 h)
theorem pair_wp (IP : IsPlan n adj p) {fuel : Nat} (hf : 25 ≤ fuel) : Wp (crew_plan__pair fuel p) (fun r => PS n r.1 r.2 ∧ ∃ seen D, Kuhn adj n n ⟨seen, ab r.1, ab r.2⟩ D) := by
  have hn := IP.le
  have hl := IP.len
  unfold crew_plan__pair
  rw [hl]
  have en : (((n : Nat) : Int)).toNat = n := rfl
  rw [en]
  refine wp_must ⟨by omega, by omega, by unfold room; omega⟩ (wp_must ⟨by omega, by omega, by unfold room; omega⟩ (wp_must (by simp; omega) ?_))
  rw [List.length_replicate]
  refine wp_range (fun i s => s.1.length = n ∧ s.2.length = n ∧ ∀ k, k < i → ab s.1 k = -1 ∧ ab s.2 k = -1) ⟨by simp, by simp, fun k hk => by omega⟩ (fun i s K hi hI hK => ?_) (fun s hI => ?_)
  · obtain ⟨h1, h2, h3⟩ := hI
    refine wp_must (by omega) (wp_must (by omega) (hK _ ⟨by rw [List.length_set]; exact h1, by rw [List.length_set]; exact h2, fun k hk => ?_⟩))
    dsimp only
    rw [ab_set (by omega), ab_set (by omega)]
    dsimp only
    by_cases e : k = i
    · rw [if_pos e, if_pos e]; exact ⟨rfl, rfl⟩
    · rw [if_neg e, if_neg e]; exact h3 k (by omega)
  · obtain ⟨h1, h2, h3⟩ := hI
    have a1 : ∀ k, ab s.1 k = -1 := fun k => if h : k < n then (h3 k h).1 else ab_ge (by omega)
    have a2 : ∀ k, ab s.2 k = -1 := fun k => if h : k < n then (h3 k h).2 else ab_ge (by omega)
    refine wp_must (by omega) ?_
    refine wp_range (fun i s => PS n s.1 s.2 ∧ ∃ seen D, Kuhn adj n i ⟨seen, ab s.1, ab s.2⟩ D) ⟨⟨h1, h2, fun k hk => by rw [a1 k]; omega⟩, fun _ => false, _, Kuhn.start (fun k => by show ab s.1 k < 0; rw [a1 k]; omega) (fun k => by show ab s.2 k < 0; rw [a2 k]; omega)⟩ (fun i s K hi hI hK => ?_) (fun s hI => wp_some hI)
    obtain ⟨hP, seen0, D, hKn⟩ := hI
    refine wp_bind (pair_step IP fuel fuel i s.1 s.2 0 hi hP (SB.zero n) (by have := mu_le n (sb 0); omega)) (fun y hy => ?_)
    obtain ⟨hy1, hy2, hy3⟩ := hy
    refine wp_must (by rw [hy1.ol, hP.ol]) (wp_must (by rw [hy1.bl, hP.bl]) (hK (y.2.2.1, y.2.2.2) ⟨hy1, sb y.2.1, ?_⟩))
    have hK0 : Kuhn adj n i (ks s.1 s.2 0) D := ⟨⟨hKn.mat.back, hKn.mat.own⟩, hKn.dead, hKn.lost, hKn.rest, hKn.lt⟩
    obtain ⟨D', hk, _⟩ := hK0.step (fun k => by show (0 : Int).toNat.testBit k = false; simp) hy3
    exact ⟨D', hk⟩
end
end Go.Sp
