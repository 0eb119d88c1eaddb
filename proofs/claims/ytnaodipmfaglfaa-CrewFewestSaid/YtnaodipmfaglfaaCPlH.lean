/- Plain laws, crew: the cut that is returned; CrewFewest. No program in sight. -/
import Derived.Test.YtnaodipmfaglfaaCPlG
import Derived.KernelRfl
set_option linter.all false
namespace Go.Sp
open Go.Av
set_option maxRecDepth 100000
section
variable {n : Nat} {adj : Nat → Nat → Prop} {p : crew_plan}
theorem reach_step (IP : IsPlan n adj p) {own : List Int} (hol : own.length = n) (hown : ∀ k, k < n → -1 ≤ ab own k ∧ ab own k < n) {A D : Nat → Prop} (hA : ∀ x, x < n → A x → ∀ y, y < n → adj x y → D y) (hD : ∀ y, y < n → D y → 0 ≤ ab own y ∧ A (ab own y).toNat) (fuel : Nat) :
    ∀ (f i : Nat) (fr to : Int), i < n → A i → SB n fr → SB n to → mu n (sb fr) < f → (∀ x, x < n → sb fr x = true → A x) → (∀ y, y < n → sb to y = true → D y) →
      Wp (crew_Cut_1_l fuel f (i : Int) fr (some p) to own) (fun r => SB n r.1 ∧ SB n r.2 ∧ (∀ x, sb fr x = true → sb r.1 x = true) ∧ (∀ y, sb to y = true → sb r.2 y = true) ∧ sb r.1 i = true ∧ (∀ x, x < n → sb r.1 x = true → A x) ∧ (∀ y, y < n → sb r.2 y = true → D y) ∧
        (∀ x, x < n → sb r.1 x = true → sb fr x = true ∨ ∀ y, y < n → adj x y → sb r.2 y = true) ∧ (∀ y, y < n → sb r.2 y = true → sb to y = true ∨ sb r.1 (ab own y).toNat = true)) := by
  have hn := IP.le
  intro f
  induction f with
  | zero => intro i fr to _ _ _ _ h; omega
  | succ f ih =>
    intro i fr to hi hAi hF hT hmu hFA hTD
    show Wp (crew_Cut_1_l_F fuel (crew_Cut_1_l fuel f) (i : Int) fr (some p) to own) _
    unfold crew_Cut_1_l_F
    have ei : ((i : Int)).toNat = i := rfl
    have hp := pow_rng hi hn
    rw [ei]
    refine wp_must (by omega) (wp_must (bit_rng hF.nn hF.lt hn) ?_)
    rw [bit_dec hF.nn]
    refine wp_bif (fun hs => wp_some ⟨hF, hT, fun x h => h, fun y h => h, hs, hFA, hTD, fun x _ h => .inl h, fun y _ h => .inl h⟩) (fun hs => ?_)
    refine wp_must ⟨by omega, by omega, by unfold inI; omega⟩ (wp_must ⟨hF.nn, hp.1, hF.inI hn, by unfold inI; omega⟩ (wp_must rfl ?_))
    have ep : (some p).getD default = p := rfl
    rw [ep]
    refine wp_bindE (followers_eq IP hi) ?_
    obtain ⟨_, _, hbit⟩ := IP.bits i hi
    have hF2 := hF.put hi
    have hsee : ∀ x, sb (((fr.toNat ||| (((1 : Int) * 2 ^ i)).toNat : Nat) : Int)) x = (sb fr x || decide (x = i)) := fun x => by rw [sb_put]
    have hmu2 : mu n (sb (((fr.toNat ||| (((1 : Int) * 2 ^ i)).toNat : Nat) : Int))) < mu n (sb fr) := by
      rw [sb_put]; exact mu_lt (j := i) (fun k h => by simp [h]) hi hs (by simp)
    generalize (((fr.toNat ||| (((1 : Int) * 2 ^ i)).toNat : Nat) : Int)) = fr2 at hF2 hsee hmu2
    refine wp_flw n _ (fun j s => SB n s.1 ∧ SB n s.2 ∧ mu n (sb s.1) ≤ mu n (sb fr2) ∧ (∀ x, sb fr x = true → sb s.1 x = true) ∧ (∀ y, sb to y = true → sb s.2 y = true) ∧ sb s.1 i = true ∧ (∀ x, x < n → sb s.1 x = true → A x) ∧ (∀ y, y < n → sb s.2 y = true → D y) ∧
        (∀ x, x < n → sb s.1 x = true → sb fr x = true ∨ x = i ∨ ∀ y, y < n → adj x y → sb s.2 y = true) ∧ (∀ y, y < n → sb s.2 y = true → sb to y = true ∨ sb s.1 (ab own y).toNat = true) ∧ ∀ y, y < j → adj i y → sb s.2 y = true)
      ⟨hF2, hT, Nat.le_refl _, fun x h => by dsimp only; rw [hsee, h]; rfl, fun y h => h, by dsimp only; rw [hsee]; simp, fun x hx h => ?_, hTD, fun x hx h => ?_, fun y _ h => .inl h, fun y h => by omega⟩
      (fun j s hj hW hI => ?_) (fun j s K hj hW hI hK => ?_) (fun s hI => wp_some ?_)
    · dsimp only at h; rw [hsee] at h
      by_cases e : x = i
      · subst e; exact hAi
      · simp [e] at h; exact hFA x hx h
    · dsimp only at h; rw [hsee] at h
      by_cases e : x = i
      · exact .inr (.inl e)
      · simp [e] at h; exact .inl h
    · obtain ⟨a1, a2, a3, a4, a5, a6, a7, a8, a9, a10, a11⟩ := hI
      refine ⟨a1, a2, a3, a4, a5, a6, a7, a8, a9, a10, fun y hy hadj => ?_⟩
      by_cases e : y = j
      · subst e
        have := (hbit y hj).2 hadj
        rw [hW] at this; cases this
      · exact a11 y (by omega) hadj
    · obtain ⟨fr1, to1⟩ := s
      obtain ⟨a1, a2, a3, a4, a5, a6, a7, a8, a9, a10, a11⟩ := hI
      dsimp only at a1 a2 a3 a4 a5 a6 a7 a8 a9 a10 a11 hK ⊢
      have hadj := (hbit j hj).1 hW
      have hDj := hA i hi hAi j hj hadj
      have ej : ((j : Int)).toNat = j := rfl
      have hpj := pow_rng hj hn
      rw [ej]
      refine wp_must ⟨by omega, by omega, by unfold inI; omega⟩ (wp_must ⟨a2.nn, hpj.1, a2.inI hn, by unfold inI; omega⟩ (wp_must (by omega) ?_))
      have b2 := a2.put hj
      have hseeT : ∀ x, sb (((to1.toNat ||| (((1 : Int) * 2 ^ j)).toNat : Nat) : Int)) x = (sb to1 x || decide (x = j)) := fun x => by rw [sb_put]
      generalize (((to1.toNat ||| (((1 : Int) * 2 ^ j)).toNat : Nat) : Int)) = to2 at b2 hseeT
      have eo : own.getD j default = ab own j := (ab_lt (by omega)).symm
      rw [eo]
      obtain ⟨h0, hAo⟩ := hD j hj hDj
      have hok := hown j hj
      obtain ⟨o, ho⟩ := Int.eq_ofNat_of_zero_le h0
      rw [ho, Int.toNat_natCast] at hAo
      rw [ho]
      refine wp_true (by simp) (wp_must (by omega) ?_)
      have hto2 : ∀ y, sb to1 y = true → sb to2 y = true := fun y h => by rw [hseeT, h]; rfl
      refine wp_bind (ih o fr1 to2 (by omega) hAo a1 b2 (by omega) a7 (fun y hy h => by
        rw [hseeT] at h
        by_cases e : y = j
        · subst e; exact hDj
        · simp [e] at h; exact a8 y hy h)) (fun y hy => ?_)
      obtain ⟨c1, c2, c3, c4, c5, c6, c7, c8, c9⟩ := hy
      refine hK _ ⟨c1, c2, Nat.le_trans (mu_mono c3) a3, fun x h => c3 x (a4 x h), fun y h => c4 y (hto2 y (a5 y h)), c3 i a6, c6, c7, fun x hx h => ?_, fun y hy h => ?_, fun y hy hadj' => ?_⟩
      · rcases c8 x hx h with h1 | h1
        · rcases a9 x hx h1 with h2 | h2 | h2
          · exact .inl h2
          · exact .inr (.inl h2)
          · exact .inr (.inr (fun y hy ha => c4 y (hto2 y (h2 y hy ha))))
        · exact .inr (.inr h1)
      · rcases c9 y hy h with h1 | h1
        · rw [hseeT] at h1
          by_cases e : y = j
          · subst e; right; rw [ho, Int.toNat_natCast]; exact c5
          · simp [e] at h1
            rcases a10 y hy h1 with h2 | h2
            · exact .inl h2
            · exact .inr (c3 _ h2)
        · exact .inr h1
      · by_cases e : y = j
        · subst e; exact c4 y (by rw [hseeT]; simp)
        · exact c4 y (hto2 y (a11 y (by omega) hadj'))
    · obtain ⟨a1, a2, a3, a4, a5, a6, a7, a8, a9, a10, a11⟩ := hI
      refine ⟨a1, a2, a4, a5, a6, a7, a8, fun x hx h => ?_, a10⟩
      rcases a9 x hx h with h1 | h1 | h1
      · exact .inl h1
      · subst h1; exact .inr (fun y hy ha => a11 y hy ha)
      · exact .inr h1
end
section
variable {c : Crew}
theorem cut_wp (V : Valid c) {fuel : Nat} (hf : 2000 ≤ fuel) : Wp (crew_Cut fuel c) (fun r => r.2 = 0 ∧ CutL (fol c Range.Hi) c.Tasks.length r.1 ∧ r.1.length = nr c Range.Hi) := by
  have hn := V.tasks
  unfold crew_Cut
  refine wp_bindE (check_eq c) ?_
  rw [chk_valid V]
  refine wp_false rfl ?_
  rw [most_fun]
  refine wp_bind (newPlan_wp V (.inr rfl)) (fun y hy => ?_)
  obtain ⟨p, rfl, hpc, IP⟩ := hy
  refine wp_must rfl (wp_bind (pair_wp IP (by omega)) (fun y hy => ?_))
  obtain ⟨hP, seen, D, hK⟩ := hy
  obtain ⟨own, back⟩ := y
  dsimp only at hP hK ⊢
  have hol := hP.ol
  have hbl := hP.bl
  have O := fol_ord V (.inr rfl : EndOf Range.Hi)
  have M := hK.mat
  let A : Nat → Prop := fun x => ab back x < 0 ∨ ∃ k, k < c.Tasks.length ∧ D k ∧ ab own k = (x : Int)
  have hA : ∀ x, x < c.Tasks.length → A x → ∀ y, y < c.Tasks.length → fol c Range.Hi x y → D y := by
    intro x hx ha q hq hadj
    rcases ha with h | ⟨k, h1, h2, h3⟩
    · exact hK.lost x hx h q hq hadj
    · obtain ⟨o, h4, h5⟩ := hK.dead k h1 h2
      have h4 : ab own k = (o : Int) := h4
      have : o = x := by omega
      subst this; exact h5 q hq hadj
  have hD : ∀ y, y < c.Tasks.length → D y → 0 ≤ ab own y ∧ A (ab own y).toNat := fun y hy hd => by
    obtain ⟨o, h4, h5⟩ := hK.dead y hy hd
    have h4 : ab own y = (o : Int) := h4
    exact ⟨by omega, .inr ⟨y, hy, hd, by omega⟩⟩
  rw [hbl]
  refine wp_range (fun i s => SB c.Tasks.length s.1 ∧ SB c.Tasks.length s.2 ∧ (∀ x, x < i → ab back x < 0 → sb s.1 x = true) ∧ (∀ x, x < c.Tasks.length → sb s.1 x = true → A x) ∧ (∀ y, y < c.Tasks.length → sb s.2 y = true → D y) ∧
      (∀ x, x < c.Tasks.length → sb s.1 x = true → ∀ y, y < c.Tasks.length → fol c Range.Hi x y → sb s.2 y = true) ∧ (∀ y, y < c.Tasks.length → sb s.2 y = true → sb s.1 (ab own y).toNat = true))
    ⟨SB.zero _, SB.zero _, fun x hx => by omega, fun x _ h => by unfold sb at h; simp at h, fun y _ h => by unfold sb at h; simp at h, fun x _ h => by unfold sb at h; simp at h, fun y _ h => by unfold sb at h; simp at h⟩ (fun i s K hi hI hK' => ?_) (fun s hI => ?_)
  · obtain ⟨a1, a2, a3, a4, a5, a6, a7⟩ := hI
    have eb : back.getD i default = ab back i := (ab_lt (by omega)).symm
    rw [eb]
    refine wp_ifd (fun h => ?_) (fun h => hK' _ ⟨a1, a2, fun x hx hb => ?_, a4, a5, a6, a7⟩)
    · refine wp_bind (reach_step IP hol hP.ok hA hD fuel fuel i s.1 s.2 hi (.inl h) a1 a2 (by have := mu_le c.Tasks.length (sb s.1); omega) a4 a5) (fun y hy => ?_)
      obtain ⟨c1, c2, c3, c4, c5, c6, c7, c8, c9⟩ := hy
      refine hK' _ ⟨c1, c2, fun x hx hb => ?_, c6, c7, fun x hx h => ?_, fun y hy h => ?_⟩
      · by_cases e : x = i
        · subst e; exact c5
        · exact c3 x (a3 x (by omega) hb)
      · rcases c8 x hx h with h1 | h1
        · exact fun y hy ha => c4 y (a6 x hx h1 y hy ha)
        · exact h1
      · rcases c9 y hy h with h1 | h1
        · exact c3 _ (a7 y hy h1)
        · exact h1
    · by_cases e : x = i
      · subst e; exact absurd hb h
      · exact a3 x (by omega) hb
  · obtain ⟨a1, a2, a3, a4, a5, a6, a7⟩ := hI
    obtain ⟨fr, to⟩ := s
    dsimp only at a1 a2 a3 a4 a5 a6 a7 ⊢
    refine wp_must (by omega) ?_
    refine wp_range (fun i s => s = ((List.range i).filter (fun x => sb fr x && !sb to x)).map (fun (x : Nat) => (x : Int))) rfl (fun i s K hi hI hK' => ?_) (fun s hI => wp_some ?_)
    · have ei : ((i : Int)).toNat = i := rfl
      rw [ei]
      refine wp_must (by omega) (wp_must (bit_rng a1.nn a1.lt hn) (wp_must (fun _ => by omega) (wp_must (fun _ => bit_rng a2.nn a2.lt hn) ?_)))
      rw [bit_dec a1.nn, bit_dec0 a2.nn]
      have hl : (List.range (i + 1)).filter (fun x => sb fr x && !sb to x) = (List.range i).filter (fun x => sb fr x && !sb to x) ++ if (sb fr i && !sb to i) = true then [i] else [] := by
        rw [List.range_succ, List.filter_append, List.filter_cons]; rfl
      have hle : s.length ≤ i := by rw [hI, List.length_map]; exact Nat.le_trans (List.length_filter_le _ _) (by simp)
      have es : (fr.toNat.testBit i && !to.toNat.testBit i) = (sb fr i && !sb to i) := rfl
      rw [es]
      refine wp_bif (fun h => ?_) (fun h => hK' _ ?_)
      · refine wp_must (by rw [List.length_append]; exact room8 (by simp; omega)) (hK' _ ?_)
        rw [hl, if_pos h, List.map_append, hI]; rfl
      · rw [hl, if_neg (by rw [h]; simp), List.append_nil]; exact hI
    · obtain ⟨h1, h2⟩ := reach_cut hK (fun x => sb fr x) (fun x => sb to x) a3 a6 (fun y hy h => ⟨a5 y hy h, a7 y hy h⟩) (fun k hk => (hP.ok k hk).2)
      have h3 := cut_le M O h1
      subst hI
      refine ⟨rfl, IsCut.list (List.Pairwise.filter _ List.pairwise_lt_range) h1, ?_⟩
      rw [List.length_map, nr_eq (kuhn_most hK O (fun k hk => (hP.ok k hk).2))]
      exact Nat.le_antisymm h3 h2
theorem sane4 : gasolierlaw04_sane 20000 = some true := by kernel_rfl
theorem crewFewest_true (c : Crew) (pl : gasolierlaw04_Plan) (h1 : Fit pl.Rounds) (h2 : pl.Cut.length ≤ 9223372036854775807) : gasolierlaw04_CrewFewest 20000 c pl = some true := by
  refine Wp.eq ?_
  unfold gasolierlaw04_CrewFewest
  refine wp_bindE (rcheck_eq c) ?_
  by_cases V : Valid c
  · rw [chk_valid V]
    refine wp_false rfl ?_
    have O := fol_ord V (.inr rfl : EndOf Range.Hi)
    refine wp_bindE (count_eq c (by omega)) ?_
    rw [if_pos (chk_valid V)]
    refine wp_bind (rounds_wp V (by omega)) (fun r hr => ?_)
    obtain ⟨r0, r1, r2, r3, r4⟩ := hr
    refine wp_bind (cut_wp V (by omega)) (fun s hs => ?_)
    obtain ⟨s0, s1, s2⟩ := hs
    have mm := most_nr V (.inr rfl : EndOf Range.Hi)
    have hnr : nr c Range.Hi ≤ c.Tasks.length := by
      obtain ⟨S, hS, e⟩ := mm.1
      rw [← e]
      have := nodup_le hS.nd (r := List.range c.Tasks.length) (fun x hx => List.mem_range.2 (hS.lt x hx))
      rwa [List.length_range] at this
    have hn := V.tasks
    rw [r0, s0, r2, s2]
    dsimp only
    rw [decide_eq_true (show (0 : Int) = 0 from rfl), decide_eq_true (show (((nr c Range.Hi : Nat) : Int)) = ((nr c Range.Hi : Nat) : Int) from rfl)]
    refine wp_bindE (checkRounds_eq c r.1 r3) ?_
    rw [ckR_zero.2 ⟨V, r1⟩]
    refine wp_bindE (checkCut_eq c s.1 _ (by omega)) ?_
    rw [ckC_zero.2 ⟨V, s1, by omega⟩]
    refine wp_must (fun _ => by unfold inI; omega) (wp_bindE (checkCut_eq c s.1 _ (by omega)) ?_)
    have e44 : ckC c s.1 ((nr c Range.Hi : Nat) + 1) = 44 := by
      unfold ckC; rw [ck_pos V, ck_neg (fun A => by have := A.2; omega)]
    rw [e44]
    refine wp_false rfl (wp_bindE (checkRounds_eq c pl.Rounds h1) (wp_bindE (checkCut_eq c pl.Cut _ h2) ?_))
    have hc : (((!(decide (ckR c pl.Rounds = 0))) || (decide (((nr c Range.Hi : Nat) : Int) ≤ ((pl.Rounds.length : Nat) : Int)))) && ((!(decide (ckC c pl.Cut ((pl.Cut.length : Nat) : Int) = 0))) || (decide (((pl.Cut.length : Nat) : Int) ≤ ((nr c Range.Hi : Nat) : Int))))) = true := by
      rw [Bool.and_eq_true, Bool.or_eq_true, Bool.or_eq_true, Bool.not_eq_true', Bool.not_eq_true', decide_eq_false_iff_not, decide_eq_false_iff_not, decide_eq_true_eq, decide_eq_true_eq]
      constructor
      · by_cases h : ckR c pl.Rounds = 0
        · right
          obtain ⟨S, hS, e⟩ := mm.1
          have := cut_rounds O hS (ckR_zero.1 h).2
          omega
        · exact .inl h
      · by_cases h : ckC c pl.Cut ((pl.Cut.length : Nat) : Int) = 0
        · right
          have := mm.2 _ ((ckC_zero.1 h).2.1.cut O)
          rw [List.length_map] at this
          omega
        · exact .inl h
    refine wp_onE hc sane4 (wp_some ?_)
    rw [hc]; rfl
  · rw [chk_not V]
    refine wp_true rfl (wp_bindE (check_eq c) ?_)
    rw [chk_not V]
    exact wp_onE rfl sane4 (wp_some rfl)
end
end Go.Sp
