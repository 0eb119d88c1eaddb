/- Plain laws, crew: the rounds and the cut that are returned; CrewFewest. No program in sight. -/
import Derived.Test.YtnaodipmfaglfaaCPlF
set_option linter.all false
namespace Go.Sp
open Go.Av
set_option maxRecDepth 100000
theorem room8 {n : Nat} (h : n ≤ 3000) : room n 8 := by unfold room; omega
theorem room24 {n : Nat} (h : n ≤ 3000) : room n 24 := by unfold room; omega
section
variable {c : Crew}
theorem rounds_wp (V : Valid c) {fuel : Nat} (hf : 2000 ≤ fuel) : Wp (crew_Rounds fuel c) (fun r => r.2 = 0 ∧ AreRounds (fol c Range.Hi) c.Tasks.length r.1 ∧ r.1.length = nr c Range.Hi ∧ Fit r.1 ∧ ∀ k, k < r.1.length → (rd r.1 k).length ≤ 2000) := by
  have hn := V.tasks
  unfold crew_Rounds
  refine wp_bindE (check_eq c) ?_
  rw [chk_valid V]
  refine wp_false rfl ?_
  rw [most_fun]
  refine wp_bind (newPlan_wp V (.inr rfl)) (fun y hy => ?_)
  obtain ⟨p, rfl, hpc, IP⟩ := hy
  refine wp_must rfl (wp_bind (pair_wp IP (by omega)) (fun y hy => ?_))
  obtain ⟨hP, seen, D, hK⟩ := hy
  obtain ⟨own, back⟩ := y
  dsimp only at hP hK ⊢
  have hol := hP.ol
  have hbl := hP.bl
  have O := fol_ord V (.inr rfl : EndOf Range.Hi)
  have M := hK.mat
  have hat : ∀ x, x < c.Tasks.length → (0 : Int) ≤ (tk c x).At ∧ (tk c x).At ≤ 1439 := fun x hx => by have := V.at hx; omega
  have htop : ∀ x, x < c.Tasks.length → (tk c x).At ≤ 1439 := fun x hx => (hat x hx).2
  refine wp_range (fun i s => s = (loose i (ab own)).map (fun (h : Nat) => chn (ab back) 1441 h)) rfl (fun i s K hi hI hK' => ?_) (fun s hI => wp_some ?_)
  · have hi' : i < c.Tasks.length := by omega
    have e : own.getD i default = ab own i := (ab_lt hi).symm
    have hl : loose (i + 1) (ab own) = loose i (ab own) ++ if ab own i < 0 then [i] else [] := by
      unfold loose
      rw [List.range_succ, List.filter_append, List.filter_cons]
      split <;> rename_i h <;> simp at h <;> simp [h]
    have hle : (loose i (ab own)).length ≤ i := by unfold loose; exact Nat.le_trans (List.length_filter_le _ _) (by simp)
    rw [e]
    refine wp_ifd (fun h => hK' _ ?_) (fun h => ?_)
    · rw [hl, if_neg (by omega), List.append_nil]; exact hI
    · refine wp_loop (fun s => s.1 < c.Tasks.length ∧ s.2.length ≤ 1441 ∧ ∃ f : Nat, s.2 ++ chn (ab back) f s.1 = chn (ab back) 1441 (i : Int) ∧ (0 ≤ s.1 → 1439 - (tk c s.1.toNat).At < f ∧ s.2.length + f ≤ 1441)) (fun s => if s.1 < 0 then 0 else (1440 - (tk c s.1.toNat).At).toNat + 1)
        (by dsimp only; rw [if_neg (by omega)]; have := hat i hi'; rw [Int.toNat_natCast]; omega) ⟨by dsimp only; omega, by simp, 1441, rfl, fun _ => by have := hat i hi'; dsimp only; rw [Int.toNat_natCast]; simp; omega⟩ (fun s2 K2 hI2 hK2 => ?_)
      obtain ⟨k, l⟩ := s2
      obtain ⟨h2, h3, f, h4, h5⟩ := hI2
      dsimp only at h2 h3 h4 h5 hK2 ⊢
      refine wp_ifd (fun h' => ?_) (fun h' => ?_)
      · obtain ⟨q, rfl⟩ := Int.eq_ofNat_of_zero_le h'
        rw [Int.toNat_natCast] at h5 ⊢
        have hq : q < c.Tasks.length := by omega
        obtain ⟨g1, g2⟩ := h5 h'
        have hatq := hat q hq
        obtain ⟨f, rfl⟩ : ∃ f', f = f' + 1 := ⟨f - 1, by omega⟩
        rw [chn_pos h', Int.toNat_natCast] at h4
        refine wp_must (by rw [List.length_append]; exact room8 (by simp; omega)) (wp_must (by omega) ?_)
        have eb : back.getD q default = ab back q := (ab_lt (by omega)).symm
        rw [eb]
        have hb2 : ab back q < 0 ∨ ∃ z : Nat, ab back q = (z : Int) ∧ z < c.Tasks.length ∧ (tk c q).At < (tk c z).At := by
          by_cases hneg : ab back q < 0
          · exact .inl hneg
          · obtain ⟨z, hz⟩ := Int.eq_ofNat_of_zero_le (show 0 ≤ ab back q by omega)
            obtain ⟨a1, _, a2⟩ := M.edge hz
            exact .inr ⟨z, hz, a1, O.up _ _ a2⟩
        refine hK2 _ ⟨?_, by simp; omega, f, by rw [List.append_assoc]; exact h4, fun h0 => ?_⟩ ?_
        · rcases hb2 with h | ⟨z, h, h', _⟩ <;> dsimp only <;> omega
        · dsimp only at h0 ⊢
          rcases hb2 with h | ⟨z, h, h', h''⟩
          · omega
          · rw [h, Int.toNat_natCast]
            exact ⟨by omega, by rw [List.length_append, List.length_singleton]; omega⟩
        · dsimp only
          rw [if_neg (show ¬ ((q : Int) < 0) by omega)]
          rcases hb2 with h | ⟨z, h, h', h''⟩
          · rw [if_pos h]; omega
          · rw [if_neg (by omega), h]
            simp only [Int.toNat_natCast]
            have := hat z h'
            omega
      · rw [chn_neg (by omega), List.append_nil] at h4
        subst h4
        have hsl : s.length ≤ i := by rw [hI, List.length_map]; exact hle
        refine wp_must (by rw [List.length_append]; exact room24 (by simp; omega)) (hK' _ ?_)
        rw [hl, if_pos (by omega), List.map_append, hI]; rfl
  · have A := chains_rounds M O 0 1439 hat 1441 (by omega)
    rw [hol] at hI
    subst hI
    have hlen : ((loose c.Tasks.length (ab own)).map (fun (h : Nat) => chn (ab back) 1441 h)).length = nr c Range.Hi := by
      have h1 := kuhn_most hK O (fun k hk => (hP.ok k hk).2)
      have h2 := loose_own M hK.rest (fun k hk => (hP.ok k hk).2)
      rw [List.length_map, nr_eq h1]; exact h2
    have hrd : ∀ k, k < ((loose c.Tasks.length (ab own)).map (fun (h : Nat) => chn (ab back) 1441 h)).length → (rd ((loose c.Tasks.length (ab own)).map (fun (h : Nat) => chn (ab back) 1441 h)) k).length ≤ 2000 := fun k hk => by
      rw [List.length_map] at hk
      have e : rd ((loose c.Tasks.length (ab own)).map (fun (h : Nat) => chn (ab back) 1441 h)) k = chn (ab back) 1441 ((loose c.Tasks.length (ab own)).getD k default : Nat) := getD_map _ hk
      have hm := mem_loose.1 (getD_mem hk)
      have := hat _ hm.1
      have := (chn_round M O 1439 htop 1441 _ hm.1 (by omega)).2.2
      rw [e]; exact Nat.le_trans this (by omega)
    refine ⟨rfl, A, hlen, ⟨?_, fun k hk => Nat.le_trans (hrd k hk) (by omega)⟩, hrd⟩
    rw [List.length_map]
    have : (loose c.Tasks.length (ab own)).length ≤ c.Tasks.length := by unfold loose; exact Nat.le_trans (List.length_filter_le _ _) (by simp)
    omega
end
end Go.Sp
