/- Plain laws, crew: who is late; CrewLate. No program in sight. -/
import Derived.Test.YtnaodipmfaglfaaCPlI
set_option linter.all false
namespace Go.Sp
open Go.Av
set_option maxRecDepth 100000
def atk (c : Crew) (r w : List Int) : Nat → Int
  | 0 => (tk c (rk r 0)).At
  | k + 1 => max (atk c r w k + (tk c (rk r k)).Serve + w.getD k default) (tk c (rk r (k + 1))).At
def thr (c : Crew) (r w : List Int) (k : Nat) : Int := atk c r w k + (tk c (rk r k)).Serve + w.getD k default
def ltr (c : Crew) (r w : List Int) : Nat → List Int
  | 0 => []
  | k + 1 => ltr c r w k ++ if (tk c (rk r (k + 1))).At < thr c r w k then [r.getD (k + 1) default] else []
def lta (c : Crew) (ls ws : List (List Int)) : Nat → List Int
  | 0 => []
  | i + 1 => lta c ls ws i ++ ltr c (rd ls i) (rd ws i) ((rd ls i).length - 1)
structure WalksOk (ls ws : List (List Int)) : Prop where
  len : ws.length = ls.length
  row : ∀ k, k < ls.length → (rd ws k).length = (rd ls k).length - 1
  rng : ∀ k, k < ls.length → ∀ m, m < (rd ws k).length → 0 ≤ (rd ws k).getD m default ∧ (rd ws k).getD m default ≤ 600
theorem containsFunc_eq (l : List Int) (g : Int → Bool) : slices_ContainsFunc_int l (fun x => some (g x)) = some (l.any g) := by
  refine Wp.eq ?_
  unfold slices_ContainsFunc_int
  refine wp_bind (Q := fun r => (0 ≤ r ∧ l.any g = true) ∨ (r = -1 ∧ l.any g = false)) ?_ (fun y hy => wp_some ?_)
  · unfold slices_IndexFunc_int
    refine wp_forall (fun i => g (l.getD i default) = false) (fun i K hi _ hK => ?_) (fun h => wp_some (.inr ⟨rfl, ?_⟩))
    · refine wp_bindE rfl (wp_bif (fun h => wp_some (.inl ⟨Int.natCast_nonneg i, ?_⟩)) (fun h => hK h))
      exact List.any_eq_true.2 ⟨_, getD_mem hi, h⟩
    · rw [List.any_eq_false]
      intro x hx
      obtain ⟨i, hi, rfl⟩ := mem_getD hx
      rw [h i hi]; simp
  · rcases hy with ⟨h1, h2⟩ | ⟨rfl, h2⟩
    · rw [h2, decide_eq_true h1]
    · rw [h2]; rfl
theorem areWalks_wp {ls ws : List (List Int)} (hF : Fit ls) (hne : ∀ k, k < ls.length → 0 < (rd ls k).length) : Wp (crew_areWalks ls ws) (fun r => r = true ↔ WalksOk ls ws) := by
  unfold crew_areWalks
  refine wp_ifn (fun h => wp_some ⟨fun h => (by cases h), fun W => absurd (show ((ws.length : Nat) : Int) = ((ls.length : Nat) : Int) by rw [W.len]) h⟩) (fun h => ?_)
  have hl : ws.length = ls.length := by omega
  refine wp_forall (fun k => (rd ws k).length = (rd ls k).length - 1 ∧ ∀ m, m < (rd ws k).length → 0 ≤ (rd ws k).getD m default ∧ (rd ws k).getD m default ≤ 600) (fun k K hk _ hK => ?_) (fun h => wp_some ⟨fun _ => ⟨hl, fun k hk => (h k (by omega)).1, fun k hk => (h k (by omega)).2⟩, fun _ => rfl⟩)
  have h1 := hne k (by omega)
  have h2 := hF.2 k (by omega)
  have e1 : ls.getD k default = rd ls k := rfl
  have e2 : ws.getD k default = rd ws k := rfl
  rw [e1, e2]
  refine wp_must (by omega) (wp_mustI (by omega) ?_)
  have hc : (fun x0 => some (crew_areWalks_1 x0)) = fun x => some (!(crew_in x 0 600)) := rfl
  rw [hc]
  refine wp_on (Q := fun r => r = (rd ws k).any (fun x => !(crew_in x 0 600))) (fun _ => Wp.of_eq (containsFunc_eq _ _) rfl) (fun y hy => ?_)
  refine wp_bif (fun h => wp_some ⟨fun h => (by cases h), fun W => ?_⟩) (fun h => ?_)
  · have hr := W.row k (by omega)
    have ed : decide ((((rd ws k).length : Nat) : Int) = ((((rd ls k).length : Nat) : Int) - 1)) = true := decide_eq_true (by omega)
    rw [ed] at h hy
    have := hy rfl
    subst this
    have h : (rd ws k).any (fun x => !(crew_in x 0 600)) = true := by simpa using h
    obtain ⟨x, hx, hb⟩ := List.any_eq_true.1 h
    obtain ⟨m, hm, rfl⟩ := mem_getD hx
    have := W.rng k (by omega) m hm
    rw [in_iff.2 this] at hb; cases hb
  · simp only [Bool.or_eq_false_iff, Bool.not_eq_false', decide_eq_true_eq] at h
    have := hy (by rw [decide_eq_true h.1]; rfl)
    subst this
    refine hK ⟨by omega, fun m hm => ?_⟩
    have := List.any_eq_false.1 h.2 _ (getD_mem hm)
    have : crew_in ((rd ws k).getD m default) 0 600 = true := by simpa using this
    exact in_iff.1 this
section
variable {c : Crew} {ls ws : List (List Int)}
theorem atk_rng (V : Valid c) {r w : List Int} (R : IsRound (fol c Range.Hi) c.Tasks.length r) (hw : w.length = r.length - 1) (hr : ∀ m, m < w.length → 0 ≤ w.getD m default ∧ w.getD m default ≤ 600) : ∀ k, k < r.length → 0 ≤ atk c r w k ∧ atk c r w k ≤ 1439 + 720 * k
  | 0, h => by have := V.at (R.rk h).2; unfold atk; omega
  | k + 1, h => by
    have ih := atk_rng V R hw hr k (by omega)
    have h1 := V.at (R.rk (show k < r.length by omega)).2
    have h2 := V.at (R.rk h).2
    have h3 := hr k (by omega)
    unfold atk; omega
theorem ltr_sub (c : Crew) (r w : List Int) : ∀ k, k < r.length → (ltr c r w k).Sublist (r.take (k + 1))
  | 0, _ => List.nil_sublist _
  | k + 1, h => by
    rw [take_snoc h]
    show List.Sublist (_ ++ _) _
    refine List.Sublist.append (ltr_sub c r w k (by omega)) ?_
    split
    · exact List.Sublist.refl _
    · exact List.nil_sublist _
theorem lta_sub (c : Crew) (ls ws : List (List Int)) : ∀ i, i ≤ ls.length → (∀ k, k < ls.length → 0 < (rd ls k).length) → (lta c ls ws i).Sublist (flat ls i)
  | 0, _, _ => List.nil_sublist _
  | i + 1, h, hne => by
    rw [flat_succ (by omega)]
    show List.Sublist (_ ++ _) _
    refine List.Sublist.append (lta_sub c ls ws i (by omega) hne) ?_
    have h1 := hne i (by omega)
    have := ltr_sub c (rd ls i) (rd ws i) ((rd ls i).length - 1) (by omega)
    rwa [show (rd ls i).length - 1 + 1 = (rd ls i).length by omega, List.take_length] at this
theorem AreRounds.mem {adj : Nat → Nat → Prop} {n : Nat} (A : AreRounds adj n ls) : ∀ x ∈ ls.flatten, 0 ≤ x ∧ x < n := fun x hx => by
  obtain ⟨r, hr, hxr⟩ := List.mem_flatten.1 hx
  obtain ⟨k, hk, rfl⟩ := mem_getD hr
  exact (A.round k hk).mem x hxr
theorem late_nodup (A : AreRounds (fol c Range.Hi) c.Tasks.length ls) {i k : Nat} (hi : i < ls.length) (hk : k < (rd ls i).length) : (lta c ls ws i ++ ltr c (rd ls i) (rd ws i) k).Nodup ∧ (lta c ls ws i ++ ltr c (rd ls i) (rd ws i) k).length ≤ c.Tasks.length ∧
    (∀ h : k + 1 < (rd ls i).length, (rd ls i).getD (k + 1) default ∉ lta c ls ws i ++ ltr c (rd ls i) (rd ws i) k) := by
  have s1 := List.Sublist.append (lta_sub c ls ws i (by omega) (fun k hk => (A.round k hk).ne)) (ltr_sub c (rd ls i) (rd ws i) k hk)
  obtain ⟨r, hr⟩ := flat_pre (m := k + 1) hi
  have s2 : (lta c ls ws i ++ ltr c (rd ls i) (rd ws i) k).Sublist ls.flatten := by
    rw [hr]; exact s1.trans (List.sublist_append_left _ _)
  have hnd := A.nd.sublist s2
  refine ⟨hnd, round_len hnd (fun x hx => A.mem x (s2.subset hx)), fun h hm => ?_⟩
  obtain ⟨r', hr'⟩ := flat_pre (m := k + 1 + 1) hi
  have hnd' := A.nd
  rw [hr', take_snoc h, ← List.append_assoc] at hnd'
  exact (List.nodup_append.1 (List.nodup_append.1 hnd').1).2.2 _ (s1.subset hm) _ (List.mem_singleton.2 rfl) rfl
theorem late_eq (V : Valid c) (hF : Fit ls) (A : AreRounds (fol c Range.Hi) c.Tasks.length ls) : crew_Late c ls ws = some (ck (WalksOk ls ws) (isort (lta c ls ws ls.length), 0) ([], 48)) := by
  refine wp_ck ?_
  unfold crew_Late
  have hn := V.tasks
  refine wp_bind (asked_wp c ls hF) (fun y hy => ?_)
  have hy2 : y.2 = 0 := by
    rcases hy with ⟨h, rfl⟩ | ⟨h, h2, rfl⟩ | ⟨h, h2, p, rfl, _⟩
    · exact absurd V h
    · exact absurd A h2
    · rfl
  rw [hy2]
  refine wp_false rfl (wp_bind (areWalks_wp hF (fun k hk => (A.round k hk).ne)) (fun y hy => ?_))
  cases y with
  | false => exact wp_true rfl (wp_some (.inr ⟨fun W => (by have := hy.2 W; cases this), rfl⟩))
  | true =>
    have W := hy.1 rfl
    refine wp_false rfl ?_
    refine wp_range (fun i s => s = lta c ls ws i) rfl (fun i s K hi hI hK => ?_) (fun s hI => ?_)
    · subst hI
      have R := A.round i hi
      have hl := R.len (V := V)
      have hne := R.ne
      have hrow := W.row i hi
      have e1 : ls.getD i default = rd ls i := rfl
      have e2 : ws.getD i default = rd ws i := rfl
      obtain ⟨q1, q2⟩ := R.rk hne
      rw [e1, e2, q1]
      refine wp_must (by omega) (wp_must (by omega) (wp_must (by omega) ?_))
      have hdl : ((rd ls i).drop 1).length = (rd ls i).length - 1 := by rw [List.length_drop]
      have et : ∀ a : Nat, c.Tasks.getD ((a : Int)).toNat default = tk c a := fun _ => rfl
      rw [hdl, et]
      refine wp_range (fun k s => s = (atk c (rd ls i) (rd ws i) k, lta c ls ws i ++ ltr c (rd ls i) (rd ws i) k)) (by show (_, _) = (_, _ ++ []); rw [List.append_nil]; rfl) (fun k s K' hk hI' hK' => ?_) (fun s hI' => ?_)
      · subst hI'
        have ed : ((rd ls i).drop 1).getD k default = (rd ls i).getD (k + 1) default := by rw [getD_drop, Nat.add_comm]
        obtain ⟨a1, a2⟩ := R.rk (show k < (rd ls i).length by omega)
        obtain ⟨b1, b2⟩ := R.rk (show k + 1 < (rd ls i).length by omega)
        rw [ed]
        have hw := W.rng i hi k (by omega)
        have hat := atk_rng V R hrow (W.rng i hi) k (by omega)
        have hsa := V.at a2
        have hsb := V.at b2
        have hkey : atk c (rd ls i) (rd ws i) k + ((tk c (rk (rd ls i) k)).Serve + (rd ws i).getD k default) = thr c (rd ls i) (rd ws i) k := by unfold thr; omega
        have hth : thr c (rd ls i) (rd ws i) k = atk c (rd ls i) (rd ws i) k + (tk c (rk (rd ls i) k)).Serve + (rd ws i).getD k default := rfl
        obtain ⟨l1, l2, l3⟩ := late_nodup (ws := ws) A hi (show k < (rd ls i).length by omega)
        rw [a1, b1, et, et]
        dsimp only
        rw [hkey]
        refine wp_must (by omega) (wp_must (by omega) (wp_must (by rw [W.len]; omega) (wp_must (by omega) (wp_mustI (by omega) (wp_mustI (by omega) (wp_must (by omega) ?_))))))
        refine wp_join (fun s => s = lta c ls ws i ++ ltr c (rd ls i) (rd ws i) (k + 1)) (fun K2 hK2 => ?_) (fun s hs => wp_must (by omega) (hK' _ ?_))
        · refine wp_ifd (fun h => wp_must (by rw [List.length_append]; exact room8 (by simp only [List.length_cons, List.length_nil]; omega)) (hK2 _ ?_)) (fun h => hK2 _ ?_)
          · show _ = _ ++ (_ ++ _)
            rw [if_pos h, List.append_assoc, b1]
          · show _ = _ ++ (_ ++ _)
            rw [if_neg h, List.append_nil]
        · subst hs; rfl
      · subst hI'; exact hK _ rfl
    · subst hI
      have hlen : (lta c ls ws ls.length).length ≤ 24 := by
        have s2 := lta_sub c ls ws ls.length (Nat.le_refl _) (fun k hk => (A.round k hk).ne)
        rw [flat_all] at s2
        have := round_len (A.nd.sublist s2) (fun x hx => A.mem x (s2.subset hx))
        omega
      exact wp_bindE (sort_eq (by omega)) (wp_must (isort_length _) (wp_some (.inl ⟨W, rfl⟩)))
theorem rlate_eq (V : Valid c) (hF : Fit ls) (A : AreRounds (fol c Range.Hi) c.Tasks.length ls) {fuel : Nat} (hf : 100 ≤ fuel) : gasolierref04_Late fuel c ls ws = some (ck (WalksOk ls ws) (isort (lta c ls ws ls.length), 0) ([], 48)) := by
  refine wp_ck ?_
  unfold gasolierref04_Late
  have hn := V.tasks
  refine wp_bindE (rcheckRounds_eq c ls hF) ?_
  rw [ckR_zero.2 ⟨V, A⟩]
  refine wp_false rfl ?_
  refine wp_ifn (fun h => wp_some (.inr ⟨fun W => absurd (show ((ws.length : Nat) : Int) = ((ls.length : Nat) : Int) by rw [W.len]) h, rfl⟩)) (fun h => ?_)
  have hwl : ws.length = ls.length := by omega
  refine wp_forall (fun k => (rd ws k).length = (rd ls k).length - 1 ∧ ∀ m, m < (rd ws k).length → 0 ≤ (rd ws k).getD m default ∧ (rd ws k).getD m default ≤ 600) (fun k K hk _ hK => ?_) (fun h => ?_)
  · have h1 := (A.round k hk).ne
    have h2 := hF.2 k hk
    have e1 : ls.getD k default = rd ls k := rfl
    have e2 : ws.getD k default = rd ws k := rfl
    rw [e1, e2]
    refine wp_must (by omega) (wp_mustI (by omega) ?_)
    refine wp_ifn (fun h => wp_some (.inr ⟨fun W => by have := W.row k hk; omega, rfl⟩)) (fun h => ?_)
    refine wp_must (by omega) ?_
    refine wp_forall (fun m => 0 ≤ (rd ws k).getD m default ∧ (rd ws k).getD m default ≤ 600) (fun m K' hm _ hK' => ?_) (fun h' => hK ⟨by omega, h'⟩)
    refine wp_bif (fun h => wp_some (.inr ⟨fun W => ?_, rfl⟩)) (fun h => hK' ?_)
    · have := W.rng k hk m hm
      rw [within_iff.2 this] at h; cases h
    · have h : gasolierref01_Within ((rd ws k).getD m default) 0 600 = true := by simpa using h
      exact within_iff.1 h
  · have W : WalksOk ls ws := ⟨hwl, fun k hk => (h k hk).1, fun k hk => (h k hk).2⟩
    refine wp_range (fun i s => s = isort (lta c ls ws i)) rfl (fun i s K hi hI hK => ?_) (fun s hI => ?_)
    · subst hI
      have R := A.round i hi
      have hl := R.len (V := V)
      have hne := R.ne
      have hrow := W.row i hi
      have e1 : ls.getD i default = rd ls i := rfl
      have e2 : ws.getD i default = rd ws i := rfl
      have et : ∀ a : Nat, c.Tasks.getD ((a : Int)).toNat default = tk c a := fun _ => rfl
      rw [e1, e2]
      refine wp_range (fun k s => s.2 = isort (lta c ls ws i ++ ltr c (rd ls i) (rd ws i) (k - 1)) ∧ (0 < k → s.1 = atk c (rd ls i) (rd ws i) (k - 1))) ⟨by show _ = isort (_ ++ []); rw [List.append_nil], fun h => by omega⟩ (fun k s K' hk hI' hK' => ?_) (fun s hI' => ?_)
      · obtain ⟨at0, l0⟩ := s
        obtain ⟨i1, i2⟩ := hI'
        dsimp only at i1 i2 ⊢
        subst i1
        refine wp_join (fun s => s.1 = isort (lta c ls ws i ++ ltr c (rd ls i) (rd ws i) k) ∧ s.2 = atk c (rd ls i) (rd ws i) k) (fun K2 hK2 => ?_) (fun s hs => hK' _ ⟨hs.1, fun _ => hs.2⟩)
        obtain ⟨b1, b2⟩ := R.rk hk
        refine wp_must (by omega) (wp_ifd (fun h0 => hK2 _ ?_) (fun h0 => ?_))
        · have : k = 0 := by omega
          subst this
          exact ⟨rfl, by rw [b1, et]; rfl⟩
        · obtain ⟨k, rfl⟩ : ∃ q, k = q + 1 := ⟨k - 1, by omega⟩
          have i2 := i2 (by omega)
          rw [show k + 1 - 1 = k by omega] at i2 ⊢
          subst i2
          have ek : ((((k + 1 : Nat) : Int) - 1)).toNat = k := by omega
          obtain ⟨a1, a2⟩ := R.rk (show k < (rd ls i).length by omega)
          have hw := W.rng i hi k (by omega)
          have hat := atk_rng V R hrow (W.rng i hi) k (by omega)
          have hsa := V.at a2
          have hsb := V.at b2
          have hth : atk c (rd ls i) (rd ws i) k + (tk c (rk (rd ls i) k)).Serve + (rd ws i).getD k default = thr c (rd ls i) (rd ws i) k := rfl
          obtain ⟨l1, l2, l3⟩ := late_nodup (ws := ws) A hi (show k < (rd ls i).length by omega)
          rw [ek, a1, b1, et, et, hth]
          refine wp_mustI (by omega) (wp_must (by omega) (wp_must (by omega) (wp_mustI (by omega) (wp_must (by omega) (wp_mustI (by omega) (wp_must (by omega) (wp_mustI (by omega) ?_)))))))
          refine wp_ifd (fun h => ?_) (fun h => hK2 _ ⟨?_, rfl⟩)
          · refine wp_bindE (put_eq (isort_sorted _) (by rw [isort_length]; omega) (.inr (by rw [isort_length]; omega))) (hK2 _ ⟨?_, rfl⟩)
            have hno := l3 hk
            rw [b1] at hno
            dsimp only
            rw [if_neg (fun hm => hno ((isort_perm _).mem_iff.1 hm)), ← isort_snoc]
            show _ = isort (_ ++ (_ ++ _))
            rw [if_pos h, List.append_assoc, b1]
          · show _ = isort (_ ++ (_ ++ _))
            rw [if_neg h, List.append_nil]
      · refine hK _ ?_
        rw [hI'.1]; rfl
    · subst hI; exact wp_some (.inl ⟨W, rfl⟩)
theorem late_bad (hF : Fit ls) (h : ¬ (Valid c ∧ AreRounds (fol c Range.Hi) c.Tasks.length ls)) (fuel : Nat) : crew_Late c ls ws = some ([], ckR c ls) ∧ gasolierref04_Late fuel c ls ws = some ([], ckR c ls) := by
  have hne : ¬ ckR c ls = 0 := fun e => h (ckR_zero.1 e)
  constructor
  · refine Wp.eq ?_
    unfold crew_Late
    refine wp_bind (asked_wp c ls hF) (fun y hy => ?_)
    have hy2 : y.2 = ckR c ls := by
      unfold ckR
      rcases hy with ⟨h, rfl⟩ | ⟨h, h2, rfl⟩ | ⟨h', h2, p, rfl, _⟩
      · rw [ck_neg h]
      · rw [ck_pos h, ck_neg h2]
      · exact absurd ⟨h', h2⟩ h
    rw [hy2]
    exact wp_true (by simpa using hne) (wp_some rfl)
  · refine Wp.eq ?_
    unfold gasolierref04_Late
    refine wp_bindE (rcheckRounds_eq c ls hF) ?_
    exact wp_true (by simpa using hne) (wp_some rfl)
theorem crewLate_true (c : Crew) (pl : gasolierlaw04_Plan) (h1 : Fit pl.Rounds) : gasolierlaw04_CrewLate 20000 c pl = some true := by
  refine Wp.eq ?_
  unfold gasolierlaw04_CrewLate
  by_cases h : Valid c ∧ AreRounds (fol c Range.Hi) c.Tasks.length pl.Rounds
  · obtain ⟨V, A⟩ := h
    refine wp_bindE (slack_eq V h1 A (by omega)) (wp_bindE (rslack_eq V h1 A (by omega)) (wp_bindE (late_eq V h1 A) (wp_bindE (rlate_eq V h1 A (by omega)) ?_)))
    have hl : (ck (WalksOk pl.Rounds pl.Walks) (isort (lta c pl.Rounds pl.Walks pl.Rounds.length), (0 : Int)) ([], 48)).1.length ≤ 9223372036854775807 := by
      by_cases W : WalksOk pl.Rounds pl.Walks
      · rw [ck_pos W]
        show (isort _).length ≤ _
        have s2 := lta_sub c pl.Rounds pl.Walks pl.Rounds.length (Nat.le_refl _) (fun k hk => (A.round k hk).ne)
        rw [flat_all] at s2
        have := round_len (A.nd.sublist s2) (fun x hx => A.mem x (s2.subset hx))
        have := V.tasks
        rw [isort_length]; omega
      · rw [ck_neg W]; simp
    generalize ck (WalksOk pl.Rounds pl.Walks) (isort (lta c pl.Rounds pl.Walks pl.Rounds.length), (0 : Int)) ([], 48) = z at hl
    refine wp_onE (by simp) (same_eq _ _ hl) (wp_onE (by simp) sane4 (wp_some (by simp)))
  · obtain ⟨a1, a2⟩ := slack_bad h1 h 20000
    obtain ⟨b1, b2⟩ := late_bad (ws := pl.Walks) h1 h 20000
    refine wp_bindE a1 (wp_bindE a2 (wp_bindE b1 (wp_bindE b2 ?_)))
    refine wp_onE (by simp) (same_eq _ _ (by simp)) (wp_onE (by simp) sane4 (wp_some (by simp)))
end
end Go.Sp
