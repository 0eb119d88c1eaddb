/- Plain laws: RoundMarks. No program in sight. -/
import Derived.Test.YtjeolkdhicmhgaaRPlK
set_option linter.all false
namespace Go.Sp
open Go.Av
set_option maxRecDepth 100000

theorem sameMatrix_self {fuel : Nat} (hf : 1001 ≤ fuel) (a : List (List Range)) (hl : a.length ≤ 1000) (hr : ∀ p, p < a.length → (a.getD p default).length ≤ 1000) : Wp (gasolierref03_SameMatrix fuel a a) (· = true) := by
  unfold gasolierref03_SameMatrix
  rw [decide_eq_true rfl]
  refine wp_forS a.length (by omega) (fun _ s => s = true) rfl ?_
  rintro i s K hi rfl hK
  dsimp only
  refine wp_bif (fun h => ?_) (fun h => wp_some rfl)
  simp only [Bool.and_true, decide_eq_true_eq] at h
  have hi' : i < a.length := by omega
  have r := hr i hi'
  refine wp_must (by omega) (wp_must (by omega) ?_)
  rw [decide_eq_true rfl]
  refine wp_forS (a.getD i default).length (by omega) (fun _ s => s = true) rfl ?_
  rintro j s K2 hj rfl hK2
  dsimp only
  rw [Int.toNat_natCast]
  refine wp_must (by omega) (wp_bif (fun g => ?_) (fun g => ?_))
  · simp only [Bool.and_true, decide_eq_true_eq] at g
    refine wp_must (by omega) (wp_must (by omega) (wp_must (by omega) (wp_must (by omega) (wp_must (by unfold inI; omega) (hK2 _ (by omega) (by simp))))))
  · exact wp_must (by unfold inI; omega) (hK _ (by omega) rfl)

theorem MatP.small {c : Chart} {x : List (List Range) × Int} (h : MatP c x) : x.1.length ≤ 1000 ∧ ∀ p, p < x.1.length → (x.1.getD p default).length ≤ 1000 := by
  rcases h with ⟨_, rfl⟩ | ⟨_, _, rfl⟩ | ⟨h1, _, _, h4, _⟩
  · exact ⟨by simp, fun p hp => absurd hp (Nat.not_lt_zero _)⟩
  · exact ⟨by simp, fun p hp => absurd hp (Nat.not_lt_zero _)⟩
  · have := (valid_iff.1 h1).1
    have l := h4.len
    refine ⟨by omega, fun p hp => ?_⟩
    have := h4.row p (by omega)
    have e : x.1.getD p default = x.1.getD p [] := rfl
    rw [e]; omega

/-- Marks that are accepted. -/
structure MkOk (c : Chart) (s a : Int) (L : List Int) : Prop where
  len : (L.length : Int) = c.Places
  rng : ∀ x ∈ L, -1 ≤ x ∧ x ≤ 1439
  st : 0 ≤ L.getD s.toNat default ∧ L.getD s.toNat default ≤ a
  cls : ∀ i, i < c.Ways.length → 0 ≤ L.getD (way c i).From.toNat default → ∀ b, fin (way c i) (boT c true i) (L.getD (way c i).From.toNat default) = some b → 0 ≤ L.getD (way c i).To.toNat default ∧ L.getD (way c i).To.toNat default ≤ b

def MarkP (c : Chart) (s a : Int) (L : List Int) (e : Int) : Prop := (askE c s a ≠ 0 ∧ e = askE c s a) ∨ (askE c s a = 0 ∧ MkOk c s a L ∧ e = 0) ∨ (askE c s a = 0 ∧ ¬ MkOk c s a L ∧ e = 37)
theorem MarkP.unique {c : Chart} {s a : Int} {L : List Int} {e e' : Int} (h : MarkP c s a L e) (h' : MarkP c s a L e') : e = e' := by
  rcases h with ⟨h1, h2⟩ | ⟨h1, h2, h3⟩ | ⟨h1, h2, h3⟩ <;> rcases h' with ⟨k1, k2⟩ | ⟨k1, k2, k3⟩ | ⟨k1, k2, k3⟩
  · omega
  · exact absurd k1 h1
  · exact absurd k1 h1
  · exact absurd h1 k1
  · omega
  · exact absurd h2 k2
  · exact absurd h1 k1
  · exact absurd k2 h2
  · omega

theorem mem_getD {L : List Int} {i : Nat} (hi : i < L.length) : L.getD i default ∈ L := by
  rw [List.getD_eq_getElem?_getD, List.getElem?_eq_getElem hi]; exact List.getElem_mem hi

theorem checkMarks_eq (c : Chart) (s a : Int) (L : List Int) : Wp (round_CheckMarks c s a L) (MarkP c s a L) := by
  unfold round_CheckMarks
  refine wp_bindE (placeOf_one c s a) (wp_ifn (fun h => wp_some (.inl ⟨h, rfl⟩)) (fun h0 => ?_))
  obtain ⟨hv, hs, ha⟩ := askE_zero h0
  obtain ⟨⟨v1, v2⟩, v3, v4⟩ := valid_iff.1 hv
  have hct : slices_ContainsFunc_int L (fun x0 => some (round_CheckMarks_1 x0)) = some (L.any round_CheckMarks_1) := containsInt L _ _ (fun _ _ => rfl)
  have e1 : (bif (!(!decide (((L.length : Nat) : Int) = c.Places))) then slices_ContainsFunc_int L (fun x0 => some (round_CheckMarks_1 x0)) else some default) = some (decide (((L.length : Nat) : Int) = c.Places) && L.any round_CheckMarks_1) := by
    rw [hct]
    by_cases e : ((L.length : Nat) : Int) = c.Places
    · rw [decide_eq_true e]; rfl
    · rw [decide_eq_false e]; rfl
  refine wp_bindE e1 ?_
  by_cases e : ((L.length : Nat) : Int) = c.Places
  · rw [decide_eq_true e]
    by_cases hr : L.any round_CheckMarks_1 = true
    · rw [hr]
      refine wp_must (by intro x; cases x) (wp_true rfl (wp_some (.inr (.inr ⟨h0, fun M => ?_, rfl⟩))))
      obtain ⟨x, hx, h2⟩ := List.any_eq_true.1 hr
      have := M.rng x hx
      unfold round_CheckMarks_1 round_within at h2
      simp at h2; omega
    · have hr' : L.any round_CheckMarks_1 = false := by cases hq : L.any round_CheckMarks_1 with
        | true => exact absurd hq hr
        | false => rfl
      rw [hr']
      have rng : ∀ x ∈ L, -1 ≤ x ∧ x ≤ 1439 := fun x hx => by
        have := (List.any_eq_false.1 hr') x hx
        unfold round_CheckMarks_1 round_within at this
        simp at this; omega
      refine wp_must (by omega) (wp_bif (fun g => ?_) (fun g => ?_))
      · refine wp_some (.inr (.inr ⟨h0, fun M => ?_, rfl⟩))
        have := M.st
        unfold round_within at g
        simp only [Bool.not_true, Bool.true_and, Bool.false_or, Bool.not_eq_true', Bool.and_eq_false_iff, decide_eq_false_iff_not] at g
        omega
      · have st : 0 ≤ L.getD s.toNat default ∧ L.getD s.toNat default ≤ a := by
          unfold round_within at g
          simp only [Bool.not_true, Bool.true_and, Bool.false_or, Bool.not_eq_false', Bool.and_eq_true, decide_eq_true_eq] at g
          exact g
        refine wp_range (fun p _ => ∀ i, i < c.Ways.length → (way c i).From < (p : Int) → 0 ≤ L.getD (way c i).From.toNat default → ∀ b, fin (way c i) (boT c true i) (L.getD (way c i).From.toNat default) = some b → 0 ≤ L.getD (way c i).To.toNat default ∧ L.getD (way c i).To.toNat default ≤ b) (fun i hi h => ?_) ?_ ?_
        · have J := joins_iff.1 (joins_of hv hi)
          omega
        · intro p _ K hp hI hK
          refine wp_join (fun _ => ∀ i, i < c.Ways.length → (way c i).From < ((p + 1 : Nat) : Int) → 0 ≤ L.getD (way c i).From.toNat default → ∀ b, fin (way c i) (boT c true i) (L.getD (way c i).From.toNat default) = some b → 0 ≤ L.getD (way c i).To.toNat default ∧ L.getD (way c i).To.toNat default ≤ b) (fun K2 hK2 => ?_) (fun _ h => hK _ h)
          refine wp_ifd (fun g1 => hK2 _ (fun i hi hlt h0' b hb => ?_)) (fun g1 => ?_)
          · by_cases e2 : (way c i).From = (p : Int)
            · rw [e2, Int.toNat_natCast] at h0'; omega
            · exact hI i hi (by omega) h0' b hb
          · have hm := rng _ (mem_getD hp)
            refine wp_bindE (from_eq (net_bo hv true) ⟨by omega, hm.2⟩ _ (most_eq c)) ?_
            refine wp_list (fun done _ _ => ∀ x ∈ done, 0 ≤ L.getD (way c x.1.toNat).To.toNat default ∧ L.getD (way c x.1.toNat).To.toNat default ≤ x.2) (fun x hx => by cases hx) ?_ ?_
            · intro done x rest _ K3 hl hD hK3
              have hx : x ∈ (List.range' 0 c.Ways.length).filterMap (item c (boT c true) (p : Int) (L.getD p default)) := by rw [← hl]; simp
              obtain ⟨i, hi, hF, hfin, hxi⟩ := mem_items.1 hx
              have J := joins_iff.1 (joins_of hv hi)
              have ew : c.Ways.getD x.1.toNat default = way c i := by rw [hxi]; rfl
              refine wp_must (by omega) (wp_must (by rw [ew]; omega) (wp_bif (fun g2 => ?_) (fun g2 => hK3 _ (fun y hy => ?_))))
              · rw [ew] at g2
                simp only [Bool.or_eq_true, decide_eq_true_eq] at g2
                refine wp_some (.inr (.inr ⟨h0, fun M => ?_, rfl⟩))
                have := M.cls i hi (by rw [hF, Int.toNat_natCast]; omega) x.2 (by rw [hF, Int.toNat_natCast]; exact hfin)
                omega
              · rw [List.mem_append] at hy
                rcases hy with hy | hy
                · exact hD y hy
                · rw [List.mem_singleton] at hy; subst hy
                  rw [ew] at g2
                  simp only [Bool.or_eq_false_iff, decide_eq_false_iff_not] at g2
                  have e3 : way c y.1.toNat = way c i := by rw [hxi]; rfl
                  rw [e3]; omega
            · intro _ hD
              refine hK2 _ (fun i hi hlt h0' b hb => ?_)
              by_cases e2 : (way c i).From = (p : Int)
              · rw [e2, Int.toNat_natCast] at hb
                have := hD ((i : Int), b) (mem_items.2 ⟨i, hi, e2, hb, rfl⟩)
                exact this
              · exact hI i hi (by omega) h0' b hb
        · intro _ hI
          refine wp_some (.inr (.inl ⟨h0, ⟨e, rng, st, fun i hi h1 b hb => hI i hi ?_ h1 b hb⟩, rfl⟩))
          have J := joins_iff.1 (joins_of hv hi)
          omega
  · rw [decide_eq_false e]
    exact wp_must (by intro x; cases x) (wp_true rfl (wp_some (.inr (.inr ⟨h0, fun M => e M.len, rfl⟩))))

theorem ref_checkMarks_eq {fuel : Nat} (hf : 41 ≤ fuel) (c : Chart) (t : Trip) (L : List Int) : Wp (gasolierref03_CheckMarks fuel c t L) (MarkP c t.From t.At L) := by
  unfold gasolierref03_CheckMarks
  refine wp_bindE (asked_eq hf c t.From t.At) (wp_ifn (fun h => wp_some (.inl ⟨h, rfl⟩)) (fun h0 => ?_))
  obtain ⟨hv, hs, ha⟩ := askE_zero h0
  obtain ⟨⟨v1, v2⟩, v3, v4⟩ := valid_iff.1 hv
  refine wp_ifn (fun e => wp_some (.inr (.inr ⟨h0, fun M => e M.len, rfl⟩))) (fun e => ?_)
  refine wp_for1 L.length (by omega) (fun i => ∀ j, j < i → -1 ≤ L.getD j default ∧ L.getD j default ≤ 1439) (fun j hj => by omega) ?_
  intro i K hi hI hK
  refine wp_ifd (fun g => ?_) (fun g => ?_)
  · rw [Int.toNat_natCast]
    refine wp_must (by omega) (wp_must (fun _ => by omega) (wp_bif (fun g2 => ?_) (fun g2 => ?_)))
    · refine wp_some (.inr (.inr ⟨h0, fun M => ?_, rfl⟩))
      have := M.rng _ (mem_getD (L := L) (i := i) (by omega))
      unfold gasolierref03_isMinute gasolierref03_In at g2
      simp only [Bool.and_eq_true, Bool.not_eq_true', decide_eq_false_iff_not, Bool.and_eq_false_iff] at g2
      omega
    · refine wp_must (by unfold inI; omega) (hK (by omega) (fun j hj => ?_))
      by_cases ej : j = i
      · subst ej
        unfold gasolierref03_isMinute gasolierref03_In at g2
        simp only [Bool.and_eq_false_iff, Bool.not_eq_false', decide_eq_true_eq, Bool.and_eq_true] at g2
        omega
      · exact hI j (by omega)
  · have ei : i = L.length := by omega
    subst ei
    have rng : ∀ x ∈ L, -1 ≤ x ∧ x ≤ 1439 := fun x hx => by
      obtain ⟨j, hj, rfl⟩ := List.getElem_of_mem hx
      have := hI j hj
      rw [List.getD_eq_getElem?_getD, List.getElem?_eq_getElem hj] at this
      exact this
    refine wp_must (by omega) (wp_bif (fun g2 => ?_) (fun g2 => ?_))
    · refine wp_some (.inr (.inr ⟨h0, fun M => ?_, rfl⟩))
      have := M.st
      unfold gasolierref03_In at g2
      simp only [Bool.not_eq_true', Bool.and_eq_false_iff, decide_eq_false_iff_not] at g2
      omega
    · have st : 0 ≤ L.getD t.From.toNat default ∧ L.getD t.From.toNat default ≤ t.At := by
        unfold gasolierref03_In at g2
        simp only [Bool.not_eq_false', Bool.and_eq_true, decide_eq_true_eq] at g2
        exact g2
      refine wp_for1 c.Ways.length (by omega) (fun n => ∀ i, i < n → 0 ≤ L.getD (way c i).From.toNat default → ∀ b, fin (way c i) (boT c true i) (L.getD (way c i).From.toNat default) = some b → 0 ≤ L.getD (way c i).To.toNat default ∧ L.getD (way c i).To.toNat default ≤ b) (fun i hi => by omega) ?_
      intro n K2 hn hN hK2
      refine wp_ifd (fun g3 => ?_) (fun g3 => ?_)
      · have hnl : n < c.Ways.length := by omega
        have J := joins_iff.1 (joins_of hv hnl)
        have F := fit_of (joins_of hv hnl)
        refine wp_join (fun _ => ∀ i, i < n + 1 → 0 ≤ L.getD (way c i).From.toNat default → ∀ b, fin (way c i) (boT c true i) (L.getD (way c i).From.toNat default) = some b → 0 ≤ L.getD (way c i).To.toNat default ∧ L.getD (way c i).To.toNat default ≤ b) (fun K3 hK3 => ?_) (fun _ h => wp_must (by unfold inI; omega) (hK2 hnl h))
        rw [Int.toNat_natCast, show c.Ways.getD n default = way c n from rfl]
        refine wp_must (by omega) (wp_must (by omega) (wp_ifd (fun g4 => hK3 _ (fun i hi h1 b hb => ?_)) (fun g4 => ?_)))
        · by_cases ei : i = n
          · subst ei; omega
          · exact hN i (by omega) h1 b hb
        · have hm := rng _ (mem_getD (L := L) (i := (way c n).From.toNat) (by omega))
          refine wp_must (by omega) (wp_bindE (ends_eq F (by omega) (by omega) (by omega)) (wp_must (fun _ => by omega) ?_))
          show Wp (bif (decide (0 ≤ (fin (way c n) (boT c true n) (L.getD (way c n).From.toNat default)).getD (-1)) && !(gasolierref03_In (L.getD (way c n).To.toNat default) 0 ((fin (way c n) (boT c true n) (L.getD (way c n).From.toNat default)).getD (-1)))) then some 37 else K3 ()) (MarkP c t.From t.At L)
          cases hfin : fin (way c n) (boT c true n) (L.getD (way c n).From.toNat default) with
          | none =>
            refine wp_false rfl (hK3 _ (fun i hi h1 b hb => ?_))
            by_cases ei : i = n
            · subst ei; rw [hfin] at hb; cases hb
            · exact hN i (by omega) h1 b hb
          | some b0 =>
            have hb0 := fin_gt F (by show 1 ≤ (way c n).Takes.Hi; omega) hfin
            refine wp_bif (fun g5 => ?_) (fun g5 => hK3 _ (fun i hi h1 b hb => ?_))
            · refine wp_some (.inr (.inr ⟨h0, fun M => ?_, rfl⟩))
              have := M.cls n hnl (by omega) b0 hfin
              unfold gasolierref03_In at g5
              simp only [Bool.and_eq_true, Bool.not_eq_true', Bool.and_eq_false_iff, decide_eq_false_iff_not, Option.getD_some] at g5
              omega
            · by_cases ei : i = n
              · subst ei
                rw [hfin] at hb; cases hb
                unfold gasolierref03_In at g5
                simp only [Bool.and_eq_false_iff, Bool.not_eq_false', Bool.and_eq_true, decide_eq_true_eq, decide_eq_false_iff_not, Option.getD_some] at g5
                omega
              · exact hN i (by omega) h1 b hb
      · have hnl : n = c.Ways.length := by omega
        subst hnl
        exact wp_some (.inr (.inl ⟨h0, ⟨e, rng, st, hN⟩, rfl⟩))

theorem roundMarks_true (c : Chart) (t : Trip) (L : List Int) : gasolierlaw03_RoundMarks 20000 c t L = some true := by
  refine Wp.eq ?_
  unfold gasolierlaw03_RoundMarks
  refine wp_bindE sane_ok (wp_bind (matrix_eq (by omega) c) (fun x hx => wp_bind (ref_matrix_eq (by omega) c) (fun y hy => ?_)))
  have := hx.unique hy
  subst this
  have sm := hx.small
  refine wp_bindE (sameMatrix_self (by omega) x.1 sm.1 sm.2).eq ?_
  rw [decide_eq_true rfl]
  refine wp_bind (Q := MarkP c t.From t.At L) (checkMarks_eq c t.From t.At L) (fun e he => wp_bind (Q := MarkP c t.From t.At L) (ref_checkMarks_eq (by omega) c t L) (fun e' he' => wp_some ?_))
  rw [he.unique he', decide_eq_true rfl]; rfl

end Go.Sp
