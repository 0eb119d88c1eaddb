/- Regions, part 3: whatever the order. -/
import Derived.Test.YtnaodipmfaglfaaAvP
set_option linter.all false
namespace Go.Av
def stF (F : Fr) : List (Option Nat × AV) → (Nat → Bool) → Nat → Fr
  | [], _, _ => F
  | (d, v) :: r, S, k => stF (if S k then putO F d v else F) r S (k + 1)
def stM (M : Mm) : List (List (Nat × Blk)) → (Nat → Bool) → Nat → Mm
  | [], _, _ => M
  | wr :: r, S, k => stM (if S k then updL M wr else M) r S (k + 1)
theorem putO_at {F F' : Fr} {d : Option Nat} {v : AV} {t : Nat} (h : F t = F' t) : putO F d v t = putO F' d v t := by
  cases d with
  | none => exact h
  | some d =>
    by_cases e : t = d
    · subst e; simp [putO, put_same]
    · simp [putO, put_other _ _ e, h]
theorem putO_ne {F : Fr} {d : Option Nat} {v : AV} {t : Nat} (h : d ≠ some t) : putO F d v t = F t := by
  cases d with
  | none => rfl
  | some d => exact put_other _ _ (fun e => h (by rw [e]))
theorem updL_at : ∀ {wr : List (Nat × Blk)} {M M' : Mm} {i : Nat}, M i = M' i → updL M wr i = updL M' wr i
  | [], _, _, _, h => h
  | (j, b) :: r, M, M', i, h => by
    unfold updL
    refine updL_at ?_
    by_cases e : i = j
    · subst e; simp [upd_same]
    · simp [upd_other _ _ e, h]
theorem updL_ne : ∀ {wr : List (Nat × Blk)} {M : Mm} {i : Nat}, i ∉ wr.map (·.1) → updL M wr i = M i
  | [], _, _, _ => rfl
  | (j, b) :: r, M, i, h => by
    unfold updL
    simp at h
    rw [updL_ne (by simpa using h.2), upd_other _ _ h.1]
theorem stF_congr {t : Nat} : ∀ {l : List (Option Nat × AV)} {F F' : Fr} {S S' : Nat → Bool} {k : Nat}, F t = F' t → (∀ i d v, l[i]? = some (d, v) → S (k + i) ≠ S' (k + i) → d ≠ some t) → stF F l S k t = stF F' l S' k t
  | [], _, _, _, _, _, h, _ => h
  | (d, v) :: r, F, F', S, S', k, h, hd => by
    unfold stF
    refine stF_congr ?_ (fun i d' v' hi hs => hd (i + 1) d' v' (by simpa using hi) (by simpa [Nat.add_assoc, Nat.add_comm 1 i] using hs))
    have h0 := hd 0 d v (by simp)
    simp only [Nat.add_zero] at h0
    cases hS : S k <;> cases hS' : S' k
    · simpa using h
    · simp only [Bool.false_eq_true, if_false, if_true]; rw [putO_ne (h0 (by rw [hS, hS']; decide))]; exact h
    · simp only [Bool.false_eq_true, if_false, if_true]; rw [putO_ne (h0 (by rw [hS, hS']; decide))]; exact h
    · simp only [if_true]; exact putO_at h
theorem stM_congr {t : Nat} : ∀ {l : List (List (Nat × Blk))} {M M' : Mm} {S S' : Nat → Bool} {k : Nat}, M t = M' t → (∀ i wr, l[i]? = some wr → S (k + i) ≠ S' (k + i) → t ∉ wr.map (·.1)) → stM M l S k t = stM M' l S' k t
  | [], _, _, _, _, _, h, _ => h
  | wr :: r, M, M', S, S', k, h, hd => by
    unfold stM
    refine stM_congr ?_ (fun i wr' hi hs => hd (i + 1) wr' (by simpa using hi) (by simpa [Nat.add_assoc, Nat.add_comm 1 i] using hs))
    have h0 := hd 0 wr (by simp)
    simp only [Nat.add_zero] at h0
    cases hS : S k <;> cases hS' : S' k
    · simpa using h
    · simp only [Bool.false_eq_true, if_false, if_true]; rw [updL_ne (h0 (by rw [hS, hS']; decide))]; exact h
    · simp only [Bool.false_eq_true, if_false, if_true]; rw [updL_ne (h0 (by rw [hS, hS']; decide))]; exact h
    · simp only [if_true]; exact updL_at h
theorem stF_ins {d : Option Nat} {v : AV} {i : Nat} : ∀ {l : List (Option Nat × AV)} {F : Fr} {S S' : Nat → Bool} {k : Nat}, l[i]? = some (d, v) → S (k + i) = false → S' (k + i) = true → (∀ j, j ≠ i → S' (k + j) = S (k + j)) →
    (∀ j e u, i < j → l[j]? = some (e, u) → S (k + j) = true → ∀ t, d = some t → e ≠ some t) → ∀ t, stF F l S' k t = putO (stF F l S k) d v t
  | [], _, _, _, _, h, _, _, _, _ => by simp at h
  | (d0, v0) :: r, F, S, S', k, hi, h1, h2, h3, h4 => by
    intro t
    unfold stF
    cases i with
    | zero =>
      simp only [List.getElem?_cons_zero, Option.some.injEq, Prod.mk.injEq] at hi
      obtain ⟨rfl, rfl⟩ := hi
      simp only [Nat.add_zero] at h1 h2
      rw [h1, h2]
      simp only [Bool.false_eq_true, if_false, if_true]
      have hS : stF (putO F d0 v0) r S' (k + 1) t = stF (putO F d0 v0) r S (k + 1) t := stF_congr rfl (fun j e u _ hs => by
        have := h3 (j + 1) (by omega)
        rw [show k + (j + 1) = k + 1 + j by omega] at this
        exact absurd this hs)
      rw [hS]
      by_cases ht : d0 = some t
      · subst ht
        simp only [putO, put_same]
        have : stF (put F t v0) r S (k + 1) t = stF (put F t v0) r (fun _ => false) (k + 1) t := stF_congr rfl (fun j e u hj hs => by
          refine h4 (j + 1) e u (by omega) (by simpa using hj) ?_ t rfl
          rw [show k + (j + 1) = k + 1 + j by omega]
          simpa using hs)
        rw [this]
        have hfal : ∀ (l : List (Option Nat × AV)) (G : Fr) (k : Nat), stF G l (fun _ => false) k = G := by
          intro l
          induction l with
          | nil => intros; rfl
          | cons x l ih => intro G k; obtain ⟨e, u⟩ := x; unfold stF; simp [ih]
        rw [hfal, put_same]
      · rw [putO_ne ht]
        exact stF_congr (putO_ne ht) (fun j e u _ hs => absurd rfl hs)
    | succ i =>
      have e0 := h3 0 (by omega)
      simp only [Nat.add_zero] at e0
      rw [e0]
      exact stF_ins (by simpa using hi) (by rw [show k + 1 + i = k + (i + 1) by omega]; exact h1) (by rw [show k + 1 + i = k + (i + 1) by omega]; exact h2)
        (fun j hj => by rw [show k + 1 + j = k + (j + 1) by omega]; exact h3 (j + 1) (by omega))
        (fun j e u hij hj hs => h4 (j + 1) e u (by omega) (by simpa using hj) (by rw [show k + (j + 1) = k + 1 + j by omega]; exact hs)) t
theorem stM_ins {wr : List (Nat × Blk)} {i : Nat} : ∀ {l : List (List (Nat × Blk))} {M : Mm} {S S' : Nat → Bool} {k : Nat}, l[i]? = some wr → S (k + i) = false → S' (k + i) = true → (∀ j, j ≠ i → S' (k + j) = S (k + j)) →
    (∀ j wr', i < j → l[j]? = some wr' → S (k + j) = true → ∀ t, t ∈ wr.map (·.1) → t ∉ wr'.map (·.1)) → ∀ t, stM M l S' k t = updL (stM M l S k) wr t
  | [], _, _, _, _, h, _, _, _, _ => by simp at h
  | wr0 :: r, M, S, S', k, hi, h1, h2, h3, h4 => by
    intro t
    unfold stM
    cases i with
    | zero =>
      simp only [List.getElem?_cons_zero, Option.some.injEq] at hi
      subst hi
      simp only [Nat.add_zero] at h1 h2
      rw [h1, h2]
      simp only [Bool.false_eq_true, if_false, if_true]
      have hS : stM (updL M wr0) r S' (k + 1) t = stM (updL M wr0) r S (k + 1) t := stM_congr rfl (fun j u _ hs => by
        have := h3 (j + 1) (by omega)
        rw [show k + (j + 1) = k + 1 + j by omega] at this
        exact absurd this hs)
      rw [hS]
      have hfal : ∀ (l : List (List (Nat × Blk))) (G : Mm) (k : Nat), stM G l (fun _ => false) k = G := by
        intro l
        induction l with
        | nil => intros; rfl
        | cons x l ih => intro G k; unfold stM; simp [ih]
      by_cases ht : t ∈ wr0.map (·.1)
      · have hno : ∀ j wr', r[j]? = some wr' → S (k + 1 + j) = true → t ∉ wr'.map (·.1) := fun j wr' hj hs =>
          h4 (j + 1) wr' (by omega) (by simpa using hj) (by rw [show k + (j + 1) = k + 1 + j by omega]; exact hs) t ht
        have e1 : stM (updL M wr0) r S (k + 1) t = stM (updL M wr0) r (fun _ => false) (k + 1) t := stM_congr rfl (fun j u hj hs => hno j u hj (by simpa using hs))
        have e2 : stM M r S (k + 1) t = stM M r (fun _ => false) (k + 1) t := stM_congr rfl (fun j u hj hs => hno j u hj (by simpa using hs))
        rw [hfal] at e1 e2
        rw [e1]
        exact (updL_at e2).symm
      · rw [updL_ne ht]
        exact stM_congr (updL_ne ht) (fun j u _ hs => absurd rfl hs)
    | succ i =>
      have e0 := h3 0 (by omega)
      simp only [Nat.add_zero] at e0
      rw [e0]
      exact stM_ins (by simpa using hi) (by rw [show k + 1 + i = k + (i + 1) by omega]; exact h1) (by rw [show k + 1 + i = k + (i + 1) by omega]; exact h2)
        (fun j hj => by rw [show k + 1 + j = k + (j + 1) by omega]; exact h3 (j + 1) (by omega))
        (fun j wr' hij hj hs => h4 (j + 1) wr' (by omega) (by simpa using hj) (by rw [show k + (j + 1) = k + 1 + j by omega]; exact hs)) t
section
variable {P : Program} {N : Nat} {Γ : Tys} {own : List Nat} {ops : Array Oper}
def dvs : List Oper → List OpRes → List (Option Nat × AV)
  | o :: os, r :: rs => (o.dst, r.v) :: dvs os rs
  | _, _ => []
theorem dvs_get : ∀ {os : List Oper} {rs : List OpRes} {i : Nat} {o : Oper} {r : OpRes}, os[i]? = some o → rs[i]? = some r → (dvs os rs)[i]? = some (o.dst, r.v) := by
  intro os
  induction os with
  | nil => intro rs i o r h; simp at h
  | cons o0 os ih =>
    intro rs i o r h1 h2
    cases rs with
    | nil => simp at h2
    | cons r0 rs =>
      cases i with
      | zero =>
        simp only [List.getElem?_cons_zero, Option.some.injEq] at h1 h2
        subst h1 h2
        simp only [dvs, List.getElem?_cons_zero]
      | succ i =>
        simp only [List.getElem?_cons_succ] at h1 h2
        simp only [dvs, List.getElem?_cons_succ]
        exact ih h1 h2
theorem dvs_inv : ∀ {os : List Oper} {rs : List OpRes} {i : Nat} {x : Option Nat × AV}, (dvs os rs)[i]? = some x → ∃ o r, os[i]? = some o ∧ rs[i]? = some r ∧ x = (o.dst, r.v) := by
  intro os
  induction os with
  | nil => intro rs i x h; simp [dvs] at h
  | cons o0 os ih =>
    intro rs i x h
    cases rs with
    | nil => simp [dvs] at h
    | cons r0 rs =>
      simp only [dvs] at h
      cases i with
      | zero => simp only [List.getElem?_cons_zero, Option.some.injEq] at h; exact ⟨o0, r0, rfl, rfl, h.symm⟩
      | succ i =>
        simp only [List.getElem?_cons_succ] at h ⊢
        exact ih h
theorem Trace.len {F F' : Fr} {M M' : Mm} {os : List Oper} {rs : List OpRes} (T : Trace P N ops F M os rs F' M') : rs.length = os.length := by
  induction T with
  | nil => rfl
  | cons _ _ ih => simp [ih]
theorem Trace.at {F F' : Fr} {M M' : Mm} {os : List Oper} {rs : List OpRes} (T : Trace P N ops F M os rs F' M') : ∀ (k j : Nat) (o : Oper) (r : OpRes), os[j]? = some o → rs[j]? = some r →
    OpOk P N ops (stF F (dvs os rs) (fun i => decide (i < k + j)) k) (stM M (rs.map (·.wr)) (fun i => decide (i < k + j)) k) o r := by
  induction T with
  | nil => intro k j o r h; simp at h
  | cons hop _ ih =>
    rename_i F M o0 r0 os rs F' M' T'
    intro k j o r ho hr
    cases j with
    | zero =>
      simp at ho hr; subst ho hr
      have e1 : ∀ (l : List (Option Nat × AV)) (G : Fr) (m : Nat), k ≤ m → stF G l (fun i => decide (i < k + 0)) m = G := by
        intro l
        induction l with
        | nil => intros; rfl
        | cons x l ih => intro G m hm; obtain ⟨e, u⟩ := x; unfold stF; rw [if_neg (by simp; omega)]; exact ih G (m + 1) (by omega)
      have e2 : ∀ (l : List (List (Nat × Blk))) (G : Mm) (m : Nat), k ≤ m → stM G l (fun i => decide (i < k + 0)) m = G := by
        intro l
        induction l with
        | nil => intros; rfl
        | cons x l ih => intro G m hm; unfold stM; rw [if_neg (by simp; omega)]; exact ih G (m + 1) (by omega)
      rw [e1 _ _ _ (Nat.le_refl _), e2 _ _ _ (Nat.le_refl _)]
      exact hop
    | succ j =>
      have := ih (k + 1) j o r (by simpa using ho) (by simpa using hr)
      simp only [dvs, stF, stM, List.map_cons]
      rw [if_pos (by simp), if_pos (by simp)]
      have e : (fun i => decide (i < k + (j + 1))) = (fun i => decide (i < k + 1 + j)) := by funext i; congr 1; rw [show k + (j + 1) = k + 1 + j by omega]
      rw [e]
      exact this
theorem Trace.all {F F' : Fr} {M M' : Mm} {os : List Oper} {rs : List OpRes} (T : Trace P N ops F M os rs F' M') : ∀ (S : Nat → Bool) (k : Nat), (∀ i, i < os.length → S (k + i) = true) → stF F (dvs os rs) S k = F' ∧ stM M (rs.map (·.wr)) S k = M' := by
  induction T with
  | nil => intro S k _; exact ⟨rfl, rfl⟩
  | cons hop _ ih =>
    intro S k hS
    simp only [dvs, stF, stM, List.map_cons]
    have h0 := hS 0 (by simp)
    simp only [Nat.add_zero] at h0
    rw [h0]
    exact ih S (k + 1) (fun i hi => by rw [show k + 1 + i = k + (i + 1) by omega]; exact hS (i + 1) (by simp; omega))
def cnt (S : Nat → Bool) : Nat → Nat
  | 0 => 0
  | n + 1 => cnt S n + (if S n then 0 else 1)
theorem cnt_same {S S' : Nat → Bool} : ∀ {n : Nat}, (∀ i, i < n → S i = S' i) → cnt S n = cnt S' n
  | 0, _ => rfl
  | n + 1, h => by simp only [cnt]; rw [cnt_same (fun i hi => h i (by omega)), h n (by omega)]
theorem cnt_ins {S S' : Nat → Bool} {i : Nat} (h1 : S i = false) (h2 : S' i = true) (h3 : ∀ j, j ≠ i → S' j = S j) (n : Nat) (hi : i < n) : cnt S n = cnt S' n + 1 := by
  induction n with
  | zero => omega
  | succ n ih =>
    simp only [cnt]
    by_cases e : i = n
    · subst e
      rw [h1, h2, cnt_same (S := S) (S' := S') (fun j hj => (h3 j (by omega)).symm)]
      simp
    · have := ih (by omega)
      rw [h3 n (Ne.symm e)]
      omega
theorem cnt_zero {S : Nat → Bool} : ∀ {n : Nat}, cnt S n = 0 → ∀ i, i < n → S i = true
  | n + 1, h, i, hi => by
    simp only [cnt] at h
    by_cases e : i = n
    · subst e
      cases hS : S i with
      | true => rfl
      | false => simp [hS] at h
    · have h0 : cnt S n = 0 := by omega
      exact cnt_zero h0 i (by omega)
theorem dstIn_spec {d : Option Nat} {l : List Nat} {t : Nat} (h1 : d = some t) (h2 : t ∈ l) : dstIn d l = true := by subst h1; exact inList_spec h2
theorem any_order {F0 F1 : Fr} {M0 M1 : Mm} {rs : List OpRes} (T : Trace P N ops F0 M0 ops.toList rs F1 M1) (hord : orderOk ops (rs.map (fun r => (r.rd, r.wr.map (·.1)))) = true) (hdst : ∀ o, o ∈ ops.toList → ∀ d, o.dst = some d → d < N)
    {C : Ctx} {g : Nat} {rr : Option Nat} {n : Nat} {Q : Exit → Act → World → Prop} (hQ : ∀ h ρ a w, InvH N C h ρ F1 M1 g a w → Q .normal a w) :
    ∀ (fuel : Nat) (listed : Array Bool) (h : Hp) (ρ : Rho) (a : Act) (w : World), listed.size = ops.size → cnt (fun i => listed.getD i false) ops.size = fuel → Closed ops (fun i => listed.getD i false) →
      InvH N C h ρ (stF F0 (dvs ops.toList rs) (fun i => listed.getD i false) 0) (stM M0 (rs.map (·.wr)) (fun i => listed.getD i false) 0) g a w → wpAnyIn (Fw rr) n P .any ops Q fuel listed a w := by
  unfold orderOk at hord
  split at hord
  case h_2 => cases hord
  rename_i l hl
  obtain ⟨hlen, _, hit⟩ := items_spec hl rfl (fun k i h => by simp at h) (fun k => .inl (by simp))
  have hpair := okAll_spec hord
  simp only [Nat.zero_add] at hit hpair
  have hn : ops.toList.length = ops.size := by simp
  -- an item of each operation
  have item : ∀ (i : Nat) (o : Oper) (r : OpRes), ops[i]? = some o → rs[i]? = some r → ∃ x, l[i]? = some x ∧ x.dst = o.dst ∧ x.looks = o.looksAt ops ∧ x.rd = r.rd ∧ x.wr = r.wr.map (·.1) ∧ (∀ k, x.mask.testBit k = true → Anc ops k i) := by
    intro i o r ho hr
    have hi : i < l.length := by rw [hlen, hn]; exact (Array.getElem?_eq_some_iff.1 ho).1
    obtain ⟨o', f, h1, h2, h3, h4, h5, h6, h7, _⟩ := hit i l[i] (List.getElem?_eq_getElem hi)
    rw [Array.getElem?_toList, ho] at h1; cases h1
    rw [List.getElem?_map, hr] at h2; cases h2
    exact ⟨_, List.getElem?_eq_getElem hi, h3, h4, h5, h6, h7⟩
  -- two that do not wait for one another are apart
  have far : ∀ (i j : Nat) (o : Oper) (r : OpRes) (o' : Oper) (r' : OpRes), i < j → ops[i]? = some o → rs[i]? = some r → ops[j]? = some o' → rs[j]? = some r' → ¬ Anc ops i j →
      (∀ t, o.dst = some t → t ∉ o'.looksAt ops) ∧ (∀ t, o'.dst = some t → t ∉ o.looksAt ops) ∧ (∀ t, o.dst = some t → o'.dst ≠ some t) ∧ (∀ t, t ∈ r.wr.map (·.1) → t ∉ r'.rd) ∧ (∀ t, t ∈ r'.wr.map (·.1) → t ∉ r.rd) ∧ (∀ t, t ∈ r.wr.map (·.1) → t ∉ r'.wr.map (·.1)) := by
    intro i j o r o' r' hij ho hr ho' hr' hA
    obtain ⟨x, hx, a1, a2, a3, a4, _⟩ := item i o r ho hr
    obtain ⟨y, hy, b1, b2, b3, b4, b5⟩ := item j o' r' ho' hr'
    have h0 := hpair i j x y hij hx hy
    have hc : confl x y = false := by
      unfold okPair at h0
      split at h0
      · exact absurd (b5 i h0) hA
      · assumption
    unfold confl at hc
    simp only [Bool.or_eq_false_iff] at hc
    obtain ⟨⟨⟨⟨⟨c1, c2⟩, c3⟩, c4⟩, c5⟩, c6⟩ := hc
    refine ⟨fun t ht hin => ?_, fun t ht hin => ?_, fun t ht hin => ?_, fun t ht hin => ?_, fun t ht hin => ?_, fun t ht hin => ?_⟩
    · rw [dstIn_spec (a1.trans ht) (b2 ▸ hin)] at c1; cases c1
    · rw [dstIn_spec (b1.trans ht) (a2 ▸ hin)] at c2; cases c2
    · rw [a1.trans ht, b1.trans hin] at c3; simp [sameDst] at c3
    · rw [meets_spec (a4 ▸ ht) (b3 ▸ hin)] at c4; cases c4
    · rw [meets_spec (b4 ▸ ht) (a3 ▸ hin)] at c5; cases c5
    · rw [meets_spec (a4 ▸ ht) (b4 ▸ hin)] at c6; cases c6
  have hrs : ∀ (i : Nat) (o : Oper), ops[i]? = some o → ∃ r, rs[i]? = some r := by
    intro i o ho
    have hi : i < rs.length := by rw [T.len, hn]; exact (Array.getElem?_eq_some_iff.1 ho).1
    exact ⟨rs[i], List.getElem?_eq_getElem hi⟩
  have fin : ∀ (listed : Array Bool) (h : Hp) (ρ : Rho) (a : Act) (w : World), (∀ i, i < ops.size → listed.getD i false = true) →
      InvH N C h ρ (stF F0 (dvs ops.toList rs) (fun i => listed.getD i false) 0) (stM M0 (rs.map (·.wr)) (fun i => listed.getD i false) 0) g a w → Q .normal a w := by
    intro listed h ρ a w hall I
    obtain ⟨e1, e2⟩ := T.all (fun i => listed.getD i false) 0 (fun i hi => by simpa using hall i (by simpa using hi))
    rw [e1, e2] at I
    exact hQ h ρ a w I
  have hgd : ∀ (listed : Array Bool) (i : Nat), listed.size = ops.size → i < ops.size → listed.getD i true = listed.getD i false := by
    intro listed i hs hi
    have : i < listed.size := by omega
    simp [this]
  intro fuel
  induction fuel with
  | zero =>
    intro listed h ρ a w hs hc hcl I
    have hall := cnt_zero hc
    refine ⟨?_, fin listed h ρ a w hall I⟩
    rcases hr : Region.ready .any ops listed with _ | ⟨i, t⟩
    · rfl
    · have := (mem_ready.1 (hr ▸ List.mem_cons_self .. : i ∈ Region.ready .any ops listed))
      obtain ⟨h1, o, ho, _⟩ := this
      have hi := (Array.getElem?_eq_some_iff.1 ho).1
      rw [hgd listed i hs hi, hall i hi] at h1; cases h1
  | succ fuel ih =>
    intro listed h ρ a w hs hc hcl I
    refine ⟨fun h0 => fin listed h ρ a w (fun i hi => ?_) I, fun i hi => ?_⟩
    · -- nothing is ready: all have come
      have key : ∀ m i, i < m → i < ops.size → listed.getD i false = true := by
        intro m
        induction m with
        | zero => intro i hi; omega
        | succ m ihm =>
          intro i him hi
          cases hl' : listed.getD i false with
          | true => rfl
          | false =>
            exfalso
            have ho : ops[i]? = some ops[i] := Array.getElem?_eq_getElem hi
            have hx : i < l.length := by rw [hlen, hn]; exact hi
            obtain ⟨o', f, h1, _, _, _, _, _, _, h8⟩ := hit i l[i] (List.getElem?_eq_getElem hx)
            rw [Array.getElem?_toList, ho] at h1; cases h1
            have : i ∈ Region.ready .any ops listed := mem_ready.2 ⟨by rw [hgd listed i hs hi]; exact hl', _, ho, fun e he hb => ihm e.on (by have := h8 e he hb; omega) (by have := h8 e he hb; omega)⟩
            rw [h0] at this; cases this
      exact key (i + 1) i (by omega) hi
    · obtain ⟨h1, o, ho, hall⟩ := mem_ready.1 hi
      have hin := (Array.getElem?_eq_some_iff.1 ho).1
      rw [hgd listed i hs hin] at h1
      obtain ⟨r, hr⟩ := hrs i o ho
      have hop := T.at 0 i o r (by rw [Array.getElem?_toList]; exact ho) hr
      simp only [Nat.zero_add] at hop
      -- whom it waits for, and who waits for it
      have anc1 : ∀ k, Anc ops k i → listed.getD k false = true := by
        intro k A
        have hcl' : ∀ k, Anc ops k i → listed.getD k false = true := by
          intro k A
          obtain ⟨j, hj⟩ : ∃ j, j = i := ⟨i, rfl⟩
          rw [← hj] at A
          induction A with
          | edge q1 q2 q3 q4 => subst hj; rw [ho] at q1; cases q1; exact q4 ▸ hall _ q2 q3
          | trans A1 _ _ ih2 => exact A1.closed hcl (ih2 hj)
        exact hcl' k A
      have anc2 : ∀ k, Anc ops i k → listed.getD k false = false := by
        intro k A
        cases hk : listed.getD k false with
        | false => rfl
        | true =>
          have : listed.getD i false = true := A.closed hcl hk
          rw [h1] at this; cases this
      have apartT : ∀ (k : Nat) (o' : Oper) (r' : OpRes), ops[k]? = some o' → rs[k]? = some r' → k ≠ i → (listed.getD k false ≠ decide (k < i)) →
          (∀ t, o'.dst = some t → t ∉ o.looksAt ops) ∧ (∀ t, t ∈ r'.wr.map (·.1) → t ∉ r.rd) ∧ (∀ t, o.dst = some t → o'.dst ≠ some t) ∧ (∀ t, t ∈ r.wr.map (·.1) → t ∉ r'.wr.map (·.1)) := by
        intro k o' r' ho' hr' hne hd
        rcases Nat.lt_or_ge k i with hlt | hge
        · have hk : listed.getD k false = false := by
            cases hk : listed.getD k false with
            | false => rfl
            | true => rw [hk] at hd; simp [hlt] at hd
          have hA : ¬ Anc ops k i := fun A => by rw [anc1 k A] at hk; cases hk
          obtain ⟨f1, f2, f3, f4, f5, f6⟩ := far k i o' r' o r hlt ho' hr' ho hr hA
          exact ⟨f1, f4, fun t h1 h2 => f3 t h2 h1, fun t h1 h2 => f6 t h2 h1⟩
        · have hgt : i < k := by omega
          have hk : listed.getD k false = true := by
            cases hk : listed.getD k false with
            | true => rfl
            | false => rw [hk] at hd; simp [Nat.not_lt.2 hge] at hd
          have hA : ¬ Anc ops i k := fun A => by rw [anc2 k A] at hk; cases hk
          obtain ⟨f1, f2, f3, f4, f5, f6⟩ := far i k o r o' r' hgt ho hr ho' hr' hA
          exact ⟨f2, f5, f3, f6⟩
      have hset : ∀ j, j ≠ i → (listed.setIfInBounds i true).getD j false = listed.getD j false := fun j hj => getD_set_ne false (Ne.symm hj)
      have hseti : (listed.setIfInBounds i true).getD i false = true := by
        have : i < listed.size := by omega
        simp [this]
      unfold wpOpIn
      simp only [ho]
      refine hop C h ρ _ _ g a w I (fun t ht => stF_congr rfl (fun k d v hk hd hdt => ?_)) (fun t ht => stM_congr rfl (fun k wr hk hd hin' => ?_)) rr n _ Q (fun x h' ρ' w' I' hv => ?_)
      · obtain ⟨o', r', e1, e2, e3⟩ := dvs_inv hk
        cases e3
        rw [Array.getElem?_toList] at e1
        simp only [Nat.zero_add] at hd
        by_cases hki : k = i
        · subst hki; simp [h1] at hd
        · exact (apartT k o' r' e1 e2 hki hd).1 t hdt ht
      · simp only [List.getElem?_map, Option.map_eq_some_iff] at hk
        obtain ⟨r', e2, rfl⟩ := hk
        simp only [Nat.zero_add] at hd
        have hk' : k < ops.size := by
          have := (List.getElem?_eq_some_iff.1 e2).1
          rw [T.len, hn] at this; exact this
        by_cases hki : k = i
        · subst hki; simp [h1] at hd
        · exact (apartT k _ r' (Array.getElem?_eq_getElem hk') e2 hki hd).2.1 t hin' ht
      · have hF : stF F0 (dvs ops.toList rs) (fun j => (listed.setIfInBounds i true).getD j false) 0 = putO (stF F0 (dvs ops.toList rs) (fun j => listed.getD j false) 0) o.dst r.v := by
          funext t
          refine stF_ins (i := i) (dvs_get (by rw [Array.getElem?_toList]; exact ho) hr) (by simpa using h1) (by simpa using hseti) (fun j hj => by simpa using hset j hj) (fun j e u hij hj hs t' ht' => ?_) t
          obtain ⟨o', r', e1, e2, e3⟩ := dvs_inv hj
          cases e3
          rw [Array.getElem?_toList] at e1
          simp only [Nat.zero_add] at hs
          exact (apartT j o' r' e1 e2 (by omega) (by rw [hs]; simp; omega)).2.2.1 t' ht'
        have hM : stM M0 (rs.map (·.wr)) (fun j => (listed.setIfInBounds i true).getD j false) 0 = updL (stM M0 (rs.map (·.wr)) (fun j => listed.getD j false) 0) r.wr := by
          funext t
          refine stM_ins (i := i) (by simp [hr]) (by simpa using h1) (by simpa using hseti) (fun j hj => by simpa using hset j hj) (fun j wr' hij hj hs t' ht' => ?_) t
          simp only [List.getElem?_map, Option.map_eq_some_iff] at hj
          obtain ⟨r', e2, rfl⟩ := hj
          simp only [Nat.zero_add] at hs
          have hj' : j < ops.size := by
            have := (List.getElem?_eq_some_iff.1 e2).1
            rw [T.len, hn] at this; exact this
          exact (apartT j _ r' (Array.getElem?_eq_getElem hj') e2 (by omega) (by rw [hs]; simp; omega)).2.2.2 t' ht'
        refine ih (listed.setIfInBounds i true) h' ρ' _ w' (by simp [hs]) ?_ ?_ ?_
        · have := cnt_ins (S := fun j => listed.getD j false) (S' := fun j => (listed.setIfInBounds i true).getD j false) h1 hseti hset ops.size hin
          omega
        · intro j o' ho' hj e he hb
          by_cases hji : j = i
          · subst hji
            rw [ho] at ho'; cases ho'
            by_cases hei : e.on = j
            · rw [hei]; exact hseti
            · simp only [hset _ hei]; exact hall e he hb
          · simp only [hset _ hji] at hj
            by_cases hei : e.on = i
            · rw [hei]; exact hseti
            · simp only [hset _ hei]; exact hcl j o' ho' hj e he hb
        · rw [hF, hM]
          exact I'.put (fun d hd => hdst o (by rw [← Array.getElem?_toList] at ho; exact List.mem_of_getElem? ho) d hd) hv
end
end Go.Av
