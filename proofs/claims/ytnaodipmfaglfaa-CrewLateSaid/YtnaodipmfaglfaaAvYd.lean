/- A region that draws its order and yields once, with all that stands ahead of the yield done by then: whatever the order. -/
import Derived.Test.YtnaodipmfaglfaaAvW
set_option linter.all false
namespace Go.Av
open Go.Sp
theorem intEq {k : IntKind} {n m : Int} (h : n = m) : AV.int k n = AV.int k m := h ▸ rfl
def bitsB (m : Nat) : Nat → Bool
  | 0 => true
  | n + 1 => match m.testBit n with
    | true => bitsB m n
    | false => false
def hasB (k : Nat) : List Item → Bool
  | [] => true
  | x :: r => match x.mask.testBit k with
    | true => hasB k r
    | false => false
def neckOk (ops : Array Oper) (ft : List (List Nat × List Nat)) (k : Nat) : Bool := match items ops ops.toList ft [] 0 with
  | some l => match nthN k l with
    | some x => match okAll 0 l with
      | true => match bitsB x.mask k with
        | true => hasB k (l.drop (k + 1))
        | false => false
      | false => false
    | none => false
  | none => false
theorem bitsB_spec {m : Nat} : ∀ {n : Nat}, bitsB m n = true → ∀ i, i < n → m.testBit i = true
  | n + 1, h, i, hi => by
    unfold bitsB at h
    split at h
    · rename_i hb
      by_cases e : i = n
      · rw [e]; exact hb
      · exact bitsB_spec h i (by omega)
    · cases h
theorem hasB_spec {k : Nat} : ∀ {l : List Item}, hasB k l = true → ∀ (j : Nat) (x : Item), l[j]? = some x → x.mask.testBit k = true
  | y :: r, h, j, x, hx => by
    unfold hasB at h
    split at h
    · rename_i hb
      cases j with
      | zero => simp at hx; subst hx; exact hb
      | succ j => exact hasB_spec h j x (by simpa using hx)
    · cases h
section
variable {P : Program} {N : Nat} {ops : Array Oper}
def Far (ops : Array Oper) (fts : List (List Nat × List Nat)) : Prop :=
  ∀ (i j : Nat) (o o' : Oper) (f f' : List Nat × List Nat), i < j → ops[i]? = some o → fts[i]? = some f → ops[j]? = some o' → fts[j]? = some f' → ¬ Anc ops i j →
    (∀ t, o.dst = some t → t ∉ o'.looksAt ops) ∧ (∀ t, o'.dst = some t → t ∉ o.looksAt ops) ∧ (∀ t, o.dst = some t → o'.dst ≠ some t) ∧ (∀ t, t ∈ f.2 → t ∉ f'.1) ∧ (∀ t, t ∈ f'.2 → t ∉ f.1) ∧ (∀ t, t ∈ f.2 → t ∉ f'.2)
def Back (ops : Array Oper) : Prop := ∀ (i : Nat) (o : Oper) (e : Edge), ops[i]? = some o → e ∈ o.after → Region.binds .any e = true → e.on < i
theorem neck_spec {fts : List (List Nat × List Nat)} {k : Nat} (h : neckOk ops fts k = true) : Far ops fts ∧ Back ops ∧ (∀ i, i < k → Anc ops i k) ∧ (∀ j, k < j → j < ops.size → Anc ops k j) ∧ fts.length = ops.size := by
  unfold neckOk at h
  split at h
  case h_2 => cases h
  rename_i l hl
  split at h
  case h_2 => cases h
  rename_i x hx
  split at h
  case h_2 => cases h
  rename_i hok
  split at h
  case h_2 => cases h
  rename_i hbits
  obtain ⟨hlen, hft, hit⟩ := items_spec hl rfl (fun k i h => by simp at h) (fun k => .inl (by simp))
  simp only [Nat.zero_add] at hit
  have hn : ops.toList.length = ops.size := by simp
  have hpair := okAll_spec hok
  simp only [Nat.zero_add] at hpair
  refine ⟨?_, ?_, ?_, ?_, by rw [hft, hn]⟩
  · intro i j o o' f f' hij ho hf ho' hf' hA
    have hi : i < l.length := by rw [hlen, hn]; exact (Array.getElem?_eq_some_iff.1 ho).1
    have hj : j < l.length := by rw [hlen, hn]; exact (Array.getElem?_eq_some_iff.1 ho').1
    obtain ⟨o1, f1, h1, h2, a1, a2, a3, a4, _, _⟩ := hit i l[i] (List.getElem?_eq_getElem hi)
    obtain ⟨o2, f2, h3, h4, b1, b2, b3, b4, b5, _⟩ := hit j l[j] (List.getElem?_eq_getElem hj)
    rw [Array.getElem?_toList, ho] at h1; cases h1
    rw [Array.getElem?_toList, ho'] at h3; cases h3
    rw [hf] at h2; cases h2
    rw [hf'] at h4; cases h4
    have h0 := hpair i j _ _ hij (List.getElem?_eq_getElem hi) (List.getElem?_eq_getElem hj)
    have hc : confl l[i] l[j] = false := by
      unfold okPair at h0
      split at h0
      · exact absurd (b5 i h0) hA
      · assumption
    unfold confl at hc
    simp only [Bool.or_eq_false_iff] at hc
    obtain ⟨⟨⟨⟨⟨c1, c2⟩, c3⟩, c4⟩, c5⟩, c6⟩ := hc
    refine ⟨fun t ht hin => ?_, fun t ht hin => ?_, fun t ht hin => ?_, fun t ht hin => ?_, fun t ht hin => ?_, fun t ht hin => ?_⟩
    · rw [dstIn_spec (a1.trans ht) (b2 ▸ hin)] at c1; cases c1
    · rw [dstIn_spec (b1.trans ht) (a2 ▸ hin)] at c2; cases c2
    · rw [a1.trans ht, b1.trans hin] at c3; simp [sameDst] at c3
    · rw [meets_spec (a4 ▸ ht) (b3 ▸ hin)] at c4; cases c4
    · rw [meets_spec (b4 ▸ ht) (a3 ▸ hin)] at c5; cases c5
    · rw [meets_spec (a4 ▸ ht) (b4 ▸ hin)] at c6; cases c6
  · intro i o e ho he hb
    have hi : i < l.length := by rw [hlen, hn]; exact (Array.getElem?_eq_some_iff.1 ho).1
    obtain ⟨o1, f1, h1, _, _, _, _, _, _, h8⟩ := hit i l[i] (List.getElem?_eq_getElem hi)
    rw [Array.getElem?_toList, ho] at h1; cases h1
    exact h8 e he hb
  · intro i hi
    obtain ⟨_, _, _, _, _, _, _, _, h7, _⟩ := hit k x (nthN_get hx)
    exact h7 i (bitsB_spec hbits i hi)
  · intro j hkj hj
    have hj' : j < l.length := by rw [hlen, hn]; exact hj
    obtain ⟨_, _, _, _, _, _, _, _, h7, _⟩ := hit j l[j] (List.getElem?_eq_getElem hj')
    refine h7 k (hasB_spec h (j - (k + 1)) l[j] ?_)
    rw [List.getElem?_drop, show k + 1 + (j - (k + 1)) = j by omega]
    exact List.getElem?_eq_getElem hj'
theorem cnt_from {S : Nat → Bool} {K : Nat} : ∀ {n : Nat}, (∀ i, i < n → S i = decide (i < K)) → cnt S n = n - K
  | 0, _ => by simp [cnt]
  | n + 1, h => by
    have ih := cnt_from (S := S) (K := K) (n := n) (fun i hi => h i (by omega))
    have h0 := h n (by omega)
    unfold cnt
    by_cases e : n < K
    · rw [h0]; simp [e, ih]; omega
    · rw [h0]; simp [e, ih]; omega
theorem any_seg {F0 F1 : Fr} {M0 M1 : Mm} {os : List Oper} {rs : List OpRes} (T : Trace P N ops F0 M0 os rs F1 M1) (m : Nat) (hos : ∀ j, j < os.length → ops[m + j]? = os[j]?) (hle : m + os.length ≤ ops.size) {fts : List (List Nat × List Nat)}
    (hft : ∀ (j : Nat) (r : OpRes), rs[j]? = some r → fts[m + j]? = some (r.rd, r.wr.map (·.1))) (hfar : Far ops fts) (hback : Back ops) (neck : ∀ i, m + os.length ≤ i → i < ops.size → ∀ j, j < os.length → Anc ops (m + j) i)
    (hdst : ∀ o, o ∈ os → ∀ d, o.dst = some d → d < N) {C : Ctx} {g : Nat} {rr : Option Nat} {n : Nat} {Q : Exit → Act → World → Prop}
    (hQ : ∀ (listed : Array Bool) (h : Hp) (ρ : Rho) (a : Act) (w : World), listed.size = ops.size → (∀ i, i < ops.size → listed.getD i false = decide (i < m + os.length)) → InvH N C h ρ F1 M1 g a w → wpAnyIn (Fw rr) n P .any ops Q (ops.size - (m + os.length)) listed a w) :
    ∀ (fuel : Nat) (listed : Array Bool) (h : Hp) (ρ : Rho) (a : Act) (w : World), listed.size = ops.size → cnt (fun i => listed.getD i false) ops.size = fuel → Closed ops (fun i => listed.getD i false) →
      (∀ i, i < m → listed.getD i false = true) → (∀ i, m + os.length ≤ i → listed.getD i false = false) →
      InvH N C h ρ (stF F0 (dvs os rs) (fun i => listed.getD i false) m) (stM M0 (rs.map (·.wr)) (fun i => listed.getD i false) m) g a w → wpAnyIn (Fw rr) n P .any ops Q fuel listed a w := by
  have hrs : ∀ (i : Nat) (o : Oper), os[i]? = some o → ∃ r, rs[i]? = some r := by
    intro i o ho
    have hi : i < rs.length := by rw [T.len]; exact (List.getElem?_eq_some_iff.1 ho).1
    exact ⟨rs[i], List.getElem?_eq_getElem hi⟩
  have hgd : ∀ (listed : Array Bool) (i : Nat), listed.size = ops.size → i < ops.size → listed.getD i true = listed.getD i false := by
    intro listed i hs hi
    have : i < listed.size := by omega
    simp [this]
  intro fuel
  induction fuel with
  | zero =>
    intro listed h ρ a w hs hc hcl hlo hhi I
    have hall := cnt_zero hc
    have hlen : ops.size ≤ m + os.length := by
      rcases Nat.lt_or_ge (m + os.length) ops.size with h1 | h1
      · have h2 := hall _ h1
        have h3 := hhi _ (Nat.le_refl _)
        rw [h3] at h2; cases h2
      · exact h1
    obtain ⟨e1, e2⟩ := T.all (fun i => listed.getD i false) m (fun i hi => hall _ (by omega))
    rw [e1, e2] at I
    have := hQ listed h ρ a w hs (fun i hi => by rw [hall i hi]; simp; omega) I
    rwa [show ops.size - (m + os.length) = 0 by omega] at this
  | succ fuel ih =>
    intro listed h ρ a w hs hc hcl hlo hhi I
    by_cases hall : ∀ i, i < os.length → listed.getD (m + i) false = true
    · obtain ⟨e1, e2⟩ := T.all (fun i => listed.getD i false) m (fun i hi => hall i hi)
      rw [e1, e2] at I
      have hd : ∀ i, i < ops.size → listed.getD i false = decide (i < m + os.length) := by
        intro i hi
        by_cases e : i < m + os.length
        · rw [decide_eq_true e]
          by_cases e3 : i < m
          · exact hlo i e3
          · have := hall (i - m) (by omega)
            rwa [show m + (i - m) = i by omega] at this
        · rw [decide_eq_false e]; exact hhi i (by omega)
      have := hQ listed h ρ a w hs hd I
      rw [cnt_from hd] at hc
      rwa [hc] at this
    · refine ⟨fun h0 => ?_, fun i hi => ?_⟩
      · exfalso
        have key : ∀ q i, i < q → i < ops.size → listed.getD i false = true := by
          intro q
          induction q with
          | zero => intro i hi; omega
          | succ q ihq =>
            intro i him hi
            cases hl' : listed.getD i false with
            | true => rfl
            | false =>
              exfalso
              have ho : ops[i]? = some ops[i] := Array.getElem?_eq_getElem hi
              have : i ∈ Region.ready .any ops listed := mem_ready.2 ⟨by rw [hgd listed i hs hi]; exact hl', _, ho, fun e he hb => ihq e.on (by have := hback i _ e ho he hb; omega) (by have := hback i _ e ho he hb; omega)⟩
              rw [h0] at this; cases this
        exact hall (fun i hi => key (m + i + 1) (m + i) (by omega) (by omega))
      · obtain ⟨h1, o, ho, hdone⟩ := mem_ready.1 hi
        have hin := (Array.getElem?_eq_some_iff.1 ho).1
        rw [hgd listed i hs hin] at h1
        have anc1 : ∀ k, Anc ops k i → listed.getD k false = true := by
          intro k A
          obtain ⟨j, hj⟩ : ∃ j, j = i := ⟨i, rfl⟩
          rw [← hj] at A
          induction A with
          | edge q1 q2 q3 q4 => subst hj; rw [ho] at q1; cases q1; exact q4 ▸ hdone _ q2 q3
          | trans A1 _ _ ih2 => exact A1.closed hcl (ih2 hj)
        have anc2 : ∀ k, Anc ops i k → listed.getD k false = false := by
          intro k A
          cases hk : listed.getD k false with
          | false => rfl
          | true =>
            have : listed.getD i false = true := A.closed hcl hk
            rw [h1] at this; cases this
        have him : m ≤ i := by
          rcases Nat.lt_or_ge i m with h2 | h2
          · rw [hlo i h2] at h1; cases h1
          · exact h2
        have hiu : i < m + os.length := by
          rcases Nat.lt_or_ge i (m + os.length) with h2 | h2
          · exact h2
          · exact absurd (fun j hj => anc1 _ (neck i h2 hin j hj)) hall
        obtain ⟨p, rfl⟩ : ∃ p, i = m + p := ⟨i - m, by omega⟩
        have hp : p < os.length := by omega
        have hop0 : os[p]? = some o := by rw [← hos p hp]; exact ho
        obtain ⟨r, hr⟩ := hrs p o hop0
        have hop := T.at m p o r hop0 hr
        have apartT : ∀ (k : Nat) (o' : Oper) (r' : OpRes), os[k]? = some o' → rs[k]? = some r' → k ≠ p → (listed.getD (m + k) false ≠ decide (m + k < m + p)) →
            (∀ t, o'.dst = some t → t ∉ o.looksAt ops) ∧ (∀ t, t ∈ r'.wr.map (·.1) → t ∉ r.rd) ∧ (∀ t, o.dst = some t → o'.dst ≠ some t) ∧ (∀ t, t ∈ r.wr.map (·.1) → t ∉ r'.wr.map (·.1)) := by
          intro k o' r' ho' hr' hne hd
          have hkl := (List.getElem?_eq_some_iff.1 ho').1
          have ho2 : ops[m + k]? = some o' := by rw [hos k hkl]; exact ho'
          rcases Nat.lt_or_ge k p with hlt | hge
          · have hk : listed.getD (m + k) false = false := by
              cases hk : listed.getD (m + k) false with
              | false => rfl
              | true => rw [hk] at hd; simp [hlt] at hd
            have hA : ¬ Anc ops (m + k) (m + p) := fun A => by rw [anc1 _ A] at hk; cases hk
            obtain ⟨f1, f2, f3, f4, f5, f6⟩ := hfar (m + k) (m + p) o' o _ _ (by omega) ho2 (hft k r' hr') ho (hft p r hr) hA
            exact ⟨f1, f4, fun t h1 h2 => f3 t h2 h1, fun t h1 h2 => f6 t h2 h1⟩
          · have hgt : p < k := by omega
            have hk : listed.getD (m + k) false = true := by
              cases hk : listed.getD (m + k) false with
              | true => rfl
              | false => rw [hk] at hd; simp [Nat.not_lt.2 hge] at hd
            have hA : ¬ Anc ops (m + p) (m + k) := fun A => by rw [anc2 _ A] at hk; cases hk
            obtain ⟨f1, f2, f3, f4, f5, f6⟩ := hfar (m + p) (m + k) o o' _ _ (by omega) ho (hft p r hr) ho2 (hft k r' hr') hA
            exact ⟨f2, f5, f3, f6⟩
        have hset : ∀ j, j ≠ m + p → (listed.setIfInBounds (m + p) true).getD j false = listed.getD j false := fun j hj => getD_set_ne false (Ne.symm hj)
        have hseti : (listed.setIfInBounds (m + p) true).getD (m + p) false = true := by
          have : m + p < listed.size := by omega
          simp [this]
        unfold wpOpIn
        simp only [ho]
        refine hop C h ρ _ _ g a w I (fun t ht => stF_congr rfl (fun k d v hk hd hdt => ?_)) (fun t ht => stM_congr rfl (fun k wr hk hd hin' => ?_)) rr n _ Q (fun x h' ρ' w' I' hv => ?_)
        · obtain ⟨o', r', e1, e2, e3⟩ := dvs_inv hk
          cases e3
          by_cases hki : k = p
          · subst hki; simp [h1] at hd
          · exact (apartT k o' r' e1 e2 hki hd).1 t hdt ht
        · simp only [List.getElem?_map, Option.map_eq_some_iff] at hk
          obtain ⟨r', e2, rfl⟩ := hk
          have hk' : k < os.length := by
            have := (List.getElem?_eq_some_iff.1 e2).1
            rwa [T.len] at this
          by_cases hki : k = p
          · subst hki; simp [h1] at hd
          · exact (apartT k _ r' (List.getElem?_eq_getElem hk') e2 hki hd).2.1 t hin' ht
        · have hF : stF F0 (dvs os rs) (fun j => (listed.setIfInBounds (m + p) true).getD j false) m = putO (stF F0 (dvs os rs) (fun j => listed.getD j false) m) o.dst r.v := by
            funext t
            refine stF_ins (i := p) (dvs_get hop0 hr) (by simpa using h1) (by simpa using hseti) (fun j hj => by simpa using hset (m + j) (by omega)) (fun j e u hij hj hs' t' ht' => ?_) t
            obtain ⟨o', r', e1, e2, e3⟩ := dvs_inv hj
            cases e3
            exact (apartT j o' r' e1 e2 (by omega) (by rw [hs']; simp; omega)).2.2.1 t' ht'
          have hM : stM M0 (rs.map (·.wr)) (fun j => (listed.setIfInBounds (m + p) true).getD j false) m = updL (stM M0 (rs.map (·.wr)) (fun j => listed.getD j false) m) r.wr := by
            funext t
            refine stM_ins (i := p) (by simp [hr]) (by simpa using h1) (by simpa using hseti) (fun j hj => by simpa using hset (m + j) (by omega)) (fun j wr' hij hj hs' t' ht' => ?_) t
            simp only [List.getElem?_map, Option.map_eq_some_iff] at hj
            obtain ⟨r', e2, rfl⟩ := hj
            have hj' : j < os.length := by
              have := (List.getElem?_eq_some_iff.1 e2).1
              rwa [T.len] at this
            exact (apartT j _ r' (List.getElem?_eq_getElem hj') e2 (by omega) (by rw [hs']; simp; omega)).2.2.2 t' ht'
          refine ih (listed.setIfInBounds (m + p) true) h' ρ' _ w' (by simp [hs]) ?_ ?_ ?_ ?_ ?_
          · have := cnt_ins (S := fun j => listed.getD j false) (S' := fun j => (listed.setIfInBounds (m + p) true).getD j false) h1 hseti hset ops.size hin
            omega
          · intro j o' ho' hj e he hb
            by_cases hji : j = m + p
            · subst hji
              rw [ho] at ho'; cases ho'
              by_cases hei : e.on = m + p
              · rw [hei]; exact hseti
              · simp only [hset _ hei]; exact hdone e he hb
            · simp only [hset _ hji] at hj
              by_cases hei : e.on = m + p
              · rw [hei]; exact hseti
              · simp only [hset _ hei]; exact hcl j o' ho' hj e he hb
          · intro j hj; rw [hset j (by omega)]; exact hlo j hj
          · intro j hj; rw [hset j (by omega)]; exact hhi j hj
          · rw [hF, hM]
            exact I'.put (fun d hd => hdst o (List.mem_of_getElem? hop0) d hd) hv
theorem all_done {listed : Array Bool} (hs : listed.size = ops.size) (hall : ∀ i, i < ops.size → listed.getD i false = true) : Region.ready .any ops listed = [] := by
  rcases hr : Region.ready .any ops listed with _ | ⟨i, t⟩
  · rfl
  · obtain ⟨h1, o, ho, _⟩ := mem_ready.1 (hr ▸ List.mem_cons_self .. : i ∈ Region.ready .any ops listed)
    have hi := (Array.getElem?_eq_some_iff.1 ho).1
    have := hall i hi
    have hi' : i < listed.size := by omega
    have e : listed.getD i true = listed.getD i false := by simp [hi']
    rw [e, this] at h1; cases h1
end
section
variable {P : Program} {N : Nat} {Γ : Tys} {L : List (Nat × AV)} {M : List (Nat × Blk)} {g : Nat} {Q : Exit → Act → World → Prop}
variable {w0 : World} {h0 : Hp} {J : Nat → (Nat → Prop) → World → Prop} {hJ : ∀ k, Stab (J k)}
theorem W.regionYd (E : Env P Γ) {l : Nat} {items : List (List AV)} (hY : Yld P h0 l J items) {id : Nat} {ops : Array Oper} (own : List Nat) (k : Nat) (rvs1 rvs2 : List RV) {A1 : Acc} {A2 : Bool → Acc} {y : Oper} {post : List Oper} {Wb : Bool} {f : Operand} {args : Array Operand} {ts : Array TypeId} {it : List AV} {d : Nat}
    (hk : ops.toList.drop k = y :: post) (hr1 : runR Γ own ops.toList (ops.toList.take k) rvs1 L M = some A1) (hyo : y.op = .call { callee := .value f, args := args, argTypes := ts }) (hyd : y.dst = some d)
    (hg : guardOf ops.toList (fr A1.L) y = some (.on Wb)) (hf : stripV (evO (fr A1.L) f) = .fn (.yield l) [] []) (hit : mapAV (fun x => stripV (evO (fr A1.L) x)) args.toList = it) (hgr : grL it = true)
    (hr2 : ∀ b, runR Γ own ops.toList post rvs2 ((d, .cnd Wb (.bool b)) :: A1.L) A1.M = some (A2 b)) (hd : dstOk N ops.toList = true) (hneck : ∀ b, neckOk ops (A1.ft ++ ([], []) :: (A2 b).ft) k = true)
    (hcs1 : AllP A1.cs) (hrq1 : RqOk P A1.rq) (hn : AllP (needs (fr A1.L) Wb y.op.operands.toList)) (hcs2 : ∀ b, AllP (A2 b).cs) (hrq2 : ∀ b, RqOk P (A2 b).rq)
    (hitm : Wb = true → ∃ q, g = q + 1 ∧ items[q]? = some it)
    (K : ∀ b g', (Wb = false → g' = g) → (Wb = true → g' = bif b then g + 1 else 0) → At N (Ci w0 h0 J hJ) (A2 b).L (A2 b).M g' (Q .normal)) : W P N none (Ci w0 h0 J hJ) (.region id ops true) L M g Q := by
  intro h ρ a w I
  refine wpIn_region_any E.mixed ?_
  have hlen : k < ops.toList.length := by
    rcases Nat.lt_or_ge k ops.toList.length with h | h
    · exact h
    · rw [List.drop_eq_nil_of_le h] at hk; cases hk
  have hsplit : ops.toList = ops.toList.take k ++ y :: post := by rw [← hk, List.take_append_drop]
  have htk : (ops.toList.take k).length = k := by rw [List.length_take]; omega
  have hsize : ops.size = k + (1 + post.length) := by
    have := congrArg List.length hsplit
    rw [List.length_append, htk, List.length_cons] at this
    simp at this; omega
  obtain ⟨rs, T, hft1⟩ := runR_trace (N := N) E.ty E.depth (ops.toList.take k) rvs1 L M hr1 hcs1.mem hrq1
  have hrl : rs.length = k := by rw [T.len, htk]
  have hyk : ops[k]? = some y := by
    rw [← Array.getElem?_toList, hsplit, List.getElem?_append_right (by omega), htk]; simp
  have hpost : ∀ j, post[j]? = ops[k + 1 + j]? := fun j => by
    rw [← Array.getElem?_toList, hsplit, List.getElem?_append_right (by omega), htk, show k + 1 + j - k = j + 1 by omega]; simp
  have hmem : ∀ o, o ∈ post → o ∈ ops.toList := fun o ho => by rw [hsplit]; simp [ho]
  have hnd : ∀ c, y.op ≠ .defer c := fun c e => by rw [hyo] at e; cases e
  have hdN : d < N := dstOk_spec hd y (by rw [hsplit]; simp) d hyd
  obtain ⟨_, hback, nk1, nk2, _⟩ := neck_spec (hneck true)
  have hfal : (fun i => (Array.replicate ops.size false).getD i false) = fun _ => false := by
    funext i
    by_cases h : i < ops.size <;> simp [h]
  have hcl0 : Closed ops (fun i => (Array.replicate ops.size false).getD i false) := by
    intro j o _ hj
    exfalso
    by_cases h : j < ops.size <;> simp [h] at hj
  have e1 : ∀ (l : List (Option Nat × AV)) (G : Fr) (k : Nat), stF G l (fun _ => false) k = G := by
    intro l
    induction l with
    | nil => intros; rfl
    | cons x l ih => intro G k; obtain ⟨e, u⟩ := x; unfold stF; simp [ih]
  have e2 : ∀ (l : List (List (Nat × Blk))) (G : Mm) (k : Nat), stM G l (fun _ => false) k = G := by
    intro l
    induction l with
    | nil => intros; rfl
    | cons x l ih => intro G k; unfold stM; simp [ih]
  have e3 : ∀ n, cnt (fun _ => false) n = n := by
    intro n
    induction n with
    | zero => rfl
    | succ n ih => simp [cnt, ih]
  -- behind the yield
  have fin : ∀ (b : Bool) (g' : Nat), (Wb = false → g' = g) → (Wb = true → g' = bif b then g + 1 else 0) → ∀ (listed : Array Bool) (h : Hp) (ρ : Rho) (a : Act) (w' : World) (x : Value), listed.size = ops.size → (∀ i, i < ops.size → listed.getD i false = decide (i < k + 1)) →
      InvH N (Ci w0 h0 J hJ) h ρ (fr A1.L) (mm A1.M) g' a w' → Rel h ρ (.cnd Wb (.bool b)) x → wpAnyIn (Fw none) 1 P .any ops Q post.length listed (a.put y.dst x) w' := by
    intro b g' hg1 hg2 listed h ρ a w' x hls hl I' hx
    obtain ⟨rs2, T2, hft2⟩ := runR_trace (N := N) E.ty E.depth post rvs2 _ _ (hr2 b) (hcs2 b).mem (hrq2 b)
    have hp := I'.put (d := y.dst) (fun t ht => by rw [hyd] at ht; cases ht; exact hdN) hx
    rw [hyd] at hp ⊢
    obtain ⟨hfar, _, _, _, _⟩ := neck_spec (hneck b)
    refine any_seg (C := Ci w0 h0 J hJ) (g := g') T2 (k + 1) (fun j _ => (hpost j).symm) (by omega) (fts := A1.ft ++ ([], []) :: (A2 b).ft) (fun j r hr => ?_) hfar hback (fun i hi hi2 => by omega) (fun o ho => dstOk_spec hd o (hmem o ho)) (fun listed h ρ a w hs hl I => ?_)
      post.length listed h ρ _ w' hls ?_ ?_ (fun i hi => by rw [hl i (by omega)]; simp [hi]) (fun i hi => ?_) ?_
    · rw [List.getElem?_append_right (by rw [hft1, List.length_map]; omega), hft1, List.length_map, hrl, show k + 1 + j - k = j + 1 by omega, List.getElem?_cons_succ, hft2, List.getElem?_map, hr]; rfl
    · rw [show ops.size - (k + 1 + post.length) = 0 by omega]
      exact ⟨all_done hs (fun i hi => by rw [hl i hi]; simp; omega), K b g' hg1 hg2 h ρ a w I⟩
    · rw [cnt_from hl]; omega
    · intro j o ho hj e he hb
      have hjs := (Array.getElem?_eq_some_iff.1 ho).1
      simp only [hl j hjs, decide_eq_true_eq] at hj
      have := hback j o e ho he hb
      simp only [hl e.on (by omega), decide_eq_true_eq]; omega
    · by_cases h : i < ops.size
      · rw [hl i h]; simp; omega
      · simp [show ¬ i < listed.size by omega]
    · have hpl : ∀ (r : List OpRes) (o : List Oper) (G : Fr) (S : Nat → Bool) (m : Nat), (∀ i, m ≤ i → i < m + o.length → S i = false) → stF G (dvs o r) S m = G := by
        intro r o
        induction o generalizing r with
        | nil => intro G S m _; cases r <;> rfl
        | cons x o ih =>
          intro G S m hS
          cases r with
          | nil => rfl
          | cons y r =>
            simp only [dvs, stF]
            rw [if_neg (by rw [hS m (Nat.le_refl _) (by simp)]; simp)]
            exact ih r G S (m + 1) (fun i h1 h2 => hS i (by omega) (by simp; omega))
      have hpm : ∀ (r : List (List (Nat × Blk))) (G : Mm) (S : Nat → Bool) (m : Nat), (∀ i, m ≤ i → i < m + r.length → S i = false) → stM G r S m = G := by
        intro r
        induction r with
        | nil => intros; rfl
        | cons y r ih =>
          intro G S m hS
          simp only [stM]
          rw [if_neg (by rw [hS m (Nat.le_refl _) (by simp)]; simp)]
          exact ih G S (m + 1) (fun i h1 h2 => hS i (by omega) (by simp; omega))
      rw [hpl _ _ _ _ _ (fun i h1 h2 => by rw [hl i (by omega)]; simp; omega), hpm _ _ _ _ (fun i h1 h2 => by rw [List.length_map, T2.len] at h2; rw [hl i (by omega)]; simp; omega)]
      exact hp
  obtain ⟨hfar, _, _, _, _⟩ := neck_spec (hneck true)
  refine any_seg (C := Ci w0 h0 J hJ) (g := g) T 0 (fun j hj => ?_) (by omega) (fts := A1.ft ++ ([], []) :: (A2 true).ft) (fun j r hr => ?_) hfar hback (fun i hi hi2 j hj => ?_) (fun o ho => dstOk_spec hd o (List.mem_of_mem_take ho)) (fun listed h ρ a w hs hl I => ?_)
    ops.size _ h ρ a _ (by simp) (by rw [hfal, e3]) hcl0 (fun i hi => by omega) (fun i hi => by have := congrFun hfal i; simpa using this) ?_
  · rw [List.getElem?_take, Nat.zero_add, if_pos (by omega), Array.getElem?_toList]
  · have hj := (List.getElem?_eq_some_iff.1 hr).1
    rw [Nat.zero_add, List.getElem?_append_left (by rw [hft1, List.length_map]; omega), hft1, List.getElem?_map, hr]; rfl
  · rw [htk] at hi hj
    rw [Nat.zero_add] at hi ⊢
    by_cases e : i = k
    · subst e; exact nk1 j hj
    · exact .trans (nk1 j hj) (nk2 i (by omega) hi2)
  · rw [htk, Nat.zero_add] at hl ⊢
    rw [show ops.size - k = post.length + 1 by omega]
    have hgdd : ∀ i, i < ops.size → listed.getD i true = listed.getD i false := fun i hi => by
      have : i < listed.size := by omega
      simp [this]
    refine ⟨fun h0 => ?_, fun i hi => ?_⟩
    · exfalso
      have : k ∈ Region.ready .any ops listed := mem_ready.2 ⟨by rw [hgdd k (by omega), hl k (by omega)]; simp, y, hyk, fun e he hb => by
        have := hback k y e hyk he hb
        rw [hl e.on (by omega)]; simp [this]⟩
      rw [h0] at this; cases this
    · obtain ⟨h1, o, ho, hdone⟩ := mem_ready.1 hi
      have hin := (Array.getElem?_eq_some_iff.1 ho).1
      rw [hgdd i hin, hl i hin] at h1
      have hik : i = k := by
        rcases Nat.lt_or_ge k i with h2 | h2
        · exfalso
          have hclk : Closed ops (fun i => listed.getD i false) := by
            intro j o ho hj e he hb
            have hjs := (Array.getElem?_eq_some_iff.1 ho).1
            simp only [hl j hjs, decide_eq_true_eq] at hj
            have := hback j o e ho he hb
            simp only [hl e.on (by omega), decide_eq_true_eq]; omega
          have anc1 : ∀ q, Anc ops q i → listed.getD q false = true := by
            intro q A
            obtain ⟨j, hj⟩ : ∃ j, j = i := ⟨i, rfl⟩
            rw [← hj] at A
            induction A with
            | edge q1 q2 q3 q4 => subst hj; rw [ho] at q1; cases q1; exact q4 ▸ hdone _ q2 q3
            | trans A1 _ _ ih2 => exact A1.closed hclk (ih2 hj)
          have := anc1 k (nk2 i h2 hin)
          rw [hl k (by omega)] at this; simp at this
        · have : ¬ i < k := by simpa using h1
          omega
      subst hik
      have hlk : ∀ j, j < ops.size → (listed.setIfInBounds i true).getD j false = decide (j < i + 1) := by
        intro j hj
        by_cases e : j = i
        · subst e
          have : j < listed.size := by omega
          simp [this]
        · rw [getD_set_ne false (Ne.symm e), hl j hj]
          congr 1
          exact propext ⟨fun h => by omega, fun h => by omega⟩
      unfold wpOpIn
      simp only [hyk]
      have hgs := (guardOf_sound I (fun _ _ => rfl) hg).2 Wb rfl
      rw [hgs]
      cases hWb : Wb with
      | false =>
        rw [if_neg (by simp)]
        refine ⟨fun _ _ => trivial, ?_⟩
        exact fin false g (fun _ => rfl) (fun h => by rw [hWb] at h; cases h) _ h ρ a w undef (by simp [hs]) hlk I (.cnd _ _ _ _ (fun h => by rw [hWb] at h; cases h) (fun _ => rfl))
      | true =>
        rw [if_pos rfl]
        obtain ⟨q, rfl, hq⟩ := hitm hWb
        have hop : ∀ z, z ∈ y.op.operands → Rel h ρ (stripV (evO (fr A1.L) z)) (a.eval z) := by
          intro z hz
          have h1 := evO_rel (ops := ops) (o := y) I (fun _ _ => rfl) hz
          cases hev : evO (fr A1.L) z <;> rw [hev] at h1 <;> (try exact h1)
          rename_i G v
          have hG := hn.mem _ (needs_mem (W := Wb) (by simpa using hz) hev) hWb
          cases h1 with
          | cnd _ _ _ _ ht hf => exact ht hG
        have hfv : a.eval f = .func (.yield l) #[] #[] := by
          have h1 := hop f (by rw [hyo]; simp [Op.operands, Call.operands])
          rw [hf] at h1
          generalize a.eval f = z at h1
          cases h1 with
          | fn _ _ _ _ vs ws hl hm _ _ =>
            have e1 : vs = [] := by simpa using hl
            have e2 : ws = [] := by simpa using hm
            subst e1; subst e2; rfl
        have hargs : RelL h ρ it (args.toList.map a.eval) := by
          rw [← hit]
          exact mapAV_rel args.toList (fun z hz => hop z (mem_callArgs hyo hz))
        obtain ⟨X, x1, x2, x3⟩ := I.gst
        obtain ⟨fn, tmps, assign, body, hy, hR⟩ := hY q X w it _ x3 hq (hargs.of_gr hgr)
        refine ⟨fun _ _ => trivial, ?_⟩
        have e1 : args.map a.eval = (args.toList.map a.eval).toArray := by apply Array.ext'; simp
        rw [Oper.semAt_eq _ _ _ hnd, run_yieldOp hyo hfv, e1, hy]
        refine ⟨fun e => (by cases e), ?_⟩
        refine (roundIn_w hR).mono (fun e W' he => ?_)
        obtain ⟨b, rfl, hJ', k1, k2, k3, k4, k5, k6⟩ := he
        refine fin b _ (fun h => by rw [hWb] at h; cases h) (fun _ => rfl) _ h ρ a W' _ (by simp [hs]) hlk ?_ (.cnd _ _ _ _ (fun _ => .bool _ _) (fun h => by rw [hWb] at h; cases h))
        refine I.afterRound x1 x2 k1 k2 k3 k4 k5 k6 ?_
        cases b <;> exact hJ'
  · rw [hfal, e1, e2]
    exact I.drew
end
end Go.Av
