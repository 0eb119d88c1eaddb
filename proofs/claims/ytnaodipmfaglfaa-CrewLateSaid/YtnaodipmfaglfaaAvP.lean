/- Regions, part 2: one after another; in any order. -/
import Derived.Test.YtnaodipmfaglfaaAvO
set_option linter.all false
namespace Go.Av
def fr : List (Nat × AV) → Fr
  | [] => fun _ => .any
  | (d, v) :: r => put (fr r) d v
def setL : Option Tmp → AV → List (Nat × AV) → List (Nat × AV)
  | some d, v, L => (d, v) :: L
  | none, _, L => L
theorem fr_setL (d : Option Tmp) (v : AV) (L : List (Nat × AV)) : fr (setL d v L) = putO (fr L) d v := by cases d <;> rfl
def isDefer : Op → Bool
  | .defer _ => true
  | _ => false
structure Acc where
  L : List (Nat × AV)
  M : List (Nat × Blk)
  cs : List Prop
  rq : List (Option Bool × FuncId × (List AV × List (Nat × Blk)) × RV)
  ft : List (List Nat × List Nat)
def appP : List Prop → List Prop → List Prop
  | [], l => l
  | q :: r, l => q :: appP r l
def forceB {β : Type} : Blk → (Blk → β) → β
  | .cells cs, f => forceL cs fun cs => f (.cells cs)
  | .buf ty sz n e, f => f (.buf ty sz n e)
  | .map z dom e n, f => f (.map z dom e n)
  | .dead, f => f .dead
  | .bufk ty sz n c e, f => f (.bufk ty sz n c e)
  | .grid tS ty sz n m e, f => f (.grid tS ty sz n m e)
theorem forceB_eq {β : Type} (b : Blk) (f : Blk → β) : forceB b f = f b := by cases b <;> simp only [forceB, forceL_eq]
def forceI {α β : Type} : List α → (List α → β) → β
  | [], f => f []
  | x :: r, f => forceI r fun r => f (x :: r)
theorem forceI_eq {α β : Type} : ∀ (l : List α) (f : List α → β), forceI l f = f l
  | [], f => rfl
  | x :: r, f => by simp only [forceI, forceI_eq r]
def forceP {β : Type} : List Prop → (List Prop → β) → β
  | [], f => f []
  | x :: r, f => forceP r fun r => f (x :: r)
theorem forceP_eq {β : Type} : ∀ (l : List Prop) (f : List Prop → β), forceP l f = f l
  | [], f => rfl
  | x :: r, f => by simp only [forceP, forceP_eq r]
def pushL {β : Type} (o : Option Tmp) (v : AV) (L : List (Nat × AV)) (f : List (Nat × AV) → β) : β := match o with
  | some d => f ((d, v) :: L)
  | none => f L
theorem pushL_eq {β : Type} (o : Option Tmp) (v : AV) (L : List (Nat × AV)) (f : List (Nat × AV) → β) : pushL o v L f = f (setL o v L) := by cases o <;> rfl
def pushM {β : Type} : List (Nat × Blk) → List (Nat × Blk) → (List (Nat × Blk) → β) → β
  | [], M, f => f M
  | (i, b) :: r, M, f => forceB b fun b => pushM r ((i, b) :: M) f
def consM : List (Nat × Blk) → List (Nat × Blk) → List (Nat × Blk)
  | [], M => M
  | (i, b) :: r, M => consM r ((i, b) :: M)
theorem pushM_eq {β : Type} : ∀ (wr M : List (Nat × Blk)) (f : List (Nat × Blk) → β), pushM wr M f = f (consM wr M)
  | [], M, f => rfl
  | (i, b) :: r, M, f => by simp only [pushM, forceB_eq, consM, pushM_eq r]
theorem mm_consM : ∀ (wr M : List (Nat × Blk)), mm (consM wr M) = updL (mm M) wr
  | [], M => rfl
  | (i, b) :: r, M => by simp only [consM, updL, mm_consM r]; rfl
def keysW : List (Nat × Blk) → List Nat
  | [] => []
  | (i, _) :: r => i :: keysW r
theorem keysW_eq : ∀ (wr : List (Nat × Blk)), keysW wr = wr.map (·.1)
  | [] => rfl
  | (i, b) :: r => by simp [keysW, keysW_eq r]
def runR (Γ : Tys) (own : List Nat) (ops : List Oper) : List Oper → List RV → List (Nat × AV) → List (Nat × Blk) → Option Acc
  | [], rvs, L, M => match rvs with
    | [] => some ⟨L, M, [], [], []⟩
    | _ :: _ => none
  | o :: os, rvs, L, M => match isCall o.op with
    | true => match rvs with
      | [] => none
      | rv :: rvs => match opR Γ own ops (fr L) (mm M) o (some rv) with
        | some ⟨v, rd, wr, cs, q⟩ => match q with
            | none => none
            | some (gd, f, xs) => forceA v fun v => pushL o.dst v L fun L1 => pushM wr M fun M1 => match runR Γ own ops os rvs L1 M1 with
              | some ⟨L', M', cs', rq', ft'⟩ => forceI rd fun rd => forceI (keysW wr) fun ws => forceP (appP cs cs') fun cs => some ⟨L', M', cs, (gd, f, xs, rv) :: rq', (rd, ws) :: ft'⟩
              | none => none
        | none => none
    | false => match isDefer o.op with
      | true => none
      | false => match opR Γ own ops (fr L) (mm M) o none with
        | some ⟨v, rd, wr, cs, q⟩ => match q with
          | some _ => none
          | none => forceA v fun v => pushL o.dst v L fun L1 => pushM wr M fun M1 => match runR Γ own ops os rvs L1 M1 with
            | some ⟨L', M', cs', rq', ft'⟩ => forceI rd fun rd => forceI (keysW wr) fun ws => forceP (appP cs cs') fun cs => some ⟨L', M', cs, rq', (rd, ws) :: ft'⟩
            | none => none
        | _ => none
inductive RqOk (P : Program) : List (Option Bool × FuncId × (List AV × List (Nat × Blk)) × RV) → Prop
  | nil : RqOk P []
  | free {f : FuncId} {xs : List AV × List (Nat × Blk)} {v : AV} {B : List (Nat × Blk)} {k : Nat} {K : List Nat} {r : List (Option Bool × FuncId × (List AV × List (Nat × Blk)) × RV)} : CtrG P f xs v B → RqOk P r → RqOk P ((none, f, xs, ⟨v, B, k, K⟩) :: r)
  | on {W : Bool} {f : FuncId} {xs : List AV × List (Nat × Blk)} {v : AV} {B : List (Nat × Blk)} {k : Nat} {K : List Nat} {r : List (Option Bool × FuncId × (List AV × List (Nat × Blk)) × RV)} : (W = true → CtrG P f xs v B) → RqOk P r → RqOk P ((some W, f, xs, ⟨v, B, k, K⟩) :: r)
theorem appP_mem : ∀ {a b : List Prop} {q : Prop}, q ∈ appP a b ↔ q ∈ a ∨ q ∈ b
  | [], b, q => by simp [appP]
  | x :: a, b, q => by simp [appP, appP_mem, or_assoc]
inductive Trace (P : Program) (N : Nat) (ops : Array Oper) : Fr → Mm → List Oper → List OpRes → Fr → Mm → Prop
  | nil (F : Fr) (M : Mm) : Trace P N ops F M [] [] F M
  | cons {F : Fr} {M : Mm} {o : Oper} {r : OpRes} {os : List Oper} {rs : List OpRes} {F' : Fr} {M' : Mm} : OpOk P N ops F M o r → Trace P N ops (putO F o.dst r.v) (updL M r.wr) os rs F' M' → Trace P N ops F M (o :: os) (r :: rs) F' M'
section
variable {P : Program} {N : Nat} {Γ : Tys} {own : List Nat} {ops : Array Oper}
theorem runR_trace (hΓ : TysOk P Γ) (hdep : 8 ≤ P.depth) : ∀ (os : List Oper) (rvs : List RV) (L : List (Nat × AV)) (M : List (Nat × Blk)) {A : Acc}, runR Γ own ops.toList os rvs L M = some A → (∀ q, q ∈ A.cs → q) → RqOk P A.rq →
    ∃ rs, Trace P N ops (fr L) (mm M) os rs (fr A.L) (mm A.M) ∧ A.ft = rs.map (fun r => (r.rd, r.wr.map (·.1)))
  | [], rvs, L, M, A, hr, _, _ => by
    unfold runR at hr
    cases rvs with
    | nil => simp only [] at hr; cases hr; exact ⟨[], .nil _ _, rfl⟩
    | cons => simp at hr
  | o :: os, rvs, L, M, A, hr, hcs, hrq => by
    unfold runR at hr
    simp only [forceA_eq, forceL_eq, forceI_eq, forceP_eq, forceB_eq, pushL_eq, pushM_eq] at hr
    cases hcall : isCall o.op with
    | true =>
      simp only [hcall] at hr
      have hnd : ∀ c, o.op ≠ .defer c := fun c e => by rw [e] at hcall; simp [isCall] at hcall
      cases rvs with
      | nil => simp at hr
      | cons rv rvs =>
      simp only [] at hr
      split at hr
      · rename_i v rd wr cs q hop
        cases q with
        | none => simp at hr
        | some q =>
        obtain ⟨gd, f, xs⟩ := q
        simp only [] at hr
        cases hrun : runR Γ own ops.toList os rvs (setL o.dst v L) (consM wr M) with
        | none => simp [hrun] at hr
        | some B =>
        obtain ⟨L', M', cs', rq', ft'⟩ := B
        simp only [hrun] at hr
        cases hr
        have hq : RqOk P rq' ∧ ((∀ W, gd = some W → W = true) → CtrG P f xs rv.v rv.B) := by
          cases hrq with
          | free h1 h2 => exact ⟨h2, fun _ => h1⟩
          | on h1 h2 => exact ⟨h2, fun h => h1 (h _ rfl)⟩
        obtain ⟨rs, hT, hft⟩ := runR_trace hΓ hdep os rvs (setL o.dst v L) (consM wr M) hrun (fun q hq => hcs q (appP_mem.2 (.inr hq))) hq.1
        refine ⟨⟨v, rd, wr, cs, some (gd, f, xs)⟩ :: rs, .cons (opR_sound hΓ hdep hop (fun q hq => hcs q (appP_mem.2 (.inl hq))) (fun gd' f' xs' rv0 h hrv0 => by cases h; cases hrv0; exact hq.2) hnd) ?_, by simpa [keysW_eq] using hft⟩
        rw [fr_setL, mm_consM] at hT
        exact hT
      · cases hr
    | false =>
      simp only [hcall] at hr
      cases hdf : isDefer o.op with
      | true => simp [hdf] at hr
      | false =>
      simp only [hdf] at hr
      have hnd : ∀ c, o.op ≠ .defer c := fun c e => by rw [e] at hdf; simp [isDefer] at hdf
      split at hr
      · rename_i v rd wr cs q hop
        cases q with
        | some => simp at hr
        | none =>
        simp only [] at hr
        cases hrun : runR Γ own ops.toList os rvs (setL o.dst v L) (consM wr M) with
        | none => simp [hrun] at hr
        | some B =>
        obtain ⟨L', M', cs', rq', ft'⟩ := B
        simp only [hrun] at hr
        cases hr
        obtain ⟨rs, hT, hft⟩ := runR_trace hΓ hdep os rvs (setL o.dst v L) (consM wr M) hrun (fun q hq => hcs q (appP_mem.2 (.inr hq))) hrq
        refine ⟨⟨v, rd, wr, cs, none⟩ :: rs, .cons (opR_sound hΓ hdep hop (fun q hq => hcs q (appP_mem.2 (.inl hq))) (fun gd f xs rv0 h => by cases h) hnd) ?_, by simpa [keysW_eq] using hft⟩
        rw [fr_setL, mm_consM] at hT
        exact hT
      · cases hr
theorem Trace.lex {F F' : Fr} {M M' : Mm} {os : List Oper} {rs : List OpRes} (T : Trace P N ops F M os rs F' M') {C : Ctx} {g : Nat} {rr : Option Nat} {n : Nat} {Q : Exit → Act → World → Prop}
    (hQ : ∀ h ρ a w, InvH N C h ρ F' M' g a w → Q .normal a w) : ∀ (k : Nat) (h : Hp) (ρ : Rho) (a : Act) (w : World), InvH N C h ρ F M g a w → (∀ o, o ∈ os → ∀ d, o.dst = some d → d < N) → (∀ j, os[j]? = ops[k + j]? ∨ os.length ≤ j) →
      wpOpsIn (Fw rr) n P ops Q (List.range' k os.length) a w := by
  induction T with
  | nil F M => intro k h ρ a w I _ _; exact hQ h ρ a w I
  | cons hop _ ih =>
    rename_i F M o r os rs F' M' T'
    intro k h ρ a w I hd hos
    have h0 : ops[k]? = some o := by
      rcases hos 0 with e | e
      · simpa using e.symm
      · simp at e
    simp only [List.length_cons, List.range'_succ]
    rw [wpOpsIn_cons]
    unfold wpOpIn
    simp only [h0]
    refine hop C h ρ F M g a w I (fun _ _ => rfl) (fun _ _ => rfl) rr n _ Q (fun x h' ρ' w' I' hv => ih hQ (k + 1) h' ρ' _ w' (I'.put (fun d hd' => hd o (List.mem_cons_self ..) d hd') hv) (fun o' ho' => hd o' (List.mem_cons_of_mem _ ho')) (fun j => ?_))
    rcases hos (j + 1) with e | e
    · left; simpa [Nat.add_assoc, Nat.add_comm 1 j] using e
    · right; simpa using e
end
def edgesLt (j : Nat) : List Edge → Bool
  | [] => true
  | e :: r => match Region.binds .any e with
    | true => match Nat.blt e.on j with
      | true => edgesLt j r
      | false => false
    | false => edgesLt j r
def edgeMask (ms : List Nat) : List Edge → Nat
  | [] => 0
  | e :: r => match Region.binds .any e with
    | true => 2 ^ e.on ||| (ms.getD e.on 0 ||| edgeMask ms r)
    | false => edgeMask ms r
structure Item where
  dst : Option Nat
  looks : List Nat
  rd : List Nat
  wr : List Nat
  mask : Nat
def items (ops : Array Oper) : List Oper → List (List Nat × List Nat) → List Nat → Nat → Option (List Item)
  | [], ft, _, _ => match ft with
    | [] => some []
    | _ :: _ => none
  | o :: os, ft, ms, j => match ft with
    | [] => none
    | (rd, wr) :: ft => match edgesLt j o.after.toList with
      | true => match items ops os ft (ms ++ [edgeMask ms o.after.toList]) (j + 1) with
        | some r => some (⟨o.dst, o.looksAt ops, rd, wr, edgeMask ms o.after.toList⟩ :: r)
        | none => none
      | false => none
def dstIn : Option Nat → List Nat → Bool
  | some d, l => inList l d
  | none, _ => false
def sameDst : Option Nat → Option Nat → Bool
  | some d, some e => Nat.beq d e
  | _, _ => false
def meets : List Nat → List Nat → Bool
  | [], _ => false
  | i :: r, l => match inList l i with
    | true => true
    | false => meets r l
def confl (x y : Item) : Bool := dstIn x.dst y.looks || dstIn y.dst x.looks || sameDst x.dst y.dst || meets x.wr y.rd || meets y.wr x.rd || meets x.wr y.wr
def okPair (i : Nat) (x y : Item) : Bool := match confl x y with
  | true => y.mask.testBit i
  | false => true
def okRow (i : Nat) (x : Item) : List Item → Bool
  | [] => true
  | y :: r => match okPair i x y with
    | true => okRow i x r
    | false => false
def okAll : Nat → List Item → Bool
  | _, [] => true
  | i, x :: r => match okRow i x r with
    | true => okAll (i + 1) r
    | false => false
def orderOk (ops : Array Oper) (ft : List (List Nat × List Nat)) : Bool := match items ops ops.toList ft [] 0 with
  | some l => okAll 0 l
  | none => false
inductive Anc (ops : Array Oper) : Nat → Nat → Prop
  | edge {i j : Nat} {o : Oper} {e : Edge} : ops[j]? = some o → e ∈ o.after → Region.binds .any e = true → e.on = i → Anc ops i j
  | trans {i k j : Nat} : Anc ops i k → Anc ops k j → Anc ops i j
section
variable {ops : Array Oper}
def Closed (ops : Array Oper) (S : Nat → Bool) : Prop := ∀ j o, ops[j]? = some o → S j = true → ∀ e, e ∈ o.after → Region.binds .any e = true → S e.on = true
theorem Anc.closed {S : Nat → Bool} (hS : Closed ops S) {i j : Nat} (A : Anc ops i j) : S j = true → S i = true := by
  induction A with
  | edge h1 h2 h3 h4 => intro hj; exact h4 ▸ hS _ _ h1 hj _ h2 h3
  | trans _ _ ih1 ih2 => exact fun hj => ih1 (ih2 hj)
theorem edgesLt_spec {j : Nat} : ∀ {es : List Edge}, edgesLt j es = true → ∀ e, e ∈ es → Region.binds .any e = true → e.on < j
  | x :: es, h, e, he, hb => by
    unfold edgesLt at h
    rcases List.mem_cons.1 he with rfl | he
    · rw [hb] at h
      simp only [] at h
      split at h
      · rename_i hlt
        exact Nat.le_of_ble_eq_true hlt
      · cases h
    · split at h
      · split at h
        · exact edgesLt_spec h e he hb
        · cases h
      · exact edgesLt_spec h e he hb
theorem edgeMask_spec {ms : List Nat} {i : Nat} : ∀ {es : List Edge}, (edgeMask ms es).testBit i = true → ∃ e, e ∈ es ∧ Region.binds .any e = true ∧ (e.on = i ∨ (ms.getD e.on 0).testBit i = true)
  | [], h => by simp [edgeMask] at h
  | x :: es, h => by
    unfold edgeMask at h
    split at h
    · rename_i hb
      rw [Nat.testBit_or, Nat.testBit_or, Bool.or_eq_true, Bool.or_eq_true, Nat.testBit_two_pow] at h
      rcases h with h | h | h
      · exact ⟨x, by simp, hb, .inl (by simpa using h)⟩
      · exact ⟨x, by simp, hb, .inr h⟩
      · obtain ⟨e, h1, h2, h3⟩ := edgeMask_spec h
        exact ⟨e, by simp [h1], h2, h3⟩
    · obtain ⟨e, h1, h2, h3⟩ := edgeMask_spec h
      exact ⟨e, by simp [h1], h2, h3⟩
theorem items_spec : ∀ {os : List Oper} {ft : List (List Nat × List Nat)} {ms : List Nat} {j : Nat} {l : List Item}, items ops os ft ms j = some l → ms.length = j → (∀ k i, (ms.getD k 0).testBit i = true → Anc ops i k) → (∀ k, os[k]? = ops[j + k]? ∨ os.length ≤ k) →
    l.length = os.length ∧ ft.length = os.length ∧ ∀ k x, l[k]? = some x → ∃ o f, os[k]? = some o ∧ ft[k]? = some f ∧ x.dst = o.dst ∧ x.looks = o.looksAt ops ∧ x.rd = f.1 ∧ x.wr = f.2 ∧ (∀ i, x.mask.testBit i = true → Anc ops i (j + k)) ∧ ∀ e, e ∈ o.after → Region.binds .any e = true → e.on < j + k
  | [], ft, ms, j, l, h, _, _, _ => by
    unfold items at h
    cases ft with
    | nil => simp only [] at h; cases h; exact ⟨rfl, rfl, fun k x hx => by simp at hx⟩
    | cons => simp at h
  | o :: os, ft, ms, j, l, h, hms, hA, hos => by
    unfold items at h
    cases ft with
    | nil => simp at h
    | cons f ft =>
    obtain ⟨rd, wr⟩ := f
    simp only [] at h
    cases hlt : edgesLt j o.after.toList with
    | false => simp [hlt] at h
    | true =>
    simp only [hlt] at h
    cases hi : items ops os ft (ms ++ [edgeMask ms o.after.toList]) (j + 1) with
    | none => simp [hi] at h
    | some r =>
    simp only [hi] at h
    cases h
    have h0 : ops[j]? = some o := by
      rcases hos 0 with e | e
      · simpa using e.symm
      · simp at e
    have hm : ∀ i, (edgeMask ms o.after.toList).testBit i = true → Anc ops i j := by
      intro i hi
      obtain ⟨e, h1, h2, h3⟩ := edgeMask_spec hi
      rcases h3 with h3 | h3
      · exact .edge h0 (by simpa using h1) h2 h3
      · exact .trans (hA _ _ h3) (.edge h0 (by simpa using h1) h2 rfl)
    have hA' : ∀ k i, ((ms ++ [edgeMask ms o.after.toList]).getD k 0).testBit i = true → Anc ops i k := by
      intro k i hk
      rcases Nat.lt_trichotomy k ms.length with h | h | h
      · rw [List.getD_eq_getElem?_getD, List.getElem?_append_left h, ← List.getD_eq_getElem?_getD] at hk; exact hA k i hk
      · subst h
        rw [List.getD_eq_getElem?_getD, List.getElem?_append_right (Nat.le_refl _)] at hk
        simp at hk
        exact hms ▸ hm i hk
      · rw [List.getD_eq_getElem?_getD, List.getElem?_eq_none (by simp; omega)] at hk
        simp at hk
    have hrec := items_spec hi (by simp [hms]) hA' (fun k => by
      rcases hos (k + 1) with e | e
      · left; simpa [Nat.add_assoc, Nat.add_comm 1 k] using e
      · right; simpa using e)
    refine ⟨by simp [hrec.1], by simp [hrec.2.1], fun k x hx => ?_⟩
    cases k with
    | zero =>
      simp at hx; subst hx
      exact ⟨o, (rd, wr), rfl, rfl, rfl, rfl, rfl, rfl, by simpa using hm, fun e he hb => by simpa using edgesLt_spec hlt e (by simpa using he) hb⟩
    | succ k =>
      simp only [List.getElem?_cons_succ] at hx
      obtain ⟨o', f, h1, h2, h3, h4, h5, h6, h7, h8⟩ := hrec.2.2 k x hx
      exact ⟨o', f, by simpa using h1, by simpa using h2, h3, h4, h5, h6, by simpa [Nat.add_assoc, Nat.add_comm 1 k] using h7, by simpa [Nat.add_assoc, Nat.add_comm 1 k] using h8⟩
theorem okRow_spec {i : Nat} {x : Item} : ∀ {l : List Item}, okRow i x l = true → ∀ y, y ∈ l → okPair i x y = true
  | z :: l, h, y, hy => by
    unfold okRow at h
    split at h
    · rename_i h1
      rcases List.mem_cons.1 hy with rfl | hy
      · exact h1
      · exact okRow_spec h y hy
    · cases h
theorem okAll_spec : ∀ {l : List Item} {k : Nat}, okAll k l = true → ∀ i j x y, i < j → l[i]? = some x → l[j]? = some y → okPair (k + i) x y = true
  | z :: l, k, h, i, j, x, y, hij, hx, hy => by
    unfold okAll at h
    split at h
    · rename_i h1
      cases j with
      | zero => omega
      | succ j =>
      simp only [List.getElem?_cons_succ] at hy
      cases i with
      | zero =>
        simp at hx; subst hx
        exact okRow_spec h1 y (List.mem_of_getElem? hy)
      | succ i =>
        simp only [List.getElem?_cons_succ] at hx
        have := okAll_spec h i j x y (by omega) hx hy
        simpa [Nat.add_assoc, Nat.add_comm 1 i] using this
    · cases h
theorem inList_spec : ∀ {l : List Nat} {t : Nat}, t ∈ l → inList l t = true
  | k :: l, t, h => by
    unfold inList
    rcases List.mem_cons.1 h with rfl | h
    · simp
    · split
      · rfl
      · exact inList_spec h
theorem meets_spec : ∀ {a b : List Nat} {t : Nat}, t ∈ a → t ∈ b → meets a b = true
  | k :: a, b, t, h1, h2 => by
    unfold meets
    rcases List.mem_cons.1 h1 with rfl | h1
    · simp [inList_spec h2]
    · split
      · rfl
      · exact meets_spec h1 h2
end
end Go.Av
