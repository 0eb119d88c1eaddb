/- Ranges over functions: what an iterator promises; the statement. -/
import Derived.Test.YtjeolkdhicmhgaaAvV
set_option linter.all false
namespace Go.Av
open Go.Sp
def Stab (J : (Nat → Prop) → World → Prop) : Prop := ∀ (X X' : Nat → Prop) (w w' : World), J X w → w'.os = w.os → w'.tape = w.tape → w'.output = w.output → w.heap.size ≤ w'.heap.size → (∀ k, k < w.heap.size → ¬ X k → w'.heap[k]? = w.heap[k]?) →
  (∀ b, X' b → X b ∨ w.heap.size ≤ b) → J X' w'
def RoundPost (h : Hp) (X : Nat → Prop) (W : World) (J : Bool → World → Prop) : Ending → World → Prop := fun e W' => ∃ b, e = .returned (.bool b) ∧ J b W' ∧ W'.os = W.os ∧ W'.tape = W.tape ∧ W'.output = W.output ∧ W.heap.size ≤ W'.heap.size ∧
  (∀ k, k < W.heap.size → X k → W'.heap[k]? = W.heap[k]?) ∧ ∀ k o, h k = some o → W'.heap[k]? = some o
def Yld (P : Program) (h : Hp) (l : Nat) (J : Nat → (Nat → Prop) → World → Prop) (items : List (List AV)) : Prop :=
  ∀ (k : Nat) (X : Nat → Prop) (W : World) (it : List AV) (us : List Value), J (k + 1) X W → items[k]? = some it → RelL (fun _ => none) ρ0 it us →
    ∃ fn tmps assign body, (Instr.yield l us.toArray).run P W = .ok (.round l fn tmps assign body) W ∧ RoundIn (Fw none) 1 P l fn tmps assign body W (RoundPost h X W (fun b => J (bif b then k + 2 else 0) (fun b' => X b' ∧ b' < W.heap.size)))
def IterPost (J : Nat → (Nat → Prop) → World → Prop) (n : Nat) : Ending → World → Prop := fun e w' => (∃ v, e = .returned v) ∧ ∃ X, J (n + 1) X w' ∨ J 0 X w'
def Iter (P : Program) (f : FuncId) (caps : List AV) (items : List (List AV)) : Prop :=
  Enters P f ∧ ∀ (h : Hp) (w : World) (vs : List Value), RelL h ρ0 caps vs → (∀ b o, h b = some o → w.heap[b]? = some o) →
    ∀ (l : Nat) (J : Nat → (Nat → Prop) → World → Prop), (∀ k, Stab (J k)) → Yld P h l J items → J 1 (fun _ => False) w → CallsIn (Fw none) 0 P f (Value.func (.yield l) #[] #[] :: vs).toArray w (IterPost J items.length)
def Ci (w0 : World) (h0 : Hp) (J : Nat → (Nat → Prop) → World → Prop) (hJ : ∀ k, Stab (J k)) : Ctx := { w0 := w0, h0 := h0, savA := [], savV := [], bor := fun b => h0 b = none, gh := J, gh_step := fun g X X' w w' => hJ g X X' w w' }
def IRetQ (P : Program) (fn : Func) (J : Nat → (Nat → Prop) → World → Prop) (n : Nat) : Exit → Act → World → Prop := bodyPostM (Fw none) 1 P fn (IterPost J n)
theorem roundIn_w {P : Program} {l f : Nat} {tmps : Array Value} {assign body : Code} {w : World} {R : Ending → World → Prop} {n n' : Nat} (H : RoundIn (Fw none) n P l f tmps assign body w R) : RoundIn (Fw none) n' P l f tmps assign body w R :=
  ⟨trivial, fun c cs _ => H.2 c cs (room_w _ _)⟩
section
variable {P : Program} {N : Nat} {Γ : Tys} {C : Ctx} {rr : Option Nat} {L : List (Nat × AV)} {M : List (Nat × Blk)} {g : Nat} {Q : Exit → Act → World → Prop} {R : Act → World → Prop}
variable {w0 : World} {h0 : Hp} {J : Nat → (Nat → Prop) → World → Prop} {hJ : ∀ k, Stab (J k)}
theorem InvH.afterRound {h : Hp} {ρ : Rho} {F : Fr} {Mx : Mm} {a : Act} {w W' : World} {g' : Nat} (I : InvH N (Ci w0 h0 J hJ) h ρ F Mx g a w) {X : Nat → Prop} (x1 : ∀ b, ownSet ρ b → X b) (x2 : ∀ b o, h b = some o → h0 b = some o ∨ X b)
    (hos : W'.os = w.os) (htape : W'.tape = w.tape) (hout : W'.output = w.output) (hsz : w.heap.size ≤ W'.heap.size) (hX : ∀ k, k < w.heap.size → X k → W'.heap[k]? = w.heap[k]?) (hh : ∀ k o, h0 k = some o → W'.heap[k]? = some o) (hJ' : J g' (fun b => X b ∧ b < w.heap.size) W') : InvH N (Ci w0 h0 J hJ) h ρ F Mx g' a W' := by
  refine { I with hp := fun b o hb => ?_, blk := fun id x hx => ?_, own := fun id li b q1 q2 => ?_, os := hos.trans I.os, tape := htape.trans I.tape, out := hout.trans I.out, sz := Nat.le_trans I.sz hsz, kept := fun k hk hb => ?_, gst := ⟨_, fun b hb => ⟨x1 b hb, let ⟨id, li, q1, q2⟩ := hb; (I.own id li b q1 q2).2.1⟩, fun b o hb => (x2 b o hb).imp (fun h => h) (fun h => ⟨h, I.hlt hb⟩), hJ'⟩ }
  · rcases x2 b o hb with h1 | h1
    · exact hh b o h1
    · rw [hX b (I.hlt hb) h1]; exact I.hp b o hb
  · exact (I.blk id x hx).keep (Le.refl h) rfl (hle_refl _) (fun li b q1 q2 => hX b (I.own id li b q1 q2).2.1 (x1 b ⟨id, li, q1, q2⟩))
  · obtain ⟨q3, q4, q5⟩ := I.own id li b q1 q2
    exact ⟨q3, Nat.lt_of_lt_of_le q4 hsz, q5⟩
  · rw [← I.kept k hk hb]
    cases ho : h0 k with
    | none => exact absurd ho hb
    | some o => rw [hh k o ho, I.hp k o (I.ext k o ho)]
theorem Trace.lexK {ops : Array Oper} {F F' : Fr} {M M' : Mm} {os : List Oper} {rs : List OpRes} (T : Trace P N ops F M os rs F' M') {C : Ctx} {g : Nat} {rr : Option Nat} {n : Nat} {Q : Exit → Act → World → Prop} (rest : List Nat)
    (hQ : ∀ h ρ a w, InvH N C h ρ F' M' g a w → wpOpsIn (Fw rr) n P ops Q rest a w) : ∀ (k : Nat) (h : Hp) (ρ : Rho) (a : Act) (w : World), InvH N C h ρ F M g a w → (∀ o, o ∈ os → ∀ d, o.dst = some d → d < N) → (∀ j, os[j]? = ops[k + j]? ∨ os.length ≤ j) →
      wpOpsIn (Fw rr) n P ops Q (List.range' k os.length ++ rest) a w := by
  induction T with
  | nil F M => intro k h ρ a w I _ _; exact hQ h ρ a w I
  | cons hop _ ih =>
    rename_i F M o r os rs F' M' T'
    intro k h ρ a w I hd hos
    have h0 : ops[k]? = some o := by
      rcases hos 0 with e | e
      · simpa using e.symm
      · simp at e
    simp only [List.length_cons, List.range'_succ, List.cons_append]
    rw [wpOpsIn_cons]
    unfold wpOpIn
    simp only [h0]
    refine hop C h ρ F M g a w I (fun _ _ => rfl) (fun _ _ => rfl) rr n _ Q (fun x h' ρ' w' I' hv => ih hQ (k + 1) h' ρ' _ w' (I'.put (fun d hd' => hd o (List.mem_cons_self ..) d hd') hv) (fun o' ho' => hd o' (List.mem_cons_of_mem _ ho')) (fun j => ?_))
    rcases hos (j + 1) with e | e
    · left; simpa [Nat.add_assoc, Nat.add_comm 1 j] using e
    · right; simpa using e
theorem run_yieldOp {a : Act} {o : Oper} {f : Operand} {args : Array Operand} {ts : Array TypeId} (ho : o.op = .call { callee := .value f, args := args, argTypes := ts }) {l : Nat} (he : a.eval f = .func (.yield l) #[] #[]) (w : World) :
    (execOp a.eval o).run P w = (Instr.yield l (args.map a.eval)).run P w := by
  unfold execOp
  simp [ho, resolve, Deferred.ofValue, invoke, he]
theorem RelL.of_gr {h h' : Hp} {ρ ρ' : Rho} {cs : List AV} {vs : List Value} (H : RelL h ρ cs vs) (hc : grL cs = true) : RelL h' ρ' cs vs := ⟨H.1, fun i c v a b => (H.2 i c v a b).of_gr (grL_get hc a)⟩
theorem W.regionY (E : Env P Γ) {l : Nat} {items : List (List AV)} (hY : Yld P h0 l J items) {id : Nat} {ops : Array Oper} (own : List Nat) (k : Nat) (rvs1 rvs2 : List RV) {A1 : Acc} {A2 : Bool → Acc} {y : Oper} {post : List Oper} {Wb : Bool} {f : Operand} {args : Array Operand} {ts : Array TypeId} {it : List AV} {d : Nat}
    (hk : ops.toList.drop k = y :: post) (hr1 : runR Γ own ops.toList (ops.toList.take k) rvs1 L M = some A1) (hyo : y.op = .call { callee := .value f, args := args, argTypes := ts }) (hyd : y.dst = some d)
    (hg : guardOf ops.toList (fr A1.L) y = some (.on Wb)) (hf : stripV (evO (fr A1.L) f) = .fn (.yield l) [] []) (hit : mapAV (fun x => stripV (evO (fr A1.L) x)) args.toList = it) (hgr : grL it = true)
    (hr2 : ∀ b, runR Γ own ops.toList post rvs2 ((d, .cnd Wb (.bool b)) :: A1.L) A1.M = some (A2 b)) (hd : dstOk N ops.toList = true)
    (hcs1 : AllP A1.cs) (hrq1 : RqOk P A1.rq) (hn : AllP (needs (fr A1.L) Wb y.op.operands.toList)) (hcs2 : ∀ b, AllP (A2 b).cs) (hrq2 : ∀ b, RqOk P (A2 b).rq)
    (hitm : Wb = true → ∃ q, g = q + 1 ∧ items[q]? = some it)
    (K : ∀ b g', (Wb = false → g' = g) → (Wb = true → g' = bif b then g + 1 else 0) → At N (Ci w0 h0 J hJ) (A2 b).L (A2 b).M g' (Q .normal)) : W P N none (Ci w0 h0 J hJ) (.region id ops false) L M g Q := by
  intro h ρ a w I
  refine wpIn_region ?_
  have hlen : k < ops.toList.length := by
    rcases Nat.lt_or_ge k ops.toList.length with h | h
    · exact h
    · rw [List.drop_eq_nil_of_le h] at hk; cases hk
  have hsplit : ops.toList = ops.toList.take k ++ y :: post := by rw [← hk, List.take_append_drop]
  have htk : (ops.toList.take k).length = k := by rw [List.length_take]; omega
  have hsize : ops.size = k + (1 + post.length) := by
    have := congrArg List.length hsplit
    rw [List.length_append, htk, List.length_cons] at this
    simp at this; omega
  have hrange : List.range ops.size = List.range' 0 (ops.toList.take k).length ++ (k :: List.range' (k + 1) post.length) := by
    rw [htk, List.range_eq_range', hsize, Nat.add_comm 1, ← List.range'_append_1, Nat.zero_add, List.range'_succ]
  rw [hrange]
  obtain ⟨rs, T, _⟩ := runR_trace (N := N) E.ty E.depth (ops.toList.take k) rvs1 L M hr1 hcs1.mem hrq1
  have hyk : ops[k]? = some y := by
    rw [← Array.getElem?_toList, hsplit, List.getElem?_append_right (by omega), htk]; simp
  have hpost : ∀ j, post[j]? = ops[k + 1 + j]? := fun j => by
    rw [← Array.getElem?_toList, hsplit, List.getElem?_append_right (by omega), htk, show k + 1 + j - k = j + 1 by omega]; simp
  have hmem : ∀ o, o ∈ post → o ∈ ops.toList := fun o ho => by rw [hsplit]; simp [ho]
  have hnd : ∀ c, y.op ≠ .defer c := fun c e => by rw [hyo] at e; cases e
  have hdN : d < N := dstOk_spec hd y (by rw [hsplit]; simp) d hyd
  refine T.lexK _ (fun h ρ a w I => ?_) 0 h ρ a w I (fun o ho => dstOk_spec hd o (List.mem_of_mem_take ho)) (fun j => ?_)
  rotate_left
  · rw [List.getElem?_take, ← Array.getElem?_toList, Nat.zero_add]
    by_cases hj : j < k
    · left; rw [if_pos hj]
    · right; omega
  rw [wpOpsIn_cons]
  unfold wpOpIn
  simp only [hyk]
  have hgs := (guardOf_sound I (fun _ _ => rfl) hg).2 Wb rfl
  rw [hgs]
  have fin : ∀ (b : Bool) (g' : Nat), (Wb = false → g' = g) → (Wb = true → g' = bif b then g + 1 else 0) → ∀ (h : Hp) (ρ : Rho) (w' : World) (x : Value), InvH N (Ci w0 h0 J hJ) h ρ (fr A1.L) (mm A1.M) g' a w' → Rel h ρ (.cnd Wb (.bool b)) x →
      wpOpsIn (Fw none) 1 P ops Q (List.range' (k + 1) post.length) (a.put y.dst x) w' := by
    intro b g' hg1 hg2 h ρ w' x I' hx
    obtain ⟨rs2, T2, _⟩ := runR_trace (N := N) E.ty E.depth post rvs2 _ _ (hr2 b) (hcs2 b).mem (hrq2 b)
    have hp := I'.put (d := y.dst) (fun t ht => by rw [hyd] at ht; cases ht; exact hdN) hx
    rw [hyd] at hp ⊢
    exact T2.lex (K b g' hg1 hg2) (k + 1) h ρ _ w' hp (fun o ho => dstOk_spec hd o (hmem o ho)) (fun j => .inl (hpost j))
  cases hWb : Wb with
  | false =>
    rw [if_neg (by simp)]
    refine ⟨fun _ _ => trivial, ?_⟩
    exact fin false g (fun _ => rfl) (fun h => by rw [hWb] at h; cases h) h ρ w undef I (.cnd _ _ _ _ (fun h => by rw [hWb] at h; cases h) (fun _ => rfl))
  | true =>
    rw [if_pos rfl]
    obtain ⟨q, rfl, hq⟩ := hitm hWb
    have hop : ∀ z, z ∈ y.op.operands → Rel h ρ (stripV (evO (fr A1.L) z)) (a.eval z) := by
      intro z hz
      have h1 := evO_rel (ops := ops) (o := y) I (fun _ _ => rfl) hz
      cases hev : evO (fr A1.L) z <;> rw [hev] at h1 <;> (try exact h1)
      rename_i G v
      have hG := hn.mem _ (needs_mem (W := Wb) (by simpa using hz) hev) hWb
      cases h1 with
      | cnd _ _ _ _ ht hf => exact ht hG
    have hfv : a.eval f = .func (.yield l) #[] #[] := by
      have h1 := hop f (by rw [hyo]; simp [Op.operands, Call.operands])
      rw [hf] at h1
      generalize a.eval f = z at h1
      cases h1 with
      | fn _ _ _ _ vs ws hl hm _ _ =>
        have e1 : vs = [] := by simpa using hl
        have e2 : ws = [] := by simpa using hm
        subst e1; subst e2; rfl
    have hargs : RelL h ρ it (args.toList.map a.eval) := by
      rw [← hit]
      exact mapAV_rel args.toList (fun z hz => hop z (mem_callArgs hyo hz))
    obtain ⟨X, x1, x2, x3⟩ := I.gst
    obtain ⟨fn, tmps, assign, body, hy, hR⟩ := hY q X w it _ x3 hq (hargs.of_gr hgr)
    refine ⟨fun _ _ => trivial, ?_⟩
    have e1 : args.map a.eval = (args.toList.map a.eval).toArray := by apply Array.ext'; simp
    rw [Oper.semAt_eq _ _ _ hnd, run_yieldOp hyo hfv, e1, hy]
    refine ⟨fun e => (by cases e), ?_⟩
    refine (roundIn_w hR).mono (fun e W' he => ?_)
    obtain ⟨b, rfl, hJ', k1, k2, k3, k4, k5, k6⟩ := he
    refine fin b _ (fun h => by rw [hWb] at h; cases h) (fun _ => rfl) h ρ W' _ ?_ (.cnd _ _ _ _ (fun _ => .bool _ _) (fun h => by rw [hWb] at h; cases h))
    refine I.afterRound x1 x2 k1 k2 k3 k4 k5 k6 ?_
    cases b <;> exact hJ'
theorem At.iret {fn : Func} {n : Nat} (hr : fn.results.toList = []) (hg : g = 0 ∨ g = n + 1) (hval : ∀ b o, h0 b = some o → w0.heap[b]? = some o) : At N (Ci w0 h0 J hJ) L M g (IRetQ P fn J n .ret) := by
  intro h ρ a w I
  obtain ⟨Ds, hd1, hd2, hd3⟩ := I.dfr
  obtain ⟨X, x1, x2, x3⟩ := I.gst
  show LeavesInM (Fw none) 1 P fn a.tmps (IterPost J n) a.defers .returning w
  rw [hd1]
  refine leaves Ds w hd2 (fun D hD => I.hp _ _ (hd3 D hD).1) (fun w2 e1 e2 e3 e4 e5 => ?_)
  have hJ2 : J g X w2 := hJ g X X w w2 x3 e1 e2 e3 (by omega) (fun k _ hk => e5 k (fun hkD => by
    rcases x2 k _ (hd3 k hkD).1 with h1 | h1
    · exact absurd (heap_lt (hval k _ h1)) (Nat.not_lt.2 (hd3 k hkD).2)
    · exact hk h1)) (fun b hb => .inl hb)
  refine ⟨.tuple #[], ?_, ⟨_, rfl⟩, X, ?_⟩
  · unfold results
    rw [Array.mapM_eq_mapM_toList, hr]
    simp [Sem.run_bind]
  · rcases hg with rfl | rfl
    · exact .inr hJ2
    · exact .inl hJ2
theorem Iter.of_body {f : FuncId} {fn : Func} {c : Code} {caps : List AV} {items : List (List AV)} (hf : P.funcs[f]? = some fn) (hn : (fn.name == "runtime.NumGoroutine") = false) (hb : fn.body = some c) (hN : fn.ntmps = N) (hx : Nat.ble (caps.length + 1) N = true)
    (H : ∀ w0 h0 l J hJ, (∀ b o, h0 b = some o → w0.heap[b]? = some o) → Yld P h0 l J items → W P N none (Ci w0 h0 J hJ) c (argL 0 (.fn (.yield l) [] [] :: caps)) [] 1 (IRetQ P fn J items.length)) : Iter P f caps items := by
  refine ⟨enters_of hf hn hb, fun h w vs hR hp l J hJ hY h1 => ?_⟩
  refine callsIn_w (n := 1) (callsIn_of_wp_marks hf hb trivial ?_)
  refine H w h l J hJ hp hY h ρ0 _ w ?_
  have hR' : RelL h ρ0 (.fn (.yield l) [] [] :: caps) (Value.func (.yield l) #[] #[] :: vs) := RelL.cons (.fn _ _ _ _ [] [] rfl rfl (fun i c v hc => by simp at hc) (fun i c v hc => by simp at hc)) hR
  have hlen : (Value.func (.yield l) #[] #[] :: vs).length ≤ N := by rw [hR'.1]; exact Nat.le_of_ble_eq_true hx
  generalize Value.func (.yield l) #[] #[] :: vs = us at hR' hlen
  refine ⟨fun t => ?_, ⟨rfl, fun i c v h1 => by simp [Ci] at h1⟩, ?_, hp, fun id x hx => (by cases hx), fun _ _ => rfl, fun id li b h1 => (by cases h1), fun id id' li li' b h1 => (by cases h1), rfl, rfl, rfl, Nat.le_refl _, fun _ _ _ => rfl, fun b o hb => hb, fun b o hb _ => hb,
    ⟨fun _ => False, fun b ⟨id, li, q, _⟩ => (by cases q), fun b o hb => .inl hb, h1⟩, ⟨[], rfl, List.nodup_nil, fun D hD => (by cases hD)⟩⟩
  · rcases argL_rel (h := h) (ρ := ρ0) 0 hR' t with e | ⟨i, u, e1, e2, e3⟩
    · rw [e]; exact .any _ _
    · have e0 : t = i := by omega
      subst e0
      have hi : t < us.length := (List.getElem?_eq_some_iff.1 e2).1
      have : (us.toArray ++ Array.replicate (fn.ntmps - us.toArray.size) undef).getD t undef = u := by
        have e4 : us[t] = u := by have := List.getElem?_eq_getElem hi; rw [this] at e2; exact Option.some.inj e2
        simp [Array.getElem?_append, hi, e4]
      rw [this]
      exact e3
  · simp [hN] at hlen ⊢; omega
end
end Go.Av
