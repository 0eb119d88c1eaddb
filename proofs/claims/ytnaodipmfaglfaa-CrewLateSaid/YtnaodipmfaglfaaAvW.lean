/- Ranges over functions: what an iterator promises; the statement. -/
import Derived.Test.YtnaodipmfaglfaaAvV
set_option linter.all false
namespace Go.Av
open Go.Sp
def Stab (J : (Nat → Prop) → World → Prop) : Prop := ∀ (X X' : Nat → Prop) (w w' : World), J X w → w'.os = w.os → w'.tape = w.tape → w'.output = w.output → w.heap.size ≤ w'.heap.size → (∀ k, k < w.heap.size → ¬ X k → w'.heap[k]? = w.heap[k]?) →
  (∀ b, X' b → X b ∨ w.heap.size ≤ b) → J X' w'
def RoundPost (h : Hp) (X : Nat → Prop) (W : World) (J : Bool → World → Prop) : Ending → World → Prop := fun e W' => ∃ b, e = .returned (.bool b) ∧ J b W' ∧ W'.os = W.os ∧ W'.tape = W.tape ∧ W'.output = W.output ∧ W.heap.size ≤ W'.heap.size ∧
  (∀ k, k < W.heap.size → X k → W'.heap[k]? = W.heap[k]?) ∧ ∀ k o, h k = some o → W'.heap[k]? = some o
def Yld (P : Program) (h : Hp) (l : Nat) (J : Nat → (Nat → Prop) → World → Prop) (items : List (List AV)) : Prop :=
  ∀ (k : Nat) (X : Nat → Prop) (W : World) (it : List AV) (us : List Value), J (k + 1) X W → items[k]? = some it → RelL (fun _ => none) ρ0 it us →
    ∃ fn tmps assign body, (Instr.yield l us.toArray).run P W = .ok (.round l fn tmps assign body) W ∧ RoundIn (Fw none) 1 P l fn tmps assign body W (RoundPost h X W (fun b => J (bif b then k + 2 else 0) (fun b' => X b' ∧ b' < W.heap.size)))
def IterPost (J : Nat → (Nat → Prop) → World → Prop) (n : Nat) : Ending → World → Prop := fun e w' => (∃ v, e = .returned v) ∧ ∃ X, J (n + 1) X w' ∨ J 0 X w'
def Iter (P : Program) (f : FuncId) (caps : List AV) (items : List (List AV)) : Prop :=
  Enters P f ∧ ∀ (h : Hp) (w : World) (vs : List Value), RelL h ρ0 caps vs → (∀ b o, h b = some o → w.heap[b]? = some o) →
    ∀ (l : Nat) (J : Nat → (Nat → Prop) → World → Prop), (∀ k, Stab (J k)) → Yld P h l J items → J 1 (fun _ => False) w → CallsIn (Fw none) 0 P f (Value.func (.yield l) #[] #[] :: vs).toArray w (IterPost J items.length)
def Ci (w0 : World) (h0 : Hp) (J : Nat → (Nat → Prop) → World → Prop) (hJ : ∀ k, Stab (J k)) : Ctx := { w0 := w0, h0 := h0, savA := [], savV := [], bor := fun b => h0 b = none, gh := J, gh_step := fun g X X' w w' => hJ g X X' w w' }
def IRetQ (P : Program) (fn : Func) (J : Nat → (Nat → Prop) → World → Prop) (n : Nat) : Exit → Act → World → Prop := bodyPostM (Fw none) 1 P fn (IterPost J n)
theorem roundIn_w {P : Program} {l f : Nat} {tmps : Array Value} {assign body : Code} {w : World} {R : Ending → World → Prop} {n n' : Nat} (H : RoundIn (Fw none) n P l f tmps assign body w R) : RoundIn (Fw none) n' P l f tmps assign body w R :=
  ⟨trivial, fun c cs _ => H.2 c cs (room_w _ _)⟩
section
variable {P : Program} {N : Nat} {Γ : Tys} {C : Ctx} {rr : Option Nat} {L : List (Nat × AV)} {M : List (Nat × Blk)} {g : Nat} {Q : Exit → Act → World → Prop} {R : Act → World → Prop}
variable {w0 : World} {h0 : Hp} {J : Nat → (Nat → Prop) → World → Prop} {hJ : ∀ k, Stab (J k)}
theorem InvH.afterRound {h : Hp} {ρ : Rho} {F : Fr} {Mx : Mm} {a : Act} {w W' : World} {g' : Nat} (I : InvH N (Ci w0 h0 J hJ) h ρ F Mx g a w) {X : Nat → Prop} (x1 : ∀ b, ownSet ρ b → X b) (x2 : ∀ b o, h b = some o → h0 b = some o ∨ X b)
    (hos : W'.os = w.os) (htape : W'.tape = w.tape) (hout : W'.output = w.output) (hsz : w.heap.size ≤ W'.heap.size) (hX : ∀ k, k < w.heap.size → X k → W'.heap[k]? = w.heap[k]?) (hh : ∀ k o, h0 k = some o → W'.heap[k]? = some o) (hJ' : J g' (fun b => X b ∧ b < w.heap.size) W') : InvH N (Ci w0 h0 J hJ) h ρ F Mx g' a W' := by
  refine { I with hp := fun b o hb => ?_, blk := fun id x hx => ?_, own := fun id li b q1 q2 => ?_, os := hos.trans I.os, tape := htape.trans I.tape, out := hout.trans I.out, sz := Nat.le_trans I.sz hsz, kept := fun k hk hb => ?_, gst := ⟨_, fun b hb => ⟨x1 b hb, let ⟨id, li, q1, q2⟩ := hb; (I.own id li b q1 q2).2.1⟩, fun b o hb => (x2 b o hb).imp (fun h => h) (fun h => ⟨h, I.hlt hb⟩), hJ'⟩ }
  · rcases x2 b o hb with h1 | h1
    · exact hh b o h1
    · rw [hX b (I.hlt hb) h1]; exact I.hp b o hb
  · exact (I.blk id x hx).keep (Le.refl h) rfl (hle_refl _) (fun li b q1 q2 => hX b (I.own id li b q1 q2).2.1 (x1 b ⟨id, li, q1, q2⟩))
  · obtain ⟨q3, q4, q5⟩ := I.own id li b q1 q2
    exact ⟨q3, Nat.lt_of_lt_of_le q4 hsz, q5⟩
  · rw [← I.kept k hk hb]
    cases ho : h0 k with
    | none => exact absurd ho hb
    | some o => rw [hh k o ho, I.hp k o (I.ext k o ho)]
theorem run_yieldOp {a : Act} {o : Oper} {f : Operand} {args : Array Operand} {ts : Array TypeId} (ho : o.op = .call { callee := .value f, args := args, argTypes := ts }) {l : Nat} (he : a.eval f = .func (.yield l) #[] #[]) (w : World) :
    (execOp a.eval o).run P w = (Instr.yield l (args.map a.eval)).run P w := by
  unfold execOp
  simp [ho, resolve, Deferred.ofValue, invoke, he]
theorem RelL.of_gr {h h' : Hp} {ρ ρ' : Rho} {cs : List AV} {vs : List Value} (H : RelL h ρ cs vs) (hc : grL cs = true) : RelL h' ρ' cs vs := ⟨H.1, fun i c v a b => (H.2 i c v a b).of_gr (grL_get hc a)⟩
theorem At.iret {fn : Func} {n : Nat} (hr : fn.results.toList = []) (hg : g = 0 ∨ g = n + 1) (hval : ∀ b o, h0 b = some o → w0.heap[b]? = some o) : At N (Ci w0 h0 J hJ) L M g (IRetQ P fn J n .ret) := by
  intro h ρ a w I
  obtain ⟨Ds, hd1, hd2, hd3⟩ := I.dfr
  obtain ⟨X, x1, x2, x3⟩ := I.gst
  show LeavesInM (Fw none) 1 P fn a.tmps (IterPost J n) a.defers .returning w
  rw [hd1]
  refine leaves Ds w hd2 (fun D hD => I.hp _ _ (hd3 D hD).1) (fun w2 e1 e2 e3 e4 e5 => ?_)
  have hJ2 : J g X w2 := hJ g X X w w2 x3 e1 e2 e3 (by omega) (fun k _ hk => e5 k (fun hkD => by
    rcases x2 k _ (hd3 k hkD).1 with h1 | h1
    · exact absurd (heap_lt (hval k _ h1)) (Nat.not_lt.2 (hd3 k hkD).2)
    · exact hk h1)) (fun b hb => .inl hb)
  refine ⟨.tuple #[], ?_, ⟨_, rfl⟩, X, ?_⟩
  · unfold results
    rw [Array.mapM_eq_mapM_toList, hr]
    simp [Sem.run_bind]
  · rcases hg with rfl | rfl
    · exact .inr hJ2
    · exact .inl hJ2
theorem Iter.of_body {f : FuncId} {fn : Func} {c : Code} {caps : List AV} {items : List (List AV)} (hf : P.funcs[f]? = some fn) (hn : (fn.name == "runtime.NumGoroutine") = false) (hb : fn.body = some c) (hN : fn.ntmps = N) (hx : Nat.ble (caps.length + 1) N = true)
    (H : ∀ w0 h0 l J hJ, (∀ b o, h0 b = some o → w0.heap[b]? = some o) → Yld P h0 l J items → W P N none (Ci w0 h0 J hJ) c (argL 0 (.fn (.yield l) [] [] :: caps)) [] 1 (IRetQ P fn J items.length)) : Iter P f caps items := by
  refine ⟨enters_of hf hn hb, fun h w vs hR hp l J hJ hY h1 => ?_⟩
  refine callsIn_w (n := 1) (callsIn_of_wp_marks hf hb trivial ?_)
  refine H w h l J hJ hp hY h ρ0 _ w ?_
  have hR' : RelL h ρ0 (.fn (.yield l) [] [] :: caps) (Value.func (.yield l) #[] #[] :: vs) := RelL.cons (.fn _ _ _ _ [] [] rfl rfl (fun i c v hc => by simp at hc) (fun i c v hc => by simp at hc)) hR
  have hlen : (Value.func (.yield l) #[] #[] :: vs).length ≤ N := by rw [hR'.1]; exact Nat.le_of_ble_eq_true hx
  generalize Value.func (.yield l) #[] #[] :: vs = us at hR' hlen
  refine ⟨fun t => ?_, ⟨rfl, fun i c v h1 => by simp [Ci] at h1⟩, ?_, hp, fun id x hx => (by cases hx), fun _ _ => rfl, fun id li b h1 => (by cases h1), fun id id' li li' b h1 => (by cases h1), rfl, rfl, rfl, Nat.le_refl _, fun _ _ _ => rfl, fun b o hb => hb, fun b o hb _ => hb,
    ⟨fun _ => False, fun b ⟨id, li, q, _⟩ => (by cases q), fun b o hb => .inl hb, h1⟩, ⟨[], rfl, List.nodup_nil, fun D hD => (by cases hD)⟩⟩
  · rcases argL_rel (h := h) (ρ := ρ0) 0 hR' t with e | ⟨i, u, e1, e2, e3⟩
    · rw [e]; exact .any _ _
    · have e0 : t = i := by omega
      subst e0
      have hi : t < us.length := (List.getElem?_eq_some_iff.1 e2).1
      have : (us.toArray ++ Array.replicate (fn.ntmps - us.toArray.size) undef).getD t undef = u := by
        have e4 : us[t] = u := by have := List.getElem?_eq_getElem hi; rw [this] at e2; exact Option.some.inj e2
        simp [Array.getElem?_append, hi, e4]
      rw [this]
      exact e3
  · simp [hN] at hlen ⊢; omega
end
end Go.Av
