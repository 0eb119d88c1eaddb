/- Functions: the return; a contract out of a body. -/
import Derived.Test.YtnaodipmfaglfaaAvR
import Derived.RangeFuncOwn
import Derived.Conc.MuLone
set_option linter.all false
namespace Go.Av
def resL (Γ : Tys) (F : Fr) (M : Mm) : List ResultVar → Option (List AV)
  | [] => some []
  | .tmp t :: r => match resL Γ F M r with
    | some xs => some (F t :: xs)
    | none => none
  | .cell a t :: r => match tyOf Γ t with
    | some T => match target M (F a) with
      | some (cs, _, none) => match ofCells T cs with
        | some v => match resL Γ F M r with
          | some xs => some (v :: xs)
          | none => none
        | none => none
      | _ => none
    | none => none
def resV : List AV → AV
  | [x] => x
  | xs => .tup xs
def Cq (w0 : World) (h0 : Hp) (SA : List AV) (SV : List Value) (br : Nat → Prop) : Ctx := { w0 := w0, h0 := h0, savA := SA, savV := SV, bor := br, gh := fun _ _ _ => True, gh_step := fun _ _ _ _ _ _ _ _ _ _ _ _ => trivial }
abbrev Cp (w0 : World) (h0 : Hp) : Ctx := Cq w0 h0 [] [] (fun _ => False)
def RetQ (P : Program) (fn : Func) (h0 : Hp) (w0 : World) (v : AV) (B : List (Nat × Blk)) : Exit → Act → World → Prop := bodyPostM (Fw none) 1 P fn (CtrPost h0 w0 v B)
section
variable {P : Program} {N : Nat} {Γ : Tys} {C : Ctx} {rr : Option Nat} {L : List (Nat × AV)} {M : List (Nat × Blk)} {g : Nat} {Q : Exit → Act → World → Prop} {R : Act → World → Prop}
theorem Lies.other {w w2 : World} {h : Hp} {ρ : Rho} {ad : Addr} {cs : List AV} (H : Lies w h ρ ad cs) (hk : ∀ (b : Nat) (o : Obj), w.heap[b]? = some o → o.isCells = true → w2.heap[b]? = some o) : Lies w2 h ρ ad cs := by
  intro j c hc
  obtain ⟨x, h1, h2⟩ := H j c hc
  refine ⟨x, ?_, h2⟩
  obtain ⟨o, e1, e2⟩ := cells_of_cell h1
  unfold World.cell? at h1 ⊢
  rw [e1] at h1
  rw [hk _ _ e1 e2]
  exact h1
theorem resL_sound (hΓ : TysOk P Γ) {h : Hp} {ρ : Rho} {F : Fr} {Mm' : Mm} {a : Act} {w w2 : World} (I : InvH N C h ρ F Mm' g a w) (hk : ∀ (b : Nat) (o : Obj), w.heap[b]? = some o → o.isCells = true → w2.heap[b]? = some o) : ∀ {l : List ResultVar} {xs : List AV}, resL Γ F Mm' l = some xs →
    ∃ vs, (l.mapM (fun | .tmp t => pure (a.tmps.getD t undef) | .cell x t => do loadVar t (← asAddr (a.tmps.getD x undef)) : ResultVar → Sem Value)).run P w2 = .ok vs w2 ∧ RelL h ρ xs vs := by
  intro l
  induction l with
  | nil => intro xs hx; simp only [resL] at hx; cases hx; exact ⟨[], by simp, RelL.nil _ _⟩
  | cons r l ih =>
    intro xs hx
    cases r with
    | tmp t =>
      simp only [resL] at hx
      split at hx
      · rename_i ys hy
        cases hx
        obtain ⟨vs, h1, h2⟩ := ih hy
        exact ⟨a.tmps.getD t undef :: vs, by simp only [List.mapM_cons, Sem.run_bind, Sem.run_pure, Result.andThen_ok, h1], RelL.cons (I.slot t) h2⟩
      · cases hx
    | cell x t =>
      simp only [resL] at hx
      cases hT : tyOf Γ t with
      | none => simp [hT] at hx
      | some T =>
      simp only [hT] at hx
      cases ht : target Mm' (F x) with
      | none => simp [ht] at hx
      | some q =>
      obtain ⟨cs, rd, c⟩ := q
      simp only [ht] at hx
      cases c with
      | some => simp at hx
      | none =>
      simp only [] at hx
      cases hv : ofCells T cs with
      | none => simp [hv] at hx
      | some v =>
      simp only [hv] at hx
      split at hx
      · rename_i ys hy
        cases hx
        obtain ⟨vs, h1, h2⟩ := ih hy
        obtain ⟨ad, e1, e2⟩ := target_sound I ht (fun _ _ => rfl) (fun q hq => by cases hq) (I.slot x)
        obtain ⟨z, e3, e4⟩ := run_load_lies (P := P) (Lies.other e2 hk) (hΓ t T hT) hv
        have ha : (asAddr (a.tmps.getD x undef)).run P w2 = .ok ad w2 := by rw [e1]; rfl
        refine ⟨z :: vs, ?_, RelL.cons e4 h2⟩
        simp only [List.mapM_cons, Sem.run_bind, ha, Sem.run_pure, Result.andThen_ok, e3, h1]
      · cases hx
theorem leaves {fn : Func} {tmps : Array Value} {R : Ending → World → Prop} : ∀ (Ds : List Nat) (w : World), Ds.Nodup → (∀ D, D ∈ Ds → w.heap[D]? = some (.deferred (some []))) →
    (∀ w2 : World, w2.os = w.os → w2.tape = w.tape → w2.output = w.output → w2.heap.size = w.heap.size → (∀ k, k ∉ Ds → w2.heap[k]? = w.heap[k]?) → ∃ v, (results fn tmps).run P w2 = .ok v w2 ∧ R (.returned v) w2) →
    LeavesInM (Fw none) 1 P fn tmps R (Ds.map (fun D => { target := .collected D, args := #[] })) .returning w := by
  intro Ds
  induction Ds with
  | nil =>
    intro w _ _ H
    obtain ⟨v, h1, h2⟩ := H w rfl rfl rfl rfl (fun _ _ => rfl)
    exact ⟨v, h1, h2⟩
  | cons D Ds ih =>
    intro w hnd hD H
    refine ⟨by simp, .inl ⟨D, _, rfl, run_takeDeferred (hD D (by simp)), ?_⟩⟩
    have hne : ∀ k, k ≠ D → (w.putObj D (.deferred none)).heap[k]? = w.heap[k]? := fun k hk => World.putObj_heap_other hk
    refine ih _ (List.nodup_cons.1 hnd).2 (fun E hE => ?_) (fun w2 e1 e2 e3 e4 e5 => H w2 e1 e2 e3 (by rw [e4]; simp [World.putObj]) (fun k hk => ?_))
    · have : E ≠ D := by rintro rfl; exact (List.nodup_cons.1 hnd).1 hE
      rw [hne E this]
      exact hD E (by simp [hE])
    · simp only [List.mem_cons, not_or] at hk
      rw [e5 k hk.2, hne k hk.1]
theorem resV_rel {h : Hp} {ρ : Rho} {xs : List AV} {vs : List Value} (h2 : RelL h ρ xs vs) : Rel h ρ (resV xs) (if h : vs.length = 1 then vs[0] else .tuple vs.toArray) := by
  unfold resV
  split
  · rename_i x
    have : vs.length = 1 := h2.1
    rw [dif_pos this]
    exact h2.2 0 x _ rfl (by simp)
  · rename_i hx
    have : vs.length ≠ 1 := by
      intro e
      have h3 := h2.1
      rw [e] at h3
      obtain ⟨y, hy⟩ := list_one h3.symm
      exact hx y hy
    rw [dif_neg this]
    exact .tup _ _ _ h2.1 h2.2
theorem At.ret_core (hΓ : TysOk P Γ) {w0 : World} {h0 : Hp} {fn : Func} {v : AV} {B : List (Nat × Blk)} {xs : List AV} (hr : resL Γ (fr L) (mm M) fn.results.toList = some xs) (hval : ∀ b o, h0 b = some o → w0.heap[b]? = some o)
    (H : ∀ h ρ a w, InvH N (Cp w0 h0) h ρ (fr L) (mm M) g a w → ∀ x, Rel h ρ (resV xs) x → ∃ h1 ρ1, Le h h1 ∧ (∀ b o, h b = some o → h1 b = some o) ∧ (∀ b o, h1 b = some o → w.heap[b]? = some o ∧ (b < w0.heap.size → h b = some o)) ∧ Rel h1 ρ1 v x ∧
      (∀ w2 : World, (∀ (b : Nat) (o : Obj), w.heap[b]? = some o → (∀ d, o ≠ .deferred d) → w2.heap[b]? = some o) → w2.heap.size = w.heap.size → Owns h1 ρ1 B w0 w2)) : At N (Cp w0 h0) L M g (RetQ P fn h0 w0 v B .ret) := by
  intro h ρ a w I
  obtain ⟨Ds, hd1, hd2, hd3⟩ := I.dfr
  show LeavesInM (Fw none) 1 P fn a.tmps (CtrPost h0 w0 v B) a.defers .returning w
  rw [hd1]
  refine leaves Ds w hd2 (fun D hD => I.hp _ _ (hd3 D hD).1) (fun w2 e1 e2 e3 e4 e5 => ?_)
  have hnc : ∀ (b : Nat) (o : Obj), w.heap[b]? = some o → (∀ d, o ≠ .deferred d) → w2.heap[b]? = some o := fun b o hb hno => by
    have : b ∉ Ds := fun hb' => by
      have := I.hp _ _ (hd3 b hb').1
      rw [hb] at this; cases this
      exact hno _ rfl
    rw [e5 b this]; exact hb
  obtain ⟨vs, h1, h2⟩ := resL_sound (w2 := w2) hΓ I (fun b o hb ho => hnc b o hb (fun d e => by subst e; simp [Obj.isCells] at ho)) hr
  have hres : (results fn a.tmps).run P w2 = .ok (if h : vs.length = 1 then vs[0] else .tuple vs.toArray) w2 := by
    unfold results
    rw [Array.mapM_eq_mapM_toList]
    rw [map_eq_pure_bind]
    simp only [Sem.run_bind, Sem.run_pure]
    have key : ∀ r : Result (List Value), r = .ok vs w2 → (r.andThen fun a w' => .ok a.toArray w').andThen (fun a w' => Result.ok (if h : a.size = 1 then a[0] else Value.tuple a) w') = .ok (if h : vs.length = 1 then vs[0] else .tuple vs.toArray) w2 := by
      rintro _ rfl
      simp only [Result.andThen_ok, List.size_toArray, List.getElem_toArray]
    exact key _ h1
  refine ⟨_, hres, ?_⟩
  obtain ⟨h1', ρ1, k1, k2, k3, k4, k5⟩ := H h ρ a w I _ (resV_rel h2)
  -- what is left to be read: all but the marks
  let h' : Hp := fun b => if b ∈ Ds then none else h1' b
  have hle : Le h1' h' := by
    intro b o hb _ hno
    show (if b ∈ Ds then none else h1' b) = some o
    rw [if_neg ?_]
    · exact hb
    · intro hbD
      have h4 := (k3 b o hb).1
      rw [I.hp _ _ (hd3 b hbD).1] at h4; cases h4
      exact hno _ rfl
  have O := k5 w2 hnc e4
  refine ⟨h', ρ1, ⟨e1.trans I.os, e2.trans I.tape, e3.trans I.out, by rw [e4]; exact I.sz, fun k hk => ?_⟩, fun b o hb => ?_, fun b o hb => ?_, k4.heap hle, ⟨fun id x hx => ?_, O.dom, fun id li b q1 q2 => ?_, O.inj⟩⟩
  · have : k ∉ Ds := fun hkD => by have := (hd3 k hkD).2; exact absurd hk (Nat.not_lt.2 this)
    rw [e5 k this]
    exact I.kept k hk (fun h => h)
  · show (if b ∈ Ds then none else h1' b) = some o
    have hbh := I.ext b o hb
    rw [if_neg ?_]
    · exact k2 b o hbh
    · intro hbD
      rw [(hd3 b hbD).1] at hbh; cases hbh
      have := (hd3 b hbD).2
      exact absurd (heap_lt (hval b _ hb)) (Nat.not_lt.2 this)
  · have hb' : b ∉ Ds ∧ h1' b = some o := by
      have : (if b ∈ Ds then none else h1' b) = some o := hb
      split at this
      · cases this
      · exact ⟨by assumption, this⟩
    obtain ⟨q1, q2⟩ := k3 b o hb'.2
    rcases Nat.lt_or_ge b w0.heap.size with hlt | hge
    · exact .inl (I.old b o (q2 hlt) hlt)
    · right
      refine ⟨hge, ?_⟩
      rw [e5 b hb'.1]
      exact q1
  · exact (O.blk id x hx).keep hle rfl (hle_refl _) (fun _ _ _ _ => rfl)
  · obtain ⟨q3, q4⟩ := O.own id li b q1 q2
    refine ⟨?_, q4⟩
    show (if b ∈ Ds then none else h1' b) = none
    split
    · rfl
    · exact q3
theorem At.ret (hΓ : TysOk P Γ) {w0 : World} {h0 : Hp} {fn : Func} {v v' : AV} {xs : List AV} {rd : List Nat} {c : Option Prop} (hr : resL Γ (fr L) (mm M) fn.results.toList = some xs) (hv : view (mm M) (resV xs) = some (v', rd, c)) (hc : ∀ q, c = some q → q) (hs : Sim v' v)
    (hval : ∀ b o, h0 b = some o → w0.heap[b]? = some o) : At N (Cp w0 h0) L M g (RetQ P fn h0 w0 v [] .ret) := by
  refine At.ret_core hΓ hr hval fun h ρ a w I x hx => ?_
  have hview := view_sound I (Le.of I.le_all) hx hv (fun _ _ => rfl) hc (fun id hid li b q1 q2 => hAll_own q1 q2)
  refine ⟨hAll h ρ w, ρ0, Le.of I.le_all, I.le_all, fun b o hb => ⟨I.all_hp b o hb, fun hlt => ?_⟩, hs _ _ _ hview, fun w2 _ _ => ⟨fun id x hx => (by cases hx), fun _ _ => rfl, fun id li b h => (by cases h), fun id id' li li' b h => (by cases h)⟩⟩
  unfold hAll at hb
  split at hb
  · rename_i hs'
    obtain ⟨id, li, q1, q2⟩ := hs'
    rcases (I.own id li b q1 q2).2.2 with q3 | q3
    · exact absurd hlt (Nat.not_lt.2 q3)
    · exact q3.elim
  · exact hb
def argL : Nat → List AV → List (Nat × AV)
  | _, [] => []
  | k, x :: r => (k, x) :: argL (k + 1) r
theorem argL_rel {h : Hp} {ρ : Rho} : ∀ {xs : List AV} {vs : List Value} (k : Nat), RelL h ρ xs vs → ∀ t, fr (argL k xs) t = .any ∨ ∃ i v, t = k + i ∧ vs[i]? = some v ∧ Rel h ρ (fr (argL k xs) t) v := by
  intro xs
  induction xs with
  | nil => intro vs k _ t; exact .inl rfl
  | cons x xs ih =>
    intro vs k H t
    obtain ⟨v, r, rfl, h1, h2⟩ := H.inv_cons
    simp only [argL, fr, put]
    split
    · rename_i hb
      have := Nat.eq_of_beq_eq_true hb
      subst this
      exact .inr ⟨0, v, rfl, rfl, h1⟩
    · rcases ih (k + 1) h2 t with e | ⟨i, u, e1, e2, e3⟩
      · exact .inl e
      · exact .inr ⟨i + 1, u, by omega, by simpa using e2, e3⟩
theorem enters_of {f : FuncId} {fn : Func} {c : Code} (hf : P.funcs[f]? = some fn) (hn : (fn.name == "runtime.NumGoroutine") = false) (hb : fn.body = some c) : Enters P f := by
  intro args w
  have hn' : ¬ fn.name = "runtime.NumGoroutine" := by simpa using hn
  unfold callFunc
  simp [Sem.run_bind, hf, hn', hb]
theorem Ctr.of_body {f : FuncId} {fn : Func} {c : Code} {xs : List AV} {v : AV} {B : List (Nat × Blk)} (hf : P.funcs[f]? = some fn) (hn : (fn.name == "runtime.NumGoroutine") = false) (hb : fn.body = some c) (hN : fn.ntmps = N) (hx : Nat.ble xs.length N = true)
    (H : ∀ w0 h0, (∀ b o, h0 b = some o → w0.heap[b]? = some o) → W P N none (Cp w0 h0) c (argL 0 xs) [] 0 (RetQ P fn h0 w0 v B)) : Ctr P f xs v B := by
  refine ⟨enters_of hf hn hb, fun h w vs hR hp => ?_⟩
  refine callsIn_w (n := 1) (callsIn_of_wp_marks hf hb trivial ?_)
  refine H w h hp h ρ0 _ w ?_
  have hlen : vs.length ≤ N := by rw [hR.1]; exact Nat.le_of_ble_eq_true hx
  refine ⟨fun t => ?_, ⟨rfl, fun i c v h1 => by simp [Cp, Cq] at h1⟩, ?_, hp, fun id x hx => (by cases hx), fun _ _ => rfl, fun id li b h1 => (by cases h1), fun id id' li li' b h1 => (by cases h1), rfl, rfl, rfl, Nat.le_refl _, fun _ _ _ => rfl, fun b o hb => hb, fun b o hb _ => hb, ⟨fun _ => True, fun _ _ => trivial, fun _ _ _ => .inr trivial, trivial⟩, ⟨[], rfl, List.nodup_nil, fun D hD => (by cases hD)⟩⟩
  · rcases argL_rel (h := h) (ρ := ρ0) 0 hR t with e | ⟨i, u, e1, e2, e3⟩
    · rw [e]; exact .any _ _
    · have e0 : t = i := by omega
      subst e0
      have hi : t < vs.length := (List.getElem?_eq_some_iff.1 e2).1
      have : (vs.toArray ++ Array.replicate (fn.ntmps - vs.toArray.size) undef).getD t undef = u := by
        have e4 : vs[t] = u := by have := List.getElem?_eq_getElem hi; rw [this] at e2; exact Option.some.inj e2
        simp [Array.getElem?_append, hi, e4]
      rw [this]
      exact e3
  · simp [hN]; omega
end
end Go.Av
