/- The evaluator is right, part 9: the rest, and the whole for operations that are no calls of Go functions. -/
import Derived.Test.YtnaodipmfaglfaaAvK
set_option linter.all false
namespace Go.Av
section
variable {P : Program} {N : Nat} {C : Ctx} {h : Hp} {ρ : Rho} {F : Fr} {M : Mm} {g : Nat} {a : Act} {w : World} {Γ : Tys} {mg : Mm} {o : Oper}
theorem rel_sub {sz n : Nat} {el : Nat → List AV} {ad : Option Addr} {cap l hh : Nat} (H : Rel h ρ (.ro sz n el) (.slice ad n cap)) (hl : l ≤ hh) (hn : hh ≤ n) :
    Rel h ρ (.ro sz (hh - l) (fun k => el (l + k))) (.slice (if cap = l then ad else ad.map (·.add (l * sz))) (hh - l) (cap - l)) := by
  cases H with
  | ro _ _ _ _ _ _ hnil hcap hsz hs h1 hc =>
    by_cases hcl : cap = l
    · rw [if_pos hcl]
      have hz : hh - l = 0 := by omega
      rw [hz]
      exact .ro _ _ _ _ _ _ (fun _ => rfl) ⟨Nat.zero_le _, Nat.zero_le _⟩ (fun i hi => by omega) (fun i j hi => by omega) (fun k v hk => by simp at hk) (fun i j c v hi => by omega)
    · rw [if_neg hcl]
      have hcell : ∀ k, hcell h (ad.map (·.add (l * sz))) k = hcell h ad (l * sz + k) := by
        intro k
        cases ad with
        | none => rfl
        | some ad => simp only [Option.map_some, Av.hcell, add_add']
      have hidx : ∀ i j, l * sz + (i * sz + j) = (l + i) * sz + j := fun i j => by rw [Nat.add_mul]; omega
      refine .ro _ _ _ _ _ _ (fun e => ?_) ⟨by omega, by omega⟩ (fun i hi => hsz _ (by omega)) (fun i j hi hj => ?_) (fun k v hk hv => ?_) (fun i j c v hi hj hv => ?_)
      · cases ad with
        | none => have := hnil rfl; omega
        | some _ => cases e
      · rw [hcell, hidx]; exact hs _ _ (by omega) hj
      · rw [hcell] at hv
        refine h1 _ v ?_ hv
        have : (hh - l) * sz + l * sz ≤ n * sz := by rw [← Nat.add_mul]; exact Nat.mul_le_mul_right _ (by omega)
        omega
      · rw [hcell, hidx] at hv
        exact hc _ _ c v (by omega) hj hv
theorem ro_slice {sz n : Nat} {el : Nat → List AV} {v : Value} (H : Rel h ρ (.ro sz n el) v) : ∃ ad cap, v = .slice ad n cap ∧ n ≤ cap := by
  cases H with
  | ro _ _ _ _ ad cap _ hcap _ _ _ _ => exact ⟨ad, cap, rfl, hcap.1⟩
theorem run_sliceBound {i : Int} {y : Nat} {code : BoundsCode} (hi : 0 ≤ i ∧ i ≤ (y : Int)) (w : World) : (Instr.sliceBound (.int .i64 i) y code).run P w = .ok i.toNat w := by
  simp only [Instr.sliceBound, asIntOf, Sem.run_bind, Sem.run_pure, Result.andThen_ok]
  rw [if_pos hi]; rfl
theorem ev_slice (hΓ : TysOk P Γ) (I : InvH N C h ρ F M g a w) {t : TypeId} {x : Operand} {lo hi : Option Operand} (ho : o.op = .slice t x lo hi none) {val : Operand → AV} (hv : ∀ y, y ∈ o.op.operands → Rel h ρ (val y) (a.eval y)) {r : R}
    (hr : evSlice Γ t (val x) (optV val lo) (optV val hi) = some r) (hc : ∀ q, r.cs = some q → q) : Good P N C h ρ F M g a o w r := by
  unfold evSlice at hr
  cases hT : tyOf Γ t with
  | none => simp [hT] at hr
  | some T =>
  simp only [hT] at hr
  cases hd : T.d <;> simp only [hd] at hr <;> (try (cases hr; done))
  rename_i e
  cases hE : tyOf Γ e with
  | none => simp [hE] at hr
  | some E =>
  simp only [hE] at hr
  have hu := (hΓ t T hT).und_slice hd
  have hEy := hΓ e E hE
  have hx : Rel h ρ (val x) (a.eval x) := hv x (by rw [ho]; simp [Op.operands])
  cases hvx : val x <;> simp only [hvx] at hr <;> (try (cases hr; done))
  rename_i sz n el
  cases hb : Nat.beq sz E.size with
  | false => simp [hb] at hr
  | true =>
  simp only [hb] at hr
  have hsz := Nat.eq_of_beq_eq_true hb
  rw [hvx] at hx
  obtain ⟨ad, cap, hax, hcap⟩ := ro_slice hx
  rw [hax] at hx
  -- the run, once the bounds are known
  have fin : ∀ (l hh : Nat) (lv hv' : Option Value), l ≤ hh → hh ≤ n → (Instr.sliceBounds true n cap lv hv' none).run P w = .ok (l, hh, cap) w → lo.map a.eval = lv → hi.map a.eval = hv' →
      ∀ el', (∀ k, el' k = el (l + k)) → ∀ n', n' = hh - l → ∀ q, Good P N C h ρ F M g a o w ⟨.ro sz n' el', [], [], q, none⟩ := by
    intro l hh lv hv' hlh hhn hrun h1 h2 el' hel n' hn' q
    have hrel := rel_sub hx hlh hhn
    have hel' : el' = fun k => el (l + k) := funext hel
    rw [hel', hn']
    refine Good.same I (.inl ?_) rfl hrel
    unfold execOp
    simp only [ho, hax, h1, h2, Instr.sliceAt, Instr.slice, Sem.run_bind, run_underlying hu, Result.andThen_ok, hrun, hEy.runSize w, Sem.run_pure, Option.map_none, ← hsz]
  have hlo : ∀ y, lo = some y → Rel h ρ (val y) (a.eval y) := fun y hy => hv y (by rw [ho, hy]; cases hi <;> simp [Op.operands])
  have hhi : ∀ y, hi = some y → Rel h ρ (val y) (a.eval y) := fun y hy => hv y (by rw [ho, hy]; cases lo <;> simp [Op.operands])
  cases lo with
  | none =>
    cases hi with
    | none =>
      simp only [optV] at hr
      cases hr
      exact fin 0 n none none (Nat.zero_le _) (Nat.le_refl _) (by simp [Instr.sliceBounds]) rfl rfl el (fun k => by simp) n (by omega) none
    | some y =>
      have hy := hhi y rfl
      simp only [optV] at hr
      cases hvy : val y <;> simp only [hvy] at hr <;> (try (cases hr; done))
      rename_i kk b
      cases kk <;> (try simp only [] at hr) <;> (try (cases hr; done))
      cases hr
      obtain ⟨q1, q2⟩ : 0 ≤ b ∧ b ≤ (n : Int) := hc _ rfl
      rw [hvy] at hy
      generalize hye : a.eval y = yv at hy
      cases hy
      exact fin 0 b.toNat none (some (.int .i64 b)) (Nat.zero_le _) (by omega) (by
        simp only [Instr.sliceBounds, Sem.run_bind, Sem.run_pure, Result.andThen_ok, run_sliceBound (P := P) (i := b) (y := cap) ⟨q1, by omega⟩]) rfl (by simp [hye]) el (fun k => by simp) _ (by omega) _
  | some z =>
    have hz := hlo z rfl
    cases hi with
    | none =>
      simp only [optV] at hr
      cases hvz : val z <;> simp only [hvz] at hr <;> (try (cases hr; done))
      rename_i kk b
      cases kk <;> (try simp only [] at hr) <;> (try (cases hr; done))
      cases hr
      obtain ⟨q1, q2⟩ : 0 ≤ b ∧ b ≤ (n : Int) := hc _ rfl
      rw [hvz] at hz
      generalize hze : a.eval z = zv at hz
      cases hz
      exact fin b.toNat n (some (.int .i64 b)) none (by omega) (Nat.le_refl _) (by
        simp only [Instr.sliceBounds, Sem.run_bind, Sem.run_pure, Result.andThen_ok, run_sliceBound (P := P) (i := b) (y := n) ⟨q1, q2⟩]) (by simp [hze]) rfl _ (fun k => rfl) _ rfl _
    | some y =>
      have hy := hhi y rfl
      simp only [optV] at hr
      cases hvz : val z <;> simp only [hvz] at hr <;> (try (cases hr; done))
      rename_i kk b
      cases kk <;> (try simp only [] at hr) <;> (try (cases hr; done))
      cases hvy : val y <;> simp only [hvy] at hr <;> (try (cases hr; done))
      rename_i kk c
      cases kk <;> (try simp only [] at hr) <;> (try (cases hr; done))
      cases hr
      obtain ⟨q1, q2, q3⟩ : 0 ≤ b ∧ b ≤ c ∧ c ≤ (n : Int) := hc _ rfl
      rw [hvz] at hz
      rw [hvy] at hy
      generalize hze : a.eval z = zv at hz
      generalize hye : a.eval y = yv at hy
      cases hz; cases hy
      exact fin b.toNat c.toNat (some (.int .i64 b)) (some (.int .i64 c)) (by omega) (by omega) (by
        simp only [Instr.sliceBounds, Sem.run_bind, Sem.run_pure, Result.andThen_ok, run_sliceBound (P := P) (i := c) (y := cap) ⟨by omega, by omega⟩, run_sliceBound (P := P) (i := b) (y := c.toNat) ⟨q1, by omega⟩]) (by simp [hze]) (by simp [hye]) _ (fun k => rfl) _ rfl _
theorem execOp_builtin {a : Act} {o : Oper} {b : Builtin} {args : Array Operand} {ts : Array TypeId} (ho : o.op = .call { callee := .builtin b, args := args, argTypes := ts }) {v : Value} {w w' : World}
    (hr : (builtin b ts o.type (args.map fun | .const _ => true | _ => false) (args.map a.eval)).run P w = .ok (.value v) w') : (execOp a.eval o).run P w = .ok (.value v) w' := by
  unfold execOp
  simp only [ho, resolve, invoke, Sem.run_bind, Sem.run_pure, Result.andThen_ok]
  exact hr
theorem run_len {t : TypeId} {T : TyD} (hT : TyOk P t T) {x : Value} {n : Int} (ty : TypeId) (ts : Array TypeId) (hts : ts[0]? = some t)
    (hx : (∃ e, T.d = .slice e ∧ ∃ ad cap, ∃ k : Nat, n = k ∧ x = .slice ad k cap) ∨ (∃ k e, T.d = .map k e ∧ ((x = .map none ∧ n = 0) ∨ ∃ r es cl, x = .map (some r) ∧ w.heap[r]? = some (.map es cl) ∧ n = (es.size : Int)))) :
    (Builtin.len_ ts ty #[x]).run P w = .ok (.int .i64 n) w := by
  rcases hx with ⟨e, hd, ad, cap, k, rfl, rfl⟩ | ⟨k, e, hd, ⟨rfl, rfl⟩ | ⟨r, es, cl, rfl, hb, rfl⟩⟩
  · have hu := hT.und_slice hd
    simp [Builtin.len_, hts, run_underlying hu, goInt]
  · have hu := hT.und_map hd
    simp [Builtin.len_, hts, run_underlying hu, goInt]
  · have hu := hT.und_map hd
    simp only [Builtin.len_, hts, List.getElem?_toArray, List.getElem?_cons_zero, Sem.run_bind, run_underlying hu, Result.andThen_ok, MapKept.run_getObj_map hb, Sem.run_pure, goInt]
theorem maxes_run {xs : List AV} : ∀ {vs : List Value} {p m : Int}, maxes p xs = some m → RelL h ρ xs vs → (vs.foldlM Builtin.max2 (.int .i64 p)).run P w = .ok (.int .i64 m) w := by
  induction xs with
  | nil =>
    intro vs p m hm H
    have : vs = [] := List.eq_nil_of_length_eq_zero (by simpa using H.1)
    subst this
    simp [maxes] at hm; subst hm; rfl
  | cons x xs ih =>
    intro vs p m hm H
    obtain ⟨v, r, rfl, hv, hr⟩ := H.inv_cons
    cases x <;> (try simp only [maxes] at hm) <;> (try (cases hm; done))
    rename_i kk b
    cases kk <;> (try simp only [maxes] at hm) <;> (try (cases hm; done))
    cases hv
    have h2 : (Builtin.max2 (.int .i64 p) (.int .i64 b)).run P w = .ok (.int .i64 (max p b)) w := by
      simp only [Builtin.max2, Sem.run_pure]
      congr 2
      split <;> omega
    rw [List.foldlM_cons, Sem.run_bind, h2, Result.andThen_ok]
    exact ih hm hr
theorem mines_run {xs : List AV} : ∀ {vs : List Value} {p m : Int}, mines p xs = some m → RelL h ρ xs vs → (vs.foldlM Builtin.min2 (.int .i64 p)).run P w = .ok (.int .i64 m) w := by
  induction xs with
  | nil =>
    intro vs p m hm H
    have : vs = [] := List.eq_nil_of_length_eq_zero (by simpa using H.1)
    subst this
    simp [mines] at hm; subst hm; rfl
  | cons x xs ih =>
    intro vs p m hm H
    obtain ⟨v, r, rfl, hv, hr⟩ := H.inv_cons
    cases x <;> (try simp only [mines] at hm) <;> (try (cases hm; done))
    rename_i kk b
    cases kk <;> (try simp only [mines] at hm) <;> (try (cases hm; done))
    cases hv
    have h2 : (Builtin.min2 (.int .i64 p) (.int .i64 b)).run P w = .ok (.int .i64 (min p b)) w := by
      simp only [Builtin.min2, Sem.run_pure]
      congr 2
      split <;> omega
    rw [List.foldlM_cons, Sem.run_bind, h2, Result.andThen_ok]
    exact ih hm hr
theorem mapAV_rel {val : Operand → AV} : ∀ (xs : List Operand), (∀ x ∈ xs, Rel h ρ (val x) (a.eval x)) → RelL h ρ (mapAV val xs) (xs.map a.eval)
  | [], _ => RelL.nil _ _
  | x :: xs, hx => RelL.cons (hx x (by simp)) (mapAV_rel xs (fun y hy => hx y (by simp [hy])))
theorem mapAV_map {val : Operand → AV} : ∀ (xs : List Operand), mapAV val xs = xs.map val
  | [] => rfl
  | x :: xs => by simp [mapAV, mapAV_map xs]
theorem mem_callArgs {o : Oper} {c : Callee} {args : Array Operand} {ts : Array TypeId} (ho : o.op = .call { callee := c, args := args, argTypes := ts }) {x : Operand} (hx : x ∈ args.toList) : x ∈ o.op.operands := by
  rw [ho]
  simp only [Op.operands, Call.operands]
  exact Array.mem_append.2 (.inr (by simpa using hx))
theorem ev_len (hΓ : TysOk P Γ) (I : InvH N C h ρ F M g a w) {y : Operand} {t : TypeId} {ts : List TypeId} {args : Array Operand} {tsa : Array TypeId} (ho : o.op = .call { callee := .builtin .len, args := args, argTypes := tsa }) (hts : tsa.toList = t :: ts) (hargs : args.toList = [y])
    {x : AV} (hx : Rel h ρ x (a.eval y)) {r : R} (hr : evBuiltin Γ mg o .len (t :: ts) [x] = some r) (hm : ∀ id, id ∈ r.rd → M id = mg id) (hc : ∀ q, r.cs = some q → q) : Good P N C h ρ F M g a o w r := by
  have ha : args.map a.eval = #[a.eval y] := by
    apply Array.ext'; simp [hargs]
  have ht0 : tsa[0]? = some t := by rw [← Array.getElem?_toList, hts]; rfl
  simp only [evBuiltin] at hr
  cases hT : tyOf Γ t with
  | none => simp [hT] at hr
  | some T =>
  simp only [hT] at hr
  have hTy := hΓ t T hT
  have fin : ∀ {n : Int}, (Builtin.len_ tsa o.type #[a.eval y]).run P w = .ok (.int .i64 n) w → ∀ {rd : List Nat} {q : Option Prop}, Good P N C h ρ F M g a o w ⟨.int .i64 n, rd, [], q, none⟩ := by
    intro n hrun rd q
    refine Good.same I (.inl (execOp_builtin ho ?_)) rfl (.int _ _ _)
    simp only [builtin, ha, Sem.run_bind, hrun, Result.andThen_ok, Sem.run_pure]
  cases hd : T.d <;> simp only [hd] at hr <;> (try (cases hr; done))
  case slice e =>
    have sl : ∀ {ad : Option Addr} {k cap : Nat}, a.eval y = .slice ad k cap → (Builtin.len_ tsa o.type #[a.eval y]).run P w = .ok (.int .i64 (k : Int)) w := fun he => by
      rw [he]; exact run_len hTy _ _ ht0 (.inl ⟨e, hd, _, _, _, rfl, rfl⟩)
    cases x <;> simp only [evLen] at hr <;> (try (cases hr; done))
    case nilS =>
      cases hr
      have : a.eval y = .slice none 0 0 := by generalize a.eval y = v at hx; cases hx; rfl
      exact fin (by simpa using sl this)
    case ro sz n el =>
      cases hr
      obtain ⟨ad, cap, h1, _⟩ := ro_slice hx
      exact fin (sl h1)
    case buf id n =>
      cases hg : mg id with
      | none => simp [hg] at hr
      | some bl =>
        cases bl <;> simp only [hg] at hr <;> (try (cases hr; done))
        case buf ty sz n' el =>
          cases hr
          obtain rfl := hc _ rfl
          obtain ⟨v0, us, e1, e2, _⟩ := I.blk id _ ((hm id (by simp)).trans hg)
          have he : a.eval y = v0 := by
            generalize a.eval y = v at hx
            cases hx with
            | buf _ _ _ _ _ _ _ hb hle k1 he => rw [e1] at hb; cases hb; exact he rfl
          rcases e2.2 with ⟨rfl, h0⟩ | ⟨b, cap, cur, rfl, _⟩
          · subst h0; exact fin (sl he)
          · exact fin (sl he)
        case bufk ty sz n' c el =>
          cases hr
          obtain rfl := hc _ rfl
          obtain ⟨v0, us, e1, e2, _⟩ := I.blk id _ ((hm id (by simp)).trans hg)
          have he : a.eval y = v0 := by
            generalize a.eval y = v at hx
            cases hx with
            | buf _ _ _ _ _ _ _ hb hle k1 he => rw [e1] at hb; cases hb; exact he rfl
          rcases e2.2 with ⟨rfl, h0⟩ | ⟨b, cap, cur, rfl, _⟩
          · subst h0; exact fin (sl he)
          · exact fin (sl he)
    case gb id n =>
      cases hg : mg id with
      | none => simp [hg] at hr
      | some bl =>
        cases bl <;> simp only [hg] at hr <;> (try (cases hr; done))
        rename_i tS ty sz n' m el
        cases hr
        obtain rfl := hc _ rfl
        obtain ⟨v0, rows, e1, e0, e2, _⟩ := I.blk id _ ((hm id (by simp)).trans hg)
        have he : a.eval y = v0 := by
          generalize a.eval y = v at hx
          cases hx with
          | gb _ _ _ _ _ _ hb hle k1 => rw [e1] at hb; cases hb; rfl
        rcases e2.2 with ⟨rfl, h0⟩ | ⟨b, cap, cur, rfl, _⟩
        · subst h0; exact fin (sl he)
        · exact fin (sl he)
  case map k e =>
    cases x <;> simp only [evLen] at hr <;> (try (cases hr; done))
    case nilMap =>
      cases hr
      have : a.eval y = .map none := by generalize a.eval y = v at hx; cases hx; rfl
      exact fin (by rw [this]; exact run_len hTy _ _ ht0 (.inr ⟨k, e, hd, .inl ⟨rfl, rfl⟩⟩))
    case rom z dom el n =>
      cases hr
      generalize hy : a.eval y = v at hx fin
      cases hx with
      | rom _ _ _ _ _ b es clock ks e2 _ _ e5 =>
        exact fin (run_len hTy _ _ ht0 (.inr ⟨k, e, hd, .inr ⟨b, _, _, rfl, I.hp _ _ e2, by simp [e5]⟩⟩))
    case mp id =>
      cases hg : mg id with
      | none => simp [hg] at hr
      | some bl =>
        cases bl <;> simp only [hg] at hr <;> (try (cases hr; done))
        rename_i z dom el n
        cases hr
        obtain ⟨b, es, clock, ks, e1, e2, _, _, e5, _⟩ := I.blk id _ ((hm id (by simp)).trans hg)
        generalize hy : a.eval y = v at hx fin
        cases hx with
        | mp _ _ b' hb =>
          rw [e1] at hb; cases hb
          exact fin (run_len hTy _ _ ht0 (.inr ⟨k, e, hd, .inr ⟨b, _, _, rfl, e2, by simp [e5]⟩⟩))
theorem ev_maxmin (I : InvH N C h ρ F M g a w) {b : Builtin} {args : Array Operand} {tsa : Array TypeId} (ho : o.op = .call { callee := .builtin b, args := args, argTypes := tsa }) {p m : Int} {xs : List AV} (hx : RelL h ρ (.int .i64 p :: xs) (args.toList.map a.eval))
    (hb : (b = .max ∧ maxes p xs = some m) ∨ (b = .min ∧ mines p xs = some m)) : Good P N C h ρ F M g a o w (R.val (.int .i64 m)) := by
  obtain ⟨v, r, hvr, hv, hr⟩ := hx.inv_cons
  cases hv
  have ha : (args.map a.eval).toList = .int .i64 p :: r := by simpa using hvr
  refine Good.same I (.inl (execOp_builtin ho ?_)) rfl (.int _ _ _)
  rcases hb with ⟨rfl, hm⟩ | ⟨rfl, hm⟩
  · simp only [builtin, Builtin.max_, ha, Sem.run_bind, maxes_run (P := P) (w := w) hm hr, Result.andThen_ok, Sem.run_pure]
  · simp only [builtin, Builtin.min_, ha, Sem.run_bind, mines_run (P := P) (w := w) hm hr, Result.andThen_ok, Sem.run_pure]
end
end Go.Av
