/- Texts of the framework, or of the plain law, one behind another. -/
import Derived.Test.YtobffjoapdhioaaFr1
import Derived.Deep.AppendSrc
import Derived.Laws.CopyRow
import Derived.Laws.IdiomCopy
import Derived.CallsIn
/- The evaluator is right, part 9: the rest, and the whole for operations that are no calls of Go functions. -/
section
set_option linter.all false
namespace Go.Av
section
variable {P : Program} {N : Nat} {C : Ctx} {h : Hp} {ρ : Rho} {F : Fr} {M : Mm} {g : Nat} {a : Act} {w : World} {Γ : Tys} {mg : Mm} {o : Oper}
theorem rel_sub {sz n : Nat} {el : Nat → List AV} {ad : Option Addr} {cap l hh : Nat} (H : Rel h ρ (.ro sz n el) (.slice ad n cap)) (hl : l ≤ hh) (hn : hh ≤ n) :
   Rel h ρ (.ro sz (hh - l) (fun k => el (l + k))) (.slice (if cap = l then ad else ad.map (·.add (l * sz))) (hh - l) (cap - l)) := by
 cases H with
 | ro _ _ _ _ _ _ hnil hcap hsz hs h1 hc =>
   by_cases hcl : cap = l
   · rw [if_pos hcl]
     have hz : hh - l = 0 := by omega
     rw [hz]
     exact .ro _ _ _ _ _ _ (fun _ => rfl) ⟨Nat.zero_le _, Nat.zero_le _⟩ (fun i hi => by omega) (fun i j hi => by omega) (fun k v hk => by simp at hk) (fun i j c v hi => by omega)
   · rw [if_neg hcl]
     have hcell : ∀ k, hcell h (ad.map (·.add (l * sz))) k = hcell h ad (l * sz + k) := by
       intro k
       cases ad with
       | none => rfl
       | some ad => simp only [Option.map_some, Av.hcell, add_add']
     have hidx : ∀ i j, l * sz + (i * sz + j) = (l + i) * sz + j := fun i j => by rw [Nat.add_mul]; omega
     refine .ro _ _ _ _ _ _ (fun e => ?_) ⟨by omega, by omega⟩ (fun i hi => hsz _ (by omega)) (fun i j hi hj => ?_) (fun k v hk hv => ?_) (fun i j c v hi hj hv => ?_)
     · cases ad with
       | none => have := hnil rfl; omega
       | some _ => cases e
     · rw [hcell, hidx]; exact hs _ _ (by omega) hj
     · rw [hcell] at hv
       refine h1 _ v ?_ hv
       have : (hh - l) * sz + l * sz ≤ n * sz := by rw [← Nat.add_mul]; exact Nat.mul_le_mul_right _ (by omega)
       omega
     · rw [hcell, hidx] at hv
       exact hc _ _ c v (by omega) hj hv
theorem ro_slice {sz n : Nat} {el : Nat → List AV} {v : Value} (H : Rel h ρ (.ro sz n el) v) : ∃ ad cap, v = .slice ad n cap ∧ n ≤ cap := by
 cases H with
 | ro _ _ _ _ ad cap _ hcap _ _ _ _ => exact ⟨ad, cap, rfl, hcap.1⟩
theorem run_sliceBound {i : Int} {y : Nat} {code : BoundsCode} (hi : 0 ≤ i ∧ i ≤ (y : Int)) (w : World) : (Instr.sliceBound (.int .i64 i) y code).run P w = .ok i.toNat w := by
 simp only [Instr.sliceBound, asIntOf, Sem.run_bind, Sem.run_pure, Result.andThen_ok]
 rw [if_pos hi]; rfl
theorem ev_slice (hΓ : TysOk P Γ) (I : InvH N C h ρ F M g a w) {t : TypeId} {x : Operand} {lo hi : Option Operand} (ho : o.op = .slice t x lo hi none) {val : Operand → AV} (hv : ∀ y, y ∈ o.op.operands → Rel h ρ (val y) (a.eval y)) {r : R}
   (hr : evSlice Γ t (val x) (optV val lo) (optV val hi) = some r) (hc : ∀ q, r.cs = some q → q) : Good P N C h ρ F M g a o w r := by
 unfold evSlice at hr
 cases hT : tyOf Γ t with
 | none => simp [hT] at hr
 | some T =>
 simp only [hT] at hr
 cases hd : T.d <;> simp only [hd] at hr <;> (try (cases hr; done))
 rename_i e
 cases hE : tyOf Γ e with
 | none => simp [hE] at hr
 | some E =>
 simp only [hE] at hr
 have hu := (hΓ t T hT).und_slice hd
 have hEy := hΓ e E hE
 have hx : Rel h ρ (val x) (a.eval x) := hv x (by rw [ho]; simp [Op.operands])
 cases hvx : val x <;> simp only [hvx] at hr <;> (try (cases hr; done))
 rename_i sz n el
 cases hb : Nat.beq sz E.size with
 | false => simp [hb] at hr
 | true =>
 simp only [hb] at hr
 have hsz := Nat.eq_of_beq_eq_true hb
 rw [hvx] at hx
 obtain ⟨ad, cap, hax, hcap⟩ := ro_slice hx
 rw [hax] at hx
 -- the run, once the bounds are known
 have fin : ∀ (l hh : Nat) (lv hv' : Option Value), l ≤ hh → hh ≤ n → (Instr.sliceBounds true n cap lv hv' none).run P w = .ok (l, hh, cap) w → lo.map a.eval = lv → hi.map a.eval = hv' →
     ∀ el', (∀ k, el' k = el (l + k)) → ∀ n', n' = hh - l → ∀ q, Good P N C h ρ F M g a o w ⟨.ro sz n' el', [], [], q, none⟩ := by
   intro l hh lv hv' hlh hhn hrun h1 h2 el' hel n' hn' q
   have hrel := rel_sub hx hlh hhn
   have hel' : el' = fun k => el (l + k) := funext hel
   rw [hel', hn']
   refine Good.same I (.inl ?_) rfl hrel
   unfold execOp
   simp only [ho, hax, h1, h2, Instr.sliceAt, Instr.slice, Sem.run_bind, run_underlying hu, Result.andThen_ok, hrun, hEy.runSize w, Sem.run_pure, Option.map_none, ← hsz]
 have hlo : ∀ y, lo = some y → Rel h ρ (val y) (a.eval y) := fun y hy => hv y (by rw [ho, hy]; cases hi <;> simp [Op.operands])
 have hhi : ∀ y, hi = some y → Rel h ρ (val y) (a.eval y) := fun y hy => hv y (by rw [ho, hy]; cases lo <;> simp [Op.operands])
 cases lo with
 | none =>
   cases hi with
   | none =>
     simp only [optV] at hr
     cases hr
     exact fin 0 n none none (Nat.zero_le _) (Nat.le_refl _) (by simp [Instr.sliceBounds]) rfl rfl el (fun k => by simp) n (by omega) none
   | some y =>
     have hy := hhi y rfl
     simp only [optV] at hr
     cases hvy : val y <;> simp only [hvy] at hr <;> (try (cases hr; done))
     rename_i kk b
     cases kk <;> (try simp only [] at hr) <;> (try (cases hr; done))
     cases hr
     obtain ⟨q1, q2⟩ : 0 ≤ b ∧ b ≤ (n : Int) := hc _ rfl
     rw [hvy] at hy
     generalize hye : a.eval y = yv at hy
     cases hy
     exact fin 0 b.toNat none (some (.int .i64 b)) (Nat.zero_le _) (by omega) (by
       simp only [Instr.sliceBounds, Sem.run_bind, Sem.run_pure, Result.andThen_ok, run_sliceBound (P := P) (i := b) (y := cap) ⟨q1, by omega⟩]) rfl (by simp [hye]) el (fun k => by simp) _ (by omega) _
 | some z =>
   have hz := hlo z rfl
   cases hi with
   | none =>
     simp only [optV] at hr
     cases hvz : val z <;> simp only [hvz] at hr <;> (try (cases hr; done))
     rename_i kk b
     cases kk <;> (try simp only [] at hr) <;> (try (cases hr; done))
     cases hr
     obtain ⟨q1, q2⟩ : 0 ≤ b ∧ b ≤ (n : Int) := hc _ rfl
     rw [hvz] at hz
     generalize hze : a.eval z = zv at hz
     cases hz
     exact fin b.toNat n (some (.int .i64 b)) none (by omega) (Nat.le_refl _) (by
       simp only [Instr.sliceBounds, Sem.run_bind, Sem.run_pure, Result.andThen_ok, run_sliceBound (P := P) (i := b) (y := n) ⟨q1, q2⟩]) (by simp [hze]) rfl _ (fun k => rfl) _ rfl _
   | some y =>
     have hy := hhi y rfl
     simp only [optV] at hr
     cases hvz : val z <;> simp only [hvz] at hr <;> (try (cases hr; done))
     rename_i kk b
     cases kk <;> (try simp only [] at hr) <;> (try (cases hr; done))
     cases hvy : val y <;> simp only [hvy] at hr <;> (try (cases hr; done))
     rename_i kk c
     cases kk <;> (try simp only [] at hr) <;> (try (cases hr; done))
     cases hr
     obtain ⟨q1, q2, q3⟩ : 0 ≤ b ∧ b ≤ c ∧ c ≤ (n : Int) := hc _ rfl
     rw [hvz] at hz
     rw [hvy] at hy
     generalize hze : a.eval z = zv at hz
     generalize hye : a.eval y = yv at hy
     cases hz; cases hy
     exact fin b.toNat c.toNat (some (.int .i64 b)) (some (.int .i64 c)) (by omega) (by omega) (by
       simp only [Instr.sliceBounds, Sem.run_bind, Sem.run_pure, Result.andThen_ok, run_sliceBound (P := P) (i := c) (y := cap) ⟨by omega, by omega⟩, run_sliceBound (P := P) (i := b) (y := c.toNat) ⟨q1, by omega⟩]) (by simp [hze]) (by simp [hye]) _ (fun k => rfl) _ rfl _
theorem execOp_builtin {a : Act} {o : Oper} {b : Builtin} {args : Array Operand} {ts : Array TypeId} (ho : o.op = .call { callee := .builtin b, args := args, argTypes := ts }) {v : Value} {w w' : World}
   (hr : (builtin b ts o.type (args.map fun | .const _ => true | _ => false) (args.map a.eval)).run P w = .ok (.value v) w') : (execOp a.eval o).run P w = .ok (.value v) w' := by
 unfold execOp
 simp only [ho, resolve, invoke, Sem.run_bind, Sem.run_pure, Result.andThen_ok]
 exact hr
theorem run_len {t : TypeId} {T : TyD} (hT : TyOk P t T) {x : Value} {n : Int} (ty : TypeId) (ts : Array TypeId) (hts : ts[0]? = some t)
   (hx : (∃ e, T.d = .slice e ∧ ∃ ad cap, ∃ k : Nat, n = k ∧ x = .slice ad k cap) ∨ (∃ k e, T.d = .map k e ∧ ((x = .map none ∧ n = 0) ∨ ∃ r es cl, x = .map (some r) ∧ w.heap[r]? = some (.map es cl) ∧ n = (es.size : Int)))) :
   (Builtin.len_ ts ty #[x]).run P w = .ok (.int .i64 n) w := by
 rcases hx with ⟨e, hd, ad, cap, k, rfl, rfl⟩ | ⟨k, e, hd, ⟨rfl, rfl⟩ | ⟨r, es, cl, rfl, hb, rfl⟩⟩
 · have hu := hT.und_slice hd
   simp [Builtin.len_, hts, run_underlying hu, goInt]
 · have hu := hT.und_map hd
   simp [Builtin.len_, hts, run_underlying hu, goInt]
 · have hu := hT.und_map hd
   simp only [Builtin.len_, hts, List.getElem?_toArray, List.getElem?_cons_zero, Sem.run_bind, run_underlying hu, Result.andThen_ok, MapKept.run_getObj_map hb, Sem.run_pure, goInt]
theorem maxes_run {xs : List AV} : ∀ {vs : List Value} {p m : Int}, maxes p xs = some m → RelL h ρ xs vs → (vs.foldlM Builtin.max2 (.int .i64 p)).run P w = .ok (.int .i64 m) w := by
 induction xs with
 | nil =>
   intro vs p m hm H
   have : vs = [] := List.eq_nil_of_length_eq_zero (by simpa using H.1)
   subst this
   simp [maxes] at hm; subst hm; rfl
 | cons x xs ih =>
   intro vs p m hm H
   obtain ⟨v, r, rfl, hv, hr⟩ := H.inv_cons
   cases x <;> (try simp only [maxes] at hm) <;> (try (cases hm; done))
   rename_i kk b
   cases kk <;> (try simp only [maxes] at hm) <;> (try (cases hm; done))
   cases hv
   have h2 : (Builtin.max2 (.int .i64 p) (.int .i64 b)).run P w = .ok (.int .i64 (max p b)) w := by
     simp only [Builtin.max2, Sem.run_pure]
     congr 2
     split <;> omega
   rw [List.foldlM_cons, Sem.run_bind, h2, Result.andThen_ok]
   exact ih hm hr
theorem mines_run {xs : List AV} : ∀ {vs : List Value} {p m : Int}, mines p xs = some m → RelL h ρ xs vs → (vs.foldlM Builtin.min2 (.int .i64 p)).run P w = .ok (.int .i64 m) w := by
 induction xs with
 | nil =>
   intro vs p m hm H
   have : vs = [] := List.eq_nil_of_length_eq_zero (by simpa using H.1)
   subst this
   simp [mines] at hm; subst hm; rfl
 | cons x xs ih =>
   intro vs p m hm H
   obtain ⟨v, r, rfl, hv, hr⟩ := H.inv_cons
   cases x <;> (try simp only [mines] at hm) <;> (try (cases hm; done))
   rename_i kk b
   cases kk <;> (try simp only [mines] at hm) <;> (try (cases hm; done))
   cases hv
   have h2 : (Builtin.min2 (.int .i64 p) (.int .i64 b)).run P w = .ok (.int .i64 (min p b)) w := by
     simp only [Builtin.min2, Sem.run_pure]
     congr 2
     split <;> omega
   rw [List.foldlM_cons, Sem.run_bind, h2, Result.andThen_ok]
   exact ih hm hr
theorem mapAV_rel {val : Operand → AV} : ∀ (xs : List Operand), (∀ x ∈ xs, Rel h ρ (val x) (a.eval x)) → RelL h ρ (mapAV val xs) (xs.map a.eval)
 | [], _ => RelL.nil _ _
 | x :: xs, hx => RelL.cons (hx x (by simp)) (mapAV_rel xs (fun y hy => hx y (by simp [hy])))
theorem mapAV_map {val : Operand → AV} : ∀ (xs : List Operand), mapAV val xs = xs.map val
 | [] => rfl
 | x :: xs => by simp [mapAV, mapAV_map xs]
theorem mem_callArgs {o : Oper} {c : Callee} {args : Array Operand} {ts : Array TypeId} (ho : o.op = .call { callee := c, args := args, argTypes := ts }) {x : Operand} (hx : x ∈ args.toList) : x ∈ o.op.operands := by
 rw [ho]
 simp only [Op.operands, Call.operands]
 exact Array.mem_append.2 (.inr (by simpa using hx))
theorem ev_len (hΓ : TysOk P Γ) (I : InvH N C h ρ F M g a w) {y : Operand} {t : TypeId} {ts : List TypeId} {args : Array Operand} {tsa : Array TypeId} (ho : o.op = .call { callee := .builtin .len, args := args, argTypes := tsa }) (hts : tsa.toList = t :: ts) (hargs : args.toList = [y])
   {x : AV} (hx : Rel h ρ x (a.eval y)) {r : R} (hr : evBuiltin Γ mg o .len (t :: ts) [x] = some r) (hm : ∀ id, id ∈ r.rd → M id = mg id) (hc : ∀ q, r.cs = some q → q) : Good P N C h ρ F M g a o w r := by
 have ha : args.map a.eval = #[a.eval y] := by
   apply Array.ext'; simp [hargs]
 have ht0 : tsa[0]? = some t := by rw [← Array.getElem?_toList, hts]; rfl
 simp only [evBuiltin] at hr
 cases hT : tyOf Γ t with
 | none => simp [hT] at hr
 | some T =>
 simp only [hT] at hr
 have hTy := hΓ t T hT
 have fin : ∀ {n : Int}, (Builtin.len_ tsa o.type #[a.eval y]).run P w = .ok (.int .i64 n) w → ∀ {rd : List Nat} {q : Option Prop}, Good P N C h ρ F M g a o w ⟨.int .i64 n, rd, [], q, none⟩ := by
   intro n hrun rd q
   refine Good.same I (.inl (execOp_builtin ho ?_)) rfl (.int _ _ _)
   simp only [builtin, ha, Sem.run_bind, hrun, Result.andThen_ok, Sem.run_pure]
 cases hd : T.d <;> simp only [hd] at hr <;> (try (cases hr; done))
 case slice e =>
   have sl : ∀ {ad : Option Addr} {k cap : Nat}, a.eval y = .slice ad k cap → (Builtin.len_ tsa o.type #[a.eval y]).run P w = .ok (.int .i64 (k : Int)) w := fun he => by
     rw [he]; exact run_len hTy _ _ ht0 (.inl ⟨e, hd, _, _, _, rfl, rfl⟩)
   cases x <;> simp only [evLen] at hr <;> (try (cases hr; done))
   case nilS =>
     cases hr
     have : a.eval y = .slice none 0 0 := by generalize a.eval y = v at hx; cases hx; rfl
     exact fin (by simpa using sl this)
   case ro sz n el =>
     cases hr
     obtain ⟨ad, cap, h1, _⟩ := ro_slice hx
     exact fin (sl h1)
   case buf id n =>
     cases hg : mg id with
     | none => simp [hg] at hr
     | some bl =>
       cases bl <;> simp only [hg] at hr <;> (try (cases hr; done))
       case buf ty sz n' el =>
         cases hr
         obtain rfl := hc _ rfl
         obtain ⟨v0, us, e1, e2, _⟩ := I.blk id _ ((hm id (by simp)).trans hg)
         have he : a.eval y = v0 := by
           generalize a.eval y = v at hx
           cases hx with
           | buf _ _ _ _ _ _ _ hb hle k1 he => rw [e1] at hb; cases hb; exact he rfl
         rcases e2.2 with ⟨rfl, h0⟩ | ⟨b, cap, cur, rfl, _⟩
         · subst h0; exact fin (sl he)
         · exact fin (sl he)
       case bufk ty sz n' c el =>
         cases hr
         obtain rfl := hc _ rfl
         obtain ⟨v0, us, e1, e2, _⟩ := I.blk id _ ((hm id (by simp)).trans hg)
         have he : a.eval y = v0 := by
           generalize a.eval y = v at hx
           cases hx with
           | buf _ _ _ _ _ _ _ hb hle k1 he => rw [e1] at hb; cases hb; exact he rfl
         rcases e2.2 with ⟨rfl, h0⟩ | ⟨b, cap, cur, rfl, _⟩
         · subst h0; exact fin (sl he)
         · exact fin (sl he)
   case gb id n =>
     cases hg : mg id with
     | none => simp [hg] at hr
     | some bl =>
       cases bl <;> simp only [hg] at hr <;> (try (cases hr; done))
       rename_i tS ty sz n' m el
       cases hr
       obtain rfl := hc _ rfl
       obtain ⟨v0, rows, e1, e0, e2, _⟩ := I.blk id _ ((hm id (by simp)).trans hg)
       have he : a.eval y = v0 := by
         generalize a.eval y = v at hx
         cases hx with
         | gb _ _ _ _ _ hb hgg k1 => rw [e1] at hb; cases hb; exact (hgg _ _ _ rfl).2 e0.symm
       rcases e2.2 with ⟨rfl, h0⟩ | ⟨b, cap, cur, rfl, _⟩
       · subst h0; exact fin (sl he)
       · exact fin (sl he)
   case gr' id i k =>
     cases hg : mg id with
     | none => simp [hg] at hr
     | some bl =>
       cases bl <;> simp only [hg] at hr <;> (try (cases hr; done))
       rename_i tS ty sz n m el
       cases hr
       obtain ⟨rfl, hin⟩ := hc _ rfl
       obtain ⟨v0, rows, e1, e0, e2, e4, _⟩ := I.blk id _ ((hm id (by simp)).trans hg)
       obtain ⟨m', v', g1, g2, g3⟩ : ∃ m' v', rows[i]? = some (m', v') ∧ m i ≤ m' ∧ (m i = m' → a.eval y = v') := by
         generalize a.eval y = v at hx
         cases hx with
         | gr' _ _ _ _ _ _ hb hgg k1 => rw [e1] at hb; cases hb; exact hgg _ _ _ rfl
       obtain ⟨q0, _, xs, q2, _⟩ := e4 i _ g1
       simp only at q0 q2
       subst q0
       have he := g3 rfl
       rcases q2.2 with ⟨rfl, h0⟩ | ⟨b, cap, cur, rfl, _⟩
       · have := sl he; rw [h0] at *; exact fin this
       · exact fin (sl he)
 case map k e =>
   cases x <;> simp only [evLen] at hr <;> (try (cases hr; done))
   case nilMap =>
     cases hr
     have : a.eval y = .map none := by generalize a.eval y = v at hx; cases hx; rfl
     exact fin (by rw [this]; exact run_len hTy _ _ ht0 (.inr ⟨k, e, hd, .inl ⟨rfl, rfl⟩⟩))
   case rom z dom el n =>
     cases hr
     generalize hy : a.eval y = v at hx fin
     cases hx with
     | rom _ _ _ _ _ b es clock ks e2 _ _ e5 =>
       exact fin (run_len hTy _ _ ht0 (.inr ⟨k, e, hd, .inr ⟨b, _, _, rfl, I.hp _ _ e2, by simp [e5]⟩⟩))
   case mp id =>
     cases hg : mg id with
     | none => simp [hg] at hr
     | some bl =>
       cases bl <;> simp only [hg] at hr <;> (try (cases hr; done))
       rename_i z dom el n
       cases hr
       obtain ⟨b, es, clock, ks, e1, e2, _, _, e5, _⟩ := I.blk id _ ((hm id (by simp)).trans hg)
       generalize hy : a.eval y = v at hx fin
       cases hx with
       | mp _ _ b' hb =>
         rw [e1] at hb; cases hb
         exact fin (run_len hTy _ _ ht0 (.inr ⟨k, e, hd, .inr ⟨b, _, _, rfl, e2, by simp [e5]⟩⟩))
theorem ev_maxmin (I : InvH N C h ρ F M g a w) {b : Builtin} {args : Array Operand} {tsa : Array TypeId} (ho : o.op = .call { callee := .builtin b, args := args, argTypes := tsa }) {p m : Int} {xs : List AV} (hx : RelL h ρ (.int .i64 p :: xs) (args.toList.map a.eval))
   (hb : (b = .max ∧ maxes p xs = some m) ∨ (b = .min ∧ mines p xs = some m)) : Good P N C h ρ F M g a o w (R.val (.int .i64 m)) := by
 obtain ⟨v, r, hvr, hv, hr⟩ := hx.inv_cons
 cases hv
 have ha : (args.map a.eval).toList = .int .i64 p :: r := by simpa using hvr
 refine Good.same I (.inl (execOp_builtin ho ?_)) rfl (.int _ _ _)
 rcases hb with ⟨rfl, hm⟩ | ⟨rfl, hm⟩
 · simp only [builtin, Builtin.max_, ha, Sem.run_bind, maxes_run (P := P) (w := w) hm hr, Result.andThen_ok, Sem.run_pure]
 · simp only [builtin, Builtin.min_, ha, Sem.run_bind, mines_run (P := P) (w := w) hm hr, Result.andThen_ok, Sem.run_pure]
end
end Go.Av
end
/- The evaluator is right: slices of slices that are all owned. -/
section
set_option linter.all false
namespace Go.Av
section
variable {P : Program} {N : Nat} {C : Ctx} {h : Hp} {ρ : Rho} {F : Fr} {M : Mm} {g : Nat} {a : Act} {w : World} {Γ : Tys} {mg : Mm} {o : Oper}
theorem ownsRow_store {ty sz n b cap : Nat} {xs : List Value} (H : w.ownsRow 0 ty sz (.slice (some ⟨b, 0, none⟩) n cap) n xs) (off : Nat) (ys : List Value) (hfit : off + ys.length ≤ n * sz) :
   ∃ cur : Array Value, w.heap[b]? = some (.cells cur ty (0, 0)) ∧ off + ys.length ≤ cur.size ∧
     (w.setRow b (cur.toList.take off ++ ys ++ cur.toList.drop (off + ys.length)).toArray).ownsRow 0 ty sz (.slice (some ⟨b, 0, none⟩) n cap) n (xs.take off ++ ys ++ xs.drop (off + ys.length)) := by
 obtain ⟨q1, q2⟩ := H
 rcases q2 with ⟨q2, _⟩ | ⟨b', cap', cur, q2, _, q3, q4, q5, q6, q7⟩
 · cases q2
 cases q2
 have hcapsz : n * sz ≤ cap * sz := Nat.mul_le_mul_right _ q4
 have hfit2 : off + ys.length ≤ cur.toList.length := by simp [q6]; omega
 refine ⟨cur, q3, by simpa using hfit2, ?_, .inr ⟨b, cap, _, rfl, Nat.zero_le _, setRow_heap w b _ _ ty _ q3, q4, q5, ?_, ?_⟩⟩
 · rw [seg_len _ _ _ (by omega)]; exact q1
 · have := seg_len cur.toList ys off hfit2
   simp only [List.size_toArray]
   rw [this]; simpa using q6
 · apply List.ext_getElem?
   intro k
   rw [List.getElem?_take, seg_get _ _ _ hfit2, seg_get xs ys off (by omega)]
   by_cases hk : k < n * sz
   · have : xs[k]? = cur.toList[k]? := by rw [← q7, List.getElem?_take, if_pos hk]
     rw [if_pos hk, this]
   · have : xs[k]? = none := by simp; omega
     rw [if_neg hk, if_neg (by omega), this]
theorem InvH.turnGrid (I : InvH N C h ρ F M g a w) {id : Nat} {li : LI} {w' : World} (hb : ρ id = some li) (x : Blk) (hos : w'.os = w.os) (htape : w'.tape = w.tape) (hout : w'.output = w.output) (hsz : w'.heap.size = w.heap.size)
   (hk : ∀ k, ¬ li.owns k → w'.heap[k]? = w.heap[k]?) (hx : BlkOk h ρ id x w') : InvH N C h ρ F (upd M id (some x)) g a w' := by
 refine I.step (S := fun i => i = id) hos htape hout (by omega) (fun k _ hne => hk k (fun e => hne id _ rfl hb e)) (fun _ _ => rfl) (hle_refl ρ) (fun _ _ h => h) (fun _ _ h => .inl h)
   (fun i hi => upd_other _ _ hi) ?_ ?_ ?_ ?_
 · rintro i rfl hM; rw [upd_same] at hM; cases hM
 · rintro i y rfl hM; rw [upd_same] at hM; cases hM; exact hx
 · rintro i l c rfl h1 h2; exact .inl ⟨i, l, rfl, h1, h2⟩
 · rintro i i' l l' c rfl rfl _ _ _ _; rfl
theorem ev_indexAddr_gb (hΓ : TysOk P Γ) (I : InvH N C h ρ F M g a w) {t : TypeId} {p i : Operand} (ho : o.op = .indexAddr t p i) {T : TyD} (hT : tyOf Γ t = some T) {e : TypeId} (hd : T.d = .slice e)
   {E : TyD} (hE : tyOf Γ e = some E) {id n : Nat} (hx : Rel h ρ (.gb id n) (a.eval p)) {tS ty sz n' : Nat} {m : Nat → Nat} {el : Nat → Nat → List AV} (hm : M id = some (.grid tS ty sz n' m el)) (hsz : 1 = E.size) {q : Int} (hi : Rel h ρ (.int .i64 q) (a.eval i)) (hq : n = n' ∧ 0 ≤ q ∧ q < (n' : Int)) :
   Good P N C h ρ F M g a o w ⟨.gp id n' q.toNat, [id], [], some (n = n' ∧ 0 ≤ q ∧ q < (n' : Int)), none⟩ := by
 obtain ⟨rfl, hq⟩ := hq
 have hu := (hΓ t T hT).und_slice hd
 obtain ⟨v0, rows, e1, e2, e3, _⟩ := I.blk id _ hm
 generalize hp : a.eval p = pv at hx
 generalize hj : a.eval i = iv at hi
 cases hi
 cases hx with
 | gb _ _ _ li v hb hgg h1 =>
   rw [e1] at hb; cases hb
   obtain rfl := (hgg _ _ _ rfl).2 e2.symm
   rcases e3.2 with ⟨_, h0⟩ | ⟨b, cap, cur, rfl, _, q3, q4, q5, q6, q7⟩
   · omega
   refine Good.same I (x := .pointer (some ⟨b, q.toNat, none⟩)) (.inl ?_) rfl (.gp _ _ _ _ _ _ e1 (fun v1 sz1 rows1 ee => by cases ee; exact ⟨Nat.le_of_eq e2.symm, fun _ => ⟨b, cap, rfl, rfl⟩⟩))
   unfold execOp
   simp only [ho, hp, hj, Instr.indexAt, asIntOf, Sem.run_bind, run_underlying hu, Result.andThen_ok, Sem.run_pure]
   rw [if_pos hq]
   simp only [Sem.run_bind, (hΓ _ E hE).runSize w, Result.andThen_ok, Sem.run_pure, Addr.add_lit, Nat.zero_add, ← hsz, Nat.mul_one]
theorem ev_indexAddr_gr (hΓ : TysOk P Γ) (I : InvH N C h ρ F M g a w) {t : TypeId} {p i : Operand} (ho : o.op = .indexAddr t p i) {T : TyD} (hT : tyOf Γ t = some T) {e : TypeId} (hd : T.d = .slice e)
   {E : TyD} (hE : tyOf Γ e = some E) {id i0 k : Nat} (hx : Rel h ρ (.gr' id i0 k) (a.eval p)) {tS ty sz n' : Nat} {m : Nat → Nat} {el : Nat → Nat → List AV} (hm : M id = some (.grid tS ty sz n' m el)) (hsz : sz = E.size) {q : Int} (hi : Rel h ρ (.int .i64 q) (a.eval i)) (hq : k = m i0 ∧ i0 < n' ∧ 0 ≤ q ∧ q < (m i0 : Int)) :
   Good P N C h ρ F M g a o w ⟨.ge id i0 k q.toNat 0, [id], [], some (k = m i0 ∧ i0 < n' ∧ 0 ≤ q ∧ q < (m i0 : Int)), none⟩ := by
 subst hsz
 obtain ⟨rfl, hin, hq⟩ := hq
 have hu := (hΓ t T hT).und_slice hd
 obtain ⟨v0, rows, e1, e2, e3, e4, _⟩ := I.blk id _ hm
 generalize hp : a.eval p = pv at hx
 generalize hj : a.eval i = iv at hi
 cases hi
 cases hx with
 | gr' _ _ _ _ li v hb hgg h1 =>
   rw [e1] at hb; cases hb
   obtain ⟨m', v', hi', hle, he⟩ := hgg _ _ _ rfl
   obtain ⟨q0, _, xs, q2, _⟩ := e4 i0 _ hi'
   simp only at q0 q2
   subst q0
   obtain rfl := he rfl
   rcases q2.2 with ⟨_, h0⟩ | ⟨b, cap, cur, rfl, _, q3, q4, q5, q6, q7⟩
   · omega
   refine Good.same I (x := .pointer (some ⟨b, q.toNat * E.size, none⟩)) (.inl ?_) rfl (.ge _ _ _ _ _ _ _ _ e1 ⟨_, rfl⟩ (fun v1 sz1 rows1 ee => by cases ee; exact ⟨_, _, hi', Nat.le_refl _, fun _ => ⟨b, cap, rfl, rfl⟩⟩))
   unfold execOp
   simp only [ho, hp, hj, Instr.indexAt, asIntOf, Sem.run_bind, run_underlying hu, Result.andThen_ok, Sem.run_pure]
   rw [if_pos hq]
   simp only [Sem.run_bind, (hΓ _ E hE).runSize w, Result.andThen_ok, Sem.run_pure, Addr.add_lit, Nat.zero_add]
theorem ev_store_ge (hΓ : TysOk P Γ) (I : InvH N C h ρ F M g a w) {t : TypeId} {p x : Operand} (ho : o.op = .store t p x) {T : TyD} (hT : tyOf Γ t = some T) {v : AV} (hv : Rel h ρ v (a.eval x)) {xs : List AV} (hx : cellsV v = some xs)
   (hl : xs.length = T.size) (hcl : viewC xs = true) {id i k j off : Nat} (hp : Rel h ρ (.ge id i k j off) (a.eval p)) {tS ty sz n : Nat} {m : Nat → Nat} {e : Nat → Nat → List AV} {es : List AV} (hm : M id = some (.grid tS ty sz n m e)) (hlay0 : layE off xs sz (e i j) = some es) (hne : xs ≠ [])
   (hn : k = m i ∧ i < n ∧ j < m i) : Good P N C h ρ F M g a o w ⟨.any, [id], [(id, .grid tS ty sz n m (fun a b => if a = i ∧ b = j then es else e a b))], some (k = m i ∧ i < n ∧ j < m i), none⟩ := by
 obtain ⟨rfl, hin, hj⟩ := hn
 obtain ⟨ys, h1, h2, h3⟩ := cellsV_sound hx hv
 obtain ⟨v0, rows, e1, e2, e3, e4, e5, e6⟩ := I.blk id _ hm
 generalize hp' : a.eval p = pv at hp
 cases hp with
 | ge _ _ _ _ _ _ li v hb _ hgg =>
   rw [e1] at hb; cases hb
   obtain ⟨m', v', hi, hle, he⟩ := hgg _ _ _ rfl
   obtain ⟨q0, q1, us, q2, q3, q4, q5⟩ := e4 i _ hi
   simp only at q0 q1 q2
   subst q0
   obtain ⟨b, cap, rfl, rfl⟩ := he rfl
   have hlay := layE_layN hlay0 (q3 j hj)
   obtain ⟨l1, l2, l3⟩ := layN_get hlay
   rw [if_neg hne, q3 j hj] at l2
   have hrow : j * sz + sz ≤ m i * sz := by
     calc j * sz + sz = (j + 1) * sz := by rw [Nat.add_mul, Nat.one_mul]
       _ ≤ m i * sz := Nat.mul_le_mul_right _ hj
   have hys : ys.length = xs.length := h2.1
   have hfit : j * sz + off + ys.length ≤ m i * sz := by omega
   obtain ⟨cur, c1, c2, c3⟩ := ownsRow_store q2 (j * sz + off) ys hfit
   have hrun := run_storeVar (w := w) (hΓ t T hT) h1 (by rw [h2.1, hl]) h3 (off := j * sz + off) c1 c2
   have hus : us.length = m i * sz := q2.1
   refine ⟨undef, w.setRow b (cur.toList.take (j * sz + off) ++ ys ++ cur.toList.drop (j * sz + off + ys.length)).toArray, h, ρ, .inr ⟨?_, rfl⟩, I.turnGrid e1 _ rfl rfl rfl (by simp) (fun k hk => setRow_other w b k _ (fun ee => hk (.inr ⟨_, List.mem_of_getElem? hi, by simp [Value.ownBlock, ee]⟩))) ?_, .any _ _⟩
   · unfold execOp
     simp only [ho, Instr.storeAt, hp', Instr.sureAddr, Sem.run_bind, Sem.run_pure, Result.andThen_ok, hrun]
   · refine ⟨v0, rows, e1, e2, ownsRow_same e3 (fun b' hb' => setRow_other w b b' _ (fun ee => e6 i _ b hi (by simp [Value.ownBlock]) (by rw [hb', ee]))), fun i' x' hx' => ?_, e5, e6⟩
     obtain ⟨r0, r1, xs', r2, r3, r4, r5⟩ := e4 i' x' hx'
     by_cases hii : i' = i
     · subst hii
       rw [hi] at hx'; cases hx'
       refine ⟨rfl, r1, _, c3, fun jj hjj => ?_, fun u hu => ?_, fun jj kk c u hjj hc hu => ?_⟩
       · by_cases hjk : jj = j
         · subst hjk; simp only [and_self, if_true]; rw [l1, q3 jj hjj]
         · simp only [hjk, and_false, if_false]; exact q3 jj hjj
       · rw [List.mem_append, List.mem_append] at hu
         rcases hu with (hu | hu) | hu
         · exact q4 u (List.mem_of_mem_take hu)
         · exact h3 u hu
         · exact q4 u (List.mem_of_mem_drop hu)
       · rw [seg_get _ _ _ (by omega)] at hu
         by_cases hjk : jj = j
         · subst hjk
           simp only [and_self, if_true] at hc
           rw [l3 kk] at hc
           by_cases hkk : off ≤ kk ∧ kk < off + xs.length
           · rw [if_pos hkk] at hc
             rw [if_pos (by omega), show jj * sz + kk - (jj * sz + off) = kk - off by omega] at hu
             exact (h2.2 _ c u hc hu).of_cl (clL_get (viewC_get hcl) hc)
           · rw [if_neg hkk] at hc
             rw [if_neg (by omega)] at hu
             exact q5 jj kk c u hjj hc hu
         · simp only [hjk, and_false, if_false] at hc
           have hkk : kk < sz := by rw [← q3 jj hjj]; exact (List.getElem?_eq_some_iff.1 hc).1
           have hout : ¬ (j * sz + off ≤ jj * sz + kk ∧ jj * sz + kk < j * sz + off + ys.length) := by
             rintro ⟨p1, p2⟩
             rcases Nat.lt_or_gt_of_ne hjk with hlt | hgt
             · have : jj * sz + sz ≤ j * sz := by
                 calc jj * sz + sz = (jj + 1) * sz := by rw [Nat.add_mul, Nat.one_mul]
                   _ ≤ j * sz := Nat.mul_le_mul_right _ hlt
               omega
             · have : j * sz + sz ≤ jj * sz := by
                 calc j * sz + sz = (j + 1) * sz := by rw [Nat.add_mul, Nat.one_mul]
                   _ ≤ jj * sz := Nat.mul_le_mul_right _ hgt
               omega
           rw [if_neg hout] at hu
           exact q5 jj kk c u hjj hc hu
     · refine ⟨r0, r1, xs', ownsRow_same r2 (fun b' hb' => setRow_other w b b' _ (fun ee => hii (e5 i' i _ _ b' hx' hi hb' (by simp [Value.ownBlock, ee])))), fun jj hjj => ?_, r4, fun jj kk c u hjj hc hu => ?_⟩
       · simp only [hii, false_and, if_false]; exact r3 jj hjj
       · simp only [hii, false_and, if_false] at hc; exact r5 jj kk c u hjj hc hu
theorem ev_store_gp (hΓ : TysOk P Γ) (I : InvH N C h ρ F M g a w) {t : TypeId} {p x : Operand} (ho : o.op = .store t p x) {T : TyD} (hT : tyOf Γ t = some T) (hl : 1 = T.size) {id2 k : Nat} (hv : Rel h ρ (.buf id2 k) (a.eval x))
   {id n0 i : Nat} (hp : Rel h ρ (.gp id n0 i) (a.eval p)) {tS ty sz n : Nat} {m : Nat → Nat} {e : Nat → Nat → List AV} (hm : M id = some (.grid tS ty sz n m e)) {k2 : Nat} {e2 : Nat → List AV} (hm2 : M id2 = some (.buf ty sz k2 e2)) (hne : id ≠ id2)
   (hn : n0 = n ∧ i < n ∧ k = k2 ∧ m i < k2) : Good P N C h ρ F M g a o w ⟨.any, [id, id2], [(id, .grid tS ty sz n (fun a => if a = i then k2 else m a) (fun a => if a = i then e2 else e a)), (id2, .dead)], some (n0 = n ∧ i < n ∧ k = k2 ∧ m i < k2), none⟩ := by
 obtain ⟨rfl, hin, rfl, hlt⟩ := hn
 obtain ⟨v0, rows, e1, e0, e3, e4, e5, e6⟩ := I.blk id _ hm
 obtain ⟨v2, us, f1, f2, f3, f5, f4⟩ := I.blk id2 _ hm2
 have hx : a.eval x = v2 ∧ (a.eval x).oneCell' = true := by
   generalize a.eval x = z at hv
   cases hv with
   | buf _ _ _ n2 sz2 v v' hb hle h1 he => rw [f1] at hb; cases hb; exact ⟨he rfl, h1⟩
 obtain ⟨hx1, hx2⟩ := hx
 rw [hx1] at hx2
 have hcells : v2.cells = #[v2] := by cases v2 <;> first | rfl | (simp [Value.oneCell'] at hx2)
 generalize hp' : a.eval p = pv at hp
 cases hp with
 | gp _ _ _ _ li ad hb hgg =>
   rw [e1] at hb; cases hb
   obtain ⟨b, cap, rfl, rfl⟩ := (hgg _ _ _ rfl).2 e0.symm
   have hil : i < rows.length := by omega
   obtain ⟨cur, c1, c2, c3⟩ := ownsRow_store e3 i [v2] (by simp; omega)
   have hrun := run_storeVar (w := w) (hΓ t T hT) (x := v2) (vs := [v2]) hcells (by simpa using hl) (by simpa using hx2) (off := i) c1 c2
   obtain ⟨ρ', hρ'⟩ : ∃ ρ', upd (upd ρ id (some (.grid (.slice (some ⟨b, 0, none⟩) n0 cap) sz (rows.set i (k, v2))))) id2 (some (.sl (k + 1) sz (.slice none 0 0))) = ρ' := ⟨_, rfl⟩
   have r1 : ρ' id = some (.grid (.slice (some ⟨b, 0, none⟩) n0 cap) sz (rows.set i (k, v2))) := by rw [← hρ', upd_other _ _ hne, upd_same]
   have r2 : ρ' id2 = some (.sl (k + 1) sz (.slice none 0 0)) := by rw [← hρ', upd_same]
   have r3 : ∀ j, ¬ (j = id ∨ j = id2) → ρ' j = ρ j := fun j hj => by rw [← hρ', upd_other _ _ (fun e => hj (.inr e)), upd_other _ _ (fun e => hj (.inl e))]
   have hrows : ∀ j (y : Nat × Value), (rows.set i (k, v2))[j]? = some y → (j = i ∧ y = (k, v2)) ∨ (j ≠ i ∧ rows[j]? = some y) := by
     intro j y hy
     by_cases hji : j = i
     · subst hji
       rw [List.getElem?_set_self hil] at hy; cases hy
       exact .inl ⟨rfl, rfl⟩
     · rw [List.getElem?_set_ne (Ne.symm hji)] at hy
       exact .inr ⟨hji, hy⟩
   have hown2 : ∀ bb, v2.ownBlock = some bb → ∀ li, ρ id = some li → ¬ li.owns bb := fun bb hbb li hli ho' => hne (I.inj id id2 li _ bb hli f1 ho' hbb)
   have hblk : ∀ bb, v2.ownBlock = some bb → bb ≠ b := fun bb hbb ee => hown2 bb hbb _ e1 (.inl (by simp [Value.ownBlock, ee]))
   refine ⟨undef, w.setRow b (cur.toList.take i ++ [v2] ++ cur.toList.drop (i + 1)).toArray, h, ρ', .inr ⟨?_, rfl⟩, I.step (S := fun j => j = id ∨ j = id2) (w' := w.setRow b (cur.toList.take i ++ [v2] ++ cur.toList.drop (i + 1)).toArray) rfl rfl rfl (by simp)
     (fun kk _ hk => setRow_other w b kk _ (fun ee => hk id _ (.inl rfl) e1 (.inl (by simp [Value.ownBlock, ee])))) r3 ?_ (fun _ _ h => h) (fun _ _ h => .inl h) ?_ ?_ ?_ ?_ ?_, .any _ _⟩
   · unfold execOp
     simp only [List.length_singleton] at hrun
     simp only [ho, Instr.storeAt, hp', hx1, Instr.sureAddr, Sem.run_bind, Sem.run_pure, Result.andThen_ok, hrun]
   · intro j li hj
     by_cases hj1 : j = id
     · subst hj1
       rw [e1] at hj; cases hj
       refine ⟨_, r1, .inr (.inr (.inl ⟨_, _, _, _, _, rfl, rfl, by simp, fun _ => rfl, fun ii mm x hh => ?_⟩))⟩
       by_cases hii : ii = i
       · subst hii
         right
         refine ⟨k, v2, List.getElem?_set_self hil, ?_⟩
         have := (e4 ii _ hh).1
         simp only at this
         omega
       · left; rw [List.getElem?_set_ne (Ne.symm hii)]; exact hh
     · by_cases hj2 : j = id2
       · subst hj2
         rw [f1] at hj; cases hj
         exact ⟨_, r2, .inr (.inl ⟨_, _, _, _, _, rfl, rfl, Nat.lt_succ_self _⟩)⟩
       · exact ⟨li, by rw [r3 j (by simp [hj1, hj2])]; exact hj, .inl rfl⟩
   · intro j hj
     simp only [not_or] at hj
     show updL M _ j = M j
     simp only [updL]
     rw [upd_other _ _ hj.2, upd_other _ _ hj.1]
   · rintro j (rfl | rfl) hM
     · simp only [updL] at hM; rw [upd_other _ _ hne, upd_same] at hM; cases hM
     · simp only [updL] at hM; rw [upd_same] at hM; cases hM
   · rintro j y (rfl | rfl) hM
     · simp only [updL] at hM; rw [upd_other _ _ hne, upd_same] at hM; cases hM
       refine ⟨_, _, r1, by simpa using e0, ?_, fun ii y hy => ?_, fun ii ii' y y' bb hy hy' hb1 hb2 => ?_, fun ii y bb hy hb1 hb2 => ?_⟩
       · have : (rows.set i (k, v2)).map (·.2) = (rows.map (·.2)).take i ++ [v2] ++ (rows.map (·.2)).drop (i + 1) := by
           apply List.ext_getElem?
           intro q
           have hs := seg_get (rows.map (·.2)) [v2] i (by simp; omega) q
           simp only [List.length_singleton] at hs
           rw [hs, List.getElem?_map]
           by_cases hq : q = i
           · subst hq
             rw [List.getElem?_set_self hil, if_pos (by omega)]; simp
           · rw [List.getElem?_set_ne (Ne.symm hq), if_neg (by omega), List.getElem?_map]
         rw [this]
         simpa using c3
       · rcases hrows ii y hy with ⟨rfl, rfl⟩ | ⟨hii, hy'⟩
         · refine ⟨by simp, hx2, us, ?_, fun jj hjj => ?_, f5, fun jj kk c u hjj hc hu => ?_⟩
           · exact ownsRow_same f2 (fun bb hbb => setRow_other w b bb _ (hblk bb hbb))
           · simp only [if_true] at hjj ⊢; exact f3 jj hjj
           · simp only [if_true] at hjj hc; exact f4 jj kk c u hjj hc hu
         · obtain ⟨g0, g1, xs, g2, g3, g4, g5⟩ := e4 ii y hy'
           refine ⟨by simp [hii, g0], g1, xs, ownsRow_same g2 (fun bb hbb => setRow_other w b bb _ (fun ee => e6 ii y bb hy' hbb (by simp [Value.ownBlock, ee]))), fun jj hjj => ?_, g4, fun jj kk c u hjj hc hu => ?_⟩
           · simp only [hii, if_false] at hjj ⊢; exact g3 jj hjj
           · simp only [hii, if_false] at hjj hc; exact g5 jj kk c u hjj hc hu
       · rcases hrows ii y hy with ⟨rfl, rfl⟩ | ⟨hii, hy2⟩
         · rcases hrows ii' y' hy' with ⟨rfl, rfl⟩ | ⟨hii', hy2'⟩
           · rfl
           · exact absurd (.inr ⟨y', List.mem_of_getElem? hy2', hb2⟩) (hown2 bb hb1 _ e1)
         · rcases hrows ii' y' hy' with ⟨rfl, rfl⟩ | ⟨hii', hy2'⟩
           · exact absurd (.inr ⟨y, List.mem_of_getElem? hy2, hb1⟩) (hown2 bb hb2 _ e1)
           · exact e5 ii ii' y y' bb hy2 hy2' hb1 hb2
       · rcases hrows ii y hy with ⟨rfl, rfl⟩ | ⟨hii, hy2⟩
         · simp [Value.ownBlock] at hb2
           exact hblk bb hb1 hb2.symm
         · exact e6 ii y bb hy2 hb1 hb2
     · simp only [updL] at hM; rw [upd_same] at hM; cases hM
       exact ⟨_, _, r2⟩
   · rintro j li bb (rfl | rfl) hr hb1
     · rw [r1] at hr; cases hr
       rcases hb1 with hb1 | ⟨y, hy, hb1⟩
       · exact .inl ⟨j, _, .inl rfl, e1, .inl hb1⟩
       · obtain ⟨ii, hii⟩ := List.getElem?_of_mem hy
         rcases hrows ii y hii with ⟨rfl, rfl⟩ | ⟨_, hy2⟩
         · exact .inl ⟨id2, _, .inr rfl, f1, hb1⟩
         · exact .inl ⟨j, _, .inl rfl, e1, .inr ⟨y, List.mem_of_getElem? hy2, hb1⟩⟩
     · rw [r2] at hr; cases hr
       simp [LI.owns, Value.ownBlock] at hb1
   · rintro j j' li li' bb (rfl | rfl) (rfl | rfl) hr hr' hb1 hb2
     · rfl
     · rw [r2] at hr'; cases hr'; simp [LI.owns, Value.ownBlock] at hb2
     · rw [r2] at hr; cases hr; simp [LI.owns, Value.ownBlock] at hb1
     · rfl
theorem ev_makeGrid (hΓ : TysOk P Γ) (I : InvH N C h ρ F M g a w) {t : TypeId} {l c : Operand} (ho : o.op = .makeSlice t l c) {T : TyD} (hT : tyOf Γ t = some T) {e : TypeId} (hd : T.d = .slice e)
   {E : TyD} (hE : tyOf Γ e = some E) (hz : E.zero = [.slice none 0 0]) (h1 : E.size = 1) (ty sz : Nat) {n m : Int} (hl : Rel h ρ (.int .i64 n) (a.eval l)) (hc : Rel h ρ (.int .i64 m) (a.eval c)) {d : Nat} (hdn : M d = none) (hq : 0 ≤ n ∧ n ≤ m ∧ room m.toNat E.bytes) (hmax : m.toNat ≤ maxLen) :
   Good P N C h ρ F M g a o w ⟨.gb d n.toNat, [d], [(d, .grid e ty sz n.toNat (fun _ => 0) (fun _ _ => []))], some (0 ≤ n ∧ n ≤ m ∧ room m.toNat E.bytes), none⟩ := by
 obtain ⟨hq1, hq2, hq3, hq4⟩ := hq
 have hEy := hΓ e E hE
 obtain ⟨i, i1, i2, i3, i4⟩ := hEy.info
 have hu := (hΓ t T hT).und_slice hd
 generalize hl' : a.eval l = lv at hl
 generalize hc' : a.eval c = cv at hc
 cases hl; cases hc
 have hrun := run_make (P := P) w t e i E.zeroV hu i1 i4 .i64 .i64 n m hq1 hq2 (by
   rw [i3]
   obtain ⟨mm, rfl⟩ := Int.eq_ofNat_of_zero_le (show 0 ≤ m by omega)
   rw [Int.toNat_natCast] at hq3
   rw [← Int.natCast_mul, Nat.mul_comm]
   generalize mm * E.bytes = k at hq3 ⊢
   omega) (by omega)
 rw [zeroV_cells hEy, i2, hz, h1, Nat.mul_one] at hrun
 have hle : n.toNat ≤ m.toNat := by omega
 have hmade : (madeCells ([Value.slice none 0 0] : List Value).toArray m.toNat).toList.take n.toNat = List.replicate n.toNat (Value.slice none 0 0) := by
   apply List.ext_getElem?
   intro k
   rw [List.getElem?_take, List.getElem?_replicate]
   by_cases hk : k < n.toNat
   · simp [hk, madeCells, show k < m.toNat by omega, Nat.mod_one]
   · simp [hk]
 have hrepl : ∀ (ii : Nat) (x : Nat × Value), (List.replicate n.toNat ((0, .slice none 0 0) : Nat × Value))[ii]? = some x → x = (0, .slice none 0 0) := fun ii x hx => by
   rw [List.getElem?_replicate] at hx
   split at hx
   · cases hx; rfl
   · cases hx
 have hrep1 : ∀ (ii : Nat) (x : Nat × Value), (List.replicate n.toNat ((0, .slice none 0 0) : Nat × Value))[ii]? = some x → x.1 = 0 ∧ x.2.oneCell' = true ∧ ∃ xs : List Value, (w.alloc (.cells (madeCells ([Value.slice none 0 0] : List Value).toArray m.toNat) e)).ownsRow 0 ty sz x.2 x.1 xs ∧ (∀ j, j < 0 → ([] : List AV).length = sz) ∧ (∀ y, y ∈ xs → y.oneCell' = true) ∧
     ∀ (j k : Nat) (c : AV) (y : Value), j < 0 → ([] : List AV)[k]? = some c → xs[j * sz + k]? = some y → Rel h ρ0 c y := fun ii x hx => by
   rw [hrepl ii x hx]
   exact ⟨rfl, rfl, [], ⟨by simp, .inl ⟨rfl, rfl⟩⟩, fun j hj => absurd hj (Nat.not_lt_zero _), fun y hy => (by cases hy), fun j k c y hj => absurd hj (Nat.not_lt_zero _)⟩
 have hrep2 : ∀ (i i' : Nat) (x x' : Nat × Value) (b : Nat), (List.replicate n.toNat ((0, .slice none 0 0) : Nat × Value))[i]? = some x → (List.replicate n.toNat ((0, .slice none 0 0) : Nat × Value))[i']? = some x' → x.2.ownBlock = some b → x'.2.ownBlock = some b → i = i' := fun ii _ x _ b hx _ hb => by
   rw [hrepl ii x hx] at hb; simp [Value.ownBlock] at hb
 have hrep3 : ∀ (i : Nat) (x : Nat × Value) (b : Nat), (List.replicate n.toNat ((0, .slice none 0 0) : Nat × Value))[i]? = some x → x.2.ownBlock = some b → (Value.slice (some ⟨w.heap.size, 0, none⟩) n.toNat m.toNat).ownBlock ≠ some b := fun ii x b hx hb => by
   rw [hrepl ii x hx] at hb; simp [Value.ownBlock] at hb
 have I' := I.allocOwn hdn (.cells (madeCells ([Value.slice none 0 0] : List Value).toArray m.toNat) e) (.grid (.slice (some ⟨w.heap.size, 0, none⟩) n.toNat m.toNat) sz (List.replicate n.toNat (0, .slice none 0 0))) (.grid e ty sz n.toNat (fun _ => 0) (fun _ _ => []))
   (fun b hb => by
     rcases hb with hb | ⟨r, hr, hb⟩
     · exact (Option.some.inj hb).symm
     · rw [List.mem_replicate] at hr; rw [hr.2] at hb; simp [Value.ownBlock] at hb)
   (⟨_, _, upd_same _ _ _, by simp, ⟨by simp, .inr ⟨w.heap.size, m.toNat, _, rfl, Nat.zero_le _, heap_alloc_new w _, hle, hmax, by rw [size_madeCells, Nat.mul_one], by
       simp only [Nat.mul_one]
       rw [hmade]
       simp⟩⟩, hrep1, hrep2, hrep3⟩)
 refine ⟨.slice (some ⟨w.heap.size, 0, none⟩) n.toNat m.toNat, _, _, _, .inl ?_, I', .gb _ _ _ _ _ (upd_same _ _ _) (fun v1 sz1 rows1 ee => by cases ee; exact ⟨by simp, fun _ => rfl⟩) rfl⟩
 unfold execOp
 simp only [ho, hl', hc', Sem.run_bind, hrun, Result.andThen_ok, Sem.run_pure]
theorem ownsRow_slice {ty sz n : Nat} {v : Value} {xs : List Value} (H : w.ownsRow 0 ty sz v n xs) : ∃ ad cap, v = .slice ad n cap ∧ n ≤ cap ∧ (0 < n → ∃ g, ad = some ⟨g, 0, none⟩) := by
 rcases H.2 with ⟨rfl, rfl⟩ | ⟨g, cap, cur, rfl, _, _, h, _⟩
 · exact ⟨none, 0, rfl, Nat.le_refl _, fun h => absurd h (Nat.lt_irrefl _)⟩
 · exact ⟨_, cap, rfl, h, fun _ => ⟨g, rfl⟩⟩
theorem ev_sliceB (hΓ : TysOk P Γ) (I : InvH N C h ρ F M g a w) {t : TypeId} {x : Operand} {lo hi mx : Option Operand} (ho : o.op = .slice t x lo hi mx) {val : Operand → AV} (hv : ∀ y, y ∈ o.op.operands → Rel h ρ (val y) (a.eval y)) {id n : Nat} (hvx : val x = .buf id n) {r : R}
   (hr : evSliceB Γ mg t id n (optV val lo) (optV val hi) (optV val mx) = some r) (hm : ∀ id, id ∈ r.rd → M id = mg id) (hc : ∀ q, r.cs = some q → q) : Good P N C h ρ F M g a o w r := by
 unfold evSliceB at hr
 cases hT : tyOf Γ t with
 | none => simp [hT] at hr
 | some T =>
 simp only [hT] at hr
 cases hd : T.d <;> simp only [hd] at hr <;> (try (cases hr; done))
 rename_i e
 cases hE : tyOf Γ e with
 | none => simp [hE] at hr
 | some E =>
 simp only [hE] at hr
 have hu := (hΓ t T hT).und_slice hd
 have hEy := hΓ e E hE
 have hx : Rel h ρ (.buf id n) (a.eval x) := hvx ▸ hv x (by rw [ho]; cases lo <;> cases hi <;> cases mx <;> simp [Op.operands])
 have hlo : ∀ y, lo = some y → Rel h ρ (val y) (a.eval y) := fun y hy => hv y (by rw [ho, hy]; cases hi <;> cases mx <;> simp [Op.operands])
 have hhi : ∀ y, hi = some y → Rel h ρ (val y) (a.eval y) := fun y hy => hv y (by rw [ho, hy]; cases lo <;> cases mx <;> simp [Op.operands])
 have hmx : ∀ y, mx = some y → Rel h ρ (val y) (a.eval y) := fun y hy => hv y (by rw [ho, hy]; cases lo <;> cases hi <;> simp [Op.operands])
 have intv : ∀ {lo : Option Operand} {b : Int}, (∀ y, lo = some y → Rel h ρ (val y) (a.eval y)) → optV val lo = some (.int .i64 b) → lo.map a.eval = some (.int .i64 b) := by
   intro lo b hl ho'
   cases lo with
   | none => simp [optV] at ho'
   | some y =>
     simp only [optV, Option.some.injEq] at ho'
     have := hl y rfl
     rw [ho'] at this
     generalize hz : a.eval y = z at this
     cases this
     simp [hz]
 have nonev : ∀ {lo : Option Operand}, optV val lo = none → lo.map a.eval = none := by
   intro lo ho'
   cases lo with
   | none => rfl
   | some y => simp [optV] at ho'
 -- a part, once the bounds are known
 have fin : ∀ (ad : Option Addr) (n' cap l hh mm : Nat) (q : Option Prop) (rd : List Nat) (v : AV), a.eval x = .slice ad n' cap → (Instr.sliceBounds true n' cap (lo.map a.eval) (hi.map a.eval) (mx.map a.eval)).run P w = .ok (l, hh, mm) w →
     Rel h ρ v (.slice (if mm = l then ad else ad.map (·.add (l * E.size))) (hh - l) (mm - l)) → Good P N C h ρ F M g a o w ⟨v, rd, [], q, none⟩ := by
   intro ad n' cap l hh mm q rd v hax hrun hrel
   refine Good.same I (.inl ?_) rfl hrel
   unfold execOp
   simp only [ho, hax, Instr.sliceAt, Instr.slice, Sem.run_bind, run_underlying hu, Result.andThen_ok, hrun, hEy.runSize w, Sem.run_pure]
 have part : ∀ (gg n' cap l hh : Nat) (sz : Nat) (v0 : Value), sz = E.size → ρ id = some (.sl n' sz v0) → v0 = .slice (some ⟨gg, 0, none⟩) n' cap → Rel h ρ (.sb id n' l hh) (.slice (if cap = l then some ⟨gg, 0, none⟩ else (some (⟨gg, 0, none⟩ : Addr)).map (·.add (l * E.size))) (hh - l) (cap - l)) := by
   intro gg n' cap l hh sz v0 hsz e1 hv0
   refine .sb _ _ _ _ _ _ _ _ _ e1 (Nat.le_refl _) (by split <;> rfl) (fun _ => ⟨gg, cap, hv0, ?_⟩)
   subst hsz
   split
   · rfl
   · simp [Addr.add_lit]
 cases hg : mg id with
 | none => simp [hg] at hr
 | some bl =>
 cases bl <;> simp only [hg] at hr <;> (try (cases hr; done))
 case buf ty sz n' el =>
   cases hb : Nat.beq sz E.size with
   | false => simp [hb] at hr
   | true =>
   simp only [hb] at hr
   have hsz := Nat.eq_of_beq_eq_true hb
   have key : M id = some (.buf ty sz n' el) → n = n' → ∃ ad cap, a.eval x = .slice ad n' cap ∧ n' ≤ cap ∧ ρ id = some (.sl n' sz (.slice ad n' cap)) ∧ (0 < n' → ∃ gg, ad = some ⟨gg, 0, none⟩) := by
     rintro hM rfl
     obtain ⟨v0, us, e1, e2, _⟩ := I.blk id _ hM
     obtain ⟨ad, cap, rfl, h2, h3⟩ := ownsRow_slice e2
     refine ⟨ad, cap, ?_, h2, e1, h3⟩
     generalize a.eval x = z at hx
     cases hx with
     | buf _ _ _ _ _ _ _ hb' hle k1 he => rw [e1] at hb'; cases hb'; exact he rfl
   split at hr
   · rename_i la lb lc h1 h2 h3
     cases hr
     obtain ⟨q0, q1, q2, q3, q4⟩ := hc _ rfl
     obtain ⟨ad, cap, k1, k2, k3, k4⟩ := key ((hm id (by simp)).trans hg) q0
     refine fin ad n' cap la.toNat lb.toNat lc.toNat _ _ _ k1 ?_ (.any _ _)
     rw [intv hlo h1, intv hhi h2, intv hmx h3]
     simp only [Instr.sliceBounds, Sem.run_bind, Sem.run_pure, Result.andThen_ok, run_sliceBound (P := P) (i := lc) (y := cap) ⟨by omega, by omega⟩, run_sliceBound (P := P) (i := lb) (y := lc.toNat) ⟨by omega, by omega⟩, run_sliceBound (P := P) (i := la) (y := lb.toNat) ⟨q1, by omega⟩]
   · rename_i la lb h1 h2 h3
     cases hr
     obtain ⟨q0, q00, q1, q2, q3⟩ := hc _ rfl
     obtain ⟨ad, cap, k1, k2, k3, k4⟩ := key ((hm id (by simp)).trans hg) q0
     obtain ⟨gg, rfl⟩ := k4 q00
     refine fin _ n' cap la.toNat lb.toNat cap _ _ _ k1 ?_ (part gg n' cap _ _ sz _ hsz k3 rfl)
     rw [intv hlo h1, intv hhi h2, nonev h3]
     simp only [Instr.sliceBounds, Sem.run_bind, Sem.run_pure, Result.andThen_ok, run_sliceBound (P := P) (i := lb) (y := cap) ⟨by omega, by omega⟩, run_sliceBound (P := P) (i := la) (y := lb.toNat) ⟨q1, by omega⟩]
   · rename_i lb h1 h2 h3
     cases hr
     obtain ⟨q0, q00, q1, q2⟩ := hc _ rfl
     obtain ⟨ad, cap, k1, k2, k3, k4⟩ := key ((hm id (by simp)).trans hg) q0
     obtain ⟨gg, rfl⟩ := k4 q00
     refine fin _ n' cap 0 lb.toNat cap _ _ _ k1 ?_ (part gg n' cap _ _ sz _ hsz k3 rfl)
     rw [nonev h1, intv hhi h2, nonev h3]
     simp only [Instr.sliceBounds, Sem.run_bind, Sem.run_pure, Result.andThen_ok, run_sliceBound (P := P) (i := lb) (y := cap) ⟨by omega, by omega⟩]
   · rename_i la h1 h2 h3
     cases hr
     obtain ⟨q0, q00, q1, q2⟩ := hc _ rfl
     obtain ⟨ad, cap, k1, k2, k3, k4⟩ := key ((hm id (by simp)).trans hg) q0
     obtain ⟨gg, rfl⟩ := k4 q00
     refine fin _ n' cap la.toNat n' cap _ _ _ k1 ?_ (part gg n' cap _ _ sz _ hsz k3 rfl)
     rw [intv hlo h1, nonev h2, nonev h3]
     simp only [Instr.sliceBounds, Sem.run_bind, Sem.run_pure, Result.andThen_ok, run_sliceBound (P := P) (i := la) (y := n') ⟨by omega, by omega⟩]
   · cases hr
 case bufk ty sz n' c el =>
   cases hb : Nat.beq sz E.size with
   | false => simp [hb] at hr
   | true =>
   simp only [hb] at hr
   have hsz := Nat.eq_of_beq_eq_true hb
   split at hr
   · rename_i la lb h1 h2 h3
     cases hr
     obtain ⟨rfl, q1, q2, q3⟩ := hc _ rfl
     obtain ⟨v0, us, e1, e2, ⟨gg, cap, rfl, hcap⟩, _⟩ := I.blk id _ ((hm id (by simp)).trans hg)
     have hax : a.eval x = .slice (some ⟨gg, 0, none⟩) n cap := by
       generalize a.eval x = z at hx
       cases hx with
       | buf _ _ _ _ _ _ _ hb' hle k1 he => rw [e1] at hb'; cases hb'; exact he rfl
     refine fin _ n cap la.toNat lb.toNat cap _ _ _ hax ?_ (part gg n cap _ _ sz _ hsz e1 rfl)
     rw [intv hlo h1, intv hhi h2, nonev h3]
     simp only [Instr.sliceBounds, Sem.run_bind, Sem.run_pure, Result.andThen_ok, run_sliceBound (P := P) (i := lb) (y := cap) ⟨by omega, by omega⟩, run_sliceBound (P := P) (i := la) (y := lb.toNat) ⟨q1, by omega⟩]
   · cases hr
theorem run_append_room_row (w : World) (t tx ty e : TypeId) (i : TypeInfo) (ht : P.underlying t = some (.slice e)) (hi : P.info? e = some i) (b off sLen sCap : Nat) (x : Value) (n : Nat) (news : List Value) (hs : Src P i.size tx x n news w)
   (hroom : sLen + n ≤ sCap) {cur : Array Value} {tyr : TypeId} (hg : w.heap[b]? = some (.cells cur tyr (0, 0))) (hfit : off + sLen * i.size + news.length ≤ cur.size) :
   (Builtin.append_ #[t, tx] ty #[.slice (some ⟨b, off, none⟩) sLen sCap, x]).run P w = .ok (.slice (some ⟨b, off, none⟩) (sLen + n) sCap) (w.setRow b (cur.toList.take (off + sLen * i.size) ++ news ++ cur.toList.drop (off + sLen * i.size + news.length)).toArray) := by
 have hst := run_storeCells_at P b (off + sLen * i.size) tyr news 0 cur w hg (by simpa using hfit) hs.one
 simp only [Nat.add_zero] at hst
 rcases hs.kind with ⟨e', hk⟩ | hk <;> simp [Builtin.append_, run_underlying ht, run_underlying hk, sizeOf, typeInfo, hi, hs.len, hroom, hs.cells, Addr.add_lit, hst]
theorem ownsRow_prefix {ty sz n m g cap : Nat} {zs : List Value} (H : w.ownsRow 0 ty sz (.slice (some ⟨g, 0, none⟩) n cap) n zs) (hm : m ≤ n) : w.ownsRow 0 ty sz (.slice (some ⟨g, 0, none⟩) m cap) m (zs.take (m * sz)) := by
 obtain ⟨q1, q2⟩ := H
 have hle : m * sz ≤ n * sz := Nat.mul_le_mul_right _ hm
 rcases q2 with ⟨q2, _⟩ | ⟨g', cap', cur, q2, q0, q3, q4, q5, q6, q7⟩
 · cases q2
 cases q2
 refine ⟨by rw [List.length_take, q1]; omega, .inr ⟨g, cap, cur, rfl, q0, q3, by omega, q5, q6, ?_⟩⟩
 rw [← q7, List.take_take]
 congr 1
 omega
theorem ev_appendB (hΓ : TysOk P Γ) (I : InvH N C h ρ F M g a w) {t : TypeId} {x y : Operand} (ho : o.op = .call { callee := .builtin .append, args := #[x, y], argTypes := #[t, t] }) {id n b id2 n2 j k : Nat} (hx : Rel h ρ (.sb id n 0 b) (a.eval x)) (hy : Rel h ρ (.sb id2 n2 j k) (a.eval y)) {r : R}
   (hr : evAppendB Γ mg o t id n b id2 n2 j k = some r) (hm : ∀ id, id ∈ r.rd → M id = mg id) (hc : ∀ q, r.cs = some q → q) : Good P N C h ρ F M g a o w r := by
 unfold evAppendB at hr
 cases hT : tyOf Γ t with
 | none => simp [hT] at hr
 | some T =>
 simp only [hT] at hr
 cases hd : T.d <;> simp only [hd] at hr <;> (try (cases hr; done))
 rename_i e
 cases hE : tyOf Γ e with
 | none => simp [hE] at hr
 | some E =>
 simp only [hE] at hr
 have hu := (hΓ t T hT).und_slice hd
 have hEy := hΓ e E hE
 cases hg : mg id with
 | none => simp [hg] at hr
 | some bl =>
 cases bl <;> simp only [hg] at hr <;> (try (cases hr; done))
 rename_i ty sz n' e1
 split at hr
 rotate_left
 · cases hr
 rename_i hbb
 simp only [Bool.and_eq_true] at hbb
 obtain ⟨⟨hb1, hb2⟩, hb3⟩ := hbb
 have hty := Nat.eq_of_beq_eq_true hb1
 have hsz := Nat.eq_of_beq_eq_true hb2
 have hid := Nat.eq_of_beq_eq_true hb3
 subst hty; subst hid
 cases hf : fresh mg o with
 | none => simp [hf] at hr
 | some d =>
 simp only [hf] at hr
 cases hr
 obtain ⟨rfl, hn2, hbj, hjk, hkn⟩ := hc _ rfl
 subst n2
 obtain ⟨hdst, hmd⟩ := fresh_spec hf
 have hMid : M id = some (.buf ty sz n e1) := (hm id (by simp)).trans hg
 have hMd : M d = none := (hm d (by simp)).trans hmd
 have hdid : d ≠ id := by rintro rfl; rw [hMd] at hMid; cases hMid
 obtain ⟨v0, us, k1, k2, k3, k5, k4⟩ := I.blk id _ hMid
 obtain ⟨i, i1, i2, i3, i4⟩ := hEy.info
 generalize hxe : a.eval x = xv at hx
 generalize hye : a.eval y = yv at hy
 cases hx with
 | sb _ _ _ _ _ n1 sz1 xv v1 hb hle h1 he =>
 rw [k1] at hb; cases hb
 obtain ⟨gg, cap, rfl, rfl⟩ := he rfl
 cases hy with
 | sb _ _ _ _ _ n1 sz1 yv v1 hb' hle' h1' he' =>
 rw [k1] at hb'; cases hb'
 obtain ⟨gg', cap', q1, rfl⟩ := he' rfl
 cases q1
 have hsl : us.length = n * sz := k2.1
 have hcapn : n ≤ cap := by
   rcases k2.2 with ⟨q, _⟩ | ⟨_, _, _, q, _, _, q4, _⟩
   · cases q
   · cases q; exact q4
 have mulle : ∀ p q : Nat, p ≤ q → p * sz ≤ q * sz := fun p q h => Nat.mul_le_mul_right _ h
 obtain ⟨news, hnews⟩ : ∃ news, (us.drop (j * sz)).take ((k - j) * sz) = news := ⟨_, rfl⟩
 have hnl : news.length = (k - j) * sz := by
   rw [← hnews, List.length_take, List.length_drop, hsl]
   have := mulle k n hkn
   have h2 : (k - j) * sz + j * sz = k * sz := by rw [← Nat.add_mul]; congr 1; omega
   omega
 have hnget : ∀ q, q < (k - j) * sz → news[q]? = us[j * sz + q]? := fun q hq => by
   rw [← hnews, List.getElem?_take, if_pos hq, List.getElem?_drop]
 have hone : ∀ u ∈ news, u.oneCell' = true := fun u hu => k5 u (by rw [← hnews] at hu; exact List.mem_of_mem_drop (List.mem_of_mem_take hu))
 have hfit : b * sz + news.length ≤ n * sz := by
   rw [hnl, ← Nat.add_mul]; exact mulle _ _ (by omega)
 obtain ⟨cur, c1, c2, c3⟩ := ownsRow_store k2 (b * sz) news hfit
 have hisz : i.size = sz := by rw [i2, hsz]
 have hsrc : Src P i.size t (.slice (some (if cap = j then ⟨gg, 0, none⟩ else ⟨gg, j * sz, none⟩)) (k - j) (cap - j)) (k - j) news w := by
   refine Src.ofSlice w hu _ _ _ _ (by rw [hisz]; exact hnl) (fun q u hq => ?_) hone
   have hql : q < (k - j) * sz := by rw [← hnl]; exact (List.getElem?_eq_some_iff.1 hq).1
   have hne : cap ≠ j := by
     rintro rfl
     have : k - cap = 0 := by omega
     rw [this] at hql; simp at hql
   rw [if_neg hne, Addr.add_lit]
   have h3 : j * sz + q < n * sz := by
     have := mulle k n hkn
     have h2 : (k - j) * sz + j * sz = k * sz := by rw [← Nat.add_mul]; congr 1; omega
     omega
   rw [hnget q hql] at hq
   have := k2.cells (g := gg) rfl (j * sz + q) u hq
   rw [Addr.add_lit] at this
   simpa using this
 have hrun := run_append_room_row (P := P) w t t o.type ty i hu i1 gg 0 b cap _ (k - j) news hsrc (by omega) c1 (by rw [hisz, Nat.zero_add]; exact c2)
 rw [hisz, Nat.zero_add] at hrun
 obtain ⟨W', hW'⟩ : ∃ W', w.setRow gg (cur.toList.take (b * sz) ++ news ++ cur.toList.drop (b * sz + news.length)).toArray = W' := ⟨_, rfl⟩
 rw [hW'] at hrun c3
 have hoth : ∀ kk, kk ≠ gg → W'.heap[kk]? = w.heap[kk]? := fun kk hk => by rw [← hW']; exact setRow_other w gg kk _ hk
 obtain ⟨ρ', hρ'⟩ : ∃ ρ', upd (upd ρ d (some (.sl (b + (k - j)) sz (.slice (some ⟨gg, 0, none⟩) (b + (k - j)) cap)))) id (some (.sl (n + 1) sz (.slice none 0 0))) = ρ' := ⟨_, rfl⟩
 have r1 : ρ' d = some (.sl (b + (k - j)) sz (.slice (some ⟨gg, 0, none⟩) (b + (k - j)) cap)) := by rw [← hρ', upd_other _ _ hdid, upd_same]
 have r2 : ρ' id = some (.sl (n + 1) sz (.slice none 0 0)) := by rw [← hρ', upd_same]
 have r3 : ∀ q, ¬ (q = d ∨ q = id) → ρ' q = ρ q := fun q hq => by rw [← hρ', upd_other _ _ (fun e => hq (.inr e)), upd_other _ _ (fun e => hq (.inl e))]
 have hρd := I.dom d hMd
 have hpre := ownsRow_prefix c3 (m := b + (k - j)) (by omega)
 have hzs : ∀ q, q < (b + (k - j)) * sz → ((us.take (b * sz) ++ news ++ us.drop (b * sz + news.length)).take ((b + (k - j)) * sz))[q]? = if q < b * sz then us[q]? else us[j * sz + (q - b * sz)]? := by
   intro q hq
   rw [List.getElem?_take, if_pos hq, seg_get _ _ _ (by rw [hsl]; exact hfit)]
   have hq2 : (b + (k - j)) * sz = b * sz + (k - j) * sz := Nat.add_mul _ _ _
   by_cases hqb : q < b * sz
   · rw [if_neg (by omega), if_pos hqb]
   · rw [if_pos (by rw [hnl]; omega), if_neg hqb, hnget _ (by omega)]
 refine ⟨.slice (some ⟨gg, 0, none⟩) (b + (k - j)) cap, W', h, ρ', .inl ?_, I.step (S := fun q => q = d ∨ q = id) (w' := W') ?_ ?_ ?_ ?_ (fun kk _ hk => hoth kk (fun ee => hk id _ (.inr rfl) k1 (by rw [ee]; rfl))) r3 ?_ (fun _ _ h => h) (fun _ _ h => .inl h) ?_ ?_ ?_ ?_ ?_, .buf _ _ _ _ _ _ _ r1 (Nat.le_refl _) rfl (fun _ => rfl)⟩
 · refine execOp_append ho ?_
   have e0 : (if cap = 0 then (⟨gg, 0, none⟩ : Addr) else ⟨gg, 0 * sz, none⟩) = ⟨gg, 0, none⟩ := by split <;> simp
   rw [hxe, hye, e0]
   simpa using hrun
 · rw [← hW']; rfl
 · rw [← hW']; rfl
 · rw [← hW']; rfl
 · rw [← hW']; simp
 · intro q li hq
   by_cases hq1 : q = d
   · subst hq1; rw [hρd] at hq; cases hq
   · by_cases hq2 : q = id
     · subst hq2
       rw [k1] at hq; cases hq
       exact ⟨_, r2, .inr (.inl ⟨_, _, _, _, _, rfl, rfl, Nat.lt_succ_self _⟩)⟩
     · exact ⟨li, by rw [r3 q (by simp [hq1, hq2])]; exact hq, .inl rfl⟩
 · intro q hq
   simp only [not_or] at hq
   show updL M _ q = M q
   simp only [updL]
   rw [upd_other _ _ hq.2, upd_other _ _ hq.1]
 · rintro q (rfl | rfl) hM
   · simp only [updL] at hM; rw [upd_other _ _ hdid, upd_same] at hM; cases hM
   · simp only [updL] at hM; rw [upd_same] at hM; cases hM
 · rintro q z (rfl | rfl) hM
   · simp only [updL] at hM; rw [upd_other _ _ hdid, upd_same] at hM; cases hM
     refine ⟨_, _, r1, hpre, ⟨gg, cap, rfl, hcapn⟩, fun ii hii => ?_, fun u hu => ?_, fun ii jj c u hii hcc hu => ?_⟩
     · show (if ii < b then e1 ii else e1 (j + (ii - b))).length = sz
       split
       · exact k3 ii (by omega)
       · exact k3 _ (by omega)
     · obtain ⟨q, hq, rfl⟩ := List.getElem_of_mem hu
       have hq0 : q < (b + (k - j)) * sz := by simp at hq; omega
       have := hzs q hq0
       rw [List.getElem?_eq_getElem hq] at this
       split at this
       · exact k5 _ (List.mem_of_getElem? this.symm)
       · exact k5 _ (List.mem_of_getElem? this.symm)
     · replace hcc : (if ii < b then e1 ii else e1 (j + (ii - b)))[jj]? = some c := hcc
       have hjj : jj < sz := by
         have h0 := (List.getElem?_eq_some_iff.1 hcc).1
         split at h0
         · rw [k3 ii (by omega)] at h0; exact h0
         · rw [k3 _ (by omega)] at h0; exact h0
       have hlt : ii * sz + jj < (b + (k - j)) * sz := by
         calc ii * sz + jj < ii * sz + sz := by omega
           _ = (ii + 1) * sz := by rw [Nat.add_mul, Nat.one_mul]
           _ ≤ _ := mulle _ _ hii
       rw [hzs _ hlt] at hu
       by_cases hib : ii < b
       · rw [if_pos hib] at hcc
         have : ii * sz + jj < b * sz := by
           calc ii * sz + jj < ii * sz + sz := by omega
             _ = (ii + 1) * sz := by rw [Nat.add_mul, Nat.one_mul]
             _ ≤ _ := mulle _ _ hib
         rw [if_pos this] at hu
         exact k4 ii jj c u (by omega) hcc hu
       · rw [if_neg hib] at hcc
         have hbi : b * sz ≤ ii * sz := mulle _ _ (by omega)
         rw [if_neg (by omega)] at hu
         have hidx : j * sz + (ii * sz + jj - b * sz) = (j + (ii - b)) * sz + jj := by
           have h2 : (ii - b) * sz + b * sz = ii * sz := by rw [← Nat.add_mul]; congr 1; omega
           rw [Nat.add_mul]; omega
         rw [hidx] at hu
         exact k4 _ jj c u (by omega) hcc hu
   · simp only [updL] at hM; rw [upd_same] at hM; cases hM
     exact ⟨_, _, r2⟩
 · rintro q li bb (rfl | rfl) hq hbb
   · rw [r1] at hq; cases hq
     exact .inl ⟨id, _, .inr rfl, k1, hbb⟩
   · rw [r2] at hq; cases hq
     simp [LI.owns, Value.ownBlock] at hbb
 · rintro q q' li li' bb (rfl | rfl) (rfl | rfl) hq hq' hb1' hb2'
   · rfl
   · rw [r2] at hq'; cases hq'; simp [LI.owns, Value.ownBlock] at hb2'
   · rw [r2] at hq; cases hq; simp [LI.owns, Value.ownBlock] at hb1'
   · rfl
theorem ev_clear (hΓ : TysOk P Γ) (I : InvH N C h ρ F M g a w) {t : TypeId} {ts : List TypeId} {args : Array Operand} {tsa : Array TypeId} {y : Operand} (ho : o.op = .call { callee := .builtin .clear, args := args, argTypes := tsa }) (hts : tsa.toList = t :: ts) (hargs : args.toList = [y]) {x : AV} (hx : Rel h ρ x (a.eval y)) {r : R}
   (hr : evClear Γ mg t x = some r) (hm : ∀ id, id ∈ r.rd → M id = mg id) (hc : ∀ q, r.cs = some q → q) : Good P N C h ρ F M g a o w r := by
 have ha : args.map a.eval = #[a.eval y] := by
   apply Array.ext'; simp [hargs]
 have ht0 : tsa[0]? = some t := by rw [← Array.getElem?_toList, hts]; rfl
 unfold evClear at hr
 cases hT : tyOf Γ t with
 | none => simp [hT] at hr
 | some T =>
 simp only [hT] at hr
 cases hd : T.d <;> simp only [hd] at hr <;> (try (cases hr; done))
 rename_i e
 cases hE : tyOf Γ e with
 | none => simp [hE] at hr
 | some E =>
 simp only [hE] at hr
 have hu := (hΓ t T hT).und_slice hd
 have hEy := hΓ e E hE
 cases x <;> simp only [] at hr <;> (try (cases hr; done))
 rename_i id n lo hh
 cases hg : mg id with
 | none => simp [hg] at hr
 | some bl =>
 cases bl <;> simp only [hg] at hr <;> (try (cases hr; done))
 case bufk ty sz n' c e1 =>
   split at hr
   rotate_left
   · cases hr
   rename_i hbb
   simp only [Bool.and_eq_true] at hbb
   obtain ⟨hb1, hb2⟩ := hbb
   have hty := Nat.eq_of_beq_eq_true hb1
   have hsz := Nat.eq_of_beq_eq_true hb2
   subst hty
   cases hr
   obtain ⟨rfl, rfl, hhc⟩ := hc _ rfl
   have hMid : M id = some (.bufk ty sz lo c e1) := (hm id (by simp)).trans hg
   obtain ⟨v0, us, k1, k2, ⟨gg, cap, rfl, hcap⟩, k3, k5, k4⟩ := I.blk id _ hMid
   generalize hye : a.eval y = yv at hx
   cases hx with
   | sb _ _ _ _ _ n1 sz1 yv v1 hb hle h1 he =>
   rw [k1] at hb; cases hb
   obtain ⟨gg', cap', q1, rfl⟩ := he rfl
   cases q1
   rcases k2.2 with ⟨q, _⟩ | ⟨g1, cap1, cur, q, q0, q3, q4, q5, q6, q7⟩
   · cases q
   cases q
   by_cases hz : hh - lo = 0
   · -- nothing to clear
     refine ⟨.tuple #[], w, h, ρ, .inl (execOp_builtin ho ?_), ?_, .any _ _⟩
     · simp only [builtin, ha, hye, hz, Builtin.clear_, Sem.run_bind, Sem.run_pure, Result.andThen_ok, ht0]
       simp [run_underlying hu, go_sem]
     · have : updL M [(id, .bufk ty sz lo c e1)] = M := by
         funext q
         simp only [updL]
         by_cases hq : q = id
         · subst hq; rw [upd_same]; exact hMid.symm
         · rw [upd_other _ _ hq]
       show InvH N C h ρ F (updL M [(id, .bufk ty sz lo c e1)]) g a w
       rw [this]; exact I
   · have hne : cap ≠ lo := by omega
     obtain ⟨zs, hzs⟩ : ∃ zs, (Builtin.zeroCells E.zeroV.cells (hh - lo)).toList = zs := ⟨_, rfl⟩
     have hzl : zs.length = (hh - lo) * sz := by
       rw [← hzs, zeroV_cells hEy]
       simp [Builtin.zeroCells, hEy.len, hsz]
     have hz1 : ∀ v ∈ zs, v.oneCell' = true := by
       intro v hv
       rw [← hzs, zeroV_cells hEy] at hv
       simp only [Builtin.zeroCells, Array.toList_flatten, Array.toList_replicate, Array.toList_map] at hv
       simp at hv
       obtain ⟨q, hq1, hq2⟩ := hv
       have hpos : 0 < E.zero.length := by
         rcases Nat.eq_zero_or_pos E.zero.length with h0 | h0
         · rw [h0] at hq1; simp at hq1
         · exact h0
       have hlt := Nat.mod_lt q hpos
       rw [List.getElem?_eq_getElem hlt] at hq2
       simp at hq2
       subst hq2
       exact (single_one (Rel.ofVal (fun _ => none) ρ0 _) (hEy.one _ (List.getElem_mem hlt))).1
     have hfit : lo * sz + zs.length ≤ cur.size := by
       rw [hzl, q6]
       have : lo * sz + (hh - lo) * sz = hh * sz := by rw [← Nat.add_mul]; congr 1; omega
       rw [this]; exact Nat.mul_le_mul_right _ (by omega)
     have hst := run_storeCells_at P gg (lo * sz) ty zs 0 cur w q3 (by simpa using hfit) hz1
     simp only [Nat.add_zero] at hst
     refine ⟨.tuple #[], w.setRow gg (cur.toList.take (lo * sz) ++ zs ++ cur.toList.drop (lo * sz + zs.length)).toArray, h, ρ, .inl (execOp_builtin ho ?_), I.turnGrid k1 _ rfl rfl rfl (by simp) (fun kk hk => setRow_other w gg kk _ (fun ee => hk (by rw [ee]; rfl))) ?_, .any _ _⟩
     · obtain ⟨m, hm'⟩ : ∃ m, hh - lo = m + 1 := ⟨hh - lo - 1, by omega⟩
       rw [hm'] at hzs
       simp only [builtin, ha, hye, if_neg hne, hm', Builtin.clear_, Sem.run_bind, Sem.run_pure, Result.andThen_ok, ht0]
       simp [run_underlying hu, hEy.runZero w, go_sem]
       change (((Sem.run P (storeCells ⟨gg, lo * sz, none⟩ (Builtin.zeroCells E.zeroV.cells (m + 1)).toList) w).andThen fun a w' => Result.ok (Value.tuple #[]) w').andThen fun a w' => Result.ok (Next.value a) w') = _
       rw [hzs, hst]
       simp
     · refine ⟨_, us, k1, ⟨k2.1, .inr ⟨gg, cap, _, rfl, q0, setRow_heap w gg _ _ ty _ q3, q4, q5, ?_, ?_⟩⟩, ⟨gg, cap, rfl, hcap⟩, k3, k5, k4⟩
       · have := seg_len cur.toList zs (lo * sz) (by simpa using hfit)
         simp only [List.size_toArray]
         rw [this]; simpa using q6
       · rw [← q7]
         apply List.ext_getElem?
         intro q
         simp only [List.getElem?_take, List.toList_toArray]
         by_cases hq : q < lo * sz
         · rw [if_pos hq, if_pos hq, seg_get _ _ _ (by simpa using hfit), if_neg (by omega)]
         · rw [if_neg hq, if_neg hq]
 case buf ty sz n' e1 =>
   split at hr
   rotate_left
   · cases hr
   rename_i hbb
   simp only [Bool.and_eq_true] at hbb
   obtain ⟨hb1, hb2⟩ := hbb
   have hty := Nat.eq_of_beq_eq_true hb1
   have hsz := Nat.eq_of_beq_eq_true hb2
   subst hty
   cases hr
   obtain ⟨rfl, hlh, hhn⟩ := hc _ rfl
   have hMid : M id = some (.buf ty sz n e1) := (hm id (by simp)).trans hg
   obtain ⟨v0, us, k1, k2, k3, k5, k4⟩ := I.blk id _ hMid
   generalize hye : a.eval y = yv at hx
   cases hx with
   | sb _ _ _ _ _ n1 sz1 yv v1 hb hle h1 he =>
   rw [k1] at hb; cases hb
   obtain ⟨gg, cap, rfl, rfl⟩ := he rfl
   by_cases hz : hh - lo = 0
   · refine ⟨.tuple #[], w, h, ρ, .inl (execOp_builtin ho ?_), ?_, .any _ _⟩
     · simp only [builtin, ha, hye, hz, Builtin.clear_, Sem.run_bind, Sem.run_pure, Result.andThen_ok, ht0]
       simp [run_underlying hu, go_sem]
     · have e0 : (fun q => if lo ≤ q ∧ q < hh then zeros E.zero else e1 q) = e1 := by funext q; rw [if_neg (by omega)]
       have : updL M [(id, .buf ty sz n (fun q => if lo ≤ q ∧ q < hh then zeros E.zero else e1 q))] = M := by
         rw [e0]
         funext q
         simp only [updL]
         by_cases hq : q = id
         · subst hq; rw [upd_same]; exact hMid.symm
         · rw [upd_other _ _ hq]
       show InvH N C h ρ F (updL M [(id, .buf ty sz n (fun q => if lo ≤ q ∧ q < hh then zeros E.zero else e1 q))]) g a w
       rw [this]; exact I
   · rcases k2.2 with ⟨q, _⟩ | ⟨g1, cap1, cur, q, q0, q3, q4, q5, q6, q7⟩
     · cases q
     cases q
     have hne : cap ≠ lo := by omega
     obtain ⟨zs, hzs⟩ : ∃ zs, (Builtin.zeroCells E.zeroV.cells (hh - lo)).toList = zs := ⟨_, rfl⟩
     have hzl : zs.length = (hh - lo) * sz := by
       rw [← hzs, zeroV_cells hEy]
       simp [Builtin.zeroCells, hEy.len, hsz]
     have hzm : zs = (madeCells E.zero.toArray ((hh - lo) * E.size)).toList := by
       rw [← hzs, zeroV_cells hEy]
       simp [Builtin.zeroCells, madeCells, hEy.len]
     have hz1 : ∀ v ∈ zs, v.oneCell' = true := by
       intro x hx
       rw [hzm] at hx
       simp only [Array.mem_toList_iff, madeCells, Array.mem_map, Array.mem_range] at hx
       obtain ⟨k, hk, rfl⟩ := hx
       have hpos : 0 < E.size := by
         rcases Nat.eq_zero_or_pos E.size with h0 | h0
         · rw [h0] at hk; simp at hk
         · exact h0
       have hlt : k % E.zero.length < E.zero.length := by rw [hEy.len]; exact Nat.mod_lt _ hpos
       have : E.zero.toArray[k % E.zero.toArray.size]! = E.zero[k % E.zero.length] := by simp [hlt]
       rw [this]
       exact (single_one (Rel.ofVal (fun _ => none) ρ0 _) (hEy.one _ (List.getElem_mem hlt))).1
     have hsum : lo * sz + (hh - lo) * sz = hh * sz := by rw [← Nat.add_mul]; congr 1; omega
     have hfitn : lo * sz + zs.length ≤ n * sz := by rw [hzl, hsum]; exact Nat.mul_le_mul_right _ hhn
     have hfit : lo * sz + zs.length ≤ cur.size := by
       refine Nat.le_trans hfitn ?_
       rw [q6]; exact Nat.mul_le_mul_right _ (by omega)
     have hst := run_storeCells_at P gg (lo * sz) ty zs 0 cur w q3 (by simpa using hfit) hz1
     simp only [Nat.add_zero] at hst
     obtain ⟨cur2, c1, c2, c3⟩ := ownsRow_store k2 (lo * sz) zs hfitn
     rw [q3] at c1; cases c1
     have husl : us.length = n * sz := k2.1
     refine ⟨.tuple #[], w.setRow gg (cur.toList.take (lo * sz) ++ zs ++ cur.toList.drop (lo * sz + zs.length)).toArray, h, ρ, .inl (execOp_builtin ho ?_), I.turnGrid k1 _ rfl rfl rfl (by simp) (fun kk hk => setRow_other w gg kk _ (fun ee => hk (by rw [ee]; rfl))) ?_, .any _ _⟩
     · obtain ⟨m, hm'⟩ : ∃ m, hh - lo = m + 1 := ⟨hh - lo - 1, by omega⟩
       rw [hm'] at hzs
       simp only [builtin, ha, hye, if_neg hne, hm', Builtin.clear_, Sem.run_bind, Sem.run_pure, Result.andThen_ok, ht0]
       simp [run_underlying hu, hEy.runZero w, go_sem]
       change (((Sem.run P (storeCells ⟨gg, lo * sz, none⟩ (Builtin.zeroCells E.zeroV.cells (m + 1)).toList) w).andThen fun a w' => Result.ok (Value.tuple #[]) w').andThen fun a w' => Result.ok (Next.value a) w') = _
       rw [hzs, hst]
       simp
     · refine ⟨_, _, k1, c3, fun i hi => ?_, fun u hu => ?_, fun i j c x hi hj hx => ?_⟩
       · dsimp only
         split
         · rw [zeros_len, hEy.len, hsz]
         · exact k3 i hi
       · rw [List.mem_append, List.mem_append] at hu
         rcases hu with (hu | hu) | hu
         · exact k5 u (List.mem_of_mem_take hu)
         · exact hz1 u hu
         · exact k5 u (List.mem_of_mem_drop hu)
       · rw [seg_get _ _ _ (by rw [husl]; exact hfitn)] at hx
         dsimp only at hj
         by_cases hin : lo ≤ i ∧ i < hh
         · rw [if_pos hin] at hj
           have hj' : j < sz := by rw [hsz, ← hEy.len, ← zeros_len]; exact (List.getElem?_eq_some_iff.1 hj).1
           have ei : i * sz = lo * sz + (i - lo) * sz := by rw [← Nat.add_mul]; congr 1; omega
           have hlt2 : (i - lo) * sz + j < (hh - lo) * sz := by
             have h4 : (i - lo) * sz + sz ≤ (hh - lo) * sz := by
               have : (i - lo) * sz + sz = (i - lo + 1) * sz := by rw [Nat.add_mul, Nat.one_mul]
               rw [this]; exact Nat.mul_le_mul_right _ (by omega)
             omega
           rw [if_pos (by rw [hzl]; omega)] at hx
           have ep : i * sz + j - lo * sz = (i - lo) * sz + j := by omega
           rw [ep, hzm] at hx
           have hrep : (repL (zeros E.zero) (hh - lo))[(i - lo) * sz + j]? = some c := by
             rw [repL_get (by rw [zeros_len, hEy.len, ← hsz]; exact hlt2), zeros_len, hEy.len, ← hsz]
             rw [Nat.mul_comm, Nat.mul_add_mod, Nat.mod_eq_of_lt hj']; exact hj
           exact (RelL.made hEy h ρ0 (hh - lo)).2 _ c x hrep hx
         · rw [if_neg hin] at hj
           have hj' : j < sz := by rw [← k3 i hi]; exact (List.getElem?_eq_some_iff.1 hj).1
           have hout : ¬ (lo * sz ≤ i * sz + j ∧ i * sz + j < lo * sz + zs.length) := by
             rw [hzl, hsum]
             intro hq
             by_cases h5 : i < lo
             · have : (i + 1) * sz ≤ lo * sz := Nat.mul_le_mul_right _ (by omega)
               rw [Nat.add_mul, Nat.one_mul] at this
               omega
             · have : hh * sz ≤ i * sz := Nat.mul_le_mul_right _ (by omega)
               omega
           rw [if_neg hout] at hx
           exact k4 i j c x hi hj hx
theorem ev_copy (hΓ : TysOk P Γ) (I : InvH N C h ρ F M g a w) {t t2 : TypeId} {args : Array Operand} {tsa : Array TypeId} {y z : Operand} (ho : o.op = .call { callee := .builtin .copy, args := args, argTypes := tsa }) (hts : tsa.toList = [t, t2]) (hargs : args.toList = [y, z]) {x1 x2 : AV} (hx : Rel h ρ x1 (a.eval y)) (hx2 : Rel h ρ x2 (a.eval z)) {r : R}
   (hr : evCopy Γ mg t x1 x2 = some r) (hm : ∀ id, id ∈ r.rd → M id = mg id) (hc : ∀ q, r.cs = some q → q) : Good P N C h ρ F M g a o w r := by
 have ha : args.map a.eval = #[a.eval y, a.eval z] := by
   apply Array.ext'; simp [hargs]
 have htsa : tsa = #[t, t2] := by apply Array.ext'; simp [hts]
 subst htsa
 unfold evCopy at hr
 cases hT : tyOf Γ t with
 | none => simp [hT] at hr
 | some T =>
 simp only [hT] at hr
 cases hd : T.d <;> simp only [hd] at hr <;> (try (cases hr; done))
 rename_i e
 cases hE : tyOf Γ e with
 | none => simp [hE] at hr
 | some E =>
 simp only [hE] at hr
 have hu := (hΓ t T hT).und_slice hd
 have hEy := hΓ e E hE
 cases hb1 : Nat.beq 1 E.size with
 | false => simp [hb1] at hr
 | true =>
 simp only [hb1] at hr
 have hE1 := Nat.eq_of_beq_eq_true hb1
 have hinfo : (P.info? e).map (·.size) = some 1 := by
   obtain ⟨i, i1, i2, _⟩ := hEy.info
   rw [i1]; simp [i2, ← hE1]
 -- the copy itself: what lies at the source goes over
 have core : ∀ {ty n gg cap : Nat} {us : List Value} {cur : Array Value} (lo dl dc : Nat) (ad : Addr) (sl sc : Nat) (news : List Value), w.heap[gg]? = some (.cells cur ty (0, 0)) → news.length = min sl dl → lo + news.length ≤ cur.size → (∀ v ∈ news, v.oneCell' = true) → (∀ j v, news[j]? = some v → w.cell? (ad.add j) = some v) →
     (Builtin.copy_ #[t, t2] o.type #[.slice (some ⟨gg, lo, none⟩) dl dc, .slice (some ad) sl sc]).run P w = .ok (goInt news.length) (w.setRow gg (cur.toList.take lo ++ news ++ cur.toList.drop (lo + news.length)).toArray) := by
   intro ty n gg cap us cur lo dl dc ad sl sc news hg hn hfit h1 hsrc
   exact run_copy_row P w t t2 o.type e gg lo dl dc ad sl sc cur ty news hu hinfo hg hn hsrc hfit h1
 have nothing : ∀ (d s : Option Addr) (dl dc sl sc : Nat), min sl dl = 0 → (Builtin.copy_ #[t, t2] o.type #[.slice d dl dc, .slice s sl sc]).run P w = .ok (goInt 0) w := by
   intro d s dl dc sl sc hn
   exact run_copy_none w t t2 o.type e d s dl dc sl sc hu hinfo hn
 have same : ∀ {k : Nat} {id ty n : Nat} {e1 e1' : Nat → List AV} {q : Option Prop}, k = 0 → M id = some (.buf ty 1 n e1) → (∀ i, e1' i = e1 i) → (Builtin.copy_ #[t, t2] o.type #[a.eval y, a.eval z]).run P w = .ok (goInt 0) w → Good P N C h ρ F M g a o w ⟨.int .i64 ((k : Nat) : Int), [id], [(id, .buf ty 1 n e1')], q, none⟩ := by
   intro k id ty n e1 e1' q hk hM he hrun
   subst hk
   obtain rfl : e1' = e1 := funext he
   refine ⟨goInt 0, w, h, ρ, .inl (execOp_builtin ho (by simp only [builtin, ha, Sem.run_bind, hrun, Result.andThen_ok, Sem.run_pure])), ?_, .int _ _ _⟩
   have : updL M [(id, .buf ty 1 n e1')] = M := by
     funext q
     simp only [updL]
     by_cases hq : q = id
     · subst hq; rw [upd_same]; exact hM.symm
     · rw [upd_other _ _ hq]
   show InvH N C h ρ F (updL M [(id, .buf ty 1 n e1')]) g a w
   rw [this]; exact I
 have turned : ∀ {id ty n gg cap lo : Nat} {us : List Value} {cur : Array Value} {e1 e1' : Nat → List AV} {q : Option Prop} (news : List Value), ρ id = some (.sl n 1 (.slice (some ⟨gg, 0, none⟩) n cap)) → w.ownsRow 0 ty 1 (.slice (some ⟨gg, 0, none⟩) n cap) n us → w.heap[gg]? = some (.cells cur ty (0, 0)) → lo + news.length ≤ n → (∀ v ∈ news, v.oneCell' = true) →
     (∀ x, x ∈ us → x.oneCell' = true) → (∀ i, i < n → (e1' i).length = 1) → (∀ i c x, i < n → (e1' i)[0]? = some c → (if lo ≤ i ∧ i < lo + news.length then news[i - lo]? else us[i]?) = some x → Rel h ρ0 c x) →
     (Builtin.copy_ #[t, t2] o.type #[a.eval y, a.eval z]).run P w = .ok (goInt news.length) (w.setRow gg (cur.toList.take lo ++ news ++ cur.toList.drop (lo + news.length)).toArray) →
     Good P N C h ρ F M g a o w ⟨.int .i64 ((news.length : Nat) : Int), [id], [(id, .buf ty 1 n e1')], q, none⟩ := by
   intro id ty n gg cap lo us cur e1 e1' q news k1 k2 hg hfit hn1 k5 hl hrel hrun
   obtain ⟨cur2, c1, c2, c3⟩ := ownsRow_store k2 lo news (by omega)
   rw [hg] at c1; cases c1
   refine ⟨goInt news.length, w.setRow gg (cur.toList.take lo ++ news ++ cur.toList.drop (lo + news.length)).toArray, h, ρ, .inl (execOp_builtin ho (by simp only [builtin, ha, Sem.run_bind, hrun, Result.andThen_ok, Sem.run_pure])), I.turnGrid k1 _ rfl rfl rfl (by simp) (fun kk hk => setRow_other w gg kk _ (fun ee => hk (by rw [ee]; rfl))) ?_, .int _ _ _⟩
   have hus : us.length = n := by have := k2.1; simpa using this
   refine ⟨_, _, k1, c3, hl, fun u hu => ?_, fun i j c x hi hj hx => ?_⟩
   · rw [List.mem_append, List.mem_append] at hu
     rcases hu with (hu | hu) | hu
     · exact k5 u (List.mem_of_mem_take hu)
     · exact hn1 u hu
     · exact k5 u (List.mem_of_mem_drop hu)
   · have hj0 : j = 0 := by
       have := (List.getElem?_eq_some_iff.1 hj).1
       rw [hl i hi] at this; omega
     subst hj0
     rw [Nat.mul_one, Nat.add_zero, seg_get _ _ _ (by omega)] at hx
     exact hrel i c x hi hj hx
 cases x1 <;> (try simp only [] at hr) <;> (try (cases hr; done))
 case buf id n =>
   cases x2 <;> (try simp only [] at hr) <;> (try (cases hr; done))
   rename_i sz2 n2 e2
   cases hg : mg id with
   | none => simp [hg] at hr
   | some bl =>
   cases bl <;> simp only [hg] at hr <;> (try (cases hr; done))
   rename_i ty sz n' e1
   split at hr
   rotate_left
   · cases hr
   rename_i hbb
   simp only [Bool.and_eq_true] at hbb
   obtain ⟨⟨hb2, hb3⟩, hb4⟩ := hbb
   have hsz := Nat.eq_of_beq_eq_true hb3
   have hsz2 := Nat.eq_of_beq_eq_true hb4
   subst sz; subst sz2
   cases hr
   obtain rfl := hc _ rfl
   have hMid : M id = some (.buf ty 1 n e1) := (hm id (by simp)).trans hg
   obtain ⟨v0, us, k1, k2, k3, k5, k4⟩ := I.blk id _ hMid
   have hye : a.eval y = v0 := by
     generalize a.eval y = q at hx
     cases hx with
     | buf _ _ _ _ _ _ _ hb' hle k1' he => rw [k1] at hb'; cases hb'; exact he rfl
   obtain ⟨ad2, cap2, hze, hcap2⟩ := ro_slice hx2
   by_cases hz : min n2 n = 0
   · refine same hz hMid (fun i => ?_) ?_
     · rw [if_neg (by omega)]
     · rw [hye, hze]
       obtain ⟨ad, cap, rfl, _, _⟩ := ownsRow_slice k2
       exact nothing _ _ _ _ _ _ hz
   · rcases k2.2 with ⟨_, h0⟩ | ⟨gg, cap, cur, rfl, _, q3, q4, q5, q6, q7⟩
     · omega
     rw [hze] at hx2
     cases hx2 with
     | ro _ _ _ _ _ _ hnil hcp hl2 hs2 h12 hc2 =>
     cases ad2 with
     | none => have := hnil rfl; omega
     | some ad2 =>
     have hcell : ∀ j, j < n2 → ∃ v, cellOf h (ad2.add j) = some v := fun j hj => by
       have := hs2 j 0 hj (by omega)
       simp only [Nat.mul_one, Nat.add_zero, hcell] at this
       exact Option.isSome_iff_exists.1 this
     obtain ⟨news, hnews⟩ : ∃ news, (List.range (min n2 n)).map (fun j => (cellOf h (ad2.add j)).getD undef) = news := ⟨_, rfl⟩
     have hnl : news.length = min n2 n := by rw [← hnews]; simp
     have hnget : ∀ j v, news[j]? = some v → j < min n2 n ∧ cellOf h (ad2.add j) = some v := fun j v hj => by
       have hlt : j < min n2 n := by rw [← hnl]; exact (List.getElem?_eq_some_iff.1 hj).1
       obtain ⟨u, hu⟩ := hcell j (by omega)
       rw [← hnews, List.getElem?_map, List.getElem?_range hlt] at hj
       simp [hu] at hj
       exact ⟨hlt, hj ▸ hu⟩
     have hcur : n * 1 ≤ cur.size := by rw [q6]; exact Nat.mul_le_mul_right _ q4
     have h1n : ∀ v ∈ news, v.oneCell' = true := fun v hv => by
       obtain ⟨j, hj⟩ := List.getElem?_of_mem hv
       obtain ⟨k6, k7⟩ := hnget j v hj
       exact h12 j v (by omega) k7
     have := turned (id := id) (lo := 0) (e1 := e1) (e1' := fun q => if q < min n2 n then e2 q else e1 q) (q := some (n = n)) news k1 k2 q3 (by omega) h1n k5 (fun i hi => by
       show (if i < min n2 n then e2 i else e1 i).length = 1
       split
       · exact hl2 i (by omega)
       · exact k3 i hi) (fun i c x hi hcc hxx => by
       replace hcc : (if i < min n2 n then e2 i else e1 i)[0]? = some c := hcc
       by_cases hin : i < min n2 n
       · rw [if_pos hin] at hcc
         rw [if_pos (by omega)] at hxx
         obtain ⟨_, k7⟩ := hnget _ _ hxx
         exact hc2 i 0 c x (by omega) hcc (by rw [Nat.mul_one, Nat.add_zero]; exact k7)
       · rw [if_neg hin] at hcc
         rw [if_neg (by omega)] at hxx
         exact k4 i 0 c x hi hcc (by simpa using hxx)) (by
       rw [hye, hze]
       exact core (ty := ty) (n := 0) (cap := 0) (us := []) 0 n cap ad2 n2 cap2 news q3 hnl (by omega) h1n (fun j v hj => I.cell (hnget j v hj).2))
     rw [hnl] at this
     exact this
 case sb id n lo hh =>
   cases x2 <;> (try simp only [] at hr) <;> (try (cases hr; done))
   rename_i id2 n2 lo2 hh2
   cases hg : mg id with
   | none => simp [hg] at hr
   | some bl =>
   cases bl <;> simp only [hg] at hr <;> (try (cases hr; done))
   rename_i ty sz n' e1
   split at hr
   rotate_left
   · cases hr
   rename_i hbb
   simp only [Bool.and_eq_true] at hbb
   obtain ⟨⟨hb2, hb3⟩, hb4⟩ := hbb
   have hsz := Nat.eq_of_beq_eq_true hb3
   have hid := Nat.eq_of_beq_eq_true hb4
   subst sz; subst id2
   cases hr
   obtain ⟨rfl, hn2, ha1, ha2, ha3, ha4⟩ := hc _ rfl
   subst n2
   have hMid : M id = some (.buf ty 1 n e1) := (hm id (by simp)).trans hg
   obtain ⟨v0, us, k1, k2, k3, k5, k4⟩ := I.blk id _ hMid
   generalize hye : a.eval y = yv at hx
   generalize hze : a.eval z = zv at hx2
   cases hx with
   | sb _ _ _ _ _ m1 sz1 yv v1 hb hle h1 he =>
   rw [k1] at hb; cases hb
   obtain ⟨gg, cap, rfl, rfl⟩ := he rfl
   cases hx2 with
   | sb _ _ _ _ _ m1 sz1 zv v1 hb' hle' h1' he' =>
   rw [k1] at hb'; cases hb'
   obtain ⟨gg', cap', q, rfl⟩ := he' rfl
   cases q
   by_cases hz : min (hh2 - lo2) (hh - lo) = 0
   · refine same hz hMid (fun i => ?_) ?_
     · rw [if_neg (by omega)]
     · rw [hye, hze]; exact nothing _ _ _ _ _ _ hz
   · rcases k2.2 with ⟨q, _⟩ | ⟨g1, cap1, cur, q, _, q3, q4, q5, q6, q7⟩
     · cases q
     cases q
     have hus : us.length = n := by have := k2.1; simpa using this
     have hcur : n ≤ cur.size := by rw [q6]; omega
     obtain ⟨news, hnews⟩ : ∃ news, (us.drop lo2).take (min (hh2 - lo2) (hh - lo)) = news := ⟨_, rfl⟩
     have hnl : news.length = min (hh2 - lo2) (hh - lo) := by rw [← hnews, List.length_take, List.length_drop]; omega
     have hnget : ∀ j, j < news.length → news[j]? = us[lo2 + j]? := fun j hj => by
       rw [← hnews, List.getElem?_take, if_pos (by omega), List.getElem?_drop]
     have h1n : ∀ v ∈ news, v.oneCell' = true := fun v hv => k5 v (by rw [← hnews] at hv; exact List.mem_of_mem_drop (List.mem_of_mem_take hv))
     have := turned (id := id) (lo := lo) (e1 := e1) (e1' := fun q => if lo ≤ q ∧ q < lo + min (hh2 - lo2) (hh - lo) then e1 (lo2 + (q - lo)) else e1 q) (q := some (n = n ∧ n = n ∧ lo ≤ hh ∧ hh ≤ n ∧ lo2 ≤ hh2 ∧ hh2 ≤ n)) news k1 k2 q3 (by omega) h1n k5 (fun i hi => by
       show (if lo ≤ i ∧ i < lo + min (hh2 - lo2) (hh - lo) then e1 (lo2 + (i - lo)) else e1 i).length = 1
       split
       · exact k3 _ (by omega)
       · exact k3 i hi) (fun i c x hi hcc hxx => by
       replace hcc : (if lo ≤ i ∧ i < lo + min (hh2 - lo2) (hh - lo) then e1 (lo2 + (i - lo)) else e1 i)[0]? = some c := hcc
       by_cases hin : lo ≤ i ∧ i < lo + min (hh2 - lo2) (hh - lo)
       · rw [if_pos hin] at hcc
         rw [if_pos (by omega), hnget _ (by omega)] at hxx
         exact k4 _ 0 c x (by omega) hcc (by simpa using hxx)
       · rw [if_neg hin] at hcc
         rw [if_neg (by omega)] at hxx
         exact k4 i 0 c x hi hcc (by simpa using hxx)) (by
       have e1' : (if cap = lo then (⟨gg, 0, none⟩ : Addr) else ⟨gg, lo * 1, none⟩) = ⟨gg, lo, none⟩ := by rw [if_neg (by omega), Nat.mul_one]
       have e2' : (if cap = lo2 then (⟨gg, 0, none⟩ : Addr) else ⟨gg, lo2 * 1, none⟩) = ⟨gg, lo2, none⟩ := by rw [if_neg (by omega), Nat.mul_one]
       rw [hye, hze, e1', e2']
       refine core (ty := ty) (n := 0) (cap := 0) (us := []) lo (hh - lo) (cap - lo) ⟨gg, lo2, none⟩ (hh2 - lo2) (cap - lo2) news q3 hnl (by omega) h1n (fun j v hj => ?_)
       have hlt := (List.getElem?_eq_some_iff.1 hj).1
       rw [hnget j hlt] at hj
       have := k2.cells (g := gg) rfl (lo2 + j) v hj
       rw [Addr.add_lit] at this ⊢
       simpa using this)
     rw [hnl] at this
     exact this
end
end Go.Av
end
/- Rows that are owned, and grow: a slice of one owned row; an append of owned rows to owned rows. -/
section
set_option linter.all false
namespace Go.Av
section
variable {P : Program} {N : Nat} {C : Ctx} {h : Hp} {ρ : Rho} {F : Fr} {M : Mm} {g : Nat} {a : Act} {w : World} {Γ : Tys} {mg : Mm} {o : Oper}
theorem gridOf_size {own : List Nat} {d : Nat} {E : TyD} {ty sz : Nat} (h : gridOf Γ own d E = some (ty, sz)) : E.size = 1 := by
 unfold gridOf at h
 repeat' split at h
 all_goals first
   | (cases h; done)
   | (rename_i hb; exact Nat.eq_of_beq_eq_true hb)
theorem ev_rowLit (hΓ : TysOk P Γ) (I : InvH N C h ρ F M g a w) {own : List Nat} {t : TypeId} {n : Nat} {ps : Array (Nat × Operand)} (ho : o.op = .buildSlice t n ps) {T : TyD} (hT : tyOf Γ t = some T) {e : TypeId} (hd : T.d = .slice e)
   {E : TyD} (hE : tyOf Γ e = some E) (hsz : n * E.size ≤ 16777216) {val : Operand → AV} (hv : ∀ x, x ∈ o.op.operands → Rel h ρ (val x) (a.eval x)) {cs : List AV}
   (hl : layParts (repL (zeros E.zero) n) (fun i => some (i * E.size, E.size)) (valsOf val ps.toList) = some cs) {r : R} (hr : evRowLit Γ own mg o e E n cs = some r)
   (hm : ∀ id, id ∈ r.rd → M id = mg id) (hc : ∀ q, r.cs = some q → q) : Good P N C h ρ F M g a o w r := by
 unfold evRowLit at hr
 split at hr
 rotate_left
 · cases hr
 rename_i id k
 split at hr
 rotate_left
 · cases hr
 rename_i d hd'
 split at hr
 rotate_left
 · cases hr
 rename_i hmd
 split at hr
 rotate_left
 · cases hr
 rename_i ty sz hgo
 split at hr
 rotate_left
 · cases hr
 rename_i ty2 sz2 k2 e2 hmi
 split at hr
 rotate_left
 · cases hr
 rename_i hbb
 simp only [Bool.and_eq_true] at hbb
 have q1 := Nat.eq_of_beq_eq_true hbb.1
 have q2 := Nat.eq_of_beq_eq_true hbb.2
 subst q1; subst q2
 cases hr
 obtain rfl := hc _ rfl
 have hdn : M d = none := (hm d (by simp)).trans hmd
 have hM : M id = some (.buf ty sz k e2) := (hm id (by simp)).trans hmi
 have hne : id ≠ d := by rintro rfl; rw [hM] at hdn; cases hdn
 have hE1 := gridOf_size hgo
 obtain ⟨us, h1, h2, h3⟩ := run_buildSlice (w := w) hΓ hT hd hE hsz (fun p hp => hv p.2 (by rw [ho]; exact mem_parts hp)) hl
 obtain ⟨v0, xs, f1, f2, f3, f5, f4⟩ := I.blk id _ hM
 match us, h2 with
 | [v2], _ =>
 have hrel := h1.2 0 _ v2 rfl rfl
 have hx : v2 = v0 ∧ v0.oneCell' = true := by
   cases hrel with
   | buf _ _ _ _ _ _ _ hb hle k1 he => rw [f1] at hb; cases hb; have := he rfl; subst this; exact ⟨rfl, k1⟩
 obtain ⟨rfl, hone⟩ := hx
 have hlt : ∀ b, v2.ownBlock = some b → b < w.heap.size ∧ h b = none := fun b hb => ⟨(I.own id _ b f1 hb).2.1, (I.own id _ b f1 hb).1⟩
 obtain ⟨ρ', hρ'⟩ : ∃ ρ', upd (upd ρ d (some (.grid (.slice (some ⟨w.heap.size, 0, none⟩) 1 1) sz [(k, v2)]))) id (some (.sl (k + 1) sz (.slice none 0 0))) = ρ' := ⟨_, rfl⟩
 have r1 : ρ' d = some (.grid (.slice (some ⟨w.heap.size, 0, none⟩) 1 1) sz [(k, v2)]) := by rw [← hρ', upd_other _ _ (Ne.symm hne), upd_same]
 have r2 : ρ' id = some (.sl (k + 1) sz (.slice none 0 0)) := by rw [← hρ', upd_same]
 have r3 : ∀ j, ¬ (j = d ∨ j = id) → ρ' j = ρ j := fun j hj => by rw [← hρ', upd_other _ _ (fun e => hj (.inr e)), upd_other _ _ (fun e => hj (.inl e))]
 have hρd := I.dom d hdn
 have hrow : ∀ (ii : Nat) (y : Nat × Value), ([(k, v2)] : List (Nat × Value))[ii]? = some y → ii = 0 ∧ y = (k, v2) := fun ii y hy => by
   cases ii with
   | zero => simp at hy; exact ⟨rfl, hy.symm⟩
   | succ ii => simp at hy
 refine ⟨.slice (some ⟨w.heap.size, 0, none⟩) 1 1, w.alloc (.cells [v2].toArray e), h, ρ', .inl ?_, I.step (S := fun j => j = d ∨ j = id) (w' := w.alloc (.cells [v2].toArray e)) rfl rfl rfl (by simp)
   (fun kk hk _ => RowKit.Below.heap_alloc w _ kk hk) r3 ?_ (fun _ _ h => h) (fun _ _ h => .inl h) ?_ ?_ ?_ ?_ ?_, .gb _ _ _ _ _ r1 (fun v1 sz1 rows1 ee => by cases ee; exact ⟨Nat.le_refl _, fun _ => rfl⟩) rfl⟩
 · unfold execOp
   simp only [ho, Sem.run_bind, h3, Result.andThen_ok, Sem.run_pure]
 · intro j li hj
   by_cases hj1 : j = d
   · subst hj1; rw [hρd] at hj; cases hj
   · by_cases hj2 : j = id
     · subst hj2
       rw [f1] at hj; cases hj
       exact ⟨_, r2, .inr (.inl ⟨_, _, _, _, _, rfl, rfl, Nat.lt_succ_self _⟩)⟩
     · exact ⟨li, by rw [r3 j (by simp [hj1, hj2])]; exact hj, .inl rfl⟩
 · intro j hj
   simp only [not_or] at hj
   show updL M _ j = M j
   simp only [updL]
   rw [upd_other _ _ hj.2, upd_other _ _ hj.1]
 · rintro j (rfl | rfl) hM'
   · simp only [updL] at hM'; rw [upd_other _ _ (Ne.symm hne), upd_same] at hM'; cases hM'
   · simp only [updL] at hM'; rw [upd_same] at hM'; cases hM'
 · rintro j y (rfl | rfl) hM'
   · simp only [updL] at hM'; rw [upd_other _ _ (Ne.symm hne), upd_same] at hM'; cases hM'
     refine ⟨_, _, r1, rfl, ⟨rfl, .inr ⟨w.heap.size, 1, [v2].toArray, rfl, Nat.zero_le _, heap_alloc_new w _, Nat.le_refl _, by unfold maxLen; omega, rfl, rfl⟩⟩, fun ii y hy => ?_, fun ii ii' y y' bb hy hy' hb1 hb2 => ?_, fun ii y bb hy hb1 hb2 => ?_⟩
     · obtain ⟨rfl, rfl⟩ := hrow ii y hy
       exact ⟨rfl, hone, xs, ownsRow_same f2 (fun bb hbb => RowKit.Below.heap_alloc w _ bb (hlt bb hbb).1), f3, f5, f4⟩
     · obtain ⟨rfl, _⟩ := hrow ii y hy
       obtain ⟨rfl, _⟩ := hrow ii' y' hy'
       rfl
     · obtain ⟨rfl, rfl⟩ := hrow ii y hy
       have := (hlt bb hb1).1
       simp [Value.ownBlock] at hb2
       omega
   · simp only [updL] at hM'; rw [upd_same] at hM'; cases hM'
     exact ⟨_, _, r2⟩
 · rintro j li bb (rfl | rfl) hr hb1
   · rw [r1] at hr; cases hr
     rcases hb1 with hb1 | ⟨y, hy, hb1⟩
     · simp [Value.ownBlock] at hb1
       subst hb1
       refine .inr ⟨Nat.le_refl _, by simp, ?_⟩
       cases hb : h w.heap.size with
       | none => rfl
       | some o' => have := I.hlt hb; omega
     · simp at hy; subst hy
       exact .inl ⟨id, _, .inr rfl, f1, hb1⟩
   · rw [r2] at hr; cases hr
     simp [LI.owns, Value.ownBlock] at hb1
 · rintro j j' li li' bb (rfl | rfl) (rfl | rfl) hr hr' hb1 hb2
   · rfl
   · rw [r2] at hr'; cases hr'; simp [LI.owns, Value.ownBlock] at hb2
   · rw [r2] at hr; cases hr; simp [LI.owns, Value.ownBlock] at hb1
   · rfl
theorem ev_appendG (hΓ : TysOk P Γ) (I : InvH N C h ρ F M g a w) {t : TypeId} {x y : Operand} (ho : o.op = .call { callee := .builtin .append, args := #[x, y], argTypes := #[t, t] }) {id n id2 n2 : Nat} (hx : Rel h ρ (.gb id n) (a.eval x)) (hy : Rel h ρ (.gb id2 n2) (a.eval y)) {r : R}
   (hr : evAppendG Γ mg t id n id2 n2 = some r) (hm : ∀ id, id ∈ r.rd → M id = mg id) (hc : ∀ q, r.cs = some q → q) : Good P N C h ρ F M g a o w r := by
 unfold evAppendG at hr
 split at hr
 rotate_left
 · cases hr
 rename_i T hT
 split at hr
 rotate_left
 · cases hr
 rename_i e hd
 split at hr
 rotate_left
 · cases hr
 rename_i E hE
 split at hr
 rotate_left
 · cases hr
 rename_i hb0
 split at hr
 rotate_left
 · cases hr
 rename_i tS ty sz n' m el hg1
 split at hr
 rotate_left
 · cases hr
 rename_i tS2 ty2 sz2 n2' m2 el2 hg2
 split at hr
 rotate_left
 · cases hr
 rename_i hbb
 simp only [Bool.and_eq_true, Bool.not_eq_true'] at hb0 hbb
 have hE1 := Nat.eq_of_beq_eq_true hb0.1
 have q1 := Nat.eq_of_beq_eq_true hbb.1.1
 have q2 := Nat.eq_of_beq_eq_true hbb.1.2
 have q3 := Nat.eq_of_beq_eq_true hbb.2
 subst q1; subst q2; subst q3
 cases hr
 obtain ⟨rfl, rfl, hpos, hroom⟩ := hc _ rfl
 have hne : id ≠ id2 := fun ee => by subst ee; simp at hb0
 have hM1 := (hm id (by simp)).trans hg1
 have hM2 := (hm id2 (by simp)).trans hg2
 have hEy := hΓ tS E hE
 have hu := (hΓ t T hT).und_slice hd
 obtain ⟨i, i1, i2, i3, i4⟩ := hEy.info
 obtain ⟨v0, rows, e1, e0, e3, e4, e5, e6⟩ := I.blk id _ hM1
 obtain ⟨v2, rows2, f1, f0, f3, f4, f5, f6⟩ := I.blk id2 _ hM2
 have hx1 : a.eval x = v0 := by
   generalize a.eval x = z at hx
   cases hx with
   | gb _ _ _ _ _ hb hgg k1 => rw [e1] at hb; cases hb; exact (hgg _ _ _ rfl).2 e0.symm
 have hy1 : a.eval y = v2 := by
   generalize a.eval y = z at hy
   cases hy with
   | gb _ _ _ _ _ hb hgg k1 => rw [f1] at hb; cases hb; exact (hgg _ _ _ rfl).2 f0.symm
 have f3' := f3
 rcases f3.2 with ⟨_, q⟩ | ⟨g2, cap2, cur2, rfl, _⟩
 · omega
 have hcells := fun j u hj => f3'.cells (g := g2) rfl j u hj
 obtain ⟨v', w', r1, own', gr, _, r5⟩ := run_append_own_at (P := P) w 0 t o.type tS i E.zeroV 1 E.bytes hu i1 i4 (i2.trans hE1) i3 (by rw [zeroV_cells hEy]; simpa [hE1] using hEy.len) (by omega) v0 n (rows.map (·.2)) e3
   ⟨g2, 0, none⟩ n2 cap2 (rows2.map (·.2)) (by simp; omega) (fun j u hj => by rw [Addr.add_lit, Nat.zero_add]; have := hcells j u hj; rwa [Addr.add_lit, Nat.zero_add] at this) (fun u hu' => by
     obtain ⟨rw_, hr, rfl⟩ := List.mem_map.1 hu'
     obtain ⟨k, hk⟩ := List.getElem?_of_mem hr
     exact (f4 k rw_ hk).2.1) (room_max hroom) hroom.1 (Nat.zero_le _)
 have own1 : ∀ b, v0.ownBlock = some b → b < w.heap.size ∧ h b = none := fun b hb => ⟨(I.own id _ b e1 (.inl hb)).2.1, (I.own id _ b e1 (.inl hb)).1⟩
 have ownr1 : ∀ (k : Nat) (y : Nat × Value) (b : Nat), rows[k]? = some y → y.2.ownBlock = some b → b < w.heap.size := fun k y b hk hb => (I.own id _ b e1 (.inr ⟨y, List.mem_of_getElem? hk, hb⟩)).2.1
 have ownr2 : ∀ (k : Nat) (y : Nat × Value) (b : Nat), rows2[k]? = some y → y.2.ownBlock = some b → b < w.heap.size := fun k y b hk hb => (I.own id2 _ b f1 (.inr ⟨y, List.mem_of_getElem? hk, hb⟩)).2.1
 have sep : ∀ (li : LI) (b : Nat), ρ id = some li → li.owns b → ∀ (k : Nat) (y : Nat × Value), rows2[k]? = some y → y.2.ownBlock ≠ some b := fun li b hli hb k y hk hy => hne (I.inj id id2 _ _ b hli f1 hb (.inr ⟨y, List.mem_of_getElem? hk, hy⟩))
 obtain ⟨ρ', hρ'⟩ : ∃ ρ', upd (upd ρ id (some (.grid v' sz (rows ++ rows2)))) id2 (some (.sl 0 sz (.slice none 0 0))) = ρ' := ⟨_, rfl⟩
 have s1 : ρ' id = some (.grid v' sz (rows ++ rows2)) := by rw [← hρ', upd_other _ _ hne, upd_same]
 have s2 : ρ' id2 = some (.sl 0 sz (.slice none 0 0)) := by rw [← hρ', upd_same]
 have s3 : ∀ j, ¬ (j = id ∨ j = id2) → ρ' j = ρ j := fun j hj => by rw [← hρ', upd_other _ _ (fun e => hj (.inr e)), upd_other _ _ (fun e => hj (.inl e))]
 have hcase : ∀ (ii : Nat) (y : Nat × Value), (rows ++ rows2)[ii]? = some y → (ii < n ∧ rows[ii]? = some y) ∨ (n ≤ ii ∧ rows2[ii - n]? = some y) := fun ii y hy => by
   by_cases hi : ii < n
   · rw [List.getElem?_append_left (by omega)] at hy; exact .inl ⟨hi, hy⟩
   · rw [List.getElem?_append_right (by omega), e0] at hy; exact .inr ⟨by omega, hy⟩
 have hvb : ∀ (k : Nat) (y : Nat × Value) (b : Nat), (rows ++ rows2)[k]? = some y → y.2.ownBlock = some b → v0.ownBlock ≠ some b := fun k y b hk hb hv => by
   rcases hcase k y hk with ⟨_, hk⟩ | ⟨_, hk⟩
   · exact e6 k y b hk hb hv
   · exact sep _ b e1 (.inl hv) _ y hk hb
 have hlt : ∀ (k : Nat) (y : Nat × Value) (b : Nat), (rows ++ rows2)[k]? = some y → y.2.ownBlock = some b → b < w.heap.size := fun k y b hk hb => by
   rcases hcase k y hk with ⟨_, hk⟩ | ⟨_, hk⟩
   · exact ownr1 k y b hk hb
   · exact ownr2 _ y b hk hb
 have hcell : v'.oneCell' = true := by
   rcases own'.2 with ⟨rfl, _⟩ | ⟨_, _, _, rfl, _⟩ <;> rfl
 refine ⟨v', w', h, ρ', .inl (execOp_append ho (by rw [hx1, hy1]; exact r1)), I.step (S := fun j => j = id ∨ j = id2) (w' := w') gr.os gr.tape gr.output gr.size
   (fun kk hk hn => gr.block kk hk (fun ee => hn id _ (.inl rfl) e1 (.inl ee.symm))) s3 ?_ (fun _ _ h => h) (fun _ _ h => .inl h) ?_ ?_ ?_ ?_ ?_, .gb _ _ _ _ _ s1 (fun v1 sz1 rows1 ee => by cases ee; exact ⟨by simp; omega, fun _ => rfl⟩) hcell⟩
 · intro j li hj
   by_cases hj1 : j = id
   · subst hj1
     rw [e1] at hj; cases hj
     exact ⟨_, s1, .inr (.inr (.inl ⟨_, _, _, _, _, rfl, rfl, by simp, fun ee => absurd ee (by rw [List.length_append]; omega), fun ii mm x hh => .inl (by rw [List.getElem?_append_left (List.getElem?_eq_some_iff.1 hh).1]; exact hh)⟩))⟩
   · by_cases hj2 : j = id2
     · subst hj2
       rw [f1] at hj; cases hj
       exact ⟨_, s2, .inr (.inr (.inr ⟨_, _, _, _, _, rfl, rfl⟩))⟩
     · exact ⟨li, by rw [s3 j (by simp [hj1, hj2])]; exact hj, .inl rfl⟩
 · intro j hj
   simp only [not_or] at hj
   show updL M _ j = M j
   simp only [updL]
   rw [upd_other _ _ hj.2, upd_other _ _ hj.1]
 · rintro j (rfl | rfl) hM'
   · simp only [updL] at hM'; rw [upd_other _ _ hne, upd_same] at hM'; cases hM'
   · simp only [updL] at hM'; rw [upd_same] at hM'; cases hM'
 · rintro j y (rfl | rfl) hM'
   · simp only [updL] at hM'; rw [upd_other _ _ hne, upd_same] at hM'; cases hM'
     refine ⟨_, _, s1, by simp; omega, by rw [List.map_append]; exact own', fun ii y hy => ?_, fun ii ii' y y' bb hy hy' hb1 hb2 => ?_, fun ii y bb hy hb1 hb2 => ?_⟩
     · have hk : ∀ b, y.2.ownBlock = some b → w'.heap[b]? = w.heap[b]? := fun b hb => gr.block b (hlt ii y b hy hb) (fun ee => hvb ii y b hy hb ee.symm)
       rcases hcase ii y hy with ⟨hi, hy1⟩ | ⟨hi, hy1⟩
       · obtain ⟨g0, g1, xs, g2', g3, g4, g5⟩ := e4 ii y hy1
         refine ⟨by show y.1 = if ii < n then m ii else m2 (ii - n); rw [if_pos hi]; exact g0, g1, xs, ownsRow_same g2' hk, fun j hj => ?_, g4, fun j k c u hj hc' hu' => ?_⟩
         · simp only [hi, if_true] at hj ⊢; exact g3 j hj
         · simp only [hi, if_true] at hj hc'; exact g5 j k c u hj hc' hu'
       · obtain ⟨g0, g1, xs, g2', g3, g4, g5⟩ := f4 _ y hy1
         have hi' : ¬ ii < n := by omega
         refine ⟨by show y.1 = if ii < n then m ii else m2 (ii - n); rw [if_neg hi']; exact g0, g1, xs, ownsRow_same g2' hk, fun j hj => ?_, g4, fun j k c u hj hc' hu' => ?_⟩
         · simp only [hi', if_false] at hj ⊢; exact g3 j hj
         · simp only [hi', if_false] at hj hc'; exact g5 j k c u hj hc' hu'
     · rcases hcase ii y hy with ⟨hi, hy1⟩ | ⟨hi, hy1⟩ <;> rcases hcase ii' y' hy' with ⟨hi', hy1'⟩ | ⟨hi', hy1'⟩
       · exact e5 ii ii' y y' bb hy1 hy1' hb1 hb2
       · exact absurd hb2 (sep _ bb e1 (.inr ⟨y, List.mem_of_getElem? hy1, hb1⟩) _ y' hy1')
       · exact absurd hb1 (sep _ bb e1 (.inr ⟨y', List.mem_of_getElem? hy1', hb2⟩) _ y hy1)
       · have := f5 _ _ y y' bb hy1 hy1' hb1 hb2
         omega
     · rcases r5 with q | q
       · rw [q] at hb2; exact hvb ii y bb hy hb1 hb2
       · rw [q] at hb2; cases hb2
         have := hlt ii y _ hy hb1
         omega
   · simp only [updL] at hM'; rw [upd_same] at hM'; cases hM'
     exact ⟨_, _, s2⟩
 · rintro j li bb (rfl | rfl) hr hb1
   · rw [s1] at hr; cases hr
     rcases hb1 with hb1 | ⟨y, hy, hb1⟩
     · rcases r5 with q | q
       · exact .inl ⟨j, _, .inl rfl, e1, .inl (q ▸ hb1)⟩
       · rw [q] at hb1; cases hb1
         refine .inr ⟨Nat.le_refl _, (own'.lt _ q).2, ?_⟩
         cases hb : h w.heap.size with
         | none => rfl
         | some o' => have := I.hlt hb; omega
     · rcases List.mem_append.1 hy with hy | hy
       · exact .inl ⟨j, _, .inl rfl, e1, .inr ⟨y, hy, hb1⟩⟩
       · exact .inl ⟨id2, _, .inr rfl, f1, .inr ⟨y, hy, hb1⟩⟩
   · rw [s2] at hr; cases hr
     simp [LI.owns, Value.ownBlock] at hb1
 · rintro j j' li li' bb (rfl | rfl) (rfl | rfl) hr hr' hb1 hb2
   · rfl
   · rw [s2] at hr'; cases hr'; simp [LI.owns, Value.ownBlock] at hb2
   · rw [s2] at hr; cases hr; simp [LI.owns, Value.ownBlock] at hb1
   · rfl
end
end Go.Av
end
/- The evaluator is right: the whole, for operations that call no Go function. -/
section
set_option linter.all false
namespace Go.Av
section
variable {P : Program} {N : Nat} {C : Ctx} {h : Hp} {ρ : Rho} {F : Fr} {M : Mm} {g : Nat} {a : Act} {w : World} {Γ : Tys} {mg : Mm} {o : Oper} {own : List Nat}
theorem list_one {α : Type} {l : List α} (h : l.length = 1) : ∃ x, l = [x] := by
 match l, h with
 | [x], _ => exact ⟨x, rfl⟩
theorem list_two {α : Type} {l : List α} (h : l.length = 2) : ∃ x y, l = [x, y] := by
 match l, h with
 | [x, y], _ => exact ⟨x, y, rfl⟩
theorem ev_builtin (hΓ : TysOk P Γ) (I : InvH N C h ρ F M g a w) {b : Builtin} {args : Array Operand} {tsa : Array TypeId} (ho : o.op = .call { callee := .builtin b, args := args, argTypes := tsa }) {val : Operand → AV} (hv : ∀ y, y ∈ o.op.operands → Rel h ρ (val y) (a.eval y)) {r : R}
   (hr : evBuiltin Γ mg o b tsa.toList (mapAV val args.toList) = some r) (hm : ∀ id, id ∈ r.rd → M id = mg id) (hc : ∀ q, r.cs = some q → q) : Good P N C h ρ F M g a o w r := by
 have hargs : ∀ x ∈ args.toList, Rel h ρ (val x) (a.eval x) := fun x hx => hv x (mem_callArgs ho hx)
 have hrel := mapAV_rel args.toList hargs
 unfold evBuiltin at hr
 split at hr
 · -- len
   rename_i t ts x hts hxs
   rw [mapAV_map] at hxs
   obtain ⟨y, hy⟩ : ∃ y, args.toList = [y] := list_one (by have := congrArg List.length hxs; simpa using this)
   have hxy : x = val y := by rw [hy] at hxs; simp at hxs; exact hxs.symm
   subst hxy
   exact ev_len hΓ I ho hts hy (hargs y (by rw [hy]; simp)) (by simp only [evBuiltin]; exact hr) hm hc
 · -- clear
   rename_i t ts x hts hxs
   rw [mapAV_map] at hxs
   obtain ⟨y, hy⟩ : ∃ y, args.toList = [y] := list_one (by have := congrArg List.length hxs; simpa using this)
   have hxy : x = val y := by rw [hy] at hxs; simp at hxs; exact hxs.symm
   subst hxy
   exact ev_clear hΓ I ho hts hy (hargs y (by rw [hy]; simp)) hr hm hc
 · -- copy
   rename_i t t2 x1 x2 hts hxs
   rw [mapAV_map] at hxs
   obtain ⟨y, z, hyz⟩ : ∃ y z, args.toList = [y, z] := list_two (by have := congrArg List.length hxs; simpa using this)
   have hs : x1 = val y ∧ x2 = val z := by rw [hyz] at hxs; simp at hxs; exact ⟨hxs.1.symm, hxs.2.symm⟩
   obtain ⟨rfl, rfl⟩ := hs
   exact ev_copy hΓ I ho hts hyz (hargs y (by rw [hyz]; simp)) (hargs z (by rw [hyz]; simp)) hr hm hc
 · -- append
   rename_i t t' s x hts hxs
   rw [mapAV_map] at hxs
   obtain ⟨y, z, hyz⟩ : ∃ y z, args.toList = [y, z] := list_two (by have := congrArg List.length hxs; simpa using this)
   have hs : s = val y ∧ x = val z := by rw [hyz] at hxs; simp at hxs; exact ⟨hxs.1.symm, hxs.2.symm⟩
   obtain ⟨rfl, rfl⟩ := hs
   have hry := hargs y (by rw [hyz]; simp)
   have hrz := hargs z (by rw [hyz]; simp)
   cases hb : Nat.beq t t' with
   | false => simp [hb] at hr
   | true =>
   simp only [hb] at hr
   have htt := Nat.eq_of_beq_eq_true hb
   subst htt
   have ho' : o.op = .call { callee := .builtin .append, args := #[y, z], argTypes := #[t, t] } := by
     rw [ho]
     have e1 : args = #[y, z] := by apply Array.ext'; exact hyz
     have e2 : tsa = #[t, t] := by apply Array.ext'; exact hts
     rw [e1, e2]
   split at hr
   · rename_i id n b id2 n2 j k hvy hvz
     exact ev_appendB hΓ I ho' (hvy ▸ hry) (hvz ▸ hrz) hr hm hc
   · rename_i id n id2 n2 hvy hvz
     exact ev_appendG hΓ I ho' (hvy ▸ hry) (hvz ▸ hrz) hr hm hc
   rename_i hnsb hnsb2
   clear hnsb hnsb2
   unfold evAppend at hr
   cases hT : tyOf Γ t with
   | none => simp [hT] at hr
   | some T =>
   simp only [hT] at hr
   cases hd : T.d <;> simp only [hd] at hr <;> (try (cases hr; done))
   rename_i e
   cases hE : tyOf Γ e with
   | none => simp [hE] at hr
   | some E =>
   simp only [hE] at hr
   cases hro : asRo mg (val z) with
   | none => simp [hro] at hr
   | some q =>
   obtain ⟨sz2, n2, e2, rd, c⟩ := q
   simp only [hro] at hr
   cases hb2 : Nat.beq sz2 E.size with
   | false => simp [hb2] at hr
   | true =>
   simp only [hb2] at hr
   have hsz := Nat.eq_of_beq_eq_true hb2
   subst hsz
   cases hpos : E.size with
   | zero => simp [hpos] at hr
   | succ k =>
   have hpos' : 0 < E.size := by omega
   simp only [hpos] at hr
   rw [← hpos] at hr
   cases hvy : val y <;> simp only [hvy] at hr <;> (try (cases hr; done))
   case nilS =>
     cases hf : fresh mg o with
     | none => simp [hf] at hr
     | some d =>
     simp only [hf] at hr
     cases hr
     rw [hvy] at hry
     exact ev_append_nil hΓ I ho' hT hd hE hpos' hry hrz hro (fun id hid => hm id (by simp [hid])) ((hm d (by simp)).trans (fresh_spec hf).2) hc
   case buf id n =>
     cases hg : mg id with
     | none => simp [hg] at hr
     | some bl =>
     cases bl <;> simp only [hg] at hr <;> (try (cases hr; done))
     rename_i ty sz n' e1
     cases hb3 : Nat.beq ty e with
     | false => simp [hb3] at hr
     | true =>
     simp only [hb3] at hr
     have hte := Nat.eq_of_beq_eq_true hb3
     subst hte
     cases hb4 : Nat.beq sz E.size with
     | false => simp [hb4] at hr
     | true =>
     simp only [hb4] at hr
     cases hr
     rw [hvy] at hry
     exact ev_append_buf hΓ I ho' hT hd hE hpos' hry ((hm id (by simp)).trans hg) (Nat.eq_of_beq_eq_true hb4) hrz hro (fun j hj => hm j (by simp [hj])) hc
 · -- max
   rename_i p xs hxs
   split at hr
   · rename_i m hmx
     cases hr
     exact ev_maxmin I ho (by rw [← hxs]; exact hrel) (.inl ⟨rfl, hmx⟩)
   · cases hr
 · -- min
   rename_i p xs hxs
   split at hr
   · rename_i m hmx
     cases hr
     exact ev_maxmin I ho (by rw [← hxs]; exact hrel) (.inr ⟨rfl, hmx⟩)
   · cases hr
 · -- delete
   rename_i t ts m k hts hxs
   rw [mapAV_map] at hxs
   obtain ⟨y, z, hyz⟩ : ∃ y z, args.toList = [y, z] := list_two (by have := congrArg List.length hxs; simpa using this)
   have hs : m = val y ∧ k = val z := by rw [hyz] at hxs; simp at hxs; exact ⟨hxs.1.symm, hxs.2.symm⟩
   obtain ⟨rfl, rfl⟩ := hs
   have e1 : args = #[y, z] := by apply Array.ext'; exact hyz
   rw [e1] at ho
   exact ev_mapDel (t2 := t) hΓ I (by rw [← Array.getElem?_toList, hts]; rfl) ho (hargs y (by rw [hyz]; simp)) (hargs z (by rw [hyz]; simp)) hr hm hc rfl
 · cases hr
def isCall : Op → Bool
 | .call ⟨.value _, _, _⟩ => true
 | _ => false
theorem run_move {x : Operand} (ho : o.op = .move x ∨ o.op = .assign x) : (execOp a.eval o).run P w = .ok (.value (a.eval x)) w := by
 unfold execOp
 rcases ho with ho | ho <;> simp only [ho, Sem.run_pure]
theorem andO_left {p q : Option Prop} (H : ∀ x, andO p q = some x → x) : ∀ x, p = some x → x := by
 intro x hx
 subst hx
 cases q with
 | none => exact H _ rfl
 | some y => exact (H _ rfl).1
theorem andO_right {p q : Option Prop} (H : ∀ x, andO p q = some x → x) : ∀ x, q = some x → x := by
 intro x hx
 subst hx
 cases p with
 | none => exact H _ rfl
 | some y => exact (H _ rfl).2
theorem ro_of_own {H2 : Hp} {ty sz n : Nat} {v : Value} {us : List Value} {e : Nat → List AV} (e2 : w.ownsRow 0 ty sz v n us) (hH : ∀ b, v.ownBlock = some b → H2 b = w.heap[b]?) (e3 : ∀ i, i < n → (e i).length = sz) (e5 : ∀ x, x ∈ us → x.oneCell' = true)
   (e4 : ∀ (i j : Nat) (c : AV) (x : Value), i < n → (e i)[j]? = some c → us[i * sz + j]? = some x → Rel H2 ρ0 c x) : Rel H2 ρ0 (.ro sz n e) v := by
 rcases e2.2 with ⟨rfl, h0'⟩ | ⟨b, cap, cur, rfl, _, q3, q4, q5, q6, q7⟩
 · subst h0'
   exact .ro _ _ _ _ none 0 (fun _ => rfl) ⟨Nat.le_refl _, Nat.zero_le _⟩ (fun i hi => by omega) (fun i j hi => by omega) (fun k v hk => by simp at hk) (fun i j c v hi => by omega)
 · have key : ∀ k, k < n * sz → hcell H2 (some ⟨b, 0, none⟩) k = us[k]? := by
     intro k hk
     simp only [hcell, cellOf, Addr.add_lit]
     simp only [hH b rfl, q3]
     rw [← q7]
     simp [hk]
   have hlt : ∀ i j, i < n → j < sz → i * sz + j < n * sz := by
     intro i j hi hj
     calc i * sz + j < i * sz + sz := by omega
       _ = (i + 1) * sz := by rw [Nat.add_mul, Nat.one_mul]
       _ ≤ n * sz := Nat.mul_le_mul_right _ hi
   refine .ro _ _ _ _ _ _ (fun e => by cases e) ⟨q4, Nat.le_trans q4 q5⟩ e3 (fun i j hi hj => ?_) (fun k v hk hv => ?_) (fun i j c v hi hj hv => ?_)
   · rw [key _ (hlt i j hi hj)]
     have := hlt i j hi hj
     rw [← e2.1] at this
     simp [this]
   · rw [key _ hk] at hv
     exact e5 v (List.mem_of_getElem? hv)
   · have hj' : j < sz := by rw [← e3 i hi]; exact (List.getElem?_eq_some_iff.1 hj).1
     rw [key _ (hlt i j hi hj')] at hv
     exact e4 i j c v hi hj hv
theorem InvH.frz (I : InvH N C h ρ F M g a w) (hbor : ∀ b, ¬ C.bor b) {id ty sz n : Nat} {e : Nat → List AV} (hM : M id = some (.buf ty sz n e)) :
   ∃ h' ρ' v, InvH N C h' ρ' F (upd M id (some .dead)) g a w ∧ ρ id = some (.sl n sz v) ∧ Rel h' ρ' (.ro sz n e) v := by
 obtain ⟨v, us, k1, k2, k3, k5, k4⟩ := I.blk id _ hM
 classical
 let h' : Hp := fun b => if v.ownBlock = some b then w.heap[b]? else h b
 let ρ' : Rho := upd ρ id (some (.sl (n + 1) sz (.slice none 0 0)))
 have hdead : ρ' id = some (.sl (n + 1) sz (.slice none 0 0)) := upd_same _ _ _
 have hoth : ∀ j, j ≠ id → ρ' j = ρ j := fun j hj => upd_other _ _ hj
 have hin : ∀ b, v.ownBlock = some b → h' b = w.heap[b]? := fun b hb => if_pos hb
 have hle : ∀ b o, h b = some o → h' b = some o := by
   intro b o hb
   show (if v.ownBlock = some b then w.heap[b]? else h b) = some o
   split
   · exact I.hp b o hb
   · exact hb
 have hge : ∀ b, v.ownBlock = some b → C.w0.heap.size ≤ b := fun b hb => (I.own id _ b k1 hb).2.2.resolve_right (hbor b)
 have hnew : ∀ b o, h' b = some o → (v.ownBlock = some b ∧ w.heap[b]? = some o) ∨ h b = some o := by
   intro b o hb
   have : (if v.ownBlock = some b then w.heap[b]? else h b) = some o := hb
   split at this
   · exact .inl ⟨by assumption, this⟩
   · exact .inr this
 have hrl : ∀ j l, ρ j = some l → ∃ l', ρ' j = some l' ∧ l.le l' := by
   intro j l hj
   by_cases e1 : j = id
   · subst e1
     rw [k1] at hj; cases hj
     exact ⟨_, hdead, .inr (.inl ⟨_, _, _, _, _, rfl, rfl, Nat.lt_succ_self _⟩)⟩
   · exact ⟨l, by rw [hoth j e1]; exact hj, .inl rfl⟩
 have howns : ∀ b, ¬ (LI.sl (n + 1) sz (.slice none 0 0)).owns b := fun b hb => by simp [LI.owns, Value.ownBlock] at hb
 refine ⟨h', ρ', v, { I with slot := fun t => (I.slot t).mono (Le.of hle) hrl, sav := ⟨I.sav.1, fun i c x h1 h2 => (I.sav.2 i c x h1 h2).mono (Le.of hle) hrl⟩, hp := fun b o hb => ?_, blk := fun i x hx => ?_, dom := fun i hi => ?_, own := fun i li b q1 q2 => ?_, inj := fun i i' li li' b q1 q1' q2 q2' => ?_, ext := fun b o hb => hle b o (I.ext b o hb), old := fun b o hb hlt => ?_, gst := ?_, dfr := ?_ }, k1, (ro_of_own k2 (fun b hb => hin b hb) k3 k5 (fun i j c x a1 a2 a3 => (k4 i j c x a1 a2 a3).heap (Le.of hle))).closed⟩
 · rcases hnew b o hb with q | q
   · exact q.2
   · exact I.hp b o q
 · by_cases e1 : i = id
   · subst e1
     rw [upd_same] at hx; cases hx
     exact ⟨_, _, hdead⟩
   · rw [upd_other _ _ e1] at hx
     exact (I.blk i x hx).keep (Le.of hle) (hoth i e1) hrl (fun _ _ _ _ => rfl)
 · by_cases e1 : i = id
   · subst e1; rw [upd_same] at hi; cases hi
   · rw [upd_other _ _ e1] at hi; rw [hoth i e1]; exact I.dom i hi
 · by_cases e1 : i = id
   · subst e1; rw [hdead] at q1; cases q1; exact absurd q2 (howns b)
   · rw [hoth i e1] at q1
     obtain ⟨q3, q4, q5⟩ := I.own i li b q1 q2
     refine ⟨?_, q4, q5⟩
     show (if v.ownBlock = some b then w.heap[b]? else h b) = none
     rw [if_neg (fun q : v.ownBlock = some b => e1 (I.inj i id li _ b q1 k1 q2 q))]; exact q3
 · by_cases e1 : i = id
   · subst e1; rw [hdead] at q1; cases q1; exact absurd q2 (howns b)
   · by_cases e2 : i' = id
     · subst e2; rw [hdead] at q1'; cases q1'; exact absurd q2' (howns b)
     · rw [hoth i e1] at q1; rw [hoth i' e2] at q1'
       exact I.inj i i' li li' b q1 q1' q2 q2'
 · rcases hnew b o hb with q | q
   · exact absurd hlt (Nat.not_lt.2 (hge b q.1))
   · exact I.old b o q hlt
 · obtain ⟨X, x1, x2, x3⟩ := I.gst
   refine ⟨X, fun b ⟨i, li, q1, q2⟩ => ?_, fun b o hb => ?_, x3⟩
   · by_cases e1 : i = id
     · subst e1; rw [hdead] at q1; cases q1; exact absurd q2 (howns b)
     · rw [hoth i e1] at q1; exact x1 b ⟨i, li, q1, q2⟩
   · rcases hnew b o hb with q | q
     · exact .inr (x1 b ⟨id, _, k1, q.1⟩)
     · exact x2 b o q
 · obtain ⟨Ds, hd1, hd2, hd3⟩ := I.dfr
   exact ⟨Ds, hd1, hd2, fun D hD => ⟨hle _ _ (hd3 D hD).1, (hd3 D hD).2⟩⟩
def FzOk (own : List Nat) (C : Ctx) : Prop := noFz own = true ∨ ∀ b, ¬ C.bor b
theorem noFz_spec {d : Nat} : ∀ {own : List Nat}, noFz own = true → inList own (16777216 + d % 16777216) = false
 | [], _ => rfl
 | k :: r, h => by
   unfold noFz at h
   split at h
   · cases h
   · rename_i hb
     have hlt : ¬ (16777216 ≤ k ∧ k < 33554432) := fun hle => by
       have h1 : Nat.ble 16777216 k = true := Nat.ble_eq_true_of_le hle.1
       have h2 : Nat.blt k 33554432 = true := Nat.ble_eq_true_of_le hle.2
       rw [h1, h2] at hb; cases hb
     unfold inList
     cases hq : Nat.beq k (16777216 + d % 16777216) with
     | true => have := Nat.eq_of_beq_eq_true hq; have := Nat.mod_lt d (show 16777216 > 0 by omega); omega
     | false => exact noFz_spec h
theorem frz_rd {r0 : Option R} {r : R} (hf : frz own o r0 = some r) : ∃ r1, r0 = some r1 ∧ r1.rd = r.rd ∧ ((∀ q, r.cs = some q → q) → ∀ q, r1.cs = some q → q) := by
 cases r0 with
 | none => simp [frz] at hf
 | some r1 =>
   refine ⟨r1, rfl, ?_⟩
   unfold frz at hf
   simp only [] at hf
   split at hf
   · split at hf
     · cases hf; exact ⟨rfl, fun h => h⟩
     · split at hf
       · split at hf
         · cases hf; exact ⟨rfl, fun h => andO_right h⟩
         · cases hf
       · cases hf
   · cases hf; exact ⟨rfl, fun h => h⟩
theorem ev_frz {r1 r : R} (hf : frz own o (some r1) = some r) (hz : FzOk own C) (hc : ∀ q, r.cs = some q → q) (G : Good P N C h ρ F M g a o w r1) : Good P N C h ρ F M g a o w r := by
 unfold frz at hf
 simp only [] at hf
 split at hf
 · rename_i d hd
   split at hf
   · cases hf; exact G
   · rename_i hin
     have hbor : ∀ b, ¬ C.bor b := by
       rcases hz with hz | hz
       · rw [noFz_spec hz] at hin; cases hin
       · exact hz
     split at hf
     · rename_i id n id' ty sz n' e hv hwr hrq
       split at hf
       · rename_i hb
         have := Nat.eq_of_beq_eq_true hb
         subst this
         cases hf
         have hn : n = n' := by
           exact andO_left hc _ rfl
         subst hn
         obtain ⟨x, w', h1, ρ1, g1, g2, g3⟩ := G
         rw [hwr, updL_one] at g2
         rw [hv] at g3
         obtain ⟨h2, ρ2, v, f1, f2, f3⟩ := InvH.frz g2 hbor (upd_same _ _ _)
         have hxv : x = v := by
           cases g3 with
           | buf _ _ _ n2 sz2 _ v' hb2 hle h3 he => rw [f2] at hb2; cases hb2; exact he rfl
         subst hxv
         refine ⟨x, w', h2, ρ2, g1, ?_, f3⟩
         rw [updL_one]
         have : upd (upd M id' (some (Blk.buf ty sz n e))) id' (some .dead) = upd M id' (some .dead) := by
           funext j
           by_cases e1 : j = id'
           · subst e1; rw [upd_same, upd_same]
           · rw [upd_other _ _ e1, upd_other _ _ e1, upd_other _ _ e1]
         rw [← this]; exact f1
       · cases hf
     · cases hf
 · cases hf; exact G
theorem intsOf_spec : ∀ {cs : List AV} {l : List Int}, intsOf cs = some l → l.length = cs.length ∧ ∀ i, i < l.length → cs[i]? = some (.int .i64 (l.getD i 0))
 | [], l, h => by simp only [intsOf] at h; cases h; exact ⟨rfl, fun i hi => by simp at hi⟩
 | c :: cs, l, h => by
   cases c with
   | int k n =>
     cases k <;> simp only [intsOf] at h <;> (try (cases h; done))
     split at h
     · rename_i l' hl'
       cases h
       obtain ⟨h1, h2⟩ := intsOf_spec hl'
       refine ⟨by simp [h1], fun i hi => ?_⟩
       cases i with
       | zero => simp
       | succ i => have := h2 i (by simpa using hi); simpa using this
     · cases h
   | _ => simp [intsOf] at h
theorem dropN_of : ∀ {n : Nat} {cs : List AV}, n ≤ cs.length → dropN n cs = some (cs.drop n)
 | 0, cs, _ => by simp [dropN]
 | n + 1, [], h => by simp at h
 | n + 1, x :: cs, h => by simp only [dropN]; rw [dropN_of (by simpa using h)]; simp
theorem ofCells_int {T : TyD} (hT : T.d = .int .i64) {cs : List AV} {off : Nat} {c : AV} (h : cs[off]? = some c) : ofCells T (cs.drop off) = some c := by
 obtain ⟨hlt, hc⟩ := List.getElem?_eq_some_iff.1 h
 unfold ofCells
 rw [hT, List.drop_eq_getElem_cons hlt, hc]
 rfl
theorem ev_loadV (hΓ : TysOk P Γ) (I : InvH N C h ρ F M g a w) {t : TypeId} {x : Operand} (ho : o.op = .load t x) {T : TyD} (hT : tyOf Γ t = some T) {p : AV} (hp : Rel h ρ p (a.eval x)) {r : R}
   (hr : evLoadV mg T p = some r) (hm : ∀ id, id ∈ r.rd → M id = mg id) (hc : ∀ q, r.cs = some q → q) : Good P N C h ρ F M g a o w r := by
 unfold evLoadV at hr
 split at hr
 · rename_i hd
   split at hr
   · rename_i id off
     split at hr
     · rename_i cs hg
       split at hr
       · rename_i l hl
         cases hr
         obtain ⟨h1, h2⟩ := intsOf_spec hl
         have hlt : off < l.length := hc _ rfl
         have ht : target mg (.lp id off) = some (cs.drop off, [id], none) := by
           simp only [target, hg]; rw [dropN_of (by omega)]
         exact ev_load (c := none) hΓ I ho hT hp ht hm (fun q hq => by cases hq) (ofCells_int hd (h2 off hlt))
       · cases hr
     · cases hr
   · cases hr
 · cases hr
theorem ev_indexV (hΓ : TysOk P Γ) (I : InvH N C h ρ F M g a w) {t : TypeId} {x i : Operand} (ho : o.op = .index t x i) {T : TyD} (hT : tyOf Γ t = some T) {n : Nat} {e : TypeId} (hd : T.d = .array n e) {E : TyD} (hE : tyOf Γ e = some E)
   {p q : AV} (hp : Rel h ρ p (a.eval x)) (hq : Rel h ρ q (a.eval i)) {r : R} (hr : evIndexV E n p q = some r) (hc : ∀ q, r.cs = some q → q) : Good P N C h ρ F M g a o w r := by
 unfold evIndexV at hr
 split at hr
 · rename_i cs q' hEd
   split at hr
   rotate_left
   · cases hr
   rename_i hbs
   split at hr
   · rename_i l hl
     cases hr
     obtain ⟨h1, h2⟩ := intsOf_spec hl
     obtain ⟨c1, c2, c3⟩ := hc _ rfl
     have hsz : E.size = 1 := Nat.eq_of_beq_eq_true hbs
     have hdr : dropN (q'.toNat * E.size) cs = some (cs.drop (q'.toNat * E.size)) := dropN_of (by rw [hsz]; omega)
     have hof : ofCells E (cs.drop (q'.toNat * E.size)) = some (.int .i64 (l.getD q'.toNat 0)) := by rw [hsz, Nat.mul_one]; exact ofCells_int hEd (h2 _ c3)
     exact ev_index hΓ I ho hT hd hE hp hq hdr hof ⟨c1, c2⟩
   · cases hr
 · cases hr
theorem ev_range (hΓ : TysOk P Γ) (I : InvH N C h ρ F M g a w) {t : TypeId} {x : Operand} (ho : o.op = .range t x) {m : AV} (hp : Rel h ρ m (a.eval x)) {r : R} (hr : evRange Γ mg o t m = some r) (hm : ∀ id, id ∈ r.rd → M id = mg id) : Good P N C h ρ F M g a o w r := by
 unfold evRange at hr
 split at hr
 · rename_i T hT
   split at hr
   · rename_i kt et hd
     split at hr
     · rename_i KT hK
       split at hr
       · rename_i hKd
         split at hr
         · rename_i z dom e n
           split at hr
           · rename_i d hf
             cases hr
             generalize he : a.eval x = u at hp
             cases hp with
             | rom _ _ _ _ _ rb es clock ks hR hks hlen hel hk hborn hbd hdom hz hcc =>
             have hdn := (hm d (by simp)).trans (fresh_spec hf).2
             have hkeys : es.map (·.key) = ks.map (fun k => Value.int .i64 k) := by
               refine List.ext_getElem? (fun i => ?_)
               rw [List.getElem?_map, List.getElem?_map]
               cases hi : ks[i]? with
               | none =>
                 have : ks.length ≤ i := List.getElem?_eq_none_iff.1 hi
                 rw [List.getElem?_eq_none (by omega)]; rfl
               | some k =>
                 have hlt : i < ks.length := (List.getElem?_eq_some_iff.1 hi).1
                 have h2 : es[i]? = some es[i] := List.getElem?_eq_getElem (by omega)
                 rw [h2]
                 have := hk i k _ hi h2
                 simp [this]
             have hleft : leftOf es.toArray #[] = es.toArray := by
               unfold leftOf
               exact Array.filter_eq_self.2 (fun x _ => by simp)
             have I' := I.allocOwn hdn (.mapIter (some rb) clock #[] clock) (.blk w.heap.size) (.iter e none (fun l => l.Nodup ∧ l.length = n ∧ ∀ k, dom k = true ↔ k ∈ l)) (fun b hb => (Option.some.inj hb).symm)
               ⟨w.heap.size, rb, clock, clock, es, #[], ks, upd_same _ _ _, heap_alloc_new w _, hR, hborn, hbd, Nat.le_refl _, by rw [hleft]; exact hkeys, ⟨hks, hlen, hdom⟩, fun x hx => by
                 obtain ⟨i, hi, rfl⟩ := List.getElem_of_mem hx
                 have hik : i < ks.length := by omega
                 exact ⟨ks[i], hk i _ _ (List.getElem?_eq_getElem hik) (List.getElem?_eq_getElem hi), hcc i _ _ (List.getElem?_eq_getElem hik) (List.getElem?_eq_getElem hi)⟩, fun k hk => by cases hk⟩
             refine ⟨.pointer (some ⟨w.heap.size, 0, none⟩), _, _, _, .inl ?_, I', .lp _ _ _ _ (upd_same _ _ _)⟩
             have hund := (hΓ t T hT).und_map hd
             have hrun := run_range_map (P := P) w t kt et rb es.toArray clock hund (I.hp _ _ hR)
             unfold execOp
             simp only [ho, he, hrun, Sem.run_bind, Result.andThen_ok, Sem.run_pure]
           · cases hr
         · cases hr
       · cases hr
     · cases hr
   · cases hr
 · cases hr
theorem ev_entry (I : InvH N C h ρ F M g a w) {x : Operand} (ho : o.op = .entry x) {m : AV} (hp : Rel h ρ m (a.eval x)) {r : R} (hr : evEntry mg m = some r) (hm : ∀ id, id ∈ r.rd → M id = mg id) : Good P N C h ρ F M g a o w r := by
 unfold evEntry at hr
 split at hr
 · rename_i id
   split at hr
   · rename_i e k Pl hg
     cases hr
     obtain ⟨b, bm, clock, c0, es, seen, left, q1, q2, q3, q4, q5, q6, q7, q8, q9, q10⟩ := I.blk id _ ((hm id (by simp)).trans hg)
     obtain ⟨rfl, y, s, z1, z2, rfl⟩ := q10 k rfl
     obtain ⟨k', z3, z4⟩ := q9 y z1
     rw [z2] at z3; cases z3
     generalize he : a.eval x = u at hp
     cases hp with
     | lp _ _ _ b' hb =>
     rw [q1] at hb; cases hb
     have hrun := run_entry_at (P := P) w b bm c0 s es.toArray c0 y q2 (I.hp _ _ q3) (by simpa using z1) (by simpa using q5)
     refine Good.same I (x := .tuple #[y.key, y.val]) (.inl ?_) rfl ?_
     · unfold execOp
       simp only [ho, he, hrun, Sem.run_bind, Result.andThen_ok, Sem.run_pure]
     · rw [z2]
       refine .tup _ _ [_, _] rfl (fun i c v h1 h2 => ?_)
       match i, h1, h2 with
       | 0, h1, h2 => cases h1; cases h2; exact .int _ _ _
       | 1, h1, h2 => cases h1; cases h2; exact z4.closed
       | i + 2, h1, h2 => simp at h1
   · cases hr
 · cases hr
theorem evalOp_sound (hΓ : TysOk P Γ) (hdep : 8 ≤ P.depth) (I : InvH N C h ρ F M g a w) {val : Operand → AV} (hv : ∀ y, y ∈ o.op.operands → Rel h ρ (val y) (a.eval y)) {rv : Option RV} {r : R}
   (hr : evalOp Γ own val mg o rv = some r) (hm : ∀ id, id ∈ r.rd → M id = mg id) (hc : ∀ q, r.cs = some q → q) (hcall : isCall o.op = false) (hz : FzOk own C) : Good P N C h ρ F M g a o w r := by
 unfold evalOp at hr
 cases ho : o.op <;> simp only [ho] at hr <;> (try (cases hr; done))
 case move x => cases hr; exact Good.same I (.inl (run_move (.inl ho))) rfl (hv x (by rw [ho]; simp [Op.operands]))
 case assign x => cases hr; exact Good.same I (.inl (run_move (.inr ho))) rfl (hv x (by rw [ho]; simp [Op.operands]))
 case pick c x y =>
   have hcr := hv c (by rw [ho]; simp [Op.operands])
   have hxr := hv x (by rw [ho]; simp [Op.operands])
   have hyr := hv y (by rw [ho]; simp [Op.operands])
   unfold evPick at hr
   split at hr
   · rename_i p hp
     rw [hp] at hcr
     split at hr
     · rename_i u v hu hv'
       cases hr
       rw [hu] at hxr; rw [hv'] at hyr
       refine Good.same I (x := .bool (bif p then u else v)) (.inl ?_) rfl (.bool _ _)
       generalize hec : a.eval c = zc at hcr; generalize hex : a.eval x = zx at hxr; generalize hey : a.eval y = zy at hyr
       cases hcr; cases hxr; cases hyr
       unfold execOp
       simp only [ho, hec, hex, hey]
       cases p <;> rfl
     · rename_i u v hu hv'
       cases hr
       rw [hu] at hxr; rw [hv'] at hyr
       refine Good.same I (x := .int .i64 (bif p then u else v)) (.inl ?_) rfl (.int _ _ _)
       generalize hec : a.eval c = zc at hcr; generalize hex : a.eval x = zx at hxr; generalize hey : a.eval y = zy at hyr
       cases hcr; cases hxr; cases hyr
       unfold execOp
       simp only [ho, hec, hex, hey]
       cases p <;> rfl
     · cases hr
   · cases hr
 case alloc t =>
   cases hT : tyOf Γ t with
   | none => simp [hT] at hr
   | some T =>
   simp only [hT] at hr
   cases hf : fresh mg o with
   | none => simp [hf] at hr
   | some d =>
   simp only [hf] at hr
   cases hr
   exact ev_alloc hΓ I ho hT ((hm d (by simp)).trans (fresh_spec hf).2)
 case box t x =>
   cases hcs : cellsV (val x) with
   | none => simp [hcs] at hr
   | some cs =>
   simp only [hcs] at hr
   cases hf : fresh mg o with
   | none => simp [hf] at hr
   | some d =>
   simp only [hf] at hr
   cases hr
   exact ev_box I ho (hv x (by rw [ho]; simp [Op.operands])) hcs ((hm d (by simp)).trans (fresh_spec hf).2)
 case build t ps =>
   cases hT : tyOf Γ t with
   | none => simp [hT] at hr
   | some T =>
   simp only [hT] at hr
   cases hd : T.d <;> simp only [hd] at hr <;> (try (cases hr; done))
   case struct fs =>
     split at hr
     · rename_i cs hl; cases hr; exact ev_build_struct hΓ I ho hT hd hv hl
     · cases hr
   case array n e =>
     cases hE : tyOf Γ e with
     | none => simp [hE] at hr
     | some E =>
     simp only [hE] at hr
     split at hr
     · rename_i cs hl; cases hr; exact ev_build_array hΓ I ho hT hd hE hv hl
     · cases hr
 case buildSlice t n ps =>
   cases hT : tyOf Γ t with
   | none => simp [hT] at hr
   | some T =>
   simp only [hT] at hr
   cases hd : T.d <;> simp only [hd] at hr <;> (try (cases hr; done))
   rename_i e
   cases hE : tyOf Γ e with
   | none => simp [hE] at hr
   | some E =>
   simp only [hE] at hr
   cases hle : Nat.ble (n * E.size) 16777216 with
   | false => simp [hle] at hr
   | true =>
   simp only [hle] at hr
   split at hr
   · rename_i cs hl
     split at hr
     · rename_i hvc
       split at hr
       · rename_i hsi
         split at hr
         · rename_i d hd'
           split at hr
           · split at hr
             · rename_i hmd
               split at hr
               · rename_i hnle
                 cases hr
                 exact ev_buildSlice_own hΓ I ho hT hd hE (Nat.le_of_ble_eq_true hle) (Nat.le_of_ble_eq_true hnle) hv hl hvc hsi ((hm d (by simp)).trans hmd)
               · cases hr
             · cases hr
           · split at hr
             · rename_i hnle
               cases hr
               exact ev_buildSlice_ro hΓ I ho hT hd hE (Nat.le_of_ble_eq_true hle) hv hl hvc hsi (Nat.le_of_ble_eq_true hnle)
             · cases hr
         · cases hr
       · cases hr
     · exact ev_rowLit hΓ I ho hT hd hE (Nat.le_of_ble_eq_true hle) hv hl hr hm hc
   · cases hr
 case load t p =>
   cases hT : tyOf Γ t with
   | none => simp [hT] at hr
   | some T =>
   simp only [hT] at hr
   cases hvr : isVar own o with
   | true =>
     simp only [hvr] at hr
     exact ev_loadV hΓ I ho hT (hv p (by rw [ho]; simp [Op.operands])) hr hm hc
   | false =>
   simp only [hvr] at hr
   split at hr
   · rename_i cs rd c ht
     split at hr
     · rename_i v hv'
       cases hr
       exact ev_load hΓ I ho hT (hv p (by rw [ho]; simp [Op.operands])) ht hm hc hv'
     · cases hr
   · cases hr
 case range t x => exact ev_range hΓ I ho (hv x (by rw [ho]; simp [Op.operands])) hr hm
 case entry x => exact ev_entry I ho (hv x (by rw [ho]; simp [Op.operands])) hr hm
 case store t p x =>
   cases hT : tyOf Γ t with
   | none => simp [hT] at hr
   | some T =>
   simp only [hT] at hr
   cases hcs : cellsV (val x) with
   | none => simp [hcs] at hr
   | some xs =>
   simp only [hcs] at hr
   cases xs with
   | nil => simp at hr
   | cons x0 xs =>
   simp only [] at hr
   cases hb : Nat.beq (x0 :: xs).length T.size with
   | false => simp only [hb] at hr; cases hr
   | true =>
   simp only [hb] at hr
   have hl := Nat.eq_of_beq_eq_true hb
   have hp := hv p (by rw [ho]; simp [Op.operands])
   have hx := hv x (by rw [ho]; simp [Op.operands])
   cases hvp : val p <;> simp only [hvp] at hr <;> (try (cases hr; done))
   case lp id off =>
     rw [hvp] at hp
     cases hg : mg id with
     | none => simp [hg] at hr
     | some bl =>
     cases bl <;> simp only [hg] at hr <;> (try (cases hr; done))
     rename_i cs
     split at hr
     · rename_i cs' hlay
       cases hr
       exact ev_store_lp hΓ I ho hT hx hcs hl hp ((hm id (by simp)).trans hg) hlay (by simp)
     · cases hr
   case ep id n i off =>
     rw [hvp] at hp
     cases hg : mg id with
     | none => simp [hg] at hr
     | some bl =>
     cases bl <;> simp only [hg] at hr <;> (try (cases hr; done))
     rename_i ty sz n' e
     split at hr
     · rename_i hvc
       split at hr
       · rename_i es hlay
         cases hr
         exact ev_store_ep hΓ I ho hT hx hcs hl hvc hp ((hm id (by simp)).trans hg) hlay (by simp) (hc _ rfl)
       · cases hr
     · cases hr
   case gp id n0 i =>
     rw [hvp] at hp
     cases hvx : val x <;> simp only [hvx] at hr <;> (try (cases hr; done))
     rename_i id2 k
     cases hg : mg id with
     | none => simp [hg] at hr
     | some bl =>
     cases bl <;> simp only [hg] at hr <;> (try (cases hr; done))
     rename_i tS ty sz n m e
     cases hg2 : mg id2 with
     | none => simp [hg2] at hr
     | some bl =>
     cases bl <;> simp only [hg2] at hr <;> (try (cases hr; done))
     rename_i ty2 sz2 k2 e2
     split at hr
     · rename_i hbb
       cases hr
       simp only [Bool.and_eq_true, Bool.not_eq_true'] at hbb
       obtain ⟨⟨hb1, hb2⟩, hb3⟩ := hbb
       have e1 := Nat.eq_of_beq_eq_true hb1
       have e2' := Nat.eq_of_beq_eq_true hb2
       subst e1; subst e2'
       have hsz : 1 = T.size := by
         rw [hvx] at hcs
         simp [cellsV, single] at hcs
         obtain ⟨_, rfl⟩ := hcs
         simpa using hl
       exact ev_store_gp hΓ I ho hT hsz (hvx ▸ hx) hp ((hm id (by simp)).trans hg) ((hm id2 (by simp)).trans hg2) (fun e => by subst e; simp at hb3) (hc _ rfl)
     · cases hr
   case ge id i k j off =>
     rw [hvp] at hp
     cases hg : mg id with
     | none => simp [hg] at hr
     | some bl =>
     cases bl <;> simp only [hg] at hr <;> (try (cases hr; done))
     rename_i tS ty sz n m e
     split at hr
     · rename_i hvc
       split at hr
       · rename_i es hlay
         cases hr
         exact ev_store_ge hΓ I ho hT hx hcs hl hvc hp ((hm id (by simp)).trans hg) hlay (by simp) (hc _ rfl)
       · cases hr
     · cases hr
 case nilCheck x =>
   have hx := hv x (by rw [ho]; simp [Op.operands])
   have key : ∀ ad, a.eval x = .pointer (some ad) → (execOp a.eval o).run P w = .ok (.value (a.eval x)) w := fun ad he => by
     unfold execOp
     simp only [ho, he, Sem.run_pure]
   cases hvx : val x <;> simp only [hvx] at hr <;> (try (cases hr; done)) <;> rw [hvx] at hx <;> cases hr
   case rp cs =>
     obtain ⟨ad, he⟩ : ∃ ad, a.eval x = .pointer (some ad) := by generalize a.eval x = v at hx; cases hx; exact ⟨_, rfl⟩
     exact Good.same I (.inl (key ad he)) rfl hx
   case po b cs =>
     have hb : b = true := hc _ rfl
     subst hb
     have hx' : Rel h ρ (.rp cs) (a.eval x) := by generalize a.eval x = v at hx; cases hx with | po _ _ _ _ ht _ => exact ht rfl
     obtain ⟨ad, he⟩ : ∃ ad, a.eval x = .pointer (some ad) := by generalize a.eval x = v at hx'; cases hx'; exact ⟨_, rfl⟩
     exact Good.same (r := .valIf (.rp cs) (true = true)) I (.inl (key ad he)) rfl hx'
   case lp id off =>
     obtain ⟨ad, he⟩ : ∃ ad, a.eval x = .pointer (some ad) := by generalize a.eval x = v at hx; cases hx; exact ⟨_, rfl⟩
     exact Good.same I (.inl (key ad he)) rfl hx
   case ep id n i off =>
     obtain ⟨ad, he⟩ : ∃ ad, a.eval x = .pointer (some ad) := by
       generalize a.eval x = v at hx
       cases hx with
       | ep _ _ _ _ _ _ _ _ _ _ _ h1 _ => exact h1
     exact Good.same I (.inl (key ad he)) rfl hx
   case ge id i k j off =>
     obtain ⟨ad, he⟩ : ∃ ad, a.eval x = .pointer (some ad) := by
       generalize a.eval x = v at hx
       cases hx with
       | ge _ _ _ _ _ _ _ _ _ h1 _ => exact h1
     exact Good.same I (.inl (key ad he)) rfl hx
 case binOp op t x y yt =>
   cases hwr : isWrap own o with
   | true =>
     simp only [hwr] at hr
     have hx := hv x (by rw [ho]; simp [Op.operands])
     have hy := hv y (by rw [ho]; simp [Op.operands])
     unfold evWrap at hr
     split at hr
     · rename_i p q hp hq
       rw [hp] at hx; rw [hq] at hy
       generalize hex : a.eval x = v at hx
       generalize hey : a.eval y = u at hy
       cases hx; cases hy
       have hg : ∀ op', (eqGuard op' t x y (.int .i64 p) (.int .i64 q)).run P w = .ok () w := fun op' => by rw [eqGuard_at_int]; rfl
       split at hr
       · cases hr
         refine Good.same I (x := .int .i64 (wrapI (p + q))) (.inl ?_) rfl (.int _ _ _)
         unfold execOp
         simp only [ho, hex, hey, Sem.run_bind, hg, Result.andThen_ok, binOp_add, Op.intArith, Sem.run_pure, wrap_wrapI]
       · cases hr
         refine Good.same I (x := .int .i64 (wrapI (p - q))) (.inl ?_) rfl (.int _ _ _)
         unfold execOp
         simp only [ho, hex, hey, Sem.run_bind, hg, Result.andThen_ok, binOp_sub, Op.intArith, Sem.run_pure, wrap_wrapI]
       · cases hr
         refine Good.same I (x := .int .i64 (wrapI (p * q))) (.inl ?_) rfl (.int _ _ _)
         unfold execOp
         simp only [ho, hex, hey, Sem.run_bind, hg, Result.andThen_ok, binOp_mul, Op.intArith, Sem.run_pure, wrap_wrapI]
       · cases hr
         refine Good.same I (x := .int .i64 (andI p q)) (.inl ?_) rfl (.int _ _ _)
         unfold execOp
         simp only [ho, hex, hey, Sem.run_bind, hg, Result.andThen_ok, binOp_and, Op.intBits, Sem.run_pure, wrap_wrapI]
         rfl
       · cases hr
     · cases hr
   | false =>
   simp only [hwr] at hr
   obtain ⟨h1, z, ⟨h2, h3⟩, h4⟩ := evBin_sound hΓ hdep hr hc (hv x (by rw [ho]; simp [Op.operands])) (hv y (by rw [ho]; simp [Op.operands])) x y w
   refine Good.same I (.inl ?_) h1 h4
   unfold execOp
   simp only [ho, Sem.run_bind, h2, h3, Result.andThen_ok, Sem.run_pure]
 case unOp op t x =>
   have hx := hv x (by rw [ho]; simp [Op.operands])
   generalize hvx : val x = vx at hr hx
   cases op <;> (try simp only [] at hr) <;> (try (cases hr; done))
   case not =>
     cases vx <;> (try simp only [] at hr) <;> (try (cases hr; done))
     rename_i b
     cases hr
     refine Good.same I (x := .bool (!b)) (.inl ?_) rfl (.bool _ _)
     generalize he : a.eval x = v at hx
     cases hx
     unfold execOp
     simp only [ho, he, Op.unary, Sem.run_bind, Sem.run_pure, Result.andThen_ok]
   case neg =>
     cases vx <;> (try simp only [] at hr) <;> (try (cases hr; done))
     rename_i k n
     cases k <;> (try simp only [] at hr) <;> (try (cases hr; done))
     cases hr
     have hin : inI (0 - n) := hc _ rfl
     refine Good.same I (x := .int .i64 (0 - n)) (.inl ?_) rfl (.int _ _ _)
     generalize he : a.eval x = v at hx
     cases hx
     unfold execOp
     simp only [ho, he, Op.unary, Op.intArith, Sem.run_bind, Sem.run_pure, Result.andThen_ok, wrap_inI hin]
 case convert s t x =>
   have hx := hv x (by rw [ho]; simp [Op.operands])
   split at hr
   · rename_i S T hS hT
     split at hr
     · rename_i n hs ht hvx
       cases hr
       rw [hvx] at hx
       have hin : inI n := hc _ rfl
       refine Good.same I (x := .int .i64 n) (.inl ?_) rfl (.int _ _ _)
       generalize he : a.eval x = v at hx
       cases hx
       have hus := (hΓ s S hS).und_int hs
       have hut := (hΓ t T hT).und_int ht
       unfold execOp
       simp only [ho, he, convert, Conv.intToInt, Sem.run_bind, run_underlying hus, run_underlying hut, Sem.run_pure, Result.andThen_ok, wrap_inI hin]
     · rename_i n hs ht hvx
       cases hr
       rw [hvx] at hx
       have hin : inU n := hc _ rfl
       refine Good.same I (x := .int .u64 n) (.inl ?_) rfl (.int _ _ _)
       generalize he : a.eval x = v at hx
       cases hx
       have hus := (hΓ s S hS).und_int hs
       have hut := (hΓ t T hT).und_int ht
       unfold execOp
       simp only [ho, he, convert, Conv.intToInt, Sem.run_bind, run_underlying hus, run_underlying hut, Sem.run_pure, Result.andThen_ok, wrap_inU hin]
     · rename_i n hs ht hvx
       cases hr
       rw [hvx] at hx
       have hin : inI n := hc _ rfl
       refine Good.same I (x := .int .i64 n) (.inl ?_) rfl (.int _ _ _)
       generalize he : a.eval x = v at hx
       cases hx
       have hus := (hΓ s S hS).und_int hs
       have hut := (hΓ t T hT).und_int ht
       unfold execOp
       simp only [ho, he, convert, Conv.intToInt, Sem.run_bind, run_underlying hus, run_underlying hut, Sem.run_pure, Result.andThen_ok, wrap_inI hin]
     · cases hr
   · cases hr
 case makeInterface t x =>
   cases hT : tyOf Γ t with
   | none => simp [hT] at hr
   | some T =>
   simp only [hT] at hr
   have hr' : r = R.val (.ifc t (val x)) ∧ (∀ ms, P.underlying t ≠ some (.interface ms)) := by
     obtain ⟨d, h1, h2⟩ := (hΓ t T hT).desc
     cases hd : T.d <;> rw [hd] at hr h2 <;> simp only [DsOk] at h2 <;> (try (cases hr; done)) <;> cases hr <;> refine ⟨rfl, fun ms hms => ?_⟩ <;> rw [h1] at hms <;> cases hms
     all_goals first | (cases h2; done) | (obtain ⟨_, h2, _⟩ := h2; cases h2; done) | (obtain ⟨_, _, _, h2⟩ := h2; cases h2; done) | exact h2.2.2 _ rfl
   obtain ⟨rfl, hni⟩ := hr'
   refine Good.same I (x := .iface t (a.eval x)) (.inl ?_) rfl (.ifc _ _ _ _ (hv x (by rw [ho]; simp [Op.operands])))
   obtain ⟨d, h1, _⟩ := (hΓ t T hT).desc
   unfold execOp
   simp only [ho, Instr.makeInterface, Sem.run_bind, run_underlying h1, Result.andThen_ok]
   cases d <;> first | rfl | exact absurd h1 (hni _)
 case makeFunc f fs cs =>
   cases hr
   have h1 := mapAV_rel fs.toList (fun x hx => hv x (by rw [ho]; simp only [Op.operands]; exact Array.mem_append.2 (.inl (by simpa using hx))))
   have h2 := mapAV_rel cs.toList (fun x hx => hv x (by rw [ho]; simp only [Op.operands]; exact Array.mem_append.2 (.inr (by simpa using hx))))
   refine Good.same I (x := .func f (fs.toList.map a.eval).toArray (cs.toList.map a.eval).toArray) (.inl ?_) rfl (.fn _ _ _ _ _ _ h1.1 h2.1 h1.2 h2.2)
   unfold execOp
   have e1 : fs.map a.eval = (fs.toList.map a.eval).toArray := by apply Array.ext'; simp
   have e2 : cs.map a.eval = (cs.toList.map a.eval).toArray := by apply Array.ext'; simp
   simp only [ho, Instr.makeFunc, e1, e2]
   rfl
 case makeMap t rs =>
   cases rs with
   | some _ => simp at hr
   | none =>
   simp only [] at hr
   cases hT : tyOf Γ t with
   | none => simp [hT] at hr
   | some T =>
   simp only [hT] at hr
   cases hd : T.d <;> simp only [hd] at hr <;> (try (cases hr; done))
   rename_i k e
   cases hE : tyOf Γ e with
   | none => simp [hE] at hr
   | some E =>
   simp only [hE] at hr
   cases hf : fresh mg o with
   | none => simp [hf] at hr
   | some d =>
   simp only [hf] at hr
   cases hr
   have hdn := (hm d (by simp)).trans (fresh_spec hf).2
   have I' := I.allocOwn hdn (.map #[] 0) (.blk w.heap.size) (.map E.zeroV (fun _ => false) (fun _ => zeroA E) 0) (fun b hb => (Option.some.inj hb).symm)
     ⟨w.heap.size, [], 0, [], upd_same _ _ _, heap_alloc_new w _, by simp, rfl, rfl, by simp, by simp, by simp, by simp, fun k _ => Rel.zeroA (hΓ e E hE) h ρ0, by simp⟩
   refine ⟨.map (some w.heap.size), _, _, _, .inl ?_, I', .mp _ _ _ (upd_same _ _ _)⟩
   unfold execOp
   simp [ho, Instr.makeMap]
 case makeSlice t l c =>
   cases hT : tyOf Γ t with
   | none => simp [hT] at hr
   | some T =>
   simp only [hT] at hr
   cases hd : T.d <;> simp only [hd] at hr <;> (try (cases hr; done))
   rename_i e
   cases hE : tyOf Γ e with
   | none => simp [hE] at hr
   | some E =>
   simp only [hE] at hr
   split at hr
   · rename_i n m hvl hvc
     cases hf : fresh mg o with
     | none => simp [hf] at hr
     | some d =>
     simp only [hf] at hr
     split at hr
     · rename_i ty sz hgo
       cases hr
       unfold gridOf at hgo
       split at hgo
       rotate_left
       · cases hgo
       split at hgo
       rotate_left
       · cases hgo
       split at hgo
       rotate_left
       · cases hgo
       split at hgo
       rotate_left
       · cases hgo
       rename_i hz
       split at hgo
       rotate_left
       · cases hgo
       rename_i hb1
       cases hgo
       exact ev_makeGrid hΓ I ho hT hd hE hz (Nat.eq_of_beq_eq_true hb1) _ _ (hvl ▸ hv l (by rw [ho]; simp [Op.operands])) (hvc ▸ hv c (by rw [ho]; simp [Op.operands])) ((hm d (by simp)).trans (fresh_spec hf).2) (hc _ rfl) (room_max (hc _ rfl).2.2)
     · cases hr
       exact ev_makeSlice hΓ I ho hT hd hE (hvl ▸ hv l (by rw [ho]; simp [Op.operands])) (hvc ▸ hv c (by rw [ho]; simp [Op.operands])) ((hm d (by simp)).trans (fresh_spec hf).2) (hc _ rfl) (room_max (hc _ rfl).2.2)
   · cases hr
 case slice t x lo hi mx =>
   split at hr
   · rename_i id n hvx
     exact ev_sliceB hΓ I ho hv hvx hr hm hc
   · cases mx with
     | some _ => simp at hr
     | none => exact ev_slice hΓ I ho hv hr hc
 case fieldAddr t p k =>
   cases hT : tyOf Γ t with
   | none => simp [hT] at hr
   | some T =>
   simp only [hT] at hr
   cases hd : T.d <;> simp only [hd] at hr <;> (try (cases hr; done))
   rename_i fs
   split at hr
   · rename_i off ft hn
     split at hr
     · rename_i FT hFT
       split at hr
       · cases hr
       · rename_i hs
         split at hr
         · rename_i v hv'
           cases hr
           exact ev_fieldAddr hΓ I ho hT hd hn hFT (by omega) (hv p (by rw [ho]; simp [Op.operands])) hv'
         · cases hr
     · cases hr
   · cases hr
 case field t x k =>
   cases hT : tyOf Γ t with
   | none => simp [hT] at hr
   | some T =>
   simp only [hT] at hr
   cases hd : T.d <;> simp only [hd] at hr <;> (try (cases hr; done))
   rename_i fs
   split at hr
   · rename_i off ft hn
     split at hr
     · rename_i FT hFT
       split at hr
       · rename_i cs hvx
         split at hr
         · rename_i q hq
           split at hr
           · rename_i v hv'
             cases hr
             exact ev_field hΓ I ho hT hd hn hFT (hvx ▸ hv x (by rw [ho]; simp [Op.operands])) hq hv'
           · cases hr
         · cases hr
       · cases hr
     · cases hr
   · cases hr
 case indexAddr t x i =>
   have hx := hv x (by rw [ho]; simp [Op.operands])
   have hi := hv i (by rw [ho]; simp [Op.operands])
   unfold evIndexAddr at hr
   cases hT : tyOf Γ t with
   | none => simp [hT] at hr
   | some T =>
   simp only [hT] at hr
   cases hvi : val i <;> simp only [hvi] at hr <;> (try (cases hr; done))
   rename_i kk q
   cases kk <;> (try simp only [] at hr) <;> (try (cases hr; done))
   rw [hvi] at hi
   cases hd : T.d <;> simp only [hd] at hr <;> (try (cases hr; done))
   case slice e =>
     cases hE : tyOf Γ e with
     | none => simp [hE] at hr
     | some E =>
     simp only [hE] at hr
     cases hvx : val x <;> simp only [hvx] at hr <;> (try (cases hr; done)) <;> rw [hvx] at hx
     case ro sz n el =>
       split at hr
       · rename_i hb
         split at hr
         · rename_i cs hsp
           cases hr
           have := spine_eq hsp
           subst this
           exact ev_indexAddr_ro hΓ I ho hT hd hE hx (Nat.eq_of_beq_eq_true hb) hi (hc _ rfl)
         · cases hr
       · cases hr
     case buf id n =>
       cases hg : mg id with
       | none => simp [hg] at hr
       | some bl =>
       cases bl <;> simp only [hg] at hr <;> (try (cases hr; done))
       rename_i ty sz n' el
       split at hr
       · rename_i hb
         cases hr
         exact ev_indexAddr_buf hΓ I ho hT hd hE hx ((hm id (by simp)).trans hg) (Nat.eq_of_beq_eq_true hb) hi (hc _ rfl)
       · cases hr
     case gb id n =>
       cases hg : mg id with
       | none => simp [hg] at hr
       | some bl =>
       cases bl <;> simp only [hg] at hr <;> (try (cases hr; done))
       split at hr
       · rename_i hb
         cases hr
         exact ev_indexAddr_gb hΓ I ho hT hd hE hx ((hm id (by simp)).trans hg) (Nat.eq_of_beq_eq_true hb) hi (hc _ rfl)
       · cases hr
     case gr' id i0 k =>
       cases hg : mg id with
       | none => simp [hg] at hr
       | some bl =>
       cases bl <;> simp only [hg] at hr <;> (try (cases hr; done))
       split at hr
       · rename_i hb
         cases hr
         exact ev_indexAddr_gr hΓ I ho hT hd hE hx ((hm id (by simp)).trans hg) (Nat.eq_of_beq_eq_true hb) hi (hc _ rfl)
       · cases hr
   case array n e =>
     cases hE : tyOf Γ e with
     | none => simp [hE] at hr
     | some E =>
     simp only [hE] at hr
     split at hr
     · rename_i p hp
       cases hr
       exact ev_indexAddr_array hΓ I ho hT hd hE hx hi hp (hc _ rfl)
     · cases hr
 case index t x i =>
   cases hT : tyOf Γ t with
   | none => simp [hT] at hr
   | some T =>
   simp only [hT] at hr
   cases hd : T.d <;> simp only [hd] at hr <;> (try (cases hr; done))
   rename_i n e
   cases hE : tyOf Γ e with
   | none => simp [hE] at hr
   | some E =>
   simp only [hE] at hr
   cases hvr : isVar own o with
   | true =>
     simp only [hvr] at hr
     exact ev_indexV hΓ I ho hT hd hE (hv x (by rw [ho]; simp [Op.operands])) (hv i (by rw [ho]; simp [Op.operands])) hr hc
   | false =>
   simp only [hvr] at hr
   split at hr
   · rename_i cs q hvx hvi
     split at hr
     · rename_i rr hrr
       split at hr
       · rename_i v hv'
         cases hr
         exact ev_index hΓ I ho hT hd hE (hvx ▸ hv x (by rw [ho]; simp [Op.operands])) (hvi ▸ hv i (by rw [ho]; simp [Op.operands])) hrr hv' (hc _ rfl)
       · cases hr
     · cases hr
   · cases hr
 case lookup t m k ok => exact ev_lookup hΓ I ho (hv m (by rw [ho]; simp [Op.operands])) (hv k (by rw [ho]; simp [Op.operands])) hr hm hc
 case mapUpdate t m k x => exact ev_mapSet hΓ I (.inl ho) (hv m (by rw [ho]; simp [Op.operands])) (hv k (by rw [ho]; simp [Op.operands])) (hv x (by rw [ho]; simp [Op.operands])) hr hm
 case insert t m k x => exact ev_mapSet hΓ I (.inr ho) (hv m (by rw [ho]; simp [Op.operands])) (hv k (by rw [ho]; simp [Op.operands])) (hv x (by rw [ho]; simp [Op.operands])) hr hm
 case extract t i =>
   have hx := hv t (by rw [ho]; simp [Op.operands])
   split at hr
   · rename_i vs hvx
     rw [hvx] at hx
     split at hr
     · rename_i v hn
       cases hr
       generalize he : a.eval t = u at hx
       cases hx with
       | tup _ _ us hl hcc =>
         obtain ⟨z, hz, hrel⟩ := RelL.get ⟨hl, hcc⟩ (nthN_get hn)
         refine Good.same I (.inl ?_) rfl hrel
         unfold execOp
         simp [ho, he, Instr.extract, hz]
     · cases hr
   · cases hr
 case call c =>
   obtain ⟨callee, args, ts⟩ := c
   cases callee with
   | value f => rw [ho] at hcall; simp [isCall] at hcall
   | invoke r m => simp at hr
   | builtin b =>
     have hr' : frz own o (evBuiltin Γ mg o b ts.toList (mapAV val args.toList)) = some r := hr
     obtain ⟨r1, e1, e2, e3⟩ := frz_rd hr'
     rw [e1] at hr'
     exact ev_frz hr' hz hc (ev_builtin hΓ I ho hv e1 (fun id hid => hm id (e2 ▸ hid)) (e3 hc))
end
end Go.Av
end
/- Calls: what a call is handed; contracts; the call of a Go function. -/
section
set_option linter.all false
namespace Go.Av
theorem onlyL_get {ids : List Nat} : ∀ {cs : List AV} {i : Nat} {c : AV}, onlyL ids cs = true → cs[i]? = some c → onlyIds ids c = true
 | [], i, c, _, h => by simp at h
 | x :: cs, 0, c, hc, h => by
   simp only [onlyL] at hc
   split at hc
   · rename_i h1; simp at h; rw [← h]; exact h1
   · cases hc
 | x :: cs, i + 1, c, hc, h => by
   simp only [onlyL] at hc
   simp only [List.getElem?_cons_succ] at h
   split at hc
   · exact onlyL_get hc h
   · cases hc
theorem inList_mem : ∀ {l : List Nat} {t : Nat}, inList l t = true → t ∈ l
 | k :: l, t, h => by
   unfold inList at h
   split at h
   · rename_i hb; have := Nat.eq_of_beq_eq_true hb; subst this; exact List.mem_cons_self ..
   · exact List.mem_cons_of_mem _ (inList_mem h)
theorem Rel.forget {h : Hp} {ρ ρ' : Rho} {ids : List Nat} (hρ : ∀ id, id ∈ ids → ρ' id = ρ id) {a : AV} {v : Value} (H : Rel h ρ a v) (hc : onlyIds ids a = true) : Rel h ρ' a v := by
 obtain ⟨ρ1, he, H'⟩ : ∃ ρ1, ρ = ρ1 ∧ Rel h ρ1 a v := ⟨ρ, rfl, H⟩
 clear H
 induction H' with
 | any ρ v => exact .any _ _
 | nilS => exact .nilS _
 | nilFn => exact .nilFn _
 | nilPtr => exact .nilPtr _
 | nilMap => exact .nilMap _
 | nilIfc => exact .nilIfc _
 | bool => exact .bool _ _
 | int => exact .int _ _ _
 | agg ρ1 cs vs hl hc' ih => exact .agg _ _ _ hl fun i c v h1 h2 => ih i c v h1 h2 (onlyL_get (by simpa [onlyIds] using hc) h1) he
 | tup ρ1 cs vs hl hc' ih => exact .tup _ _ _ hl fun i c v h1 h2 => ih i c v h1 h2 (onlyL_get (by simpa [onlyIds] using hc) h1) he
 | ro ρ1 sz n e a cap hnil hcap hsz hs h1 hc' ih => exact .ro _ _ _ _ _ _ hnil hcap hsz hs h1 hc'
 | rp ρ1 cs ad hs hc' ih => exact .rp _ _ _ hs hc'
 | lp ρ1 id off b hb => subst he; exact .lp _ _ _ _ ((hρ id (inList_mem (by simpa [onlyIds] using hc))).trans hb)
 | buf ρ1 id n n' sz v v' hb hle h1 hq => subst he; exact .buf _ _ _ _ _ _ _ ((hρ id (inList_mem (by simpa [onlyIds] using hc))).trans hb) hle h1 hq
 | ep ρ1 id n i off n' sz v v' hb hle h1 hq => subst he; exact .ep _ _ _ _ _ _ _ _ _ ((hρ id (inList_mem (by simpa [onlyIds] using hc))).trans hb) hle h1 hq
 | fn ρ1 f fs cs vs ws hl hm hc' hd ih1 ih2 =>
   simp only [onlyIds] at hc
   split at hc
   · rename_i h0
     exact .fn _ _ _ _ _ _ hl hm (fun i c v h1 h2 => ih1 i c v h1 h2 (onlyL_get h0 h1) he) (fun i c v h1 h2 => ih2 i c v h1 h2 (onlyL_get hc h1) he)
   · cases hc
 | clo ρ1 f fs cs v hv ih => exact .clo _ _ _ _ _ hv
 | mp ρ1 id b hb => subst he; exact .mp _ _ _ ((hρ id (inList_mem (by simpa [onlyIds] using hc))).trans hb)
 | rom ρ1 z dom e n r es clock ks hR hks hlen hel hk hborn hbd hdom hz hc' ihz ih => exact .rom _ _ _ _ _ _ _ _ _ hR hks hlen hel hk hborn hbd hdom hz hc'
 | ifc ρ1 t a v hv ih => exact .ifc _ _ _ _ (ih (by simpa [onlyIds] using hc) he)
 | cnd ρ1 g a v ht hf ih => exact .cnd _ _ _ _ (fun hg => ih hg (by simpa [onlyIds] using hc) he) hf
 | raw => exact .raw _ _
 | nz ρ1 n b hb => exact .nz _ _ _ hb
 | po ρ1 b cs v ht hf ih => exact .po _ _ _ _ (fun hg => ih hg rfl he) hf
 | gb ρ1 id n li v hb hg h0 => subst he; exact .gb _ _ _ _ _ ((hρ id (inList_mem (by simpa [onlyIds] using hc))).trans hb) hg h0
 | gp ρ1 id n i li ad hb hg => subst he; exact .gp _ _ _ _ _ _ ((hρ id (inList_mem (by simpa [onlyIds] using hc))).trans hb) hg
 | gr' ρ1 id i m li v hb hg h0 => subst he; exact .gr' _ _ _ _ _ _ ((hρ id (inList_mem (by simpa [onlyIds] using hc))).trans hb) hg h0
 | sb ρ1 id n a b n' sz v v' hb hle h0 hq => subst he; exact .sb _ _ _ _ _ _ _ _ _ ((hρ id (inList_mem (by simpa [onlyIds] using hc))).trans hb) hle h0 hq
 | ge ρ1 id i m j off li v hb h0 hg => subst he; exact .ge _ _ _ _ _ _ _ _ ((hρ id (inList_mem (by simpa [onlyIds] using hc))).trans hb) h0 hg
theorem shL_len {k : Nat} : ∀ (cs : List AV), (shL k cs).length = cs.length
 | [] => rfl
 | c :: cs => by simp [shL, shL_len cs]
theorem shL_get {k : Nat} : ∀ {cs : List AV} {i : Nat} {c : AV}, (shL k cs)[i]? = some c → ∃ c0, cs[i]? = some c0 ∧ c = c0.sh k
 | [], i, c, h => by simp [shL] at h
 | x :: cs, 0, c, h => by simp [shL] at h; exact ⟨x, by simp, h.symm⟩
 | x :: cs, i + 1, c, h => by
   simp only [shL, List.getElem?_cons_succ] at h
   obtain ⟨c0, e1, e2⟩ := shL_get h
   exact ⟨c0, by simpa using e1, e2⟩
theorem Rel.shift {h : Hp} {ρ ρ' : Rho} {ids : List Nat} {k : Nat} (hρ : ∀ id, id ∈ ids → ρ' (k + id) = ρ id) {a : AV} {v : Value} (H : Rel h ρ a v) (hc : onlyIds ids a = true) : Rel h ρ' (a.sh k) v := by
 obtain ⟨ρ1, he, H'⟩ : ∃ ρ1, ρ = ρ1 ∧ Rel h ρ1 a v := ⟨ρ, rfl, H⟩
 clear H
 induction H' with
 | any ρ v => simp only [AV.sh]; exact .any _ _
 | nilS => simp only [AV.sh]; exact .nilS _
 | nilFn => simp only [AV.sh]; exact .nilFn _
 | nilPtr => simp only [AV.sh]; exact .nilPtr _
 | nilMap => simp only [AV.sh]; exact .nilMap _
 | nilIfc => simp only [AV.sh]; exact .nilIfc _
 | bool => simp only [AV.sh]; exact .bool _ _
 | int => simp only [AV.sh]; exact .int _ _ _
 | agg ρ1 cs vs hl hc' ih =>
   simp only [AV.sh]
   refine .agg _ _ _ (by rw [shL_len]; exact hl) fun i c v h1 h2 => ?_
   obtain ⟨c0, e1, rfl⟩ := shL_get h1
   exact ih i c0 v e1 h2 (onlyL_get (by simpa [onlyIds] using hc) e1) he
 | tup ρ1 cs vs hl hc' ih =>
   simp only [AV.sh]
   refine .tup _ _ _ (by rw [shL_len]; exact hl) fun i c v h1 h2 => ?_
   obtain ⟨c0, e1, rfl⟩ := shL_get h1
   exact ih i c0 v e1 h2 (onlyL_get (by simpa [onlyIds] using hc) e1) he
 | ro ρ1 sz n e a cap hnil hcap hsz hs h1 hc' ih => simp only [AV.sh]; exact .ro _ _ _ _ _ _ hnil hcap hsz hs h1 hc'
 | rp ρ1 cs ad hs hc' ih => simp only [AV.sh]; exact .rp _ _ _ hs hc'
 | lp ρ1 id off b hb => simp only [AV.sh]; subst he; exact .lp _ _ _ _ ((hρ id (inList_mem (by simpa [onlyIds] using hc))).trans hb)
 | buf ρ1 id n n' sz v v' hb hle h1 hq => simp only [AV.sh]; subst he; exact .buf _ _ _ _ _ _ _ ((hρ id (inList_mem (by simpa [onlyIds] using hc))).trans hb) hle h1 hq
 | ep ρ1 id n i off n' sz v v' hb hle h1 hq => simp only [AV.sh]; subst he; exact .ep _ _ _ _ _ _ _ _ _ ((hρ id (inList_mem (by simpa [onlyIds] using hc))).trans hb) hle h1 hq
 | fn ρ1 f fs cs vs ws hl hm hc' hd ih1 ih2 =>
   simp only [onlyIds] at hc
   split at hc
   · rename_i h0
     simp only [AV.sh]
     refine .fn _ _ _ _ _ _ (by rw [shL_len]; exact hl) (by rw [shL_len]; exact hm) (fun i c v h1 h2 => ?_) (fun i c v h1 h2 => ?_)
     · obtain ⟨c0, e1, rfl⟩ := shL_get h1
       exact ih1 i c0 v e1 h2 (onlyL_get h0 e1) he
     · obtain ⟨c0, e1, rfl⟩ := shL_get h1
       exact ih2 i c0 v e1 h2 (onlyL_get hc e1) he
   · cases hc
 | clo ρ1 f fs cs v hv ih => simp only [AV.sh]; exact .clo _ _ _ _ _ hv
 | mp ρ1 id b hb => simp only [AV.sh]; subst he; exact .mp _ _ _ ((hρ id (inList_mem (by simpa [onlyIds] using hc))).trans hb)
 | rom ρ1 z dom e n r es clock ks hR hks hlen hel hk hborn hbd hdom hz hc' ihz ih => simp only [AV.sh]; exact .rom _ _ _ _ _ _ _ _ _ hR hks hlen hel hk hborn hbd hdom hz hc'
 | ifc ρ1 t a v hv ih => simp only [AV.sh]; exact .ifc _ _ _ _ (ih (by simpa [onlyIds] using hc) he)
 | cnd ρ1 g a v ht hf ih => simp only [AV.sh]; exact .cnd _ _ _ _ (fun hg => ih hg (by simpa [onlyIds] using hc) he) hf
 | raw => simp only [AV.sh]; exact .raw _ _
 | nz ρ1 n b hb => simp only [AV.sh]; exact .nz _ _ _ hb
 | po ρ1 b cs v ht hf ih => simp only [AV.sh] at ih ⊢; exact .po _ _ _ _ (fun hg => ih hg rfl he) hf
 | gb ρ1 id n li v hb hg h0 => simp only [AV.sh]; subst he; exact .gb _ _ _ _ _ ((hρ id (inList_mem (by simpa [onlyIds] using hc))).trans hb) hg h0
 | gp ρ1 id n i li ad hb hg => simp only [AV.sh]; subst he; exact .gp _ _ _ _ _ _ ((hρ id (inList_mem (by simpa [onlyIds] using hc))).trans hb) hg
 | gr' ρ1 id i m li v hb hg h0 => simp only [AV.sh]; subst he; exact .gr' _ _ _ _ _ _ ((hρ id (inList_mem (by simpa [onlyIds] using hc))).trans hb) hg h0
 | sb ρ1 id n a b n' sz v v' hb hle h0 hq => simp only [AV.sh]; subst he; exact .sb _ _ _ _ _ _ _ _ _ ((hρ id (inList_mem (by simpa [onlyIds] using hc))).trans hb) hle h0 hq
 | ge ρ1 id i m j off li v hb h0 hg => simp only [AV.sh]; subst he; exact .ge _ _ _ _ _ _ _ _ ((hρ id (inList_mem (by simpa [onlyIds] using hc))).trans hb) h0 hg
theorem BlkOk.shift {h : Hp} {ρ ρ' : Rho} {ids : List Nat} {k : Nat} (hρ : ∀ id, id ∈ ids → ρ' (k + id) = ρ id) {id : Nat} {x : Blk} {w : World} (H : BlkOk h ρ id x w) (hid : id ∈ ids) (ho : onlyB ids x = true) : BlkOk h ρ' (k + id) (x.sh k) w := by
 cases x with
 | cells cs =>
   obtain ⟨b, vs, ty, q1, q2, q3, q4⟩ := H
   refine ⟨b, vs, ty, (hρ id hid).trans q1, q2, by rw [shL_len]; exact q3, fun i c v hc hv => ?_⟩
   obtain ⟨c0, e1, rfl⟩ := shL_get hc
   exact (q4 i c0 v e1 hv).shift hρ (onlyL_get (by simpa [onlyB] using ho) e1)
 | buf ty sz n e =>
   obtain ⟨v, xs, q1, q2⟩ := H
   exact ⟨v, xs, (hρ id hid).trans q1, q2⟩
 | map z dom e n =>
   obtain ⟨b, es, clock, ks, q1, q2⟩ := H
   exact ⟨b, es, clock, ks, (hρ id hid).trans q1, q2⟩
 | bufk ty sz n c e =>
   obtain ⟨v, xs, q1, q2⟩ := H
   exact ⟨v, xs, (hρ id hid).trans q1, q2⟩
 | iter e cur Pl =>
   obtain ⟨b, bm, clock, c0, es, seen, left, q1, q2⟩ := H
   exact ⟨b, bm, clock, c0, es, seen, left, (hρ id hid).trans q1, q2⟩
 | dead =>
   obtain ⟨n, sz, q1⟩ := H
   exact ⟨n, sz, (hρ id hid).trans q1⟩
 | grid tS ty sz n m e =>
   obtain ⟨v, rows, q1, q2⟩ := H
   exact ⟨v, rows, (hρ id hid).trans q1, q2⟩
open Classical in
noncomputable def hAll (h : Hp) (ρ : Rho) (w : World) : Hp := fun b => if ownSet ρ b then w.heap[b]? else h b
section
variable {P : Program} {N : Nat} {C : Ctx} {h : Hp} {ρ : Rho} {F : Fr} {M : Mm} {g : Nat} {a : Act} {w : World} {Γ : Tys} {mg : Mm} {o : Oper}
theorem InvH.le_all (I : InvH N C h ρ F M g a w) : ∀ b o, h b = some o → hAll h ρ w b = some o := by
 intro b o hb
 unfold hAll
 split
 · rename_i hs
   obtain ⟨id, li, h1, h2⟩ := hs
   have := (I.own id li b h1 h2).1
   rw [hb] at this; cases this
 · exact hb
theorem hAll_own {id : Nat} {li : LI} {b : Nat} (h1 : ρ id = some li) (h2 : li.owns b) : hAll h ρ w b = w.heap[b]? := by
 unfold hAll
 rw [if_pos ⟨id, li, h1, h2⟩]
theorem InvH.all_hp (I : InvH N C h ρ F M g a w) : ∀ b o, hAll h ρ w b = some o → w.heap[b]? = some o := by
 intro b o hb
 unfold hAll at hb
 split at hb
 · exact hb
 · exact I.hp b o hb
theorem viewL_get : ∀ {cs cs' : List AV} {rd : List Nat} {c : Option Prop}, viewL mg cs = some (cs', rd, c) → cs'.length = cs.length ∧
   ∀ (i : Nat) (x' : AV), cs'[i]? = some x' → ∃ x rd' c', cs[i]? = some x ∧ view mg x = some (x', rd', c') ∧ (∀ id, id ∈ rd' → id ∈ rd) ∧ ((∀ q, c = some q → q) → ∀ q, c' = some q → q)
 | [], cs', rd, c, hv => by
   simp only [viewL] at hv; cases hv
   exact ⟨rfl, fun i x' hx => by simp at hx⟩
 | y :: ys, cs', rd, c, hv => by
   simp only [viewL] at hv
   split at hv
   · rename_i y' r1 p1 hy
     split at hv
     · rename_i ys' r2 p2 hys
       cases hv
       obtain ⟨hl, hg⟩ := viewL_get hys
       refine ⟨by simp [hl], fun i x' hx => ?_⟩
       cases i with
       | zero =>
         simp at hx; subst hx
         exact ⟨y, r1, p1, rfl, hy, fun id hid => by simp [hid], fun H => andO_left H⟩
       | succ i =>
         simp only [List.getElem?_cons_succ] at hx
         obtain ⟨x, rd', c', h1, h2, h3, h4⟩ := hg i x' hx
         exact ⟨x, rd', c', by simpa using h1, h2, fun id hid => by simp [h3 id hid], fun H => h4 (andO_right H)⟩
     · cases hv
   · cases hv
theorem view1L_get : ∀ {cs cs' : List AV} {rd : List Nat} {c : Option Prop}, view1L mg cs = some (cs', rd, c) → cs'.length = cs.length ∧
   ∀ (i : Nat) (x' : AV), cs'[i]? = some x' → ∃ x rd' c', cs[i]? = some x ∧ view1 mg x = some (x', rd', c') ∧ (∀ id, id ∈ rd' → id ∈ rd) ∧ ((∀ q, c = some q → q) → ∀ q, c' = some q → q)
 | [], cs', rd, c, hv => by
   simp only [view1L] at hv; cases hv
   exact ⟨rfl, fun i x' hx => by simp at hx⟩
 | y :: ys, cs', rd, c, hv => by
   simp only [view1L] at hv
   split at hv
   · rename_i y' r1 p1 hy
     split at hv
     · rename_i ys' r2 p2 hys
       cases hv
       obtain ⟨hl, hg⟩ := view1L_get hys
       refine ⟨by simp [hl], fun i x' hx => ?_⟩
       cases i with
       | zero =>
         simp at hx; subst hx
         exact ⟨y, r1, p1, rfl, hy, fun id hid => by simp [hid], fun H => andO_left H⟩
       | succ i =>
         simp only [List.getElem?_cons_succ] at hx
         obtain ⟨x, rd', c', h1, h2, h3, h4⟩ := hg i x' hx
         exact ⟨x, rd', c', by simpa using h1, h2, fun id hid => by simp [h3 id hid], fun H => h4 (andO_right H)⟩
     · cases hv
   · cases hv
theorem view1_sound (I : InvH N C h ρ F M g a w) {H2 : Hp} (hLe : Le h H2) {x : AV} {v : Value} (H : Rel h ρ x v) {x' : AV} {rd : List Nat} {c : Option Prop} (hv : view1 mg x = some (x', rd, c)) (h1 : ∀ id, id ∈ rd → M id = mg id) (h2 : ∀ q, c = some q → q)
   (h3 : ∀ id, id ∈ rd → ∀ li b, ρ id = some li → li.owns b → H2 b = w.heap[b]?) : Rel H2 ρ0 x' v := by
 unfold view1 at hv
 split at hv
 · rename_i id n
   cases H with
   | buf _ _ _ n' sz _ v' hb hle h0 he =>
   split at hv
   · rename_i ty sz2 n2 e hg
     cases hv
     obtain rfl := h2 _ rfl
     obtain ⟨v0, us, e1, e2, e3, e5, e4⟩ := I.blk id _ ((h1 id (by simp)).trans hg)
     rw [hb] at e1; cases e1
     obtain rfl := he rfl
     exact ro_of_own e2 (fun b hb' => h3 id (by simp) _ b hb hb') e3 e5 (fun i j c v hi hj hv => (e4 i j c v hi hj hv).heap hLe)
   · cases hv
 · rename_i id
   cases H with
   | mp _ _ b hb =>
   split at hv
   · rename_i z dom e n hg
     cases hv
     obtain ⟨b', es, clock, ks, q1, q2, q3, q4, q5, q6, q7, q8, q9, qz, q10⟩ := I.blk id _ ((h1 id (by simp)).trans hg)
     rw [hb] at q1; cases q1
     exact .rom _ _ _ _ _ _ es clock ks ((h3 id (by simp) _ _ hb rfl).trans q2) q3 q4 q5 q6 q7 q8 q9 (fun k hd => (qz k hd).heap hLe) (fun i k y e3 e4 => (q10 i k y e3 e4).heap hLe)
   · cases hv
 · split at hv
   · rename_i hcl
     cases hv
     exact (H.heap hLe).of_cl hcl
   · cases hv
theorem view_sound (I : InvH N C h ρ F M g a w) {H2 : Hp} (hLe : Le h H2) {x : AV} {v : Value} (H : Rel h ρ x v) : ∀ {x' : AV} {rd : List Nat} {c : Option Prop}, view mg x = some (x', rd, c) →
   (∀ id, id ∈ rd → M id = mg id) → (∀ q, c = some q → q) → (∀ id, id ∈ rd → ∀ li b, ρ id = some li → li.owns b → H2 b = w.heap[b]?) → Rel H2 ρ0 x' v := by
 obtain ⟨ρ1, hρ, H'⟩ : ∃ ρ1, ρ = ρ1 ∧ Rel h ρ1 x v := ⟨ρ, rfl, H⟩
 clear H
 induction H' with
 | any | nilS | nilFn | nilPtr | nilMap | nilIfc | bool | int | raw =>
   intro x' rd c hv _ _ _
   simp only [view] at hv; cases hv; constructor
 | agg ρ1 cs vs hl hc ih =>
   intro x' rd c hv h1 h2 h3
   simp only [view] at hv
   split at hv
   · rename_i cs' r p hvl
     cases hv
     obtain ⟨hl', hg⟩ := viewL_get hvl
     refine .agg _ _ _ (by rw [hl, hl']) fun i y z hy hz => ?_
     obtain ⟨y0, rd', c', e1, e2, e3, e4⟩ := hg i y hy
     exact ih i y0 z e1 hz hρ e2 (fun id hid => h1 id (e3 id hid)) (e4 h2) (fun id hid => h3 id (e3 id hid))
   · cases hv
 | tup ρ1 cs vs hl hc ih =>
   intro x' rd c hv h1 h2 h3
   simp only [view] at hv
   split at hv
   · rename_i cs' r p hvl
     cases hv
     obtain ⟨hl', hg⟩ := viewL_get hvl
     refine .tup _ _ _ (by rw [hl, hl']) fun i y z hy hz => ?_
     obtain ⟨y0, rd', c', e1, e2, e3, e4⟩ := hg i y hy
     exact ih i y0 z e1 hz hρ e2 (fun id hid => h1 id (e3 id hid)) (e4 h2) (fun id hid => h3 id (e3 id hid))
   · cases hv
 | fn ρ1 f fs cs vs ws hl hm' hc hd ih1 ih2 =>
   intro x' rd c hv h1 h2 h3
   simp only [view] at hv
   split at hv
   · rename_i fs' r p hvl
     split at hv
     · rename_i cs' r2 p2 hvl2
       cases hv
       obtain ⟨hl1, hg1⟩ := viewL_get hvl
       obtain ⟨hl2, hg2⟩ := viewL_get hvl2
       refine .clo _ _ _ _ _ (.fn _ _ _ _ _ _ (by rw [hl, hl1]) (by rw [hm', hl2]) (fun i y z hy hz => ?_) (fun i y z hy hz => ?_))
       · obtain ⟨y0, rd', c', e1, e2, e3, e4⟩ := hg1 i y hy
         exact ih1 i y0 z e1 hz hρ e2 (fun id hid => h1 id (by simp [e3 id hid])) (e4 (andO_left h2)) (fun id hid => h3 id (by simp [e3 id hid]))
       · obtain ⟨y0, rd', c', e1, e2, e3, e4⟩ := hg2 i y hy
         exact ih2 i y0 z e1 hz hρ e2 (fun id hid => h1 id (by simp [e3 id hid])) (e4 (andO_right h2)) (fun id hid => h3 id (by simp [e3 id hid]))
     · cases hv
   · cases hv
 | clo ρ1 f fs cs v hv0 ih =>
   intro x' rd c hv _ _ _
   simp only [view] at hv; cases hv
   exact .clo _ _ _ _ _ (hv0.heap hLe)
 | ro ρ1 sz n e ad cap hnil hcap hsz hs h1 hc ih =>
   intro x' rd c hv _ _ _
   simp only [view] at hv; cases hv
   exact (Rel.ro ρ0 sz n e ad cap hnil hcap hsz hs h1 hc).heap hLe
 | rp ρ1 cs ad hs hc ih =>
   intro x' rd c hv _ _ _
   simp only [view] at hv; cases hv
   exact (Rel.rp ρ0 cs ad hs hc).heap hLe
 | rom ρ1 z dom e n r es clock ks hR hks hlen hel hk hborn hbd hdom hz hc ihz ih =>
   intro x' rd c hv _ _ _
   simp only [view] at hv; cases hv
   exact (Rel.rom ρ0 z dom e n r es clock ks hR hks hlen hel hk hborn hbd hdom hz hc).heap hLe
 | ifc ρ1 t x v hx ih =>
   intro x' rd c hv h1 h2 h3
   simp only [view] at hv
   split at hv
   · rename_i y r p hy
     cases hv
     exact .ifc _ _ _ _ (ih hρ hy h1 h2 h3)
   · cases hv
 | cnd => intro x' rd c hv _ _ _; simp [view] at hv
 | ep => intro x' rd c hv _ _ _; simp [view] at hv
 | mp ρ1 id b hb =>
   intro x' rd c hv h1 h2 h3
   subst hρ
   simp only [view] at hv
   split at hv
   · rename_i z dom e n hg
     cases hv
     obtain ⟨b', es, clock, ks, q1, q2, q3, q4, q5, q6, q7, q8, q9, qz, q10⟩ := I.blk id _ ((h1 id (by simp)).trans hg)
     rw [hb] at q1; cases q1
     exact .rom _ _ _ _ _ _ es clock ks ((h3 id (by simp) _ _ hb rfl).trans q2) q3 q4 q5 q6 q7 q8 q9 (fun k hd => (qz k hd).heap hLe) (fun i k y e3 e4 => (q10 i k y e3 e4).heap hLe)
   · cases hv
 | lp ρ1 id off b hb =>
   intro x' rd c hv h1 h2 h3
   subst hρ
   simp only [view] at hv
   cases hg : mg id with
   | none => simp [hg] at hv
   | some bl =>
   cases bl <;> simp only [hg] at hv <;> (try (cases hv; done))
   rename_i cs
   cases hd : dropN off cs with
   | none => simp [hd] at hv
   | some r =>
   simp only [hd] at hv
   cases hcl : view1L mg r with
   | none => simp [hcl] at hv
   | some q =>
   obtain ⟨r', rd', c'⟩ := q
   simp only [hcl] at hv
   cases hv
   obtain ⟨hvl, hvg⟩ := view1L_get hcl
   obtain ⟨rfl, hle⟩ := dropN_get hd
   obtain ⟨b', vs, ty, q1, q2, q3, q4⟩ := I.blk id _ ((h1 id (by simp)).trans hg)
   rw [hb] at q1; cases q1
   have key : ∀ j, cellOf H2 (Addr.add ⟨b, off, none⟩ j) = vs[off + j]? := by
     intro j
     unfold cellOf
     rw [Addr.add_lit]
     simp only [h3 id (by simp) _ _ hb (show (LI.blk b).owns b from rfl), q2]
     simp
   refine .rp _ _ _ (fun j hj => ?_) (fun j y z hy hz => ?_)
   · rw [key]
     have : off + j < vs.length := by rw [q3]; rw [hvl] at hj; simp at hj; omega
     simp [this]
   · rw [key] at hz
     obtain ⟨y0, rd2, c2, e1, e2, e3, e4⟩ := hvg j y hy
     rw [List.getElem?_drop] at e1
     exact view1_sound I hLe (q4 _ y0 z e1 hz) e2 (fun id hid => h1 id (List.mem_cons_of_mem _ (e3 id hid))) (e4 h2) (fun id hid => h3 id (List.mem_cons_of_mem _ (e3 id hid)))
 | buf ρ1 id n n' sz v v' hb hle h0 he =>
   intro x' rd c hv h1 h2 h3
   subst hρ
   simp only [view] at hv
   cases hg : mg id with
   | none => simp [hg] at hv
   | some bl =>
   cases bl <;> simp only [hg] at hv <;> (try (cases hv; done))
   rename_i ty sz2 n2 e
   cases hv
   obtain rfl := h2 _ rfl
   obtain ⟨v0, us, e1, e2, e3, e5, e4⟩ := I.blk id _ ((h1 id (by simp)).trans hg)
   rw [hb] at e1; cases e1
   obtain rfl := he rfl
   exact ro_of_own e2 (fun b hb' => h3 id (by simp) _ b hb hb') e3 e5 (fun i j c v hi hj hv => (e4 i j c v hi hj hv).heap hLe)
 | nz ρ1 n b hb =>
   intro x' rd c hv _ _ _
   simp only [view] at hv; cases hv; exact .nz _ _ _ hb
 | po ρ1 b cs v ht hf ih =>
   intro x' rd c hv _ _ _
   simp only [view] at hv; cases hv; exact .po _ _ _ _ (fun hg => ((ht hg).heap hLe).of_cl rfl) hf
 | gp => intro x' rd c hv _ _ _; simp [view] at hv
 | sb ρ1 id n a b n' sz v v' hb hle h0 he =>
   intro x' rd c hv h1 h2 h3
   subst hρ
   simp only [view] at hv
   cases hg : mg id with
   | none => simp [hg] at hv
   | some bl =>
   cases bl <;> simp only [hg] at hv <;> (try (cases hv; done))
   rename_i ty sz2 n2 e
   cases hv
   obtain ⟨rfl, hab, hbn⟩ := h2 _ rfl
   obtain ⟨v0, us, e1, e2, e3, e5, e4⟩ := I.blk id _ ((h1 id (by simp)).trans hg)
   rw [hb] at e1; cases e1
   obtain ⟨g, cap, rfl, rfl⟩ := he rfl
   have hro := ro_of_own (H2 := H2) e2 (fun b hb' => h3 id (by simp) _ b hb hb') e3 e5 (fun i j c v hi hj hv => (e4 i j c v hi hj hv).heap hLe)
   have := rel_sub hro hab hbn
   have hadr : (if cap = a then some (⟨g, 0, none⟩ : Addr) else (some (⟨g, 0, none⟩ : Addr)).map (·.add (a * sz))) = some (if cap = a then ⟨g, 0, none⟩ else ⟨g, a * sz, none⟩) := by
     split
     · rfl
     · simp [Addr.add_lit]
   rw [hadr] at this
   exact this
 | gr' => intro x' rd c hv _ _ _; simp [view] at hv
 | ge => intro x' rd c hv _ _ _; simp [view] at hv
 | gb ρ1 id n li v hb hgg h0 =>
   intro x' rd c hv h1 h2 h3
   subst hρ
   simp only [view] at hv
   cases hg : mg id with
   | none => simp [hg] at hv
   | some bl =>
   cases bl <;> simp only [hg] at hv <;> (try (cases hv; done))
   rename_i tS ty sz2 n2 m e
   cases hv
   obtain rfl := h2 _ rfl
   obtain ⟨v0, rows', e1, e2, e3, e4, _, _⟩ := I.blk id _ ((h1 id (by simp)).trans hg)
   rw [hb] at e1; cases e1
   obtain rfl := (hgg _ _ _ rfl).2 e2.symm
   refine ro_of_own e3 (fun b hb' => h3 id (by simp) _ b hb (.inl hb')) (fun _ _ => rfl) (fun x hx => ?_) (fun i j c y hi hj hy => ?_)
   · obtain ⟨r, hr, rfl⟩ := List.mem_map.1 hx
     obtain ⟨k, hk⟩ := List.getElem?_of_mem hr
     exact (e4 k r hk).2.1
   · have hj0 : j = 0 := by
       have := (List.getElem?_eq_some_iff.1 hj).1
       simp at this; exact this
     subst hj0
     simp at hj; subst hj
     rw [Nat.mul_one, Nat.add_zero, List.getElem?_map] at hy
     cases hk : rows'[i]? with
     | none => simp [hk] at hy
     | some r =>
     simp [hk] at hy
     subst hy
     obtain ⟨g0, g1, xs, g2, g3, g4, g5⟩ := e4 i r hk
     rw [g0] at g2
     exact ro_of_own g2 (fun b hb' => h3 id (by simp) _ b hb (.inr ⟨r, List.mem_of_getElem? hk, hb'⟩)) g3 g4 (fun i' j' c' v' hi' hj' hv' => (g5 i' j' c' v' hi' hj' hv').heap hLe)
theorem viewL_sound (I : InvH N C h ρ F M g a w) {H2 : Hp} (hLe : Le h H2) {xs xs' : List AV} {vs : List Value} {rd : List Nat} {c : Option Prop} (H : RelL h ρ xs vs) (hv : viewL mg xs = some (xs', rd, c)) (hm : ∀ id, id ∈ rd → M id = mg id) (hc : ∀ q, c = some q → q)
   (hH : ∀ id, id ∈ rd → ∀ li b, ρ id = some li → li.owns b → H2 b = w.heap[b]?) : RelL H2 ρ0 xs' vs := by
 obtain ⟨hl, hg⟩ := viewL_get hv
 refine ⟨by rw [hl]; exact H.1, fun i y z hy hz => ?_⟩
 obtain ⟨y0, rd', c', e1, e2, e3, e4⟩ := hg i y hy
 exact view_sound I hLe (H.2 i y0 z e1 hz) e2 (fun id hid => hm id (e3 id hid)) (e4 hc) (fun id hid => hH id (e3 id hid))
end
def Enters (P : Program) (f : FuncId) : Prop := ∀ args w, (callFunc f args).run P w = .ok (.enter f args) w
def Fw (r : Option Nat) : Fence := { fn := fun _ => True, depth := none, alive := false, round := r }
def mm : List (Nat × Blk) → Mm
 | [] => fun _ => none
 | (i, b) :: r => upd (mm r) i (some b)
structure Owns (h : Hp) (ρ : Rho) (B : List (Nat × Blk)) (w w' : World) : Prop where
 blk : ∀ id x, mm B id = some x → BlkOk h ρ id x w'
 dom : ∀ id, mm B id = none → ρ id = none
 own : ∀ id li b, ρ id = some li → li.owns b → h b = none ∧ w.heap.size ≤ b ∧ b < w'.heap.size
 inj : ∀ id id' li li' b, ρ id = some li → ρ id' = some li' → li.owns b → li'.owns b → id = id'
def CtrPost (h : Hp) (w : World) (v : AV) (B : List (Nat × Blk)) : Ending → World → Prop
 | .returned x, w' => ∃ h' ρ', RowKit.Below w.heap.size w w' ∧ (∀ b o, h b = some o → h' b = some o) ∧ (∀ b o, h' b = some o → h b = some o ∨ (w.heap.size ≤ b ∧ w'.heap[b]? = some o)) ∧ Rel h' ρ' v x ∧ Owns h' ρ' B w w'
 | _, _ => False
def Ctr (P : Program) (f : FuncId) (args : List AV) (v : AV) (B : List (Nat × Blk) := []) : Prop :=
 Enters P f ∧ ∀ (h : Hp) (w : World) (vs : List Value), RelL h ρ0 args vs → (∀ b o, h b = some o → w.heap[b]? = some o) → CallsIn (Fw none) 0 P f vs.toArray w (CtrPost h w v B)
structure Ownd (h : Hp) (ρ : Rho) (B : List (Nat × Blk)) (w : World) : Prop where
 blk : ∀ id x, mm B id = some x → BlkOk h ρ id x w
 dom : ∀ id, mm B id = none → ρ id = none
 own : ∀ id li b, ρ id = some li → li.owns b → h b = none ∧ b < w.heap.size
 inj : ∀ id id' li li' b, ρ id = some li → ρ id' = some li' → li.owns b → li'.owns b → id = id'
def CtrOPost (h : Hp) (w : World) (ρ : Rho) (v : AV) (B : List (Nat × Blk)) : Ending → World → Prop
 | .returned x, w' => ∃ h' ρ', w'.os = w.os ∧ w'.tape = w.tape ∧ w'.output = w.output ∧ w.heap.size ≤ w'.heap.size ∧ (∀ k, k < w.heap.size → ¬ ownSet ρ k → w'.heap[k]? = w.heap[k]?) ∧
     (∀ b o, h b = some o → h' b = some o) ∧ (∀ b o, h' b = some o → h b = some o ∨ (w.heap.size ≤ b ∧ w'.heap[b]? = some o)) ∧ Rel h' ρ' v x ∧ Ownd h' ρ' B w' ∧ (∀ id li b, ρ' id = some li → li.owns b → ownSet ρ b ∨ w.heap.size ≤ b) ∧ ∀ id li li', ρ id = some li → ρ' id = some li' → li.le li'
 | _, _ => False
def CtrO (P : Program) (f : FuncId) (args : List AV) (A : List (Nat × Blk)) (v : AV) (B : List (Nat × Blk)) : Prop :=
 Enters P f ∧ ∀ (h : Hp) (w : World) (ρ : Rho) (vs : List Value), RelL h ρ args vs → (∀ b o, h b = some o → w.heap[b]? = some o) → Ownd h ρ A w → CallsIn (Fw none) 0 P f vs.toArray w (CtrOPost h w ρ v B)
def CtrG (P : Program) (f : FuncId) (xs : List AV × List (Nat × Blk)) (v : AV) (B : List (Nat × Blk)) : Prop := match xs.2 with
 | [] => Ctr P f xs.1 v B
 | _ :: _ => match takes B with
   | some _ => CtrO P f xs.1 xs.2 v B.tail
   | none => CtrO P f xs.1 xs.2 v B
theorem room_w (r : Option Nat) (n : Nat) : (Fw r).room n := fun d h => by cases h
theorem callsIn_w {P : Program} {f : FuncId} {args : Array Value} {w : World} {R : Ending → World → Prop} {r r' : Option Nat} {n n' : Nat} (H : CallsIn (Fw r) n P f args w R) : CallsIn (Fw r') n' P f args w R :=
 ⟨trivial, fun cs _ => H.2 cs (room_w _ _)⟩
section
variable {P : Program} {N : Nat} {C : Ctx} {h : Hp} {ρ : Rho} {F : Fr} {M : Mm} {g : Nat} {a : Act} {w : World} {Γ : Tys} {mg : Mm} {o : Oper}
def StepIn (P : Program) (N : Nat) (C : Ctx) (F : Fr) (M : Mm) (g : Nat) (a : Act) (o : Oper) (w : World) (v : AV) (wr : List (Nat × Blk)) : Prop :=
 ∀ (rr : Option Nat) (n : Nat) (K : Act → World → Prop) (Q : Exit → Act → World → Prop), (∀ x h' ρ' w', InvH N C h' ρ' F (updL M wr) g a w' → Rel h' ρ' v x → K (a.put o.dst x) w') → o.wpIn (Fw rr) n P a w K Q
theorem Good.stepIn {r : R} (G : Good P N C h ρ F M g a o w r) (hd : ∀ c, o.op ≠ .defer c) : StepIn P N C F M g a o w r.v r.wr := by
 intro rr n K Q hK
 obtain ⟨x, w', h', ρ', hr, I, hv⟩ := G
 refine ⟨fun _ _ => trivial, ?_⟩
 rw [Oper.semAt_eq _ _ _ hd]
 rcases hr with e | ⟨e, rfl⟩ <;> rw [e]
 · exact hK _ _ _ _ I hv
 · exact hK _ _ _ _ I hv
theorem keysB_mm : ∀ {B : List (Nat × Blk)} {id : Nat}, id ∈ keysB B ↔ (mm B id).isSome = true
 | [], id => by simp [keysB, mm]
 | (i, b) :: r, id => by
   simp only [keysB, mm, List.mem_cons, upd]
   split
   · rename_i hb; simp [Nat.eq_of_beq_eq_true hb]
   · rename_i hb
     rw [keysB_mm (B := r)]
     have : id ≠ i := by rintro rfl; simp at hb
     simp [this]
theorem keysB_sh {k : Nat} : ∀ {B : List (Nat × Blk)}, keysB (shB k B) = (keysB B).map (k + ·)
 | [] => rfl
 | (i, b) :: r => by simp [keysB, shB, keysB_sh (B := r)]
theorem freshAll_spec : ∀ {l : List Nat}, freshAll mg l = true → ∀ i, i ∈ l → mg i = none
 | x :: l, h, i, hi => by
   unfold freshAll at h
   split at h
   · rename_i hx
     rcases List.mem_cons.1 hi with rfl | hi
     · exact hx
     · exact freshAll_spec h i hi
   · cases h
theorem noDup_spec {i : Nat} {r : List Nat} (h : noDup (i :: r) = true) : i ∉ r ∧ noDup r = true := by
 unfold noDup at h
 split at h
 · cases h
 · rename_i hb
   refine ⟨fun hi => ?_, h⟩
   have : ∀ {l : List Nat} {t : Nat}, t ∈ l → inList l t = true := by
     intro l
     induction l with
     | nil => intro t h; cases h
     | cons k l ih =>
       intro t h
       unfold inList
       rcases List.mem_cons.1 h with rfl | h
       · simp
       · split
         · rfl
         · exact ih h
   rw [this hi] at hb; cases hb
theorem updL_out {k : Nat} : ∀ {B : List (Nat × Blk)} {M : Mm} {id : Nat}, (∀ i, i ∈ keysB B → id ≠ k + i) → updL M (shB k B) id = M id
 | [], _, _, _ => rfl
 | (i, b) :: r, M, id, h => by
   simp only [shB, updL]
   rw [updL_out (fun j hj => h j (by simp [keysB, hj])), upd_other _ _ (h i (by simp [keysB]))]
theorem updL_in {k : Nat} : ∀ {B : List (Nat × Blk)} {M : Mm} {id : Nat}, noDup (keysB B) = true → id ∈ keysB B → ∃ x, mm B id = some x ∧ updL M (shB k B) (k + id) = some (x.sh k)
 | (i, b) :: r, M, id, hd, h => by
   obtain ⟨h1, h2⟩ := noDup_spec (by simpa only [keysB] using hd)
   simp only [shB, updL, mm, upd]
   simp only [keysB, List.mem_cons] at h
   by_cases e : id = i
   · subst e
     refine ⟨b, by simp, ?_⟩
     rw [updL_out (fun j hj => by rintro e; have : id = j := (by omega); exact h1 (this ▸ hj)), upd_same]
   · obtain ⟨x, e1, e2⟩ := updL_in (M := upd M (k + i) (some (b.sh k))) h2 (h.resolve_left e)
     refine ⟨x, ?_, e2⟩
     have : Nat.beq id i = false := by
       cases hb : Nat.beq id i with
       | false => rfl
       | true => exact absurd (Nat.eq_of_beq_eq_true hb) e
     simp [this, e1]
theorem InvH.adopt (I : InvH N C h ρ F M g a w) {w' : World} {h' : Hp} {ρc : Rho} {B : List (Nat × Blk)} {k : Nat} (hB : RowKit.Below w.heap.size w w') (hh : ∀ b o, h b = some o → h' b = some o) (hnew : ∀ b o, h' b = some o → h b = some o ∨ (w.heap.size ≤ b ∧ w'.heap[b]? = some o))
   (O : Owns h' ρc B w w') (hd : noDup (keysB B) = true) (hf : ∀ i, i ∈ keysB B → M (k + i) = none) (ho : onlyBs (keysB B) B = true) :
   ∃ ρ', InvH N C h' ρ' F (updL M (shB k B)) g a w' ∧ ∀ i, i ∈ keysB B → ρ' (k + i) = ρc i := by
 classical
 let ρ' : Rho := fun id => if k ≤ id ∧ (id - k) ∈ keysB B then ρc (id - k) else ρ id
 have hin : ∀ i, i ∈ keysB B → ρ' (k + i) = ρc i := fun i hi => by
   show (if k ≤ k + i ∧ (k + i - k) ∈ keysB B then ρc (k + i - k) else ρ (k + i)) = ρc i
   rw [Nat.add_sub_cancel_left, if_pos ⟨Nat.le_add_right _ _, hi⟩]
 have hout : ∀ id, (¬ ∃ i, i ∈ keysB B ∧ id = k + i) → ρ' id = ρ id := fun id hn => by
   show (if k ≤ id ∧ (id - k) ∈ keysB B then ρc (id - k) else ρ id) = ρ id
   rw [if_neg]
   rintro ⟨h1, h2⟩
   exact hn ⟨id - k, h2, by omega⟩
 have hblk : ∀ i x, i ∈ keysB B → mm B i = some x → onlyB (keysB B) x = true := by
   have key : ∀ {ids : List Nat} {B' : List (Nat × Blk)}, onlyBs ids B' = true → ∀ i x, mm B' i = some x → onlyB ids x = true := by
     intro ids B'
     induction B' with
     | nil => intro _ i x hx; cases hx
     | cons y r ih =>
       obtain ⟨j, b⟩ := y
       intro ho i x hx
       unfold onlyBs at ho
       split at ho
       · rename_i hb
         simp only [mm, upd] at hx
         split at hx
         · cases hx; exact hb
         · exact ih ho i x hx
       · cases ho
   intro i x _ hx
   exact key ho i x hx
 refine ⟨ρ', I.step (S := fun id => ∃ i, i ∈ keysB B ∧ id = k + i) hB.os hB.tape hB.output hB.size (fun k' hk' _ => hB.block k' hk') hout ?_ hh hnew ?_ ?_ ?_ ?_ ?_, hin⟩
 · intro id li hi
   refine ⟨li, ?_, .inl rfl⟩
   rw [hout id ?_]
   · exact hi
   · rintro ⟨i, h1, rfl⟩
     rw [I.dom _ (hf i h1)] at hi; cases hi
 · intro id hn
   exact updL_out (fun i hi e => hn ⟨i, hi, e⟩)
 · rintro id ⟨i, h1, rfl⟩ hM
   obtain ⟨x, _, e2⟩ := updL_in (M := M) (k := k) hd h1
   rw [e2] at hM; cases hM
 · rintro id x ⟨i, h1, rfl⟩ hM
   obtain ⟨y, e1, e2⟩ := updL_in (M := M) (k := k) hd h1
   rw [e2] at hM; cases hM
   exact (O.blk i y e1).shift hin h1 (hblk i y h1 e1)
 · rintro id li b ⟨i, h1, rfl⟩ hr hb
   rw [hin i h1] at hr
   obtain ⟨q1, q2, q3⟩ := O.own i li b hr hb
   exact .inr ⟨q2, q3, q1⟩
 · rintro id id' li li' b ⟨i, h1, rfl⟩ ⟨i', h1', rfl⟩ hr hr' hb hb'
   rw [hin i h1] at hr
   rw [hin i' h1'] at hr'
   rw [O.inj i i' li li' b hr hr' hb hb']
theorem call_core (I : InvH N C h ρ F M g a w) {f : FuncId} {xs' : List AV} {vs : List Value} {rd : List Nat} {c : Option Prop} {rv : RV} {r : R} (hrun : (execOp a.eval o).run P w = (callFunc f vs.toArray).run P w) (hd : ∀ c, o.op ≠ .defer c)
   (hr : evRet mg f xs' rd c rv = some r) (hm : ∀ id, id ∈ r.rd → M id = mg id) (hctr : Ctr P f xs' rv.v rv.B)
   (H : ∀ H2 : Hp, Le h H2 → (∀ id, id ∈ rd → ∀ li b, ρ id = some li → li.owns b → H2 b = w.heap[b]?) → (rd = [] ∨ r.rd = rd) → RelL H2 ρ0 xs' vs) : StepIn P N C F M g a o w r.v r.wr := by
 intro rr n K Q hK
 refine ⟨fun _ _ => trivial, ?_⟩
 rw [Oper.semAt_eq _ _ _ hd, hrun, hctr.1]
 refine ⟨fun e => (by cases e), ?_⟩
 obtain ⟨v, B, k, K0⟩ := rv
 unfold evRet at hr
 cases rd with
 | nil =>
   simp only [] at hr
   split at hr
   · rename_i h1
     split at hr
     · rename_i h2
       split at hr
       · rename_i h3
         split at hr
         · rename_i h4
           cases hr
           refine callsIn_w ((hctr.2 h w vs (H h (Le.refl h) (fun id hid => by cases hid) (.inl rfl)) I.hp).mono fun e w' he => ?_)
           cases e with
           | returned x =>
             obtain ⟨h', ρc, q1, q2, q3, q4, q5⟩ := he
             have hfr : ∀ i, i ∈ keysB B → M (k + i) = none := fun i hi => by
               have hmem : k + i ∈ keysB (shB k B) := by rw [keysB_sh]; exact List.mem_map_of_mem hi
               rw [hm _ hmem]
               exact freshAll_spec h4 _ hmem
             obtain ⟨ρ', I', hin⟩ := I.adopt q1 q2 q3 q5 h3 hfr h2
             exact hK x h' ρ' w' I' (q4.shift hin h1)
           | panicked ch => exact he.elim
           | outgrown => exact he.elim
         · cases hr
       · cases hr
     · cases hr
   · cases hr
 | cons i rd =>
   simp only [] at hr
   split at hr
   · rename_i hgr
     cases B with
     | cons => simp at hr
     | nil =>
     simp only [] at hr
     cases hr
     refine callsIn_w ((hctr.2 (hAll h ρ w) w vs (H _ (Le.of I.le_all) (fun id hid li b h1 h2 => hAll_own h1 h2) (.inr rfl)) I.all_hp).mono fun e w' he => ?_)
     cases e with
     | returned x =>
       obtain ⟨h', ρc, h1, h2, h3, h4, _⟩ := he
       exact hK x h ρ w' (I.below h1 (fun _ _ x => x) (fun _ _ x => .inl x)) (h4.of_gr hgr)
     | panicked ch => exact he.elim
     | outgrown => exact he.elim
   · cases hr
theorem run_call {P : Program} {a : Act} {o : Oper} {f : Operand} {args : Array Operand} {ts : Array TypeId} (ho : o.op = .call { callee := .value f, args := args, argTypes := ts }) {gf : FuncId} {us ws : List Value} (he : a.eval f = .func (.func gf) us.toArray ws.toArray) (w : World) :
   (execOp a.eval o).run P w = (callFunc gf (us ++ (args.toList.map a.eval ++ ws)).toArray).run P w := by
 have e1 : args.map a.eval = (args.toList.map a.eval).toArray := by apply Array.ext'; simp
 unfold execOp
 simp [ho, resolve, Deferred.ofValue, invoke, he, e1]
theorem evRet_cs {f : FuncId} {xs : List AV} {rd : List Nat} {c : Option Prop} {rv : RV} {r : R} (h : evRet mg f xs rd c rv = some r) : r.cs = c ∧ r.rq = some (f, xs, []) ∧ (rd = [] ∨ r.rd = rd) := by
 unfold evRet at h
 cases rd with
 | nil =>
   simp only [] at h
   split at h
   · split at h
     · split at h
       · split at h
         · cases h; exact ⟨rfl, rfl, .inl rfl⟩
         · cases h
       · cases h
     · cases h
   · cases h
 | cons =>
   simp only [] at h
   split at h
   · cases hB : rv.B with
     | nil => simp only [hB] at h; cases h; exact ⟨rfl, rfl, .inr rfl⟩
     | cons => simp [hB] at h
   · cases h
theorem call_take (I : InvH N C h ρ F M g a w) {f : FuncId} {xs : List AV} {vs : List Value} {rv : RV} {id : Nat} {r : R} (hrun : (execOp a.eval o).run P w = (callFunc f vs.toArray).run P w) (hd : ∀ c, o.op ≠ .defer c) (htk : takes rv.B = some id)
   (hr : evTake mg f xs id rv.v rv.B.tail rv.k = some r) (hm : ∀ id, id ∈ r.rd → M id = mg id) (hq : ∀ gf xs, r.rq = some (gf, xs) → CtrG P gf xs rv.v rv.B) (hx : RelL h ρ xs vs) : StepIn P N C F M g a o w r.v r.wr := by
 intro rr n K Q hK
 obtain ⟨v, B0, k, K0⟩ := rv
 obtain ⟨B, hB⟩ : ∃ B, B0.tail = B := ⟨_, rfl⟩
 simp only [hB] at hr hq
 unfold evTake at hr
 cases hg : mg id with
 | none => simp [hg] at hr
 | some bl =>
 cases bl <;> simp only [hg] at hr <;> (try (cases hr; done))
 rename_i ty sz m e
 cases h1 : onlyL [id] xs with
 | false => simp [h1] at hr
 | true =>
 simp only [h1] at hr
 cases h2 : onlyIds (keysB B) v with
 | false => simp [h2] at hr
 | true =>
 simp only [h2] at hr
 cases h3 : onlyBs (keysB B) B with
 | false => simp [h3] at hr
 | true =>
 simp only [h3] at hr
 cases h4 : noDup (keysB B) with
 | false => simp [h4] at hr
 | true =>
 simp only [h4] at hr
 cases h5 : freshAll mg (keysB (shB k B)) with
 | false => simp [h5] at hr
 | true =>
 simp only [h5] at hr
 cases hr
 have hctr : CtrO P f xs [(id, .buf ty sz m e)] v B := by
   have := hq f (xs, [(id, .buf ty sz m e)]) rfl
   simpa [CtrG, hB, show takes B0 = some id from htk] using this
 have hMid : M id = some (.buf ty sz m e) := (hm id (by simp)).trans hg
 have hfr : ∀ i, i ∈ keysB B → M (k + i) = none := fun i hi => by
   have hmem : k + i ∈ keysB (shB k B) := by rw [keysB_sh]; exact List.mem_map_of_mem hi
   rw [hm _ (by simp [hmem])]
   exact freshAll_spec h5 _ hmem
 have hne : ∀ i, i ∈ keysB B → k + i ≠ id := fun i hi e => by
   have := hfr i hi
   rw [e, hMid] at this; cases this
 obtain ⟨v0, us, k1, k2, k3, k5, k4⟩ := I.blk id _ hMid
 refine ⟨fun _ _ => trivial, ?_⟩
 rw [Oper.semAt_eq _ _ _ hd, hrun, hctr.1]
 refine ⟨fun e => (by cases e), ?_⟩
 obtain ⟨ρi, hρi⟩ : ∃ ρi : Rho, ρi = fun j => if j = id then ρ id else none := ⟨_, rfl⟩
 have hρid : ρi id = ρ id := by rw [hρi]; simp
 have hρin : ∀ j li, ρi j = some li → j = id ∧ ρ id = some li := fun j li h => by
   rw [hρi] at h
   by_cases hj : j = id
   · simp [hj] at h; exact ⟨hj, h⟩
   · simp [hj] at h
 have hown : ∀ b, ownSet ρi b ↔ ∃ li, ρ id = some li ∧ li.owns b := fun b => by
   constructor
   · rintro ⟨j, li, q1, q2⟩
     obtain ⟨rfl, q3⟩ := hρin j li q1
     exact ⟨li, q3, q2⟩
   · rintro ⟨li, q1, q2⟩
     exact ⟨id, li, hρid.trans q1, q2⟩
 have hrel : RelL h ρi xs vs := ⟨hx.1, fun i c v hc hv => (hx.2 i c v hc hv).forget (ids := [id]) (fun j hj => by
   have : j = id := by simpa using hj
   subst this; exact hρid) (onlyL_get h1 hc)⟩
 have hOw : Ownd h ρi [(id, .buf ty sz m e)] w := by
   refine ⟨fun j x hj => ?_, fun j hj => ?_, fun j li b q1 q2 => ?_, fun j j' li li' b q1 q1' _ _ => ?_⟩
   · simp only [mm, upd] at hj
     split at hj
     · rename_i hb
       have := Nat.eq_of_beq_eq_true hb
       subst this
       cases hj
       exact ⟨v0, us, hρid.trans k1, k2, k3, k5, k4⟩
     · cases hj
   · cases hp : ρi j with
     | none => rfl
     | some li =>
       obtain ⟨rfl, _⟩ := hρin j li hp
       simp [mm, upd] at hj
   · obtain ⟨rfl, q3⟩ := hρin j li q1
     obtain ⟨q4, q5, _⟩ := I.own j li b q3 q2
     exact ⟨q4, q5⟩
   · rw [(hρin j li q1).1, (hρin j' li' q1').1]
 refine callsIn_w ((hctr.2 h w ρi vs hrel I.hp hOw).mono fun en w' he => ?_)
 cases en with
 | panicked ch => exact he.elim
 | outgrown => exact he.elim
 | returned x =>
 obtain ⟨h', ρ2, p1, p2, p3, p4, p5, p6, p7, p8, p9, p10, _⟩ := he
 classical
 let ρ' : Rho := fun j => if j = id then some (.sl (m + 1) sz (.slice none 0 0)) else if k ≤ j ∧ (j - k) ∈ keysB B then ρ2 (j - k) else ρ j
 have hin : ∀ i, i ∈ keysB B → ρ' (k + i) = ρ2 i := fun i hi => by
   show (if k + i = id then _ else if k ≤ k + i ∧ (k + i - k) ∈ keysB B then ρ2 (k + i - k) else ρ (k + i)) = ρ2 i
   rw [if_neg (hne i hi), Nat.add_sub_cancel_left, if_pos ⟨Nat.le_add_right _ _, hi⟩]
 have hdead : ρ' id = some (.sl (m + 1) sz (.slice none 0 0)) := if_pos rfl
 have hout : ∀ j, ¬ (j = id ∨ ∃ i, i ∈ keysB B ∧ j = k + i) → ρ' j = ρ j := fun j hn => by
   simp only [not_or] at hn
   show (if j = id then _ else if k ≤ j ∧ (j - k) ∈ keysB B then ρ2 (j - k) else ρ j) = ρ j
   rw [if_neg hn.1, if_neg]
   rintro ⟨q1, q2⟩
   exact hn.2 ⟨j - k, q2, by omega⟩
 have hblk : ∀ i x, mm B i = some x → onlyB (keysB B) x = true := by
   have key : ∀ {ids : List Nat} {B' : List (Nat × Blk)}, onlyBs ids B' = true → ∀ i x, mm B' i = some x → onlyB ids x = true := by
     intro ids B'
     induction B' with
     | nil => intro _ i x hx; cases hx
     | cons y r ih =>
       obtain ⟨j, b⟩ := y
       intro ho i x hx
       unfold onlyBs at ho
       split at ho
       · rename_i hb
         simp only [mm, upd] at hx
         split at hx
         · cases hx; exact hb
         · exact ih ho i x hx
       · cases ho
   exact key h3
 have hMd : ∀ j, updL M ((id, .dead) :: shB k B) j = updL (upd M id (some .dead)) (shB k B) j := fun j => rfl
 have hMid' : updL M ((id, .dead) :: shB k B) id = some .dead := by
   rw [hMd, updL_out (fun i hi => (hne i hi).symm), upd_same]
 refine hK x h' ρ' w' (I.step (S := fun j => j = id ∨ ∃ i, i ∈ keysB B ∧ j = k + i) p1 p2 p3 p4 (fun kk hkk hS => p5 kk hkk (fun ho => by
   obtain ⟨li, q1, q2⟩ := (hown kk).1 ho
   exact hS id li (.inl rfl) q1 q2)) hout ?_ p6 p7 ?_ ?_ ?_ ?_ ?_) (p8.shift hin h2)
 · intro j li hj
   by_cases hj1 : j = id
   · subst hj1
     rw [k1] at hj; cases hj
     exact ⟨_, hdead, .inr (.inl ⟨_, _, _, _, _, rfl, rfl, Nat.lt_succ_self _⟩)⟩
   · refine ⟨li, ?_, .inl rfl⟩
     rw [hout j ?_]
     · exact hj
     · rintro (q | ⟨i, q1, rfl⟩)
       · exact hj1 q
       · rw [I.dom _ (hfr i q1)] at hj; cases hj
 · intro j hn
   simp only [not_or] at hn
   show updL M ((id, .dead) :: shB k B) j = M j
   rw [hMd, updL_out (fun i hi e => hn.2 ⟨i, hi, e⟩), upd_other _ _ hn.1]
 · rintro j (rfl | ⟨i, q1, rfl⟩) hM
   · rw [hMid'] at hM; cases hM
   · obtain ⟨y, _, e2⟩ := updL_in (M := upd M id (some .dead)) (k := k) h4 q1
     rw [hMd, e2] at hM; cases hM
 · rintro j y (rfl | ⟨i, q1, rfl⟩) hM
   · rw [hMid'] at hM; cases hM
     exact ⟨_, _, hdead⟩
   · obtain ⟨z, e1, e2⟩ := updL_in (M := upd M id (some .dead)) (k := k) h4 q1
     rw [hMd, e2] at hM; cases hM
     exact (p9.blk i z e1).shift hin q1 (hblk i z e1)
 · rintro j li b (rfl | ⟨i, q1, rfl⟩) hj hb
   · rw [hdead] at hj; cases hj; simp [LI.owns, Value.ownBlock] at hb
   · rw [hin i q1] at hj
     rcases p10 i li b hj hb with q2 | q2
     · obtain ⟨li0, q3, q4⟩ := (hown b).1 q2
       exact .inl ⟨id, li0, .inl rfl, q3, q4⟩
     · obtain ⟨q3, q4⟩ := p9.own i li b hj hb
       exact .inr ⟨q2, q4, q3⟩
 · rintro j j' li li' b (rfl | ⟨i, q1, rfl⟩) (rfl | ⟨i', q1', rfl⟩) hj hj' hb hb'
   · rfl
   · rw [hdead] at hj; cases hj; simp [LI.owns, Value.ownBlock] at hb
   · rw [hdead] at hj'; cases hj'; simp [LI.owns, Value.ownBlock] at hb'
   · rw [hin i q1] at hj
     rw [hin i' q1'] at hj'
     rw [p9.inj i i' li li' b hj hj' hb hb']
theorem BlkOk.forget {h : Hp} {ρ ρ' : Rho} {ids : List Nat} (hρ : ∀ id, id ∈ ids → ρ' id = ρ id) {id : Nat} {x : Blk} {w : World} (H : BlkOk h ρ id x w) (hid : id ∈ ids) (ho : onlyB ids x = true) : BlkOk h ρ' id x w := by
 cases x with
 | cells cs =>
   obtain ⟨b, vs, ty, q1, q2, q3, q4⟩ := H
   exact ⟨b, vs, ty, (hρ id hid).trans q1, q2, q3, fun i c v hc hv => (q4 i c v hc hv).forget hρ (onlyL_get (by simpa [onlyB] using ho) hc)⟩
 | buf ty sz n e =>
   obtain ⟨v, xs, q1, q2⟩ := H
   exact ⟨v, xs, (hρ id hid).trans q1, q2⟩
 | map z dom e n =>
   obtain ⟨b, es, clock, ks, q1, q2⟩ := H
   exact ⟨b, es, clock, ks, (hρ id hid).trans q1, q2⟩
 | bufk ty sz n c e =>
   obtain ⟨v, xs, q1, q2⟩ := H
   exact ⟨v, xs, (hρ id hid).trans q1, q2⟩
 | iter e cur Pl =>
   obtain ⟨b, bm, clock, c0, es, seen, left, q1, q2⟩ := H
   exact ⟨b, bm, clock, c0, es, seen, left, (hρ id hid).trans q1, q2⟩
 | dead =>
   obtain ⟨n, sz, q1⟩ := H
   exact ⟨n, sz, (hρ id hid).trans q1⟩
 | grid tS ty sz n m e =>
   obtain ⟨v, rows, q1, q2⟩ := H
   exact ⟨v, rows, (hρ id hid).trans q1, q2⟩
theorem BlkOk.name {h : Hp} {ρ : Rho} {id : Nat} {x : Blk} {w : World} (H : BlkOk h ρ id x w) : ∃ li, ρ id = some li := by
 cases x with
 | cells cs => obtain ⟨b, vs, ty, q1, _⟩ := H; exact ⟨_, q1⟩
 | buf ty sz n e => obtain ⟨v, xs, q1, _⟩ := H; exact ⟨_, q1⟩
 | map z dom e n => obtain ⟨b, es, clock, ks, q1, _⟩ := H; exact ⟨_, q1⟩
 | bufk ty sz n c e => obtain ⟨v, xs, q1, _⟩ := H; exact ⟨_, q1⟩
 | iter e cur Pl => obtain ⟨b, bm, clock, c0, es, seen, left, q1, _⟩ := H; exact ⟨_, q1⟩
 | dead => obtain ⟨n, sz, q1⟩ := H; exact ⟨_, q1⟩
 | grid tS ty sz n m e => obtain ⟨v, rows, q1, _⟩ := H; exact ⟨_, q1⟩
theorem onlyBs_mm {ids : List Nat} : ∀ {B : List (Nat × Blk)}, onlyBs ids B = true → ∀ i x, mm B i = some x → onlyB ids x = true
 | [], _, i, x, hx => by cases hx
 | (j, b) :: r, ho, i, x, hx => by
   unfold onlyBs at ho
   split at ho
   · rename_i hb
     simp only [mm, upd] at hx
     split at hx
     · cases hx; exact hb
     · exact onlyBs_mm ho i x hx
   · cases ho
theorem updL_keys : ∀ {B : List (Nat × Blk)} {M : Mm} {i : Nat}, noDup (keysB B) = true → i ∈ keysB B → updL M B i = mm B i
 | [], M, i, _, h => by cases h
 | (j, b) :: r, M, i, hn, h => by
   obtain ⟨h1, h2⟩ := noDup_spec (i := j) (r := keysB r) hn
   simp only [updL]
   rcases List.mem_cons.1 h with rfl | h3
   · have e : updL (upd M i (some b)) r i = upd M i (some b) i := by
       have key : ∀ {r : List (Nat × Blk)} {M : Mm}, i ∉ keysB r → updL M r i = M i := by
         intro r
         induction r with
         | nil => intro M _; rfl
         | cons y r ih =>
           obtain ⟨k, c⟩ := y
           intro M hk
           simp only [keysB, List.mem_cons, not_or] at hk
           simp only [updL]
           rw [ih hk.2, upd_other _ _ hk.1]
       exact key h1
     rw [e, upd_same]
     simp [mm, upd]
   · rw [updL_keys h2 h3]
     have hne : i ≠ j := fun e => h1 (e ▸ h3)
     simp only [mm]
     rw [upd_other _ _ hne]
theorem updL_off : ∀ {B : List (Nat × Blk)} {M : Mm} {i : Nat}, i ∉ keysB B → updL M B i = M i
 | [], M, i, _ => rfl
 | (j, b) :: r, M, i, h => by
   simp only [keysB, List.mem_cons, not_or] at h
   simp only [updL]
   rw [updL_off h.2, upd_other _ _ h.1]
theorem handed_spec {mg : Mm} : ∀ {K : List Nat} {A : List (Nat × Blk)}, handed mg K = some A → (∀ i, i ∈ K → ∃ b, mm A i = some b ∧ mg i = some b) ∧ ∀ i, i ∉ K → mm A i = none
 | [], A, h => by simp only [handed] at h; cases h; exact ⟨fun i h => (by cases h), fun i _ => rfl⟩
 | j :: K, A, h => by
   simp only [handed] at h
   split at h
   · rename_i b hb
     split at h
     · rename_i l hl
       cases h
       obtain ⟨h1, h2⟩ := handed_spec hl
       refine ⟨fun i hi => ?_, fun i hi => ?_⟩
       · simp only [mm]
         by_cases e : i = j
         · subst e; exact ⟨b, upd_same _ _ _, hb⟩
         · rw [upd_other _ _ e]
           rcases List.mem_cons.1 hi with h3 | h3
           · exact absurd h3 e
           · exact h1 i h3
       · simp only [List.mem_cons, not_or] at hi
         simp only [mm]
         rw [upd_other _ _ hi.1]
         exact h2 i hi.2
     · cases h
   · cases h
theorem allIn_spec {ids : List Nat} : ∀ {K : List Nat}, allIn ids K = true → ∀ i, i ∈ K → i ∈ ids
 | [], _, i, h => by cases h
 | j :: K, h, i, hi => by
   simp only [allIn] at h
   split at h
   · rename_i hj
     rcases List.mem_cons.1 hi with rfl | h3
     · exact inList_mem hj
     · exact allIn_spec h i h3
   · cases h
theorem freshOr_spec {K : List Nat} {mg : Mm} : ∀ {l : List Nat}, freshOr K mg l = true → ∀ i, i ∈ l → i ∈ K ∨ mg i = none
 | [], _, i, h => by cases h
 | j :: l, h, i, hi => by
   simp only [freshOr] at h
   split at h
   · rename_i hj
     rcases List.mem_cons.1 hi with rfl | h3
     · exact .inl (inList_mem hj)
     · exact freshOr_spec h i h3
   · split at h
     · rename_i hm
       rcases List.mem_cons.1 hi with rfl | h3
       · exact .inr hm
       · exact freshOr_spec h i h3
     · cases h
theorem call_lend (I : InvH N C h ρ F M g a w) {f : FuncId} {xs : List AV} {vs : List Value} {rv : RV} {r : R} (hrun : (execOp a.eval o).run P w = (callFunc f vs.toArray).run P w) (hd : ∀ c, o.op ≠ .defer c) (htk : takes rv.B = none) {i0 : Nat} {K0 : List Nat}
   (hr : evLend mg f xs rv.v rv.B (i0 :: K0) = some r) (hm : ∀ id, id ∈ r.rd → M id = mg id) (hq : ∀ gf xs, r.rq = some (gf, xs) → CtrG P gf xs rv.v rv.B) (hx : RelL h ρ xs vs) : StepIn P N C F M g a o w r.v r.wr := by
 intro rr n KK Q hK
 obtain ⟨v, B, k, K1⟩ := rv
 obtain ⟨K, hKe⟩ : ∃ K, i0 :: K0 = K := ⟨_, rfl⟩
 simp only [hKe] at hr hq htk
 unfold evLend at hr
 cases hg : handed mg K with
 | none => simp [hg] at hr
 | some A =>
 simp only [hg] at hr
 cases h1 : onlyL K xs with
 | false => simp [h1] at hr
 | true =>
 simp only [h1] at hr
 cases h2 : onlyBs K A with
 | false => simp [h2] at hr
 | true =>
 simp only [h2] at hr
 cases h3 : onlyIds (keysB B) v with
 | false => simp [h3] at hr
 | true =>
 simp only [h3] at hr
 cases h4 : onlyBs (keysB B) B with
 | false => simp [h4] at hr
 | true =>
 simp only [h4] at hr
 cases h5 : noDup (keysB B) with
 | false => simp [h5] at hr
 | true =>
 simp only [h5] at hr
 cases h6 : allIn (keysB B) K with
 | false => simp [h6] at hr
 | true =>
 simp only [h6] at hr
 cases h7 : freshOr K mg (keysB B) with
 | false => simp [h7] at hr
 | true =>
 simp only [h7] at hr
 cases hr
 obtain ⟨a1, a2⟩ := handed_spec hg
 have hctr : CtrO P f xs A v B := by
   have := hq f (xs, A) rfl
   cases A with
   | nil =>
     obtain ⟨b, q, _⟩ := a1 i0 (by rw [← hKe]; exact List.mem_cons_self ..)
     cases q
   | cons y A => simpa [CtrG, htk] using this
 have hKB := allIn_spec h6
 have hMK : ∀ i, i ∈ K → M i = mg i := fun i hi => hm i (hKB i hi)
 refine ⟨fun _ _ => trivial, ?_⟩
 rw [Oper.semAt_eq _ _ _ hd, hrun, hctr.1]
 refine ⟨fun e => (by cases e), ?_⟩
 classical
 obtain ⟨ρi, hρi⟩ : ∃ ρi : Rho, ρi = fun j => if j ∈ K then ρ j else none := ⟨_, rfl⟩
 have hρid : ∀ j, j ∈ K → ρi j = ρ j := fun j hj => by rw [hρi]; simp [hj]
 have hρin : ∀ j li, ρi j = some li → j ∈ K ∧ ρ j = some li := fun j li h => by
   rw [hρi] at h
   by_cases hj : j ∈ K
   · simp [hj] at h; exact ⟨hj, h⟩
   · simp [hj] at h
 have hrel : RelL h ρi xs vs := ⟨hx.1, fun i c v hc hv => (hx.2 i c v hc hv).forget (ids := K) hρid (onlyL_get h1 hc)⟩
 have hOw : Ownd h ρi A w := by
   refine ⟨fun j x hj => ?_, fun j hj => ?_, fun j li b q1 q2 => ?_, fun j j' li li' b q1 q1' q2 q2' => ?_⟩
   · have hjK : j ∈ K := Classical.byContradiction fun hn => by rw [a2 j hn] at hj; cases hj
     obtain ⟨b, e1, e2⟩ := a1 j hjK
     rw [hj] at e1; cases e1
     exact (I.blk j x ((hMK j hjK).trans e2)).forget (ids := K) hρid hjK (onlyBs_mm h2 j x hj)
   · cases hp : ρi j with
     | none => rfl
     | some li =>
       obtain ⟨hjK, _⟩ := hρin j li hp
       obtain ⟨b, e1, _⟩ := a1 j hjK
       rw [hj] at e1; cases e1
   · obtain ⟨_, q3⟩ := hρin j li q1
     obtain ⟨q4, q5, _⟩ := I.own j li b q3 q2
     exact ⟨q4, q5⟩
   · exact I.inj j j' li li' b (hρin j li q1).2 (hρin j' li' q1').2 q2 q2'
 refine callsIn_w ((hctr.2 h w ρi vs hrel I.hp hOw).mono fun en w' he => ?_)
 cases en with
 | panicked ch => exact he.elim
 | outgrown => exact he.elim
 | returned x =>
 obtain ⟨h', ρ2, p1, p2, p3, p4, p5, p6, p7, p8, p9, p10, p11⟩ := he
 let ρ' : Rho := fun j => if j ∈ keysB B then ρ2 j else ρ j
 have hin : ∀ j, j ∈ keysB B → ρ' j = ρ2 j := fun j hj => if_pos hj
 have hout : ∀ j, j ∉ keysB B → ρ' j = ρ j := fun j hj => if_neg hj
 have hfr : ∀ j, j ∈ keysB B → j ∉ K → ρ j = none := fun j hj hjK => by
   rcases freshOr_spec h7 j hj with q | q
   · exact absurd q hjK
   · exact I.dom j ((hm j hj).trans q)
 refine hK x h' ρ' w' (I.step (S := fun j => j ∈ keysB B) p1 p2 p3 p4 (fun kk hkk hS => p5 kk hkk (fun ho => by
   obtain ⟨j, li, q1, q2⟩ := ho
   obtain ⟨q3, q4⟩ := hρin j li q1
   exact hS j li (hKB j q3) q4 q2)) hout ?_ p6 p7 (fun j hj => updL_off hj) ?_ ?_ ?_ ?_) (p8.forget (ids := keysB B) hin h3)
 · intro j li hj
   by_cases hjB : j ∈ keysB B
   · by_cases hjK : j ∈ K
     · obtain ⟨y, hy⟩ : ∃ y, mm B j = some y := Option.isSome_iff_exists.1 (keysB_mm.1 hjB)
       obtain ⟨li', e⟩ := (p9.blk j y hy).name
       exact ⟨li', (hin j hjB).trans e, p11 j li li' ((hρid j hjK).trans hj) e⟩
     · rw [hfr j hjB hjK] at hj; cases hj
   · exact ⟨li, (hout j hjB).trans hj, .inl rfl⟩
 · intro j hj hM
   rw [updL_keys h5 hj] at hM
   have := keysB_mm.1 hj
   rw [hM] at this; cases this
 · intro j y hj hM
   rw [updL_keys h5 hj] at hM
   exact (p9.blk j y hM).forget (ids := keysB B) hin hj (onlyBs_mm h4 j y hM)
 · intro j li b hj q1 q2
   rw [hin j hj] at q1
   rcases p10 j li b q1 q2 with ⟨j0, li0, q3, q4⟩ | q3
   · obtain ⟨q5, q6⟩ := hρin j0 li0 q3
     exact .inl ⟨j0, li0, hKB j0 q5, q6, q4⟩
   · obtain ⟨q4, q5⟩ := p9.own j li b q1 q2
     exact .inr ⟨q3, q5, q4⟩
 · intro j j' li li' b hj hj' q1 q1' q2 q2'
   rw [hin j hj] at q1
   rw [hin j' hj'] at q1'
   exact p9.inj j j' li li' b q1 q1' q2 q2'
theorem evCall_sound (I : InvH N C h ρ F M g a w) {f : Operand} {args : Array Operand} {ts : Array TypeId} (ho : o.op = .call { callee := .value f, args := args, argTypes := ts }) {val : Operand → AV} (hv : ∀ y, y ∈ o.op.operands → Rel h ρ (val y) (a.eval y)) {own : List Nat} {rv : RV} {r : R}
   (hr : evalOp Γ own val mg o (some rv) = some r) (hm : ∀ id, id ∈ r.rd → M id = mg id) (hc : ∀ q, r.cs = some q → q) (hq : ∀ gf xs, r.rq = some (gf, xs) → CtrG P gf xs rv.v rv.B) : StepIn P N C F M g a o w r.v r.wr := by
 have hd : ∀ c, o.op ≠ .defer c := fun c e => by rw [ho] at e; cases e
 have hf := hv f (by rw [ho]; simp [Op.operands, Call.operands])
 have hargs := mapAV_rel args.toList (fun x hx => hv x (mem_callArgs ho hx))
 unfold evalOp at hr
 simp only [ho] at hr
 cases hvf : val f <;> simp only [hvf] at hr <;> (try (cases hr; done))
 case fn k fs cs =>
   rw [hvf] at hf
   cases k <;> (try simp only [] at hr) <;> (try (cases hr; done))
   rename_i gf
   generalize hef : a.eval f = u at hf
   cases hf with
   | fn _ _ _ _ us ws hl1 hl2 hc1 hc2 =>
   have hall : RelL h ρ (fs ++ (mapAV val args.toList ++ cs)) (us ++ (args.toList.map a.eval ++ ws)) := RelL.append ⟨hl1, hc1⟩ (RelL.append hargs ⟨hl2, hc2⟩)
   unfold evCall at hr
   simp only [forceL_eq] at hr
   cases htk : takes rv.B with
   | some id =>
     simp only [htk] at hr
     exact call_take I (run_call ho hef w) hd htk hr hm hq hall
   | none =>
   simp only [htk] at hr
   cases hKr : rv.K with
   | cons i0 K0 =>
     simp only [hKr] at hr
     exact call_lend I (run_call ho hef w) hd htk hr hm hq hall
   | nil =>
   simp only [hKr] at hr
   cases hvl : viewL mg (fs ++ (mapAV val args.toList ++ cs)) with
   | none => simp only [hvl] at hr; cases hr
   | some q =>
   obtain ⟨xs', rd, c⟩ := q
   simp only [hvl] at hr
   obtain ⟨e1, e2, e3⟩ := evRet_cs hr
   exact call_core I (run_call ho hef w) hd hr hm (hq _ _ e2) (fun H2 hLe hH hrd => viewL_sound I hLe hall hvl (fun id hid => by
     rcases e3 with e3 | e3
     · subst e3; cases hid
     · exact hm id (e3 ▸ hid)) (fun q hq => hc q (e1.trans hq)) hH)
 case clo k fs cs =>
   rw [hvf] at hf
   cases k <;> (try simp only [] at hr) <;> (try (cases hr; done))
   rename_i gf
   generalize hef : a.eval f = u at hf
   cases hf with
   | clo _ _ _ _ _ hf =>
   cases hf with
   | fn _ _ _ _ us ws hl1 hl2 hc1 hc2 =>
   unfold evClo at hr
   simp only [forceL_eq] at hr
   cases htk : takes rv.B with
   | some id => simp only [htk] at hr; cases hr
   | none =>
   simp only [htk] at hr
   cases hvl : viewL mg (mapAV val args.toList) with
   | none => simp only [hvl] at hr; cases hr
   | some q =>
   obtain ⟨xs', rd, c⟩ := q
   simp only [hvl] at hr
   obtain ⟨e1, e2, e3⟩ := evRet_cs hr
   exact call_core I (run_call ho hef w) hd hr hm (hq _ _ e2) (fun H2 hLe hH hrd => RelL.append (RelL.heap ⟨hl1, hc1⟩ hLe) (RelL.append (viewL_sound I hLe hargs hvl (fun id hid => by
     rcases e3 with e3 | e3
     · subst e3; cases hid
     · exact hm id (e3 ▸ hid)) (fun q hq => hc q (e1.trans hq)) hH) (RelL.heap ⟨hl2, hc2⟩ hLe)))
end
end Go.Av
end
