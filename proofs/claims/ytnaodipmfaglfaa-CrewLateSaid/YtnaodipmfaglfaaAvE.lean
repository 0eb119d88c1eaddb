/- The evaluator is right, part 2: one operation. -/
import Derived.Test.YtnaodipmfaglfaaAvD
set_option linter.all false
namespace Go.Av
def Runs (P : Program) (a : Act) (o : Oper) (w : World) (x : Value) (w' : World) : Prop :=
  (execOp a.eval o).run P w = .ok (.value x) w' ∨ ((execOp a.eval o).run P w = .ok .skip w' ∧ x = undef)
def updL (M : Mm) : List (Nat × Blk) → Mm
  | [] => M
  | (i, b) :: r => updL (upd M i (some b)) r
def Good (P : Program) (N : Nat) (C : Ctx) (h : Hp) (ρ : Rho) (F : Fr) (M : Mm) (g : Nat) (a : Act) (o : Oper) (w : World) (r : R) : Prop :=
  ∃ x w' h' ρ', Runs P a o w x w' ∧ InvH N C h' ρ' F (updL M r.wr) g a w' ∧ Rel h' ρ' r.v x
section
variable {P : Program} {N : Nat} {C : Ctx} {h : Hp} {ρ : Rho} {F : Fr} {M : Mm} {g : Nat} {a : Act} {w : World} {Γ : Tys} {mg : Mm} {o : Oper}
theorem Good.same (I : InvH N C h ρ F M g a w) {r : R} {x : Value} (hr : Runs P a o w x w) (hw : r.wr = []) (hv : Rel h ρ r.v x) : Good P N C h ρ F M g a o w r :=
  ⟨x, w, h, ρ, hr, by rw [hw]; exact I, hv⟩
theorem fresh_spec {d : Nat} (hf : fresh mg o = some d) : o.dst = some d ∧ mg d = none := by
  unfold fresh at hf
  cases hd : o.dst with
  | none => rw [hd] at hf; cases hf
  | some e =>
    rw [hd] at hf
    simp only [] at hf
    cases hm : mg e with
    | none => rw [hm] at hf; cases hf; exact ⟨rfl, hm⟩
    | some b => rw [hm] at hf; cases hf
theorem BlkOk.cells_new {d : Nat} {cs : List AV} {vs : List Value} {ty : TypeId} (H : RelL h ρ cs vs) (hd : ρ d = none) :
    BlkOk h (upd ρ d (some (.blk w.heap.size))) d (.cells cs) (w.alloc (.cells vs.toArray ty)) := by
  refine ⟨w.heap.size, vs, ty, upd_same _ _ _, heap_alloc_new w _, H.1, fun i c v hc hv => (H.2 i c v hc hv).mono (Le.refl h) ?_⟩
  intro i li hi
  have hne : i ≠ d := by rintro rfl; rw [hd] at hi; cases hi
  exact ⟨li, by rw [upd_other _ _ hne]; exact hi, .inl rfl⟩
theorem Good.newCells (I : InvH N C h ρ F M g a w) {d : Nat} {cs : List AV} {vs : List Value} {ty : TypeId} (hd : M d = none) (H : RelL h ρ cs vs)
    (hr : Runs P a o w (.pointer (some ⟨w.heap.size, 0, none⟩)) (w.alloc (.cells vs.toArray ty))) : Good P N C h ρ F M g a o w ⟨.lp d 0, [d], [(d, .cells cs)], none, none⟩ := by
  have hρ := I.dom d hd
  exact ⟨_, _, h, _, hr, I.allocOwn hd _ (.blk w.heap.size) (.cells cs) (fun b hb => (Option.some.inj hb).symm) (BlkOk.cells_new H hρ), .lp _ _ _ _ (upd_same _ _ _)⟩
theorem ev_alloc (hΓ : TysOk P Γ) (I : InvH N C h ρ F M g a w) {t : TypeId} (ho : o.op = .alloc t) {T : TyD} (hT : tyOf Γ t = some T) {d : Nat} (hd : M d = none) :
    Good P N C h ρ F M g a o w ⟨.lp d 0, [d], [(d, .cells (zeros T.zero))], none, none⟩ := by
  have hTy := hΓ t T hT
  refine Good.newCells I hd (RelL.zeros h ρ T.zero) (ty := t) (.inl ?_)
  unfold execOp
  simp [ho, Instr.alloc, hTy.runZero w, newVar, newRow, zeroV_cells hTy]
theorem ev_box (I : InvH N C h ρ F M g a w) {t : TypeId} {x : Operand} (ho : o.op = .box t x) {v : AV} (hv : Rel h ρ v (a.eval x)) {cs : List AV} (hc : cellsV v = some cs) {d : Nat} (hd : M d = none) :
    Good P N C h ρ F M g a o w ⟨.lp d 0, [d], [(d, .cells cs)], none, none⟩ := by
  obtain ⟨vs, h1, h2, _⟩ := cellsV_sound hc hv
  refine Good.newCells I hd h2 (ty := t) (.inl ?_)
  unfold execOp
  simp [ho, Instr.box, newVar, newRow, h1]
theorem ev_load (hΓ : TysOk P Γ) (I : InvH N C h ρ F M g a w) {t : TypeId} {x : Operand} (ho : o.op = .load t x) {T : TyD} (hT : tyOf Γ t = some T) {p : AV} (hp : Rel h ρ p (a.eval x)) {cs : List AV} {rd : List Nat} {c : Option Prop}
    (ht : target mg p = some (cs, rd, c)) (hm : ∀ id, id ∈ rd → M id = mg id) (hc : ∀ q, c = some q → q) {v : AV} (hv : ofCells T cs = some v) : Good P N C h ρ F M g a o w ⟨v, rd, [], c, none⟩ := by
  obtain ⟨ad, h1, h2⟩ := target_sound I ht hm hc hp
  obtain ⟨y, h3, h4⟩ := run_load_lies h2 (hΓ t T hT) hv
  refine Good.same I (.inl ?_) rfl h4
  unfold execOp
  simp [ho, h1, Instr.loadAt, Instr.sureAddr, h3]
theorem ptrAdd_sound {off : Nat} {p q : AV} (hq : ptrAdd off p = some q) {v : Value} (H : Rel h ρ p v) : ∃ ad, v = .pointer (some ad) ∧ Rel h ρ q (.pointer (some (ad.add off))) := by
  cases p <;> simp only [ptrAdd] at hq <;> try (cases hq; done)
  case rp cs =>
    cases hd : dropN off cs with
    | none => rw [hd] at hq; cases hq
    | some r =>
      rw [hd] at hq; cases hq
      obtain ⟨rfl, hle⟩ := dropN_get hd
      cases H with
      | rp _ _ ad hs hc =>
        have hadd : ∀ j, (ad.add off).add j = ad.add (off + j) := by
          intro j
          unfold Addr.add
          split <;> split <;> split <;> simp_all <;> omega
        refine ⟨ad, rfl, .rp _ _ _ (fun j hj => ?_) (fun j c v hj hv => ?_)⟩
        · rw [hadd]; exact hs _ (by simp at hj; omega)
        · rw [hadd] at hv; rw [List.getElem?_drop] at hj; exact hc _ c v hj hv
  case lp id o =>
    cases hq
    cases H with
    | lp _ _ _ b hb => exact ⟨_, rfl, by rw [Addr.add_lit]; exact .lp _ _ _ _ hb⟩
  case ep id n i o =>
    cases hq
    cases H with
    | ep _ _ _ _ _ n' sz _ v' hb hle h1 he =>
      obtain ⟨ad, rfl⟩ := h1
      refine ⟨ad, rfl, .ep _ _ _ _ _ _ _ _ _ hb hle ⟨_, rfl⟩ (fun e => ?_)⟩
      obtain ⟨b, cap, h2, h3⟩ := he e
      cases h3
      exact ⟨b, cap, h2, by rw [Addr.add_lit, Nat.add_assoc]⟩
  case ge id i k j o =>
    cases hq
    cases H with
    | ge _ _ _ _ _ _ m' sz gv v v' rows hb hi hle h1 he =>
      obtain ⟨ad, rfl⟩ := h1
      refine ⟨ad, rfl, .ge _ _ _ _ _ _ _ _ _ _ _ _ hb hi hle ⟨_, rfl⟩ (fun e => ?_)⟩
      obtain ⟨b, cap, h2, h3⟩ := he e
      cases h3
      exact ⟨b, cap, h2, by rw [Addr.add_lit, Nat.add_assoc]⟩
theorem run_sizes (P : Program) (w : World) : ∀ (l : List Field), (∀ x ∈ l, (P.info? x.type).isSome = true) →
    (l.mapM (fun f => do pure (f.offset, ← sizeOf f.type)) : Sem (List (Nat × Nat))).run P w = .ok (l.map fun f => (f.offset, P.cellsOf f.type)) w
  | [], _ => rfl
  | f :: l, hl => by
    obtain ⟨i, hi⟩ := Option.isSome_iff_exists.1 (hl f (by simp))
    have ih := run_sizes P w l (fun x hx => hl x (by simp [hx]))
    rw [List.mapM_cons]
    simp only [Sem.run_bind, sizeOf, typeInfo, run_program, Result.andThen_ok, hi, Sem.run_pure] at ih ⊢
    rw [ih]
    simp [Program.cellsOf, hi]
theorem TyOk.cellsOf {t : TypeId} {T : TyD} (hT : TyOk P t T) : P.cellsOf t = T.size := by
  obtain ⟨i, h1, h2, _, _⟩ := hT.info
  simp [Program.cellsOf, h1, h2]
theorem foldl_set (off : Nat) : ∀ (ys : List Value) (j : Nat) (A : Array Value), ((ys.zipIdx j).foldl (fun cs (c, i) => cs.setIfInBounds (off + i) c) A).size = A.size ∧
    ∀ k, ((ys.zipIdx j).foldl (fun cs (c, i) => cs.setIfInBounds (off + i) c) A)[k]? = if off + j ≤ k ∧ k < off + j + ys.length ∧ k < A.size then ys[k - (off + j)]? else A[k]?
  | [], j, A => ⟨rfl, fun k => by rw [if_neg (by simp; omega)]; rfl⟩
  | y :: ys, j, A => by
    obtain ⟨h1, h2⟩ := foldl_set off ys (j + 1) (A.setIfInBounds (off + j) y)
    simp only [List.zipIdx_cons, List.foldl_cons]
    refine ⟨by simpa using h1, fun k => ?_⟩
    rw [h2 k]
    simp only [Array.size_setIfInBounds, List.length_cons, Array.getElem?_setIfInBounds]
    by_cases hk : k < A.size
    · by_cases he : off + j = k
      · subst he
        rw [if_neg (by omega), if_pos rfl, if_pos hk, if_pos (by omega)]
        simp
      · by_cases hc : off + (j + 1) ≤ k ∧ k < off + (j + 1) + ys.length
        · rw [if_pos (by omega), if_pos (by omega), show k - (off + j) = k - (off + (j + 1)) + 1 by omega]
          simp
        · rw [if_neg (by omega), if_neg he, if_neg (by omega)]
    · have hn : A[k]? = none := by simp; omega
      rw [if_neg (fun hh => hk hh.2.2)]
      rw [show (if off + j ≤ k ∧ k < off + j + (ys.length + 1) ∧ k < A.size then (y :: ys)[k - (off + j)]? else A[k]?) = A[k]? from if_neg (fun hh => hk hh.2.2)]
      by_cases he : off + j = k
      · rw [if_pos he, if_neg (by omega), hn]
      · rw [if_neg he]
theorem layParts_sound {place : Nat → Option (Nat × Nat)} {place' : Nat → Option (Nat × Nat)} (hp : ∀ i q, place i = some q → place' i = some q) :
    ∀ {ps : List (Nat × AV)} {qs : List (Nat × Value)} {zs cs : List AV} {vs : List Value}, layParts zs place ps = some cs → RelL h ρ zs vs → ps.length = qs.length →
      (∀ (k i j : Nat) (v : AV) (x : Value), ps[k]? = some (i, v) → qs[k]? = some (j, x) → i = j ∧ Rel h ρ v x) → ∃ us : List Value, Instr.fill place' vs.toArray qs = some us.toArray ∧ RelL h ρ cs us
  | [], [], zs, cs, vs, hl, hz, _, _ => by simp [layParts] at hl; subst hl; exact ⟨vs, rfl, hz⟩
  | [], _ :: _, _, _, _, _, _, hn, _ => by simp at hn
  | _ :: _, [], _, _, _, _, _, hn, _ => by simp at hn
  | (i, v) :: ps, (j, x) :: qs, zs, cs, vs, hl, hz, hn, hq => by
    obtain ⟨rfl, hv⟩ := hq 0 i j v x (by simp) (by simp)
    simp only [layParts] at hl
    cases hpl : place i with
    | none => rw [hpl] at hl; cases hl
    | some q =>
      obtain ⟨off, sz⟩ := q
      rw [hpl] at hl
      simp only [] at hl
      cases hc : cellsV v with
      | none => rw [hc] at hl; cases hl
      | some xs =>
        rw [hc] at hl
        cases xs with
        | nil => cases hl
        | cons x0 xs =>
        simp only [] at hl
        cases hb : Nat.beq (x0 :: xs).length sz with
        | false => rw [hb] at hl; cases hl
        | true =>
          rw [hb] at hl
          simp only [] at hl
          cases hy : layN off (x0 :: xs) zs with
          | none => rw [hy] at hl; cases hl
          | some zs' =>
            rw [hy] at hl
            simp only [] at hl
            have hsz := Nat.eq_of_beq_eq_true hb
            obtain ⟨ys, h1, h2, _⟩ := cellsV_sound hc hv
            obtain ⟨h3, h4, h5⟩ := layN_get hy
            have hylen : ys.length = sz := by rw [h2.1, hsz]
            rw [if_neg (by simp)] at h4
            have hfit : off + ys.length ≤ vs.length := by rw [h2.1, hz.1]; simpa using h4
            obtain ⟨f1, f2⟩ := foldl_set off ys 0 vs.toArray
            obtain ⟨A, hA⟩ : ∃ A, (ys.zipIdx 0).foldl (fun cs (c, i) => cs.setIfInBounds (off + i) c) vs.toArray = A := ⟨_, rfl⟩
            rw [hA] at f1 f2
            have hz' : RelL h ρ zs' A.toList := by
              refine ⟨by simp at f1 ⊢; rw [f1, h3, hz.1], fun k c u hck hu => ?_⟩
              have hu' : A[k]? = some u := by simpa using hu
              rw [f2 k] at hu'
              rw [h5 k] at hck
              simp only [Nat.add_zero] at hu'
              have hkl : k < vs.length := by
                have := (List.getElem?_eq_some_iff.1 hu).1
                simp at this f1; omega
              by_cases hin : off ≤ k ∧ k < off + ys.length
              · rw [if_pos (by simp; omega)] at hu'
                rw [if_pos (by rw [← h2.1]; exact hin)] at hck
                exact h2.2 _ c u hck hu'
              · rw [if_neg (by omega)] at hu'
                rw [if_neg (by rw [← h2.1]; exact hin)] at hck
                exact hz.2 k c u hck (by simpa using hu')
            obtain ⟨us, h6, h7⟩ := layParts_sound hp (vs := A.toList) hl hz' (by simpa using hn) (fun k i j v x hk hk' => hq (k + 1) i j v x (by simpa using hk) (by simpa using hk'))
            refine ⟨us, ?_, h7⟩
            have hsize : x.cells.size = sz := by rw [h1]; simpa using hylen
            have hng : ¬ (vs.toArray.size < off + x.cells.size) := by rw [h1]; simp; omega
            simp only [Instr.fill, hp i _ hpl]
            rw [if_neg (by simp [hsize]; rw [← hsize]; simpa using hng)]
            have hfold : (x.cells.zipIdx.foldl (fun cs (c, j) => cs.setIfInBounds (off + j) c) vs.toArray) = A := by
              rw [← hA, h1, ← Array.foldl_toList, Array.toList_zipIdx]
            rw [hfold]
            simpa using h6
theorem repL_get {zs : List AV} : ∀ {n i : Nat}, i < n * zs.length → (repL zs n)[i]? = zs[i % zs.length]?
  | 0, i, h => by simp at h
  | n + 1, i, h => by
    simp only [repL]
    by_cases hi : i < zs.length
    · rw [List.getElem?_append_left hi, Nat.mod_eq_of_lt hi]
    · rw [Nat.add_mul, Nat.one_mul] at h
      rw [List.getElem?_append_right (by omega), repL_get (n := n) (by omega)]
      rw [Nat.mod_eq_sub_mod (a := i) (by omega)]
theorem repL_len {zs : List AV} : ∀ n : Nat, (repL zs n).length = n * zs.length
  | 0 => by simp [repL]
  | n + 1 => by simp [repL, repL_len n, Nat.add_mul, Nat.add_comm]
theorem RelL.made {t : TypeId} {T : TyD} (hT : TyOk P t T) (h : Hp) (ρ : Rho) (n : Nat) : RelL h ρ (repL (Av.zeros T.zero) n) (madeCells T.zero.toArray (n * T.size)).toList := by
  refine ⟨by simp [madeCells, repL_len, zeros_len, hT.len], fun i c v hc hv => ?_⟩
  have hi : i < n * T.size := by
    have := (List.getElem?_eq_some_iff.1 hc).1
    rw [repL_len, zeros_len, hT.len] at this; exact this
  rw [repL_get (by rw [zeros_len, hT.len]; exact hi), zeros_len, hT.len] at hc
  have hpos : 0 < T.size := by
    rcases Nat.eq_zero_or_pos T.size with h0 | h0
    · rw [h0] at hi; simp at hi
    · exact h0
  have hlt : i % T.size < T.zero.length := by rw [hT.len]; exact Nat.mod_lt _ hpos
  have hv' : v = T.zero[i % T.size] := by
    have h1 : (madeCells T.zero.toArray (n * T.size))[i]? = some v := by simpa using hv
    unfold madeCells at h1
    rw [Array.getElem?_map, Array.getElem?_range] at h1
    simp [hi, hT.len] at h1
    rw [← h1]
    have hlt' : i % T.size < T.zero.toArray.size := by simpa using hlt
    simp [hlt]
  subst hv'
  exact (RelL.zeros h ρ T.zero).2 _ c _ hc (List.getElem?_eq_getElem hlt)
end
end Go.Av
