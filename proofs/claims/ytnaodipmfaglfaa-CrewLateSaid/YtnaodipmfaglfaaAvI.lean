/- The evaluator is right, part 6: addresses, slices, lengths, appends. -/
import Derived.Test.YtnaodipmfaglfaaAvH
set_option linter.all false
namespace Go.Av
section
variable {P : Program} {N : Nat} {C : Ctx} {h : Hp} {ρ : Rho} {F : Fr} {M : Mm} {g : Nat} {a : Act} {w : World} {Γ : Tys} {mg : Mm} {o : Oper}
theorem ev_fieldAddr (hΓ : TysOk P Γ) (I : InvH N C h ρ F M g a w) {t : TypeId} {p : Operand} {k : Nat} (ho : o.op = .fieldAddr t p k) {T : TyD} (hT : tyOf Γ t = some T) {fs : List (Nat × TypeId)} (hd : T.d = .struct fs) {off ft : Nat} (hn : nthN k fs = some (off, ft))
    {FT : TyD} (hFT : tyOf Γ ft = some FT) (hpos : FT.size ≠ 0) {x v : AV} (hx : Rel h ρ x (a.eval p)) (hv : ptrAdd off x = some v) : Good P N C h ρ F M g a o w (R.val v) := by
  obtain ⟨f, hu, hfs, _, _, _⟩ := (hΓ t T hT).und_struct hd
  obtain ⟨ad, h1, h2⟩ := ptrAdd_sound hv hx
  have h3 := nthN_get hn
  rw [← hfs] at h3
  simp only [List.getElem?_map, Array.getElem?_toList, Option.map_eq_some_iff] at h3
  obtain ⟨fd, h4, h5⟩ := h3
  cases h5
  refine Good.same I (.inl ?_) rfl h2
  unfold execOp
  simp only [ho, h1, Instr.fieldAt, Sem.run_bind, run_underlying hu, Result.andThen_ok, h4, Instr.sureAddr, Sem.run_pure, fieldPlace, (hΓ _ FT hFT).runSize w]
  rw [if_neg hpos]
  simp only [Sem.run_pure, Result.andThen_ok]
theorem RelL.tail {cs : List AV} {vs : List Value} (H : RelL h ρ cs vs) (n : Nat) : RelL h ρ (cs.drop n) (vs.drop n) :=
  ⟨by simp [H.1], fun i c v hc hv => by rw [List.getElem?_drop] at hc hv; exact H.2 _ c v hc hv⟩
theorem ofCells_val {t : TypeId} {T : TyD} (hT : TyOk P t T) {cs : List AV} {vs : List Value} {off : Nat} {v : AV} (H : RelL h ρ cs vs) (ho : ofCells T (cs.drop off) = some v) (w : World) :
    ∃ x, (part t vs.toArray off).run P w = .ok x w ∧ Rel h ρ v x := by
  unfold ofCells at ho
  cases ha : T.d.agg with
  | true =>
    rw [ha] at ho
    simp only [] at ho
    cases hk : takeN T.size (cs.drop off) with
    | none => rw [hk] at ho; cases ho
    | some xs =>
      rw [hk] at ho; cases ho
      obtain ⟨rfl, hle⟩ := takeN_get hk
      have hc := H.cut off T.size
      have hl : ((vs.drop off).take T.size).length = T.size := by rw [hc.1]; simp at hle ⊢; omega
      refine ⟨_, run_part hT hl w, ?_⟩
      simp only [TyD.val, ha]
      exact .agg _ _ _ hc.1 hc.2
  | false =>
    rw [ha] at ho
    simp only [] at ho
    cases hk : cs.drop off with
    | nil => rw [hk] at ho; cases ho
    | cons c r =>
      rw [hk] at ho; cases ho
      have h1 := hT.pos ha
      have hlt : off < cs.length := by
        rcases Nat.lt_or_ge off cs.length with h' | h'
        · exact h'
        · rw [List.drop_eq_nil_of_le h'] at hk; cases hk
      have hlt' : off < vs.length := by rw [H.1]; exact hlt
      have hl : ((vs.drop off).take T.size).length = T.size := by rw [h1]; simp; omega
      have hcv : cs[off]? = some v := by
        have : (cs.drop off)[0]? = some v := by rw [hk]; rfl
        simpa using this
      refine ⟨_, run_part hT hl w, ?_⟩
      simp only [TyD.val, ha, h1]
      have hd : vs.drop off = vs[off] :: vs.drop (off + 1) := List.drop_eq_getElem_cons hlt'
      rw [hd]
      exact H.2 off v _ hcv (List.getElem?_eq_getElem hlt')
theorem ev_field (hΓ : TysOk P Γ) (I : InvH N C h ρ F M g a w) {t : TypeId} {p : Operand} {k : Nat} (ho : o.op = .field t p k) {T : TyD} (hT : tyOf Γ t = some T) {fs : List (Nat × TypeId)} (hd : T.d = .struct fs) {off ft : Nat} (hn : nthN k fs = some (off, ft))
    {FT : TyD} (hFT : tyOf Γ ft = some FT) {cs r : List AV} (hx : Rel h ρ (.agg cs) (a.eval p)) (hr : dropN off cs = some r) {v : AV} (hv : ofCells FT r = some v) : Good P N C h ρ F M g a o w (R.val v) := by
  obtain ⟨f, hu, hfs, _, _, _⟩ := (hΓ t T hT).und_struct hd
  have h3 := nthN_get hn
  rw [← hfs] at h3
  simp only [List.getElem?_map, Array.getElem?_toList, Option.map_eq_some_iff] at h3
  obtain ⟨fd, h4, h5⟩ := h3
  cases h5
  obtain ⟨rfl, _⟩ := dropN_get hr
  generalize hp : a.eval p = pv at hx
  cases hx with
  | agg _ _ vs hl hc =>
    obtain ⟨y, h6, h7⟩ := ofCells_val (hΓ _ FT hFT) ⟨hl, hc⟩ hv w
    refine Good.same I (.inl ?_) rfl h7
    unfold execOp
    simp only [ho, hp, Instr.field, Sem.run_bind, run_underlying hu, Result.andThen_ok, h4, asAgg, Sem.run_pure, h6]
theorem ev_index (hΓ : TysOk P Γ) (I : InvH N C h ρ F M g a w) {t : TypeId} {p i : Operand} (ho : o.op = .index t p i) {T : TyD} (hT : tyOf Γ t = some T) {n : Nat} {e : TypeId} (hd : T.d = .array n e)
    {E : TyD} (hE : tyOf Γ e = some E) {cs r : List AV} (hx : Rel h ρ (.agg cs) (a.eval p)) {q : Int} (hi : Rel h ρ (.int .i64 q) (a.eval i)) (hr : dropN (q.toNat * E.size) cs = some r) {v : AV} (hv : ofCells E r = some v) (hq : 0 ≤ q ∧ q < (n : Int)) :
    Good P N C h ρ F M g a o w (R.valIf v (0 ≤ q ∧ q < (n : Int))) := by
  have hu := (hΓ t T hT).und_array hd
  obtain ⟨rfl, _⟩ := dropN_get hr
  generalize hp : a.eval p = pv at hx
  generalize hj : a.eval i = iv at hi
  cases hi
  cases hx with
  | agg _ _ vs hl hc =>
    obtain ⟨y, h6, h7⟩ := ofCells_val (hΓ _ E hE) ⟨hl, hc⟩ hv w
    refine Good.same I (.inl ?_) rfl h7
    unfold execOp
    simp only [ho, hp, hj, Instr.index, asIntOf, Sem.run_bind, run_underlying hu, Result.andThen_ok, Sem.run_pure]
    rw [if_pos hq]
    simp only [Sem.run_bind, (hΓ _ E hE).runSize w, Result.andThen_ok, h6]
theorem add_add' (ad : Addr) (i j : Nat) : (ad.add i).add j = ad.add (i + j) := by
  unfold Addr.add
  split <;> split <;> split <;> simp_all <;> omega
theorem ev_indexAddr_ro (hΓ : TysOk P Γ) (I : InvH N C h ρ F M g a w) {t : TypeId} {p i : Operand} (ho : o.op = .indexAddr t p i) {T : TyD} (hT : tyOf Γ t = some T) {e : TypeId} (hd : T.d = .slice e)
    {E : TyD} (hE : tyOf Γ e = some E) {sz n : Nat} {el : Nat → List AV} (hx : Rel h ρ (.ro sz n el) (a.eval p)) (hsz : sz = E.size) {q : Int} (hi : Rel h ρ (.int .i64 q) (a.eval i)) (hq : 0 ≤ q ∧ q < (n : Int)) :
    Good P N C h ρ F M g a o w (R.valIf (.rp (el q.toNat)) (0 ≤ q ∧ q < (n : Int))) := by
  subst hsz
  have hu := (hΓ t T hT).und_slice hd
  generalize hp : a.eval p = pv at hx
  generalize hj : a.eval i = iv at hi
  cases hi
  cases hx with
  | ro _ _ _ _ ad cap hnil hcap hl hs _ hc =>
    have hlt : q.toNat < n := by omega
    cases ad with
    | none => have := hnil rfl; omega
    | some ad =>
      refine Good.same I (x := .pointer (some (ad.add (q.toNat * E.size)))) (.inl ?_) rfl (.rp _ _ _ (fun j hj' => ?_) (fun j c v hj' hv => ?_))
      · unfold execOp
        simp only [ho, hp, hj, Instr.indexAt, asIntOf, Sem.run_bind, run_underlying hu, Result.andThen_ok, Sem.run_pure]
        rw [if_pos hq]
        simp only [Sem.run_bind, (hΓ _ E hE).runSize w, Result.andThen_ok, Sem.run_pure]
      · rw [hl _ hlt] at hj'
        rw [add_add']; exact hs _ j hlt hj'
      · rw [add_add'] at hv; exact hc _ j c v hlt hj' hv
theorem ev_indexAddr_buf (hΓ : TysOk P Γ) (I : InvH N C h ρ F M g a w) {t : TypeId} {p i : Operand} (ho : o.op = .indexAddr t p i) {T : TyD} (hT : tyOf Γ t = some T) {e : TypeId} (hd : T.d = .slice e)
    {E : TyD} (hE : tyOf Γ e = some E) {id n : Nat} (hx : Rel h ρ (.buf id n) (a.eval p)) {ty sz n' : Nat} {el : Nat → List AV} (hm : M id = some (.buf ty sz n' el)) (hsz : sz = E.size) {q : Int} (hi : Rel h ρ (.int .i64 q) (a.eval i)) (hq : n = n' ∧ 0 ≤ q ∧ q < (n' : Int)) :
    Good P N C h ρ F M g a o w ⟨.ep id n' q.toNat 0, [id], [], some (n = n' ∧ 0 ≤ q ∧ q < (n' : Int)), none⟩ := by
  subst hsz
  obtain ⟨rfl, hq⟩ := hq
  have hu := (hΓ t T hT).und_slice hd
  obtain ⟨v0, us, e1, e2, e3, _, e4⟩ := I.blk id _ hm
  generalize hp : a.eval p = pv at hx
  generalize hj : a.eval i = iv at hi
  cases hi
  cases hx with
  | buf _ _ _ n2 sz2 v v' hb hle h1 he =>
    rw [e1] at hb; cases hb
    obtain rfl := he rfl
    rcases e2.2 with ⟨_, h0⟩ | ⟨b, cap, cur, rfl, _, q3, q4, q5, q6, q7⟩
    · omega
    refine Good.same I (x := .pointer (some ⟨b, q.toNat * E.size, none⟩)) (.inl ?_) rfl (.ep _ _ _ _ _ _ _ _ _ e1 (Nat.le_refl _) ⟨_, rfl⟩ (fun _ => ⟨b, cap, rfl, rfl⟩))
    unfold execOp
    simp only [ho, hp, hj, Instr.indexAt, asIntOf, Sem.run_bind, run_underlying hu, Result.andThen_ok, Sem.run_pure]
    rw [if_pos hq]
    simp only [Sem.run_bind, (hΓ _ E hE).runSize w, Result.andThen_ok, Sem.run_pure, Addr.add_lit, Nat.zero_add]
theorem ev_indexAddr_array (hΓ : TysOk P Γ) (I : InvH N C h ρ F M g a w) {t : TypeId} {p i : Operand} (ho : o.op = .indexAddr t p i) {T : TyD} (hT : tyOf Γ t = some T) {n : Nat} {e : TypeId} (hd : T.d = .array n e)
    {E : TyD} (hE : tyOf Γ e = some E) {x v : AV} (hx : Rel h ρ x (a.eval p)) {q : Int} (hi : Rel h ρ (.int .i64 q) (a.eval i)) (hv : ptrAdd (q.toNat * E.size) x = some v) (hq : 0 ≤ q ∧ q < (n : Int)) :
    Good P N C h ρ F M g a o w (R.valIf v (0 ≤ q ∧ q < (n : Int))) := by
  have hu := (hΓ t T hT).und_array hd
  obtain ⟨ad, h1, h2⟩ := ptrAdd_sound hv hx
  generalize hj : a.eval i = iv at hi
  cases hi
  refine Good.same I (.inl ?_) rfl h2
  unfold execOp
  simp only [ho, h1, hj, Instr.indexAt, asIntOf, Sem.run_bind, run_underlying hu, Result.andThen_ok, Sem.run_pure, Instr.sureAddr]
  rw [if_pos hq]
  simp only [Sem.run_bind, (hΓ _ E hE).runSize w, Result.andThen_ok, Sem.run_pure]
theorem ev_makeSlice (hΓ : TysOk P Γ) (I : InvH N C h ρ F M g a w) {t : TypeId} {l c : Operand} (ho : o.op = .makeSlice t l c) {T : TyD} (hT : tyOf Γ t = some T) {e : TypeId} (hd : T.d = .slice e)
    {E : TyD} (hE : tyOf Γ e = some E) {n m : Int} (hl : Rel h ρ (.int .i64 n) (a.eval l)) (hc : Rel h ρ (.int .i64 m) (a.eval c)) {d : Nat} (hdn : M d = none) (hq : 0 ≤ n ∧ n ≤ m ∧ room m.toNat E.bytes) (hmax : m.toNat ≤ maxLen) :
    Good P N C h ρ F M g a o w ⟨.buf d n.toNat, [d], [(d, .buf e E.size n.toNat (fun _ => zeros E.zero))], some (0 ≤ n ∧ n ≤ m ∧ room m.toNat E.bytes), none⟩ := by
  obtain ⟨hq1, hq2, hq3, hq4⟩ := hq
  have hEy := hΓ e E hE
  obtain ⟨i, h1, h2, h3, h4⟩ := hEy.info
  have hu := (hΓ t T hT).und_slice hd
  generalize hl' : a.eval l = lv at hl
  generalize hc' : a.eval c = cv at hc
  cases hl; cases hc
  have hrun := run_make (P := P) w t e i E.zeroV hu h1 h4 .i64 .i64 n m hq1 hq2 (by
    rw [h3]
    obtain ⟨mm, rfl⟩ := Int.eq_ofNat_of_zero_le (show 0 ≤ m by omega)
    rw [Int.toNat_natCast] at hq3
    rw [← Int.natCast_mul, Nat.mul_comm]
    generalize mm * E.bytes = k at hq3 ⊢
    omega) (by omega)
  rw [zeroV_cells hEy, h2] at hrun
  have hle : n.toNat ≤ m.toNat := by omega
  have hmade : RelL h ρ (repL (zeros E.zero) m.toNat) (madeCells E.zero.toArray (m.toNat * E.size)).toList := RelL.made hEy h ρ m.toNat
  have I' := I.allocOwn hdn (.cells (madeCells E.zero.toArray (m.toNat * E.size)) e) (.sl n.toNat E.size (.slice (some ⟨w.heap.size, 0, none⟩) n.toNat m.toNat)) (.buf e E.size n.toNat (fun _ => zeros E.zero)) (fun b hb => (Option.some.inj hb).symm)
    (BlkOk.buf_new hle hmax (size_madeCells _ _) rfl (by
        have : n.toNat * E.size ≤ m.toNat * E.size := Nat.mul_le_mul_right _ hle
        rw [List.length_take, Array.length_toList, size_madeCells]; omega) (fun _ _ => by rw [zeros_len, hEy.len]) (fun x hx => by
        have hx' := List.mem_of_mem_take hx
        simp only [Array.mem_toList_iff, madeCells, Array.mem_map, Array.mem_range] at hx'
        obtain ⟨k, hk, rfl⟩ := hx'
        have hpos : 0 < E.size := by
          rcases Nat.eq_zero_or_pos E.size with h0 | h0
          · rw [h0] at hk; simp at hk
          · exact h0
        have hlt : k % E.zero.length < E.zero.length := by rw [hEy.len]; exact Nat.mod_lt _ hpos
        have : E.zero.toArray[k % E.zero.toArray.size]! = E.zero[k % E.zero.length] := by simp [hlt]
        rw [this]
        exact (single_one (Rel.ofVal (fun _ => none) ρ0 _) (hEy.one _ (List.getElem_mem hlt))).1)
      (fun i j c x hi hj hx => by
        rw [List.getElem?_take] at hx
        split at hx
        rotate_left
        · cases hx
        rename_i hlt
        have hj' : j < E.size := by rw [← hEy.len, ← zeros_len]; exact (List.getElem?_eq_some_iff.1 hj).1
        have hrep : (repL (zeros E.zero) m.toNat)[i * E.size + j]? = some c := by
          have hb : i * E.size + j < m.toNat * E.size := Nat.lt_of_lt_of_le hlt (Nat.mul_le_mul_right _ hle)
          rw [repL_get (by rw [zeros_len, hEy.len]; exact hb), zeros_len, hEy.len]
          rw [Nat.mul_comm, Nat.mul_add_mod, Nat.mod_eq_of_lt hj']; exact hj
        have hr0 := (RelL.made hEy h ρ0 m.toNat)
        exact hr0.2 _ c x hrep hx))
  refine ⟨.slice (some ⟨w.heap.size, 0, none⟩) n.toNat m.toNat, _, _, _, .inl ?_, I', .buf _ _ _ _ _ _ _ (upd_same _ _ _) (Nat.le_refl _) rfl (fun _ => rfl)⟩
  unfold execOp
  simp only [ho, hl', hc', Sem.run_bind, hrun, Result.andThen_ok, Sem.run_pure]
end
end Go.Av
