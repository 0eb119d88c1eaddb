/- The evaluator is right, part 3: more operations. -/
import Derived.Test.YtnaodipmfaglfaaAvE
set_option linter.all false
namespace Go.Av
section
variable {P : Program} {N : Nat} {C : Ctx} {h : Hp} {ρ : Rho} {F : Fr} {M : Mm} {g : Nat} {a : Act} {w : World} {Γ : Tys} {mg : Mm} {o : Oper}
theorem valsOf_rel {val : Operand → AV} : ∀ (ps : List (Nat × Operand)), (∀ p ∈ ps, Rel h ρ (val p.2) (a.eval p.2)) →
    (valsOf val ps).length = (ps.map fun (i, x) => (i, a.eval x)).length ∧
    ∀ (k i j : Nat) (v : AV) (x : Value), (valsOf val ps)[k]? = some (i, v) → (ps.map fun (i, x) => (i, a.eval x))[k]? = some (j, x) → i = j ∧ Rel h ρ v x
  | [], _ => ⟨rfl, fun k i j v x hk => by simp [valsOf] at hk⟩
  | (n, y) :: ps, hp => by
    obtain ⟨h1, h2⟩ := valsOf_rel ps (fun p hpm => hp p (by simp [hpm]))
    refine ⟨by simp [valsOf, h1], fun k i j v x hk hk' => ?_⟩
    cases k with
    | zero =>
      simp [valsOf] at hk hk'
      obtain ⟨rfl, rfl⟩ := hk
      obtain ⟨rfl, rfl⟩ := hk'
      exact ⟨rfl, hp (n, y) (by simp)⟩
    | succ k => exact h2 k i j v x (by simpa [valsOf] using hk) (by simpa using hk')
theorem mem_parts {ps : Array (Nat × Operand)} {p : Nat × Operand} (hp : p ∈ ps.toList) : p.2 ∈ (ps.toList.map (·.2)).toArray := by
  simp only [List.mem_toArray, List.mem_map]
  exact ⟨p, hp, rfl⟩
theorem ev_build_struct (hΓ : TysOk P Γ) (I : InvH N C h ρ F M g a w) {t : TypeId} {ps : Array (Nat × Operand)} (ho : o.op = .build t ps) {T : TyD} (hT : tyOf Γ t = some T) {fs : List (Nat × TypeId)} (hd : T.d = .struct fs)
    {val : Operand → AV} (hv : ∀ x, x ∈ o.op.operands → Rel h ρ (val x) (a.eval x)) {cs : List AV}
    (hl : layParts (zeros T.zero) (fun i => match nthN i fs with
          | some (off, ft) => match tyOf Γ ft with
            | some FT => some (off, FT.size)
            | none => none
          | none => none) (valsOf val ps.toList) = some cs) : Good P N C h ρ F M g a o w (R.val (.agg cs)) := by
  have hTy := hΓ t T hT
  obtain ⟨f, hu, hfs, _, _, hsz⟩ := hTy.und_struct hd
  have hvr := valsOf_rel (a := a) (val := val) (h := h) (ρ := ρ) ps.toList (fun p hp => hv p.2 (by rw [ho]; exact mem_parts hp))
  obtain ⟨us, h1, h2⟩ := layParts_sound (place' := fun i => (f.map fun x => (x.offset, P.cellsOf x.type))[i]?) (fun i q hq => by
    cases hn : nthN i fs with
    | none => simp [hn] at hq
    | some e =>
      obtain ⟨off, ft⟩ := e
      simp only [hn] at hq
      cases hft : tyOf Γ ft with
      | none => simp [hft] at hq
      | some FT =>
        simp only [hft] at hq; cases hq
        have h3 := nthN_get hn
        rw [← hfs] at h3
        simp only [List.getElem?_map, Array.getElem?_toList, Option.map_eq_some_iff] at h3
        obtain ⟨fd, h4, h5⟩ := h3
        cases h5
        simp [h4, (hΓ _ FT hft).cellsOf]) hl (RelL.zeros h ρ T.zero) hvr.1 hvr.2
  have hm : (f.mapM fun f => do pure (f.offset, ← sizeOf f.type) : Sem (Array (Nat × Nat))).run P w = .ok (f.map fun x => (x.offset, P.cellsOf x.type)) w := by
    rw [← Array.toArray_toList (xs := f), List.mapM_toArray]
    simp only [Sem.run_map, run_sizes P w f.toList hsz, Result.andThen_ok, List.map_toArray]
  have hfill : Instr.fill (fun i => (f.map fun x => (x.offset, P.cellsOf x.type))[i]?) T.zero.toArray (ps.toList.map fun p => (p.1, a.eval p.2)) = some us.toArray := h1
  refine Good.same I (x := .agg us.toArray) (.inl ?_) rfl (.agg _ _ _ h2.1 h2.2)
  unfold execOp
  simp only [ho, Instr.build, Sem.run_bind, hTy.runZero w, Result.andThen_ok, zeroV_cells hTy, run_underlying hu, hm, Array.toList_map, hfill, Sem.run_pure]
theorem ev_build_array (hΓ : TysOk P Γ) (I : InvH N C h ρ F M g a w) {t : TypeId} {ps : Array (Nat × Operand)} (ho : o.op = .build t ps) {T : TyD} (hT : tyOf Γ t = some T) {n : Nat} {e : TypeId} (hd : T.d = .array n e)
    {E : TyD} (hE : tyOf Γ e = some E) {val : Operand → AV} (hv : ∀ x, x ∈ o.op.operands → Rel h ρ (val x) (a.eval x)) {cs : List AV}
    (hl : layParts (zeros T.zero) (fun i => some (i * E.size, E.size)) (valsOf val ps.toList) = some cs) : Good P N C h ρ F M g a o w (R.val (.agg cs)) := by
  have hTy := hΓ t T hT
  have hu := hTy.und_array hd
  have hvr := valsOf_rel (a := a) (val := val) (h := h) (ρ := ρ) ps.toList (fun p hp => hv p.2 (by rw [ho]; exact mem_parts hp))
  obtain ⟨us, h1, h2⟩ := layParts_sound (place' := fun i => some (i * E.size, E.size)) (fun i q hq => hq) hl (RelL.zeros h ρ T.zero) hvr.1 hvr.2
  have hfill : Instr.fill (fun i => some (i * E.size, E.size)) T.zero.toArray (ps.toList.map fun p => (p.1, a.eval p.2)) = some us.toArray := h1
  refine Good.same I (x := .agg us.toArray) (.inl ?_) rfl (.agg _ _ _ h2.1 h2.2)
  unfold execOp
  simp only [ho, Instr.build, Sem.run_bind, hTy.runZero w, Result.andThen_ok, zeroV_cells hTy, run_underlying hu, (hΓ e E hE).runSize w, Array.toList_map, hfill, Sem.run_pure]
theorem elemAt_len {sz n i : Nat} {cs : List AV} (hl : cs.length = n * sz) (hi : i < n) : (elemAt sz cs i).length = sz := by
  unfold elemAt
  have : i * sz + sz ≤ n * sz := by
    calc i * sz + sz = (i + 1) * sz := by rw [Nat.add_mul, Nat.one_mul]
      _ ≤ n * sz := Nat.mul_le_mul_right _ hi
  simp [List.length_take, List.length_drop, hl]; omega
theorem elemAt_get {sz i j : Nat} {cs : List AV} {c : AV} (hc : (elemAt sz cs i)[j]? = some c) : j < sz ∧ cs[i * sz + j]? = some c := by
  unfold elemAt at hc
  rw [List.getElem?_take] at hc
  split at hc
  · rename_i hj
    rw [List.getElem?_drop] at hc
    exact ⟨hj, hc⟩
  · cases hc
theorem run_buildSlice (hΓ : TysOk P Γ) {t : TypeId} {n : Nat} {ps : Array (Nat × Operand)} {T : TyD} (hT : tyOf Γ t = some T) {e : TypeId} (hd : T.d = .slice e)
    {E : TyD} (hE : tyOf Γ e = some E) (hsz : n * E.size ≤ 16777216) {val : Operand → AV} (hv : ∀ p ∈ ps.toList, Rel h ρ (val p.2) (a.eval p.2)) {cs : List AV}
    (hl : layParts (repL (zeros E.zero) n) (fun i => some (i * E.size, E.size)) (valsOf val ps.toList) = some cs) :
    ∃ us : List Value, RelL h ρ cs us ∧ us.length = n * E.size ∧ (Instr.buildSlice t n (ps.map fun (i, x) => (i, a.eval x))).run P w = .ok (.slice (some ⟨w.heap.size, 0, none⟩) n n) (w.alloc (.cells us.toArray e)) := by
  have hEy := hΓ e E hE
  have hu := (hΓ t T hT).und_slice hd
  have hvr := valsOf_rel (a := a) (val := val) (h := h) (ρ := ρ) ps.toList hv
  obtain ⟨us, h1, h2⟩ := layParts_sound (place' := fun i => some (i * E.size, E.size)) (fun i q hq => hq) hl (RelL.made hEy h ρ n) hvr.1 hvr.2
  have hlen : cs.length = n * E.size := by
    have : ∀ {place : Nat → Option (Nat × Nat)} {qs : List (Nat × AV)} {zs cs : List AV}, layParts zs place qs = some cs → cs.length = zs.length := by
      intro place qs
      induction qs with
      | nil => intro zs cs hq; simp [layParts] at hq; rw [hq]
      | cons q qs ih =>
        intro zs cs hq
        obtain ⟨i, v⟩ := q
        simp only [layParts] at hq
        split at hq
        · split at hq
          · cases hq
          · split at hq
            · split at hq
              · rename_i hy; rw [ih hq, (layN_get hy).1]
              · cases hq
            · cases hq
          · cases hq
        · cases hq
    rw [this hl, repL_len, zeros_len, hEy.len]
  refine ⟨us, h2, by rw [h2.1, hlen], ?_⟩
  have hfill : Instr.fill (fun i => some (i * E.size, E.size)) (madeCells E.zero.toArray (n * E.size)) (ps.toList.map fun p => (p.1, a.eval p.2)) = some us.toArray := by
    have := h1
    rwa [Array.toArray_toList] at this
  have hng : ¬ (16777216 < n * E.size) := by omega
  have hng' : ¬ (n * E.size > 2 ^ 24) := by simpa using hng
  simp only [Instr.buildSlice, Sem.run_bind, run_underlying hu, Result.andThen_ok, hEy.runSize w]
  rw [if_neg hng']
  by_cases h0 : n * E.size = 0
  · rw [if_pos h0]
    have hz2 : (Array.range (n * E.size)).map ((#[] : Array Value)[· % (#[] : Array Value).size]!) = madeCells E.zero.toArray (n * E.size) := by rw [h0]; simp [madeCells]
    simp only [Sem.run_bind, Sem.run_pure, Result.andThen_ok, hz2, Array.toList_map, hfill, newRow, run_newObj, World.alloc_eq]
  · rw [if_neg h0]
    have hz2 : (Array.range (n * E.size)).map (E.zero.toArray[· % E.zero.toArray.size]!) = madeCells E.zero.toArray (n * E.size) := rfl
    simp only [Sem.run_bind, Sem.run_pure, hEy.runZero w, zeroV_cells hEy, Result.andThen_ok, hz2, Array.toList_map, hfill, newRow, run_newObj, World.alloc_eq]
theorem ev_buildSlice_ro (hΓ : TysOk P Γ) (I : InvH N C h ρ F M g a w) {t : TypeId} {n : Nat} {ps : Array (Nat × Operand)} (ho : o.op = .buildSlice t n ps) {T : TyD} (hT : tyOf Γ t = some T) {e : TypeId} (hd : T.d = .slice e)
    {E : TyD} (hE : tyOf Γ e = some E) (hsz : n * E.size ≤ 16777216) {val : Operand → AV} (hv : ∀ x, x ∈ o.op.operands → Rel h ρ (val x) (a.eval x)) {cs : List AV}
    (hl : layParts (repL (zeros E.zero) n) (fun i => some (i * E.size, E.size)) (valsOf val ps.toList) = some cs) (hcl : viewC cs = true) (hsi : singles cs = true) (hn : n ≤ 16777216) :
    Good P N C h ρ F M g a o w (R.val (.ro E.size n (elemAt E.size cs))) := by
  obtain ⟨us, h1, h2, h3⟩ := run_buildSlice (w := w) hΓ hT hd hE hsz (fun p hp => hv p.2 (by rw [ho]; exact mem_parts hp)) hl
  have I' := I.allocRo (.cells us.toArray e)
  have hlen : cs.length = n * E.size := by rw [← h1.1, h2]
  have hc : ∀ k, hcell (upd h w.heap.size (some (.cells us.toArray e))) (some ⟨w.heap.size, 0, none⟩) k = us[k]? := by
    intro k
    simp [hcell, Addr.add_lit, cellOf, upd_same]
  have hLe : Le h (upd h w.heap.size (some (.cells us.toArray e))) := Le.of fun b o' hb => by
    have hne : b ≠ w.heap.size := by
      rintro rfl
      have := I.hlt hb; omega
    rw [upd_other _ _ hne]; exact hb
  refine ⟨.slice (some ⟨w.heap.size, 0, none⟩) n n, _, _, ρ, .inl ?_, I', ?_⟩
  · unfold execOp
    simp only [ho, Sem.run_bind, h3, Result.andThen_ok, Sem.run_pure]
  · refine .ro _ _ _ _ _ _ (fun e => by cases e) ⟨Nat.le_refl _, by unfold maxLen; omega⟩ (fun i hi => elemAt_len hlen hi) (fun i j hi hj => ?_) (fun k v hk hv => by rw [hc] at hv; exact h1.ones hsi v (List.mem_of_getElem? hv)) (fun i j c v hi hj hv => ?_)
    · rw [hc]
      have : i * E.size + j < us.length := by
        rw [h2]
        calc i * E.size + j < i * E.size + E.size := by omega
          _ = (i + 1) * E.size := by rw [Nat.add_mul, Nat.one_mul]
          _ ≤ n * E.size := Nat.mul_le_mul_right _ hi
      simp [this]
    · rw [hc] at hv
      obtain ⟨_, hj'⟩ := elemAt_get hj
      exact ((h1.2 _ c v hj' hv).of_cl (clL_get (viewC_get hcl) hj')).heap hLe
theorem BlkOk.buf_new {d n sz : Nat} {us : List Value} {e : TypeId} {cap : Nat} {cur : Array Value} {el : Nat → List AV} (hcap : n ≤ cap) (hmax : cap ≤ maxLen) (hcur : cur.size = cap * sz) (hus : cur.toList.take (n * sz) = us)
    (hlen : us.length = n * sz) (hel : ∀ i, i < n → (el i).length = sz) (hones : ∀ x, x ∈ us → x.oneCell' = true)
    (H : ∀ (i j : Nat) (c : AV) (x : Value), i < n → (el i)[j]? = some c → us[i * sz + j]? = some x → Rel h ρ0 c x) :
    BlkOk h (upd ρ d (some (.sl n sz (.slice (some ⟨w.heap.size, 0, none⟩) n cap)))) d (.buf e sz n el) (w.alloc (.cells cur e)) :=
  ⟨_, us, upd_same _ _ _, ⟨hlen, .inr ⟨w.heap.size, cap, cur, rfl, Nat.zero_le _, heap_alloc_new w _, hcap, hmax, hcur, hus⟩⟩, hel, hones, H⟩
theorem ev_buildSlice_own (hΓ : TysOk P Γ) (I : InvH N C h ρ F M g a w) {t : TypeId} {n : Nat} {ps : Array (Nat × Operand)} (ho : o.op = .buildSlice t n ps) {T : TyD} (hT : tyOf Γ t = some T) {e : TypeId} (hd : T.d = .slice e)
    {E : TyD} (hE : tyOf Γ e = some E) (hsz : n * E.size ≤ 16777216) (hn : n ≤ 16777216) {val : Operand → AV} (hv : ∀ x, x ∈ o.op.operands → Rel h ρ (val x) (a.eval x)) {cs : List AV}
    (hl : layParts (repL (zeros E.zero) n) (fun i => some (i * E.size, E.size)) (valsOf val ps.toList) = some cs) (hcl : viewC cs = true) (hsi : singles cs = true) {d : Nat} (hdn : M d = none) :
    Good P N C h ρ F M g a o w ⟨.buf d n, [d], [(d, .buf e E.size n (elemAt E.size cs))], none, none⟩ := by
  obtain ⟨us, h1, h2, h3⟩ := run_buildSlice (w := w) hΓ hT hd hE hsz (fun p hp => hv p.2 (by rw [ho]; exact mem_parts hp)) hl
  have hlen : cs.length = n * E.size := by rw [← h1.1, h2]
  have I' := I.allocOwn hdn (.cells us.toArray e) (.sl n E.size (.slice (some ⟨w.heap.size, 0, none⟩) n n)) (.buf e E.size n (elemAt E.size cs)) (fun b hb => (Option.some.inj hb).symm)
    (BlkOk.buf_new (Nat.le_refl n) (by unfold maxLen; omega) (by simpa using h2) (by rw [← h2]; simp) h2 (fun i hi => elemAt_len hlen hi) (h1.ones hsi)
      (fun i j c x hi hj hx => (h1.2 _ c x (elemAt_get hj).2 hx).of_cl (clL_get (viewC_get hcl) (elemAt_get hj).2)))
  refine ⟨.slice (some ⟨w.heap.size, 0, none⟩) n n, _, _, _, .inl ?_, I', .buf _ _ _ _ _ _ _ (upd_same _ _ _) (Nat.le_refl _) rfl (fun _ => rfl)⟩
  unfold execOp
  simp only [ho, Sem.run_bind, h3, Result.andThen_ok, Sem.run_pure]
end
end Go.Av
