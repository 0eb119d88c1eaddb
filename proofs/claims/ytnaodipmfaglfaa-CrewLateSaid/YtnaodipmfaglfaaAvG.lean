/- The evaluator is right, part 4: stores, numbers, structs, slices. -/
import Derived.Test.YtnaodipmfaglfaaAvF
import Derived.IntWalk
set_option linter.all false
namespace Go.Av
theorem seg_get (L vs : List Value) (o : Nat) (h : o + vs.length ≤ L.length) (k : Nat) :
    (L.take o ++ vs ++ L.drop (o + vs.length))[k]? = if o ≤ k ∧ k < o + vs.length then vs[k - o]? else L[k]? := by
  rw [List.append_assoc]
  by_cases h1 : k < o
  · rw [List.getElem?_append_left (by simp; omega), List.getElem?_take, if_pos h1, if_neg (by omega)]
  · rw [List.getElem?_append_right (by simp; omega)]
    have hm : (L.take o).length = o := by simp; omega
    rw [hm]
    by_cases h2 : k < o + vs.length
    · rw [List.getElem?_append_left (by omega), if_pos (by omega)]
    · rw [List.getElem?_append_right (by omega), List.getElem?_drop, if_neg (by omega)]
      congr 1; omega
theorem seg_len (L vs : List Value) (o : Nat) (h : o + vs.length ≤ L.length) : (L.take o ++ vs ++ L.drop (o + vs.length)).length = L.length := by
  simp; omega
section
variable {P : Program} {N : Nat} {C : Ctx} {h : Hp} {ρ : Rho} {F : Fr} {M : Mm} {g : Nat} {a : Act} {w : World} {Γ : Tys} {mg : Mm} {o : Oper}
theorem run_storeVar {t : TypeId} {T : TyD} (hT : TyOk P t T) {x : Value} {vs : List Value} (hx : x.cells = vs.toArray) (hl : vs.length = T.size) (h1 : ∀ v ∈ vs, v.oneCell' = true) {b off : Nat} {cur : Array Value} {ty : TypeId}
    (hg : w.heap[b]? = some (.cells cur ty (0, 0))) (hfit : off + vs.length ≤ cur.size) :
    (storeVar t ⟨b, off, none⟩ x).run P w = .ok () (w.setRow b (cur.toList.take off ++ vs ++ cur.toList.drop (off + vs.length)).toArray) := by
  have hst := run_storeCells_at P b off ty vs 0 cur w hg (by simpa using hfit) h1
  simp only [Nat.add_zero] at hst
  have hne : ¬ (x.cells.size ≠ T.size) := by simp [hx, hl]
  simp only [storeVar, Sem.run_bind, hT.runSize w, Result.andThen_ok]
  rw [if_neg hne, hx, List.toList_toArray, hst]
theorem ev_store_lp (hΓ : TysOk P Γ) (I : InvH N C h ρ F M g a w) {t : TypeId} {p x : Operand} (ho : o.op = .store t p x) {T : TyD} (hT : tyOf Γ t = some T) {v : AV} (hv : Rel h ρ v (a.eval x)) {xs : List AV} (hx : cellsV v = some xs)
    (hl : xs.length = T.size) {id off : Nat} (hp : Rel h ρ (.lp id off) (a.eval p)) {cs cs' : List AV} (hm : M id = some (.cells cs)) (hlay : layN off xs cs = some cs') (hne : xs ≠ []) :
    Good P N C h ρ F M g a o w ⟨.any, [id], [(id, .cells cs')], none, none⟩ := by
  obtain ⟨ys, h1, h2, h3⟩ := cellsV_sound hx hv
  obtain ⟨b, vs, ty, e1, e2, e3, e4⟩ := I.blk id _ hm
  obtain ⟨l1, l2, l3⟩ := layN_get hlay
  rw [if_neg hne] at l2
  have hfit : off + ys.length ≤ vs.length := by rw [h2.1, e3]; simpa using l2
  have hrun := run_storeVar (w := w) (hΓ t T hT) h1 (by rw [h2.1, hl]) h3 (off := off) e2 (by simpa using hfit)
  generalize hp' : a.eval p = pv at hp
  cases hp with
  | lp _ _ _ b' hb =>
    rw [e1] at hb; cases hb
    refine ⟨undef, w.setRow b (vs.take off ++ ys ++ vs.drop (off + ys.length)).toArray, h, ρ, .inr ⟨?_, rfl⟩, I.turn e1 (.cells cs') rfl rfl rfl (by simp) (fun k hk => setRow_other w b k _ hk) ?_, .any _ _⟩
    · unfold execOp
      simp only [ho, Instr.storeAt, hp', Instr.sureAddr, Sem.run_bind, Sem.run_pure, Result.andThen_ok, hrun]
    · refine ⟨b, _, ty, e1, setRow_heap w b _ _ ty _ e2, by rw [seg_len _ _ _ hfit, e3, l1], fun i c u hc hu => ?_⟩
      rw [seg_get _ _ _ hfit] at hu
      rw [l3 i] at hc
      by_cases hi : off ≤ i ∧ i < off + ys.length
      · rw [if_pos hi] at hu
        rw [if_pos (by rw [← h2.1]; exact hi)] at hc
        exact h2.2 _ c u hc hu
      · rw [if_neg hi] at hu
        rw [if_neg (by rw [← h2.1]; exact hi)] at hc
        exact e4 i c u hc hu
theorem ev_store_ep (hΓ : TysOk P Γ) (I : InvH N C h ρ F M g a w) {t : TypeId} {p x : Operand} (ho : o.op = .store t p x) {T : TyD} (hT : tyOf Γ t = some T) {v : AV} (hv : Rel h ρ v (a.eval x)) {xs : List AV} (hx : cellsV v = some xs)
    (hl : xs.length = T.size) (hcl : viewC xs = true) {id n i off : Nat} (hp : Rel h ρ (.ep id n i off) (a.eval p)) {ty sz n' : Nat} {e : Nat → List AV} {es : List AV} (hm : M id = some (.buf ty sz n' e)) (hlay0 : layE off xs sz (e i) = some es) (hne : xs ≠ [])
    (hn : n = n' ∧ i < n') : Good P N C h ρ F M g a o w ⟨.any, [id], [(id, .buf ty sz n' (fun k => if k = i then es else e k))], some (n = n' ∧ i < n'), none⟩ := by
  obtain ⟨rfl, hin⟩ := hn
  obtain ⟨ys, h1, h2, h3⟩ := cellsV_sound hx hv
  obtain ⟨v0, us, e1, e2, e3, e5, e4⟩ := I.blk id _ hm
  have hlay := layE_layN hlay0 (e3 i hin)
  obtain ⟨l1, l2, l3⟩ := layN_get hlay
  rw [if_neg hne, e3 i hin] at l2
  generalize hp' : a.eval p = pv at hp
  cases hp with
  | ep _ _ _ _ _ n2 sz2 _ v2 hb hle _ he =>
    rw [e1] at hb; cases hb
    obtain ⟨b, cap, rfl, rfl⟩ := he rfl
    obtain ⟨q1, q2⟩ := e2
    rcases q2 with ⟨q2, _⟩ | ⟨b', cap', cur, q2, _, q3, q4, q5, q6, q7⟩
    · cases q2
    cases q2
    have hrow : i * sz + sz ≤ n * sz := by
      calc i * sz + sz = (i + 1) * sz := by rw [Nat.add_mul, Nat.one_mul]
        _ ≤ n * sz := Nat.mul_le_mul_right _ hin
    have hcapsz : n * sz ≤ cap * sz := Nat.mul_le_mul_right _ q4
    have hys : ys.length = xs.length := h2.1
    have hfit : i * sz + off + ys.length ≤ cur.toList.length := by simp [q6]; omega
    have hrun := run_storeVar (w := w) (hΓ t T hT) h1 (by rw [h2.1, hl]) h3 (off := i * sz + off) q3 (by simpa using hfit)
    obtain ⟨L', hL'⟩ : ∃ L', cur.toList.take (i * sz + off) ++ ys ++ cur.toList.drop (i * sz + off + ys.length) = L' := ⟨_, rfl⟩
    have hg1 : ∀ k, L'[k]? = if i * sz + off ≤ k ∧ k < i * sz + off + ys.length then ys[k - (i * sz + off)]? else cur.toList[k]? := fun k => by rw [← hL']; exact seg_get _ _ _ hfit k
    have hg2 : L'.length = cap * sz := by rw [← hL', seg_len _ _ _ hfit]; simpa using q6
    rw [hL'] at hrun
    have hgrown : w.grownBy (w.setRow b L'.toArray) (Value.ownBlock (.slice (some ⟨b, 0, none⟩) n cap)) :=
      ⟨rfl, rfl, rfl, by simp, fun k _ hk => setRow_other w b k _ (fun ee => hk (by simp [Value.ownBlock, ee]))⟩
    have hus : ∀ k, k < n * sz → us[k]? = cur.toList[k]? := fun k hk => by rw [← q7, List.getElem?_take, if_pos hk]
    refine ⟨undef, _, h, _, .inr ⟨?_, rfl⟩, I.turnBuf e1 _ (.inl ⟨rfl, rfl⟩) hgrown (fun k hk => .inl hk) ?_, .any _ _⟩
    · unfold execOp
      simp only [ho, Instr.storeAt, hp', Instr.sureAddr, Sem.run_bind, Sem.run_pure, Result.andThen_ok, hrun]
    · refine ⟨_, L'.take (n * sz), upd_same _ _ _, ⟨by rw [List.length_take, hg2]; omega, .inr ⟨b, cap, _, rfl, Nat.zero_le _, setRow_heap w b _ _ ty _ q3, q4, q5, by simpa using hg2, by simp⟩⟩, fun k hk => ?_, fun u hu => ?_, fun k j c u hk hc hu => ?_⟩
      · show (if k = i then es else e k).length = sz
        by_cases hki : k = i
        · rw [if_pos hki, l1, e3 i hin]
        · rw [if_neg hki]; exact e3 k hk
      · obtain ⟨k, hk, rfl⟩ := List.getElem_of_mem hu
        have hku : k < n * sz := by simp at hk; omega
        have hk' : L'[k]? = some (L'.take (n * sz))[k] := by
          rw [List.getElem_take]; exact List.getElem?_eq_getElem (by simp at hk; omega)
        rw [hg1] at hk'
        by_cases hi : i * sz + off ≤ k ∧ k < i * sz + off + ys.length
        · rw [if_pos hi] at hk'; exact h3 _ (List.mem_of_getElem? hk')
        · rw [if_neg hi, ← hus k hku] at hk'; exact e5 _ (List.mem_of_getElem? hk')
      · replace hc : (if k = i then es else e k)[j]? = some c := hc
        rw [List.getElem?_take] at hu
        split at hu
        rotate_left
        · cases hu
        rename_i hku
        rw [hg1] at hu
        by_cases hki : k = i
        · subst hki
          rw [if_pos rfl, l3 j] at hc
          by_cases hj : off ≤ j ∧ j < off + xs.length
          · rw [if_pos hj] at hc
            rw [if_pos (by omega), show k * sz + j - (k * sz + off) = j - off by omega] at hu
            exact (h2.2 _ c u hc hu).of_cl (clL_get (viewC_get hcl) hc)
          · rw [if_neg hj] at hc
            rw [if_neg (by omega)] at hu
            exact e4 k j c u hin hc (by rw [hus _ hku]; exact hu)
        · rw [if_neg hki] at hc
          have hj : j < sz := by rw [← e3 k hk]; exact (List.getElem?_eq_some_iff.1 hc).1
          have hout : ¬ (i * sz + off ≤ k * sz + j ∧ k * sz + j < i * sz + off + ys.length) := by
            rintro ⟨p1, p2⟩
            rcases Nat.lt_or_gt_of_ne hki with hlt | hgt
            · have : k * sz + sz ≤ i * sz := by
                calc k * sz + sz = (k + 1) * sz := by rw [Nat.add_mul, Nat.one_mul]
                  _ ≤ i * sz := Nat.mul_le_mul_right _ hlt
              omega
            · have : i * sz + sz ≤ k * sz := by
                calc i * sz + sz = (i + 1) * sz := by rw [Nat.add_mul, Nat.one_mul]
                  _ ≤ k * sz := Nat.mul_le_mul_right _ hgt
              omega
          rw [if_neg hout] at hu
          exact e4 k j c u hk hc (by rw [hus _ hku]; exact hu)
theorem wrap_inI {n : Int} (hn : inI n) : IntKind.i64.wrap n = n := IntWalk.i64_in n hn
theorem bits_i64_and {x y : Int} (hx : 0 ≤ x) (hy : 0 ≤ y) (hx' : inI x) (hy' : inI y) : IntKind.i64.wrap ((BitVec.ofInt 64 x &&& BitVec.ofInt 64 y).toNat : Int) = ((x.toNat &&& y.toNat : Nat) : Int) := by
  obtain ⟨m, rfl⟩ := Int.eq_ofNat_of_zero_le hx
  obtain ⟨n, rfl⟩ := Int.eq_ofNat_of_zero_le hy
  unfold inI at hx' hy'
  have hm : m < 2 ^ 63 := by omega
  have hn : n < 2 ^ 63 := by omega
  have h1 : (BitVec.ofInt 64 (m : Int)).toNat = m := by rw [BitVec.ofInt_natCast, BitVec.toNat_ofNat]; exact Nat.mod_eq_of_lt (by omega)
  have h2 : (BitVec.ofInt 64 (n : Int)).toNat = n := by rw [BitVec.ofInt_natCast, BitVec.toNat_ofNat]; exact Nat.mod_eq_of_lt (by omega)
  rw [BitVec.toNat_and, h1, h2, Int.toNat_natCast, Int.toNat_natCast]
  have : m &&& n < 2 ^ 63 := Nat.and_lt_two_pow _ hn
  exact wrap_inI (by unfold inI; omega)
theorem bits_i64_or {x y : Int} (hx : 0 ≤ x) (hy : 0 ≤ y) (hx' : inI x) (hy' : inI y) : IntKind.i64.wrap ((BitVec.ofInt 64 x ||| BitVec.ofInt 64 y).toNat : Int) = ((x.toNat ||| y.toNat : Nat) : Int) := by
  obtain ⟨m, rfl⟩ := Int.eq_ofNat_of_zero_le hx
  obtain ⟨n, rfl⟩ := Int.eq_ofNat_of_zero_le hy
  unfold inI at hx' hy'
  have hm : m < 2 ^ 63 := by omega
  have hn : n < 2 ^ 63 := by omega
  have h1 : (BitVec.ofInt 64 (m : Int)).toNat = m := by rw [BitVec.ofInt_natCast, BitVec.toNat_ofNat]; exact Nat.mod_eq_of_lt (by omega)
  have h2 : (BitVec.ofInt 64 (n : Int)).toNat = n := by rw [BitVec.ofInt_natCast, BitVec.toNat_ofNat]; exact Nat.mod_eq_of_lt (by omega)
  rw [BitVec.toNat_or, h1, h2, Int.toNat_natCast, Int.toNat_natCast]
  have : m ||| n < 2 ^ 63 := Nat.or_lt_two_pow hm hn
  exact wrap_inI (by unfold inI; omega)
theorem binI_sound (w : World) {op : BinOp} {t : TypeId} {x y : Int} {r : R} (hr : binI op x y = some r) (hc : ∀ q, r.cs = some q → q) :
    r.wr = [] ∧ ∃ v, (binOp op t (.int .i64 x) (.int .i64 y)).run P w = .ok v w ∧ ∀ (h : Hp) (ρ : Rho), Rel h ρ r.v v := by
  cases op <;> simp only [binI, cmpI, Option.some.injEq] at hr <;> (try (cases hr; done)) <;> subst hr <;> refine ⟨rfl, ?_⟩
  case add => exact ⟨_, by simp only [binOp_add, Op.intArith, Sem.run_pure]; rw [wrap_inI (hc _ rfl)], fun _ _ => .int _ _ _⟩
  case sub => exact ⟨_, by simp only [binOp_sub, Op.intArith, Sem.run_pure]; rw [wrap_inI (hc _ rfl)], fun _ _ => .int _ _ _⟩
  case mul => exact ⟨_, by simp only [binOp_mul, Op.intArith, Sem.run_pure]; rw [wrap_inI (hc _ rfl)], fun _ _ => .int _ _ _⟩
  case quo =>
    obtain ⟨h1, h2⟩ := hc _ rfl
    exact ⟨_, by simp only [binOp_quo, Op.intDiv]; rw [if_neg h1]; simp only [Sem.run_pure]; rw [wrap_inI h2], fun _ _ => .int _ _ _⟩
  case rem =>
    have h1 := hc _ rfl
    exact ⟨_, by simp only [binOp_rem, Op.intDiv]; rw [if_neg h1]; simp only [Sem.run_pure], fun _ _ => .int _ _ _⟩
  case shl =>
    obtain ⟨h1, h2, h3⟩ := hc _ rfl
    refine ⟨_, ?_, fun _ _ => .int _ _ _⟩
    simp only [binOp_shl, Op.shift]
    rw [if_neg (by omega)]
    have : min y.toNat IntKind.i64.bits = y.toNat := by simp [IntKind.bits]; omega
    simp only [this, Sem.run_pure]
    rw [wrap_inI h3]
  case shr =>
    obtain ⟨h1, h2⟩ := hc _ rfl
    refine ⟨_, ?_, fun _ _ => .int _ _ _⟩
    simp only [binOp_shr, Op.shift]
    rw [if_neg (by omega)]
    have : min y.toNat IntKind.i64.bits = y.toNat := by simp [IntKind.bits]; omega
    simp only [this, Sem.run_pure]
  case and =>
    obtain ⟨h1, h2, h3, h4⟩ := hc _ rfl
    refine ⟨_, ?_, fun _ _ => .int _ _ _⟩
    simp only [binOp_and, Op.intBits, Sem.run_pure]
    have := bits_i64_and h1 h2 h3 h4
    rw [show IntKind.i64.bits = 64 from rfl, this]
  case or =>
    obtain ⟨h1, h2, h3, h4⟩ := hc _ rfl
    refine ⟨_, ?_, fun _ _ => .int _ _ _⟩
    simp only [binOp_or, Op.intBits, Sem.run_pure]
    have := bits_i64_or h1 h2 h3 h4
    rw [show IntKind.i64.bits = 64 from rfl, this]
  case eql => exact ⟨_, by simp only [binOp_eql, Sem.run_pure]; rfl, fun _ _ => .bool _ _⟩
  case neq =>
    refine ⟨.bool (!decide (x = y)), ?_, fun _ _ => .bool _ _⟩
    simp only [binOp_neq, Sem.run_pure]; rfl
  case lss => exact ⟨_, by simp only [binOp_lss, Sem.run_pure], fun _ _ => .bool _ _⟩
  case leq => exact ⟨_, by simp only [binOp_leq, Sem.run_pure], fun _ _ => .bool _ _⟩
  case gtr => exact ⟨_, by simp only [binOp_gtr, Sem.run_pure], fun _ _ => .bool _ _⟩
  case geq => exact ⟨_, by simp only [binOp_geq, Sem.run_pure], fun _ _ => .bool _ _⟩
end
end Go.Av
