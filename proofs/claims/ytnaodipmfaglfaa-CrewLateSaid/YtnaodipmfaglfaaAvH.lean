/- The evaluator is right, part 5: '=='. -/
import Derived.Test.YtnaodipmfaglfaaAvG
import Derived.Lib.LazyBuf
set_option linter.all false
namespace Go.Av
section
variable {P : Program} {N : Nat} {C : Ctx} {h : Hp} {ρ : Rho} {F : Fr} {M : Mm} {g : Nat} {a : Act} {w : World} {Γ : Tys} {mg : Mm} {o : Oper}
def TyD.val (T : TyD) (vs : List Value) : Value := match T.d.agg with
  | true => .agg vs.toArray
  | false => vs.headD undef
theorem cutN_get {off n : Nat} {cs r : List AV} (hc : cutN off n cs = some r) : r = (cs.drop off).take n ∧ r.length = n := by
  unfold cutN at hc
  cases hd : dropN off cs with
  | none => rw [hd] at hc; cases hc
  | some q =>
    rw [hd] at hc
    obtain ⟨rfl, _⟩ := dropN_get hd
    obtain ⟨rfl, h2⟩ := takeN_get hc
    exact ⟨rfl, by simp; simp at h2; omega⟩
theorem RelL.cut {xs : List AV} {vs : List Value} (H : RelL h ρ xs vs) (off n : Nat) : RelL h ρ ((xs.drop off).take n) ((vs.drop off).take n) := by
  refine ⟨by simp [H.1], fun i c v hc hv => ?_⟩
  rw [List.getElem?_take] at hc hv
  split at hc
  · rename_i hi
    rw [if_pos hi, List.getElem?_drop] at hv
    rw [List.getElem?_drop] at hc
    exact H.2 _ c v hc hv
  · cases hc
theorem run_part {t : TypeId} {T : TyD} (hT : TyOk P t T) {vs : List Value} {off : Nat} (hl : ((vs.drop off).take T.size).length = T.size) (w : World) :
    (part t vs.toArray off).run P w = .ok (T.val ((vs.drop off).take T.size)) w := by
  unfold TyD.val
  cases ha : T.d.agg with
  | true =>
    simp only [part, Sem.run_bind, hT.isAgg w, ha, Result.andThen_ok, if_true, hT.runSize w, Sem.run_pure]
    congr 2
    apply Array.ext'
    simp
  | false =>
    have h1 := hT.pos ha
    rw [h1] at hl ⊢
    have hlt : off < vs.length := by simp at hl; omega
    have hd : vs.drop off = vs[off] :: vs.drop (off + 1) := List.drop_eq_getElem_cons hlt
    simp only [part, Sem.run_bind, hT.isAgg w, ha, Result.andThen_ok]
    rw [if_neg (by simp)]
    have hg : vs.toArray[off]? = some vs[off] := by simp [hlt]
    simp only [hg, hd, List.take_succ_cons, List.take_zero, List.headD_cons, Sem.run_pure]
theorem eqFs_sound (hΓ : TysOk P Γ) {eq : TypeId → List AV → List AV → Option Bool} {d : Nat} {w : World}
    (heq : ∀ t xs ys c, eq t xs ys = some c → ∀ T, tyOf Γ t = some T → ∀ vs us, RelL h ρ xs vs → RelL h ρ ys us →
      (Op.equalIn d t (T.val vs) (T.val us)).run P w = .ok c w) :
    ∀ (f : List Field) (fs : List (Nat × TypeId)), f.map (fun x => (x.offset, x.type)) = fs → (∀ x ∈ f, x.name ≠ "_") → ∀ {xs ys : List AV} {c : Bool}, eqFs Γ eq fs xs ys = some c →
      ∀ {vs us : List Value}, RelL h ρ xs vs → RelL h ρ ys us → (Op.eqFields d vs.toArray us.toArray f).run P w = .ok c w
  | [], _, rfl, _, xs, ys, c, hc, vs, us, _, _ => by simp [eqFs] at hc; subst hc; rfl
  | x :: f, _, rfl, hn, xs, ys, c, hc, vs, us, hx, hy => by
    simp only [List.map_cons, eqFs] at hc
    cases hft : tyOf Γ x.type with
    | none => rw [hft] at hc; cases hc
    | some FT =>
      rw [hft] at hc
      simp only [] at hc
      cases hcx : cutN x.offset FT.size xs with
      | none => rw [hcx] at hc; cases hc
      | some p =>
        cases hcy : cutN x.offset FT.size ys with
        | none => rw [hcx, hcy] at hc; cases hc
        | some q =>
          rw [hcx, hcy] at hc
          simp only [] at hc
          cases he : eq x.type p q with
          | none => rw [he] at hc; cases hc
          | some b =>
            rw [he] at hc
            obtain ⟨rfl, l1⟩ := cutN_get hcx
            obtain ⟨rfl, l2⟩ := cutN_get hcy
            have r1 := hx.cut x.offset FT.size
            have r2 := hy.cut x.offset FT.size
            have hTy := hΓ _ FT hft
            have q1 := run_part hTy (vs := vs) (off := x.offset) (by rw [r1.1]; exact l1) w
            have q2 := run_part hTy (vs := us) (off := x.offset) (by rw [r2.1]; exact l2) w
            have q3 := heq _ _ _ _ he FT hft _ _ r1 r2
            have hne : x.name ≠ "_" := hn x (by simp)
            simp only [Op.eqFields]
            rw [if_pos hne]
            simp only [Sem.run_bind, q1, q2, q3, Result.andThen_ok]
            cases f with
            | nil =>
              simp at hc; subst hc
              cases b <;> simp [Op.eqFields]
            | cons y f =>
              simp only [List.map_cons] at hc
              cases hr : eqFs Γ eq ((y.offset, y.type) :: f.map fun x => (x.offset, x.type)) xs ys with
              | none => rw [hr] at hc; cases hc
              | some r =>
                rw [hr] at hc; cases hc
                have ih' := eqFs_sound hΓ heq (y :: f) _ rfl (fun z hz => hn z (by simp [hz])) hr hx hy
                cases b
                · simp
                · simp [ih']
theorem eqTy_sound (hΓ : TysOk P Γ) (w : World) : ∀ (fuel : Nat) (t : TypeId) (xs ys : List AV) (c : Bool), eqTy Γ fuel t xs ys = some c → ∀ T, tyOf Γ t = some T → ∀ d, fuel ≤ d →
    (∀ vs us, RelL h ρ xs vs → RelL h ρ ys us → (Op.equalIn d t (T.val vs) (T.val us)).run P w = .ok c w) ∧ P.eqGuardType d t = false
  | 0, _, _, _, _, hc, _, _, _, _ => by simp [eqTy] at hc
  | fuel + 1, t, xs, ys, c, hc, T, hT, d, hd => by
    have hTy := hΓ t T hT
    obtain ⟨d, rfl⟩ : ∃ e, d = e + 1 := ⟨d - 1, by omega⟩
    simp only [eqTy, hT] at hc
    cases hk : T.d <;> rw [hk] at hc <;> (try (cases hc; done))
    case int k =>
      cases k <;> (try (cases hc; done))
      have hu := hTy.und_int hk
      refine ⟨fun vs us hx hy => ?_, by simp [Program.eqGuardType, hu]⟩
      simp only [] at hc
      split at hc
      · rename_i xa _ xb _ _ _
        cases hc
        obtain ⟨v, r, rfl, hv, _⟩ := hx.inv_cons
        obtain ⟨v', r', rfl, hv', _⟩ := hy.inv_cons
        cases hv; cases hv'
        simp only [TyD.val, hk, Ds.agg, List.headD]
        rw [run_equalIn_int w d t .i64 .i64 _ _ hu]; rfl
      · cases hc
    case bool =>
      have hu := hTy.und_bool hk
      refine ⟨fun vs us hx hy => ?_, by simp [Program.eqGuardType, hu]⟩
      simp only [] at hc
      split at hc
      · cases hc
        obtain ⟨v, r, rfl, hv, _⟩ := hx.inv_cons
        obtain ⟨v', r', rfl, hv', _⟩ := hy.inv_cons
        cases hv; cases hv'
        simp only [TyD.val, hk, Ds.agg, List.headD]
        rw [run_equalIn_bool' w d t _ _ hu]
      · cases hc
    case struct fs =>
      obtain ⟨f, hu, hfs, hnm, hst, _⟩ := hTy.und_struct hk
      simp only [] at hc
      refine ⟨fun vs us hx hy => ?_, ?_⟩
      · have hfo : P.fieldsOf t = f := by simp [Program.fieldsOf, hu]
        simp only [TyD.val, hk, Ds.agg]
        rw [run_equalIn_struct w d t _ _ (by rw [hfo]; exact hu) hst, hfo]
        exact eqFs_sound hΓ (fun t' xs' ys' c' hc' T' hT' vs' us' a b => (eqTy_sound hΓ w fuel t' xs' ys' c' hc' T' hT' d (by omega)).1 vs' us' a b) f.toList fs hfs hnm hc hx hy
      · have hall : ∀ (f : List Field) (fs : List (Nat × TypeId)), f.map (fun x => (x.offset, x.type)) = fs → ∀ {xs ys c}, eqFs Γ (eqTy Γ fuel) fs xs ys = some c → ∀ x ∈ f, P.eqGuardType d x.type = false := by
          intro f
          induction f with
          | nil => intro _ _ _ _ _ _ x hx; cases hx
          | cons x f ih =>
            rintro _ rfl xs ys c hc z hz
            simp only [List.map_cons, eqFs] at hc
            cases hft : tyOf Γ x.type with
            | none => rw [hft] at hc; cases hc
            | some FT =>
              rw [hft] at hc
              simp only [] at hc
              split at hc
              · split at hc
                · rename_i he
                  rcases List.mem_cons.1 hz with rfl | hz
                  · exact (eqTy_sound hΓ w fuel _ _ _ _ he FT hft d (by omega)).2
                  · cases f with
                    | nil => cases hz
                    | cons y f =>
                      simp only [List.map_cons] at hc
                      split at hc
                      · rename_i hr; exact ih _ (by simp) hr z hz
                      · cases hc
                · cases hc
              · cases hc
        simp only [Program.eqGuardType, hu]
        rw [← Array.any_toList, List.any_eq_false]
        intro x hx
        simp [hall f.toList fs hfs hc x hx]
theorem wrap_inU {n : Int} (hn : inU n) : IntKind.u64.wrap n = n := by
  obtain ⟨h1, h2⟩ := hn
  simp only [IntKind.wrap, IntKind.signed, IntKind.bits]
  simp
  omega
theorem bits_u64_and {x y : Int} (hx : inU x) (hy : inU y) : IntKind.u64.wrap ((BitVec.ofInt 64 x &&& BitVec.ofInt 64 y).toNat : Int) = ((x.toNat &&& y.toNat : Nat) : Int) := by
  obtain ⟨h1, h2⟩ := hx
  obtain ⟨h3, h4⟩ := hy
  obtain ⟨m, rfl⟩ := Int.eq_ofNat_of_zero_le h1
  obtain ⟨n, rfl⟩ := Int.eq_ofNat_of_zero_le h3
  have hm : m < 2 ^ 64 := by omega
  have hn : n < 2 ^ 64 := by omega
  have e1 : (BitVec.ofInt 64 (m : Int)).toNat = m := by rw [BitVec.ofInt_natCast, BitVec.toNat_ofNat]; exact Nat.mod_eq_of_lt hm
  have e2 : (BitVec.ofInt 64 (n : Int)).toNat = n := by rw [BitVec.ofInt_natCast, BitVec.toNat_ofNat]; exact Nat.mod_eq_of_lt hn
  rw [BitVec.toNat_and, e1, e2, Int.toNat_natCast, Int.toNat_natCast]
  have : m &&& n < 2 ^ 64 := Nat.and_lt_two_pow _ hn
  exact wrap_inU ⟨by omega, by omega⟩
theorem binU_sound (w : World) {op : BinOp} {t : TypeId} {x y : Int} {r : R} (hr : binU op x y = some r) (hc : ∀ q, r.cs = some q → q) :
    r.wr = [] ∧ ∃ v, (binOp op t (.int .u64 x) (.int .u64 y)).run P w = .ok v w ∧ ∀ (h : Hp) (ρ : Rho), Rel h ρ r.v v := by
  cases op <;> simp only [binU, cmpI, Option.some.injEq] at hr <;> (try (cases hr; done)) <;> subst hr <;> refine ⟨rfl, ?_⟩
  case add => exact ⟨_, by simp only [binOp_add, Op.intArith, Sem.run_pure]; rw [wrap_inU (hc _ rfl)], fun _ _ => .int _ _ _⟩
  case mul => exact ⟨_, by simp only [binOp_mul, Op.intArith, Sem.run_pure]; rw [wrap_inU (hc _ rfl)], fun _ _ => .int _ _ _⟩
  case shr =>
    obtain ⟨h1, h2⟩ := hc _ rfl
    refine ⟨_, ?_, fun _ _ => .int _ _ _⟩
    simp only [binOp_shr, Op.shift]
    rw [if_neg (by omega)]
    have : min y.toNat IntKind.u64.bits = y.toNat := by simp [IntKind.bits]; omega
    simp only [this, Sem.run_pure]
  case and =>
    obtain ⟨h1, h2⟩ := hc _ rfl
    refine ⟨_, ?_, fun _ _ => .int _ _ _⟩
    simp only [binOp_and, Op.intBits, Sem.run_pure]
    have := bits_u64_and h1 h2
    rw [show IntKind.u64.bits = 64 from rfl, this]
  case eql => exact ⟨_, by simp only [binOp_eql, Sem.run_pure]; rfl, fun _ _ => .bool _ _⟩
  case neq =>
    refine ⟨.bool (!decide (x = y)), ?_, fun _ _ => .bool _ _⟩
    simp only [binOp_neq, Sem.run_pure]; rfl
  case lss => exact ⟨_, by simp only [binOp_lss, Sem.run_pure], fun _ _ => .bool _ _⟩
  case leq => exact ⟨_, by simp only [binOp_leq, Sem.run_pure], fun _ _ => .bool _ _⟩
  case gtr => exact ⟨_, by simp only [binOp_gtr, Sem.run_pure], fun _ _ => .bool _ _⟩
  case geq => exact ⟨_, by simp only [binOp_geq, Sem.run_pure], fun _ _ => .bool _ _⟩
theorem av_eqGuard_slice (w : World) (op : BinOp) (t : TypeId) (X Y : Operand) (a b : Option Addr) (n m c d : Nat) : (eqGuard op t X Y (.slice a n c) (.slice b m d)).run P w = .ok () w := by
  unfold eqGuard
  split <;> rfl
theorem evBin_sound (hΓ : TysOk P Γ) (hdep : 8 ≤ P.depth) {op : BinOp} {t : TypeId} {x y : AV} {r : R} (hr : evBin Γ op t x y = some r) (hc : ∀ q, r.cs = some q → q) {v u : Value} (hx : Rel h ρ x v) (hy : Rel h ρ y u) (X Y : Operand) (w : World) :
    r.wr = [] ∧ ∃ z, ((eqGuard op t X Y v u).run P w = .ok () w ∧ (binOp op t v u).run P w = .ok z w) ∧ Rel h ρ r.v z := by
  unfold evBin at hr
  split at hr
  · -- integers
    cases hx; cases hy
    obtain ⟨h1, z, h2, h3⟩ := binI_sound (P := P) w (t := t) hr hc
    exact ⟨h1, z, ⟨by rw [eqGuard_at_int]; rfl, h2⟩, h3 _ _⟩
  · -- unsigned
    cases hx; cases hy
    obtain ⟨h1, z, h2, h3⟩ := binU_sound (P := P) w (t := t) hr hc
    exact ⟨h1, z, ⟨by rw [eqGuard_at_int]; rfl, h2⟩, h3 _ _⟩
  · -- bools
    rename_i p q
    cases hx; cases hy
    have key : ∀ T, tyOf Γ t = some T → T.d = .bool → (Op.equalIn 10000 t (.bool p) (.bool q)).run P w = .ok (p == q) w := fun T hT hk => run_equalIn_bool' w 9999 t _ _ ((hΓ t T hT).und_bool hk)
    split at hr
    · split at hr
      · rename_i T hT
        split at hr
        · rename_i hk
          cases hr
          refine ⟨rfl, .bool (p == q), ⟨by rw [eqGuard_at_bool]; rfl, ?_⟩, .bool _ _⟩
          simp [binOp, Op.equal, Op.maxDepth, key T hT hk]
        · cases hr
      · cases hr
    · split at hr
      · rename_i T hT
        split at hr
        · rename_i hk
          cases hr
          refine ⟨rfl, .bool (!(p == q)), ⟨by rw [eqGuard_at_bool]; rfl, ?_⟩, .bool _ _⟩
          simp [binOp, Op.equal, Op.maxDepth, key T hT hk]
        · cases hr
      · cases hr
    · cases hr
  · -- structs
    rename_i xs ys
    cases hx with
    | agg _ _ vs hl1 hc1 =>
    cases hy with
    | agg _ _ us hl2 hc2 =>
    cases hT : tyOf Γ t with
    | none => simp [hT] at hr
    | some T =>
    simp only [hT] at hr
    cases ha : T.d.agg with
    | false => simp [ha] at hr
    | true =>
    simp only [ha] at hr
    have key : ∀ c, eqTy Γ 8 t xs ys = some c → (Op.equalIn 10000 t (.agg vs.toArray) (.agg us.toArray)).run P w = .ok c w ∧ P.eqGuardType P.depth t = false := fun c hq => by
      have h1 := (eqTy_sound hΓ w 8 t xs ys c hq T hT 10000 (by omega)).1 vs us ⟨hl1, hc1⟩ ⟨hl2, hc2⟩
      have h2 := (eqTy_sound (h := h) (ρ := ρ) hΓ w 8 t xs ys c hq T hT P.depth hdep).2
      simp only [TyD.val, ha] at h1
      exact ⟨h1, h2⟩
    split at hr
    · split at hr
      · rename_i c hq
        cases hr
        obtain ⟨k1, k2⟩ := key c hq
        refine ⟨rfl, .bool c, ⟨run_eqGuard_agg w _ _ _ _ _ _ k2, ?_⟩, .bool _ _⟩
        rw [run_eql_struct, k1]; rfl
      · cases hr
    · split at hr
      · rename_i c hq
        cases hr
        obtain ⟨k1, k2⟩ := key c hq
        refine ⟨rfl, .bool (!c), ⟨run_eqGuard_agg w _ _ _ _ _ _ k2, ?_⟩, .bool _ _⟩
        rw [run_neq_struct, k1]; rfl
      · cases hr
    · cases hr
  · -- a slice, and nil
    rename_i sz n el
    split at hr
    · split at hr
      · rename_i T hT
        split at hr
        · rename_i e hd
          cases hr
          cases hx with
          | ro _ _ _ _ ad cap hnil =>
            cases hy
            refine ⟨rfl, .bool ad.isNone, ⟨by rw [av_eqGuard_slice], run_eql_slice_nil w t e ad n cap ((hΓ t T hT).und_slice hd)⟩, .nz _ _ _ (fun hb => hnil (by simpa using hb))⟩
        · cases hr
      · cases hr
    · cases hr
  · cases hr
end
end Go.Av
