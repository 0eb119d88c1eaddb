/- The evaluator is right, part 8: appends and maps. -/
import Derived.Test.YtnaodipmfaglfaaAvJ
import Derived.Maps.AppendAt
import Derived.MapKept
set_option linter.all false
namespace Go.Av
open Go.MapKept
section
variable {P : Program} {N : Nat} {C : Ctx} {h : Hp} {ρ : Rho} {F : Fr} {M : Mm} {g : Nat} {a : Act} {w : World} {Γ : Tys} {mg : Mm} {o : Oper}
theorem run_append_zero (base : Nat) (t ty e : TypeId) (ht : P.underlying t = some (.slice e)) {E : TyD} (hE : TyOk P e E) {v : Value} {n : Nat} {xs : List Value} (hown : w.ownsRow base e E.size v n xs) (ad : Option Addr) (c : Nat) :
    (Builtin.append_ #[t, t] ty #[v, .slice ad 0 c]).run P w = .ok v w := by
  obtain ⟨i, h1, h2, _, _⟩ := hE.info
  rcases hown.2 with ⟨rfl, rfl⟩ | ⟨g, cap, cur, rfl, _, _, hnc, _⟩ <;> cases ad <;>
    simp [Builtin.append_, run_underlying ht, sizeOf, typeInfo, Builtin.lenOf, Builtin.firstCells, storeCells, loadCells, loadCellsFrom, *]
theorem execOp_append {a : Act} {o : Oper} {x y : Operand} {t : TypeId} (ho : o.op = .call { callee := .builtin .append, args := #[x, y], argTypes := #[t, t] }) {v : Value} {w w' : World}
    (hr : (Builtin.append_ #[t, t] o.type #[a.eval x, a.eval y]).run P w = .ok v w') : (execOp a.eval o).run P w = .ok (.value v) w' := by
  unfold execOp
  simp only [ho, resolve, invoke, builtin, Sem.run_bind, Sem.run_pure, Result.andThen_ok, List.map_toArray, List.map_cons, List.map_nil, hr]
theorem ev_append_nil (hΓ : TysOk P Γ) (I : InvH N C h ρ F M g a w) {t : TypeId} {x y : Operand} (ho : o.op = .call { callee := .builtin .append, args := #[x, y], argTypes := #[t, t] }) {T : TyD} (hT : tyOf Γ t = some T) {e : TypeId} (hd : T.d = .slice e)
    {E : TyD} (hE : tyOf Γ e = some E) (hpos : 0 < E.size) (hs : Rel h ρ .nilS (a.eval x)) {s : AV} (hx : Rel h ρ s (a.eval y)) {n2 : Nat} {e2 : Nat → List AV} {rd : List Nat} {c : Option Prop} (hro : asRo mg s = some (E.size, n2, e2, rd, c))
    (hm : ∀ id, id ∈ rd → M id = mg id) {d : Nat} (hdn : M d = none) (hc : ∀ q, andO (some (room n2 E.bytes)) c = some q → q) :
    Good P N C h ρ F M g a o w ⟨.buf d n2, d :: rd, [(d, .buf e E.size n2 e2)], andO (some (room n2 E.bytes)) c, none⟩ := by
  have hroom : room n2 E.bytes := by cases c <;> first | exact hc _ rfl | exact (hc _ rfl).1
  have hc' : ∀ q, c = some q → q := by rintro q rfl; exact (hc _ rfl).2
  have hEy := hΓ e E hE
  have hu := (hΓ t T hT).und_slice hd
  obtain ⟨i, h1, h2, h3, h4⟩ := hEy.info
  obtain ⟨ad, cap, news, hv, hl, hel, hone, hnews, hrel, hnil⟩ := asRo_sound I hro hm hc' hx
  have hn : a.eval x = .slice none 0 0 := by generalize a.eval x = z at hs; cases hs; rfl
  have hρ := I.dom d hdn
  -- the state behind the append
  have fin : ∀ (v' : Value) (w' : World), (Builtin.append_ #[t, t] o.type #[a.eval x, a.eval y]).run P w = .ok v' w' → w'.ownsRow w.heap.size e E.size v' n2 news → w.grownBy w' none →
      Good P N C h ρ F M g a o w ⟨.buf d n2, d :: rd, [(d, .buf e E.size n2 e2)], andO (some (room n2 E.bytes)) c, none⟩ := by
    intro v' w' hrun hown hg
    have hown0 : w'.ownsRow 0 e E.size v' n2 news := ⟨hown.1, by
      rcases hown.2 with h5 | ⟨gg, cp, cur, k1, _, k3, k4⟩
      · exact .inl h5
      · exact .inr ⟨gg, cp, cur, k1, Nat.zero_le _, k3, k4⟩⟩
    have hblk : ∀ b, v'.ownBlock = some b → w.heap.size ≤ b ∧ b < w'.heap.size := fun b hb => hown.lt b hb
    have hle : ∀ j l, ρ j = some l → ∃ l', upd ρ d (some (.sl n2 E.size v')) j = some l' ∧ l.le l' := by
      intro j l hj
      have hne : j ≠ d := by rintro rfl; rw [hρ] at hj; cases hj
      exact ⟨l, by rw [upd_other _ _ hne]; exact hj, .inl rfl⟩
    have I' : InvH N C h (upd ρ d (some (.sl n2 E.size v'))) F (upd M d (some (.buf e E.size n2 e2))) g a w' := by
      refine I.step (S := fun j => j = d) hg.os hg.tape hg.output hg.size (fun k hk _ => hg.block k hk (by simp)) (fun j hj => upd_other _ _ hj) hle (fun _ _ q => q) (fun _ _ q => .inl q) (fun j hj => upd_other _ _ hj) ?_ ?_ ?_ ?_
      · rintro j rfl hM; rw [upd_same] at hM; cases hM
      · rintro j z rfl hM; rw [upd_same] at hM; cases hM
        exact ⟨v', news, upd_same _ _ _, hown0, hel, hone, hrel⟩
      · rintro j l b rfl k1 k2
        rw [upd_same] at k1; cases k1
        obtain ⟨q1, q2⟩ := hblk b k2
        refine .inr ⟨q1, q2, ?_⟩
        cases hb : h b with
        | none => rfl
        | some o' => have := I.hlt hb; omega
      · rintro j j' l l' b rfl rfl _ _ _ _; rfl
    have hcell : v'.oneCell' = true := by
      rcases hown.2 with ⟨rfl, _⟩ | ⟨_, _, _, rfl, _⟩ <;> rfl
    exact ⟨v', w', h, _, .inl (execOp_append ho hrun), I', .buf _ _ _ _ _ _ _ (upd_same _ _ _) (Nat.le_refl _) hcell (fun _ => rfl)⟩
  by_cases hz : n2 = 0
  · subst hz
    have hnn : news = [] := List.eq_nil_of_length_eq_zero (by rw [hl]; simp)
    subst hnn
    refine fin (.slice none 0 0) w ?_ (World.ownsRow_nil _ _ _ _) ⟨rfl, rfl, rfl, Nat.le_refl _, fun _ _ _ => rfl⟩
    rw [hn, hv]
    exact run_append_zero w.heap.size t o.type e hu hEy (World.ownsRow_nil w _ _ _) ad cap
  · obtain ⟨ad', rfl⟩ : ∃ ad', ad = some ad' := by cases ad with | none => exact absurd (hnil rfl) hz | some q => exact ⟨q, rfl⟩
    have hnews' : ∀ j u, news[j]? = some u → w.cell? (ad'.add j) = some u := fun j u hj => by obtain ⟨a2, q1, q2⟩ := hnews j u hj; cases q1; exact q2
    obtain ⟨v', w', k1, k2, k3, _⟩ := run_append_own (P := P) w w.heap.size t o.type e i E.zeroV E.size E.bytes hu h1 h4 h2 h3 (by rw [zeroV_cells hEy]; simpa using hEy.len) hpos (.slice none 0 0) 0 [] (World.ownsRow_nil w _ _ _)
      ad' n2 cap news hl hnews' hone (by rw [Nat.zero_add]; exact room_max hroom) (by rw [Nat.zero_add]; exact hroom.1) (Nat.le_refl _)
    rw [Nat.zero_add, List.nil_append] at k2
    exact fin v' w' (by rw [hn, hv]; exact k1) k2 k3
theorem ev_append_buf (hΓ : TysOk P Γ) (I : InvH N C h ρ F M g a w) {t : TypeId} {x y : Operand} (ho : o.op = .call { callee := .builtin .append, args := #[x, y], argTypes := #[t, t] }) {T : TyD} (hT : tyOf Γ t = some T) {e : TypeId} (hd : T.d = .slice e)
    {E : TyD} (hE : tyOf Γ e = some E) (hpos : 0 < E.size) {id n n' sz : Nat} {e1 : Nat → List AV} (hs : Rel h ρ (.buf id n) (a.eval x)) (hM : M id = some (.buf e sz n' e1)) (hsz : sz = E.size) {s : AV} (hx : Rel h ρ s (a.eval y)) {n2 : Nat} {e2 : Nat → List AV} {rd : List Nat} {c : Option Prop}
    (hro : asRo mg s = some (E.size, n2, e2, rd, c)) (hm : ∀ j, j ∈ rd → M j = mg j) (hc : ∀ q, andO (some (n = n' ∧ room (n' + n2) E.bytes)) c = some q → q) :
    Good P N C h ρ F M g a o w ⟨.buf id (n' + n2), id :: rd, [(id, .buf e sz (n' + n2) (fun k => if k < n' then e1 k else e2 (k - n')))], andO (some (n = n' ∧ room (n' + n2) E.bytes)) c, none⟩ := by
  subst hsz
  obtain ⟨rfl, hroom⟩ : n = n' ∧ room (n' + n2) E.bytes := by cases c <;> first | exact hc _ rfl | exact (hc _ rfl).1
  have hc' : ∀ q, c = some q → q := by rintro q rfl; exact (hc _ rfl).2
  have hEy := hΓ e E hE
  have hu := (hΓ t T hT).und_slice hd
  obtain ⟨i, h1, h2, h3, h4⟩ := hEy.info
  obtain ⟨ad, cap, news, hv, hl, hel, hone, hnews, hrel, hnil⟩ := asRo_sound I hro hm hc' hx
  obtain ⟨v0, us, f1, f2, f3, f5, f4⟩ := I.blk id _ hM
  have hn : a.eval x = v0 := by
    generalize a.eval x = z at hs
    cases hs with
    | buf _ _ _ _ _ _ _ hb hle k1 he => rw [f1] at hb; cases hb; exact he rfl
  have hlen : us.length = n * E.size := f2.1
  have fin : ∀ (v' : Value) (w' : World), (Builtin.append_ #[t, t] o.type #[a.eval x, a.eval y]).run P w = .ok v' w' → w'.ownsRow 0 e E.size v' (n + n2) (us ++ news) → w.grownBy w' v0.ownBlock →
      (v'.ownBlock = v0.ownBlock ∨ v'.ownBlock = some w.heap.size) → ((n = n + n2 ∧ v0 = v') ∨ n < n + n2) →
      Good P N C h ρ F M g a o w ⟨.buf id (n + n2), id :: rd, [(id, .buf e E.size (n + n2) (fun k => if k < n then e1 k else e2 (k - n)))], andO (some (n = n ∧ room (n + n2) E.bytes)) c, none⟩ := by
    intro v' w' hrun hown hg hb hle
    have hnb : ∀ b, v'.ownBlock = some b → v0.ownBlock = some b ∨ (w.heap.size ≤ b ∧ b < w'.heap.size) := by
      intro b hb'
      rcases hb with q | q
      · exact .inl (q ▸ hb')
      · rw [q] at hb'; cases hb'; exact .inr ⟨Nat.le_refl _, (hown.lt _ q).2⟩
    have hcell : v'.oneCell' = true := by
      rcases hown.2 with ⟨rfl, _⟩ | ⟨_, _, _, rfl, _⟩ <;> rfl
    refine ⟨v', w', h, _, .inl (execOp_append ho hrun), I.turnBuf f1 _ hle hg hnb ?_, .buf _ _ _ _ _ _ _ (upd_same _ _ _) (Nat.le_refl _) hcell (fun _ => rfl)⟩
    refine ⟨v', us ++ news, upd_same _ _ _, hown, fun k hk => ?_, fun u hu' => ?_, fun k j cc u hk hcc hu' => ?_⟩
    · show (if k < n then e1 k else e2 (k - n)).length = E.size
      by_cases hkn : k < n
      · rw [if_pos hkn]; exact f3 k hkn
      · rw [if_neg hkn]; exact hel _ (by omega)
    · rcases List.mem_append.1 hu' with q | q
      · exact f5 u q
      · exact hone u q
    · replace hcc : (if k < n then e1 k else e2 (k - n))[j]? = some cc := hcc
      by_cases hkn : k < n
      · rw [if_pos hkn] at hcc
        have hj : j < E.size := by rw [← f3 k hkn]; exact (List.getElem?_eq_some_iff.1 hcc).1
        have : k * E.size + j < us.length := by
          rw [hlen]
          calc k * E.size + j < k * E.size + E.size := by omega
            _ = (k + 1) * E.size := by rw [Nat.add_mul, Nat.one_mul]
            _ ≤ n * E.size := Nat.mul_le_mul_right _ hkn
        rw [List.getElem?_append_left this] at hu'
        exact f4 k j cc u hkn hcc hu'
      · rw [if_neg hkn] at hcc
        have hge : n * E.size ≤ k * E.size := Nat.mul_le_mul_right _ (by omega)
        rw [List.getElem?_append_right (by rw [hlen]; omega), hlen] at hu'
        have : k * E.size + j - n * E.size = (k - n) * E.size + j := by rw [Nat.sub_mul]; omega
        rw [this] at hu'
        exact hrel (k - n) j cc u (by omega) hcc hu'
  by_cases hz : n2 = 0
  · subst hz
    have hnn : news = [] := List.eq_nil_of_length_eq_zero (by rw [hl]; simp)
    subst hnn
    refine fin v0 w ?_ (by simpa using f2) ⟨rfl, rfl, rfl, Nat.le_refl _, fun _ _ _ => rfl⟩ (.inl rfl) (.inl ⟨rfl, rfl⟩)
    rw [hn, hv]
    exact run_append_zero 0 t o.type e hu hEy f2 ad cap
  · obtain ⟨ad', rfl⟩ : ∃ ad', ad = some ad' := by cases ad with | none => exact absurd (hnil rfl) hz | some q => exact ⟨q, rfl⟩
    have hnews' : ∀ j u, news[j]? = some u → w.cell? (ad'.add j) = some u := fun j u hj => by obtain ⟨a2, q1, q2⟩ := hnews j u hj; cases q1; exact q2
    obtain ⟨v', w', k1, k2, k3, _, k5⟩ := run_append_own_at (P := P) w 0 t o.type e i E.zeroV E.size E.bytes hu h1 h4 h2 h3 (by rw [zeroV_cells hEy]; simpa using hEy.len) hpos v0 n us f2
      ad' n2 cap news hl hnews' hone (room_max hroom) hroom.1 (Nat.zero_le _)
    exact fin v' w' (by rw [hn, hv]; exact k1) k2 k3 k5 (.inr (by omega))
theorem isKey_int (k : Int) : IsKey (.int .i64) (.int .i64 k) := rfl
theorem find_spec {es : List MapEntry} {ks : List Int} (hl : ks.length = es.length) (hk : ∀ (i : Nat) (k : Int) (x : MapEntry), ks[i]? = some k → es[i]? = some x → x.key = .int .i64 k) (q : Int) :
    (q ∉ ks ∧ Instr.findNow (.int .i64) (.int .i64 q) es 0 = some none) ∨ ∃ j x, ks[j]? = some q ∧ es[j]? = some x ∧ Instr.findNow (.int .i64) (.int .i64 q) es 0 = some (some (j, x.val)) := by
  have hkeys : ∀ x ∈ es, IsKey (.int .i64) x.key := by
    intro x hx
    obtain ⟨i, hi, rfl⟩ := List.getElem_of_mem hx
    rw [hk i ks[i] es[i] (List.getElem?_eq_getElem (by omega)) (List.getElem?_eq_getElem hi)]
    rfl
  rcases findNow_spec (isKey_int q) es 0 hkeys with ⟨h1, h2⟩ | ⟨j, x, h1, h2, h3⟩
  · refine .inl ⟨fun hm => ?_, h1⟩
    obtain ⟨i, hi, hq⟩ := List.getElem_of_mem hm
    have := hk i ks[i] (es[i]'(by omega)) (List.getElem?_eq_getElem hi) (List.getElem?_eq_getElem (by omega))
    exact h2 _ (List.getElem_mem _) (by rw [this, hq])
  · have hj : j < es.length := (List.getElem?_eq_some_iff.1 h2).1
    have h4 := hk j ks[j] x (List.getElem?_eq_getElem (by omega)) h2
    rw [h3] at h4
    have h5 : q = ks[j] := by cases h4; rfl
    exact .inr ⟨j, x, by rw [h5]; exact List.getElem?_eq_getElem _, h2, by simpa using h1⟩
theorem run_lookup_map {t kt et : TypeId} (hu : P.underlying t = some (.map kt et)) (hk : P.underlying kt = some (.int .i64)) {E : TyD} (hE : TyOk P et E) {r : Nat} {es : List MapEntry} {clock : Nat} (hb : w.heap[r]? = some (.map es.toArray clock)) (q : Int) (ok : Bool)
    {res : Option (Nat × Value)} (hf : Instr.findNow (.int .i64) (.int .i64 q) es 0 = some res) :
    (Instr.lookup t (.map (some r)) (.int .i64 q) ok).run P w = .ok (if ok then .tuple #[(res.map (·.2)).getD E.zeroV, .bool res.isSome] else (res.map (·.2)).getD E.zeroV) w := by
  have hfk := run_findKey (P := P) (w := w) hk hf
  cases res with
  | none =>
    simp only [Instr.lookup, Sem.run_bind, run_underlying hu, Result.andThen_ok, MapKept.run_getObj_map hb, Sem.run_pure, run_checkKey hk (isKey_int q), hfk, hE.runZero w]
    cases ok <;> rfl
  | some p =>
    simp only [Instr.lookup, Sem.run_bind, run_underlying hu, Result.andThen_ok, MapKept.run_getObj_map hb, Sem.run_pure, run_checkKey hk (isKey_int q), hfk]
    cases ok <;> rfl
theorem lookup_rel {h : Hp} {z : Value} {dom : Int → Bool} {e : Int → AV} {es : List MapEntry} {ks : List Int} (hl : ks.length = es.length) (hk : ∀ (i : Nat) (k : Int) (x : MapEntry), ks[i]? = some k → es[i]? = some x → x.key = .int .i64 k)
    (hdom : ∀ k, dom k = true ↔ k ∈ ks) (hz : ∀ k, dom k = false → Rel h ρ0 (e k) z) (hc : ∀ (i : Nat) (k : Int) (x : MapEntry), ks[i]? = some k → es[i]? = some x → Rel h ρ0 (e k) x.val) (q : Int) :
    ∃ res, Instr.findNow (.int .i64) (.int .i64 q) es 0 = some res ∧ Rel h ρ0 (e q) ((res.map (·.2)).getD z) ∧ res.isSome = dom q := by
  rcases find_spec hl hk q with ⟨h1, h2⟩ | ⟨j, x, h1, h2, h3⟩
  · have hd : dom q = false := by
      cases hd : dom q with
      | false => rfl
      | true => exact absurd ((hdom q).1 hd) h1
    exact ⟨none, h2, hz q hd, by rw [hd]; rfl⟩
  · have hd : dom q = true := (hdom q).2 (List.mem_of_getElem? h1)
    exact ⟨some (j, x.val), h3, hc j q x h1 h2, by rw [hd]; rfl⟩
theorem execOp_lookup {a : Act} {o : Oper} {x y : Operand} {t : TypeId} {ok : Bool} (ho : o.op = .lookup t x y ok) {v : Value} {w w' : World} (hr : (Instr.lookup t (a.eval x) (a.eval y) ok).run P w = .ok v w') : (execOp a.eval o).run P w = .ok (.value v) w' := by
  unfold execOp
  simp only [ho, Sem.run_bind, hr, Result.andThen_ok, Sem.run_pure]
def lkA (ok : Bool) (v : AV) (b : Bool) : AV := match ok with
  | true => .tup [v, .bool b]
  | false => v
theorem rel_lk {h : Hp} {ρ : Rho} {v : AV} {x : Value} (H : Rel h ρ v x) (ok b : Bool) : Rel h ρ (lkA ok v b) (if ok then .tuple #[x, .bool b] else x) := by
  cases ok
  · exact H
  · have := RelL.cons H (RelL.cons (Rel.bool ρ b) (RelL.nil h ρ))
    exact .tup _ _ _ this.1 this.2
theorem ev_lookup (hΓ : TysOk P Γ) (I : InvH N C h ρ F M g a w) {t : TypeId} {x y : Operand} {ok : Bool} (ho : o.op = .lookup t x y ok) {m k : AV} (hmv : Rel h ρ m (a.eval x)) (hkv : Rel h ρ k (a.eval y)) {r : R} (hr : evLookup Γ mg t m k ok = some r)
    (hm : ∀ id, id ∈ r.rd → M id = mg id) (hc : ∀ q, r.cs = some q → q) : Good P N C h ρ F M g a o w r := by
  unfold evLookup at hr
  cases hT : tyOf Γ t with
  | none => simp [hT] at hr
  | some T =>
  simp only [hT] at hr
  cases hd : T.d <;> simp only [hd] at hr <;> (try (cases hr; done))
  rename_i kt et
  cases hK : tyOf Γ kt with
  | none => simp [hK] at hr
  | some KT =>
  simp only [hK] at hr
  cases hkd : KT.d <;> simp only [hkd] at hr <;> (try (cases hr; done))
  rename_i ik
  cases ik <;> (try simp only [] at hr) <;> (try (cases hr; done))
  cases hE : tyOf Γ et with
  | none => simp [hE] at hr
  | some E =>
  simp only [hE] at hr
  have hu := (hΓ t T hT).und_map hd
  have hku := (hΓ kt KT hK).und_int hkd
  have hEy := hΓ et E hE
  cases k <;> (try simp only [] at hr) <;> (try (cases hr; done))
  rename_i kk q
  cases kk <;> (try simp only [] at hr) <;> (try (cases hr; done))
  generalize hy : a.eval y = yv at hkv
  cases hkv
  generalize hx : a.eval x = xv at hmv
  cases m <;> (try simp only [] at hr) <;> (try (cases hr; done))
  case mp id =>
    cases hg : mg id with
    | none => simp [hg] at hr
    | some bl =>
      cases bl <;> simp only [hg] at hr <;> (try (cases hr; done))
      rename_i z dom e n
      have hr' : r = ⟨lkA ok (e q) (dom q), [id], [], some (z = E.zeroV), none⟩ := by cases ok <;> (simp only [] at hr; cases hr; rfl)
      subst hr'
      obtain rfl : z = E.zeroV := hc _ rfl
      obtain ⟨b, es, clock, ks, e1, e2, e3, e4, e5, e6, e7, e8, e9, ez, e10⟩ := I.blk id _ ((hm id (by simp)).trans hg)
      cases hmv with
      | mp _ _ b' hb =>
        rw [e1] at hb; cases hb
        obtain ⟨res, f1, f2, f3⟩ := lookup_rel (by rw [e4, e5]) e6 e9 ez e10 q
        have hrun := run_lookup_map (P := P) hu hku hEy e2 q ok f1
        rw [f3] at hrun
        exact Good.same I (.inl (execOp_lookup ho (by rw [hx, hy]; exact hrun))) rfl (rel_lk f2.closed ok (dom q))
  case rom z dom e n =>
    have hr' : r = R.valIf (lkA ok (e q) (dom q)) (z = E.zeroV) := by cases ok <;> (simp only [] at hr; cases hr; rfl)
    subst hr'
    obtain rfl : z = E.zeroV := hc _ rfl
    cases hmv with
    | rom _ _ _ _ _ b es clock ks e2 e3 e4 e5 e6 e7 e8 e9 ez e10 =>
      obtain ⟨res, f1, f2, f3⟩ := lookup_rel (by rw [e4, e5]) e6 e9 ez e10 q
      have hrun := run_lookup_map (P := P) hu hku hEy (I.hp _ _ e2) q ok f1
      rw [f3] at hrun
      exact Good.same I (.inl (execOp_lookup ho (by rw [hx, hy]; exact hrun))) rfl (rel_lk f2.closed ok (dom q))
  case nilMap =>
    have hr' : r = R.val (lkA ok (zeroA E) false) := by cases ok <;> (simp only [] at hr; cases hr; rfl)
    subst hr'
    cases hmv
    have hrun : (Instr.lookup t (.map none) (.int .i64 q) ok).run P w = .ok (if ok then .tuple #[E.zeroV, .bool false] else E.zeroV) w := by
      have hfk := run_findKey (P := P) (w := w) (k := .int .i64 q) (l := []) hku rfl
      simp only [Instr.lookup, Sem.run_bind, run_underlying hu, Result.andThen_ok, Sem.run_pure, run_checkKey hku (isKey_int q), hfk, hEy.runZero w]
    exact Good.same I (.inl (execOp_lookup ho (by rw [hx, hy]; exact hrun))) rfl (rel_lk (Rel.zeroA hEy h ρ) ok false)
theorem sameBits_int (k : Int) : Instr.sameBits 10000 (.int .i64 k) (.int .i64 k) = true := by simp [Instr.sameBits]
theorem run_keyStays (k : Int) (w : World) : (Instr.keyThatStays (.int .i64 k) (.int .i64 k)).run P w = .ok (.int .i64 k) w := by
  unfold Instr.keyThatStays
  rw [if_pos (sameBits_int k)]; rfl
theorem ev_mapSet (hΓ : TysOk P Γ) (I : InvH N C h ρ F M g a w) {t : TypeId} {x y z : Operand} (ho : o.op = .mapUpdate t x y z ∨ o.op = .insert t x y z) {m k v : AV} (hmv : Rel h ρ m (a.eval x)) (hkv : Rel h ρ k (a.eval y)) (hvv : Rel h ρ v (a.eval z)) {r : R}
    (hr : evMapSet Γ mg t m k v = some r) (hm : ∀ id, id ∈ r.rd → M id = mg id) : Good P N C h ρ F M g a o w r := by
  unfold evMapSet at hr
  cases hT : tyOf Γ t with
  | none => simp [hT] at hr
  | some T =>
  simp only [hT] at hr
  cases hd : T.d <;> simp only [hd] at hr <;> (try (cases hr; done))
  rename_i kt et
  cases hK : tyOf Γ kt with
  | none => simp [hK] at hr
  | some KT =>
  simp only [hK] at hr
  cases hkd : KT.d <;> simp only [hkd] at hr <;> (try (cases hr; done))
  rename_i ik
  cases ik <;> (try simp only [] at hr) <;> (try (cases hr; done))
  have hu := (hΓ t T hT).und_map hd
  have hku := (hΓ kt KT hK).und_int hkd
  cases k <;> (try simp only [] at hr) <;> (try (cases hr; done))
  rename_i kk q
  cases kk <;> (try simp only [] at hr) <;> (try (cases hr; done))
  generalize hy : a.eval y = yv at hkv
  cases hkv
  generalize hx : a.eval x = xv at hmv
  cases m <;> (try simp only [] at hr) <;> (try (cases hr; done))
  rename_i id
  cases hg : mg id with
  | none => simp [hg] at hr
  | some bl =>
  cases bl <;> simp only [hg] at hr <;> (try (cases hr; done))
  rename_i zz dom e n
  cases hcl : v.cl with
  | false => simp [hcl] at hr
  | true =>
  simp only [hcl] at hr
  cases hr
  obtain ⟨b, es, clock, ks, e1, e2, e3, e4, e5, e6, e7, e8, e9, ez, e10⟩ := I.blk id _ ((hm id (by simp)).trans hg)
  cases hmv with
  | mp _ _ b' hb =>
    rw [e1] at hb; cases hb
    have hlt : b < w.heap.size := heap_lt e2
    have fin : ∀ (o' : Obj), (Instr.mapUpdate t (.map (some b)) (.int .i64 q) (a.eval z)).run P w = .ok () { w with heap := w.heap.setIfInBounds b o' } →
        BlkOk h ρ id (.map zz (fun j => decide (j = q) || dom j) (fun j => bif decide (j = q) then v else e j) (bif dom q then n else n + 1)) { w with heap := w.heap.setIfInBounds b o' } →
        Good P N C h ρ F M g a o w ⟨.any, [id], [(id, .map zz (fun j => decide (j = q) || dom j) (fun j => bif decide (j = q) then v else e j) (bif dom q then n else n + 1))], none, none⟩ := by
      intro o' hrun hblk
      refine ⟨undef, { w with heap := w.heap.setIfInBounds b o' }, h, ρ, .inr ⟨?_, rfl⟩, I.turn (w' := { w with heap := w.heap.setIfInBounds b o' }) e1 _ rfl rfl rfl (by simp) (fun k hk => (heap_set e2).2 k hk) hblk, .any _ _⟩
      unfold execOp
      rcases ho with ho | ho <;> simp only [ho, hx, hy, Sem.run_bind, hrun, Result.andThen_ok, Sem.run_pure]
    have hrel0 : Rel h ρ0 v (a.eval z) := hvv.of_cl hcl
    rcases find_spec (by rw [e4, e5]) e6 q with ⟨h1, h2⟩ | ⟨j, x0, h1, h2, h3⟩
    · have hdq : dom q = false := by
        cases hdq : dom q with
        | false => rfl
        | true => exact absurd ((e9 q).1 hdq) h1
      refine fin (.map (es.toArray.push { key := .int .i64 q, val := a.eval z, born := clock }) (clock + 1)) ?_ ?_
      · simp only [Instr.mapUpdate, Sem.run_bind, run_underlying hu, Result.andThen_ok, MapKept.run_getObj_map e2, run_checkKey hku (isKey_int q), run_findKey hku h2, MapKept.run_setObj_map _ e2]
      · refine ⟨b, es ++ [{ key := .int .i64 q, val := a.eval z, born := clock }], clock + 1, ks ++ [q], e1, by simp [hlt], ?_, by simp [e4, hdq], by simp [e5, hdq], ?_, ?_, ?_, ?_, ?_, ?_⟩
        · rw [List.nodup_append]; exact ⟨e3, by simp, by simp; rintro c hc rfl; exact h1 hc⟩
        · intro i k x hik hix
          by_cases hi : i < ks.length
          · rw [List.getElem?_append_left hi] at hik
            rw [List.getElem?_append_left (by omega)] at hix
            exact e6 i k x hik hix
          · rw [List.getElem?_append_right (by omega)] at hik
            rw [List.getElem?_append_right (by omega)] at hix
            have hi0 : i - ks.length = 0 := by
              have := (List.getElem?_eq_some_iff.1 hik).1; simp at this; omega
            rw [hi0] at hik
            have hi1 : i - es.length = 0 := by omega
            rw [hi1] at hix
            simp at hik hix; subst hik hix; rfl
        · intro x hx'
          rcases List.mem_append.1 hx' with p | p
          · have := e7 x p; omega
          · simp at p; subst p; simp
        · simp only [List.map_append, List.map_cons, List.map_nil]
          rw [List.nodup_append]
          refine ⟨e8, by simp, ?_⟩
          intro c hc d hd' heq
          simp at hd'; subst hd'; subst heq
          obtain ⟨x, p1, p2⟩ := List.mem_map.1 hc
          have := e7 x p1; omega
        · intro k
          simp only [Bool.or_eq_true, decide_eq_true_eq, List.mem_append, List.mem_singleton, e9 k]
          exact Or.comm
        · intro k hkf
          simp only [Bool.or_eq_false_iff, decide_eq_false_iff_not] at hkf
          simp only [hkf.1, decide_false, cond_false]
          exact ez k hkf.2
        · intro i k x hik hix
          by_cases hi : i < ks.length
          · rw [List.getElem?_append_left hi] at hik
            rw [List.getElem?_append_left (by omega)] at hix
            have hne : k ≠ q := by rintro rfl; exact h1 (List.mem_of_getElem? hik)
            simp only [hne, decide_false, cond_false]
            exact e10 i k x hik hix
          · rw [List.getElem?_append_right (by omega)] at hik
            rw [List.getElem?_append_right (by omega)] at hix
            have hi0 : i - ks.length = 0 := by
              have := (List.getElem?_eq_some_iff.1 hik).1; simp at this; omega
            rw [hi0] at hik
            have hi1 : i - es.length = 0 := by omega
            rw [hi1] at hix
            simp at hik hix; subst hik hix
            simp only [decide_true, cond_true]
            exact hrel0
    · have hdq : dom q = true := (e9 q).2 (List.mem_of_getElem? h1)
      have hkey := e6 j q x0 h1 h2
      refine fin (.map (es.toArray.modify j fun e => { e with key := .int .i64 q, val := a.eval z }) clock) ?_ ?_
      · have hget : ((es.toArray[j]?).map (·.key)).getD (.int .i64 q) = .int .i64 q := by simp [h2, hkey]
        simp only [Instr.mapUpdate, Sem.run_bind, run_underlying hu, Result.andThen_ok, MapKept.run_getObj_map e2, run_checkKey hku (isKey_int q), run_findKey hku h3, hget, run_keyStays, MapKept.run_setObj_map _ e2]
      · have hgm : ∀ i, (es.modify j fun e => { e with key := .int .i64 q, val := a.eval z })[i]? = if i = j then (es[i]?).map (fun e => { e with key := .int .i64 q, val := a.eval z }) else es[i]? := by
          intro i
          rw [List.getElem?_modify]
          by_cases hi : i = j
          · subst hi; simp
          · rw [if_neg hi]; cases es[i]? <;> simp [Ne.symm hi]
        refine ⟨b, es.modify j fun e => { e with key := .int .i64 q, val := a.eval z }, clock, ks, e1, by simp [hlt], e3, by simp [e4, hdq], by simp [e5, hdq], ?_, ?_, ?_, ?_, ?_, ?_⟩
        · intro i k x hik hix
          rw [hgm] at hix
          by_cases hi : i = j
          · subst hi
            rw [if_pos rfl, h2] at hix
            rw [h1] at hik
            simp at hix hik; subst hix hik; rfl
          · rw [if_neg hi] at hix; exact e6 i k x hik hix
        · intro x hx'
          obtain ⟨i, hi, rfl⟩ := List.getElem_of_mem hx'
          have hgi := hgm i
          rw [List.getElem?_eq_getElem hi] at hgi
          by_cases hij : i = j
          · subst hij
            rw [if_pos rfl, h2, Option.map_some] at hgi
            rw [Option.some.inj hgi]; exact e7 x0 (List.mem_of_getElem? h2)
          · rw [if_neg hij] at hgi
            exact e7 _ (List.mem_of_getElem? hgi.symm)
        · have : (es.modify j fun e => { e with key := .int .i64 q, val := a.eval z }).map (·.born) = es.map (·.born) := by
            apply List.ext_getElem?
            intro i
            simp only [List.getElem?_map, hgm]
            by_cases hij : i = j
            · subst hij; rw [if_pos rfl]; cases es[i]? <;> rfl
            · rw [if_neg hij]
          rw [this]; exact e8
        · intro k
          simp only [Bool.or_eq_true, decide_eq_true_eq]
          constructor
          · rintro (rfl | h')
            · exact List.mem_of_getElem? h1
            · exact (e9 k).1 h'
          · intro h'; exact .inr ((e9 k).2 h')
        · intro k hkf
          simp only [Bool.or_eq_false_iff, decide_eq_false_iff_not] at hkf
          simp only [hkf.1, decide_false, cond_false]
          exact ez k hkf.2
        · intro i k x hik hix
          rw [hgm] at hix
          by_cases hij : i = j
          · subst hij
            rw [if_pos rfl, h2] at hix
            rw [h1] at hik
            simp at hix hik; subst hix hik
            simp only [decide_true, cond_true]
            exact hrel0
          · rw [if_neg hij] at hix
            have hne : k ≠ q := by
              rintro rfl
              have h1' := (List.getElem?_eq_some_iff.1 h1)
              have hik' := (List.getElem?_eq_some_iff.1 hik)
              exact hij ((List.getElem_inj (h₀ := hik'.1) (h₁ := h1'.1) e3).1 (hik'.2.trans h1'.2.symm))
            simp only [hne, decide_false, cond_false]
            exact e10 i k x hik hix
theorem nodup_erase {α : Type} {l : List α} (h : l.Nodup) (j : Nat) : (l.eraseIdx j).Nodup := List.Sublist.nodup (List.eraseIdx_sublist l j) h
theorem ev_mapDel (hΓ : TysOk P Γ) (I : InvH N C h ρ F M g a w) {t t2 : TypeId} {x y : Operand} {ts : Array TypeId} (hts : ts[0]? = some t) (ho : o.op = .call { callee := .builtin .delete, args := #[x, y], argTypes := ts }) {m k : AV} (hmv : Rel h ρ m (a.eval x)) (hkv : Rel h ρ k (a.eval y)) {r : R}
    (hr : evMapDel Γ mg t m k = some r) (hm : ∀ id, id ∈ r.rd → M id = mg id) (hc : ∀ q, r.cs = some q → q) (_ : t2 = t) : Good P N C h ρ F M g a o w r := by
  unfold evMapDel at hr
  cases hT : tyOf Γ t with
  | none => simp [hT] at hr
  | some T =>
  simp only [hT] at hr
  cases hd : T.d <;> simp only [hd] at hr <;> (try (cases hr; done))
  rename_i kt et
  cases hK : tyOf Γ kt with
  | none => simp [hK] at hr
  | some KT =>
  simp only [hK] at hr
  cases hkd : KT.d <;> simp only [hkd] at hr <;> (try (cases hr; done))
  rename_i ik
  cases ik <;> (try simp only [] at hr) <;> (try (cases hr; done))
  cases hE : tyOf Γ et with
  | none => simp [hE] at hr
  | some E =>
  simp only [hE] at hr
  have hu := (hΓ t T hT).und_map hd
  have hku := (hΓ kt KT hK).und_int hkd
  have hEy := hΓ et E hE
  cases k <;> (try simp only [] at hr) <;> (try (cases hr; done))
  rename_i kk q
  cases kk <;> (try simp only [] at hr) <;> (try (cases hr; done))
  generalize hy : a.eval y = yv at hkv
  cases hkv
  generalize hx : a.eval x = xv at hmv
  cases m <;> (try simp only [] at hr) <;> (try (cases hr; done))
  rename_i id
  cases hg : mg id with
  | none => simp [hg] at hr
  | some bl =>
  cases bl <;> simp only [hg] at hr <;> (try (cases hr; done))
  rename_i zz dom e n
  cases hr
  obtain rfl : zz = E.zeroV := hc _ rfl
  obtain ⟨b, es, clock, ks, e1, e2, e3, e4, e5, e6, e7, e8, e9, ez, e10⟩ := I.blk id _ ((hm id (by simp)).trans hg)
  cases hmv with
  | mp _ _ b' hb =>
    rw [e1] at hb; cases hb
    have hlt : b < w.heap.size := heap_lt e2
    have fin : ∀ (o' : Obj), (Builtin.delete_ ts o.type #[.map (some b), .int .i64 q]).run P w = .ok (.tuple #[]) { w with heap := w.heap.setIfInBounds b o' } →
        BlkOk h ρ id (.map E.zeroV (fun j => !decide (j = q) && dom j) (fun j => bif decide (j = q) then zeroA E else e j) (bif dom q then n - 1 else n)) { w with heap := w.heap.setIfInBounds b o' } →
        Good P N C h ρ F M g a o w ⟨.any, [id], [(id, .map E.zeroV (fun j => !decide (j = q) && dom j) (fun j => bif decide (j = q) then zeroA E else e j) (bif dom q then n - 1 else n))], some (E.zeroV = E.zeroV), none⟩ := by
      intro o' hrun hblk
      refine ⟨.tuple #[], { w with heap := w.heap.setIfInBounds b o' }, h, ρ, .inl ?_, I.turn (w' := { w with heap := w.heap.setIfInBounds b o' }) e1 _ rfl rfl rfl (by simp) (fun k hk => (heap_set e2).2 k hk) hblk, .any _ _⟩
      unfold execOp
      simp only [ho, resolve, invoke, builtin, Sem.run_bind, Sem.run_pure, Result.andThen_ok, List.map_toArray, List.map_cons, List.map_nil, hx, hy, hrun]
    rcases find_spec (by rw [e4, e5]) e6 q with ⟨h1, h2⟩ | ⟨j, x0, h1, h2, h3⟩
    · have hdq : dom q = false := by
        cases hdq : dom q with
        | false => rfl
        | true => exact absurd ((e9 q).1 hdq) h1
      refine fin (.map es.toArray clock) ?_ ?_
      · have hts' : ts[0]? = some t := hts
        simp only [Builtin.delete_, hts', List.getElem?_toArray, List.getElem?_cons_zero, List.getElem?_cons_succ, Sem.run_bind, run_underlying hu, Result.andThen_ok, MapKept.run_getObj_map e2, run_checkKey hku (isKey_int q), run_findKey hku h2, MapKept.run_setObj_map _ e2, Sem.run_pure]
      · refine ⟨b, es, clock, ks, e1, by simp [hlt], e3, by simp [e4, hdq], by simp [e5, hdq], e6, e7, e8, ?_, ?_, ?_⟩
        · intro k
          simp only [Bool.and_eq_true, Bool.not_eq_true', decide_eq_false_iff_not, e9 k]
          exact ⟨fun p => p.2, fun p => ⟨by rintro rfl; exact h1 p, p⟩⟩
        · intro k hkf
          by_cases hk : k = q
          · subst hk; simp only [decide_true, cond_true]; exact Rel.zeroA hEy h ρ0
          · simp only [hk, decide_false, Bool.not_false, Bool.true_and] at hkf
            simp only [hk, decide_false, cond_false]; exact ez k hkf
        · intro i k x hik hix
          have hne : k ≠ q := by rintro rfl; exact h1 (List.mem_of_getElem? hik)
          simp only [hne, decide_false, cond_false]
          exact e10 i k x hik hix
    · have hdq : dom q = true := (e9 q).2 (List.mem_of_getElem? h1)
      have hj : j < es.length := (List.getElem?_eq_some_iff.1 h2).1
      have hnpos : 0 < n := by omega
      refine fin (.map (es.toArray.eraseIdxIfInBounds j) clock) ?_ ?_
      · simp only [Builtin.delete_, hts, List.getElem?_toArray, List.getElem?_cons_zero, List.getElem?_cons_succ, Sem.run_bind, run_underlying hu, Result.andThen_ok, MapKept.run_getObj_map e2, run_checkKey hku (isKey_int q), run_findKey hku h3, MapKept.run_setObj_map _ e2, Sem.run_pure]
      · have hqj : ∀ (i : Nat) (k : Int), ks[i]? = some k → k = q → i = j := by
          rintro i k hik rfl
          have h1' := (List.getElem?_eq_some_iff.1 h1)
          have hik' := (List.getElem?_eq_some_iff.1 hik)
          exact (List.getElem_inj (h₀ := hik'.1) (h₁ := h1'.1) e3).1 (hik'.2.trans h1'.2.symm)
        have hidx : ∀ (i : Nat) (k : Int) (x : MapEntry), (ks.eraseIdx j)[i]? = some k → (es.eraseIdx j)[i]? = some x → ∃ i', i' ≠ j ∧ ks[i']? = some k ∧ es[i']? = some x := by
          intro i k x hik hix
          rw [List.getElem?_eraseIdx] at hik hix
          by_cases hi : i < j
          · rw [if_pos hi] at hik hix; exact ⟨i, by omega, hik, hix⟩
          · rw [if_neg hi] at hik hix; exact ⟨i + 1, by omega, hik, hix⟩
        refine ⟨b, es.eraseIdx j, clock, ks.eraseIdx j, e1, by simp [hlt, hj, Array.eraseIdxIfInBounds], nodup_erase e3 j, by simp [hdq, List.length_eraseIdx, e4]; omega, by simp [hdq, List.length_eraseIdx, e5]; omega, ?_, ?_, ?_, ?_, ?_, ?_⟩
        · intro i k x hik hix
          obtain ⟨i', _, p1, p2⟩ := hidx i k x hik hix
          exact e6 i' k x p1 p2
        · intro x hx'; exact e7 x (List.mem_of_mem_eraseIdx hx')
        · rw [show (es.eraseIdx j).map (·.born) = (es.map (·.born)).eraseIdx j from by
            apply List.ext_getElem?
            intro i
            simp only [List.getElem?_map, List.getElem?_eraseIdx]
            split <;> rfl]
          exact nodup_erase e8 j
        · intro k
          simp only [Bool.and_eq_true, Bool.not_eq_true', decide_eq_false_iff_not, e9 k]
          rw [List.mem_eraseIdx_iff_getElem?]
          constructor
          · rintro ⟨p1, p2⟩
            obtain ⟨i, hi⟩ := List.getElem?_of_mem p2
            refine ⟨i, ?_, hi⟩
            rintro rfl
            rw [h1] at hi; cases hi; exact p1 rfl
          · rintro ⟨i, p1, p2⟩
            exact ⟨fun hkq => p1 (hqj i k p2 hkq), List.mem_of_getElem? p2⟩
        · intro k hkf
          by_cases hk : k = q
          · subst hk; simp only [decide_true, cond_true]; exact Rel.zeroA hEy h ρ0
          · simp only [hk, decide_false, Bool.not_false, Bool.true_and] at hkf
            simp only [hk, decide_false, cond_false]; exact ez k hkf
        · intro i k x hik hix
          obtain ⟨i', p0, p1, p2⟩ := hidx i k x hik hix
          have hne : k ≠ q := fun hkq => p0 (hqj i' k p1 hkq)
          simp only [hne, decide_false, cond_false]
          exact e10 i' k x p1 p2
end
end Go.Av
