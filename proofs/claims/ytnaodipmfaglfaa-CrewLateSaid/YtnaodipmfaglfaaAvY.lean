/- The evaluator is right: slices of slices that are all owned. -/
import Derived.Test.YtnaodipmfaglfaaAvL
import Derived.Deep.AppendSrc
import Derived.Laws.CopyRow
import Derived.Laws.IdiomCopy
set_option linter.all false
namespace Go.Av
section
variable {P : Program} {N : Nat} {C : Ctx} {h : Hp} {ρ : Rho} {F : Fr} {M : Mm} {g : Nat} {a : Act} {w : World} {Γ : Tys} {mg : Mm} {o : Oper}
theorem ownsRow_store {ty sz n b cap : Nat} {xs : List Value} (H : w.ownsRow 0 ty sz (.slice (some ⟨b, 0, none⟩) n cap) n xs) (off : Nat) (ys : List Value) (hfit : off + ys.length ≤ n * sz) :
    ∃ cur : Array Value, w.heap[b]? = some (.cells cur ty (0, 0)) ∧ off + ys.length ≤ cur.size ∧
      (w.setRow b (cur.toList.take off ++ ys ++ cur.toList.drop (off + ys.length)).toArray).ownsRow 0 ty sz (.slice (some ⟨b, 0, none⟩) n cap) n (xs.take off ++ ys ++ xs.drop (off + ys.length)) := by
  obtain ⟨q1, q2⟩ := H
  rcases q2 with ⟨q2, _⟩ | ⟨b', cap', cur, q2, _, q3, q4, q5, q6, q7⟩
  · cases q2
  cases q2
  have hcapsz : n * sz ≤ cap * sz := Nat.mul_le_mul_right _ q4
  have hfit2 : off + ys.length ≤ cur.toList.length := by simp [q6]; omega
  refine ⟨cur, q3, by simpa using hfit2, ?_, .inr ⟨b, cap, _, rfl, Nat.zero_le _, setRow_heap w b _ _ ty _ q3, q4, q5, ?_, ?_⟩⟩
  · rw [seg_len _ _ _ (by omega)]; exact q1
  · have := seg_len cur.toList ys off hfit2
    simp only [List.size_toArray]
    rw [this]; simpa using q6
  · apply List.ext_getElem?
    intro k
    rw [List.getElem?_take, seg_get _ _ _ hfit2, seg_get xs ys off (by omega)]
    by_cases hk : k < n * sz
    · have : xs[k]? = cur.toList[k]? := by rw [← q7, List.getElem?_take, if_pos hk]
      rw [if_pos hk, this]
    · have : xs[k]? = none := by simp; omega
      rw [if_neg hk, if_neg (by omega), this]
theorem InvH.turnGrid (I : InvH N C h ρ F M g a w) {id : Nat} {li : LI} {w' : World} (hb : ρ id = some li) (x : Blk) (hos : w'.os = w.os) (htape : w'.tape = w.tape) (hout : w'.output = w.output) (hsz : w'.heap.size = w.heap.size)
    (hk : ∀ k, ¬ li.owns k → w'.heap[k]? = w.heap[k]?) (hx : BlkOk h ρ id x w') : InvH N C h ρ F (upd M id (some x)) g a w' := by
  refine I.step (S := fun i => i = id) hos htape hout (by omega) (fun k _ hne => hk k (fun e => hne id _ rfl hb e)) (fun _ _ => rfl) (hle_refl ρ) (fun _ _ h => h) (fun _ _ h => .inl h)
    (fun i hi => upd_other _ _ hi) ?_ ?_ ?_ ?_
  · rintro i rfl hM; rw [upd_same] at hM; cases hM
  · rintro i y rfl hM; rw [upd_same] at hM; cases hM; exact hx
  · rintro i l c rfl h1 h2; exact .inl ⟨i, l, rfl, h1, h2⟩
  · rintro i i' l l' c rfl rfl _ _ _ _; rfl
theorem ev_indexAddr_gb (hΓ : TysOk P Γ) (I : InvH N C h ρ F M g a w) {t : TypeId} {p i : Operand} (ho : o.op = .indexAddr t p i) {T : TyD} (hT : tyOf Γ t = some T) {e : TypeId} (hd : T.d = .slice e)
    {E : TyD} (hE : tyOf Γ e = some E) {id n : Nat} (hx : Rel h ρ (.gb id n) (a.eval p)) {tS ty sz n' : Nat} {m : Nat → Nat} {el : Nat → Nat → List AV} (hm : M id = some (.grid tS ty sz n' m el)) (hsz : 1 = E.size) {q : Int} (hi : Rel h ρ (.int .i64 q) (a.eval i)) (hq : n = n' ∧ 0 ≤ q ∧ q < (n' : Int)) :
    Good P N C h ρ F M g a o w ⟨.gp id q.toNat, [id], [], some (n = n' ∧ 0 ≤ q ∧ q < (n' : Int)), none⟩ := by
  obtain ⟨rfl, hq⟩ := hq
  have hu := (hΓ t T hT).und_slice hd
  obtain ⟨v0, rows, e1, e2, e3, _⟩ := I.blk id _ hm
  generalize hp : a.eval p = pv at hx
  generalize hj : a.eval i = iv at hi
  cases hi
  cases hx with
  | gb _ _ _ sz2 rows' v hb hn h1 =>
    rw [e1] at hb; cases hb
    rcases e3.2 with ⟨_, h0⟩ | ⟨b, cap, cur, rfl, _, q3, q4, q5, q6, q7⟩
    · omega
    refine Good.same I (x := .pointer (some ⟨b, q.toNat, none⟩)) (.inl ?_) rfl (.gp _ _ _ _ _ _ _ _ e1)
    unfold execOp
    simp only [ho, hp, hj, Instr.indexAt, asIntOf, Sem.run_bind, run_underlying hu, Result.andThen_ok, Sem.run_pure]
    rw [if_pos hq]
    simp only [Sem.run_bind, (hΓ _ E hE).runSize w, Result.andThen_ok, Sem.run_pure, Addr.add_lit, Nat.zero_add, ← hsz, Nat.mul_one]
theorem ev_indexAddr_gr (hΓ : TysOk P Γ) (I : InvH N C h ρ F M g a w) {t : TypeId} {p i : Operand} (ho : o.op = .indexAddr t p i) {T : TyD} (hT : tyOf Γ t = some T) {e : TypeId} (hd : T.d = .slice e)
    {E : TyD} (hE : tyOf Γ e = some E) {id i0 k : Nat} (hx : Rel h ρ (.gr' id i0 k) (a.eval p)) {tS ty sz n' : Nat} {m : Nat → Nat} {el : Nat → Nat → List AV} (hm : M id = some (.grid tS ty sz n' m el)) (hsz : sz = E.size) {q : Int} (hi : Rel h ρ (.int .i64 q) (a.eval i)) (hq : k = m i0 ∧ i0 < n' ∧ 0 ≤ q ∧ q < (m i0 : Int)) :
    Good P N C h ρ F M g a o w ⟨.ge id i0 k q.toNat 0, [id], [], some (k = m i0 ∧ i0 < n' ∧ 0 ≤ q ∧ q < (m i0 : Int)), none⟩ := by
  subst hsz
  obtain ⟨rfl, hin, hq⟩ := hq
  have hu := (hΓ t T hT).und_slice hd
  obtain ⟨v0, rows, e1, e2, e3, e4, _⟩ := I.blk id _ hm
  generalize hp : a.eval p = pv at hx
  generalize hj : a.eval i = iv at hi
  cases hi
  cases hx with
  | gr' _ _ _ _ m' sz2 gv v v' rows' hb hi' hle h1 he =>
    rw [e1] at hb; cases hb
    obtain ⟨q0, _, xs, q2, _⟩ := e4 i0 _ hi'
    simp only at q0 q2
    subst q0
    obtain rfl := he rfl
    rcases q2.2 with ⟨_, h0⟩ | ⟨b, cap, cur, rfl, _, q3, q4, q5, q6, q7⟩
    · omega
    refine Good.same I (x := .pointer (some ⟨b, q.toNat * E.size, none⟩)) (.inl ?_) rfl (.ge _ _ _ _ _ _ _ _ _ _ _ _ e1 hi' (Nat.le_refl _) ⟨_, rfl⟩ (fun _ => ⟨b, cap, rfl, rfl⟩))
    unfold execOp
    simp only [ho, hp, hj, Instr.indexAt, asIntOf, Sem.run_bind, run_underlying hu, Result.andThen_ok, Sem.run_pure]
    rw [if_pos hq]
    simp only [Sem.run_bind, (hΓ _ E hE).runSize w, Result.andThen_ok, Sem.run_pure, Addr.add_lit, Nat.zero_add]
theorem ev_store_ge (hΓ : TysOk P Γ) (I : InvH N C h ρ F M g a w) {t : TypeId} {p x : Operand} (ho : o.op = .store t p x) {T : TyD} (hT : tyOf Γ t = some T) {v : AV} (hv : Rel h ρ v (a.eval x)) {xs : List AV} (hx : cellsV v = some xs)
    (hl : xs.length = T.size) (hcl : viewC xs = true) {id i k j off : Nat} (hp : Rel h ρ (.ge id i k j off) (a.eval p)) {tS ty sz n : Nat} {m : Nat → Nat} {e : Nat → Nat → List AV} {es : List AV} (hm : M id = some (.grid tS ty sz n m e)) (hlay0 : layE off xs sz (e i j) = some es) (hne : xs ≠ [])
    (hn : k = m i ∧ i < n ∧ j < m i) : Good P N C h ρ F M g a o w ⟨.any, [id], [(id, .grid tS ty sz n m (fun a b => if a = i ∧ b = j then es else e a b))], some (k = m i ∧ i < n ∧ j < m i), none⟩ := by
  obtain ⟨rfl, hin, hj⟩ := hn
  obtain ⟨ys, h1, h2, h3⟩ := cellsV_sound hx hv
  obtain ⟨v0, rows, e1, e2, e3, e4, e5, e6⟩ := I.blk id _ hm
  generalize hp' : a.eval p = pv at hp
  cases hp with
  | ge _ _ _ _ _ _ m' sz2 gv v v' rows' hb hi hle _ he =>
    rw [e1] at hb; cases hb
    obtain ⟨q0, q1, us, q2, q3, q4, q5⟩ := e4 i _ hi
    simp only at q0 q1 q2
    subst q0
    obtain ⟨b, cap, rfl, rfl⟩ := he rfl
    have hlay := layE_layN hlay0 (q3 j hj)
    obtain ⟨l1, l2, l3⟩ := layN_get hlay
    rw [if_neg hne, q3 j hj] at l2
    have hrow : j * sz + sz ≤ m i * sz := by
      calc j * sz + sz = (j + 1) * sz := by rw [Nat.add_mul, Nat.one_mul]
        _ ≤ m i * sz := Nat.mul_le_mul_right _ hj
    have hys : ys.length = xs.length := h2.1
    have hfit : j * sz + off + ys.length ≤ m i * sz := by omega
    obtain ⟨cur, c1, c2, c3⟩ := ownsRow_store q2 (j * sz + off) ys hfit
    have hrun := run_storeVar (w := w) (hΓ t T hT) h1 (by rw [h2.1, hl]) h3 (off := j * sz + off) c1 c2
    have hus : us.length = m i * sz := q2.1
    refine ⟨undef, w.setRow b (cur.toList.take (j * sz + off) ++ ys ++ cur.toList.drop (j * sz + off + ys.length)).toArray, h, ρ, .inr ⟨?_, rfl⟩, I.turnGrid e1 _ rfl rfl rfl (by simp) (fun k hk => setRow_other w b k _ (fun ee => hk (.inr ⟨_, List.mem_of_getElem? hi, by simp [Value.ownBlock, ee]⟩))) ?_, .any _ _⟩
    · unfold execOp
      simp only [ho, Instr.storeAt, hp', Instr.sureAddr, Sem.run_bind, Sem.run_pure, Result.andThen_ok, hrun]
    · refine ⟨v0, rows, e1, e2, ownsRow_same e3 (fun b' hb' => setRow_other w b b' _ (fun ee => e6 i _ b hi (by simp [Value.ownBlock]) (by rw [hb', ee]))), fun i' x' hx' => ?_, e5, e6⟩
      obtain ⟨r0, r1, xs', r2, r3, r4, r5⟩ := e4 i' x' hx'
      by_cases hii : i' = i
      · subst hii
        rw [hi] at hx'; cases hx'
        refine ⟨rfl, r1, _, c3, fun jj hjj => ?_, fun u hu => ?_, fun jj kk c u hjj hc hu => ?_⟩
        · by_cases hjk : jj = j
          · subst hjk; simp only [and_self, if_true]; rw [l1, q3 jj hjj]
          · simp only [hjk, and_false, if_false]; exact q3 jj hjj
        · rw [List.mem_append, List.mem_append] at hu
          rcases hu with (hu | hu) | hu
          · exact q4 u (List.mem_of_mem_take hu)
          · exact h3 u hu
          · exact q4 u (List.mem_of_mem_drop hu)
        · rw [seg_get _ _ _ (by omega)] at hu
          by_cases hjk : jj = j
          · subst hjk
            simp only [and_self, if_true] at hc
            rw [l3 kk] at hc
            by_cases hkk : off ≤ kk ∧ kk < off + xs.length
            · rw [if_pos hkk] at hc
              rw [if_pos (by omega), show jj * sz + kk - (jj * sz + off) = kk - off by omega] at hu
              exact (h2.2 _ c u hc hu).of_cl (clL_get (viewC_get hcl) hc)
            · rw [if_neg hkk] at hc
              rw [if_neg (by omega)] at hu
              exact q5 jj kk c u hjj hc hu
          · simp only [hjk, and_false, if_false] at hc
            have hkk : kk < sz := by rw [← q3 jj hjj]; exact (List.getElem?_eq_some_iff.1 hc).1
            have hout : ¬ (j * sz + off ≤ jj * sz + kk ∧ jj * sz + kk < j * sz + off + ys.length) := by
              rintro ⟨p1, p2⟩
              rcases Nat.lt_or_gt_of_ne hjk with hlt | hgt
              · have : jj * sz + sz ≤ j * sz := by
                  calc jj * sz + sz = (jj + 1) * sz := by rw [Nat.add_mul, Nat.one_mul]
                    _ ≤ j * sz := Nat.mul_le_mul_right _ hlt
                omega
              · have : j * sz + sz ≤ jj * sz := by
                  calc j * sz + sz = (j + 1) * sz := by rw [Nat.add_mul, Nat.one_mul]
                    _ ≤ jj * sz := Nat.mul_le_mul_right _ hgt
                omega
            rw [if_neg hout] at hu
            exact q5 jj kk c u hjj hc hu
      · refine ⟨r0, r1, xs', ownsRow_same r2 (fun b' hb' => setRow_other w b b' _ (fun ee => hii (e5 i' i _ _ b' hx' hi hb' (by simp [Value.ownBlock, ee])))), fun jj hjj => ?_, r4, fun jj kk c u hjj hc hu => ?_⟩
        · simp only [hii, false_and, if_false]; exact r3 jj hjj
        · simp only [hii, false_and, if_false] at hc; exact r5 jj kk c u hjj hc hu
theorem ev_store_gp (hΓ : TysOk P Γ) (I : InvH N C h ρ F M g a w) {t : TypeId} {p x : Operand} (ho : o.op = .store t p x) {T : TyD} (hT : tyOf Γ t = some T) (hl : 1 = T.size) {id2 k : Nat} (hv : Rel h ρ (.buf id2 k) (a.eval x))
    {id i : Nat} (hp : Rel h ρ (.gp id i) (a.eval p)) {tS ty sz n : Nat} {m : Nat → Nat} {e : Nat → Nat → List AV} (hm : M id = some (.grid tS ty sz n m e)) {k2 : Nat} {e2 : Nat → List AV} (hm2 : M id2 = some (.buf ty sz k2 e2)) (hne : id ≠ id2)
    (hn : i < n ∧ k = k2 ∧ m i < k2) : Good P N C h ρ F M g a o w ⟨.any, [id, id2], [(id, .grid tS ty sz n (fun a => if a = i then k2 else m a) (fun a => if a = i then e2 else e a)), (id2, .dead)], some (i < n ∧ k = k2 ∧ m i < k2), none⟩ := by
  obtain ⟨hin, rfl, hlt⟩ := hn
  obtain ⟨v0, rows, e1, e0, e3, e4, e5, e6⟩ := I.blk id _ hm
  obtain ⟨v2, us, f1, f2, f3, f5, f4⟩ := I.blk id2 _ hm2
  have hx : a.eval x = v2 ∧ (a.eval x).oneCell' = true := by
    generalize a.eval x = z at hv
    cases hv with
    | buf _ _ _ n2 sz2 v v' hb hle h1 he => rw [f1] at hb; cases hb; exact ⟨he rfl, h1⟩
  obtain ⟨hx1, hx2⟩ := hx
  rw [hx1] at hx2
  have hcells : v2.cells = #[v2] := by cases v2 <;> first | rfl | (simp [Value.oneCell'] at hx2)
  generalize hp' : a.eval p = pv at hp
  cases hp with
  | gp _ _ _ b n' cap sz2 rows' hb =>
    rw [e1] at hb; cases hb
    have hn' : n' = n := by
      rcases e3.2 with ⟨q, _⟩ | ⟨_, _, _, q, _⟩
      · cases q
      · cases q; rfl
    subst hn'
    have hil : i < rows.length := by omega
    obtain ⟨cur, c1, c2, c3⟩ := ownsRow_store e3 i [v2] (by simp; omega)
    have hrun := run_storeVar (w := w) (hΓ t T hT) (x := v2) (vs := [v2]) hcells (by simpa using hl) (by simpa using hx2) (off := i) c1 c2
    obtain ⟨ρ', hρ'⟩ : ∃ ρ', upd (upd ρ id (some (.grid (.slice (some ⟨b, 0, none⟩) n' cap) sz (rows.set i (k, v2))))) id2 (some (.sl (k + 1) sz (.slice none 0 0))) = ρ' := ⟨_, rfl⟩
    have r1 : ρ' id = some (.grid (.slice (some ⟨b, 0, none⟩) n' cap) sz (rows.set i (k, v2))) := by rw [← hρ', upd_other _ _ hne, upd_same]
    have r2 : ρ' id2 = some (.sl (k + 1) sz (.slice none 0 0)) := by rw [← hρ', upd_same]
    have r3 : ∀ j, ¬ (j = id ∨ j = id2) → ρ' j = ρ j := fun j hj => by rw [← hρ', upd_other _ _ (fun e => hj (.inr e)), upd_other _ _ (fun e => hj (.inl e))]
    have hrows : ∀ j (y : Nat × Value), (rows.set i (k, v2))[j]? = some y → (j = i ∧ y = (k, v2)) ∨ (j ≠ i ∧ rows[j]? = some y) := by
      intro j y hy
      by_cases hji : j = i
      · subst hji
        rw [List.getElem?_set_self hil] at hy; cases hy
        exact .inl ⟨rfl, rfl⟩
      · rw [List.getElem?_set_ne (Ne.symm hji)] at hy
        exact .inr ⟨hji, hy⟩
    have hown2 : ∀ bb, v2.ownBlock = some bb → ∀ li, ρ id = some li → ¬ li.owns bb := fun bb hbb li hli ho' => hne (I.inj id id2 li _ bb hli f1 ho' hbb)
    have hblk : ∀ bb, v2.ownBlock = some bb → bb ≠ b := fun bb hbb ee => hown2 bb hbb _ e1 (.inl (by simp [Value.ownBlock, ee]))
    refine ⟨undef, w.setRow b (cur.toList.take i ++ [v2] ++ cur.toList.drop (i + 1)).toArray, h, ρ', .inr ⟨?_, rfl⟩, I.step (S := fun j => j = id ∨ j = id2) (w' := w.setRow b (cur.toList.take i ++ [v2] ++ cur.toList.drop (i + 1)).toArray) rfl rfl rfl (by simp)
      (fun kk _ hk => setRow_other w b kk _ (fun ee => hk id _ (.inl rfl) e1 (.inl (by simp [Value.ownBlock, ee])))) r3 ?_ (fun _ _ h => h) (fun _ _ h => .inl h) ?_ ?_ ?_ ?_ ?_, .any _ _⟩
    · unfold execOp
      simp only [List.length_singleton] at hrun
      simp only [ho, Instr.storeAt, hp', hx1, Instr.sureAddr, Sem.run_bind, Sem.run_pure, Result.andThen_ok, hrun]
    · intro j li hj
      by_cases hj1 : j = id
      · subst hj1
        rw [e1] at hj; cases hj
        refine ⟨_, r1, .inr (.inr ⟨_, _, _, _, rfl, rfl, by simp, fun ii mm x hh => ?_⟩)⟩
        by_cases hii : ii = i
        · subst hii
          right
          refine ⟨k, v2, List.getElem?_set_self hil, ?_⟩
          have := (e4 ii _ hh).1
          simp only at this
          omega
        · left; rw [List.getElem?_set_ne (Ne.symm hii)]; exact hh
      · by_cases hj2 : j = id2
        · subst hj2
          rw [f1] at hj; cases hj
          exact ⟨_, r2, .inr (.inl ⟨_, _, _, _, _, rfl, rfl, Nat.lt_succ_self _⟩)⟩
        · exact ⟨li, by rw [r3 j (by simp [hj1, hj2])]; exact hj, .inl rfl⟩
    · intro j hj
      simp only [not_or] at hj
      show updL M _ j = M j
      simp only [updL]
      rw [upd_other _ _ hj.2, upd_other _ _ hj.1]
    · rintro j (rfl | rfl) hM
      · simp only [updL] at hM; rw [upd_other _ _ hne, upd_same] at hM; cases hM
      · simp only [updL] at hM; rw [upd_same] at hM; cases hM
    · rintro j y (rfl | rfl) hM
      · simp only [updL] at hM; rw [upd_other _ _ hne, upd_same] at hM; cases hM
        refine ⟨_, _, r1, by simpa using e0, ?_, fun ii y hy => ?_, fun ii ii' y y' bb hy hy' hb1 hb2 => ?_, fun ii y bb hy hb1 hb2 => ?_⟩
        · have : (rows.set i (k, v2)).map (·.2) = (rows.map (·.2)).take i ++ [v2] ++ (rows.map (·.2)).drop (i + 1) := by
            apply List.ext_getElem?
            intro q
            have hs := seg_get (rows.map (·.2)) [v2] i (by simp; omega) q
            simp only [List.length_singleton] at hs
            rw [hs, List.getElem?_map]
            by_cases hq : q = i
            · subst hq
              rw [List.getElem?_set_self hil, if_pos (by omega)]; simp
            · rw [List.getElem?_set_ne (Ne.symm hq), if_neg (by omega), List.getElem?_map]
          rw [this]
          simpa using c3
        · rcases hrows ii y hy with ⟨rfl, rfl⟩ | ⟨hii, hy'⟩
          · refine ⟨by simp, hx2, us, ?_, fun jj hjj => ?_, f5, fun jj kk c u hjj hc hu => ?_⟩
            · exact ownsRow_same f2 (fun bb hbb => setRow_other w b bb _ (hblk bb hbb))
            · simp only [if_true] at hjj ⊢; exact f3 jj hjj
            · simp only [if_true] at hjj hc; exact f4 jj kk c u hjj hc hu
          · obtain ⟨g0, g1, xs, g2, g3, g4, g5⟩ := e4 ii y hy'
            refine ⟨by simp [hii, g0], g1, xs, ownsRow_same g2 (fun bb hbb => setRow_other w b bb _ (fun ee => e6 ii y bb hy' hbb (by simp [Value.ownBlock, ee]))), fun jj hjj => ?_, g4, fun jj kk c u hjj hc hu => ?_⟩
            · simp only [hii, if_false] at hjj ⊢; exact g3 jj hjj
            · simp only [hii, if_false] at hjj hc; exact g5 jj kk c u hjj hc hu
        · rcases hrows ii y hy with ⟨rfl, rfl⟩ | ⟨hii, hy2⟩
          · rcases hrows ii' y' hy' with ⟨rfl, rfl⟩ | ⟨hii', hy2'⟩
            · rfl
            · exact absurd (.inr ⟨y', List.mem_of_getElem? hy2', hb2⟩) (hown2 bb hb1 _ e1)
          · rcases hrows ii' y' hy' with ⟨rfl, rfl⟩ | ⟨hii', hy2'⟩
            · exact absurd (.inr ⟨y, List.mem_of_getElem? hy2, hb1⟩) (hown2 bb hb2 _ e1)
            · exact e5 ii ii' y y' bb hy2 hy2' hb1 hb2
        · rcases hrows ii y hy with ⟨rfl, rfl⟩ | ⟨hii, hy2⟩
          · simp [Value.ownBlock] at hb2
            exact hblk bb hb1 hb2.symm
          · exact e6 ii y bb hy2 hb1 hb2
      · simp only [updL] at hM; rw [upd_same] at hM; cases hM
        exact ⟨_, _, r2⟩
    · rintro j li bb (rfl | rfl) hr hb1
      · rw [r1] at hr; cases hr
        rcases hb1 with hb1 | ⟨y, hy, hb1⟩
        · exact .inl ⟨j, _, .inl rfl, e1, .inl hb1⟩
        · obtain ⟨ii, hii⟩ := List.getElem?_of_mem hy
          rcases hrows ii y hii with ⟨rfl, rfl⟩ | ⟨_, hy2⟩
          · exact .inl ⟨id2, _, .inr rfl, f1, hb1⟩
          · exact .inl ⟨j, _, .inl rfl, e1, .inr ⟨y, List.mem_of_getElem? hy2, hb1⟩⟩
      · rw [r2] at hr; cases hr
        simp [LI.owns, Value.ownBlock] at hb1
    · rintro j j' li li' bb (rfl | rfl) (rfl | rfl) hr hr' hb1 hb2
      · rfl
      · rw [r2] at hr'; cases hr'; simp [LI.owns, Value.ownBlock] at hb2
      · rw [r2] at hr; cases hr; simp [LI.owns, Value.ownBlock] at hb1
      · rfl
theorem ev_makeGrid (hΓ : TysOk P Γ) (I : InvH N C h ρ F M g a w) {t : TypeId} {l c : Operand} (ho : o.op = .makeSlice t l c) {T : TyD} (hT : tyOf Γ t = some T) {e : TypeId} (hd : T.d = .slice e)
    {E : TyD} (hE : tyOf Γ e = some E) (hz : E.zero = [.slice none 0 0]) (h1 : E.size = 1) (ty sz : Nat) {n m : Int} (hl : Rel h ρ (.int .i64 n) (a.eval l)) (hc : Rel h ρ (.int .i64 m) (a.eval c)) {d : Nat} (hdn : M d = none) (hq : 0 ≤ n ∧ n ≤ m ∧ room m.toNat E.bytes) (hmax : m.toNat ≤ maxLen) :
    Good P N C h ρ F M g a o w ⟨.gb d n.toNat, [d], [(d, .grid e ty sz n.toNat (fun _ => 0) (fun _ _ => []))], some (0 ≤ n ∧ n ≤ m ∧ room m.toNat E.bytes), none⟩ := by
  obtain ⟨hq1, hq2, hq3, hq4⟩ := hq
  have hEy := hΓ e E hE
  obtain ⟨i, i1, i2, i3, i4⟩ := hEy.info
  have hu := (hΓ t T hT).und_slice hd
  generalize hl' : a.eval l = lv at hl
  generalize hc' : a.eval c = cv at hc
  cases hl; cases hc
  have hrun := run_make (P := P) w t e i E.zeroV hu i1 i4 .i64 .i64 n m hq1 hq2 (by
    rw [i3]
    obtain ⟨mm, rfl⟩ := Int.eq_ofNat_of_zero_le (show 0 ≤ m by omega)
    rw [Int.toNat_natCast] at hq3
    rw [← Int.natCast_mul, Nat.mul_comm]
    generalize mm * E.bytes = k at hq3 ⊢
    omega) (by omega)
  rw [zeroV_cells hEy, i2, hz, h1, Nat.mul_one] at hrun
  have hle : n.toNat ≤ m.toNat := by omega
  have hmade : (madeCells ([Value.slice none 0 0] : List Value).toArray m.toNat).toList.take n.toNat = List.replicate n.toNat (Value.slice none 0 0) := by
    apply List.ext_getElem?
    intro k
    rw [List.getElem?_take, List.getElem?_replicate]
    by_cases hk : k < n.toNat
    · simp [hk, madeCells, show k < m.toNat by omega, Nat.mod_one]
    · simp [hk]
  have hrepl : ∀ (ii : Nat) (x : Nat × Value), (List.replicate n.toNat ((0, .slice none 0 0) : Nat × Value))[ii]? = some x → x = (0, .slice none 0 0) := fun ii x hx => by
    rw [List.getElem?_replicate] at hx
    split at hx
    · cases hx; rfl
    · cases hx
  have hrep1 : ∀ (ii : Nat) (x : Nat × Value), (List.replicate n.toNat ((0, .slice none 0 0) : Nat × Value))[ii]? = some x → x.1 = 0 ∧ x.2.oneCell' = true ∧ ∃ xs : List Value, (w.alloc (.cells (madeCells ([Value.slice none 0 0] : List Value).toArray m.toNat) e)).ownsRow 0 ty sz x.2 x.1 xs ∧ (∀ j, j < 0 → ([] : List AV).length = sz) ∧ (∀ y, y ∈ xs → y.oneCell' = true) ∧
      ∀ (j k : Nat) (c : AV) (y : Value), j < 0 → ([] : List AV)[k]? = some c → xs[j * sz + k]? = some y → Rel h ρ0 c y := fun ii x hx => by
    rw [hrepl ii x hx]
    exact ⟨rfl, rfl, [], ⟨by simp, .inl ⟨rfl, rfl⟩⟩, fun j hj => absurd hj (Nat.not_lt_zero _), fun y hy => (by cases hy), fun j k c y hj => absurd hj (Nat.not_lt_zero _)⟩
  have hrep2 : ∀ (i i' : Nat) (x x' : Nat × Value) (b : Nat), (List.replicate n.toNat ((0, .slice none 0 0) : Nat × Value))[i]? = some x → (List.replicate n.toNat ((0, .slice none 0 0) : Nat × Value))[i']? = some x' → x.2.ownBlock = some b → x'.2.ownBlock = some b → i = i' := fun ii _ x _ b hx _ hb => by
    rw [hrepl ii x hx] at hb; simp [Value.ownBlock] at hb
  have hrep3 : ∀ (i : Nat) (x : Nat × Value) (b : Nat), (List.replicate n.toNat ((0, .slice none 0 0) : Nat × Value))[i]? = some x → x.2.ownBlock = some b → (Value.slice (some ⟨w.heap.size, 0, none⟩) n.toNat m.toNat).ownBlock ≠ some b := fun ii x b hx hb => by
    rw [hrepl ii x hx] at hb; simp [Value.ownBlock] at hb
  have I' := I.allocOwn hdn (.cells (madeCells ([Value.slice none 0 0] : List Value).toArray m.toNat) e) (.grid (.slice (some ⟨w.heap.size, 0, none⟩) n.toNat m.toNat) sz (List.replicate n.toNat (0, .slice none 0 0))) (.grid e ty sz n.toNat (fun _ => 0) (fun _ _ => []))
    (fun b hb => by
      rcases hb with hb | ⟨r, hr, hb⟩
      · exact (Option.some.inj hb).symm
      · rw [List.mem_replicate] at hr; rw [hr.2] at hb; simp [Value.ownBlock] at hb)
    (⟨_, _, upd_same _ _ _, by simp, ⟨by simp, .inr ⟨w.heap.size, m.toNat, _, rfl, Nat.zero_le _, heap_alloc_new w _, hle, hmax, by rw [size_madeCells, Nat.mul_one], by
        simp only [Nat.mul_one]
        rw [hmade]
        simp⟩⟩, hrep1, hrep2, hrep3⟩)
  refine ⟨.slice (some ⟨w.heap.size, 0, none⟩) n.toNat m.toNat, _, _, _, .inl ?_, I', .gb _ _ _ _ _ _ (upd_same _ _ _) (by simp) rfl⟩
  unfold execOp
  simp only [ho, hl', hc', Sem.run_bind, hrun, Result.andThen_ok, Sem.run_pure]
theorem ownsRow_slice {ty sz n : Nat} {v : Value} {xs : List Value} (H : w.ownsRow 0 ty sz v n xs) : ∃ ad cap, v = .slice ad n cap ∧ n ≤ cap ∧ (0 < n → ∃ g, ad = some ⟨g, 0, none⟩) := by
  rcases H.2 with ⟨rfl, rfl⟩ | ⟨g, cap, cur, rfl, _, _, h, _⟩
  · exact ⟨none, 0, rfl, Nat.le_refl _, fun h => absurd h (Nat.lt_irrefl _)⟩
  · exact ⟨_, cap, rfl, h, fun _ => ⟨g, rfl⟩⟩
theorem ev_sliceB (hΓ : TysOk P Γ) (I : InvH N C h ρ F M g a w) {t : TypeId} {x : Operand} {lo hi mx : Option Operand} (ho : o.op = .slice t x lo hi mx) {val : Operand → AV} (hv : ∀ y, y ∈ o.op.operands → Rel h ρ (val y) (a.eval y)) {id n : Nat} (hvx : val x = .buf id n) {r : R}
    (hr : evSliceB Γ mg t id n (optV val lo) (optV val hi) (optV val mx) = some r) (hm : ∀ id, id ∈ r.rd → M id = mg id) (hc : ∀ q, r.cs = some q → q) : Good P N C h ρ F M g a o w r := by
  unfold evSliceB at hr
  cases hT : tyOf Γ t with
  | none => simp [hT] at hr
  | some T =>
  simp only [hT] at hr
  cases hd : T.d <;> simp only [hd] at hr <;> (try (cases hr; done))
  rename_i e
  cases hE : tyOf Γ e with
  | none => simp [hE] at hr
  | some E =>
  simp only [hE] at hr
  have hu := (hΓ t T hT).und_slice hd
  have hEy := hΓ e E hE
  have hx : Rel h ρ (.buf id n) (a.eval x) := hvx ▸ hv x (by rw [ho]; cases lo <;> cases hi <;> cases mx <;> simp [Op.operands])
  have hlo : ∀ y, lo = some y → Rel h ρ (val y) (a.eval y) := fun y hy => hv y (by rw [ho, hy]; cases hi <;> cases mx <;> simp [Op.operands])
  have hhi : ∀ y, hi = some y → Rel h ρ (val y) (a.eval y) := fun y hy => hv y (by rw [ho, hy]; cases lo <;> cases mx <;> simp [Op.operands])
  have hmx : ∀ y, mx = some y → Rel h ρ (val y) (a.eval y) := fun y hy => hv y (by rw [ho, hy]; cases lo <;> cases hi <;> simp [Op.operands])
  have intv : ∀ {lo : Option Operand} {b : Int}, (∀ y, lo = some y → Rel h ρ (val y) (a.eval y)) → optV val lo = some (.int .i64 b) → lo.map a.eval = some (.int .i64 b) := by
    intro lo b hl ho'
    cases lo with
    | none => simp [optV] at ho'
    | some y =>
      simp only [optV, Option.some.injEq] at ho'
      have := hl y rfl
      rw [ho'] at this
      generalize hz : a.eval y = z at this
      cases this
      simp [hz]
  have nonev : ∀ {lo : Option Operand}, optV val lo = none → lo.map a.eval = none := by
    intro lo ho'
    cases lo with
    | none => rfl
    | some y => simp [optV] at ho'
  -- a part, once the bounds are known
  have fin : ∀ (ad : Option Addr) (n' cap l hh mm : Nat) (q : Option Prop) (rd : List Nat) (v : AV), a.eval x = .slice ad n' cap → (Instr.sliceBounds true n' cap (lo.map a.eval) (hi.map a.eval) (mx.map a.eval)).run P w = .ok (l, hh, mm) w →
      Rel h ρ v (.slice (if mm = l then ad else ad.map (·.add (l * E.size))) (hh - l) (mm - l)) → Good P N C h ρ F M g a o w ⟨v, rd, [], q, none⟩ := by
    intro ad n' cap l hh mm q rd v hax hrun hrel
    refine Good.same I (.inl ?_) rfl hrel
    unfold execOp
    simp only [ho, hax, Instr.sliceAt, Instr.slice, Sem.run_bind, run_underlying hu, Result.andThen_ok, hrun, hEy.runSize w, Sem.run_pure]
  have part : ∀ (gg n' cap l hh : Nat) (sz : Nat) (v0 : Value), sz = E.size → ρ id = some (.sl n' sz v0) → v0 = .slice (some ⟨gg, 0, none⟩) n' cap → Rel h ρ (.sb id n' l hh) (.slice (if cap = l then some ⟨gg, 0, none⟩ else (some (⟨gg, 0, none⟩ : Addr)).map (·.add (l * E.size))) (hh - l) (cap - l)) := by
    intro gg n' cap l hh sz v0 hsz e1 hv0
    refine .sb _ _ _ _ _ _ _ _ _ e1 (Nat.le_refl _) (by split <;> rfl) (fun _ => ⟨gg, cap, hv0, ?_⟩)
    subst hsz
    split
    · rfl
    · simp [Addr.add_lit]
  cases hg : mg id with
  | none => simp [hg] at hr
  | some bl =>
  cases bl <;> simp only [hg] at hr <;> (try (cases hr; done))
  case buf ty sz n' el =>
    cases hb : Nat.beq sz E.size with
    | false => simp [hb] at hr
    | true =>
    simp only [hb] at hr
    have hsz := Nat.eq_of_beq_eq_true hb
    have key : M id = some (.buf ty sz n' el) → n = n' → ∃ ad cap, a.eval x = .slice ad n' cap ∧ n' ≤ cap ∧ ρ id = some (.sl n' sz (.slice ad n' cap)) ∧ (0 < n' → ∃ gg, ad = some ⟨gg, 0, none⟩) := by
      rintro hM rfl
      obtain ⟨v0, us, e1, e2, _⟩ := I.blk id _ hM
      obtain ⟨ad, cap, rfl, h2, h3⟩ := ownsRow_slice e2
      refine ⟨ad, cap, ?_, h2, e1, h3⟩
      generalize a.eval x = z at hx
      cases hx with
      | buf _ _ _ _ _ _ _ hb' hle k1 he => rw [e1] at hb'; cases hb'; exact he rfl
    split at hr
    · rename_i la lb lc h1 h2 h3
      cases hr
      obtain ⟨q0, q1, q2, q3, q4⟩ := hc _ rfl
      obtain ⟨ad, cap, k1, k2, k3, k4⟩ := key ((hm id (by simp)).trans hg) q0
      refine fin ad n' cap la.toNat lb.toNat lc.toNat _ _ _ k1 ?_ (.any _ _)
      rw [intv hlo h1, intv hhi h2, intv hmx h3]
      simp only [Instr.sliceBounds, Sem.run_bind, Sem.run_pure, Result.andThen_ok, run_sliceBound (P := P) (i := lc) (y := cap) ⟨by omega, by omega⟩, run_sliceBound (P := P) (i := lb) (y := lc.toNat) ⟨by omega, by omega⟩, run_sliceBound (P := P) (i := la) (y := lb.toNat) ⟨q1, by omega⟩]
    · rename_i la lb h1 h2 h3
      cases hr
      obtain ⟨q0, q00, q1, q2, q3⟩ := hc _ rfl
      obtain ⟨ad, cap, k1, k2, k3, k4⟩ := key ((hm id (by simp)).trans hg) q0
      obtain ⟨gg, rfl⟩ := k4 q00
      refine fin _ n' cap la.toNat lb.toNat cap _ _ _ k1 ?_ (part gg n' cap _ _ sz _ hsz k3 rfl)
      rw [intv hlo h1, intv hhi h2, nonev h3]
      simp only [Instr.sliceBounds, Sem.run_bind, Sem.run_pure, Result.andThen_ok, run_sliceBound (P := P) (i := lb) (y := cap) ⟨by omega, by omega⟩, run_sliceBound (P := P) (i := la) (y := lb.toNat) ⟨q1, by omega⟩]
    · rename_i lb h1 h2 h3
      cases hr
      obtain ⟨q0, q00, q1, q2⟩ := hc _ rfl
      obtain ⟨ad, cap, k1, k2, k3, k4⟩ := key ((hm id (by simp)).trans hg) q0
      obtain ⟨gg, rfl⟩ := k4 q00
      refine fin _ n' cap 0 lb.toNat cap _ _ _ k1 ?_ (part gg n' cap _ _ sz _ hsz k3 rfl)
      rw [nonev h1, intv hhi h2, nonev h3]
      simp only [Instr.sliceBounds, Sem.run_bind, Sem.run_pure, Result.andThen_ok, run_sliceBound (P := P) (i := lb) (y := cap) ⟨by omega, by omega⟩]
    · rename_i la h1 h2 h3
      cases hr
      obtain ⟨q0, q00, q1, q2⟩ := hc _ rfl
      obtain ⟨ad, cap, k1, k2, k3, k4⟩ := key ((hm id (by simp)).trans hg) q0
      obtain ⟨gg, rfl⟩ := k4 q00
      refine fin _ n' cap la.toNat n' cap _ _ _ k1 ?_ (part gg n' cap _ _ sz _ hsz k3 rfl)
      rw [intv hlo h1, nonev h2, nonev h3]
      simp only [Instr.sliceBounds, Sem.run_bind, Sem.run_pure, Result.andThen_ok, run_sliceBound (P := P) (i := la) (y := n') ⟨by omega, by omega⟩]
    · cases hr
  case bufk ty sz n' c el =>
    cases hb : Nat.beq sz E.size with
    | false => simp [hb] at hr
    | true =>
    simp only [hb] at hr
    have hsz := Nat.eq_of_beq_eq_true hb
    split at hr
    · rename_i la lb h1 h2 h3
      cases hr
      obtain ⟨rfl, q1, q2, q3⟩ := hc _ rfl
      obtain ⟨v0, us, e1, e2, ⟨gg, cap, rfl, hcap⟩, _⟩ := I.blk id _ ((hm id (by simp)).trans hg)
      have hax : a.eval x = .slice (some ⟨gg, 0, none⟩) n cap := by
        generalize a.eval x = z at hx
        cases hx with
        | buf _ _ _ _ _ _ _ hb' hle k1 he => rw [e1] at hb'; cases hb'; exact he rfl
      refine fin _ n cap la.toNat lb.toNat cap _ _ _ hax ?_ (part gg n cap _ _ sz _ hsz e1 rfl)
      rw [intv hlo h1, intv hhi h2, nonev h3]
      simp only [Instr.sliceBounds, Sem.run_bind, Sem.run_pure, Result.andThen_ok, run_sliceBound (P := P) (i := lb) (y := cap) ⟨by omega, by omega⟩, run_sliceBound (P := P) (i := la) (y := lb.toNat) ⟨q1, by omega⟩]
    · cases hr
theorem run_append_room_row (w : World) (t tx ty e : TypeId) (i : TypeInfo) (ht : P.underlying t = some (.slice e)) (hi : P.info? e = some i) (b off sLen sCap : Nat) (x : Value) (n : Nat) (news : List Value) (hs : Src P i.size tx x n news w)
    (hroom : sLen + n ≤ sCap) {cur : Array Value} {tyr : TypeId} (hg : w.heap[b]? = some (.cells cur tyr (0, 0))) (hfit : off + sLen * i.size + news.length ≤ cur.size) :
    (Builtin.append_ #[t, tx] ty #[.slice (some ⟨b, off, none⟩) sLen sCap, x]).run P w = .ok (.slice (some ⟨b, off, none⟩) (sLen + n) sCap) (w.setRow b (cur.toList.take (off + sLen * i.size) ++ news ++ cur.toList.drop (off + sLen * i.size + news.length)).toArray) := by
  have hst := run_storeCells_at P b (off + sLen * i.size) tyr news 0 cur w hg (by simpa using hfit) hs.one
  simp only [Nat.add_zero] at hst
  rcases hs.kind with ⟨e', hk⟩ | hk <;> simp [Builtin.append_, run_underlying ht, run_underlying hk, sizeOf, typeInfo, hi, hs.len, hroom, hs.cells, Addr.add_lit, hst]
theorem ownsRow_prefix {ty sz n m g cap : Nat} {zs : List Value} (H : w.ownsRow 0 ty sz (.slice (some ⟨g, 0, none⟩) n cap) n zs) (hm : m ≤ n) : w.ownsRow 0 ty sz (.slice (some ⟨g, 0, none⟩) m cap) m (zs.take (m * sz)) := by
  obtain ⟨q1, q2⟩ := H
  have hle : m * sz ≤ n * sz := Nat.mul_le_mul_right _ hm
  rcases q2 with ⟨q2, _⟩ | ⟨g', cap', cur, q2, q0, q3, q4, q5, q6, q7⟩
  · cases q2
  cases q2
  refine ⟨by rw [List.length_take, q1]; omega, .inr ⟨g, cap, cur, rfl, q0, q3, by omega, q5, q6, ?_⟩⟩
  rw [← q7, List.take_take]
  congr 1
  omega
theorem ev_appendB (hΓ : TysOk P Γ) (I : InvH N C h ρ F M g a w) {t : TypeId} {x y : Operand} (ho : o.op = .call { callee := .builtin .append, args := #[x, y], argTypes := #[t, t] }) {id n b id2 n2 j k : Nat} (hx : Rel h ρ (.sb id n 0 b) (a.eval x)) (hy : Rel h ρ (.sb id2 n2 j k) (a.eval y)) {r : R}
    (hr : evAppendB Γ mg o t id n b id2 n2 j k = some r) (hm : ∀ id, id ∈ r.rd → M id = mg id) (hc : ∀ q, r.cs = some q → q) : Good P N C h ρ F M g a o w r := by
  unfold evAppendB at hr
  cases hT : tyOf Γ t with
  | none => simp [hT] at hr
  | some T =>
  simp only [hT] at hr
  cases hd : T.d <;> simp only [hd] at hr <;> (try (cases hr; done))
  rename_i e
  cases hE : tyOf Γ e with
  | none => simp [hE] at hr
  | some E =>
  simp only [hE] at hr
  have hu := (hΓ t T hT).und_slice hd
  have hEy := hΓ e E hE
  cases hg : mg id with
  | none => simp [hg] at hr
  | some bl =>
  cases bl <;> simp only [hg] at hr <;> (try (cases hr; done))
  rename_i ty sz n' e1
  split at hr
  rotate_left
  · cases hr
  rename_i hbb
  simp only [Bool.and_eq_true] at hbb
  obtain ⟨⟨hb1, hb2⟩, hb3⟩ := hbb
  have hty := Nat.eq_of_beq_eq_true hb1
  have hsz := Nat.eq_of_beq_eq_true hb2
  have hid := Nat.eq_of_beq_eq_true hb3
  subst hty; subst hid
  cases hf : fresh mg o with
  | none => simp [hf] at hr
  | some d =>
  simp only [hf] at hr
  cases hr
  obtain ⟨rfl, hn2, hbj, hjk, hkn⟩ := hc _ rfl
  subst n2
  obtain ⟨hdst, hmd⟩ := fresh_spec hf
  have hMid : M id = some (.buf ty sz n e1) := (hm id (by simp)).trans hg
  have hMd : M d = none := (hm d (by simp)).trans hmd
  have hdid : d ≠ id := by rintro rfl; rw [hMd] at hMid; cases hMid
  obtain ⟨v0, us, k1, k2, k3, k5, k4⟩ := I.blk id _ hMid
  obtain ⟨i, i1, i2, i3, i4⟩ := hEy.info
  generalize hxe : a.eval x = xv at hx
  generalize hye : a.eval y = yv at hy
  cases hx with
  | sb _ _ _ _ _ n1 sz1 xv v1 hb hle h1 he =>
  rw [k1] at hb; cases hb
  obtain ⟨gg, cap, rfl, rfl⟩ := he rfl
  cases hy with
  | sb _ _ _ _ _ n1 sz1 yv v1 hb' hle' h1' he' =>
  rw [k1] at hb'; cases hb'
  obtain ⟨gg', cap', q1, rfl⟩ := he' rfl
  cases q1
  have hsl : us.length = n * sz := k2.1
  have hcapn : n ≤ cap := by
    rcases k2.2 with ⟨q, _⟩ | ⟨_, _, _, q, _, _, q4, _⟩
    · cases q
    · cases q; exact q4
  have mulle : ∀ p q : Nat, p ≤ q → p * sz ≤ q * sz := fun p q h => Nat.mul_le_mul_right _ h
  obtain ⟨news, hnews⟩ : ∃ news, (us.drop (j * sz)).take ((k - j) * sz) = news := ⟨_, rfl⟩
  have hnl : news.length = (k - j) * sz := by
    rw [← hnews, List.length_take, List.length_drop, hsl]
    have := mulle k n hkn
    have h2 : (k - j) * sz + j * sz = k * sz := by rw [← Nat.add_mul]; congr 1; omega
    omega
  have hnget : ∀ q, q < (k - j) * sz → news[q]? = us[j * sz + q]? := fun q hq => by
    rw [← hnews, List.getElem?_take, if_pos hq, List.getElem?_drop]
  have hone : ∀ u ∈ news, u.oneCell' = true := fun u hu => k5 u (by rw [← hnews] at hu; exact List.mem_of_mem_drop (List.mem_of_mem_take hu))
  have hfit : b * sz + news.length ≤ n * sz := by
    rw [hnl, ← Nat.add_mul]; exact mulle _ _ (by omega)
  obtain ⟨cur, c1, c2, c3⟩ := ownsRow_store k2 (b * sz) news hfit
  have hisz : i.size = sz := by rw [i2, hsz]
  have hsrc : Src P i.size t (.slice (some (if cap = j then ⟨gg, 0, none⟩ else ⟨gg, j * sz, none⟩)) (k - j) (cap - j)) (k - j) news w := by
    refine Src.ofSlice w hu _ _ _ _ (by rw [hisz]; exact hnl) (fun q u hq => ?_) hone
    have hql : q < (k - j) * sz := by rw [← hnl]; exact (List.getElem?_eq_some_iff.1 hq).1
    have hne : cap ≠ j := by
      rintro rfl
      have : k - cap = 0 := by omega
      rw [this] at hql; simp at hql
    rw [if_neg hne, Addr.add_lit]
    have h3 : j * sz + q < n * sz := by
      have := mulle k n hkn
      have h2 : (k - j) * sz + j * sz = k * sz := by rw [← Nat.add_mul]; congr 1; omega
      omega
    rw [hnget q hql] at hq
    have := k2.cells (g := gg) rfl (j * sz + q) u hq
    rw [Addr.add_lit] at this
    simpa using this
  have hrun := run_append_room_row (P := P) w t t o.type ty i hu i1 gg 0 b cap _ (k - j) news hsrc (by omega) c1 (by rw [hisz, Nat.zero_add]; exact c2)
  rw [hisz, Nat.zero_add] at hrun
  obtain ⟨W', hW'⟩ : ∃ W', w.setRow gg (cur.toList.take (b * sz) ++ news ++ cur.toList.drop (b * sz + news.length)).toArray = W' := ⟨_, rfl⟩
  rw [hW'] at hrun c3
  have hoth : ∀ kk, kk ≠ gg → W'.heap[kk]? = w.heap[kk]? := fun kk hk => by rw [← hW']; exact setRow_other w gg kk _ hk
  obtain ⟨ρ', hρ'⟩ : ∃ ρ', upd (upd ρ d (some (.sl (b + (k - j)) sz (.slice (some ⟨gg, 0, none⟩) (b + (k - j)) cap)))) id (some (.sl (n + 1) sz (.slice none 0 0))) = ρ' := ⟨_, rfl⟩
  have r1 : ρ' d = some (.sl (b + (k - j)) sz (.slice (some ⟨gg, 0, none⟩) (b + (k - j)) cap)) := by rw [← hρ', upd_other _ _ hdid, upd_same]
  have r2 : ρ' id = some (.sl (n + 1) sz (.slice none 0 0)) := by rw [← hρ', upd_same]
  have r3 : ∀ q, ¬ (q = d ∨ q = id) → ρ' q = ρ q := fun q hq => by rw [← hρ', upd_other _ _ (fun e => hq (.inr e)), upd_other _ _ (fun e => hq (.inl e))]
  have hρd := I.dom d hMd
  have hpre := ownsRow_prefix c3 (m := b + (k - j)) (by omega)
  have hzs : ∀ q, q < (b + (k - j)) * sz → ((us.take (b * sz) ++ news ++ us.drop (b * sz + news.length)).take ((b + (k - j)) * sz))[q]? = if q < b * sz then us[q]? else us[j * sz + (q - b * sz)]? := by
    intro q hq
    rw [List.getElem?_take, if_pos hq, seg_get _ _ _ (by rw [hsl]; exact hfit)]
    have hq2 : (b + (k - j)) * sz = b * sz + (k - j) * sz := Nat.add_mul _ _ _
    by_cases hqb : q < b * sz
    · rw [if_neg (by omega), if_pos hqb]
    · rw [if_pos (by rw [hnl]; omega), if_neg hqb, hnget _ (by omega)]
  refine ⟨.slice (some ⟨gg, 0, none⟩) (b + (k - j)) cap, W', h, ρ', .inl ?_, I.step (S := fun q => q = d ∨ q = id) (w' := W') ?_ ?_ ?_ ?_ (fun kk _ hk => hoth kk (fun ee => hk id _ (.inr rfl) k1 (by rw [ee]; rfl))) r3 ?_ (fun _ _ h => h) (fun _ _ h => .inl h) ?_ ?_ ?_ ?_ ?_, .buf _ _ _ _ _ _ _ r1 (Nat.le_refl _) rfl (fun _ => rfl)⟩
  · refine execOp_append ho ?_
    have e0 : (if cap = 0 then (⟨gg, 0, none⟩ : Addr) else ⟨gg, 0 * sz, none⟩) = ⟨gg, 0, none⟩ := by split <;> simp
    rw [hxe, hye, e0]
    simpa using hrun
  · rw [← hW']; rfl
  · rw [← hW']; rfl
  · rw [← hW']; rfl
  · rw [← hW']; simp
  · intro q li hq
    by_cases hq1 : q = d
    · subst hq1; rw [hρd] at hq; cases hq
    · by_cases hq2 : q = id
      · subst hq2
        rw [k1] at hq; cases hq
        exact ⟨_, r2, .inr (.inl ⟨_, _, _, _, _, rfl, rfl, Nat.lt_succ_self _⟩)⟩
      · exact ⟨li, by rw [r3 q (by simp [hq1, hq2])]; exact hq, .inl rfl⟩
  · intro q hq
    simp only [not_or] at hq
    show updL M _ q = M q
    simp only [updL]
    rw [upd_other _ _ hq.2, upd_other _ _ hq.1]
  · rintro q (rfl | rfl) hM
    · simp only [updL] at hM; rw [upd_other _ _ hdid, upd_same] at hM; cases hM
    · simp only [updL] at hM; rw [upd_same] at hM; cases hM
  · rintro q z (rfl | rfl) hM
    · simp only [updL] at hM; rw [upd_other _ _ hdid, upd_same] at hM; cases hM
      refine ⟨_, _, r1, hpre, ⟨gg, cap, rfl, hcapn⟩, fun ii hii => ?_, fun u hu => ?_, fun ii jj c u hii hcc hu => ?_⟩
      · show (if ii < b then e1 ii else e1 (j + (ii - b))).length = sz
        split
        · exact k3 ii (by omega)
        · exact k3 _ (by omega)
      · obtain ⟨q, hq, rfl⟩ := List.getElem_of_mem hu
        have hq0 : q < (b + (k - j)) * sz := by simp at hq; omega
        have := hzs q hq0
        rw [List.getElem?_eq_getElem hq] at this
        split at this
        · exact k5 _ (List.mem_of_getElem? this.symm)
        · exact k5 _ (List.mem_of_getElem? this.symm)
      · replace hcc : (if ii < b then e1 ii else e1 (j + (ii - b)))[jj]? = some c := hcc
        have hjj : jj < sz := by
          have h0 := (List.getElem?_eq_some_iff.1 hcc).1
          split at h0
          · rw [k3 ii (by omega)] at h0; exact h0
          · rw [k3 _ (by omega)] at h0; exact h0
        have hlt : ii * sz + jj < (b + (k - j)) * sz := by
          calc ii * sz + jj < ii * sz + sz := by omega
            _ = (ii + 1) * sz := by rw [Nat.add_mul, Nat.one_mul]
            _ ≤ _ := mulle _ _ hii
        rw [hzs _ hlt] at hu
        by_cases hib : ii < b
        · rw [if_pos hib] at hcc
          have : ii * sz + jj < b * sz := by
            calc ii * sz + jj < ii * sz + sz := by omega
              _ = (ii + 1) * sz := by rw [Nat.add_mul, Nat.one_mul]
              _ ≤ _ := mulle _ _ hib
          rw [if_pos this] at hu
          exact k4 ii jj c u (by omega) hcc hu
        · rw [if_neg hib] at hcc
          have hbi : b * sz ≤ ii * sz := mulle _ _ (by omega)
          rw [if_neg (by omega)] at hu
          have hidx : j * sz + (ii * sz + jj - b * sz) = (j + (ii - b)) * sz + jj := by
            have h2 : (ii - b) * sz + b * sz = ii * sz := by rw [← Nat.add_mul]; congr 1; omega
            rw [Nat.add_mul]; omega
          rw [hidx] at hu
          exact k4 _ jj c u (by omega) hcc hu
    · simp only [updL] at hM; rw [upd_same] at hM; cases hM
      exact ⟨_, _, r2⟩
  · rintro q li bb (rfl | rfl) hq hbb
    · rw [r1] at hq; cases hq
      exact .inl ⟨id, _, .inr rfl, k1, hbb⟩
    · rw [r2] at hq; cases hq
      simp [LI.owns, Value.ownBlock] at hbb
  · rintro q q' li li' bb (rfl | rfl) (rfl | rfl) hq hq' hb1' hb2'
    · rfl
    · rw [r2] at hq'; cases hq'; simp [LI.owns, Value.ownBlock] at hb2'
    · rw [r2] at hq; cases hq; simp [LI.owns, Value.ownBlock] at hb1'
    · rfl
theorem ev_clear (hΓ : TysOk P Γ) (I : InvH N C h ρ F M g a w) {t : TypeId} {ts : List TypeId} {args : Array Operand} {tsa : Array TypeId} {y : Operand} (ho : o.op = .call { callee := .builtin .clear, args := args, argTypes := tsa }) (hts : tsa.toList = t :: ts) (hargs : args.toList = [y]) {x : AV} (hx : Rel h ρ x (a.eval y)) {r : R}
    (hr : evClear Γ mg t x = some r) (hm : ∀ id, id ∈ r.rd → M id = mg id) (hc : ∀ q, r.cs = some q → q) : Good P N C h ρ F M g a o w r := by
  have ha : args.map a.eval = #[a.eval y] := by
    apply Array.ext'; simp [hargs]
  have ht0 : tsa[0]? = some t := by rw [← Array.getElem?_toList, hts]; rfl
  unfold evClear at hr
  cases hT : tyOf Γ t with
  | none => simp [hT] at hr
  | some T =>
  simp only [hT] at hr
  cases hd : T.d <;> simp only [hd] at hr <;> (try (cases hr; done))
  rename_i e
  cases hE : tyOf Γ e with
  | none => simp [hE] at hr
  | some E =>
  simp only [hE] at hr
  have hu := (hΓ t T hT).und_slice hd
  have hEy := hΓ e E hE
  cases x <;> simp only [] at hr <;> (try (cases hr; done))
  rename_i id n lo hh
  cases hg : mg id with
  | none => simp [hg] at hr
  | some bl =>
  cases bl <;> simp only [hg] at hr <;> (try (cases hr; done))
  rename_i ty sz n' c e1
  split at hr
  rotate_left
  · cases hr
  rename_i hbb
  simp only [Bool.and_eq_true] at hbb
  obtain ⟨hb1, hb2⟩ := hbb
  have hty := Nat.eq_of_beq_eq_true hb1
  have hsz := Nat.eq_of_beq_eq_true hb2
  subst hty
  cases hr
  obtain ⟨rfl, rfl, hhc⟩ := hc _ rfl
  have hMid : M id = some (.bufk ty sz lo c e1) := (hm id (by simp)).trans hg
  obtain ⟨v0, us, k1, k2, ⟨gg, cap, rfl, hcap⟩, k3, k5, k4⟩ := I.blk id _ hMid
  generalize hye : a.eval y = yv at hx
  cases hx with
  | sb _ _ _ _ _ n1 sz1 yv v1 hb hle h1 he =>
  rw [k1] at hb; cases hb
  obtain ⟨gg', cap', q1, rfl⟩ := he rfl
  cases q1
  rcases k2.2 with ⟨q, _⟩ | ⟨g1, cap1, cur, q, q0, q3, q4, q5, q6, q7⟩
  · cases q
  cases q
  by_cases hz : hh - lo = 0
  · -- nothing to clear
    refine ⟨.tuple #[], w, h, ρ, .inl (execOp_builtin ho ?_), ?_, .any _ _⟩
    · simp only [builtin, ha, hye, hz, Builtin.clear_, Sem.run_bind, Sem.run_pure, Result.andThen_ok, ht0]
      simp [run_underlying hu, go_sem]
    · have : updL M [(id, .bufk ty sz lo c e1)] = M := by
        funext q
        simp only [updL]
        by_cases hq : q = id
        · subst hq; rw [upd_same]; exact hMid.symm
        · rw [upd_other _ _ hq]
      show InvH N C h ρ F (updL M [(id, .bufk ty sz lo c e1)]) g a w
      rw [this]; exact I
  · have hne : cap ≠ lo := by omega
    obtain ⟨zs, hzs⟩ : ∃ zs, (Builtin.zeroCells E.zeroV.cells (hh - lo)).toList = zs := ⟨_, rfl⟩
    have hzl : zs.length = (hh - lo) * sz := by
      rw [← hzs, zeroV_cells hEy]
      simp [Builtin.zeroCells, hEy.len, hsz]
    have hz1 : ∀ v ∈ zs, v.oneCell' = true := by
      intro v hv
      rw [← hzs, zeroV_cells hEy] at hv
      simp only [Builtin.zeroCells, Array.toList_flatten, Array.toList_replicate, Array.toList_map] at hv
      simp at hv
      obtain ⟨q, hq1, hq2⟩ := hv
      have hpos : 0 < E.zero.length := by
        rcases Nat.eq_zero_or_pos E.zero.length with h0 | h0
        · rw [h0] at hq1; simp at hq1
        · exact h0
      have hlt := Nat.mod_lt q hpos
      rw [List.getElem?_eq_getElem hlt] at hq2
      simp at hq2
      subst hq2
      exact (single_one (Rel.ofVal (fun _ => none) ρ0 _) (hEy.one _ (List.getElem_mem hlt))).1
    have hfit : lo * sz + zs.length ≤ cur.size := by
      rw [hzl, q6]
      have : lo * sz + (hh - lo) * sz = hh * sz := by rw [← Nat.add_mul]; congr 1; omega
      rw [this]; exact Nat.mul_le_mul_right _ (by omega)
    have hst := run_storeCells_at P gg (lo * sz) ty zs 0 cur w q3 (by simpa using hfit) hz1
    simp only [Nat.add_zero] at hst
    refine ⟨.tuple #[], w.setRow gg (cur.toList.take (lo * sz) ++ zs ++ cur.toList.drop (lo * sz + zs.length)).toArray, h, ρ, .inl (execOp_builtin ho ?_), I.turnGrid k1 _ rfl rfl rfl (by simp) (fun kk hk => setRow_other w gg kk _ (fun ee => hk (by rw [ee]; rfl))) ?_, .any _ _⟩
    · obtain ⟨m, hm'⟩ : ∃ m, hh - lo = m + 1 := ⟨hh - lo - 1, by omega⟩
      rw [hm'] at hzs
      simp only [builtin, ha, hye, if_neg hne, hm', Builtin.clear_, Sem.run_bind, Sem.run_pure, Result.andThen_ok, ht0]
      simp [run_underlying hu, hEy.runZero w, go_sem]
      change (((Sem.run P (storeCells ⟨gg, lo * sz, none⟩ (Builtin.zeroCells E.zeroV.cells (m + 1)).toList) w).andThen fun a w' => Result.ok (Value.tuple #[]) w').andThen fun a w' => Result.ok (Next.value a) w') = _
      rw [hzs, hst]
      simp
    · refine ⟨_, us, k1, ⟨k2.1, .inr ⟨gg, cap, _, rfl, q0, setRow_heap w gg _ _ ty _ q3, q4, q5, ?_, ?_⟩⟩, ⟨gg, cap, rfl, hcap⟩, k3, k5, k4⟩
      · have := seg_len cur.toList zs (lo * sz) (by simpa using hfit)
        simp only [List.size_toArray]
        rw [this]; simpa using q6
      · rw [← q7]
        apply List.ext_getElem?
        intro q
        simp only [List.getElem?_take, List.toList_toArray]
        by_cases hq : q < lo * sz
        · rw [if_pos hq, if_pos hq, seg_get _ _ _ (by simpa using hfit), if_neg (by omega)]
        · rw [if_neg hq, if_neg hq]
theorem ev_copy (hΓ : TysOk P Γ) (I : InvH N C h ρ F M g a w) {t t2 : TypeId} {args : Array Operand} {tsa : Array TypeId} {y z : Operand} (ho : o.op = .call { callee := .builtin .copy, args := args, argTypes := tsa }) (hts : tsa.toList = [t, t2]) (hargs : args.toList = [y, z]) {x1 x2 : AV} (hx : Rel h ρ x1 (a.eval y)) (hx2 : Rel h ρ x2 (a.eval z)) {r : R}
    (hr : evCopy Γ mg t x1 x2 = some r) (hm : ∀ id, id ∈ r.rd → M id = mg id) (hc : ∀ q, r.cs = some q → q) : Good P N C h ρ F M g a o w r := by
  have ha : args.map a.eval = #[a.eval y, a.eval z] := by
    apply Array.ext'; simp [hargs]
  have htsa : tsa = #[t, t2] := by apply Array.ext'; simp [hts]
  subst htsa
  unfold evCopy at hr
  cases hT : tyOf Γ t with
  | none => simp [hT] at hr
  | some T =>
  simp only [hT] at hr
  cases hd : T.d <;> simp only [hd] at hr <;> (try (cases hr; done))
  rename_i e
  cases hE : tyOf Γ e with
  | none => simp [hE] at hr
  | some E =>
  simp only [hE] at hr
  have hu := (hΓ t T hT).und_slice hd
  have hEy := hΓ e E hE
  cases hb1 : Nat.beq 1 E.size with
  | false => simp [hb1] at hr
  | true =>
  simp only [hb1] at hr
  have hE1 := Nat.eq_of_beq_eq_true hb1
  have hinfo : (P.info? e).map (·.size) = some 1 := by
    obtain ⟨i, i1, i2, _⟩ := hEy.info
    rw [i1]; simp [i2, ← hE1]
  -- the copy itself: what lies at the source goes over
  have core : ∀ {ty n gg cap : Nat} {us : List Value} {cur : Array Value} (lo dl dc : Nat) (ad : Addr) (sl sc : Nat) (news : List Value), w.heap[gg]? = some (.cells cur ty (0, 0)) → news.length = min sl dl → lo + news.length ≤ cur.size → (∀ v ∈ news, v.oneCell' = true) → (∀ j v, news[j]? = some v → w.cell? (ad.add j) = some v) →
      (Builtin.copy_ #[t, t2] o.type #[.slice (some ⟨gg, lo, none⟩) dl dc, .slice (some ad) sl sc]).run P w = .ok (goInt news.length) (w.setRow gg (cur.toList.take lo ++ news ++ cur.toList.drop (lo + news.length)).toArray) := by
    intro ty n gg cap us cur lo dl dc ad sl sc news hg hn hfit h1 hsrc
    exact run_copy_row P w t t2 o.type e gg lo dl dc ad sl sc cur ty news hu hinfo hg hn hsrc hfit h1
  have nothing : ∀ (d s : Option Addr) (dl dc sl sc : Nat), min sl dl = 0 → (Builtin.copy_ #[t, t2] o.type #[.slice d dl dc, .slice s sl sc]).run P w = .ok (goInt 0) w := by
    intro d s dl dc sl sc hn
    exact run_copy_none w t t2 o.type e d s dl dc sl sc hu hinfo hn
  have same : ∀ {k : Nat} {id ty n : Nat} {e1 e1' : Nat → List AV} {q : Option Prop}, k = 0 → M id = some (.buf ty 1 n e1) → (∀ i, e1' i = e1 i) → (Builtin.copy_ #[t, t2] o.type #[a.eval y, a.eval z]).run P w = .ok (goInt 0) w → Good P N C h ρ F M g a o w ⟨.int .i64 ((k : Nat) : Int), [id], [(id, .buf ty 1 n e1')], q, none⟩ := by
    intro k id ty n e1 e1' q hk hM he hrun
    subst hk
    obtain rfl : e1' = e1 := funext he
    refine ⟨goInt 0, w, h, ρ, .inl (execOp_builtin ho (by simp only [builtin, ha, Sem.run_bind, hrun, Result.andThen_ok, Sem.run_pure])), ?_, .int _ _ _⟩
    have : updL M [(id, .buf ty 1 n e1')] = M := by
      funext q
      simp only [updL]
      by_cases hq : q = id
      · subst hq; rw [upd_same]; exact hM.symm
      · rw [upd_other _ _ hq]
    show InvH N C h ρ F (updL M [(id, .buf ty 1 n e1')]) g a w
    rw [this]; exact I
  have turned : ∀ {id ty n gg cap lo : Nat} {us : List Value} {cur : Array Value} {e1 e1' : Nat → List AV} {q : Option Prop} (news : List Value), ρ id = some (.sl n 1 (.slice (some ⟨gg, 0, none⟩) n cap)) → w.ownsRow 0 ty 1 (.slice (some ⟨gg, 0, none⟩) n cap) n us → w.heap[gg]? = some (.cells cur ty (0, 0)) → lo + news.length ≤ n → (∀ v ∈ news, v.oneCell' = true) →
      (∀ x, x ∈ us → x.oneCell' = true) → (∀ i, i < n → (e1' i).length = 1) → (∀ i c x, i < n → (e1' i)[0]? = some c → (if lo ≤ i ∧ i < lo + news.length then news[i - lo]? else us[i]?) = some x → Rel h ρ0 c x) →
      (Builtin.copy_ #[t, t2] o.type #[a.eval y, a.eval z]).run P w = .ok (goInt news.length) (w.setRow gg (cur.toList.take lo ++ news ++ cur.toList.drop (lo + news.length)).toArray) →
      Good P N C h ρ F M g a o w ⟨.int .i64 ((news.length : Nat) : Int), [id], [(id, .buf ty 1 n e1')], q, none⟩ := by
    intro id ty n gg cap lo us cur e1 e1' q news k1 k2 hg hfit hn1 k5 hl hrel hrun
    obtain ⟨cur2, c1, c2, c3⟩ := ownsRow_store k2 lo news (by omega)
    rw [hg] at c1; cases c1
    refine ⟨goInt news.length, w.setRow gg (cur.toList.take lo ++ news ++ cur.toList.drop (lo + news.length)).toArray, h, ρ, .inl (execOp_builtin ho (by simp only [builtin, ha, Sem.run_bind, hrun, Result.andThen_ok, Sem.run_pure])), I.turnGrid k1 _ rfl rfl rfl (by simp) (fun kk hk => setRow_other w gg kk _ (fun ee => hk (by rw [ee]; rfl))) ?_, .int _ _ _⟩
    have hus : us.length = n := by have := k2.1; simpa using this
    refine ⟨_, _, k1, c3, hl, fun u hu => ?_, fun i j c x hi hj hx => ?_⟩
    · rw [List.mem_append, List.mem_append] at hu
      rcases hu with (hu | hu) | hu
      · exact k5 u (List.mem_of_mem_take hu)
      · exact hn1 u hu
      · exact k5 u (List.mem_of_mem_drop hu)
    · have hj0 : j = 0 := by
        have := (List.getElem?_eq_some_iff.1 hj).1
        rw [hl i hi] at this; omega
      subst hj0
      rw [Nat.mul_one, Nat.add_zero, seg_get _ _ _ (by omega)] at hx
      exact hrel i c x hi hj hx
  cases x1 <;> (try simp only [] at hr) <;> (try (cases hr; done))
  case buf id n =>
    cases x2 <;> (try simp only [] at hr) <;> (try (cases hr; done))
    rename_i sz2 n2 e2
    cases hg : mg id with
    | none => simp [hg] at hr
    | some bl =>
    cases bl <;> simp only [hg] at hr <;> (try (cases hr; done))
    rename_i ty sz n' e1
    split at hr
    rotate_left
    · cases hr
    rename_i hbb
    simp only [Bool.and_eq_true] at hbb
    obtain ⟨⟨hb2, hb3⟩, hb4⟩ := hbb
    have hsz := Nat.eq_of_beq_eq_true hb3
    have hsz2 := Nat.eq_of_beq_eq_true hb4
    subst sz; subst sz2
    cases hr
    obtain rfl := hc _ rfl
    have hMid : M id = some (.buf ty 1 n e1) := (hm id (by simp)).trans hg
    obtain ⟨v0, us, k1, k2, k3, k5, k4⟩ := I.blk id _ hMid
    have hye : a.eval y = v0 := by
      generalize a.eval y = q at hx
      cases hx with
      | buf _ _ _ _ _ _ _ hb' hle k1' he => rw [k1] at hb'; cases hb'; exact he rfl
    obtain ⟨ad2, cap2, hze, hcap2⟩ := ro_slice hx2
    by_cases hz : min n2 n = 0
    · refine same hz hMid (fun i => ?_) ?_
      · rw [if_neg (by omega)]
      · rw [hye, hze]
        obtain ⟨ad, cap, rfl, _, _⟩ := ownsRow_slice k2
        exact nothing _ _ _ _ _ _ hz
    · rcases k2.2 with ⟨_, h0⟩ | ⟨gg, cap, cur, rfl, _, q3, q4, q5, q6, q7⟩
      · omega
      rw [hze] at hx2
      cases hx2 with
      | ro _ _ _ _ _ _ hnil hcp hl2 hs2 h12 hc2 =>
      cases ad2 with
      | none => have := hnil rfl; omega
      | some ad2 =>
      have hcell : ∀ j, j < n2 → ∃ v, cellOf h (ad2.add j) = some v := fun j hj => by
        have := hs2 j 0 hj (by omega)
        simp only [Nat.mul_one, Nat.add_zero, hcell] at this
        exact Option.isSome_iff_exists.1 this
      obtain ⟨news, hnews⟩ : ∃ news, (List.range (min n2 n)).map (fun j => (cellOf h (ad2.add j)).getD undef) = news := ⟨_, rfl⟩
      have hnl : news.length = min n2 n := by rw [← hnews]; simp
      have hnget : ∀ j v, news[j]? = some v → j < min n2 n ∧ cellOf h (ad2.add j) = some v := fun j v hj => by
        have hlt : j < min n2 n := by rw [← hnl]; exact (List.getElem?_eq_some_iff.1 hj).1
        obtain ⟨u, hu⟩ := hcell j (by omega)
        rw [← hnews, List.getElem?_map, List.getElem?_range hlt] at hj
        simp [hu] at hj
        exact ⟨hlt, hj ▸ hu⟩
      have hcur : n * 1 ≤ cur.size := by rw [q6]; exact Nat.mul_le_mul_right _ q4
      have h1n : ∀ v ∈ news, v.oneCell' = true := fun v hv => by
        obtain ⟨j, hj⟩ := List.getElem?_of_mem hv
        obtain ⟨k6, k7⟩ := hnget j v hj
        exact h12 j v (by omega) k7
      have := turned (id := id) (lo := 0) (e1 := e1) (e1' := fun q => if q < min n2 n then e2 q else e1 q) (q := some (n = n)) news k1 k2 q3 (by omega) h1n k5 (fun i hi => by
        show (if i < min n2 n then e2 i else e1 i).length = 1
        split
        · exact hl2 i (by omega)
        · exact k3 i hi) (fun i c x hi hcc hxx => by
        replace hcc : (if i < min n2 n then e2 i else e1 i)[0]? = some c := hcc
        by_cases hin : i < min n2 n
        · rw [if_pos hin] at hcc
          rw [if_pos (by omega)] at hxx
          obtain ⟨_, k7⟩ := hnget _ _ hxx
          exact hc2 i 0 c x (by omega) hcc (by rw [Nat.mul_one, Nat.add_zero]; exact k7)
        · rw [if_neg hin] at hcc
          rw [if_neg (by omega)] at hxx
          exact k4 i 0 c x hi hcc (by simpa using hxx)) (by
        rw [hye, hze]
        exact core (ty := ty) (n := 0) (cap := 0) (us := []) 0 n cap ad2 n2 cap2 news q3 hnl (by omega) h1n (fun j v hj => I.cell (hnget j v hj).2))
      rw [hnl] at this
      exact this
  case sb id n lo hh =>
    cases x2 <;> (try simp only [] at hr) <;> (try (cases hr; done))
    rename_i id2 n2 lo2 hh2
    cases hg : mg id with
    | none => simp [hg] at hr
    | some bl =>
    cases bl <;> simp only [hg] at hr <;> (try (cases hr; done))
    rename_i ty sz n' e1
    split at hr
    rotate_left
    · cases hr
    rename_i hbb
    simp only [Bool.and_eq_true] at hbb
    obtain ⟨⟨hb2, hb3⟩, hb4⟩ := hbb
    have hsz := Nat.eq_of_beq_eq_true hb3
    have hid := Nat.eq_of_beq_eq_true hb4
    subst sz; subst id2
    cases hr
    obtain ⟨rfl, hn2, ha1, ha2, ha3, ha4⟩ := hc _ rfl
    subst n2
    have hMid : M id = some (.buf ty 1 n e1) := (hm id (by simp)).trans hg
    obtain ⟨v0, us, k1, k2, k3, k5, k4⟩ := I.blk id _ hMid
    generalize hye : a.eval y = yv at hx
    generalize hze : a.eval z = zv at hx2
    cases hx with
    | sb _ _ _ _ _ m1 sz1 yv v1 hb hle h1 he =>
    rw [k1] at hb; cases hb
    obtain ⟨gg, cap, rfl, rfl⟩ := he rfl
    cases hx2 with
    | sb _ _ _ _ _ m1 sz1 zv v1 hb' hle' h1' he' =>
    rw [k1] at hb'; cases hb'
    obtain ⟨gg', cap', q, rfl⟩ := he' rfl
    cases q
    by_cases hz : min (hh2 - lo2) (hh - lo) = 0
    · refine same hz hMid (fun i => ?_) ?_
      · rw [if_neg (by omega)]
      · rw [hye, hze]; exact nothing _ _ _ _ _ _ hz
    · rcases k2.2 with ⟨q, _⟩ | ⟨g1, cap1, cur, q, _, q3, q4, q5, q6, q7⟩
      · cases q
      cases q
      have hus : us.length = n := by have := k2.1; simpa using this
      have hcur : n ≤ cur.size := by rw [q6]; omega
      obtain ⟨news, hnews⟩ : ∃ news, (us.drop lo2).take (min (hh2 - lo2) (hh - lo)) = news := ⟨_, rfl⟩
      have hnl : news.length = min (hh2 - lo2) (hh - lo) := by rw [← hnews, List.length_take, List.length_drop]; omega
      have hnget : ∀ j, j < news.length → news[j]? = us[lo2 + j]? := fun j hj => by
        rw [← hnews, List.getElem?_take, if_pos (by omega), List.getElem?_drop]
      have h1n : ∀ v ∈ news, v.oneCell' = true := fun v hv => k5 v (by rw [← hnews] at hv; exact List.mem_of_mem_drop (List.mem_of_mem_take hv))
      have := turned (id := id) (lo := lo) (e1 := e1) (e1' := fun q => if lo ≤ q ∧ q < lo + min (hh2 - lo2) (hh - lo) then e1 (lo2 + (q - lo)) else e1 q) (q := some (n = n ∧ n = n ∧ lo ≤ hh ∧ hh ≤ n ∧ lo2 ≤ hh2 ∧ hh2 ≤ n)) news k1 k2 q3 (by omega) h1n k5 (fun i hi => by
        show (if lo ≤ i ∧ i < lo + min (hh2 - lo2) (hh - lo) then e1 (lo2 + (i - lo)) else e1 i).length = 1
        split
        · exact k3 _ (by omega)
        · exact k3 i hi) (fun i c x hi hcc hxx => by
        replace hcc : (if lo ≤ i ∧ i < lo + min (hh2 - lo2) (hh - lo) then e1 (lo2 + (i - lo)) else e1 i)[0]? = some c := hcc
        by_cases hin : lo ≤ i ∧ i < lo + min (hh2 - lo2) (hh - lo)
        · rw [if_pos hin] at hcc
          rw [if_pos (by omega), hnget _ (by omega)] at hxx
          exact k4 _ 0 c x (by omega) hcc (by simpa using hxx)
        · rw [if_neg hin] at hcc
          rw [if_neg (by omega)] at hxx
          exact k4 i 0 c x hi hcc (by simpa using hxx)) (by
        have e1' : (if cap = lo then (⟨gg, 0, none⟩ : Addr) else ⟨gg, lo * 1, none⟩) = ⟨gg, lo, none⟩ := by rw [if_neg (by omega), Nat.mul_one]
        have e2' : (if cap = lo2 then (⟨gg, 0, none⟩ : Addr) else ⟨gg, lo2 * 1, none⟩) = ⟨gg, lo2, none⟩ := by rw [if_neg (by omega), Nat.mul_one]
        rw [hye, hze, e1', e2']
        refine core (ty := ty) (n := 0) (cap := 0) (us := []) lo (hh - lo) (cap - lo) ⟨gg, lo2, none⟩ (hh2 - lo2) (cap - lo2) news q3 hnl (by omega) h1n (fun j v hj => ?_)
        have hlt := (List.getElem?_eq_some_iff.1 hj).1
        rw [hnget j hlt] at hj
        have := k2.cells (g := gg) rfl (lo2 + j) v hj
        rw [Addr.add_lit] at this ⊢
        simpa using this)
      rw [hnl] at this
      exact this
end
end Go.Av
