/- The evaluator is right, part 1: types, lists of cells, what is read. -/
import Derived.Test.YtnaodipmfaglfaaAvC
set_option linter.all false
namespace Go.Av
def DsOk (P : Program) (t : TypeId) : Ds → TypeDesc → Prop
  | .int k, d => d = .int k
  | .bool, d => d = .bool
  | .ptr e, d => d = .pointer e
  | .slice e, d => d = .slice e
  | .struct fs, d => ∃ f, d = .struct f ∧ f.toList.map (fun x => (x.offset, x.type)) = fs ∧ (∀ x ∈ f.toList, x.name ≠ "_") ∧ P.stoodInHeld t = false ∧ (∀ x ∈ f.toList, (P.info? x.type).isSome = true)
  | .array n e, d => d = .array n e
  | .map k e, d => d = .map k e
  | .func, d => ∃ ps rs v, d = .func ps rs v
  | .iface, d => ∃ ms, d = .interface ms
  | .other, d => (∀ f, d ≠ .struct f) ∧ (∀ n e, d ≠ .array n e) ∧ (∀ ms, d ≠ .interface ms)
structure TyOk (P : Program) (t : TypeId) (T : TyD) : Prop where
  info : ∃ i, P.info? t = some i ∧ i.size = T.size ∧ i.bytes = T.bytes ∧ i.zero = some T.zeroV
  len : T.zero.length = T.size
  one : ∀ v, v ∈ T.zero → single (ofVal v) = true
  pos : T.d.agg = false → T.size = 1
  desc : ∃ d, P.underlying t = some d ∧ DsOk P t T.d d
def TysOk (P : Program) (Γ : Tys) : Prop := ∀ t T, tyOf Γ t = some T → TyOk P t T
theorem TysOk.nil (P : Program) : TysOk P [] := fun _ _ h => by cases h
theorem TysOk.cons {P : Program} {t : TypeId} {T : TyD} {Γ : Tys} (h : TyOk P t T) (k : TysOk P Γ) : TysOk P ((t, T) :: Γ) := by
  intro u U hu
  simp only [tyOf] at hu
  cases hb : Nat.beq t u with
  | true => rw [hb] at hu; cases hu; rw [← Nat.eq_of_beq_eq_true hb]; exact h
  | false => rw [hb] at hu; exact k u U hu
section ty
variable {P : Program} {t : TypeId} {T : TyD} (hT : TyOk P t T) (w : World)
include hT
theorem TyOk.runSize : (sizeOf t).run P w = .ok T.size w := by
  obtain ⟨i, h1, h2, _, _⟩ := hT.info
  simp [sizeOf, typeInfo, h1, h2]
theorem TyOk.runZero : (zeroValue t).run P w = .ok T.zeroV w := by
  obtain ⟨i, h1, _, _, h4⟩ := hT.info
  simp [zeroValue, typeInfo, h1, h4]
theorem TyOk.isAgg : (Go.isAgg t).run P w = .ok T.d.agg w := by
  obtain ⟨d, h1, h2⟩ := hT.desc
  unfold Go.isAgg
  rw [Sem.run_bind, run_underlying h1 w]
  cases hd : T.d <;> rw [hd] at h2 <;> simp only [DsOk] at h2
  case struct fs => obtain ⟨f, rfl, _⟩ := h2; rfl
  case func => obtain ⟨_, _, _, rfl⟩ := h2; rfl
  case iface => obtain ⟨_, rfl⟩ := h2; rfl
  case other =>
    obtain ⟨h3, h4, _⟩ := h2
    cases d <;> first | rfl | exact absurd rfl (h3 _) | exact absurd rfl (h4 _ _)
  all_goals (subst h2; rfl)
theorem TyOk.und_slice {e : TypeId} (hd : T.d = .slice e) : P.underlying t = some (.slice e) := by
  obtain ⟨d, h1, h2⟩ := hT.desc
  rw [hd] at h2; simp only [DsOk] at h2; rw [h1, h2]
theorem TyOk.und_map {k e : TypeId} (hd : T.d = .map k e) : P.underlying t = some (.map k e) := by
  obtain ⟨d, h1, h2⟩ := hT.desc
  rw [hd] at h2; simp only [DsOk] at h2; rw [h1, h2]
theorem TyOk.und_array {n : Nat} {e : TypeId} (hd : T.d = .array n e) : P.underlying t = some (.array n e) := by
  obtain ⟨d, h1, h2⟩ := hT.desc
  rw [hd] at h2; simp only [DsOk] at h2; rw [h1, h2]
theorem TyOk.und_int {k : IntKind} (hd : T.d = .int k) : P.underlying t = some (.int k) := by
  obtain ⟨d, h1, h2⟩ := hT.desc
  rw [hd] at h2; simp only [DsOk] at h2; rw [h1, h2]
theorem TyOk.und_bool (hd : T.d = .bool) : P.underlying t = some .bool := by
  obtain ⟨d, h1, h2⟩ := hT.desc
  rw [hd] at h2; simp only [DsOk] at h2; rw [h1, h2]
theorem TyOk.und_struct {fs : List (Nat × TypeId)} (hd : T.d = .struct fs) : ∃ f, P.underlying t = some (.struct f) ∧ f.toList.map (fun x => (x.offset, x.type)) = fs ∧ (∀ x ∈ f.toList, x.name ≠ "_") ∧ P.stoodInHeld t = false ∧ (∀ x ∈ f.toList, (P.info? x.type).isSome = true) := by
  obtain ⟨d, h1, h2⟩ := hT.desc
  rw [hd] at h2; simp only [DsOk] at h2
  obtain ⟨f, rfl, h3⟩ := h2
  exact ⟨f, h1, h3⟩
end ty
theorem nthN_get {α : Type} : ∀ {k : Nat} {l : List α} {x : α}, nthN k l = some x → l[k]? = some x
  | 0, _ :: _, _, h => by simpa [nthN] using h
  | k + 1, _ :: xs, x, h => by simpa using nthN_get (k := k) (l := xs) (by simpa [nthN] using h)
  | 0, [], _, h => by simp [nthN] at h
  | _ + 1, [], _, h => by simp [nthN] at h
theorem dropN_get : ∀ {n : Nat} {cs r : List AV}, dropN n cs = some r → r = cs.drop n ∧ n ≤ cs.length
  | 0, cs, r, h => by simp [dropN] at h; subst h; simp
  | n + 1, [], r, h => by simp [dropN] at h
  | n + 1, _ :: xs, r, h => by
    obtain ⟨h1, h2⟩ := dropN_get (n := n) (cs := xs) (by simpa [dropN] using h)
    exact ⟨by simpa using h1, by simpa using h2⟩
theorem takeN_get : ∀ {n : Nat} {cs r : List AV}, takeN n cs = some r → r = cs.take n ∧ n ≤ cs.length
  | 0, cs, r, h => by simp [takeN] at h; subst h; simp
  | n + 1, [], r, h => by simp [takeN] at h
  | n + 1, x :: xs, r, h => by
    simp only [takeN] at h
    cases hx : takeN n xs with
    | none => rw [hx] at h; cases h
    | some q =>
      rw [hx] at h; cases h
      obtain ⟨h1, h2⟩ := takeN_get hx
      exact ⟨by simp [h1], by simpa using h2⟩
theorem spine_eq : ∀ {cs r : List AV}, spine cs = some r → r = cs
  | [], r, h => by simp [spine] at h; exact h
  | x :: xs, r, h => by
    simp only [spine] at h
    cases hx : spine xs with
    | none => rw [hx] at h; cases h
    | some q => rw [hx] at h; cases h; rw [spine_eq hx]
theorem layN_get : ∀ {n : Nat} {xs cs r : List AV}, layN n xs cs = some r → r.length = cs.length ∧ n + xs.length ≤ cs.length + n * (if xs = [] then 1 else 0) ∧
    ∀ i, r[i]? = if n ≤ i ∧ i < n + xs.length then xs[i - n]? else cs[i]?
  | n, [], cs, r, h => by
    have : r = cs := by cases n <;> simpa [layN] using h.symm
    subst this
    refine ⟨rfl, by simp, fun i => ?_⟩
    rw [if_neg (by simp)]
  | 0, x :: xs, c :: cs, r, h => by
    simp only [layN] at h
    cases hx : layN 0 xs cs with
    | none => rw [hx] at h; cases h
    | some q =>
      rw [hx] at h; cases h
      obtain ⟨h1, h2, h3⟩ := layN_get hx
      refine ⟨by simp [h1], by simp at h2 ⊢; omega, fun i => ?_⟩
      cases i with
      | zero => simp
      | succ i =>
        simp only [List.getElem?_cons_succ, h3 i, List.length_cons]
        by_cases hi : i < xs.length
        · rw [if_pos (by omega), if_pos (by omega)]; simp
        · rw [if_neg (by omega), if_neg (by omega)]
  | n + 1, x :: xs, c :: cs, r, h => by
    simp only [layN] at h
    cases hx : layN n (x :: xs) cs with
    | none => rw [hx] at h; cases h
    | some q =>
      rw [hx] at h; cases h
      obtain ⟨h1, h2, h3⟩ := layN_get hx
      refine ⟨by simp [h1], by simp at h2 ⊢; omega, fun i => ?_⟩
      cases i with
      | zero => simp
      | succ i =>
        simp only [List.getElem?_cons_succ, h3 i, List.length_cons]
        by_cases hi : n ≤ i ∧ i < n + (xs.length + 1)
        · rw [if_pos hi, if_pos (by omega)]
          rw [show i + 1 - (n + 1) = i - n by omega]
        · rw [if_neg hi, if_neg (by omega)]
  | 0, _ :: _, [], r, h => by simp [layN] at h
  | _ + 1, _ :: _, [], r, h => by simp [layN] at h
def RelL (h : Hp) (ρ : Rho) (cs : List AV) (vs : List Value) : Prop := vs.length = cs.length ∧ ∀ (i : Nat) (c : AV) (v : Value), cs[i]? = some c → vs[i]? = some v → Rel h ρ c v
theorem RelL.nil (h : Hp) (ρ : Rho) : RelL h ρ [] [] := ⟨rfl, fun i c v h => by simp at h⟩
theorem RelL.cons {h : Hp} {ρ : Rho} {c : AV} {v : Value} {cs : List AV} {vs : List Value} (h1 : Rel h ρ c v) (h2 : RelL h ρ cs vs) : RelL h ρ (c :: cs) (v :: vs) := by
  refine ⟨by simp [h2.1], fun i x y hx hy => ?_⟩
  cases i with
  | zero => simp at hx hy; subst hx hy; exact h1
  | succ i => simp at hx hy; exact h2.2 i x y hx hy
theorem RelL.append {h : Hp} {ρ : Rho} {a b : List AV} {xs ys : List Value} (h1 : RelL h ρ a xs) (h2 : RelL h ρ b ys) : RelL h ρ (a ++ b) (xs ++ ys) := by
  refine ⟨by simp [h1.1, h2.1], fun i c v hc hv => ?_⟩
  by_cases hi : i < a.length
  · rw [List.getElem?_append_left hi] at hc
    rw [List.getElem?_append_left (by rw [h1.1]; exact hi)] at hv
    exact h1.2 i c v hc hv
  · rw [List.getElem?_append_right (by omega)] at hc
    rw [List.getElem?_append_right (by rw [h1.1]; omega), h1.1] at hv
    exact h2.2 _ c v hc hv
theorem RelL.heap {h h' : Hp} {ρ : Rho} {cs : List AV} {vs : List Value} (H : RelL h ρ cs vs) (hh : Le h h') : RelL h' ρ cs vs := ⟨H.1, fun i c v a b => (H.2 i c v a b).heap hh⟩
theorem RelL.mono {h h' : Hp} {ρ ρ' : Rho} {cs : List AV} {vs : List Value} (H : RelL h ρ cs vs) (hh : Le h h') (hr : ∀ id li, ρ id = some li → ∃ li', ρ' id = some li' ∧ li.le li') : RelL h' ρ' cs vs := ⟨H.1, fun i c v a b => (H.2 i c v a b).mono hh hr⟩
theorem RelL.get {h : Hp} {ρ : Rho} {cs : List AV} {vs : List Value} (H : RelL h ρ cs vs) {i : Nat} {c : AV} (hc : cs[i]? = some c) : ∃ v, vs[i]? = some v ∧ Rel h ρ c v := by
  have hi : i < vs.length := by rw [H.1]; exact (List.getElem?_eq_some_iff.1 hc).1
  exact ⟨vs[i], List.getElem?_eq_getElem hi, H.2 i c _ hc (List.getElem?_eq_getElem hi)⟩
theorem RelL.inv_cons {h : Hp} {ρ : Rho} {c : AV} {cs : List AV} {vs : List Value} (H : RelL h ρ (c :: cs) vs) : ∃ v r, vs = v :: r ∧ Rel h ρ c v ∧ RelL h ρ cs r := by
  cases vs with
  | nil => have := H.1; simp at this
  | cons v r => exact ⟨v, r, rfl, H.2 0 c v (by simp) (by simp), by have := H.1; simpa using this, fun i x y hx hy => H.2 (i + 1) x y (by simpa using hx) (by simpa using hy)⟩
theorem viewC_get : ∀ {cs : List AV}, viewC cs = true → clL cs = true
  | [], _ => rfl
  | c :: cs, h => by
    simp only [viewC] at h
    cases hc : c.cl with
    | false => rw [hc] at h; cases h
    | true => rw [hc] at h; simp [clL, hc, viewC_get h]
theorem RelL.of_cl {h : Hp} {ρ ρ' : Rho} {cs : List AV} {vs : List Value} (H : RelL h ρ cs vs) (hc : clL cs = true) : RelL h ρ' cs vs :=
  ⟨H.1, fun i c v a b => (H.2 i c v a b).of_cl (clL_get hc a)⟩
theorem single_one {h : Hp} {ρ : Rho} {a : AV} {v : Value} (H : Rel h ρ a v) (hs : single a = true) : v.oneCell' = true ∧ v.cells = #[v] := by
  have : v.oneCell' = true := by
    have hpo : ∀ (b : Bool) (cs : List AV) (u : Value), Rel h ρ (.po b cs) u → u.oneCell' = true := fun b cs u H => by
      cases H with
      | po _ _ _ _ ht hf =>
        cases b with
        | false => rw [hf rfl]; rfl
        | true => cases ht rfl; rfl
    cases H <;> first | rfl | (simp [single] at hs; done) | assumption | exact hpo _ _ _ (.po _ _ _ _ (by assumption) (by assumption)) | (rename_i h1 _ _; obtain ⟨_, rfl⟩ := h1; rfl) | (rename_i h1 _; obtain ⟨_, rfl⟩ := h1; rfl) | (rename_i h1; cases h1; rfl)
  refine ⟨this, ?_⟩
  cases v <;> first | rfl | (simp [Value.oneCell'] at this)
theorem singles_get : ∀ {cs : List AV} {i : Nat} {c : AV}, singles cs = true → cs[i]? = some c → single c = true
  | [], i, c, _, h => by simp at h
  | x :: cs, i, c, hs, h => by
    simp only [singles] at hs
    cases hx : single x with
    | false => rw [hx] at hs; cases hs
    | true =>
      rw [hx] at hs
      cases i with
      | zero => simp at h; rw [← h]; exact hx
      | succ i => exact singles_get hs (by simpa using h)
theorem RelL.ones {h : Hp} {ρ : Rho} {cs : List AV} {vs : List Value} (H : RelL h ρ cs vs) (hs : singles cs = true) : ∀ x, x ∈ vs → x.oneCell' = true := by
  intro x hx
  obtain ⟨i, hi, rfl⟩ := List.getElem_of_mem hx
  have hi' : i < cs.length := by rw [← H.1]; exact hi
  exact (single_one (H.2 i cs[i] _ (List.getElem?_eq_getElem hi') (List.getElem?_eq_getElem hi)) (singles_get hs (List.getElem?_eq_getElem hi'))).1
theorem cellsV_sound {h : Hp} {ρ : Rho} {a : AV} {v : Value} {cs : List AV} (hc : cellsV a = some cs) (H : Rel h ρ a v) : ∃ vs : List Value, v.cells = vs.toArray ∧ RelL h ρ cs vs ∧ ∀ x ∈ vs, x.oneCell' = true := by
  by_cases hag : ∃ ds, a = .agg ds
  · obtain ⟨ds, rfl⟩ := hag
    simp only [cellsV] at hc
    cases hs : singles ds with
    | false => rw [hs] at hc; cases hc
    | true =>
      rw [hs] at hc; cases hc
      cases H with
      | agg _ _ vs hl hc =>
        refine ⟨vs, rfl, ⟨hl, hc⟩, fun x hx => ?_⟩
        obtain ⟨i, hi, rfl⟩ := List.getElem_of_mem hx
        have hi' : i < cs.length := by omega
        exact (single_one (hc i cs[i] _ (List.getElem?_eq_getElem hi') (List.getElem?_eq_getElem hi)) (singles_get hs (List.getElem?_eq_getElem hi'))).1
  · have h2 : (match single a with | true => some [a] | false => none) = some cs := by
      cases a <;> first | exact hc | exact absurd ⟨_, rfl⟩ hag
    cases hs : single a with
    | false => rw [hs] at h2; cases h2
    | true =>
      rw [hs] at h2; cases h2
      obtain ⟨h3, h4⟩ := single_one H hs
      exact ⟨[v], by rw [h4], RelL.cons H (RelL.nil _ _), by simpa using h3⟩
theorem zeros_len : ∀ vs : List Value, (zeros vs).length = vs.length
  | [] => rfl
  | v :: vs => by simp [zeros, zeros_len vs]
theorem RelL.zeros (h : Hp) (ρ : Rho) : ∀ vs : List Value, RelL h ρ (Av.zeros vs) vs
  | [] => RelL.nil _ _
  | v :: vs => RelL.cons (Rel.ofVal h ρ v) (RelL.zeros h ρ vs)
theorem zeroV_cells {P : Program} {t : TypeId} {T : TyD} (hT : TyOk P t T) : T.zeroV.cells = T.zero.toArray := by
  unfold TyD.zeroV
  cases ha : T.d.agg with
  | true => rfl
  | false =>
    have h1 := hT.pos ha
    have h2 := hT.len
    rw [h1] at h2
    match hz : T.zero, h2 with
    | [v], _ =>
      have := hT.one v (by rw [hz]; simp)
      exact (single_one (Rel.ofVal (fun _ => none) ρ0 v) this).2
theorem Rel.zeroA {P : Program} {t : TypeId} {T : TyD} (_hT : TyOk P t T) (h : Hp) (ρ : Rho) : Rel h ρ (Av.zeroA T) T.zeroV := by
  unfold Av.zeroA TyD.zeroV
  cases ha : T.d.agg with
  | true => exact .agg _ _ _ (RelL.zeros h ρ T.zero).1 (RelL.zeros h ρ T.zero).2
  | false =>
    cases hz : T.zero with
    | nil => exact .any _ _
    | cons v vs => exact Rel.ofVal h ρ v
section reads
variable {P : Program} {N : Nat} {C : Ctx} {h : Hp} {ρ : Rho} {F : Fr} {M : Mm} {g : Nat} {a : Act} {w : World}
theorem InvH.cell (I : InvH N C h ρ F M g a w) {ad : Addr} {v : Value} (hc : cellOf h ad = some v) : w.cell? ad = some v := by
  unfold cellOf at hc
  cases hb : h ad.block with
  | none => simp [hb] at hc
  | some o =>
    have := I.hp _ _ hb
    simp only [hb] at hc
    unfold World.cell?
    rw [this]
    cases o <;> first | exact hc | cases hc
def Lies (w : World) (h : Hp) (ρ : Rho) (ad : Addr) (cs : List AV) : Prop := ∀ (j : Nat) (c : AV), cs[j]? = some c → ∃ x, w.cell? (ad.add j) = some x ∧ Rel h ρ c x
theorem Lies.drop {ad : Addr} {cs : List AV} (H : Lies w h ρ ad cs) (n : Nat) : Lies w h ρ (ad.add n) (cs.drop n) := by
  intro j c hc
  rw [List.getElem?_drop] at hc
  obtain ⟨x, h1, h2⟩ := H _ c hc
  refine ⟨x, ?_, h2⟩
  rw [← h1]
  congr 1
  unfold Addr.add
  split <;> split <;> split <;> simp_all <;> omega
theorem run_load_lies {ad : Addr} {cs : List AV} (H : Lies w h ρ ad cs) {T : TyD} {t : TypeId} (hT : TyOk P t T) {v : AV} (ho : ofCells T cs = some v) : ∃ x, (loadVar t ad).run P w = .ok x w ∧ Rel h ρ v x := by
  unfold ofCells at ho
  cases ha : T.d.agg with
  | false =>
    rw [ha] at ho
    cases cs with
    | nil => simp at ho
    | cons c cs =>
      simp at ho; subst ho
      obtain ⟨x, h1, h2⟩ := H 0 c (by simp)
      have h0 : ad.add 0 = ad := by simp [Addr.add]
      rw [h0] at h1
      refine ⟨x, ?_, h2⟩
      simp [loadVar, Sem.run_bind, hT.isAgg w, ha, h1]
  | true =>
    rw [ha] at ho
    simp only [] at ho
    cases hk : takeN T.size cs with
    | none => rw [hk] at ho; cases ho
    | some xs =>
      rw [hk] at ho; cases ho
      obtain ⟨rfl, hlen⟩ := takeN_get hk
      have hf : ∀ j, j < T.size → w.cell? (ad.add j) = some ((w.cell? (ad.add j)).getD undef) := by
        intro j hj
        have hj' : j < cs.length := by omega
        obtain ⟨x, h1, _⟩ := H j cs[j] (List.getElem?_eq_getElem hj')
        rw [h1]; rfl
      have hr := run_loadCells (P := P) w ad T.size (fun j => (w.cell? (ad.add j)).getD undef) hf
      refine ⟨.agg ((List.range T.size).map fun j => (w.cell? (ad.add j)).getD undef).toArray, ?_, ?_⟩
      · simp [loadVar, Sem.run_bind, hT.isAgg w, ha, hT.runSize w, hr]
      · refine .agg _ _ _ (by simp; omega) fun i c v hc hv => ?_
        rw [List.getElem?_take] at hc
        split at hc
        · rename_i hi
          obtain ⟨x, h1, h2⟩ := H i c hc
          simp [List.getElem?_map, List.getElem?_range hi, h1] at hv
          rw [← hv]; exact h2
        · cases hc
theorem target_sound (I : InvH N C h ρ F M g a w) {mg : Mm} {p : AV} {cs : List AV} {rd : List Nat} {c : Option Prop} (ht : target mg p = some (cs, rd, c)) (hm : ∀ id, id ∈ rd → M id = mg id)
    (hc : ∀ q, c = some q → q) {v : Value} (H : Rel h ρ p v) : ∃ ad, v = .pointer (some ad) ∧ Lies w h ρ ad cs := by
  cases p <;> simp only [target] at ht <;> try (cases ht; done)
  case rp cs0 =>
    cases ht
    cases H with
    | rp _ _ ad hs hc' =>
      refine ⟨ad, rfl, fun j x hx => ?_⟩
      obtain ⟨u, hu⟩ := Option.isSome_iff_exists.1 (hs j (List.getElem?_eq_some_iff.1 hx).1)
      exact ⟨u, I.cell hu, (hc' j x u hx hu).closed⟩
  case lp id off =>
    cases hg : mg id with
    | none => simp [hg] at ht
    | some bl =>
      cases bl <;> simp only [hg] at ht <;> try (cases ht; done)
      rename_i cs0
      cases hd : dropN off cs0 with
      | none => simp [hd] at ht
      | some r =>
        rw [hd] at ht; cases ht
        obtain ⟨rfl, hle⟩ := dropN_get hd
        have hM := I.blk id _ ((hm id (by simp)).trans hg)
        obtain ⟨b, vs, ty, h1, h2, h3, h4⟩ := hM
        cases H with
        | lp _ _ _ b' hb =>
          rw [h1] at hb; cases hb
          refine ⟨_, rfl, fun j x hx => ?_⟩
          rw [List.getElem?_drop] at hx
          have hlt : off + j < vs.length := by rw [h3]; exact (List.getElem?_eq_some_iff.1 hx).1
          refine ⟨vs[off + j], ?_, h4 _ x _ hx (List.getElem?_eq_getElem hlt)⟩
          rw [Addr.add_lit, cell_of_row w b (off + j) _ ty _ h2]
          simp [hlt]
  case ep id n i off =>
    cases hg : mg id with
    | none => simp [hg] at ht
    | some bl =>
      cases bl <;> simp only [hg] at ht <;> try (cases ht; done)
      rename_i ty sz n' e
      cases hd : dropN off (e i) with
      | none => simp [hd] at ht
      | some r =>
        rw [hd] at ht; cases ht
        obtain ⟨rfl, hle⟩ := dropN_get hd
        obtain ⟨rfl, hin⟩ := hc _ rfl
        have hM := I.blk id _ ((hm id (by simp)).trans hg)
        obtain ⟨v0, xs, h1, h2, h3, _, h4⟩ := hM
        cases H with
        | ep _ _ _ _ _ n2 sz2 _ v2 hb hle2 _ he =>
          rw [h1] at hb; cases hb
          obtain ⟨b, cap, rfl, rfl⟩ := he rfl
          refine ⟨_, rfl, fun j x hx => ?_⟩
          rw [List.getElem?_drop] at hx
          have hlt : off + j < sz := by rw [← h3 i hin]; exact (List.getElem?_eq_some_iff.1 hx).1
          have hlt2 : i * sz + (off + j) < xs.length := by
            rw [h2.1]
            calc i * sz + (off + j) < i * sz + sz := by omega
              _ = (i + 1) * sz := by rw [Nat.add_mul, Nat.one_mul]
              _ ≤ n * sz := Nat.mul_le_mul_right _ hin
          refine ⟨xs[i * sz + (off + j)], ?_, (h4 i (off + j) x _ hin hx (List.getElem?_eq_getElem hlt2)).closed⟩
          have := h2.cells (g := b) rfl (i * sz + (off + j)) _ (List.getElem?_eq_getElem hlt2)
          rw [Addr.add_lit] at this ⊢
          rw [← this]
          congr 1
          simp
  case gp id i =>
    cases hg : mg id with
    | none => simp [hg] at ht
    | some bl =>
      cases bl <;> simp only [hg] at ht <;> try (cases ht; done)
      rename_i tS ty sz n m e
      cases ht
      have hin : i < n := hc _ rfl
      obtain ⟨v0, rows, h1, h2, h3, h4, _, _⟩ := I.blk id _ ((hm id (by simp)).trans hg)
      cases H with
      | gp _ _ _ b n' cap sz' rows' hb =>
        rw [h1] at hb; cases hb
        refine ⟨_, rfl, fun j x hx => ?_⟩
        have hj : j = 0 := by
          have := (List.getElem?_eq_some_iff.1 hx).1
          simp at this; exact this
        subst hj
        simp at hx; subst hx
        have hlt : i < rows.length := by omega
        obtain ⟨q0, q1, _⟩ := h4 i _ (List.getElem?_eq_getElem hlt)
        refine ⟨rows[i].2, ?_, .gr' _ _ _ _ rows[i].1 _ _ _ rows[i].2 _ h1 (List.getElem?_eq_getElem hlt) (by omega) q1 (fun _ => rfl)⟩
        have := h3.cells (g := b) rfl i rows[i].2 (by rw [List.getElem?_map, List.getElem?_eq_getElem hlt]; rfl)
        rw [Addr.add_lit] at this ⊢
        rw [← this]
        simp
  case ge id i k j0 off =>
    cases hg : mg id with
    | none => simp [hg] at ht
    | some bl =>
      cases bl <;> simp only [hg] at ht <;> try (cases ht; done)
      rename_i tS ty sz n m e
      cases hd : dropN off (e i j0) with
      | none => simp [hd] at ht
      | some r =>
        rw [hd] at ht; cases ht
        obtain ⟨rfl, hle⟩ := dropN_get hd
        obtain ⟨rfl, hin, hj0⟩ := hc _ rfl
        obtain ⟨v0, rows, h1, h2, h3, h4, _, _⟩ := I.blk id _ ((hm id (by simp)).trans hg)
        cases H with
        | ge _ _ _ _ _ _ m' sz' gv v v' rows' hb hi hle' _ he =>
          rw [h1] at hb; cases hb
          obtain ⟨q0, q1, xs, q2, q3, q4, q5⟩ := h4 i _ hi
          simp only at q0 q2
          subst q0
          obtain ⟨b, cap, rfl, rfl⟩ := he rfl
          refine ⟨_, rfl, fun j x hx => ?_⟩
          rw [List.getElem?_drop] at hx
          have hlt : off + j < sz := by rw [← q3 j0 hj0]; exact (List.getElem?_eq_some_iff.1 hx).1
          have hlt2 : j0 * sz + (off + j) < xs.length := by
            rw [q2.1]
            calc j0 * sz + (off + j) < j0 * sz + sz := by omega
              _ = (j0 + 1) * sz := by rw [Nat.add_mul, Nat.one_mul]
              _ ≤ m i * sz := Nat.mul_le_mul_right _ hj0
          refine ⟨xs[j0 * sz + (off + j)], ?_, (q5 j0 (off + j) x _ hj0 hx (List.getElem?_eq_getElem hlt2)).closed⟩
          have := q2.cells (g := b) rfl (j0 * sz + (off + j)) _ (List.getElem?_eq_getElem hlt2)
          rw [Addr.add_lit] at this ⊢
          rw [← this]
          congr 1
          simp [Nat.add_assoc]
end reads
end Go.Av
