/- The evaluator is right: the whole, for operations that call no Go function. -/
import Derived.Test.YtnaodipmfaglfaaAvY
set_option linter.all false
namespace Go.Av
section
variable {P : Program} {N : Nat} {C : Ctx} {h : Hp} {ρ : Rho} {F : Fr} {M : Mm} {g : Nat} {a : Act} {w : World} {Γ : Tys} {mg : Mm} {o : Oper} {own : List Nat}
theorem list_one {α : Type} {l : List α} (h : l.length = 1) : ∃ x, l = [x] := by
  match l, h with
  | [x], _ => exact ⟨x, rfl⟩
theorem list_two {α : Type} {l : List α} (h : l.length = 2) : ∃ x y, l = [x, y] := by
  match l, h with
  | [x, y], _ => exact ⟨x, y, rfl⟩
theorem ev_builtin (hΓ : TysOk P Γ) (I : InvH N C h ρ F M g a w) {b : Builtin} {args : Array Operand} {tsa : Array TypeId} (ho : o.op = .call { callee := .builtin b, args := args, argTypes := tsa }) {val : Operand → AV} (hv : ∀ y, y ∈ o.op.operands → Rel h ρ (val y) (a.eval y)) {r : R}
    (hr : evBuiltin Γ mg o b tsa.toList (mapAV val args.toList) = some r) (hm : ∀ id, id ∈ r.rd → M id = mg id) (hc : ∀ q, r.cs = some q → q) : Good P N C h ρ F M g a o w r := by
  have hargs : ∀ x ∈ args.toList, Rel h ρ (val x) (a.eval x) := fun x hx => hv x (mem_callArgs ho hx)
  have hrel := mapAV_rel args.toList hargs
  unfold evBuiltin at hr
  split at hr
  · -- len
    rename_i t ts x hts hxs
    rw [mapAV_map] at hxs
    obtain ⟨y, hy⟩ : ∃ y, args.toList = [y] := list_one (by have := congrArg List.length hxs; simpa using this)
    have hxy : x = val y := by rw [hy] at hxs; simp at hxs; exact hxs.symm
    subst hxy
    exact ev_len hΓ I ho hts hy (hargs y (by rw [hy]; simp)) (by simp only [evBuiltin]; exact hr) hm hc
  · -- clear
    rename_i t ts x hts hxs
    rw [mapAV_map] at hxs
    obtain ⟨y, hy⟩ : ∃ y, args.toList = [y] := list_one (by have := congrArg List.length hxs; simpa using this)
    have hxy : x = val y := by rw [hy] at hxs; simp at hxs; exact hxs.symm
    subst hxy
    exact ev_clear hΓ I ho hts hy (hargs y (by rw [hy]; simp)) hr hm hc
  · -- copy
    rename_i t t2 x1 x2 hts hxs
    rw [mapAV_map] at hxs
    obtain ⟨y, z, hyz⟩ : ∃ y z, args.toList = [y, z] := list_two (by have := congrArg List.length hxs; simpa using this)
    have hs : x1 = val y ∧ x2 = val z := by rw [hyz] at hxs; simp at hxs; exact ⟨hxs.1.symm, hxs.2.symm⟩
    obtain ⟨rfl, rfl⟩ := hs
    exact ev_copy hΓ I ho hts hyz (hargs y (by rw [hyz]; simp)) (hargs z (by rw [hyz]; simp)) hr hm hc
  · -- append
    rename_i t t' s x hts hxs
    rw [mapAV_map] at hxs
    obtain ⟨y, z, hyz⟩ : ∃ y z, args.toList = [y, z] := list_two (by have := congrArg List.length hxs; simpa using this)
    have hs : s = val y ∧ x = val z := by rw [hyz] at hxs; simp at hxs; exact ⟨hxs.1.symm, hxs.2.symm⟩
    obtain ⟨rfl, rfl⟩ := hs
    have hry := hargs y (by rw [hyz]; simp)
    have hrz := hargs z (by rw [hyz]; simp)
    cases hb : Nat.beq t t' with
    | false => simp [hb] at hr
    | true =>
    simp only [hb] at hr
    have htt := Nat.eq_of_beq_eq_true hb
    subst htt
    have ho' : o.op = .call { callee := .builtin .append, args := #[y, z], argTypes := #[t, t] } := by
      rw [ho]
      have e1 : args = #[y, z] := by apply Array.ext'; exact hyz
      have e2 : tsa = #[t, t] := by apply Array.ext'; exact hts
      rw [e1, e2]
    split at hr
    · rename_i id n b id2 n2 j k hvy hvz
      exact ev_appendB hΓ I ho' (hvy ▸ hry) (hvz ▸ hrz) hr hm hc
    rename_i hnsb
    clear hnsb
    unfold evAppend at hr
    cases hT : tyOf Γ t with
    | none => simp [hT] at hr
    | some T =>
    simp only [hT] at hr
    cases hd : T.d <;> simp only [hd] at hr <;> (try (cases hr; done))
    rename_i e
    cases hE : tyOf Γ e with
    | none => simp [hE] at hr
    | some E =>
    simp only [hE] at hr
    cases hro : asRo mg (val z) with
    | none => simp [hro] at hr
    | some q =>
    obtain ⟨sz2, n2, e2, rd, c⟩ := q
    simp only [hro] at hr
    cases hb2 : Nat.beq sz2 E.size with
    | false => simp [hb2] at hr
    | true =>
    simp only [hb2] at hr
    have hsz := Nat.eq_of_beq_eq_true hb2
    subst hsz
    cases hpos : E.size with
    | zero => simp [hpos] at hr
    | succ k =>
    have hpos' : 0 < E.size := by omega
    simp only [hpos] at hr
    rw [← hpos] at hr
    cases hvy : val y <;> simp only [hvy] at hr <;> (try (cases hr; done))
    case nilS =>
      cases hf : fresh mg o with
      | none => simp [hf] at hr
      | some d =>
      simp only [hf] at hr
      cases hr
      rw [hvy] at hry
      exact ev_append_nil hΓ I ho' hT hd hE hpos' hry hrz hro (fun id hid => hm id (by simp [hid])) ((hm d (by simp)).trans (fresh_spec hf).2) hc
    case buf id n =>
      cases hg : mg id with
      | none => simp [hg] at hr
      | some bl =>
      cases bl <;> simp only [hg] at hr <;> (try (cases hr; done))
      rename_i ty sz n' e1
      cases hb3 : Nat.beq ty e with
      | false => simp [hb3] at hr
      | true =>
      simp only [hb3] at hr
      have hte := Nat.eq_of_beq_eq_true hb3
      subst hte
      cases hb4 : Nat.beq sz E.size with
      | false => simp [hb4] at hr
      | true =>
      simp only [hb4] at hr
      cases hr
      rw [hvy] at hry
      exact ev_append_buf hΓ I ho' hT hd hE hpos' hry ((hm id (by simp)).trans hg) (Nat.eq_of_beq_eq_true hb4) hrz hro (fun j hj => hm j (by simp [hj])) hc
  · -- max
    rename_i p xs hxs
    split at hr
    · rename_i m hmx
      cases hr
      exact ev_maxmin I ho (by rw [← hxs]; exact hrel) (.inl ⟨rfl, hmx⟩)
    · cases hr
  · -- min
    rename_i p xs hxs
    split at hr
    · rename_i m hmx
      cases hr
      exact ev_maxmin I ho (by rw [← hxs]; exact hrel) (.inr ⟨rfl, hmx⟩)
    · cases hr
  · -- delete
    rename_i t ts m k hts hxs
    rw [mapAV_map] at hxs
    obtain ⟨y, z, hyz⟩ : ∃ y z, args.toList = [y, z] := list_two (by have := congrArg List.length hxs; simpa using this)
    have hs : m = val y ∧ k = val z := by rw [hyz] at hxs; simp at hxs; exact ⟨hxs.1.symm, hxs.2.symm⟩
    obtain ⟨rfl, rfl⟩ := hs
    have e1 : args = #[y, z] := by apply Array.ext'; exact hyz
    rw [e1] at ho
    exact ev_mapDel (t2 := t) hΓ I (by rw [← Array.getElem?_toList, hts]; rfl) ho (hargs y (by rw [hyz]; simp)) (hargs z (by rw [hyz]; simp)) hr hm hc rfl
  · cases hr
def isCall : Op → Bool
  | .call ⟨.value _, _, _⟩ => true
  | _ => false
theorem run_move {x : Operand} (ho : o.op = .move x ∨ o.op = .assign x) : (execOp a.eval o).run P w = .ok (.value (a.eval x)) w := by
  unfold execOp
  rcases ho with ho | ho <;> simp only [ho, Sem.run_pure]
theorem evalOp_sound (hΓ : TysOk P Γ) (hdep : 8 ≤ P.depth) (I : InvH N C h ρ F M g a w) {val : Operand → AV} (hv : ∀ y, y ∈ o.op.operands → Rel h ρ (val y) (a.eval y)) {rv : Option RV} {r : R}
    (hr : evalOp Γ own val mg o rv = some r) (hm : ∀ id, id ∈ r.rd → M id = mg id) (hc : ∀ q, r.cs = some q → q) (hcall : isCall o.op = false) : Good P N C h ρ F M g a o w r := by
  unfold evalOp at hr
  cases ho : o.op <;> simp only [ho] at hr <;> (try (cases hr; done))
  case move x => cases hr; exact Good.same I (.inl (run_move (.inl ho))) rfl (hv x (by rw [ho]; simp [Op.operands]))
  case assign x => cases hr; exact Good.same I (.inl (run_move (.inr ho))) rfl (hv x (by rw [ho]; simp [Op.operands]))
  case pick c x y =>
    have hcr := hv c (by rw [ho]; simp [Op.operands])
    have hxr := hv x (by rw [ho]; simp [Op.operands])
    have hyr := hv y (by rw [ho]; simp [Op.operands])
    unfold evPick at hr
    split at hr
    · rename_i p hp
      rw [hp] at hcr
      split at hr
      · rename_i u v hu hv'
        cases hr
        rw [hu] at hxr; rw [hv'] at hyr
        refine Good.same I (x := .bool (bif p then u else v)) (.inl ?_) rfl (.bool _ _)
        generalize hec : a.eval c = zc at hcr; generalize hex : a.eval x = zx at hxr; generalize hey : a.eval y = zy at hyr
        cases hcr; cases hxr; cases hyr
        unfold execOp
        simp only [ho, hec, hex, hey]
        cases p <;> rfl
      · rename_i u v hu hv'
        cases hr
        rw [hu] at hxr; rw [hv'] at hyr
        refine Good.same I (x := .int .i64 (bif p then u else v)) (.inl ?_) rfl (.int _ _ _)
        generalize hec : a.eval c = zc at hcr; generalize hex : a.eval x = zx at hxr; generalize hey : a.eval y = zy at hyr
        cases hcr; cases hxr; cases hyr
        unfold execOp
        simp only [ho, hec, hex, hey]
        cases p <;> rfl
      · cases hr
    · cases hr
  case alloc t =>
    cases hT : tyOf Γ t with
    | none => simp [hT] at hr
    | some T =>
    simp only [hT] at hr
    cases hf : fresh mg o with
    | none => simp [hf] at hr
    | some d =>
    simp only [hf] at hr
    cases hr
    exact ev_alloc hΓ I ho hT ((hm d (by simp)).trans (fresh_spec hf).2)
  case box t x =>
    cases hcs : cellsV (val x) with
    | none => simp [hcs] at hr
    | some cs =>
    simp only [hcs] at hr
    cases hf : fresh mg o with
    | none => simp [hf] at hr
    | some d =>
    simp only [hf] at hr
    cases hr
    exact ev_box I ho (hv x (by rw [ho]; simp [Op.operands])) hcs ((hm d (by simp)).trans (fresh_spec hf).2)
  case build t ps =>
    cases hT : tyOf Γ t with
    | none => simp [hT] at hr
    | some T =>
    simp only [hT] at hr
    cases hd : T.d <;> simp only [hd] at hr <;> (try (cases hr; done))
    case struct fs =>
      split at hr
      · rename_i cs hl; cases hr; exact ev_build_struct hΓ I ho hT hd hv hl
      · cases hr
    case array n e =>
      cases hE : tyOf Γ e with
      | none => simp [hE] at hr
      | some E =>
      simp only [hE] at hr
      split at hr
      · rename_i cs hl; cases hr; exact ev_build_array hΓ I ho hT hd hE hv hl
      · cases hr
  case buildSlice t n ps =>
    cases hT : tyOf Γ t with
    | none => simp [hT] at hr
    | some T =>
    simp only [hT] at hr
    cases hd : T.d <;> simp only [hd] at hr <;> (try (cases hr; done))
    rename_i e
    cases hE : tyOf Γ e with
    | none => simp [hE] at hr
    | some E =>
    simp only [hE] at hr
    cases hle : Nat.ble (n * E.size) 16777216 with
    | false => simp [hle] at hr
    | true =>
    simp only [hle] at hr
    split at hr
    · rename_i cs hl
      split at hr
      · rename_i hvc
        split at hr
        · rename_i hsi
          split at hr
          · rename_i d hd'
            split at hr
            · split at hr
              · rename_i hmd
                split at hr
                · rename_i hnle
                  cases hr
                  exact ev_buildSlice_own hΓ I ho hT hd hE (Nat.le_of_ble_eq_true hle) (Nat.le_of_ble_eq_true hnle) hv hl hvc hsi ((hm d (by simp)).trans hmd)
                · cases hr
              · cases hr
            · split at hr
              · rename_i hnle
                cases hr
                exact ev_buildSlice_ro hΓ I ho hT hd hE (Nat.le_of_ble_eq_true hle) hv hl hvc hsi (Nat.le_of_ble_eq_true hnle)
              · cases hr
          · cases hr
        · cases hr
      · cases hr
    · cases hr
  case load t p =>
    cases hT : tyOf Γ t with
    | none => simp [hT] at hr
    | some T =>
    simp only [hT] at hr
    split at hr
    · rename_i cs rd c ht
      split at hr
      · rename_i v hv'
        cases hr
        exact ev_load hΓ I ho hT (hv p (by rw [ho]; simp [Op.operands])) ht hm hc hv'
      · cases hr
    · cases hr
  case store t p x =>
    cases hT : tyOf Γ t with
    | none => simp [hT] at hr
    | some T =>
    simp only [hT] at hr
    cases hcs : cellsV (val x) with
    | none => simp [hcs] at hr
    | some xs =>
    simp only [hcs] at hr
    cases xs with
    | nil => simp at hr
    | cons x0 xs =>
    simp only [] at hr
    cases hb : Nat.beq (x0 :: xs).length T.size with
    | false => simp only [hb] at hr; cases hr
    | true =>
    simp only [hb] at hr
    have hl := Nat.eq_of_beq_eq_true hb
    have hp := hv p (by rw [ho]; simp [Op.operands])
    have hx := hv x (by rw [ho]; simp [Op.operands])
    cases hvp : val p <;> simp only [hvp] at hr <;> (try (cases hr; done))
    case lp id off =>
      rw [hvp] at hp
      cases hg : mg id with
      | none => simp [hg] at hr
      | some bl =>
      cases bl <;> simp only [hg] at hr <;> (try (cases hr; done))
      rename_i cs
      split at hr
      · rename_i cs' hlay
        cases hr
        exact ev_store_lp hΓ I ho hT hx hcs hl hp ((hm id (by simp)).trans hg) hlay (by simp)
      · cases hr
    case ep id n i off =>
      rw [hvp] at hp
      cases hg : mg id with
      | none => simp [hg] at hr
      | some bl =>
      cases bl <;> simp only [hg] at hr <;> (try (cases hr; done))
      rename_i ty sz n' e
      split at hr
      · rename_i hvc
        split at hr
        · rename_i es hlay
          cases hr
          exact ev_store_ep hΓ I ho hT hx hcs hl hvc hp ((hm id (by simp)).trans hg) hlay (by simp) (hc _ rfl)
        · cases hr
      · cases hr
    case gp id i =>
      rw [hvp] at hp
      cases hvx : val x <;> simp only [hvx] at hr <;> (try (cases hr; done))
      rename_i id2 k
      cases hg : mg id with
      | none => simp [hg] at hr
      | some bl =>
      cases bl <;> simp only [hg] at hr <;> (try (cases hr; done))
      rename_i tS ty sz n m e
      cases hg2 : mg id2 with
      | none => simp [hg2] at hr
      | some bl =>
      cases bl <;> simp only [hg2] at hr <;> (try (cases hr; done))
      rename_i ty2 sz2 k2 e2
      split at hr
      · rename_i hbb
        cases hr
        simp only [Bool.and_eq_true, Bool.not_eq_true'] at hbb
        obtain ⟨⟨hb1, hb2⟩, hb3⟩ := hbb
        have e1 := Nat.eq_of_beq_eq_true hb1
        have e2' := Nat.eq_of_beq_eq_true hb2
        subst e1; subst e2'
        have hsz : 1 = T.size := by
          rw [hvx] at hcs
          simp [cellsV, single] at hcs
          obtain ⟨_, rfl⟩ := hcs
          simpa using hl
        exact ev_store_gp hΓ I ho hT hsz (hvx ▸ hx) hp ((hm id (by simp)).trans hg) ((hm id2 (by simp)).trans hg2) (fun e => by subst e; simp at hb3) (hc _ rfl)
      · cases hr
    case ge id i k j off =>
      rw [hvp] at hp
      cases hg : mg id with
      | none => simp [hg] at hr
      | some bl =>
      cases bl <;> simp only [hg] at hr <;> (try (cases hr; done))
      rename_i tS ty sz n m e
      split at hr
      · rename_i hvc
        split at hr
        · rename_i es hlay
          cases hr
          exact ev_store_ge hΓ I ho hT hx hcs hl hvc hp ((hm id (by simp)).trans hg) hlay (by simp) (hc _ rfl)
        · cases hr
      · cases hr
  case nilCheck x =>
    have hx := hv x (by rw [ho]; simp [Op.operands])
    have key : ∀ ad, a.eval x = .pointer (some ad) → (execOp a.eval o).run P w = .ok (.value (a.eval x)) w := fun ad he => by
      unfold execOp
      simp only [ho, he, Sem.run_pure]
    cases hvx : val x <;> simp only [hvx] at hr <;> (try (cases hr; done)) <;> rw [hvx] at hx <;> cases hr
    case rp cs =>
      obtain ⟨ad, he⟩ : ∃ ad, a.eval x = .pointer (some ad) := by generalize a.eval x = v at hx; cases hx; exact ⟨_, rfl⟩
      exact Good.same I (.inl (key ad he)) rfl hx
    case po b cs =>
      have hb : b = true := hc _ rfl
      subst hb
      have hx' : Rel h ρ (.rp cs) (a.eval x) := by generalize a.eval x = v at hx; cases hx with | po _ _ _ _ ht _ => exact ht rfl
      obtain ⟨ad, he⟩ : ∃ ad, a.eval x = .pointer (some ad) := by generalize a.eval x = v at hx'; cases hx'; exact ⟨_, rfl⟩
      exact Good.same (r := .valIf (.rp cs) (true = true)) I (.inl (key ad he)) rfl hx'
    case lp id off =>
      obtain ⟨ad, he⟩ : ∃ ad, a.eval x = .pointer (some ad) := by generalize a.eval x = v at hx; cases hx; exact ⟨_, rfl⟩
      exact Good.same I (.inl (key ad he)) rfl hx
    case ep id n i off =>
      obtain ⟨ad, he⟩ : ∃ ad, a.eval x = .pointer (some ad) := by
        generalize a.eval x = v at hx
        cases hx with
        | ep _ _ _ _ _ _ _ _ _ _ _ h1 _ => exact h1
      exact Good.same I (.inl (key ad he)) rfl hx
    case ge id i k j off =>
      obtain ⟨ad, he⟩ : ∃ ad, a.eval x = .pointer (some ad) := by
        generalize a.eval x = v at hx
        cases hx with
        | ge _ _ _ _ _ _ _ _ _ _ _ _ _ _ _ h1 _ => exact h1
      exact Good.same I (.inl (key ad he)) rfl hx
  case binOp op t x y yt =>
    obtain ⟨h1, z, ⟨h2, h3⟩, h4⟩ := evBin_sound hΓ hdep hr hc (hv x (by rw [ho]; simp [Op.operands])) (hv y (by rw [ho]; simp [Op.operands])) x y w
    refine Good.same I (.inl ?_) h1 h4
    unfold execOp
    simp only [ho, Sem.run_bind, h2, h3, Result.andThen_ok, Sem.run_pure]
  case unOp op t x =>
    have hx := hv x (by rw [ho]; simp [Op.operands])
    generalize hvx : val x = vx at hr hx
    cases op <;> (try simp only [] at hr) <;> (try (cases hr; done))
    case not =>
      cases vx <;> (try simp only [] at hr) <;> (try (cases hr; done))
      rename_i b
      cases hr
      refine Good.same I (x := .bool (!b)) (.inl ?_) rfl (.bool _ _)
      generalize he : a.eval x = v at hx
      cases hx
      unfold execOp
      simp only [ho, he, Op.unary, Sem.run_bind, Sem.run_pure, Result.andThen_ok]
    case neg =>
      cases vx <;> (try simp only [] at hr) <;> (try (cases hr; done))
      rename_i k n
      cases k <;> (try simp only [] at hr) <;> (try (cases hr; done))
      cases hr
      have hin : inI (0 - n) := hc _ rfl
      refine Good.same I (x := .int .i64 (0 - n)) (.inl ?_) rfl (.int _ _ _)
      generalize he : a.eval x = v at hx
      cases hx
      unfold execOp
      simp only [ho, he, Op.unary, Op.intArith, Sem.run_bind, Sem.run_pure, Result.andThen_ok, wrap_inI hin]
  case convert s t x =>
    have hx := hv x (by rw [ho]; simp [Op.operands])
    split at hr
    · rename_i S T hS hT
      split at hr
      · rename_i n hs ht hvx
        cases hr
        rw [hvx] at hx
        have hin : inI n := hc _ rfl
        refine Good.same I (x := .int .i64 n) (.inl ?_) rfl (.int _ _ _)
        generalize he : a.eval x = v at hx
        cases hx
        have hus := (hΓ s S hS).und_int hs
        have hut := (hΓ t T hT).und_int ht
        unfold execOp
        simp only [ho, he, convert, Conv.intToInt, Sem.run_bind, run_underlying hus, run_underlying hut, Sem.run_pure, Result.andThen_ok, wrap_inI hin]
      · rename_i n hs ht hvx
        cases hr
        rw [hvx] at hx
        have hin : inU n := hc _ rfl
        refine Good.same I (x := .int .u64 n) (.inl ?_) rfl (.int _ _ _)
        generalize he : a.eval x = v at hx
        cases hx
        have hus := (hΓ s S hS).und_int hs
        have hut := (hΓ t T hT).und_int ht
        unfold execOp
        simp only [ho, he, convert, Conv.intToInt, Sem.run_bind, run_underlying hus, run_underlying hut, Sem.run_pure, Result.andThen_ok, wrap_inU hin]
      · rename_i n hs ht hvx
        cases hr
        rw [hvx] at hx
        have hin : inI n := hc _ rfl
        refine Good.same I (x := .int .i64 n) (.inl ?_) rfl (.int _ _ _)
        generalize he : a.eval x = v at hx
        cases hx
        have hus := (hΓ s S hS).und_int hs
        have hut := (hΓ t T hT).und_int ht
        unfold execOp
        simp only [ho, he, convert, Conv.intToInt, Sem.run_bind, run_underlying hus, run_underlying hut, Sem.run_pure, Result.andThen_ok, wrap_inI hin]
      · cases hr
    · cases hr
  case makeInterface t x =>
    cases hT : tyOf Γ t with
    | none => simp [hT] at hr
    | some T =>
    simp only [hT] at hr
    have hr' : r = R.val (.ifc t (val x)) ∧ (∀ ms, P.underlying t ≠ some (.interface ms)) := by
      obtain ⟨d, h1, h2⟩ := (hΓ t T hT).desc
      cases hd : T.d <;> rw [hd] at hr h2 <;> simp only [DsOk] at h2 <;> (try (cases hr; done)) <;> cases hr <;> refine ⟨rfl, fun ms hms => ?_⟩ <;> rw [h1] at hms <;> cases hms
      all_goals first | (cases h2; done) | (obtain ⟨_, h2, _⟩ := h2; cases h2; done) | (obtain ⟨_, _, _, h2⟩ := h2; cases h2; done) | exact h2.2.2 _ rfl
    obtain ⟨rfl, hni⟩ := hr'
    refine Good.same I (x := .iface t (a.eval x)) (.inl ?_) rfl (.ifc _ _ _ _ (hv x (by rw [ho]; simp [Op.operands])))
    obtain ⟨d, h1, _⟩ := (hΓ t T hT).desc
    unfold execOp
    simp only [ho, Instr.makeInterface, Sem.run_bind, run_underlying h1, Result.andThen_ok]
    cases d <;> first | rfl | exact absurd h1 (hni _)
  case makeFunc f fs cs =>
    cases hr
    have h1 := mapAV_rel fs.toList (fun x hx => hv x (by rw [ho]; simp only [Op.operands]; exact Array.mem_append.2 (.inl (by simpa using hx))))
    have h2 := mapAV_rel cs.toList (fun x hx => hv x (by rw [ho]; simp only [Op.operands]; exact Array.mem_append.2 (.inr (by simpa using hx))))
    refine Good.same I (x := .func f (fs.toList.map a.eval).toArray (cs.toList.map a.eval).toArray) (.inl ?_) rfl (.fn _ _ _ _ _ _ h1.1 h2.1 h1.2 h2.2)
    unfold execOp
    have e1 : fs.map a.eval = (fs.toList.map a.eval).toArray := by apply Array.ext'; simp
    have e2 : cs.map a.eval = (cs.toList.map a.eval).toArray := by apply Array.ext'; simp
    simp only [ho, Instr.makeFunc, e1, e2]
    rfl
  case makeMap t rs =>
    cases rs with
    | some _ => simp at hr
    | none =>
    simp only [] at hr
    cases hT : tyOf Γ t with
    | none => simp [hT] at hr
    | some T =>
    simp only [hT] at hr
    cases hd : T.d <;> simp only [hd] at hr <;> (try (cases hr; done))
    rename_i k e
    cases hE : tyOf Γ e with
    | none => simp [hE] at hr
    | some E =>
    simp only [hE] at hr
    cases hf : fresh mg o with
    | none => simp [hf] at hr
    | some d =>
    simp only [hf] at hr
    cases hr
    have hdn := (hm d (by simp)).trans (fresh_spec hf).2
    have I' := I.allocOwn hdn (.map #[] 0) (.blk w.heap.size) (.map E.zeroV (fun _ => false) (fun _ => zeroA E) 0) (fun b hb => (Option.some.inj hb).symm)
      ⟨w.heap.size, [], 0, [], upd_same _ _ _, heap_alloc_new w _, by simp, rfl, rfl, by simp, by simp, by simp, by simp, fun k _ => Rel.zeroA (hΓ e E hE) h ρ0, by simp⟩
    refine ⟨.map (some w.heap.size), _, _, _, .inl ?_, I', .mp _ _ _ (upd_same _ _ _)⟩
    unfold execOp
    simp [ho, Instr.makeMap]
  case makeSlice t l c =>
    cases hT : tyOf Γ t with
    | none => simp [hT] at hr
    | some T =>
    simp only [hT] at hr
    cases hd : T.d <;> simp only [hd] at hr <;> (try (cases hr; done))
    rename_i e
    cases hE : tyOf Γ e with
    | none => simp [hE] at hr
    | some E =>
    simp only [hE] at hr
    split at hr
    · rename_i n m hvl hvc
      cases hf : fresh mg o with
      | none => simp [hf] at hr
      | some d =>
      simp only [hf] at hr
      split at hr
      · rename_i ty sz hgo
        cases hr
        unfold gridOf at hgo
        split at hgo
        rotate_left
        · cases hgo
        split at hgo
        rotate_left
        · cases hgo
        split at hgo
        rotate_left
        · cases hgo
        split at hgo
        rotate_left
        · cases hgo
        rename_i hz
        split at hgo
        rotate_left
        · cases hgo
        rename_i hb1
        cases hgo
        exact ev_makeGrid hΓ I ho hT hd hE hz (Nat.eq_of_beq_eq_true hb1) _ _ (hvl ▸ hv l (by rw [ho]; simp [Op.operands])) (hvc ▸ hv c (by rw [ho]; simp [Op.operands])) ((hm d (by simp)).trans (fresh_spec hf).2) (hc _ rfl) (room_max (hc _ rfl).2.2)
      · cases hr
        exact ev_makeSlice hΓ I ho hT hd hE (hvl ▸ hv l (by rw [ho]; simp [Op.operands])) (hvc ▸ hv c (by rw [ho]; simp [Op.operands])) ((hm d (by simp)).trans (fresh_spec hf).2) (hc _ rfl) (room_max (hc _ rfl).2.2)
    · cases hr
  case slice t x lo hi mx =>
    split at hr
    · rename_i id n hvx
      exact ev_sliceB hΓ I ho hv hvx hr hm hc
    · cases mx with
      | some _ => simp at hr
      | none => exact ev_slice hΓ I ho hv hr hc
  case fieldAddr t p k =>
    cases hT : tyOf Γ t with
    | none => simp [hT] at hr
    | some T =>
    simp only [hT] at hr
    cases hd : T.d <;> simp only [hd] at hr <;> (try (cases hr; done))
    rename_i fs
    split at hr
    · rename_i off ft hn
      split at hr
      · rename_i FT hFT
        split at hr
        · cases hr
        · rename_i hs
          split at hr
          · rename_i v hv'
            cases hr
            exact ev_fieldAddr hΓ I ho hT hd hn hFT (by omega) (hv p (by rw [ho]; simp [Op.operands])) hv'
          · cases hr
      · cases hr
    · cases hr
  case field t x k =>
    cases hT : tyOf Γ t with
    | none => simp [hT] at hr
    | some T =>
    simp only [hT] at hr
    cases hd : T.d <;> simp only [hd] at hr <;> (try (cases hr; done))
    rename_i fs
    split at hr
    · rename_i off ft hn
      split at hr
      · rename_i FT hFT
        split at hr
        · rename_i cs hvx
          split at hr
          · rename_i q hq
            split at hr
            · rename_i v hv'
              cases hr
              exact ev_field hΓ I ho hT hd hn hFT (hvx ▸ hv x (by rw [ho]; simp [Op.operands])) hq hv'
            · cases hr
          · cases hr
        · cases hr
      · cases hr
    · cases hr
  case indexAddr t x i =>
    have hx := hv x (by rw [ho]; simp [Op.operands])
    have hi := hv i (by rw [ho]; simp [Op.operands])
    unfold evIndexAddr at hr
    cases hT : tyOf Γ t with
    | none => simp [hT] at hr
    | some T =>
    simp only [hT] at hr
    cases hvi : val i <;> simp only [hvi] at hr <;> (try (cases hr; done))
    rename_i kk q
    cases kk <;> (try simp only [] at hr) <;> (try (cases hr; done))
    rw [hvi] at hi
    cases hd : T.d <;> simp only [hd] at hr <;> (try (cases hr; done))
    case slice e =>
      cases hE : tyOf Γ e with
      | none => simp [hE] at hr
      | some E =>
      simp only [hE] at hr
      cases hvx : val x <;> simp only [hvx] at hr <;> (try (cases hr; done)) <;> rw [hvx] at hx
      case ro sz n el =>
        split at hr
        · rename_i hb
          split at hr
          · rename_i cs hsp
            cases hr
            have := spine_eq hsp
            subst this
            exact ev_indexAddr_ro hΓ I ho hT hd hE hx (Nat.eq_of_beq_eq_true hb) hi (hc _ rfl)
          · cases hr
        · cases hr
      case buf id n =>
        cases hg : mg id with
        | none => simp [hg] at hr
        | some bl =>
        cases bl <;> simp only [hg] at hr <;> (try (cases hr; done))
        rename_i ty sz n' el
        split at hr
        · rename_i hb
          cases hr
          exact ev_indexAddr_buf hΓ I ho hT hd hE hx ((hm id (by simp)).trans hg) (Nat.eq_of_beq_eq_true hb) hi (hc _ rfl)
        · cases hr
      case gb id n =>
        cases hg : mg id with
        | none => simp [hg] at hr
        | some bl =>
        cases bl <;> simp only [hg] at hr <;> (try (cases hr; done))
        split at hr
        · rename_i hb
          cases hr
          exact ev_indexAddr_gb hΓ I ho hT hd hE hx ((hm id (by simp)).trans hg) (Nat.eq_of_beq_eq_true hb) hi (hc _ rfl)
        · cases hr
      case gr' id i0 k =>
        cases hg : mg id with
        | none => simp [hg] at hr
        | some bl =>
        cases bl <;> simp only [hg] at hr <;> (try (cases hr; done))
        split at hr
        · rename_i hb
          cases hr
          exact ev_indexAddr_gr hΓ I ho hT hd hE hx ((hm id (by simp)).trans hg) (Nat.eq_of_beq_eq_true hb) hi (hc _ rfl)
        · cases hr
    case array n e =>
      cases hE : tyOf Γ e with
      | none => simp [hE] at hr
      | some E =>
      simp only [hE] at hr
      split at hr
      · rename_i p hp
        cases hr
        exact ev_indexAddr_array hΓ I ho hT hd hE hx hi hp (hc _ rfl)
      · cases hr
  case index t x i =>
    cases hT : tyOf Γ t with
    | none => simp [hT] at hr
    | some T =>
    simp only [hT] at hr
    cases hd : T.d <;> simp only [hd] at hr <;> (try (cases hr; done))
    rename_i n e
    cases hE : tyOf Γ e with
    | none => simp [hE] at hr
    | some E =>
    simp only [hE] at hr
    split at hr
    · rename_i cs q hvx hvi
      split at hr
      · rename_i rr hrr
        split at hr
        · rename_i v hv'
          cases hr
          exact ev_index hΓ I ho hT hd hE (hvx ▸ hv x (by rw [ho]; simp [Op.operands])) (hvi ▸ hv i (by rw [ho]; simp [Op.operands])) hrr hv' (hc _ rfl)
        · cases hr
      · cases hr
    · cases hr
  case lookup t m k ok => exact ev_lookup hΓ I ho (hv m (by rw [ho]; simp [Op.operands])) (hv k (by rw [ho]; simp [Op.operands])) hr hm hc
  case mapUpdate t m k x => exact ev_mapSet hΓ I (.inl ho) (hv m (by rw [ho]; simp [Op.operands])) (hv k (by rw [ho]; simp [Op.operands])) (hv x (by rw [ho]; simp [Op.operands])) hr hm
  case insert t m k x => exact ev_mapSet hΓ I (.inr ho) (hv m (by rw [ho]; simp [Op.operands])) (hv k (by rw [ho]; simp [Op.operands])) (hv x (by rw [ho]; simp [Op.operands])) hr hm
  case extract t i =>
    have hx := hv t (by rw [ho]; simp [Op.operands])
    split at hr
    · rename_i vs hvx
      rw [hvx] at hx
      split at hr
      · rename_i v hn
        cases hr
        generalize he : a.eval t = u at hx
        cases hx with
        | tup _ _ us hl hcc =>
          obtain ⟨z, hz, hrel⟩ := RelL.get ⟨hl, hcc⟩ (nthN_get hn)
          refine Good.same I (.inl ?_) rfl hrel
          unfold execOp
          simp [ho, he, Instr.extract, hz]
      · cases hr
    · cases hr
  case call c =>
    obtain ⟨callee, args, ts⟩ := c
    cases callee with
    | value f => rw [ho] at hcall; simp [isCall] at hcall
    | invoke r m => simp at hr
    | builtin b => exact ev_builtin hΓ I ho hv hr hm hc
end
end Go.Av
