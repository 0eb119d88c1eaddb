/- Regions: operations under guards; one after another; in any order. -/
import Derived.Test.YtnaodipmfaglfaaAvN
import Derived.OrdersIn
set_option linter.all false
namespace Go.Av
def evO (F : Fr) : Operand → AV
  | .tmp t => F t
  | .const v => ofVal v
  | .func f => .fn (.func f) [] []
  | .global _ => .any
def stripV : AV → AV
  | .cnd _ v => v
  | v => v
def needs (F : Fr) (W : Bool) : List Operand → List Prop
  | [] => []
  | x :: r => match evO F x with
    | .cnd G _ => (W = true → G = true) :: needs F W r
    | _ => needs F W r
inductive Gd where
  | free | on (W : Bool)
def guardOf (ops : List Oper) (F : Fr) (o : Oper) : Option Gd := match o.guard with
  | none => some .free
  | some (j, pol) => match nthN j ops with
    | some oj => match oj.dst with
      | some d => match F d with
        | .bool b => match pol with
          | true => some (.on b)
          | false => some (.on (!b))
        | .cnd G (.bool b) => match pol with
          | true => some (.on (G && b))
          | false => some (.on (G && !b))
        | _ => none
      | none => none
    | none => none
def BSim (x y : Blk) : Prop := ∀ h ρ id w, BlkOk h ρ id x w → BlkOk h ρ id y w
theorem BSim.refl (x : Blk) : BSim x x := fun _ _ _ _ h => h
theorem BSim.of_eq {x y : Blk} (h : x = y) : BSim x y := h ▸ BSim.refl x
def backs (mg : Mm) (W : Bool) : List (Nat × Blk) → Option (List Prop)
  | [] => some []
  | (i, b) :: r => match mg i with
    | some b0 => match backs mg W r with
      | some l => some ((W = false → BSim b0 b) :: l)
      | none => none
    | none => none
structure OpRes where
  v : AV
  rd : List Nat
  wr : List (Nat × Blk)
  cs : List Prop
  rq : Option (Option Bool × FuncId × List AV × List (Nat × Blk))
def pickArm (F : Fr) (q : Prop) (x : Operand) : Option (Bool × List Prop) := match evO F x with
  | .bool a => some (a, [])
  | .cnd G (.bool a) => some (a, [q → G = true])
  | _ => none
def pickVal (p a b : Bool) (x y : Operand) : Option Bool := match y with
  | .const (.bool false) => some (p && a)
  | _ => match x with
    | .const (.bool true) => some (p || b)
    | _ => some (bif p then a else b)
def evPickG (F : Fr) (c x y : Operand) : Option (Bool × Option Bool × List Prop) := match evO F c with
  | .bool p => match pickArm F (p = true) x with
    | some (a, l1) => match pickArm F (p = false) y with
      | some (b, l2) => match pickVal p a b x y with
        | some v => match l1 with
          | [] => some (v, none, l2)
          | q :: _ => some (v, none, q :: l2)
        | none => none
      | none => none
    | none => none
  | .cnd G (.bool p) => match pickArm F (p = true) x with
    | some (a, l1) => match pickArm F (p = false) y with
      | some (b, l2) => match pickVal p a b x y with
        | some v => match l1 with
          | [] => some (v, some G, l2)
          | q :: _ => some (v, some G, q :: l2)
        | none => none
      | none => none
    | none => none
  | _ => none
def under (W : Bool) : List Prop → List Prop
  | [] => []
  | q :: r => (W = true → q) :: under W r
def opR (Γ : Tys) (own : List Nat) (ops : List Oper) (F : Fr) (M : Mm) (o : Oper) (rv : Option RV) : Option OpRes := match guardOf ops F o with
  | none => none
  | some .free => match o.op with
    | .pick c x y => match evPickG F c x y with
      | some (b, none, cs) => some ⟨.bool b, [], [], cs, none⟩
      | _ => none
    | _ => match evalOp Γ own (evO F) M o rv with
      | some ⟨v, rd, wr, c, q⟩ => match c with
        | none => match q with
          | none => some ⟨v, rd, wr, [], none⟩
          | some (f, xs) => some ⟨v, rd, wr, [], some (none, f, xs)⟩
        | some c => match q with
          | none => some ⟨v, rd, wr, [c], none⟩
          | some (f, xs) => some ⟨v, rd, wr, [c], some (none, f, xs)⟩
      | none => none
  | some (.on W) => match o.op with
    | .pick c x y => match evPickG F c x y with
      | some (b, none, cs) => some ⟨.cnd W (.bool b), [], [], under W cs, none⟩
      | some (b, some G, cs) => some ⟨.cnd W (.bool b), [], [], (W = true → G = true) :: under W cs, none⟩
      | none => none
    | _ => match evalOp Γ own (fun y => stripV (evO F y)) M o rv with
      | some ⟨v, rd, wr, c, q⟩ => match wr with
        | [] => match c with
          | none => match q with
            | none => some ⟨.cnd W v, rd, [], needs F W o.op.operands.toList, none⟩
            | some (f, xs) => some ⟨.cnd W v, rd, [], needs F W o.op.operands.toList, some (some W, f, xs)⟩
          | some c => match q with
            | none => some ⟨.cnd W v, rd, [], (W = true → c) :: needs F W o.op.operands.toList, none⟩
            | some (f, xs) => some ⟨.cnd W v, rd, [], (W = true → c) :: needs F W o.op.operands.toList, some (some W, f, xs)⟩
        | _ :: _ => match allIn rd (keysB wr) with
          | true => match noDup (keysB wr) with
            | true => match backs M W wr with
              | some bs => match c with
                | none => match q with
                  | some (f, xs) => some ⟨.cnd W v, rd, wr, bs ++ needs F W o.op.operands.toList, some (some W, f, xs)⟩
                  | none => none
                | some _ => none
              | none => none
            | false => none
          | false => none
      | none => none
inductive AllP : List Prop → Prop
  | nil : AllP []
  | cons {q : Prop} {r : List Prop} : q → AllP r → AllP (q :: r)
theorem AllP.mem {l : List Prop} (H : AllP l) : ∀ q, q ∈ l → q := by
  induction H with
  | nil => intro q hq; cases hq
  | cons h _ ih =>
    intro q hq
    cases hq with
    | head => exact h
    | tail _ hq => exact ih q hq
theorem needs_mem {F : Fr} {W : Bool} : ∀ {xs : List Operand} {x : Operand} {G : Bool} {v : AV}, x ∈ xs → evO F x = .cnd G v → (W = true → G = true) ∈ needs F W xs
  | y :: ys, x, G, v, hx, he => by
    unfold needs
    rcases List.mem_cons.1 hx with rfl | hx
    · rw [he]; exact List.mem_cons_self ..
    · have := needs_mem (W := W) hx he
      split
      · exact List.mem_cons_of_mem _ this
      · exact this
theorem under_mem {W : Bool} : ∀ {l : List Prop} {q : Prop}, q ∈ l → (W = true → q) ∈ under W l
  | y :: ys, q, hq => by
    unfold under
    rcases List.mem_cons.1 hq with rfl | hq
    · exact List.mem_cons_self ..
    · exact List.mem_cons_of_mem _ (under_mem hq)
section
variable {P : Program} {N : Nat} {Γ : Tys} {own : List Nat} {ops : Array Oper}
def OpOk (P : Program) (N : Nat) (ops : Array Oper) (F : Fr) (M : Mm) (o : Oper) (r : OpRes) : Prop :=
  ∀ (C : Ctx) (h : Hp) (ρ : Rho) (F' : Fr) (M' : Mm) (g : Nat) (a : Act) (w : World), InvH N C h ρ F' M' g a w → (∀ t, t ∈ o.looksAt ops → F' t = F t) → (∀ id, id ∈ r.rd → M' id = M id) →
    ∀ (rr : Option Nat) (n : Nat) (K : Act → World → Prop) (Q : Exit → Act → World → Prop), (∀ x h' ρ' w', InvH N C h' ρ' F' (updL M' r.wr) g a w' → Rel h' ρ' r.v x → K (a.put o.dst x) w') →
      if Region.wanted o (yielded ops a.tmps) then o.wpIn (Fw rr) n P a w K Q else (∀ f, o.about P w a.eval = some f → (Fw rr).fn f) ∧ K (a.put o.dst undef) w
theorem mem_looks {o : Oper} {t : Nat} (h : Operand.tmp t ∈ o.op.operands) : t ∈ o.looksAt ops :=
  List.mem_append_left _ (List.mem_filterMap.2 ⟨.tmp t, by simpa using h, rfl⟩)
theorem evO_rel {C : Ctx} {h : Hp} {ρ : Rho} {F F' : Fr} {M' : Mm} {g : Nat} {a : Act} {w : World} {o : Oper} (I : InvH N C h ρ F' M' g a w) (hF : ∀ t, t ∈ o.looksAt ops → F' t = F t) {y : Operand} (hy : y ∈ o.op.operands) : Rel h ρ (evO F y) (a.eval y) := by
  cases y with
  | tmp t =>
    have := I.slot t
    rw [hF t (mem_looks hy)] at this
    exact this
  | const v => exact Rel.ofVal h ρ v
  | func f => exact .fn _ _ _ _ [] [] rfl rfl (fun i c v hc => by simp at hc) (fun i c v hc => by simp at hc)
  | global g => exact .any _ _
theorem bool_slot {C : Ctx} {h : Hp} {ρ : Rho} {F' : Fr} {M' : Mm} {g : Nat} {a : Act} {w : World} (I : InvH N C h ρ F' M' g a w) {d : Nat} {b : Bool} (hb : Rel h ρ (.bool b) (a.tmps.getD d undef)) : a.tmps[d]? = some (.bool b) := by
  cases hd : a.tmps[d]? with
  | none =>
    simp [hd] at hb
    cases hb
  | some x =>
    simp [hd] at hb
    cases hb; rfl
theorem guardOf_sound {C : Ctx} {h : Hp} {ρ : Rho} {F F' : Fr} {M' : Mm} {g : Nat} {a : Act} {w : World} {o : Oper} (I : InvH N C h ρ F' M' g a w) (hF : ∀ t, t ∈ o.looksAt ops → F' t = F t) {gd : Gd} (hg : guardOf ops.toList F o = some gd) :
    (gd = .free → Region.wanted o (yielded ops a.tmps) = true) ∧ ∀ W, gd = .on W → Region.wanted o (yielded ops a.tmps) = W := by
  unfold guardOf at hg
  cases ho : o.guard with
  | none =>
    simp only [ho] at hg; cases hg
    exact ⟨fun _ => by unfold Region.wanted; rw [ho], fun W h => by cases h⟩
  | some jp =>
  obtain ⟨j, pol⟩ := jp
  simp only [ho] at hg
  cases hj : nthN j ops.toList with
  | none => simp [hj] at hg
  | some oj =>
  simp only [hj] at hg
  cases hd : oj.dst with
  | none => simp [hd] at hg
  | some d =>
  simp only [hd] at hg
  have hjo : ops[j]? = some oj := by rw [← Array.getElem?_toList]; exact nthN_get hj
  have hlook : d ∈ o.looksAt ops := by
    refine List.mem_append_right _ ?_
    rw [ho]; simp [hjo, hd]
  have hsl := I.slot d
  rw [hF d hlook] at hsl
  have hw : ∀ b, a.tmps[d]? = some (.bool b) → Region.wanted o (yielded ops a.tmps) = (b == pol) := by
    intro b hb
    unfold Region.wanted
    rw [ho]
    simp only [yielded, hjo, Option.bind_some, hd, hb]
    cases b <;> cases pol <;> rfl
  have hun : a.tmps.getD d undef = undef → Region.wanted o (yielded ops a.tmps) = false := by
    intro hu
    unfold Region.wanted
    rw [ho]
    have : yielded ops a.tmps j = none := by
      unfold yielded
      simp only [hjo, Option.bind_some, hd]
      cases ht : a.tmps[d]? with
      | none => rfl
      | some x =>
        simp [ht] at hu
        subst hu; rfl
    simp only [this]
    rfl
  cases hFd : F d <;> simp only [hFd] at hg <;> (try (cases hg; done))
  case bool b =>
    rw [hFd] at hsl
    have := hw b (bool_slot I hsl)
    cases pol <;> simp only [] at hg <;> cases hg <;> refine ⟨fun h => (by cases h), fun W h => ?_⟩ <;> cases h <;> rw [this] <;> cases b <;> rfl
  case cnd G v =>
    rw [hFd] at hsl
    cases v <;> simp only [] at hg <;> (try (cases hg; done))
    rename_i b
    cases hsl with
    | cnd _ _ _ _ ht hf =>
    cases G with
    | true =>
      have := hw b (bool_slot I (ht rfl))
      cases pol <;> simp only [] at hg <;> cases hg <;> refine ⟨fun h => (by cases h), fun W h => ?_⟩ <;> cases h <;> rw [this] <;> cases b <;> rfl
    | false =>
      have := hun (hf rfl)
      cases pol <;> simp only [] at hg <;> cases hg <;> refine ⟨fun h => (by cases h), fun W h => ?_⟩ <;> cases h <;> rw [this] <;> rfl
theorem pickVal_eq {p a b v : Bool} {x y : Operand} (h : pickVal p a b x y = some v) (hx : ∀ u, x = .const (.bool u) → a = u) (hy : ∀ u, y = .const (.bool u) → b = u) : v = bif p then a else b := by
  unfold pickVal at h
  split at h
  · cases h
    have := hy false rfl
    subst this
    cases p <;> rfl
  · split at h
    · cases h
      have := hx true rfl
      subst this
      cases p <;> rfl
    · cases h; rfl
theorem pickArm_sound {C : Ctx} {h : Hp} {ρ : Rho} {F F' : Fr} {M' : Mm} {g : Nat} {a : Act} {w : World} {o : Oper} (I : InvH N C h ρ F' M' g a w) (hF : ∀ t, t ∈ o.looksAt ops → F' t = F t) {y : Operand} (hy : y ∈ o.op.operands) {q : Prop} {b : Bool} {l : List Prop}
    (hp : pickArm F q y = some (b, l)) : l.length ≤ 1 ∧ ((∀ p, p ∈ l → p) → q → a.eval y = .bool b) ∧ ∀ u, y = .const (.bool u) → b = u := by
  have hr := evO_rel I hF hy
  unfold pickArm at hp
  cases he : evO F y <;> simp only [he] at hp <;> (try (cases hp; done))
  case bool b' =>
    cases hp
    rw [he] at hr
    refine ⟨by simp, fun _ _ => ?_, fun u hu => ?_⟩
    · generalize a.eval y = z at hr; cases hr; rfl
    · subst hu; simp [evO, ofVal] at he; exact he.symm
  case cnd G v =>
    cases v <;> simp only [] at hp <;> (try (cases hp; done))
    rename_i b'
    cases hp
    rw [he] at hr
    refine ⟨by simp, fun hl hq => ?_, fun u hu => ?_⟩
    · cases hr with
      | cnd _ _ _ _ ht hf =>
      have := ht (hl (q → G = true) (by simp) hq)
      generalize a.eval y = z at this; cases this; rfl
    · subst hu; simp [evO, ofVal] at he
theorem evPickG_sound {C : Ctx} {h : Hp} {ρ : Rho} {F F' : Fr} {M' : Mm} {g : Nat} {a : Act} {w : World} {o : Oper} {c x y : Operand} (I : InvH N C h ρ F' M' g a w) (hF : ∀ t, t ∈ o.looksAt ops → F' t = F t) (ho : o.op = .pick c x y) {v : Bool} {G : Option Bool} {l : List Prop}
    (hp : evPickG F c x y = some (v, G, l)) (hl : ∀ q, q ∈ l → q) (hG : ∀ b, G = some b → b = true) : (execOp a.eval o).run P w = .ok (.value (.bool v)) w := by
  have hc : c ∈ o.op.operands := by rw [ho]; simp [Op.operands]
  have hx : x ∈ o.op.operands := by rw [ho]; simp [Op.operands]
  have hy : y ∈ o.op.operands := by rw [ho]; simp [Op.operands]
  have hcr := evO_rel I hF hc
  have key : ∀ p a' b' l1 l2, a.eval c = .bool p → pickArm F (p = true) x = some (a', l1) → pickArm F (p = false) y = some (b', l2) → pickVal p a' b' x y = some v → (∀ q, q ∈ l1 → q) → (∀ q, q ∈ l2 → q) →
      (execOp a.eval o).run P w = .ok (.value (.bool v)) w := by
    intro p a' b' l1 l2 he h1 h2 h3 hl1 hl2
    obtain ⟨_, ha, hau⟩ := pickArm_sound I hF hx h1
    obtain ⟨_, hb, hbu⟩ := pickArm_sound I hF hy h2
    have hv := pickVal_eq h3 hau hbu
    subst hv
    unfold execOp
    simp only [ho, he]
    cases p with
    | true => rw [ha hl1 rfl]; rfl
    | false => rw [hb hl2 rfl]; rfl
  have fin : ∀ p G', a.eval c = .bool p → (match pickArm F (p = true) x with
    | some (a, l1) => match pickArm F (p = false) y with
      | some (b, l2) => match pickVal p a b x y with
        | some v => match l1 with
          | [] => some (v, G', l2)
          | q :: _ => some (v, G', q :: l2)
        | none => none
      | none => none
    | none => none) = some (v, G, l) → (execOp a.eval o).run P w = .ok (.value (.bool v)) w := by
    intro p G' he hp
    cases h1 : pickArm F (p = true) x with
    | none => simp [h1] at hp
    | some q1 =>
    obtain ⟨a', l1⟩ := q1
    simp only [h1] at hp
    cases h2 : pickArm F (p = false) y with
    | none => simp [h2] at hp
    | some q2 =>
    obtain ⟨b', l2⟩ := q2
    simp only [h2] at hp
    cases h3 : pickVal p a' b' x y with
    | none => simp [h3] at hp
    | some v' =>
    simp only [h3] at hp
    have hlen := (pickArm_sound I hF hx h1).1
    cases l1 with
    | nil =>
      simp only [] at hp; cases hp
      exact key p a' b' [] _ he h1 h2 h3 (fun q hq => by cases hq) hl
    | cons q1 l1 =>
      simp only [] at hp; cases hp
      have : l1 = [] := by simpa using hlen
      subst this
      exact key p a' b' [q1] _ he h1 h2 h3 (fun q hq => hl q (by simp at hq; simp [hq])) (fun q hq => hl q (by simp [hq]))
  unfold evPickG at hp
  cases hec : evO F c <;> simp only [hec] at hp <;> (try (cases hp; done))
  case bool p =>
    rw [hec] at hcr
    exact fin p none (by generalize a.eval c = z at hcr; cases hcr; rfl) hp
  case cnd G0 v0 =>
    cases v0 <;> simp only [] at hp <;> (try (cases hp; done))
    rename_i p
    rw [hec] at hcr
    have hG0 : G = some G0 := by
      split at hp
      · split at hp
        · split at hp
          · split at hp <;> cases hp <;> rfl
          · cases hp
        · cases hp
      · cases hp
    have := hG _ hG0
    subst this
    cases hcr with
    | cnd _ _ _ _ ht hf =>
    have := ht rfl
    exact fin p (some true) (by generalize a.eval c = z at this; cases this; rfl) hp
theorem InvH.bsim {C : Ctx} {h : Hp} {ρ : Rho} {F : Fr} {g : Nat} {a : Act} {w : World} : ∀ {wr : List (Nat × Blk)} {M : Mm}, noDup (keysB wr) = true → (∀ i, i ∈ keysB wr → ∃ b0 b, M i = some b0 ∧ mm wr i = some b ∧ BSim b0 b) → InvH N C h ρ F M g a w → InvH N C h ρ F (updL M wr) g a w := by
  intro wr M hn H I
  refine { I with blk := fun id x hx => ?_, dom := fun id hx => ?_ }
  · by_cases hi : id ∈ keysB wr
    · rw [updL_keys hn hi] at hx
      obtain ⟨b0, b, h1, h2, h3⟩ := H id hi
      rw [hx] at h2; cases h2
      exact h3 _ _ _ _ (I.blk id b0 h1)
    · rw [updL_off hi] at hx
      exact I.blk id x hx
  · by_cases hi : id ∈ keysB wr
    · rw [updL_keys hn hi] at hx
      obtain ⟨b0, b, h1, h2, h3⟩ := H id hi
      rw [hx] at h2; cases h2
    · rw [updL_off hi] at hx
      exact I.dom id hx
theorem backs_spec {mg : Mm} {W : Bool} : ∀ {wr : List (Nat × Blk)} {bs : List Prop}, backs mg W wr = some bs → (∀ q, q ∈ bs → q) → W = false → noDup (keysB wr) = true → ∀ i, i ∈ keysB wr → ∃ b0 b, mg i = some b0 ∧ mm wr i = some b ∧ BSim b0 b
  | [], bs, _, _, _, _, i, hi => by cases hi
  | (j, b) :: r, bs, h, hq, hW, hn, i, hi => by
    obtain ⟨n1, n2⟩ := noDup_spec (i := j) (r := keysB r) hn
    simp only [backs] at h
    split at h
    · rename_i b0 hb0
      split at h
      · rename_i l hl
        cases h
        rcases List.mem_cons.1 hi with rfl | h3
        · exact ⟨b0, b, hb0, by simp [mm, upd], hq _ (List.mem_cons_self ..) hW⟩
        · obtain ⟨c0, c, e1, e2, e3⟩ := backs_spec hl (fun q hq' => hq q (List.mem_cons_of_mem _ hq')) hW n2 i h3
          refine ⟨c0, c, e1, ?_, e3⟩
          have hne : i ≠ j := fun e => n1 (e ▸ h3)
          simp only [mm]
          rw [upd_other _ _ hne]
          exact e2
      · cases h
    · cases h
theorem opR_sound (hΓ : TysOk P Γ) (hdep : 8 ≤ P.depth) {F : Fr} {M : Mm} {o : Oper} {rv : Option RV} {r : OpRes} (hr : opR Γ own ops.toList F M o rv = some r) (hcs : ∀ q, q ∈ r.cs → q)
    (hrq : ∀ gd f xs rv0, r.rq = some (gd, f, xs) → rv = some rv0 → (∀ W, gd = some W → W = true) → CtrG P f xs rv0.v rv0.B) (hnd : ∀ c, o.op ≠ .defer c) : OpOk P N ops F M o r := by
  intro C h ρ F' M' g a w I hF hM rr n K Q hK
  unfold opR at hr
  cases hgd : guardOf ops.toList F o with
  | none => rw [hgd] at hr; simp at hr
  | some gd =>
  obtain ⟨hfree, hon⟩ := guardOf_sound I hF hgd
  rw [hgd] at hr
  -- what a sound operation gives
  have fin : ∀ {val : Operand → AV} {r0 : R}, evalOp Γ own val M o rv = some r0 → (∀ y, y ∈ o.op.operands → Rel h ρ (val y) (a.eval y)) → (∀ id, id ∈ r0.rd → M' id = M id) → (∀ q, r0.cs = some q → q) →
      (∀ f xs rv0, r0.rq = some (f, xs) → rv = some rv0 → CtrG P f xs rv0.v rv0.B) → StepIn P N C F' M' g a o w r0.v r0.wr := by
    intro val r0 he hv hm hc hq
    cases hcall : isCall o.op with
    | false => exact (evalOp_sound hΓ hdep I hv he hm hc hcall).stepIn hnd
    | true =>
      have : ∃ f args ts, o.op = .call ⟨.value f, args, ts⟩ := by
        cases ho : o.op <;> rw [ho] at hcall <;> (try (simp [isCall] at hcall; done))
        rename_i c
        obtain ⟨callee, args, ts⟩ := c
        cases callee <;> first | exact ⟨_, _, _, rfl⟩ | (simp [isCall] at hcall; done)
      obtain ⟨f, args, ts, ho⟩ := this
      cases rv with
      | none =>
        exfalso
        unfold evalOp at he
        simp only [ho] at he
        split at he <;> simp [evCall, evClo] at he
      | some rv0 => exact evCall_sound I ho hv he hm hc (fun f xs h => hq f xs rv0 h rfl)
  cases gd with
  | free =>
    rw [if_pos (hfree rfl)]
    simp only [] at hr
    split at hr
    · rename_i c x y ho
      split at hr
      · rename_i b cs hp
        cases hr
        have hrun := evPickG_sound (P := P) (w := w) I hF ho hp hcs (fun b hb => by cases hb)
        exact (Good.same (r := ⟨.bool b, [], [], none, none⟩) I (.inl hrun) rfl (.bool _ _)).stepIn hnd rr n K Q hK
      · cases hr
    · split at hr
      · rename_i v rd wr c q he
        have hv : ∀ y, y ∈ o.op.operands → Rel h ρ (evO F y) (a.eval y) := fun y hy => evO_rel I hF hy
        cases c with
        | none =>
          cases q with
          | none => simp only [] at hr; cases hr; exact fin he hv hM (fun q hq => by cases hq) (fun f xs rv0 hq => by cases hq) rr n K Q hK
          | some fx => simp only [] at hr; cases hr; exact fin he hv hM (fun q hq => by cases hq) (fun f xs rv0 hq hv => by cases hq; exact hrq none _ _ rv0 rfl hv (fun W hW => by cases hW)) rr n K Q hK
        | some c =>
          have hc : ∀ q, some c = some q → q := fun q hq => by
            cases hq
            cases q <;> simp only [] at hr <;> cases hr <;> exact hcs _ (by simp)
          cases q with
          | none => simp only [] at hr; cases hr; exact fin he hv hM hc (fun f xs rv0 hq => by cases hq) rr n K Q hK
          | some fx => simp only [] at hr; cases hr; exact fin he hv hM hc (fun f xs rv0 hq hv => by cases hq; exact hrq none _ _ rv0 rfl hv (fun W hW => by cases hW)) rr n K Q hK
      · cases hr
  | on W =>
    have hw := hon W rfl
    rw [hw]
    simp only [] at hr
    split at hr
    · rename_i c x y ho
      split at hr
      · rename_i b cs hp
        cases hr
        cases W with
        | false => exact ⟨fun _ _ => trivial, hK _ h ρ w I (.cnd _ _ _ _ (fun e => by cases e) (fun _ => rfl))⟩
        | true =>
          rw [if_pos rfl]
          have hrun := evPickG_sound (P := P) (w := w) I hF ho hp (fun q hq => hcs _ (under_mem hq) rfl) (fun b hb => by cases hb)
          exact (Good.same (r := ⟨.cnd true (.bool b), [], [], none, none⟩) I (.inl hrun) rfl (.cnd _ _ _ _ (fun _ => .bool _ _) (fun e => by cases e))).stepIn hnd rr n K Q hK
      · rename_i b G cs hp
        cases hr
        cases W with
        | false => exact ⟨fun _ _ => trivial, hK _ h ρ w I (.cnd _ _ _ _ (fun e => by cases e) (fun _ => rfl))⟩
        | true =>
          rw [if_pos rfl]
          have hrun := evPickG_sound (P := P) (w := w) I hF ho hp (fun q hq => hcs _ (List.mem_cons_of_mem _ (under_mem hq)) rfl) (fun b hb => by cases hb; exact hcs _ (List.mem_cons_self ..) rfl)
          exact (Good.same (r := ⟨.cnd true (.bool b), [], [], none, none⟩) I (.inl hrun) rfl (.cnd _ _ _ _ (fun _ => .bool _ _) (fun e => by cases e))).stepIn hnd rr n K Q hK
      · cases hr
    · split at hr
      · rename_i v rd wr c q he
        cases wr with
        | cons x0 l0 =>
          obtain ⟨wr, hwr⟩ : ∃ wr, x0 :: l0 = wr := ⟨_, rfl⟩
          simp only [] at hr
          rw [hwr] at hr he
          split at hr
          · rename_i ha
            split at hr
            · rename_i hn
              split at hr
              · rename_i bs hbs
                split at hr
                · split at hr
                  · rename_i f xs
                    cases hr
                    have hkm : ∀ i, i ∈ keysB wr → M' i = M i := fun i hi => hM i (allIn_spec ha i hi)
                    cases W with
                    | false =>
                      refine ⟨fun _ _ => trivial, hK _ h ρ w (I.bsim hn (fun i hi => ?_)) (.cnd _ _ _ _ (fun e => by cases e) (fun _ => rfl))⟩
                      obtain ⟨b0, b, e1, e2, e3⟩ := backs_spec hbs (fun q hq => hcs q (List.mem_append_left _ hq)) rfl hn i hi
                      exact ⟨b0, b, (hkm i hi).trans e1, e2, e3⟩
                    | true =>
                      rw [if_pos rfl]
                      have hv : ∀ y, y ∈ o.op.operands → Rel h ρ (stripV (evO F y)) (a.eval y) := fun y hy => by
                        have := evO_rel I hF hy
                        cases he : evO F y <;> rw [he] at this <;> simp only [stripV] <;> try exact this
                        rename_i G u
                        cases this with
                        | cnd _ _ _ _ ht hf => exact ht (hcs _ (List.mem_append_right _ (needs_mem (by simpa using hy) he)) rfl)
                      refine fin he hv hM (fun q hq => by cases hq) (fun f xs rv0 hq0 hrv0 => by cases hq0; exact hrq (some true) f xs rv0 rfl hrv0 (fun W hW => by cases hW; rfl)) rr n K Q (fun x h' ρ' w' I' hr' => hK x h' ρ' w' I' ?_)
                      exact .cnd _ _ _ _ (fun _ => hr') (fun e => by cases e)
                  · cases hr
                · cases hr
              · cases hr
            · cases hr
          · cases hr
        | nil =>
        simp only [] at hr
        have hrv : r.v = .cnd W v ∧ r.wr = [] ∧ r.rd = rd := by
          cases c <;> cases q <;> simp only [] at hr <;> cases hr <;> exact ⟨rfl, rfl, rfl⟩
        obtain ⟨e1, e2, e3⟩ := hrv
        cases W with
        | false => exact ⟨fun _ _ => trivial, hK _ h ρ w (by rw [e2]; exact I) (by rw [e1]; exact .cnd _ _ _ _ (fun e => by cases e) (fun _ => rfl))⟩
        | true =>
          rw [if_pos rfl]
          have hneed : ∀ q, q ∈ needs F true o.op.operands.toList → q := fun q0 hq0 => by
            cases c <;> cases q <;> simp only [] at hr <;> cases hr <;> first | exact hcs _ hq0 | exact hcs _ (List.mem_cons_of_mem _ hq0)
          have hv : ∀ y, y ∈ o.op.operands → Rel h ρ (stripV (evO F y)) (a.eval y) := fun y hy => by
            have := evO_rel I hF hy
            cases he : evO F y <;> rw [he] at this <;> simp only [stripV] <;> try exact this
            rename_i G u
            cases this with
            | cnd _ _ _ _ ht hf => exact ht (hneed _ (needs_mem (by simpa using hy) he) rfl)
          have hc : ∀ q, c = some q → q := fun q0 hq0 => by
            subst hq0
            cases q <;> simp only [] at hr <;> cases hr <;> first | exact hcs _ (List.mem_cons_self ..) rfl | exact hcs _ (List.mem_cons_self ..) trivial
          have hq : ∀ f xs rv0, q = some (f, xs) → rv = some rv0 → CtrG P f xs rv0.v rv0.B := fun f xs rv0 hq0 hrv0 => by
            subst hq0
            cases c <;> simp only [] at hr <;> cases hr <;> exact hrq (some true) f xs rv0 rfl hrv0 (fun W hW => by cases hW; rfl)
          refine fin he hv (fun id hid => hM id (by rw [e3]; exact hid)) hc hq rr n K Q (fun x h' ρ' w' I' hr' => hK x h' ρ' w' (by rw [e2]; exact I') ?_)
          rw [e1]
          exact .cnd _ _ _ _ (fun _ => hr') (fun e => by cases e)
      · cases hr
end
end Go.Av
