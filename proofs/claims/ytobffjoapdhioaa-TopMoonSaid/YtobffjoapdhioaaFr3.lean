/- Texts of the framework, or of the plain law, one behind another. -/
import Derived.Test.YtobffjoapdhioaaFr2
import Derived.OrdersIn
import Derived.RangeFuncLeaves
import Derived.RangeFuncRecord
import Derived.RangeFuncOwn
import Derived.Conc.MuLone
import Derived.Test.YtobffjoapdhioaaFr1
import Derived.Scope
/- Regions: operations under guards; one after another; in any order. -/
section
set_option linter.all false
namespace Go.Av
def evO (F : Fr) : Operand → AV
 | .tmp t => F t
 | .const v => ofVal v
 | .func f => .fn (.func f) [] []
 | .global _ => .any
def stripV : AV → AV
 | .cnd _ v => v
 | v => v
def needs (F : Fr) (W : Bool) : List Operand → List Prop
 | [] => []
 | x :: r => match evO F x with
   | .cnd G _ => (W = true → G = true) :: needs F W r
   | _ => needs F W r
inductive Gd where
 | free | on (W : Bool)
def guardOf (ops : List Oper) (F : Fr) (o : Oper) : Option Gd := match o.guard with
 | none => some .free
 | some (j, pol) => match nthN j ops with
   | some oj => match oj.dst with
     | some d => match F d with
       | .bool b => match pol with
         | true => some (.on b)
         | false => some (.on (!b))
       | .cnd G (.bool b) => match pol with
         | true => some (.on (G && b))
         | false => some (.on (G && !b))
       | _ => none
     | none => none
   | none => none
def BSim (x y : Blk) : Prop := ∀ h ρ id w, BlkOk h ρ id x w → BlkOk h ρ id y w
theorem BSim.refl (x : Blk) : BSim x x := fun _ _ _ _ h => h
theorem BSim.of_eq {x y : Blk} (h : x = y) : BSim x y := h ▸ BSim.refl x
def backs (mg : Mm) (W : Bool) : List (Nat × Blk) → Option (List Prop)
 | [] => some []
 | (i, b) :: r => match mg i with
   | some b0 => match backs mg W r with
     | some l => some ((W = false → BSim b0 b) :: l)
     | none => none
   | none => none
structure OpRes where
 v : AV
 rd : List Nat
 wr : List (Nat × Blk)
 cs : List Prop
 rq : Option (Option Bool × FuncId × List AV × List (Nat × Blk))
def pickArm (F : Fr) (q : Prop) (x : Operand) : Option (Bool × List Prop) := match evO F x with
 | .bool a => some (a, [])
 | .cnd G (.bool a) => some (a, [q → G = true])
 | _ => none
def pickVal (p a b : Bool) (x y : Operand) : Option Bool := match y with
 | .const (.bool false) => some (p && a)
 | _ => match x with
   | .const (.bool true) => some (p || b)
   | _ => some (bif p then a else b)
def evPickG (F : Fr) (c x y : Operand) : Option (Bool × Option Bool × List Prop) := match evO F c with
 | .bool p => match pickArm F (p = true) x with
   | some (a, l1) => match pickArm F (p = false) y with
     | some (b, l2) => match pickVal p a b x y with
       | some v => match l1 with
         | [] => some (v, none, l2)
         | q :: _ => some (v, none, q :: l2)
       | none => none
     | none => none
   | none => none
 | .cnd G (.bool p) => match pickArm F (p = true) x with
   | some (a, l1) => match pickArm F (p = false) y with
     | some (b, l2) => match pickVal p a b x y with
       | some v => match l1 with
         | [] => some (v, some G, l2)
         | q :: _ => some (v, some G, q :: l2)
       | none => none
     | none => none
   | none => none
 | _ => none
def under (W : Bool) : List Prop → List Prop
 | [] => []
 | q :: r => (W = true → q) :: under W r
def opR (Γ : Tys) (own : List Nat) (ops : List Oper) (F : Fr) (M : Mm) (o : Oper) (rv : Option RV) : Option OpRes := match guardOf ops F o with
 | none => none
 | some .free => match o.op with
   | .pick c x y => match evPickG F c x y with
     | some (b, none, cs) => some ⟨.bool b, [], [], cs, none⟩
     | _ => none
   | _ => match evalOp Γ own (evO F) M o rv with
     | some ⟨v, rd, wr, c, q⟩ => match c with
       | none => match q with
         | none => some ⟨v, rd, wr, [], none⟩
         | some (f, xs) => some ⟨v, rd, wr, [], some (none, f, xs)⟩
       | some c => match q with
         | none => some ⟨v, rd, wr, [c], none⟩
         | some (f, xs) => some ⟨v, rd, wr, [c], some (none, f, xs)⟩
     | none => none
 | some (.on W) => match o.op with
   | .pick c x y => match evPickG F c x y with
     | some (b, none, cs) => some ⟨.cnd W (.bool b), [], [], under W cs, none⟩
     | some (b, some G, cs) => some ⟨.cnd W (.bool b), [], [], (W = true → G = true) :: under W cs, none⟩
     | none => none
   | _ => match evalOp Γ own (fun y => stripV (evO F y)) M o rv with
     | some ⟨v, rd, wr, c, q⟩ => match wr with
       | [] => match c with
         | none => match q with
           | none => some ⟨.cnd W v, rd, [], needs F W o.op.operands.toList, none⟩
           | some (f, xs) => some ⟨.cnd W v, rd, [], needs F W o.op.operands.toList, some (some W, f, xs)⟩
         | some c => match q with
           | none => some ⟨.cnd W v, rd, [], (W = true → c) :: needs F W o.op.operands.toList, none⟩
           | some (f, xs) => some ⟨.cnd W v, rd, [], (W = true → c) :: needs F W o.op.operands.toList, some (some W, f, xs)⟩
       | _ :: _ => match allIn rd (keysB wr) with
         | true => match noDup (keysB wr) with
           | true => match backs M W wr with
             | some bs => match c with
               | none => match q with
                 | some (f, xs) => some ⟨.cnd W v, rd, wr, bs ++ needs F W o.op.operands.toList, some (some W, f, xs)⟩
                 | none => none
               | some _ => none
             | none => none
           | false => none
         | false => none
     | none => none
inductive AllP : List Prop → Prop
 | nil : AllP []
 | cons {q : Prop} {r : List Prop} : q → AllP r → AllP (q :: r)
theorem AllP.mem {l : List Prop} (H : AllP l) : ∀ q, q ∈ l → q := by
 induction H with
 | nil => intro q hq; cases hq
 | cons h _ ih =>
   intro q hq
   cases hq with
   | head => exact h
   | tail _ hq => exact ih q hq
theorem needs_mem {F : Fr} {W : Bool} : ∀ {xs : List Operand} {x : Operand} {G : Bool} {v : AV}, x ∈ xs → evO F x = .cnd G v → (W = true → G = true) ∈ needs F W xs
 | y :: ys, x, G, v, hx, he => by
   unfold needs
   rcases List.mem_cons.1 hx with rfl | hx
   · rw [he]; exact List.mem_cons_self ..
   · have := needs_mem (W := W) hx he
     split
     · exact List.mem_cons_of_mem _ this
     · exact this
theorem under_mem {W : Bool} : ∀ {l : List Prop} {q : Prop}, q ∈ l → (W = true → q) ∈ under W l
 | y :: ys, q, hq => by
   unfold under
   rcases List.mem_cons.1 hq with rfl | hq
   · exact List.mem_cons_self ..
   · exact List.mem_cons_of_mem _ (under_mem hq)
section
variable {P : Program} {N : Nat} {Γ : Tys} {own : List Nat} {ops : Array Oper}
def OpOk (Z : Ctx → Prop) (P : Program) (N : Nat) (ops : Array Oper) (F : Fr) (M : Mm) (o : Oper) (r : OpRes) : Prop :=
 ∀ (C : Ctx), Z C → ∀ (h : Hp) (ρ : Rho) (F' : Fr) (M' : Mm) (g : Nat) (a : Act) (w : World), InvH N C h ρ F' M' g a w → (∀ t, t ∈ o.looksAt ops → F' t = F t) → (∀ id, id ∈ r.rd → M' id = M id) →
   ∀ (rr : Option Nat) (n : Nat) (K : Act → World → Prop) (Q : Exit → Act → World → Prop), (∀ x h' ρ' w', InvH N C h' ρ' F' (updL M' r.wr) g a w' → Rel h' ρ' r.v x → K (a.put o.dst x) w') →
     if Region.wanted o (yielded ops a.tmps) then o.wpIn (Fw rr) n P a w K Q else (∀ f, o.about P w a.eval = some f → (Fw rr).fn f) ∧ K (a.put o.dst undef) w
theorem mem_looks {o : Oper} {t : Nat} (h : Operand.tmp t ∈ o.op.operands) : t ∈ o.looksAt ops :=
 List.mem_append_left _ (List.mem_filterMap.2 ⟨.tmp t, by simpa using h, rfl⟩)
theorem evO_rel {C : Ctx} {h : Hp} {ρ : Rho} {F F' : Fr} {M' : Mm} {g : Nat} {a : Act} {w : World} {o : Oper} (I : InvH N C h ρ F' M' g a w) (hF : ∀ t, t ∈ o.looksAt ops → F' t = F t) {y : Operand} (hy : y ∈ o.op.operands) : Rel h ρ (evO F y) (a.eval y) := by
 cases y with
 | tmp t =>
   have := I.slot t
   rw [hF t (mem_looks hy)] at this
   exact this
 | const v => exact Rel.ofVal h ρ v
 | func f => exact .fn _ _ _ _ [] [] rfl rfl (fun i c v hc => by simp at hc) (fun i c v hc => by simp at hc)
 | global g => exact .any _ _
theorem bool_slot {C : Ctx} {h : Hp} {ρ : Rho} {F' : Fr} {M' : Mm} {g : Nat} {a : Act} {w : World} (I : InvH N C h ρ F' M' g a w) {d : Nat} {b : Bool} (hb : Rel h ρ (.bool b) (a.tmps.getD d undef)) : a.tmps[d]? = some (.bool b) := by
 cases hd : a.tmps[d]? with
 | none =>
   simp [hd] at hb
   cases hb
 | some x =>
   simp [hd] at hb
   cases hb; rfl
theorem guardOf_sound {C : Ctx} {h : Hp} {ρ : Rho} {F F' : Fr} {M' : Mm} {g : Nat} {a : Act} {w : World} {o : Oper} (I : InvH N C h ρ F' M' g a w) (hF : ∀ t, t ∈ o.looksAt ops → F' t = F t) {gd : Gd} (hg : guardOf ops.toList F o = some gd) :
   (gd = .free → Region.wanted o (yielded ops a.tmps) = true) ∧ ∀ W, gd = .on W → Region.wanted o (yielded ops a.tmps) = W := by
 unfold guardOf at hg
 cases ho : o.guard with
 | none =>
   simp only [ho] at hg; cases hg
   exact ⟨fun _ => by unfold Region.wanted; rw [ho], fun W h => by cases h⟩
 | some jp =>
 obtain ⟨j, pol⟩ := jp
 simp only [ho] at hg
 cases hj : nthN j ops.toList with
 | none => simp [hj] at hg
 | some oj =>
 simp only [hj] at hg
 cases hd : oj.dst with
 | none => simp [hd] at hg
 | some d =>
 simp only [hd] at hg
 have hjo : ops[j]? = some oj := by rw [← Array.getElem?_toList]; exact nthN_get hj
 have hlook : d ∈ o.looksAt ops := by
   refine List.mem_append_right _ ?_
   rw [ho]; simp [hjo, hd]
 have hsl := I.slot d
 rw [hF d hlook] at hsl
 have hw : ∀ b, a.tmps[d]? = some (.bool b) → Region.wanted o (yielded ops a.tmps) = (b == pol) := by
   intro b hb
   unfold Region.wanted
   rw [ho]
   simp only [yielded, hjo, Option.bind_some, hd, hb]
   cases b <;> cases pol <;> rfl
 have hun : a.tmps.getD d undef = undef → Region.wanted o (yielded ops a.tmps) = false := by
   intro hu
   unfold Region.wanted
   rw [ho]
   have : yielded ops a.tmps j = none := by
     unfold yielded
     simp only [hjo, Option.bind_some, hd]
     cases ht : a.tmps[d]? with
     | none => rfl
     | some x =>
       simp [ht] at hu
       subst hu; rfl
   simp only [this]
   rfl
 cases hFd : F d <;> simp only [hFd] at hg <;> (try (cases hg; done))
 case bool b =>
   rw [hFd] at hsl
   have := hw b (bool_slot I hsl)
   cases pol <;> simp only [] at hg <;> cases hg <;> refine ⟨fun h => (by cases h), fun W h => ?_⟩ <;> cases h <;> rw [this] <;> cases b <;> rfl
 case cnd G v =>
   rw [hFd] at hsl
   cases v <;> simp only [] at hg <;> (try (cases hg; done))
   rename_i b
   cases hsl with
   | cnd _ _ _ _ ht hf =>
   cases G with
   | true =>
     have := hw b (bool_slot I (ht rfl))
     cases pol <;> simp only [] at hg <;> cases hg <;> refine ⟨fun h => (by cases h), fun W h => ?_⟩ <;> cases h <;> rw [this] <;> cases b <;> rfl
   | false =>
     have := hun (hf rfl)
     cases pol <;> simp only [] at hg <;> cases hg <;> refine ⟨fun h => (by cases h), fun W h => ?_⟩ <;> cases h <;> rw [this] <;> rfl
theorem pickVal_eq {p a b v : Bool} {x y : Operand} (h : pickVal p a b x y = some v) (hx : ∀ u, x = .const (.bool u) → a = u) (hy : ∀ u, y = .const (.bool u) → b = u) : v = bif p then a else b := by
 unfold pickVal at h
 split at h
 · cases h
   have := hy false rfl
   subst this
   cases p <;> rfl
 · split at h
   · cases h
     have := hx true rfl
     subst this
     cases p <;> rfl
   · cases h; rfl
theorem pickArm_sound {C : Ctx} {h : Hp} {ρ : Rho} {F F' : Fr} {M' : Mm} {g : Nat} {a : Act} {w : World} {o : Oper} (I : InvH N C h ρ F' M' g a w) (hF : ∀ t, t ∈ o.looksAt ops → F' t = F t) {y : Operand} (hy : y ∈ o.op.operands) {q : Prop} {b : Bool} {l : List Prop}
   (hp : pickArm F q y = some (b, l)) : l.length ≤ 1 ∧ ((∀ p, p ∈ l → p) → q → a.eval y = .bool b) ∧ ∀ u, y = .const (.bool u) → b = u := by
 have hr := evO_rel I hF hy
 unfold pickArm at hp
 cases he : evO F y <;> simp only [he] at hp <;> (try (cases hp; done))
 case bool b' =>
   cases hp
   rw [he] at hr
   refine ⟨by simp, fun _ _ => ?_, fun u hu => ?_⟩
   · generalize a.eval y = z at hr; cases hr; rfl
   · subst hu; simp [evO, ofVal] at he; exact he.symm
 case cnd G v =>
   cases v <;> simp only [] at hp <;> (try (cases hp; done))
   rename_i b'
   cases hp
   rw [he] at hr
   refine ⟨by simp, fun hl hq => ?_, fun u hu => ?_⟩
   · cases hr with
     | cnd _ _ _ _ ht hf =>
     have := ht (hl (q → G = true) (by simp) hq)
     generalize a.eval y = z at this; cases this; rfl
   · subst hu; simp [evO, ofVal] at he
theorem evPickG_sound {C : Ctx} {h : Hp} {ρ : Rho} {F F' : Fr} {M' : Mm} {g : Nat} {a : Act} {w : World} {o : Oper} {c x y : Operand} (I : InvH N C h ρ F' M' g a w) (hF : ∀ t, t ∈ o.looksAt ops → F' t = F t) (ho : o.op = .pick c x y) {v : Bool} {G : Option Bool} {l : List Prop}
   (hp : evPickG F c x y = some (v, G, l)) (hl : ∀ q, q ∈ l → q) (hG : ∀ b, G = some b → b = true) : (execOp a.eval o).run P w = .ok (.value (.bool v)) w := by
 have hc : c ∈ o.op.operands := by rw [ho]; simp [Op.operands]
 have hx : x ∈ o.op.operands := by rw [ho]; simp [Op.operands]
 have hy : y ∈ o.op.operands := by rw [ho]; simp [Op.operands]
 have hcr := evO_rel I hF hc
 have key : ∀ p a' b' l1 l2, a.eval c = .bool p → pickArm F (p = true) x = some (a', l1) → pickArm F (p = false) y = some (b', l2) → pickVal p a' b' x y = some v → (∀ q, q ∈ l1 → q) → (∀ q, q ∈ l2 → q) →
     (execOp a.eval o).run P w = .ok (.value (.bool v)) w := by
   intro p a' b' l1 l2 he h1 h2 h3 hl1 hl2
   obtain ⟨_, ha, hau⟩ := pickArm_sound I hF hx h1
   obtain ⟨_, hb, hbu⟩ := pickArm_sound I hF hy h2
   have hv := pickVal_eq h3 hau hbu
   subst hv
   unfold execOp
   simp only [ho, he]
   cases p with
   | true => rw [ha hl1 rfl]; rfl
   | false => rw [hb hl2 rfl]; rfl
 have fin : ∀ p G', a.eval c = .bool p → (match pickArm F (p = true) x with
   | some (a, l1) => match pickArm F (p = false) y with
     | some (b, l2) => match pickVal p a b x y with
       | some v => match l1 with
         | [] => some (v, G', l2)
         | q :: _ => some (v, G', q :: l2)
       | none => none
     | none => none
   | none => none) = some (v, G, l) → (execOp a.eval o).run P w = .ok (.value (.bool v)) w := by
   intro p G' he hp
   cases h1 : pickArm F (p = true) x with
   | none => simp [h1] at hp
   | some q1 =>
   obtain ⟨a', l1⟩ := q1
   simp only [h1] at hp
   cases h2 : pickArm F (p = false) y with
   | none => simp [h2] at hp
   | some q2 =>
   obtain ⟨b', l2⟩ := q2
   simp only [h2] at hp
   cases h3 : pickVal p a' b' x y with
   | none => simp [h3] at hp
   | some v' =>
   simp only [h3] at hp
   have hlen := (pickArm_sound I hF hx h1).1
   cases l1 with
   | nil =>
     simp only [] at hp; cases hp
     exact key p a' b' [] _ he h1 h2 h3 (fun q hq => by cases hq) hl
   | cons q1 l1 =>
     simp only [] at hp; cases hp
     have : l1 = [] := by simpa using hlen
     subst this
     exact key p a' b' [q1] _ he h1 h2 h3 (fun q hq => hl q (by simp at hq; simp [hq])) (fun q hq => hl q (by simp [hq]))
 unfold evPickG at hp
 cases hec : evO F c <;> simp only [hec] at hp <;> (try (cases hp; done))
 case bool p =>
   rw [hec] at hcr
   exact fin p none (by generalize a.eval c = z at hcr; cases hcr; rfl) hp
 case cnd G0 v0 =>
   cases v0 <;> simp only [] at hp <;> (try (cases hp; done))
   rename_i p
   rw [hec] at hcr
   have hG0 : G = some G0 := by
     split at hp
     · split at hp
       · split at hp
         · split at hp <;> cases hp <;> rfl
         · cases hp
       · cases hp
     · cases hp
   have := hG _ hG0
   subst this
   cases hcr with
   | cnd _ _ _ _ ht hf =>
   have := ht rfl
   exact fin p (some true) (by generalize a.eval c = z at this; cases this; rfl) hp
theorem InvH.bsim {C : Ctx} {h : Hp} {ρ : Rho} {F : Fr} {g : Nat} {a : Act} {w : World} : ∀ {wr : List (Nat × Blk)} {M : Mm}, noDup (keysB wr) = true → (∀ i, i ∈ keysB wr → ∃ b0 b, M i = some b0 ∧ mm wr i = some b ∧ BSim b0 b) → InvH N C h ρ F M g a w → InvH N C h ρ F (updL M wr) g a w := by
 intro wr M hn H I
 refine { I with blk := fun id x hx => ?_, dom := fun id hx => ?_ }
 · by_cases hi : id ∈ keysB wr
   · rw [updL_keys hn hi] at hx
     obtain ⟨b0, b, h1, h2, h3⟩ := H id hi
     rw [hx] at h2; cases h2
     exact h3 _ _ _ _ (I.blk id b0 h1)
   · rw [updL_off hi] at hx
     exact I.blk id x hx
 · by_cases hi : id ∈ keysB wr
   · rw [updL_keys hn hi] at hx
     obtain ⟨b0, b, h1, h2, h3⟩ := H id hi
     rw [hx] at h2; cases h2
   · rw [updL_off hi] at hx
     exact I.dom id hx
theorem backs_spec {mg : Mm} {W : Bool} : ∀ {wr : List (Nat × Blk)} {bs : List Prop}, backs mg W wr = some bs → (∀ q, q ∈ bs → q) → W = false → noDup (keysB wr) = true → ∀ i, i ∈ keysB wr → ∃ b0 b, mg i = some b0 ∧ mm wr i = some b ∧ BSim b0 b
 | [], bs, _, _, _, _, i, hi => by cases hi
 | (j, b) :: r, bs, h, hq, hW, hn, i, hi => by
   obtain ⟨n1, n2⟩ := noDup_spec (i := j) (r := keysB r) hn
   simp only [backs] at h
   split at h
   · rename_i b0 hb0
     split at h
     · rename_i l hl
       cases h
       rcases List.mem_cons.1 hi with rfl | h3
       · exact ⟨b0, b, hb0, by simp [mm, upd], hq _ (List.mem_cons_self ..) hW⟩
       · obtain ⟨c0, c, e1, e2, e3⟩ := backs_spec hl (fun q hq' => hq q (List.mem_cons_of_mem _ hq')) hW n2 i h3
         refine ⟨c0, c, e1, ?_, e3⟩
         have hne : i ≠ j := fun e => n1 (e ▸ h3)
         simp only [mm]
         rw [upd_other _ _ hne]
         exact e2
     · cases h
   · cases h
theorem opR_sound (hΓ : TysOk P Γ) (hdep : 8 ≤ P.depth) {F : Fr} {M : Mm} {o : Oper} {rv : Option RV} {r : OpRes} (hr : opR Γ own ops.toList F M o rv = some r) (hcs : ∀ q, q ∈ r.cs → q)
   (hrq : ∀ gd f xs rv0, r.rq = some (gd, f, xs) → rv = some rv0 → (∀ W, gd = some W → W = true) → CtrG P f xs rv0.v rv0.B) (hnd : ∀ c, o.op ≠ .defer c) : OpOk (FzOk own) P N ops F M o r := by
 intro C hz h ρ F' M' g a w I hF hM rr n K Q hK
 unfold opR at hr
 cases hgd : guardOf ops.toList F o with
 | none => rw [hgd] at hr; simp at hr
 | some gd =>
 obtain ⟨hfree, hon⟩ := guardOf_sound I hF hgd
 rw [hgd] at hr
 -- what a sound operation gives
 have fin : ∀ {val : Operand → AV} {r0 : R}, evalOp Γ own val M o rv = some r0 → (∀ y, y ∈ o.op.operands → Rel h ρ (val y) (a.eval y)) → (∀ id, id ∈ r0.rd → M' id = M id) → (∀ q, r0.cs = some q → q) →
     (∀ f xs rv0, r0.rq = some (f, xs) → rv = some rv0 → CtrG P f xs rv0.v rv0.B) → StepIn P N C F' M' g a o w r0.v r0.wr := by
   intro val r0 he hv hm hc hq
   cases hcall : isCall o.op with
   | false => exact (evalOp_sound hΓ hdep I hv he hm hc hcall hz).stepIn hnd
   | true =>
     have : ∃ f args ts, o.op = .call ⟨.value f, args, ts⟩ := by
       cases ho : o.op <;> rw [ho] at hcall <;> (try (simp [isCall] at hcall; done))
       rename_i c
       obtain ⟨callee, args, ts⟩ := c
       cases callee <;> first | exact ⟨_, _, _, rfl⟩ | (simp [isCall] at hcall; done)
     obtain ⟨f, args, ts, ho⟩ := this
     cases rv with
     | none =>
       exfalso
       unfold evalOp at he
       simp only [ho] at he
       split at he <;> simp [evCall, evClo] at he
     | some rv0 => exact evCall_sound I ho hv he hm hc (fun f xs h => hq f xs rv0 h rfl)
 cases gd with
 | free =>
   rw [if_pos (hfree rfl)]
   simp only [] at hr
   split at hr
   · rename_i c x y ho
     split at hr
     · rename_i b cs hp
       cases hr
       have hrun := evPickG_sound (P := P) (w := w) I hF ho hp hcs (fun b hb => by cases hb)
       exact (Good.same (r := ⟨.bool b, [], [], none, none⟩) I (.inl hrun) rfl (.bool _ _)).stepIn hnd rr n K Q hK
     · cases hr
   · split at hr
     · rename_i v rd wr c q he
       have hv : ∀ y, y ∈ o.op.operands → Rel h ρ (evO F y) (a.eval y) := fun y hy => evO_rel I hF hy
       cases c with
       | none =>
         cases q with
         | none => simp only [] at hr; cases hr; exact fin he hv hM (fun q hq => by cases hq) (fun f xs rv0 hq => by cases hq) rr n K Q hK
         | some fx => simp only [] at hr; cases hr; exact fin he hv hM (fun q hq => by cases hq) (fun f xs rv0 hq hv => by cases hq; exact hrq none _ _ rv0 rfl hv (fun W hW => by cases hW)) rr n K Q hK
       | some c =>
         have hc : ∀ q, some c = some q → q := fun q hq => by
           cases hq
           cases q <;> simp only [] at hr <;> cases hr <;> exact hcs _ (by simp)
         cases q with
         | none => simp only [] at hr; cases hr; exact fin he hv hM hc (fun f xs rv0 hq => by cases hq) rr n K Q hK
         | some fx => simp only [] at hr; cases hr; exact fin he hv hM hc (fun f xs rv0 hq hv => by cases hq; exact hrq none _ _ rv0 rfl hv (fun W hW => by cases hW)) rr n K Q hK
     · cases hr
 | on W =>
   have hw := hon W rfl
   rw [hw]
   simp only [] at hr
   split at hr
   · rename_i c x y ho
     split at hr
     · rename_i b cs hp
       cases hr
       cases W with
       | false => exact ⟨fun _ _ => trivial, hK _ h ρ w I (.cnd _ _ _ _ (fun e => by cases e) (fun _ => rfl))⟩
       | true =>
         rw [if_pos rfl]
         have hrun := evPickG_sound (P := P) (w := w) I hF ho hp (fun q hq => hcs _ (under_mem hq) rfl) (fun b hb => by cases hb)
         exact (Good.same (r := ⟨.cnd true (.bool b), [], [], none, none⟩) I (.inl hrun) rfl (.cnd _ _ _ _ (fun _ => .bool _ _) (fun e => by cases e))).stepIn hnd rr n K Q hK
     · rename_i b G cs hp
       cases hr
       cases W with
       | false => exact ⟨fun _ _ => trivial, hK _ h ρ w I (.cnd _ _ _ _ (fun e => by cases e) (fun _ => rfl))⟩
       | true =>
         rw [if_pos rfl]
         have hrun := evPickG_sound (P := P) (w := w) I hF ho hp (fun q hq => hcs _ (List.mem_cons_of_mem _ (under_mem hq)) rfl) (fun b hb => by cases hb; exact hcs _ (List.mem_cons_self ..) rfl)
         exact (Good.same (r := ⟨.cnd true (.bool b), [], [], none, none⟩) I (.inl hrun) rfl (.cnd _ _ _ _ (fun _ => .bool _ _) (fun e => by cases e))).stepIn hnd rr n K Q hK
     · cases hr
   · split at hr
     · rename_i v rd wr c q he
       cases wr with
       | cons x0 l0 =>
         obtain ⟨wr, hwr⟩ : ∃ wr, x0 :: l0 = wr := ⟨_, rfl⟩
         simp only [] at hr
         rw [hwr] at hr he
         split at hr
         · rename_i ha
           split at hr
           · rename_i hn
             split at hr
             · rename_i bs hbs
               split at hr
               · split at hr
                 · rename_i f xs
                   cases hr
                   have hkm : ∀ i, i ∈ keysB wr → M' i = M i := fun i hi => hM i (allIn_spec ha i hi)
                   cases W with
                   | false =>
                     refine ⟨fun _ _ => trivial, hK _ h ρ w (I.bsim hn (fun i hi => ?_)) (.cnd _ _ _ _ (fun e => by cases e) (fun _ => rfl))⟩
                     obtain ⟨b0, b, e1, e2, e3⟩ := backs_spec hbs (fun q hq => hcs q (List.mem_append_left _ hq)) rfl hn i hi
                     exact ⟨b0, b, (hkm i hi).trans e1, e2, e3⟩
                   | true =>
                     rw [if_pos rfl]
                     have hv : ∀ y, y ∈ o.op.operands → Rel h ρ (stripV (evO F y)) (a.eval y) := fun y hy => by
                       have := evO_rel I hF hy
                       cases he : evO F y <;> rw [he] at this <;> simp only [stripV] <;> try exact this
                       rename_i G u
                       cases this with
                       | cnd _ _ _ _ ht hf => exact ht (hcs _ (List.mem_append_right _ (needs_mem (by simpa using hy) he)) rfl)
                     refine fin he hv hM (fun q hq => by cases hq) (fun f xs rv0 hq0 hrv0 => by cases hq0; exact hrq (some true) f xs rv0 rfl hrv0 (fun W hW => by cases hW; rfl)) rr n K Q (fun x h' ρ' w' I' hr' => hK x h' ρ' w' I' ?_)
                     exact .cnd _ _ _ _ (fun _ => hr') (fun e => by cases e)
                 · cases hr
               · cases hr
             · cases hr
           · cases hr
         · cases hr
       | nil =>
       simp only [] at hr
       have hrv : r.v = .cnd W v ∧ r.wr = [] ∧ r.rd = rd := by
         cases c <;> cases q <;> simp only [] at hr <;> cases hr <;> exact ⟨rfl, rfl, rfl⟩
       obtain ⟨e1, e2, e3⟩ := hrv
       cases W with
       | false => exact ⟨fun _ _ => trivial, hK _ h ρ w (by rw [e2]; exact I) (by rw [e1]; exact .cnd _ _ _ _ (fun e => by cases e) (fun _ => rfl))⟩
       | true =>
         rw [if_pos rfl]
         have hneed : ∀ q, q ∈ needs F true o.op.operands.toList → q := fun q0 hq0 => by
           cases c <;> cases q <;> simp only [] at hr <;> cases hr <;> first | exact hcs _ hq0 | exact hcs _ (List.mem_cons_of_mem _ hq0)
         have hv : ∀ y, y ∈ o.op.operands → Rel h ρ (stripV (evO F y)) (a.eval y) := fun y hy => by
           have := evO_rel I hF hy
           cases he : evO F y <;> rw [he] at this <;> simp only [stripV] <;> try exact this
           rename_i G u
           cases this with
           | cnd _ _ _ _ ht hf => exact ht (hneed _ (needs_mem (by simpa using hy) he) rfl)
         have hc : ∀ q, c = some q → q := fun q0 hq0 => by
           subst hq0
           cases q <;> simp only [] at hr <;> cases hr <;> first | exact hcs _ (List.mem_cons_self ..) rfl | exact hcs _ (List.mem_cons_self ..) trivial
         have hq : ∀ f xs rv0, q = some (f, xs) → rv = some rv0 → CtrG P f xs rv0.v rv0.B := fun f xs rv0 hq0 hrv0 => by
           subst hq0
           cases c <;> simp only [] at hr <;> cases hr <;> exact hrq (some true) f xs rv0 rfl hrv0 (fun W hW => by cases hW; rfl)
         refine fin he hv (fun id hid => hM id (by rw [e3]; exact hid)) hc hq rr n K Q (fun x h' ρ' w' I' hr' => hK x h' ρ' w' (by rw [e2]; exact I') ?_)
         rw [e1]
         exact .cnd _ _ _ _ (fun _ => hr') (fun e => by cases e)
     · cases hr
end
end Go.Av
end
/- Regions, part 2: one after another; in any order. -/
section
set_option linter.all false
namespace Go.Av
def fr : List (Nat × AV) → Fr
 | [] => fun _ => .any
 | (d, v) :: r => put (fr r) d v
def setL : Option Tmp → AV → List (Nat × AV) → List (Nat × AV)
 | some d, v, L => (d, v) :: L
 | none, _, L => L
theorem fr_setL (d : Option Tmp) (v : AV) (L : List (Nat × AV)) : fr (setL d v L) = putO (fr L) d v := by cases d <;> rfl
def isDefer : Op → Bool
 | .defer _ => true
 | _ => false
structure Acc where
 L : List (Nat × AV)
 M : List (Nat × Blk)
 cs : List Prop
 rq : List (Option Bool × FuncId × (List AV × List (Nat × Blk)) × RV)
 ft : List (List Nat × List Nat)
def appP : List Prop → List Prop → List Prop
 | [], l => l
 | q :: r, l => q :: appP r l
def forceB {β : Type} : Blk → (Blk → β) → β
 | .cells cs, f => forceL cs fun cs => f (.cells cs)
 | .buf ty sz n e, f => f (.buf ty sz n e)
 | .map z dom e n, f => f (.map z dom e n)
 | .dead, f => f .dead
 | .iter e cur Pl, f => f (.iter e cur Pl)
 | .bufk ty sz n c e, f => f (.bufk ty sz n c e)
 | .grid tS ty sz n m e, f => f (.grid tS ty sz n m e)
theorem forceB_eq {β : Type} (b : Blk) (f : Blk → β) : forceB b f = f b := by cases b <;> simp only [forceB, forceL_eq]
def forceI {α β : Type} : List α → (List α → β) → β
 | [], f => f []
 | x :: r, f => forceI r fun r => f (x :: r)
theorem forceI_eq {α β : Type} : ∀ (l : List α) (f : List α → β), forceI l f = f l
 | [], f => rfl
 | x :: r, f => by simp only [forceI, forceI_eq r]
def forceP {β : Type} : List Prop → (List Prop → β) → β
 | [], f => f []
 | x :: r, f => forceP r fun r => f (x :: r)
theorem forceP_eq {β : Type} : ∀ (l : List Prop) (f : List Prop → β), forceP l f = f l
 | [], f => rfl
 | x :: r, f => by simp only [forceP, forceP_eq r]
def pushL {β : Type} (o : Option Tmp) (v : AV) (L : List (Nat × AV)) (f : List (Nat × AV) → β) : β := match o with
 | some d => f ((d, v) :: L)
 | none => f L
theorem pushL_eq {β : Type} (o : Option Tmp) (v : AV) (L : List (Nat × AV)) (f : List (Nat × AV) → β) : pushL o v L f = f (setL o v L) := by cases o <;> rfl
def pushM {β : Type} : List (Nat × Blk) → List (Nat × Blk) → (List (Nat × Blk) → β) → β
 | [], M, f => f M
 | (i, b) :: r, M, f => forceB b fun b => pushM r ((i, b) :: M) f
def consM : List (Nat × Blk) → List (Nat × Blk) → List (Nat × Blk)
 | [], M => M
 | (i, b) :: r, M => consM r ((i, b) :: M)
theorem pushM_eq {β : Type} : ∀ (wr M : List (Nat × Blk)) (f : List (Nat × Blk) → β), pushM wr M f = f (consM wr M)
 | [], M, f => rfl
 | (i, b) :: r, M, f => by simp only [pushM, forceB_eq, consM, pushM_eq r]
theorem mm_consM : ∀ (wr M : List (Nat × Blk)), mm (consM wr M) = updL (mm M) wr
 | [], M => rfl
 | (i, b) :: r, M => by simp only [consM, updL, mm_consM r]; rfl
def keysW : List (Nat × Blk) → List Nat
 | [] => []
 | (i, _) :: r => i :: keysW r
theorem keysW_eq : ∀ (wr : List (Nat × Blk)), keysW wr = wr.map (·.1)
 | [] => rfl
 | (i, b) :: r => by simp [keysW, keysW_eq r]
def runR (Γ : Tys) (own : List Nat) (ops : List Oper) : List Oper → List RV → List (Nat × AV) → List (Nat × Blk) → Option Acc
 | [], rvs, L, M => match rvs with
   | [] => some ⟨L, M, [], [], []⟩
   | _ :: _ => none
 | o :: os, rvs, L, M => match isCall o.op with
   | true => match rvs with
     | [] => none
     | rv :: rvs => match opR Γ own ops (fr L) (mm M) o (some rv) with
       | some ⟨v, rd, wr, cs, q⟩ => match q with
           | none => none
           | some (gd, f, xs) => forceA v fun v => pushL o.dst v L fun L1 => pushM wr M fun M1 => match runR Γ own ops os rvs L1 M1 with
             | some ⟨L', M', cs', rq', ft'⟩ => forceI rd fun rd => forceI (keysW wr) fun ws => forceP (appP cs cs') fun cs => some ⟨L', M', cs, (gd, f, xs, rv) :: rq', (rd, ws) :: ft'⟩
             | none => none
       | none => none
   | false => match isDefer o.op with
     | true => none
     | false => match opR Γ own ops (fr L) (mm M) o none with
       | some ⟨v, rd, wr, cs, q⟩ => match q with
         | some _ => none
         | none => forceA v fun v => pushL o.dst v L fun L1 => pushM wr M fun M1 => match runR Γ own ops os rvs L1 M1 with
           | some ⟨L', M', cs', rq', ft'⟩ => forceI rd fun rd => forceI (keysW wr) fun ws => forceP (appP cs cs') fun cs => some ⟨L', M', cs, rq', (rd, ws) :: ft'⟩
           | none => none
       | _ => none
inductive RqOk (P : Program) : List (Option Bool × FuncId × (List AV × List (Nat × Blk)) × RV) → Prop
 | nil : RqOk P []
 | free {f : FuncId} {xs : List AV × List (Nat × Blk)} {v : AV} {B : List (Nat × Blk)} {k : Nat} {K : List Nat} {r : List (Option Bool × FuncId × (List AV × List (Nat × Blk)) × RV)} : CtrG P f xs v B → RqOk P r → RqOk P ((none, f, xs, ⟨v, B, k, K⟩) :: r)
 | on {W : Bool} {f : FuncId} {xs : List AV × List (Nat × Blk)} {v : AV} {B : List (Nat × Blk)} {k : Nat} {K : List Nat} {r : List (Option Bool × FuncId × (List AV × List (Nat × Blk)) × RV)} : (W = true → CtrG P f xs v B) → RqOk P r → RqOk P ((some W, f, xs, ⟨v, B, k, K⟩) :: r)
theorem appP_mem : ∀ {a b : List Prop} {q : Prop}, q ∈ appP a b ↔ q ∈ a ∨ q ∈ b
 | [], b, q => by simp [appP]
 | x :: a, b, q => by simp [appP, appP_mem, or_assoc]
inductive Trace (Z : Ctx → Prop) (P : Program) (N : Nat) (ops : Array Oper) : Fr → Mm → List Oper → List OpRes → Fr → Mm → Prop
 | nil (F : Fr) (M : Mm) : Trace Z P N ops F M [] [] F M
 | cons {F : Fr} {M : Mm} {o : Oper} {r : OpRes} {os : List Oper} {rs : List OpRes} {F' : Fr} {M' : Mm} : OpOk Z P N ops F M o r → Trace Z P N ops (putO F o.dst r.v) (updL M r.wr) os rs F' M' → Trace Z P N ops F M (o :: os) (r :: rs) F' M'
section
variable {P : Program} {N : Nat} {Γ : Tys} {own : List Nat} {ops : Array Oper}
theorem runR_trace (hΓ : TysOk P Γ) (hdep : 8 ≤ P.depth) : ∀ (os : List Oper) (rvs : List RV) (L : List (Nat × AV)) (M : List (Nat × Blk)) {A : Acc}, runR Γ own ops.toList os rvs L M = some A → (∀ q, q ∈ A.cs → q) → RqOk P A.rq →
   ∃ rs, Trace (FzOk own) P N ops (fr L) (mm M) os rs (fr A.L) (mm A.M) ∧ A.ft = rs.map (fun r => (r.rd, r.wr.map (·.1)))
 | [], rvs, L, M, A, hr, _, _ => by
   unfold runR at hr
   cases rvs with
   | nil => simp only [] at hr; cases hr; exact ⟨[], .nil _ _, rfl⟩
   | cons => simp at hr
 | o :: os, rvs, L, M, A, hr, hcs, hrq => by
   unfold runR at hr
   simp only [forceA_eq, forceL_eq, forceI_eq, forceP_eq, forceB_eq, pushL_eq, pushM_eq] at hr
   cases hcall : isCall o.op with
   | true =>
     simp only [hcall] at hr
     have hnd : ∀ c, o.op ≠ .defer c := fun c e => by rw [e] at hcall; simp [isCall] at hcall
     cases rvs with
     | nil => simp at hr
     | cons rv rvs =>
     simp only [] at hr
     split at hr
     · rename_i v rd wr cs q hop
       cases q with
       | none => simp at hr
       | some q =>
       obtain ⟨gd, f, xs⟩ := q
       simp only [] at hr
       cases hrun : runR Γ own ops.toList os rvs (setL o.dst v L) (consM wr M) with
       | none => simp [hrun] at hr
       | some B =>
       obtain ⟨L', M', cs', rq', ft'⟩ := B
       simp only [hrun] at hr
       cases hr
       have hq : RqOk P rq' ∧ ((∀ W, gd = some W → W = true) → CtrG P f xs rv.v rv.B) := by
         cases hrq with
         | free h1 h2 => exact ⟨h2, fun _ => h1⟩
         | on h1 h2 => exact ⟨h2, fun h => h1 (h _ rfl)⟩
       obtain ⟨rs, hT, hft⟩ := runR_trace hΓ hdep os rvs (setL o.dst v L) (consM wr M) hrun (fun q hq => hcs q (appP_mem.2 (.inr hq))) hq.1
       refine ⟨⟨v, rd, wr, cs, some (gd, f, xs)⟩ :: rs, .cons (opR_sound hΓ hdep hop (fun q hq => hcs q (appP_mem.2 (.inl hq))) (fun gd' f' xs' rv0 h hrv0 => by cases h; cases hrv0; exact hq.2) hnd) ?_, by simpa [keysW_eq] using hft⟩
       rw [fr_setL, mm_consM] at hT
       exact hT
     · cases hr
   | false =>
     simp only [hcall] at hr
     cases hdf : isDefer o.op with
     | true => simp [hdf] at hr
     | false =>
     simp only [hdf] at hr
     have hnd : ∀ c, o.op ≠ .defer c := fun c e => by rw [e] at hdf; simp [isDefer] at hdf
     split at hr
     · rename_i v rd wr cs q hop
       cases q with
       | some => simp at hr
       | none =>
       simp only [] at hr
       cases hrun : runR Γ own ops.toList os rvs (setL o.dst v L) (consM wr M) with
       | none => simp [hrun] at hr
       | some B =>
       obtain ⟨L', M', cs', rq', ft'⟩ := B
       simp only [hrun] at hr
       cases hr
       obtain ⟨rs, hT, hft⟩ := runR_trace hΓ hdep os rvs (setL o.dst v L) (consM wr M) hrun (fun q hq => hcs q (appP_mem.2 (.inr hq))) hrq
       refine ⟨⟨v, rd, wr, cs, none⟩ :: rs, .cons (opR_sound hΓ hdep hop (fun q hq => hcs q (appP_mem.2 (.inl hq))) (fun gd f xs rv0 h => by cases h) hnd) ?_, by simpa [keysW_eq] using hft⟩
       rw [fr_setL, mm_consM] at hT
       exact hT
     · cases hr
theorem Trace.lex {F F' : Fr} {M M' : Mm} {os : List Oper} {rs : List OpRes} {Z : Ctx → Prop} (T : Trace Z P N ops F M os rs F' M') {C : Ctx} (hZ : Z C) {g : Nat} {rr : Option Nat} {n : Nat} {Q : Exit → Act → World → Prop}
   (hQ : ∀ h ρ a w, InvH N C h ρ F' M' g a w → Q .normal a w) : ∀ (k : Nat) (h : Hp) (ρ : Rho) (a : Act) (w : World), InvH N C h ρ F M g a w → (∀ o, o ∈ os → ∀ d, o.dst = some d → d < N) → (∀ j, os[j]? = ops[k + j]? ∨ os.length ≤ j) →
     wpOpsIn (Fw rr) n P ops Q (List.range' k os.length) a w := by
 induction T with
 | nil F M => intro k h ρ a w I _ _; exact hQ h ρ a w I
 | cons hop _ ih =>
   rename_i F M o r os rs F' M' T'
   intro k h ρ a w I hd hos
   have h0 : ops[k]? = some o := by
     rcases hos 0 with e | e
     · simpa using e.symm
     · simp at e
   simp only [List.length_cons, List.range'_succ]
   rw [wpOpsIn_cons]
   unfold wpOpIn
   simp only [h0]
   refine hop C hZ h ρ F M g a w I (fun _ _ => rfl) (fun _ _ => rfl) rr n _ Q (fun x h' ρ' w' I' hv => ih hQ (k + 1) h' ρ' _ w' (I'.put (fun d hd' => hd o (List.mem_cons_self ..) d hd') hv) (fun o' ho' => hd o' (List.mem_cons_of_mem _ ho')) (fun j => ?_))
   rcases hos (j + 1) with e | e
   · left; simpa [Nat.add_assoc, Nat.add_comm 1 j] using e
   · right; simpa using e
end
def edgesLt (j : Nat) : List Edge → Bool
 | [] => true
 | e :: r => match Region.binds .any e with
   | true => match Nat.blt e.on j with
     | true => edgesLt j r
     | false => false
   | false => edgesLt j r
def edgeMask (ms : List Nat) : List Edge → Nat
 | [] => 0
 | e :: r => match Region.binds .any e with
   | true => 2 ^ e.on ||| (ms.getD e.on 0 ||| edgeMask ms r)
   | false => edgeMask ms r
structure Item where
 dst : Option Nat
 looks : List Nat
 rd : List Nat
 wr : List Nat
 mask : Nat
def items (ops : Array Oper) : List Oper → List (List Nat × List Nat) → List Nat → Nat → Option (List Item)
 | [], ft, _, _ => match ft with
   | [] => some []
   | _ :: _ => none
 | o :: os, ft, ms, j => match ft with
   | [] => none
   | (rd, wr) :: ft => match edgesLt j o.after.toList with
     | true => match items ops os ft (ms ++ [edgeMask ms o.after.toList]) (j + 1) with
       | some r => some (⟨o.dst, o.looksAt ops, rd, wr, edgeMask ms o.after.toList⟩ :: r)
       | none => none
     | false => none
def dstIn : Option Nat → List Nat → Bool
 | some d, l => inList l d
 | none, _ => false
def sameDst : Option Nat → Option Nat → Bool
 | some d, some e => Nat.beq d e
 | _, _ => false
def meets : List Nat → List Nat → Bool
 | [], _ => false
 | i :: r, l => match inList l i with
   | true => true
   | false => meets r l
def confl (x y : Item) : Bool := dstIn x.dst y.looks || dstIn y.dst x.looks || sameDst x.dst y.dst || meets x.wr y.rd || meets y.wr x.rd || meets x.wr y.wr
def okPair (i : Nat) (x y : Item) : Bool := match confl x y with
 | true => y.mask.testBit i
 | false => true
def okRow (i : Nat) (x : Item) : List Item → Bool
 | [] => true
 | y :: r => match okPair i x y with
   | true => okRow i x r
   | false => false
def okAll : Nat → List Item → Bool
 | _, [] => true
 | i, x :: r => match okRow i x r with
   | true => okAll (i + 1) r
   | false => false
def orderOk (ops : Array Oper) (ft : List (List Nat × List Nat)) : Bool := match items ops ops.toList ft [] 0 with
 | some l => okAll 0 l
 | none => false
inductive Anc (ops : Array Oper) : Nat → Nat → Prop
 | edge {i j : Nat} {o : Oper} {e : Edge} : ops[j]? = some o → e ∈ o.after → Region.binds .any e = true → e.on = i → Anc ops i j
 | trans {i k j : Nat} : Anc ops i k → Anc ops k j → Anc ops i j
section
variable {ops : Array Oper}
def Closed (ops : Array Oper) (S : Nat → Bool) : Prop := ∀ j o, ops[j]? = some o → S j = true → ∀ e, e ∈ o.after → Region.binds .any e = true → S e.on = true
theorem Anc.closed {S : Nat → Bool} (hS : Closed ops S) {i j : Nat} (A : Anc ops i j) : S j = true → S i = true := by
 induction A with
 | edge h1 h2 h3 h4 => intro hj; exact h4 ▸ hS _ _ h1 hj _ h2 h3
 | trans _ _ ih1 ih2 => exact fun hj => ih1 (ih2 hj)
theorem edgesLt_spec {j : Nat} : ∀ {es : List Edge}, edgesLt j es = true → ∀ e, e ∈ es → Region.binds .any e = true → e.on < j
 | x :: es, h, e, he, hb => by
   unfold edgesLt at h
   rcases List.mem_cons.1 he with rfl | he
   · rw [hb] at h
     simp only [] at h
     split at h
     · rename_i hlt
       exact Nat.le_of_ble_eq_true hlt
     · cases h
   · split at h
     · split at h
       · exact edgesLt_spec h e he hb
       · cases h
     · exact edgesLt_spec h e he hb
theorem edgeMask_spec {ms : List Nat} {i : Nat} : ∀ {es : List Edge}, (edgeMask ms es).testBit i = true → ∃ e, e ∈ es ∧ Region.binds .any e = true ∧ (e.on = i ∨ (ms.getD e.on 0).testBit i = true)
 | [], h => by simp [edgeMask] at h
 | x :: es, h => by
   unfold edgeMask at h
   split at h
   · rename_i hb
     rw [Nat.testBit_or, Nat.testBit_or, Bool.or_eq_true, Bool.or_eq_true, Nat.testBit_two_pow] at h
     rcases h with h | h | h
     · exact ⟨x, by simp, hb, .inl (by simpa using h)⟩
     · exact ⟨x, by simp, hb, .inr h⟩
     · obtain ⟨e, h1, h2, h3⟩ := edgeMask_spec h
       exact ⟨e, by simp [h1], h2, h3⟩
   · obtain ⟨e, h1, h2, h3⟩ := edgeMask_spec h
     exact ⟨e, by simp [h1], h2, h3⟩
theorem items_spec : ∀ {os : List Oper} {ft : List (List Nat × List Nat)} {ms : List Nat} {j : Nat} {l : List Item}, items ops os ft ms j = some l → ms.length = j → (∀ k i, (ms.getD k 0).testBit i = true → Anc ops i k) → (∀ k, os[k]? = ops[j + k]? ∨ os.length ≤ k) →
   l.length = os.length ∧ ft.length = os.length ∧ ∀ k x, l[k]? = some x → ∃ o f, os[k]? = some o ∧ ft[k]? = some f ∧ x.dst = o.dst ∧ x.looks = o.looksAt ops ∧ x.rd = f.1 ∧ x.wr = f.2 ∧ (∀ i, x.mask.testBit i = true → Anc ops i (j + k)) ∧ ∀ e, e ∈ o.after → Region.binds .any e = true → e.on < j + k
 | [], ft, ms, j, l, h, _, _, _ => by
   unfold items at h
   cases ft with
   | nil => simp only [] at h; cases h; exact ⟨rfl, rfl, fun k x hx => by simp at hx⟩
   | cons => simp at h
 | o :: os, ft, ms, j, l, h, hms, hA, hos => by
   unfold items at h
   cases ft with
   | nil => simp at h
   | cons f ft =>
   obtain ⟨rd, wr⟩ := f
   simp only [] at h
   cases hlt : edgesLt j o.after.toList with
   | false => simp [hlt] at h
   | true =>
   simp only [hlt] at h
   cases hi : items ops os ft (ms ++ [edgeMask ms o.after.toList]) (j + 1) with
   | none => simp [hi] at h
   | some r =>
   simp only [hi] at h
   cases h
   have h0 : ops[j]? = some o := by
     rcases hos 0 with e | e
     · simpa using e.symm
     · simp at e
   have hm : ∀ i, (edgeMask ms o.after.toList).testBit i = true → Anc ops i j := by
     intro i hi
     obtain ⟨e, h1, h2, h3⟩ := edgeMask_spec hi
     rcases h3 with h3 | h3
     · exact .edge h0 (by simpa using h1) h2 h3
     · exact .trans (hA _ _ h3) (.edge h0 (by simpa using h1) h2 rfl)
   have hA' : ∀ k i, ((ms ++ [edgeMask ms o.after.toList]).getD k 0).testBit i = true → Anc ops i k := by
     intro k i hk
     rcases Nat.lt_trichotomy k ms.length with h | h | h
     · rw [List.getD_eq_getElem?_getD, List.getElem?_append_left h, ← List.getD_eq_getElem?_getD] at hk; exact hA k i hk
     · subst h
       rw [List.getD_eq_getElem?_getD, List.getElem?_append_right (Nat.le_refl _)] at hk
       simp at hk
       exact hms ▸ hm i hk
     · rw [List.getD_eq_getElem?_getD, List.getElem?_eq_none (by simp; omega)] at hk
       simp at hk
   have hrec := items_spec hi (by simp [hms]) hA' (fun k => by
     rcases hos (k + 1) with e | e
     · left; simpa [Nat.add_assoc, Nat.add_comm 1 k] using e
     · right; simpa using e)
   refine ⟨by simp [hrec.1], by simp [hrec.2.1], fun k x hx => ?_⟩
   cases k with
   | zero =>
     simp at hx; subst hx
     exact ⟨o, (rd, wr), rfl, rfl, rfl, rfl, rfl, rfl, by simpa using hm, fun e he hb => by simpa using edgesLt_spec hlt e (by simpa using he) hb⟩
   | succ k =>
     simp only [List.getElem?_cons_succ] at hx
     obtain ⟨o', f, h1, h2, h3, h4, h5, h6, h7, h8⟩ := hrec.2.2 k x hx
     exact ⟨o', f, by simpa using h1, by simpa using h2, h3, h4, h5, h6, by simpa [Nat.add_assoc, Nat.add_comm 1 k] using h7, by simpa [Nat.add_assoc, Nat.add_comm 1 k] using h8⟩
theorem okRow_spec {i : Nat} {x : Item} : ∀ {l : List Item}, okRow i x l = true → ∀ y, y ∈ l → okPair i x y = true
 | z :: l, h, y, hy => by
   unfold okRow at h
   split at h
   · rename_i h1
     rcases List.mem_cons.1 hy with rfl | hy
     · exact h1
     · exact okRow_spec h y hy
   · cases h
theorem okAll_spec : ∀ {l : List Item} {k : Nat}, okAll k l = true → ∀ i j x y, i < j → l[i]? = some x → l[j]? = some y → okPair (k + i) x y = true
 | z :: l, k, h, i, j, x, y, hij, hx, hy => by
   unfold okAll at h
   split at h
   · rename_i h1
     cases j with
     | zero => omega
     | succ j =>
     simp only [List.getElem?_cons_succ] at hy
     cases i with
     | zero =>
       simp at hx; subst hx
       exact okRow_spec h1 y (List.mem_of_getElem? hy)
     | succ i =>
       simp only [List.getElem?_cons_succ] at hx
       have := okAll_spec h i j x y (by omega) hx hy
       simpa [Nat.add_assoc, Nat.add_comm 1 i] using this
   · cases h
theorem inList_spec : ∀ {l : List Nat} {t : Nat}, t ∈ l → inList l t = true
 | k :: l, t, h => by
   unfold inList
   rcases List.mem_cons.1 h with rfl | h
   · simp
   · split
     · rfl
     · exact inList_spec h
theorem meets_spec : ∀ {a b : List Nat} {t : Nat}, t ∈ a → t ∈ b → meets a b = true
 | k :: a, b, t, h1, h2 => by
   unfold meets
   rcases List.mem_cons.1 h1 with rfl | h1
   · simp [inList_spec h2]
   · split
     · rfl
     · exact meets_spec h1 h2
end
end Go.Av
end
/- Regions, part 3: whatever the order. -/
section
set_option linter.all false
namespace Go.Av
def stF (F : Fr) : List (Option Nat × AV) → (Nat → Bool) → Nat → Fr
 | [], _, _ => F
 | (d, v) :: r, S, k => stF (if S k then putO F d v else F) r S (k + 1)
def stM (M : Mm) : List (List (Nat × Blk)) → (Nat → Bool) → Nat → Mm
 | [], _, _ => M
 | wr :: r, S, k => stM (if S k then updL M wr else M) r S (k + 1)
theorem putO_at {F F' : Fr} {d : Option Nat} {v : AV} {t : Nat} (h : F t = F' t) : putO F d v t = putO F' d v t := by
 cases d with
 | none => exact h
 | some d =>
   by_cases e : t = d
   · subst e; simp [putO, put_same]
   · simp [putO, put_other _ _ e, h]
theorem putO_ne {F : Fr} {d : Option Nat} {v : AV} {t : Nat} (h : d ≠ some t) : putO F d v t = F t := by
 cases d with
 | none => rfl
 | some d => exact put_other _ _ (fun e => h (by rw [e]))
theorem updL_at : ∀ {wr : List (Nat × Blk)} {M M' : Mm} {i : Nat}, M i = M' i → updL M wr i = updL M' wr i
 | [], _, _, _, h => h
 | (j, b) :: r, M, M', i, h => by
   unfold updL
   refine updL_at ?_
   by_cases e : i = j
   · subst e; simp [upd_same]
   · simp [upd_other _ _ e, h]
theorem updL_ne : ∀ {wr : List (Nat × Blk)} {M : Mm} {i : Nat}, i ∉ wr.map (·.1) → updL M wr i = M i
 | [], _, _, _ => rfl
 | (j, b) :: r, M, i, h => by
   unfold updL
   simp at h
   rw [updL_ne (by simpa using h.2), upd_other _ _ h.1]
theorem stF_congr {t : Nat} : ∀ {l : List (Option Nat × AV)} {F F' : Fr} {S S' : Nat → Bool} {k : Nat}, F t = F' t → (∀ i d v, l[i]? = some (d, v) → S (k + i) ≠ S' (k + i) → d ≠ some t) → stF F l S k t = stF F' l S' k t
 | [], _, _, _, _, _, h, _ => h
 | (d, v) :: r, F, F', S, S', k, h, hd => by
   unfold stF
   refine stF_congr ?_ (fun i d' v' hi hs => hd (i + 1) d' v' (by simpa using hi) (by simpa [Nat.add_assoc, Nat.add_comm 1 i] using hs))
   have h0 := hd 0 d v (by simp)
   simp only [Nat.add_zero] at h0
   cases hS : S k <;> cases hS' : S' k
   · simpa using h
   · simp only [Bool.false_eq_true, if_false, if_true]; rw [putO_ne (h0 (by rw [hS, hS']; decide))]; exact h
   · simp only [Bool.false_eq_true, if_false, if_true]; rw [putO_ne (h0 (by rw [hS, hS']; decide))]; exact h
   · simp only [if_true]; exact putO_at h
theorem stM_congr {t : Nat} : ∀ {l : List (List (Nat × Blk))} {M M' : Mm} {S S' : Nat → Bool} {k : Nat}, M t = M' t → (∀ i wr, l[i]? = some wr → S (k + i) ≠ S' (k + i) → t ∉ wr.map (·.1)) → stM M l S k t = stM M' l S' k t
 | [], _, _, _, _, _, h, _ => h
 | wr :: r, M, M', S, S', k, h, hd => by
   unfold stM
   refine stM_congr ?_ (fun i wr' hi hs => hd (i + 1) wr' (by simpa using hi) (by simpa [Nat.add_assoc, Nat.add_comm 1 i] using hs))
   have h0 := hd 0 wr (by simp)
   simp only [Nat.add_zero] at h0
   cases hS : S k <;> cases hS' : S' k
   · simpa using h
   · simp only [Bool.false_eq_true, if_false, if_true]; rw [updL_ne (h0 (by rw [hS, hS']; decide))]; exact h
   · simp only [Bool.false_eq_true, if_false, if_true]; rw [updL_ne (h0 (by rw [hS, hS']; decide))]; exact h
   · simp only [if_true]; exact updL_at h
theorem stF_ins {d : Option Nat} {v : AV} {i : Nat} : ∀ {l : List (Option Nat × AV)} {F : Fr} {S S' : Nat → Bool} {k : Nat}, l[i]? = some (d, v) → S (k + i) = false → S' (k + i) = true → (∀ j, j ≠ i → S' (k + j) = S (k + j)) →
   (∀ j e u, i < j → l[j]? = some (e, u) → S (k + j) = true → ∀ t, d = some t → e ≠ some t) → ∀ t, stF F l S' k t = putO (stF F l S k) d v t
 | [], _, _, _, _, h, _, _, _, _ => by simp at h
 | (d0, v0) :: r, F, S, S', k, hi, h1, h2, h3, h4 => by
   intro t
   unfold stF
   cases i with
   | zero =>
     simp only [List.getElem?_cons_zero, Option.some.injEq, Prod.mk.injEq] at hi
     obtain ⟨rfl, rfl⟩ := hi
     simp only [Nat.add_zero] at h1 h2
     rw [h1, h2]
     simp only [Bool.false_eq_true, if_false, if_true]
     have hS : stF (putO F d0 v0) r S' (k + 1) t = stF (putO F d0 v0) r S (k + 1) t := stF_congr rfl (fun j e u _ hs => by
       have := h3 (j + 1) (by omega)
       rw [show k + (j + 1) = k + 1 + j by omega] at this
       exact absurd this hs)
     rw [hS]
     by_cases ht : d0 = some t
     · subst ht
       simp only [putO, put_same]
       have : stF (put F t v0) r S (k + 1) t = stF (put F t v0) r (fun _ => false) (k + 1) t := stF_congr rfl (fun j e u hj hs => by
         refine h4 (j + 1) e u (by omega) (by simpa using hj) ?_ t rfl
         rw [show k + (j + 1) = k + 1 + j by omega]
         simpa using hs)
       rw [this]
       have hfal : ∀ (l : List (Option Nat × AV)) (G : Fr) (k : Nat), stF G l (fun _ => false) k = G := by
         intro l
         induction l with
         | nil => intros; rfl
         | cons x l ih => intro G k; obtain ⟨e, u⟩ := x; unfold stF; simp [ih]
       rw [hfal, put_same]
     · rw [putO_ne ht]
       exact stF_congr (putO_ne ht) (fun j e u _ hs => absurd rfl hs)
   | succ i =>
     have e0 := h3 0 (by omega)
     simp only [Nat.add_zero] at e0
     rw [e0]
     exact stF_ins (by simpa using hi) (by rw [show k + 1 + i = k + (i + 1) by omega]; exact h1) (by rw [show k + 1 + i = k + (i + 1) by omega]; exact h2)
       (fun j hj => by rw [show k + 1 + j = k + (j + 1) by omega]; exact h3 (j + 1) (by omega))
       (fun j e u hij hj hs => h4 (j + 1) e u (by omega) (by simpa using hj) (by rw [show k + (j + 1) = k + 1 + j by omega]; exact hs)) t
theorem stM_ins {wr : List (Nat × Blk)} {i : Nat} : ∀ {l : List (List (Nat × Blk))} {M : Mm} {S S' : Nat → Bool} {k : Nat}, l[i]? = some wr → S (k + i) = false → S' (k + i) = true → (∀ j, j ≠ i → S' (k + j) = S (k + j)) →
   (∀ j wr', i < j → l[j]? = some wr' → S (k + j) = true → ∀ t, t ∈ wr.map (·.1) → t ∉ wr'.map (·.1)) → ∀ t, stM M l S' k t = updL (stM M l S k) wr t
 | [], _, _, _, _, h, _, _, _, _ => by simp at h
 | wr0 :: r, M, S, S', k, hi, h1, h2, h3, h4 => by
   intro t
   unfold stM
   cases i with
   | zero =>
     simp only [List.getElem?_cons_zero, Option.some.injEq] at hi
     subst hi
     simp only [Nat.add_zero] at h1 h2
     rw [h1, h2]
     simp only [Bool.false_eq_true, if_false, if_true]
     have hS : stM (updL M wr0) r S' (k + 1) t = stM (updL M wr0) r S (k + 1) t := stM_congr rfl (fun j u _ hs => by
       have := h3 (j + 1) (by omega)
       rw [show k + (j + 1) = k + 1 + j by omega] at this
       exact absurd this hs)
     rw [hS]
     have hfal : ∀ (l : List (List (Nat × Blk))) (G : Mm) (k : Nat), stM G l (fun _ => false) k = G := by
       intro l
       induction l with
       | nil => intros; rfl
       | cons x l ih => intro G k; unfold stM; simp [ih]
     by_cases ht : t ∈ wr0.map (·.1)
     · have hno : ∀ j wr', r[j]? = some wr' → S (k + 1 + j) = true → t ∉ wr'.map (·.1) := fun j wr' hj hs =>
         h4 (j + 1) wr' (by omega) (by simpa using hj) (by rw [show k + (j + 1) = k + 1 + j by omega]; exact hs) t ht
       have e1 : stM (updL M wr0) r S (k + 1) t = stM (updL M wr0) r (fun _ => false) (k + 1) t := stM_congr rfl (fun j u hj hs => hno j u hj (by simpa using hs))
       have e2 : stM M r S (k + 1) t = stM M r (fun _ => false) (k + 1) t := stM_congr rfl (fun j u hj hs => hno j u hj (by simpa using hs))
       rw [hfal] at e1 e2
       rw [e1]
       exact (updL_at e2).symm
     · rw [updL_ne ht]
       exact stM_congr (updL_ne ht) (fun j u _ hs => absurd rfl hs)
   | succ i =>
     have e0 := h3 0 (by omega)
     simp only [Nat.add_zero] at e0
     rw [e0]
     exact stM_ins (by simpa using hi) (by rw [show k + 1 + i = k + (i + 1) by omega]; exact h1) (by rw [show k + 1 + i = k + (i + 1) by omega]; exact h2)
       (fun j hj => by rw [show k + 1 + j = k + (j + 1) by omega]; exact h3 (j + 1) (by omega))
       (fun j wr' hij hj hs => h4 (j + 1) wr' (by omega) (by simpa using hj) (by rw [show k + (j + 1) = k + 1 + j by omega]; exact hs)) t
section
variable {P : Program} {N : Nat} {Γ : Tys} {own : List Nat} {ops : Array Oper}
def dvs : List Oper → List OpRes → List (Option Nat × AV)
 | o :: os, r :: rs => (o.dst, r.v) :: dvs os rs
 | _, _ => []
theorem dvs_get : ∀ {os : List Oper} {rs : List OpRes} {i : Nat} {o : Oper} {r : OpRes}, os[i]? = some o → rs[i]? = some r → (dvs os rs)[i]? = some (o.dst, r.v) := by
 intro os
 induction os with
 | nil => intro rs i o r h; simp at h
 | cons o0 os ih =>
   intro rs i o r h1 h2
   cases rs with
   | nil => simp at h2
   | cons r0 rs =>
     cases i with
     | zero =>
       simp only [List.getElem?_cons_zero, Option.some.injEq] at h1 h2
       subst h1 h2
       simp only [dvs, List.getElem?_cons_zero]
     | succ i =>
       simp only [List.getElem?_cons_succ] at h1 h2
       simp only [dvs, List.getElem?_cons_succ]
       exact ih h1 h2
theorem dvs_inv : ∀ {os : List Oper} {rs : List OpRes} {i : Nat} {x : Option Nat × AV}, (dvs os rs)[i]? = some x → ∃ o r, os[i]? = some o ∧ rs[i]? = some r ∧ x = (o.dst, r.v) := by
 intro os
 induction os with
 | nil => intro rs i x h; simp [dvs] at h
 | cons o0 os ih =>
   intro rs i x h
   cases rs with
   | nil => simp [dvs] at h
   | cons r0 rs =>
     simp only [dvs] at h
     cases i with
     | zero => simp only [List.getElem?_cons_zero, Option.some.injEq] at h; exact ⟨o0, r0, rfl, rfl, h.symm⟩
     | succ i =>
       simp only [List.getElem?_cons_succ] at h ⊢
       exact ih h
theorem Trace.len {F F' : Fr} {M M' : Mm} {os : List Oper} {rs : List OpRes} {Z : Ctx → Prop} (T : Trace Z P N ops F M os rs F' M') : rs.length = os.length := by
 induction T with
 | nil => rfl
 | cons _ _ ih => simp [ih]
theorem Trace.at {F F' : Fr} {M M' : Mm} {os : List Oper} {rs : List OpRes} {Z : Ctx → Prop} (T : Trace Z P N ops F M os rs F' M') : ∀ (k j : Nat) (o : Oper) (r : OpRes), os[j]? = some o → rs[j]? = some r →
   OpOk Z P N ops (stF F (dvs os rs) (fun i => decide (i < k + j)) k) (stM M (rs.map (·.wr)) (fun i => decide (i < k + j)) k) o r := by
 induction T with
 | nil => intro k j o r h; simp at h
 | cons hop _ ih =>
   rename_i F M o0 r0 os rs F' M' T'
   intro k j o r ho hr
   cases j with
   | zero =>
     simp at ho hr; subst ho hr
     have e1 : ∀ (l : List (Option Nat × AV)) (G : Fr) (m : Nat), k ≤ m → stF G l (fun i => decide (i < k + 0)) m = G := by
       intro l
       induction l with
       | nil => intros; rfl
       | cons x l ih => intro G m hm; obtain ⟨e, u⟩ := x; unfold stF; rw [if_neg (by simp; omega)]; exact ih G (m + 1) (by omega)
     have e2 : ∀ (l : List (List (Nat × Blk))) (G : Mm) (m : Nat), k ≤ m → stM G l (fun i => decide (i < k + 0)) m = G := by
       intro l
       induction l with
       | nil => intros; rfl
       | cons x l ih => intro G m hm; unfold stM; rw [if_neg (by simp; omega)]; exact ih G (m + 1) (by omega)
     rw [e1 _ _ _ (Nat.le_refl _), e2 _ _ _ (Nat.le_refl _)]
     exact hop
   | succ j =>
     have := ih (k + 1) j o r (by simpa using ho) (by simpa using hr)
     simp only [dvs, stF, stM, List.map_cons]
     rw [if_pos (by simp), if_pos (by simp)]
     have e : (fun i => decide (i < k + (j + 1))) = (fun i => decide (i < k + 1 + j)) := by funext i; congr 1; rw [show k + (j + 1) = k + 1 + j by omega]
     rw [e]
     exact this
theorem Trace.all {F F' : Fr} {M M' : Mm} {os : List Oper} {rs : List OpRes} {Z : Ctx → Prop} (T : Trace Z P N ops F M os rs F' M') : ∀ (S : Nat → Bool) (k : Nat), (∀ i, i < os.length → S (k + i) = true) → stF F (dvs os rs) S k = F' ∧ stM M (rs.map (·.wr)) S k = M' := by
 induction T with
 | nil => intro S k _; exact ⟨rfl, rfl⟩
 | cons hop _ ih =>
   intro S k hS
   simp only [dvs, stF, stM, List.map_cons]
   have h0 := hS 0 (by simp)
   simp only [Nat.add_zero] at h0
   rw [h0]
   exact ih S (k + 1) (fun i hi => by rw [show k + 1 + i = k + (i + 1) by omega]; exact hS (i + 1) (by simp; omega))
def cnt (S : Nat → Bool) : Nat → Nat
 | 0 => 0
 | n + 1 => cnt S n + (if S n then 0 else 1)
theorem cnt_same {S S' : Nat → Bool} : ∀ {n : Nat}, (∀ i, i < n → S i = S' i) → cnt S n = cnt S' n
 | 0, _ => rfl
 | n + 1, h => by simp only [cnt]; rw [cnt_same (fun i hi => h i (by omega)), h n (by omega)]
theorem cnt_ins {S S' : Nat → Bool} {i : Nat} (h1 : S i = false) (h2 : S' i = true) (h3 : ∀ j, j ≠ i → S' j = S j) (n : Nat) (hi : i < n) : cnt S n = cnt S' n + 1 := by
 induction n with
 | zero => omega
 | succ n ih =>
   simp only [cnt]
   by_cases e : i = n
   · subst e
     rw [h1, h2, cnt_same (S := S) (S' := S') (fun j hj => (h3 j (by omega)).symm)]
     simp
   · have := ih (by omega)
     rw [h3 n (Ne.symm e)]
     omega
theorem cnt_zero {S : Nat → Bool} : ∀ {n : Nat}, cnt S n = 0 → ∀ i, i < n → S i = true
 | n + 1, h, i, hi => by
   simp only [cnt] at h
   by_cases e : i = n
   · subst e
     cases hS : S i with
     | true => rfl
     | false => simp [hS] at h
   · have h0 : cnt S n = 0 := by omega
     exact cnt_zero h0 i (by omega)
theorem dstIn_spec {d : Option Nat} {l : List Nat} {t : Nat} (h1 : d = some t) (h2 : t ∈ l) : dstIn d l = true := by subst h1; exact inList_spec h2
theorem any_order {F0 F1 : Fr} {M0 M1 : Mm} {rs : List OpRes} {Z : Ctx → Prop} (T : Trace Z P N ops F0 M0 ops.toList rs F1 M1) (hord : orderOk ops (rs.map (fun r => (r.rd, r.wr.map (·.1)))) = true) (hdst : ∀ o, o ∈ ops.toList → ∀ d, o.dst = some d → d < N)
   {C : Ctx} (hZ : Z C) {g : Nat} {rr : Option Nat} {n : Nat} {Q : Exit → Act → World → Prop} (hQ : ∀ h ρ a w, InvH N C h ρ F1 M1 g a w → Q .normal a w) :
   ∀ (fuel : Nat) (listed : Array Bool) (h : Hp) (ρ : Rho) (a : Act) (w : World), listed.size = ops.size → cnt (fun i => listed.getD i false) ops.size = fuel → Closed ops (fun i => listed.getD i false) →
     InvH N C h ρ (stF F0 (dvs ops.toList rs) (fun i => listed.getD i false) 0) (stM M0 (rs.map (·.wr)) (fun i => listed.getD i false) 0) g a w → wpAnyIn (Fw rr) n P .any ops Q fuel listed a w := by
 unfold orderOk at hord
 split at hord
 case h_2 => cases hord
 rename_i l hl
 obtain ⟨hlen, _, hit⟩ := items_spec hl rfl (fun k i h => by simp at h) (fun k => .inl (by simp))
 have hpair := okAll_spec hord
 simp only [Nat.zero_add] at hit hpair
 have hn : ops.toList.length = ops.size := by simp
 -- an item of each operation
 have item : ∀ (i : Nat) (o : Oper) (r : OpRes), ops[i]? = some o → rs[i]? = some r → ∃ x, l[i]? = some x ∧ x.dst = o.dst ∧ x.looks = o.looksAt ops ∧ x.rd = r.rd ∧ x.wr = r.wr.map (·.1) ∧ (∀ k, x.mask.testBit k = true → Anc ops k i) := by
   intro i o r ho hr
   have hi : i < l.length := by rw [hlen, hn]; exact (Array.getElem?_eq_some_iff.1 ho).1
   obtain ⟨o', f, h1, h2, h3, h4, h5, h6, h7, _⟩ := hit i l[i] (List.getElem?_eq_getElem hi)
   rw [Array.getElem?_toList, ho] at h1; cases h1
   rw [List.getElem?_map, hr] at h2; cases h2
   exact ⟨_, List.getElem?_eq_getElem hi, h3, h4, h5, h6, h7⟩
 -- two that do not wait for one another are apart
 have far : ∀ (i j : Nat) (o : Oper) (r : OpRes) (o' : Oper) (r' : OpRes), i < j → ops[i]? = some o → rs[i]? = some r → ops[j]? = some o' → rs[j]? = some r' → ¬ Anc ops i j →
     (∀ t, o.dst = some t → t ∉ o'.looksAt ops) ∧ (∀ t, o'.dst = some t → t ∉ o.looksAt ops) ∧ (∀ t, o.dst = some t → o'.dst ≠ some t) ∧ (∀ t, t ∈ r.wr.map (·.1) → t ∉ r'.rd) ∧ (∀ t, t ∈ r'.wr.map (·.1) → t ∉ r.rd) ∧ (∀ t, t ∈ r.wr.map (·.1) → t ∉ r'.wr.map (·.1)) := by
   intro i j o r o' r' hij ho hr ho' hr' hA
   obtain ⟨x, hx, a1, a2, a3, a4, _⟩ := item i o r ho hr
   obtain ⟨y, hy, b1, b2, b3, b4, b5⟩ := item j o' r' ho' hr'
   have h0 := hpair i j x y hij hx hy
   have hc : confl x y = false := by
     unfold okPair at h0
     split at h0
     · exact absurd (b5 i h0) hA
     · assumption
   unfold confl at hc
   simp only [Bool.or_eq_false_iff] at hc
   obtain ⟨⟨⟨⟨⟨c1, c2⟩, c3⟩, c4⟩, c5⟩, c6⟩ := hc
   refine ⟨fun t ht hin => ?_, fun t ht hin => ?_, fun t ht hin => ?_, fun t ht hin => ?_, fun t ht hin => ?_, fun t ht hin => ?_⟩
   · rw [dstIn_spec (a1.trans ht) (b2 ▸ hin)] at c1; cases c1
   · rw [dstIn_spec (b1.trans ht) (a2 ▸ hin)] at c2; cases c2
   · rw [a1.trans ht, b1.trans hin] at c3; simp [sameDst] at c3
   · rw [meets_spec (a4 ▸ ht) (b3 ▸ hin)] at c4; cases c4
   · rw [meets_spec (b4 ▸ ht) (a3 ▸ hin)] at c5; cases c5
   · rw [meets_spec (a4 ▸ ht) (b4 ▸ hin)] at c6; cases c6
 have hrs : ∀ (i : Nat) (o : Oper), ops[i]? = some o → ∃ r, rs[i]? = some r := by
   intro i o ho
   have hi : i < rs.length := by rw [T.len, hn]; exact (Array.getElem?_eq_some_iff.1 ho).1
   exact ⟨rs[i], List.getElem?_eq_getElem hi⟩
 have fin : ∀ (listed : Array Bool) (h : Hp) (ρ : Rho) (a : Act) (w : World), (∀ i, i < ops.size → listed.getD i false = true) →
     InvH N C h ρ (stF F0 (dvs ops.toList rs) (fun i => listed.getD i false) 0) (stM M0 (rs.map (·.wr)) (fun i => listed.getD i false) 0) g a w → Q .normal a w := by
   intro listed h ρ a w hall I
   obtain ⟨e1, e2⟩ := T.all (fun i => listed.getD i false) 0 (fun i hi => by simpa using hall i (by simpa using hi))
   rw [e1, e2] at I
   exact hQ h ρ a w I
 have hgd : ∀ (listed : Array Bool) (i : Nat), listed.size = ops.size → i < ops.size → listed.getD i true = listed.getD i false := by
   intro listed i hs hi
   have : i < listed.size := by omega
   simp [this]
 intro fuel
 induction fuel with
 | zero =>
   intro listed h ρ a w hs hc hcl I
   have hall := cnt_zero hc
   refine ⟨?_, fin listed h ρ a w hall I⟩
   rcases hr : Region.ready .any ops listed with _ | ⟨i, t⟩
   · rfl
   · have := (mem_ready.1 (hr ▸ List.mem_cons_self .. : i ∈ Region.ready .any ops listed))
     obtain ⟨h1, o, ho, _⟩ := this
     have hi := (Array.getElem?_eq_some_iff.1 ho).1
     rw [hgd listed i hs hi, hall i hi] at h1; cases h1
 | succ fuel ih =>
   intro listed h ρ a w hs hc hcl I
   refine ⟨fun h0 => fin listed h ρ a w (fun i hi => ?_) I, fun i hi => ?_⟩
   · -- nothing is ready: all have come
     have key : ∀ m i, i < m → i < ops.size → listed.getD i false = true := by
       intro m
       induction m with
       | zero => intro i hi; omega
       | succ m ihm =>
         intro i him hi
         cases hl' : listed.getD i false with
         | true => rfl
         | false =>
           exfalso
           have ho : ops[i]? = some ops[i] := Array.getElem?_eq_getElem hi
           have hx : i < l.length := by rw [hlen, hn]; exact hi
           obtain ⟨o', f, h1, _, _, _, _, _, _, h8⟩ := hit i l[i] (List.getElem?_eq_getElem hx)
           rw [Array.getElem?_toList, ho] at h1; cases h1
           have : i ∈ Region.ready .any ops listed := mem_ready.2 ⟨by rw [hgd listed i hs hi]; exact hl', _, ho, fun e he hb => ihm e.on (by have := h8 e he hb; omega) (by have := h8 e he hb; omega)⟩
           rw [h0] at this; cases this
     exact key (i + 1) i (by omega) hi
   · obtain ⟨h1, o, ho, hall⟩ := mem_ready.1 hi
     have hin := (Array.getElem?_eq_some_iff.1 ho).1
     rw [hgd listed i hs hin] at h1
     obtain ⟨r, hr⟩ := hrs i o ho
     have hop := T.at 0 i o r (by rw [Array.getElem?_toList]; exact ho) hr
     simp only [Nat.zero_add] at hop
     -- whom it waits for, and who waits for it
     have anc1 : ∀ k, Anc ops k i → listed.getD k false = true := by
       intro k A
       have hcl' : ∀ k, Anc ops k i → listed.getD k false = true := by
         intro k A
         obtain ⟨j, hj⟩ : ∃ j, j = i := ⟨i, rfl⟩
         rw [← hj] at A
         induction A with
         | edge q1 q2 q3 q4 => subst hj; rw [ho] at q1; cases q1; exact q4 ▸ hall _ q2 q3
         | trans A1 _ _ ih2 => exact A1.closed hcl (ih2 hj)
       exact hcl' k A
     have anc2 : ∀ k, Anc ops i k → listed.getD k false = false := by
       intro k A
       cases hk : listed.getD k false with
       | false => rfl
       | true =>
         have : listed.getD i false = true := A.closed hcl hk
         rw [h1] at this; cases this
     have apartT : ∀ (k : Nat) (o' : Oper) (r' : OpRes), ops[k]? = some o' → rs[k]? = some r' → k ≠ i → (listed.getD k false ≠ decide (k < i)) →
         (∀ t, o'.dst = some t → t ∉ o.looksAt ops) ∧ (∀ t, t ∈ r'.wr.map (·.1) → t ∉ r.rd) ∧ (∀ t, o.dst = some t → o'.dst ≠ some t) ∧ (∀ t, t ∈ r.wr.map (·.1) → t ∉ r'.wr.map (·.1)) := by
       intro k o' r' ho' hr' hne hd
       rcases Nat.lt_or_ge k i with hlt | hge
       · have hk : listed.getD k false = false := by
           cases hk : listed.getD k false with
           | false => rfl
           | true => rw [hk] at hd; simp [hlt] at hd
         have hA : ¬ Anc ops k i := fun A => by rw [anc1 k A] at hk; cases hk
         obtain ⟨f1, f2, f3, f4, f5, f6⟩ := far k i o' r' o r hlt ho' hr' ho hr hA
         exact ⟨f1, f4, fun t h1 h2 => f3 t h2 h1, fun t h1 h2 => f6 t h2 h1⟩
       · have hgt : i < k := by omega
         have hk : listed.getD k false = true := by
           cases hk : listed.getD k false with
           | true => rfl
           | false => rw [hk] at hd; simp [Nat.not_lt.2 hge] at hd
         have hA : ¬ Anc ops i k := fun A => by rw [anc2 k A] at hk; cases hk
         obtain ⟨f1, f2, f3, f4, f5, f6⟩ := far i k o r o' r' hgt ho hr ho' hr' hA
         exact ⟨f2, f5, f3, f6⟩
     have hset : ∀ j, j ≠ i → (listed.setIfInBounds i true).getD j false = listed.getD j false := fun j hj => getD_set_ne false (Ne.symm hj)
     have hseti : (listed.setIfInBounds i true).getD i false = true := by
       have : i < listed.size := by omega
       simp [this]
     unfold wpOpIn
     simp only [ho]
     refine hop C hZ h ρ _ _ g a w I (fun t ht => stF_congr rfl (fun k d v hk hd hdt => ?_)) (fun t ht => stM_congr rfl (fun k wr hk hd hin' => ?_)) rr n _ Q (fun x h' ρ' w' I' hv => ?_)
     · obtain ⟨o', r', e1, e2, e3⟩ := dvs_inv hk
       cases e3
       rw [Array.getElem?_toList] at e1
       simp only [Nat.zero_add] at hd
       by_cases hki : k = i
       · subst hki; simp [h1] at hd
       · exact (apartT k o' r' e1 e2 hki hd).1 t hdt ht
     · simp only [List.getElem?_map, Option.map_eq_some_iff] at hk
       obtain ⟨r', e2, rfl⟩ := hk
       simp only [Nat.zero_add] at hd
       have hk' : k < ops.size := by
         have := (List.getElem?_eq_some_iff.1 e2).1
         rw [T.len, hn] at this; exact this
       by_cases hki : k = i
       · subst hki; simp [h1] at hd
       · exact (apartT k _ r' (Array.getElem?_eq_getElem hk') e2 hki hd).2.1 t hin' ht
     · have hF : stF F0 (dvs ops.toList rs) (fun j => (listed.setIfInBounds i true).getD j false) 0 = putO (stF F0 (dvs ops.toList rs) (fun j => listed.getD j false) 0) o.dst r.v := by
         funext t
         refine stF_ins (i := i) (dvs_get (by rw [Array.getElem?_toList]; exact ho) hr) (by simpa using h1) (by simpa using hseti) (fun j hj => by simpa using hset j hj) (fun j e u hij hj hs t' ht' => ?_) t
         obtain ⟨o', r', e1, e2, e3⟩ := dvs_inv hj
         cases e3
         rw [Array.getElem?_toList] at e1
         simp only [Nat.zero_add] at hs
         exact (apartT j o' r' e1 e2 (by omega) (by rw [hs]; simp; omega)).2.2.1 t' ht'
       have hM : stM M0 (rs.map (·.wr)) (fun j => (listed.setIfInBounds i true).getD j false) 0 = updL (stM M0 (rs.map (·.wr)) (fun j => listed.getD j false) 0) r.wr := by
         funext t
         refine stM_ins (i := i) (by simp [hr]) (by simpa using h1) (by simpa using hseti) (fun j hj => by simpa using hset j hj) (fun j wr' hij hj hs t' ht' => ?_) t
         simp only [List.getElem?_map, Option.map_eq_some_iff] at hj
         obtain ⟨r', e2, rfl⟩ := hj
         simp only [Nat.zero_add] at hs
         have hj' : j < ops.size := by
           have := (List.getElem?_eq_some_iff.1 e2).1
           rw [T.len, hn] at this; exact this
         exact (apartT j _ r' (Array.getElem?_eq_getElem hj') e2 (by omega) (by rw [hs]; simp; omega)).2.2.2 t' ht'
       refine ih (listed.setIfInBounds i true) h' ρ' _ w' (by simp [hs]) ?_ ?_ ?_
       · have := cnt_ins (S := fun j => listed.getD j false) (S' := fun j => (listed.setIfInBounds i true).getD j false) h1 hseti hset ops.size hin
         omega
       · intro j o' ho' hj e he hb
         by_cases hji : j = i
         · subst hji
           rw [ho] at ho'; cases ho'
           by_cases hei : e.on = j
           · rw [hei]; exact hseti
           · simp only [hset _ hei]; exact hall e he hb
         · simp only [hset _ hji] at hj
           by_cases hei : e.on = i
           · rw [hei]; exact hseti
           · simp only [hset _ hei]; exact hcl j o' ho' hj e he hb
       · rw [hF, hM]
         exact I'.put (fun d hd => hdst o (by rw [← Array.getElem?_toList] at ho; exact List.mem_of_getElem? ho) d hd) hv
end
end Go.Av
end
/- Rules of control. -/
section
set_option linter.all false
namespace Go.Av
structure Env (P : Program) (Γ : Tys) : Prop where
 ty : TysOk P Γ
 depth : 8 ≤ P.depth
 mixed : P.follows .mixedOrders = true
def At (N : Nat) (C : Ctx) (L : List (Nat × AV)) (M : List (Nat × Blk)) (g : Nat) (R : Act → World → Prop) : Prop := ∀ h ρ a w, InvH N C h ρ (fr L) (mm M) g a w → R a w
def W (P : Program) (N : Nat) (rr : Option Nat) (C : Ctx) (c : Code) (L : List (Nat × AV)) (M : List (Nat × Blk)) (g : Nat) (Q : Exit → Act → World → Prop) : Prop := At N C L M g (fun a w => c.wpIn (Fw rr) 1 P Q a w)
def findL : List (Nat × AV) → Nat → Option AV
 | [], _ => none
 | (d, v) :: r, t => match Nat.beq t d with
   | true => some v
   | false => findL r t
def filtL (ids : List Nat) (L : List (Nat × AV)) : List Nat → Option (List (Nat × AV))
 | [] => some []
 | t :: ts => match findL L t with
   | none => none
   | some v => match onlyIds ids v with
     | true => match filtL ids L ts with
       | some r => some ((t, v) :: r)
       | none => none
     | false => none
def filtM (ids : List Nat) (M : List (Nat × Blk)) : List Nat → Option (List (Nat × Blk))
 | [] => some []
 | i :: is => match mm M i with
   | none => none
   | some b => match onlyB ids b with
     | true => match filtM ids M is with
       | some r => some ((i, b) :: r)
       | none => none
     | false => none
theorem findL_fr : ∀ {L : List (Nat × AV)} {t : Nat} {v : AV}, findL L t = some v → fr L t = v
 | (d, u) :: r, t, v, h => by
   unfold findL at h
   simp only [fr, put]
   split at h
   · rename_i hb; cases h; simp [hb]
   · rename_i hb; simp only [hb]; exact findL_fr h
theorem filtL_spec {ids : List Nat} {L : List (Nat × AV)} : ∀ {ts : List Nat} {L' : List (Nat × AV)}, filtL ids L ts = some L' → ∀ t, fr L' t = .any ∨ (fr L' t = fr L t ∧ onlyIds ids (fr L' t) = true)
 | [], L', h, t => by
   simp only [filtL] at h; cases h; exact .inl rfl
 | s :: ts, L', h, t => by
   simp only [filtL] at h
   split at h
   · cases h
   · rename_i v hv
     split at h
     · rename_i ho
       split at h
       · rename_i r hr
         cases h
         simp only [fr, put]
         split
         · rename_i hb
           have := Nat.eq_of_beq_eq_true hb
           subst this
           exact .inr ⟨(findL_fr hv).symm, ho⟩
         · exact filtL_spec hr t
       · cases h
     · cases h
theorem filtM_spec {ids : List Nat} {M : List (Nat × Blk)} : ∀ {is : List Nat} {M' : List (Nat × Blk)}, filtM ids M is = some M' → (∀ i b, mm M' i = some b → mm M i = some b ∧ onlyB ids b = true) ∧ ∀ i, i ∈ is → (mm M' i).isSome = true
 | [], M', h => by
   simp only [filtM] at h; cases h; exact ⟨fun i b h => (by cases h), fun i h => (by cases h)⟩
 | s :: is, M', h => by
   simp only [filtM] at h
   split at h
   · cases h
   · rename_i b hb
     split at h
     · rename_i ho
       split at h
       · rename_i r hr
         cases h
         obtain ⟨h1, h2⟩ := filtM_spec hr
         refine ⟨fun i b' hi => ?_, fun i hi => ?_⟩
         · simp only [mm, upd] at hi
           split at hi
           · rename_i hbe
             have := Nat.eq_of_beq_eq_true hbe
             subst this
             cases hi; exact ⟨hb, ho⟩
           · exact h1 i b' hi
         · simp only [mm, upd]
           split
           · rfl
           · rename_i hbe
             rcases List.mem_cons.1 hi with rfl | hi
             · simp at hbe
             · exact h2 i hi
       · cases h
     · cases h
section
variable {P : Program} {N : Nat} {Γ : Tys} {C : Ctx} {rr : Option Nat} {L : List (Nat × AV)} {M : List (Nat × Blk)} {g : Nat} {Q : Exit → Act → World → Prop} {R : Act → World → Prop}
theorem InvH.forget {h : Hp} {ρ : Rho} {a : Act} {w : World} (I : InvH N C h ρ (fr L) (mm M) g a w) {ids ts : List Nat} {L' : List (Nat × AV)} {M' : List (Nat × Blk)} (hL : filtL ids L ts = some L') (hM : filtM ids M ids = some M') (hs : onlyL ids C.savA = true) :
   ∃ ρ', (∀ id, id ∈ ids → ρ' id = ρ id) ∧ InvH N C h ρ' (fr L') (mm M') g a w := by
 obtain ⟨hM1, hM2⟩ := filtM_spec hM
 refine ⟨fun id => if id ∈ ids then ρ id else none, fun id hid => by simp [hid], ?_⟩
 have hρ : ∀ id, id ∈ ids → (fun id => if id ∈ ids then ρ id else none) id = ρ id := fun id hid => by simp [hid]
 have hρ' : ∀ id li, (fun id => if id ∈ ids then ρ id else none) id = some li → ρ id = some li := fun id li h1 => by
   simp only at h1
   split at h1
   · exact h1
   · cases h1
 refine { I with slot := fun t => ?_, sav := ⟨I.sav.1, fun i c v h1 h2 => (I.sav.2 i c v h1 h2).forget hρ (onlyL_get hs h1)⟩, blk := fun id x hx => ?_, dom := fun id hid => ?_, own := fun id li b h1 h2 => I.own id li b (hρ' id li h1) h2, inj := fun id id' li li' b h1 h1' h2 h2' => I.inj id id' li li' b (hρ' _ _ h1) (hρ' _ _ h1') h2 h2', gst := ?_ }
 · rcases filtL_spec hL t with e | ⟨e, ho⟩
   · rw [e]; exact .any _ _
   · have := I.slot t
     rw [← e] at this
     exact this.forget hρ ho
 · obtain ⟨h1, ho⟩ := hM1 id x hx
   have hin : id ∈ ids := by
     -- only the kept names are in M'
     have key : ∀ {is : List Nat} {M'' : List (Nat × Blk)}, filtM ids M is = some M'' → ∀ i b, mm M'' i = some b → i ∈ is := by
       intro is
       induction is with
       | nil => intro M'' h i b hb; simp only [filtM] at h; cases h; cases hb
       | cons s is ih =>
         intro M'' h i b hb
         simp only [filtM] at h
         split at h
         · cases h
         · split at h
           · split at h
             · rename_i r hr
               cases h
               simp only [mm, upd] at hb
               split at hb
               · rename_i hbe; have := Nat.eq_of_beq_eq_true hbe; subst this; exact List.mem_cons_self ..
               · exact List.mem_cons_of_mem _ (ih hr i b hb)
             · cases h
           · cases h
     exact key hM id x hx
   have H := I.blk id x h1
   cases x with
   | cells cs =>
     obtain ⟨b, vs, ty, q1, q2, q3, q4⟩ := H
     exact ⟨b, vs, ty, (hρ id hin).trans q1, q2, q3, fun i c v hc hv => (q4 i c v hc hv).forget hρ (onlyL_get (by simpa [onlyB] using ho) hc)⟩
   | buf ty sz n e =>
     obtain ⟨v, xs, q1, q2⟩ := H
     exact ⟨v, xs, (hρ id hin).trans q1, q2⟩
   | map z dom e n =>
     obtain ⟨b, es, clock, ks, q1, q2⟩ := H
     exact ⟨b, es, clock, ks, (hρ id hin).trans q1, q2⟩
   | iter e cur Pl =>
     obtain ⟨b, bm, clock, c0, es, seen, left, q1, q2⟩ := H
     exact ⟨b, bm, clock, c0, es, seen, left, (hρ id hin).trans q1, q2⟩
   | bufk ty sz n c e =>
     obtain ⟨v, xs, q1, q2⟩ := H
     exact ⟨v, xs, (hρ id hin).trans q1, q2⟩
   | dead =>
     obtain ⟨n, sz, q1⟩ := H
     exact ⟨n, sz, (hρ id hin).trans q1⟩
   | grid tS ty sz n m e =>
     obtain ⟨v, rows, q1, q2⟩ := H
     exact ⟨v, rows, (hρ id hin).trans q1, q2⟩
 · by_cases hin : id ∈ ids
   · have := hM2 id hin
     rw [hid] at this; cases this
   · simp [hin]
 · obtain ⟨X, x1, x2, x3⟩ := I.gst
   exact ⟨X, fun b ⟨id, li, h1, h2⟩ => x1 b ⟨id, li, hρ' id li h1, h2⟩, x2, x3⟩
theorem At.keep {ids ts : List Nat} {L' : List (Nat × AV)} {M' : List (Nat × Blk)} (hL : filtL ids L ts = some L') (hM : filtM ids M ids = some M') (K : At N C L' M' g R) (hs : onlyL ids C.savA = true := by rfl) : At N C L M g R := by
 intro h ρ a w I
 obtain ⟨ρ', _, I'⟩ := I.forget hL hM hs
 exact K h ρ' a w I'
def Sim (x y : AV) : Prop := ∀ h ρ v, Rel h ρ x v → Rel h ρ y v
theorem Sim.refl (x : AV) : Sim x x := fun _ _ _ h => h
theorem Sim.of_eq {x y : AV} (h : x = y) : Sim x y := h ▸ Sim.refl x
theorem Sim.any (x : AV) : Sim x .any := fun _ _ _ _ => .any _ _
inductive Agree (F : Fr) : List (Nat × AV) → Prop
 | nil : Agree F []
 | cons {t : Nat} {v : AV} {r : List (Nat × AV)} : Sim (F t) v → Agree F r → Agree F ((t, v) :: r)
theorem Agree.spec {F : Fr} {L' : List (Nat × AV)} (H : Agree F L') : ∀ t, Sim (F t) (fr L' t) := by
 induction H with
 | nil => exact fun t => .any _
 | cons h _ ih =>
   intro t
   simp only [fr, put]
   split
   · rename_i hb; have := Nat.eq_of_beq_eq_true hb; subst this; exact h
   · exact ih t
theorem BSim.buf {ty sz n n' : Nat} {e e' : Nat → List AV} (hn : n = n') (he : ∀ i, i < n → e i = e' i) : BSim (.buf ty sz n e) (.buf ty sz n' e') := by
 subst hn
 intro h ρ id w H
 obtain ⟨v, xs, q1, q2, q3, q4, q5⟩ := H
 exact ⟨v, xs, q1, q2, fun i hi => he i hi ▸ q3 i hi, q4, fun i j c x hi hc hx => q5 i j c x hi (by rw [he i hi]; exact hc) hx⟩
theorem BSim.map {z : Value} {dom dom' : Int → Bool} {e e' : Int → AV} {n n' : Nat} (h1 : ∀ k, dom k = dom' k) (h2 : ∀ k, e k = e' k) (h3 : n = n') : BSim (.map z dom e n) (.map z dom' e' n') := by
 obtain rfl : dom = dom' := funext h1
 obtain rfl : e = e' := funext h2
 subst h3
 exact .refl _
theorem Sim.ro {sz n n' : Nat} {e e' : Nat → List AV} (hn : n = n') (he : ∀ i, i < n → e i = e' i) : Sim (.ro sz n e) (.ro sz n' e') := by
 subst hn
 intro h ρ v H
 cases H with
 | ro _ _ _ _ a cap hnil hcap hsz hs h1 hc => exact .ro _ _ _ _ _ _ hnil hcap (fun i hi => he i hi ▸ hsz i hi) hs h1 (fun i j c v hi hc' hv => hc i j c v hi (by rw [he i hi]; exact hc') hv)
theorem Sim.agg {xs ys : List AV} (hl : xs.length = ys.length) (hs : ∀ (i : Nat) (x y : AV), xs[i]? = some x → ys[i]? = some y → Sim x y) : Sim (.agg xs) (.agg ys) := by
 intro h ρ v H
 cases H with
 | agg _ _ vs hl' hc =>
   refine .agg _ _ _ (by rw [hl', hl]) fun i c v h1 h2 => ?_
   have hi : i < xs.length := by rw [hl]; exact (List.getElem?_eq_some_iff.1 h1).1
   exact hs i xs[i] c (List.getElem?_eq_getElem hi) h1 h ρ v (hc i xs[i] v (List.getElem?_eq_getElem hi) h2)
inductive AgreeM : List (Nat × Blk) → List (Nat × Blk) → Prop
 | nil : AgreeM [] []
 | cons {i : Nat} {x y : Blk} {r s : List (Nat × Blk)} : BSim x y → AgreeM r s → AgreeM ((i, x) :: r) ((i, y) :: s)
theorem AgreeM.refl : ∀ M, AgreeM M M
 | [] => .nil
 | (_, _) :: r => .cons (.refl _) (AgreeM.refl r)
theorem AgreeM.spec {M M' : List (Nat × Blk)} (H : AgreeM M M') : ∀ i, (mm M' i = none ↔ mm M i = none) ∧ ∀ y, mm M' i = some y → ∃ x, mm M i = some x ∧ BSim x y := by
 induction H with
 | nil => exact fun i => ⟨Iff.rfl, fun y h => by cases h⟩
 | cons h _ ih =>
   rename_i j x y r s hr
   intro i
   simp only [mm, upd]
   split
   · exact ⟨by simp, fun y' e => by cases e; exact ⟨_, rfl, h⟩⟩
   · exact ih i
theorem At.conv {L' : List (Nat × AV)} {M' : List (Nat × Blk)} (hL : Agree (fr L) L') (hM : AgreeM M M') (K : At N C L' M' g R) : At N C L M g R := by
 intro h ρ a w I
 refine K h ρ a w { I with slot := fun t => hL.spec t h ρ _ (I.slot t), blk := fun id y hy => ?_, dom := fun id hid => I.dom id (((hM.spec id).1).1 hid) }
 obtain ⟨x, h1, h2⟩ := (hM.spec id).2 y hy
 exact h2 h ρ id w (I.blk id x h1)
def dstOk (N : Nat) : List Oper → Bool
 | [] => true
 | o :: r => match o.dst with
   | none => dstOk N r
   | some d => match Nat.blt d N with
     | true => dstOk N r
     | false => false
theorem dstOk_spec {N : Nat} {l : List Oper} : dstOk N l = true → ∀ o, o ∈ l → ∀ d, o.dst = some d → d < N := by
 induction l with
 | nil => intro _ o ho; cases ho
 | cons x l ih =>
   intro h o ho d hd
   unfold dstOk at h
   cases hx : x.dst with
   | none =>
     simp only [hx] at h
     rcases List.mem_cons.1 ho with rfl | ho
     · rw [hx] at hd; cases hd
     · exact ih h o ho d hd
   | some e =>
     simp only [hx] at h
     cases hb : Nat.blt e N with
     | false => simp [hb] at h
     | true =>
       simp only [hb] at h
       rcases List.mem_cons.1 ho with rfl | ho
       · rw [hx] at hd; cases hd; exact Nat.le_of_ble_eq_true hb
       · exact ih h o ho d hd
def drawOk (draw : Bool) (ops : Array Oper) (ft : List (List Nat × List Nat)) : Bool := match draw with
 | true => orderOk ops ft
 | false => true
theorem W.region (E : Env P Γ) {id : Nat} {ops : Array Oper} {draw : Bool} (own : List Nat) (rvs : List RV) {A : Acc} (hr : runR Γ own ops.toList ops.toList rvs L M = some A) (hd : dstOk N ops.toList = true) (ho : drawOk draw ops A.ft = true) (hcs : AllP A.cs)
   (hrq : RqOk P A.rq) (K : At N C A.L A.M g (Q .normal)) (hz : FzOk own C := by first | exact .inl rfl | exact .inr (fun _ h => h)) : W P N rr C (.region id ops draw) L M g Q := by
 intro h ρ a w I
 obtain ⟨rs, T, hft⟩ := runR_trace (N := N) E.ty E.depth ops.toList rvs L M hr hcs.mem hrq
 cases draw with
 | false =>
   refine wpIn_region ?_
   have := T.lex (ops := ops) (rr := rr) (n := 1) (Q := Q) hz K 0 h ρ a w I (dstOk_spec hd) (fun j => .inl (by simp))
   rw [List.range_eq_range']
   simpa using this
 | true =>
   refine wpIn_region_any E.mixed ?_
   have hcl : Closed ops (fun i => (Array.replicate ops.size false).getD i false) := by
     intro j o _ hj
     exfalso
     by_cases h : j < ops.size <;> simp [h] at hj
   have hfal : (fun i => (Array.replicate ops.size false).getD i false) = fun _ => false := by
     funext i
     by_cases h : i < ops.size <;> simp [h]
   have e1 : ∀ (l : List (Option Nat × AV)) (G : Fr) (k : Nat), stF G l (fun _ => false) k = G := by
     intro l
     induction l with
     | nil => intros; rfl
     | cons x l ih => intro G k; obtain ⟨e, u⟩ := x; unfold stF; simp [ih]
   have e2 : ∀ (l : List (List (Nat × Blk))) (G : Mm) (k : Nat), stM G l (fun _ => false) k = G := by
     intro l
     induction l with
     | nil => intros; rfl
     | cons x l ih => intro G k; unfold stM; simp [ih]
   have e3 : ∀ n, cnt (fun _ => false) n = n := by
     intro n
     induction n with
     | zero => rfl
     | succ n ih => simp [cnt, ih]
   refine any_order T (by rw [← hft]; exact ho) (dstOk_spec hd) hz K ops.size _ h ρ a _ (by simp) (by rw [hfal, e3]) hcl ?_
   rw [hfal, e1, e2]
   exact I.drew
theorem W.seq {x y : Code} (H : W P N rr C x L M g (Exit.then (fun a w => y.wpIn (Fw rr) 1 P Q a w) Q)) : W P N rr C (.seq x y) L M g Q :=
 fun h ρ a w I => wpIn_seq (H h ρ a w I)
theorem W.skip (K : At N C L M g (Q .normal)) : W P N rr C .skip L M g Q := fun h ρ a w I => wpIn_skip (K h ρ a w I)
theorem W.exit {id : Nat} (K : At N C L M g (Q (.exit id))) : W P N rr C (.exit id) L M g Q := fun h ρ a w I => wpIn_exit (K h ρ a w I)
theorem W.ret (K : At N C L M g (Q .ret)) : W P N rr C .ret L M g Q := fun h ρ a w I => wpIn_ret (K h ρ a w I)
theorem W.block {id : Nat} {c : Code} (H : W P N rr C c L M g (Exit.inBlock id Q)) : W P N rr C (.block id c) L M g Q := fun h ρ a w I => wpIn_block (H h ρ a w I)
theorem W.cond {op : Operand} {x y : Code} {b : Bool} (hb : evO (fr L) op = .bool b) (ht : b = true → W P N rr C x L M g Q) (hf : b = false → W P N rr C y L M g Q) : W P N rr C (.cond op x y) L M g Q := by
 intro h ρ a w I
 have hr : Rel h ρ (.bool b) (a.eval op) := by
   rw [← hb]
   cases op with
   | tmp t => exact I.slot t
   | const v => exact Rel.ofVal h ρ v
   | func f => exact .fn _ _ _ _ [] [] rfl rfl (fun i c v hc => by simp at hc) (fun i c v hc => by simp at hc)
   | global g => exact .any _ _
 have he : a.eval op = .bool b := by generalize a.eval op = z at hr; cases hr; rfl
 exact wpIn_cond_split he (fun h1 => ht h1 h ρ a w I) (fun h1 => hf h1 h ρ a w I)
theorem exists_least {p : Nat → Prop} (h : ∃ n, p n) : ∃ n, p n ∧ ∀ m, p m → n ≤ m := by
 obtain ⟨n, hn⟩ := h
 induction n using Nat.strongRecOn with
 | _ n ih =>
   by_cases hx : ∃ m, m < n ∧ p m
   · obtain ⟨m, hm, hp⟩ := hx
     exact ih m hm hp
   · exact ⟨n, hn, fun m hm => by
       rcases Nat.lt_or_ge m n with h | h
       · exact absurd ⟨m, h, hm⟩ hx
       · exact h⟩
theorem W.loop {S : Type} {c : Code} (J : Nat → S → Prop) (Ls : S → List (Nat × AV)) (Ms : S → List (Nat × Blk)) {n0 : Nat} {s0 : S} (h0 : J n0 s0) (hL : Agree (fr L) (Ls s0)) (hM : AgreeM M (Ms s0))
   (round : ∀ n s, J n s → ∀ K : Act → World → Prop, (∀ n' s', n' < n → J n' s' → At N C (Ls s') (Ms s') g K) → W P N rr C c (Ls s) (Ms s) g (Exit.then K Q)) : W P N rr C (.loop c) L M g Q := by
 refine At.conv hL hM ?_
 intro h ρ a w I
 let J' : Nat → Act → World → Prop := fun n a w => ∃ s h ρ, J n s ∧ InvH N C h ρ (fr (Ls s)) (mm (Ms s)) g a w
 have hex : ∃ n, J' n a w := ⟨n0, s0, h, ρ, h0, I⟩
 classical
 let μ : Act → World → Nat := fun a w => if hh : ∃ n, J' n a w then Classical.choose (exists_least hh) else 0
 have hμ : ∀ a w, (hh : ∃ n, J' n a w) → J' (μ a w) a w ∧ ∀ m, J' m a w → μ a w ≤ m := fun a w hh => by
   have : μ a w = Classical.choose (exists_least hh) := dif_pos hh
   rw [this]
   exact Classical.choose_spec (exists_least hh)
 refine wpIn_loop (fun a w => ∃ n, J' n a w) μ hex ?_
 intro a w ha
 obtain ⟨⟨s, h, ρ, hJ, I⟩, _⟩ := hμ a w ha
 refine round _ s hJ _ (fun n' s' hlt hJ' h' ρ' a' w' I' => ?_) h ρ a w I
 have hex' : ∃ n, J' n a' w' := ⟨n', s', h', ρ', hJ', I'⟩
 exact ⟨hex', Nat.lt_of_le_of_lt ((hμ a' w' hex').2 n' ⟨s', h', ρ', hJ', I'⟩) hlt⟩
end
end Go.Av
end
/- Functions: the return; a contract out of a body. -/
section
set_option linter.all false
namespace Go.Av
def resL (Γ : Tys) (F : Fr) (M : Mm) : List ResultVar → Option (List AV)
 | [] => some []
 | .tmp t :: r => match resL Γ F M r with
   | some xs => some (F t :: xs)
   | none => none
 | .cell a t :: r => match tyOf Γ t with
   | some T => match target M (F a) with
     | some (cs, _, none) => match ofCells T cs with
       | some v => match resL Γ F M r with
         | some xs => some (v :: xs)
         | none => none
       | none => none
     | _ => none
   | none => none
def resV : List AV → AV
 | [x] => x
 | xs => .tup xs
def Cq (w0 : World) (h0 : Hp) (SA : List AV) (SV : List Value) (br : Nat → Prop) : Ctx := { w0 := w0, h0 := h0, savA := SA, savV := SV, bor := br, gh := fun _ _ _ => True, gh_step := fun _ _ _ _ _ _ _ _ _ _ _ _ => trivial }
abbrev Cp (w0 : World) (h0 : Hp) : Ctx := Cq w0 h0 [] [] (fun _ => False)
def RetQ (P : Program) (fn : Func) (h0 : Hp) (w0 : World) (v : AV) (B : List (Nat × Blk)) : Exit → Act → World → Prop := bodyPostM (Fw none) 1 P fn (CtrPost h0 w0 v B)
section
variable {P : Program} {N : Nat} {Γ : Tys} {C : Ctx} {rr : Option Nat} {L : List (Nat × AV)} {M : List (Nat × Blk)} {g : Nat} {Q : Exit → Act → World → Prop} {R : Act → World → Prop}
theorem Lies.other {w w2 : World} {h : Hp} {ρ : Rho} {ad : Addr} {cs : List AV} (H : Lies w h ρ ad cs) (hk : ∀ (b : Nat) (o : Obj), w.heap[b]? = some o → o.isCells = true → w2.heap[b]? = some o) : Lies w2 h ρ ad cs := by
 intro j c hc
 obtain ⟨x, h1, h2⟩ := H j c hc
 refine ⟨x, ?_, h2⟩
 obtain ⟨o, e1, e2⟩ := cells_of_cell h1
 unfold World.cell? at h1 ⊢
 rw [e1] at h1
 rw [hk _ _ e1 e2]
 exact h1
theorem resL_sound (hΓ : TysOk P Γ) {h : Hp} {ρ : Rho} {F : Fr} {Mm' : Mm} {a : Act} {w w2 : World} (I : InvH N C h ρ F Mm' g a w) (hk : ∀ (b : Nat) (o : Obj), w.heap[b]? = some o → o.isCells = true → w2.heap[b]? = some o) : ∀ {l : List ResultVar} {xs : List AV}, resL Γ F Mm' l = some xs →
   ∃ vs, (l.mapM (fun | .tmp t => pure (a.tmps.getD t undef) | .cell x t => do loadVar t (← asAddr (a.tmps.getD x undef)) : ResultVar → Sem Value)).run P w2 = .ok vs w2 ∧ RelL h ρ xs vs := by
 intro l
 induction l with
 | nil => intro xs hx; simp only [resL] at hx; cases hx; exact ⟨[], by simp, RelL.nil _ _⟩
 | cons r l ih =>
   intro xs hx
   cases r with
   | tmp t =>
     simp only [resL] at hx
     split at hx
     · rename_i ys hy
       cases hx
       obtain ⟨vs, h1, h2⟩ := ih hy
       exact ⟨a.tmps.getD t undef :: vs, by simp only [List.mapM_cons, Sem.run_bind, Sem.run_pure, Result.andThen_ok, h1], RelL.cons (I.slot t) h2⟩
     · cases hx
   | cell x t =>
     simp only [resL] at hx
     cases hT : tyOf Γ t with
     | none => simp [hT] at hx
     | some T =>
     simp only [hT] at hx
     cases ht : target Mm' (F x) with
     | none => simp [ht] at hx
     | some q =>
     obtain ⟨cs, rd, c⟩ := q
     simp only [ht] at hx
     cases c with
     | some => simp at hx
     | none =>
     simp only [] at hx
     cases hv : ofCells T cs with
     | none => simp [hv] at hx
     | some v =>
     simp only [hv] at hx
     split at hx
     · rename_i ys hy
       cases hx
       obtain ⟨vs, h1, h2⟩ := ih hy
       obtain ⟨ad, e1, e2⟩ := target_sound I ht (fun _ _ => rfl) (fun q hq => by cases hq) (I.slot x)
       obtain ⟨z, e3, e4⟩ := run_load_lies (P := P) (Lies.other e2 hk) (hΓ t T hT) hv
       have ha : (asAddr (a.tmps.getD x undef)).run P w2 = .ok ad w2 := by rw [e1]; rfl
       refine ⟨z :: vs, ?_, RelL.cons e4 h2⟩
       simp only [List.mapM_cons, Sem.run_bind, ha, Sem.run_pure, Result.andThen_ok, e3, h1]
     · cases hx
theorem leaves {fn : Func} {tmps : Array Value} {R : Ending → World → Prop} : ∀ (Ds : List Nat) (w : World), Ds.Nodup → (∀ D, D ∈ Ds → w.heap[D]? = some (.deferred (some []))) →
   (∀ w2 : World, w2.os = w.os → w2.tape = w.tape → w2.output = w.output → w2.heap.size = w.heap.size → (∀ k, k ∉ Ds → w2.heap[k]? = w.heap[k]?) → ∃ v, (results fn tmps).run P w2 = .ok v w2 ∧ R (.returned v) w2) →
   LeavesInM (Fw none) 1 P fn tmps R (Ds.map (fun D => { target := .collected D, args := #[] })) .returning w := by
 intro Ds
 induction Ds with
 | nil =>
   intro w _ _ H
   obtain ⟨v, h1, h2⟩ := H w rfl rfl rfl rfl (fun _ _ => rfl)
   exact ⟨v, h1, h2⟩
 | cons D Ds ih =>
   intro w hnd hD H
   refine ⟨by simp, .inl ⟨D, _, rfl, run_takeDeferred (hD D (by simp)), ?_⟩⟩
   have hne : ∀ k, k ≠ D → (w.putObj D (.deferred none)).heap[k]? = w.heap[k]? := fun k hk => World.putObj_heap_other hk
   refine ih _ (List.nodup_cons.1 hnd).2 (fun E hE => ?_) (fun w2 e1 e2 e3 e4 e5 => H w2 e1 e2 e3 (by rw [e4]; simp [World.putObj]) (fun k hk => ?_))
   · have : E ≠ D := by rintro rfl; exact (List.nodup_cons.1 hnd).1 hE
     rw [hne E this]
     exact hD E (by simp [hE])
   · simp only [List.mem_cons, not_or] at hk
     rw [e5 k hk.2, hne k hk.1]
theorem resV_rel {h : Hp} {ρ : Rho} {xs : List AV} {vs : List Value} (h2 : RelL h ρ xs vs) : Rel h ρ (resV xs) (if h : vs.length = 1 then vs[0] else .tuple vs.toArray) := by
 unfold resV
 split
 · rename_i x
   have : vs.length = 1 := h2.1
   rw [dif_pos this]
   exact h2.2 0 x _ rfl (by simp)
 · rename_i hx
   have : vs.length ≠ 1 := by
     intro e
     have h3 := h2.1
     rw [e] at h3
     obtain ⟨y, hy⟩ := list_one h3.symm
     exact hx y hy
   rw [dif_neg this]
   exact .tup _ _ _ h2.1 h2.2
theorem At.ret_core (hΓ : TysOk P Γ) {w0 : World} {h0 : Hp} {fn : Func} {v : AV} {B : List (Nat × Blk)} {xs : List AV} (hr : resL Γ (fr L) (mm M) fn.results.toList = some xs) (hval : ∀ b o, h0 b = some o → w0.heap[b]? = some o)
   (H : ∀ h ρ a w, InvH N (Cp w0 h0) h ρ (fr L) (mm M) g a w → ∀ x, Rel h ρ (resV xs) x → ∃ h1 ρ1, Le h h1 ∧ (∀ b o, h b = some o → h1 b = some o) ∧ (∀ b o, h1 b = some o → w.heap[b]? = some o ∧ (b < w0.heap.size → h b = some o)) ∧ Rel h1 ρ1 v x ∧
     (∀ w2 : World, (∀ (b : Nat) (o : Obj), w.heap[b]? = some o → (∀ d, o ≠ .deferred d) → w2.heap[b]? = some o) → w2.heap.size = w.heap.size → Owns h1 ρ1 B w0 w2)) : At N (Cp w0 h0) L M g (RetQ P fn h0 w0 v B .ret) := by
 intro h ρ a w I
 obtain ⟨Ds, hd1, hd2, hd3⟩ := I.dfr
 show LeavesInM (Fw none) 1 P fn a.tmps (CtrPost h0 w0 v B) a.defers .returning w
 rw [hd1]
 refine leaves Ds w hd2 (fun D hD => I.hp _ _ (hd3 D hD).1) (fun w2 e1 e2 e3 e4 e5 => ?_)
 have hnc : ∀ (b : Nat) (o : Obj), w.heap[b]? = some o → (∀ d, o ≠ .deferred d) → w2.heap[b]? = some o := fun b o hb hno => by
   have : b ∉ Ds := fun hb' => by
     have := I.hp _ _ (hd3 b hb').1
     rw [hb] at this; cases this
     exact hno _ rfl
   rw [e5 b this]; exact hb
 obtain ⟨vs, h1, h2⟩ := resL_sound (w2 := w2) hΓ I (fun b o hb ho => hnc b o hb (fun d e => by subst e; simp [Obj.isCells] at ho)) hr
 have hres : (results fn a.tmps).run P w2 = .ok (if h : vs.length = 1 then vs[0] else .tuple vs.toArray) w2 := by
   unfold results
   rw [Array.mapM_eq_mapM_toList]
   rw [map_eq_pure_bind]
   simp only [Sem.run_bind, Sem.run_pure]
   have key : ∀ r : Result (List Value), r = .ok vs w2 → (r.andThen fun a w' => .ok a.toArray w').andThen (fun a w' => Result.ok (if h : a.size = 1 then a[0] else Value.tuple a) w') = .ok (if h : vs.length = 1 then vs[0] else .tuple vs.toArray) w2 := by
     rintro _ rfl
     simp only [Result.andThen_ok, List.size_toArray, List.getElem_toArray]
   exact key _ h1
 refine ⟨_, hres, ?_⟩
 obtain ⟨h1', ρ1, k1, k2, k3, k4, k5⟩ := H h ρ a w I _ (resV_rel h2)
 -- what is left to be read: all but the marks
 let h' : Hp := fun b => if b ∈ Ds then none else h1' b
 have hle : Le h1' h' := by
   intro b o hb _ hno
   show (if b ∈ Ds then none else h1' b) = some o
   rw [if_neg ?_]
   · exact hb
   · intro hbD
     have h4 := (k3 b o hb).1
     rw [I.hp _ _ (hd3 b hbD).1] at h4; cases h4
     exact hno _ rfl
 have O := k5 w2 hnc e4
 refine ⟨h', ρ1, ⟨e1.trans I.os, e2.trans I.tape, e3.trans I.out, by rw [e4]; exact I.sz, fun k hk => ?_⟩, fun b o hb => ?_, fun b o hb => ?_, k4.heap hle, ⟨fun id x hx => ?_, O.dom, fun id li b q1 q2 => ?_, O.inj⟩⟩
 · have : k ∉ Ds := fun hkD => by have := (hd3 k hkD).2; exact absurd hk (Nat.not_lt.2 this)
   rw [e5 k this]
   exact I.kept k hk (fun h => h)
 · show (if b ∈ Ds then none else h1' b) = some o
   have hbh := I.ext b o hb
   rw [if_neg ?_]
   · exact k2 b o hbh
   · intro hbD
     rw [(hd3 b hbD).1] at hbh; cases hbh
     have := (hd3 b hbD).2
     exact absurd (heap_lt (hval b _ hb)) (Nat.not_lt.2 this)
 · have hb' : b ∉ Ds ∧ h1' b = some o := by
     have : (if b ∈ Ds then none else h1' b) = some o := hb
     split at this
     · cases this
     · exact ⟨by assumption, this⟩
   obtain ⟨q1, q2⟩ := k3 b o hb'.2
   rcases Nat.lt_or_ge b w0.heap.size with hlt | hge
   · exact .inl (I.old b o (q2 hlt) hlt)
   · right
     refine ⟨hge, ?_⟩
     rw [e5 b hb'.1]
     exact q1
 · exact (O.blk id x hx).keep hle rfl (hle_refl _) (fun _ _ _ _ => rfl)
 · obtain ⟨q3, q4⟩ := O.own id li b q1 q2
   refine ⟨?_, q4⟩
   show (if b ∈ Ds then none else h1' b) = none
   split
   · rfl
   · exact q3
theorem At.ret (hΓ : TysOk P Γ) {w0 : World} {h0 : Hp} {fn : Func} {v v' : AV} {xs : List AV} {rd : List Nat} {c : Option Prop} (hr : resL Γ (fr L) (mm M) fn.results.toList = some xs) (hv : view (mm M) (resV xs) = some (v', rd, c)) (hc : ∀ q, c = some q → q) (hs : Sim v' v)
   (hval : ∀ b o, h0 b = some o → w0.heap[b]? = some o) : At N (Cp w0 h0) L M g (RetQ P fn h0 w0 v [] .ret) := by
 refine At.ret_core hΓ hr hval fun h ρ a w I x hx => ?_
 have hview := view_sound I (Le.of I.le_all) hx hv (fun _ _ => rfl) hc (fun id hid li b q1 q2 => hAll_own q1 q2)
 refine ⟨hAll h ρ w, ρ0, Le.of I.le_all, I.le_all, fun b o hb => ⟨I.all_hp b o hb, fun hlt => ?_⟩, hs _ _ _ hview, fun w2 _ _ => ⟨fun id x hx => (by cases hx), fun _ _ => rfl, fun id li b h => (by cases h), fun id id' li li' b h => (by cases h)⟩⟩
 unfold hAll at hb
 split at hb
 · rename_i hs'
   obtain ⟨id, li, q1, q2⟩ := hs'
   rcases (I.own id li b q1 q2).2.2 with q3 | q3
   · exact absurd hlt (Nat.not_lt.2 q3)
   · exact q3.elim
 · exact hb
def argL : Nat → List AV → List (Nat × AV)
 | _, [] => []
 | k, x :: r => (k, x) :: argL (k + 1) r
theorem argL_rel {h : Hp} {ρ : Rho} : ∀ {xs : List AV} {vs : List Value} (k : Nat), RelL h ρ xs vs → ∀ t, fr (argL k xs) t = .any ∨ ∃ i v, t = k + i ∧ vs[i]? = some v ∧ Rel h ρ (fr (argL k xs) t) v := by
 intro xs
 induction xs with
 | nil => intro vs k _ t; exact .inl rfl
 | cons x xs ih =>
   intro vs k H t
   obtain ⟨v, r, rfl, h1, h2⟩ := H.inv_cons
   simp only [argL, fr, put]
   split
   · rename_i hb
     have := Nat.eq_of_beq_eq_true hb
     subst this
     exact .inr ⟨0, v, rfl, rfl, h1⟩
   · rcases ih (k + 1) h2 t with e | ⟨i, u, e1, e2, e3⟩
     · exact .inl e
     · exact .inr ⟨i + 1, u, by omega, by simpa using e2, e3⟩
theorem enters_of {f : FuncId} {fn : Func} {c : Code} (hf : P.funcs[f]? = some fn) (hn : (fn.name == "runtime.NumGoroutine") = false) (hb : fn.body = some c) : Enters P f := by
 intro args w
 have hn' : ¬ fn.name = "runtime.NumGoroutine" := by simpa using hn
 unfold callFunc
 simp [Sem.run_bind, hf, hn', hb]
theorem Ctr.of_body {f : FuncId} {fn : Func} {c : Code} {xs : List AV} {v : AV} {B : List (Nat × Blk)} (hf : P.funcs[f]? = some fn) (hn : (fn.name == "runtime.NumGoroutine") = false) (hb : fn.body = some c) (hN : fn.ntmps = N) (hx : Nat.ble xs.length N = true)
   (H : ∀ w0 h0, (∀ b o, h0 b = some o → w0.heap[b]? = some o) → W P N none (Cp w0 h0) c (argL 0 xs) [] 0 (RetQ P fn h0 w0 v B)) : Ctr P f xs v B := by
 refine ⟨enters_of hf hn hb, fun h w vs hR hp => ?_⟩
 refine callsIn_w (n := 1) (callsIn_of_wp_marks hf hb trivial ?_)
 refine H w h hp h ρ0 _ w ?_
 have hlen : vs.length ≤ N := by rw [hR.1]; exact Nat.le_of_ble_eq_true hx
 refine ⟨fun t => ?_, ⟨rfl, fun i c v h1 => by simp [Cp, Cq] at h1⟩, ?_, hp, fun id x hx => (by cases hx), fun _ _ => rfl, fun id li b h1 => (by cases h1), fun id id' li li' b h1 => (by cases h1), rfl, rfl, rfl, Nat.le_refl _, fun _ _ _ => rfl, fun b o hb => hb, fun b o hb _ => hb, ⟨fun _ => True, fun _ _ => trivial, fun _ _ _ => .inr trivial, trivial⟩, ⟨[], rfl, List.nodup_nil, fun D hD => (by cases hD)⟩⟩
 · rcases argL_rel (h := h) (ρ := ρ0) 0 hR t with e | ⟨i, u, e1, e2, e3⟩
   · rw [e]; exact .any _ _
   · have e0 : t = i := by omega
     subst e0
     have hi : t < vs.length := (List.getElem?_eq_some_iff.1 e2).1
     have : (vs.toArray ++ Array.replicate (fn.ntmps - vs.toArray.size) undef).getD t undef = u := by
       have e4 : vs[t] = u := by have := List.getElem?_eq_getElem hi; rw [this] at e2; exact Option.some.inj e2
       simp [Array.getElem?_append, hi, e4]
     rw [this]
     exact e3
 · simp [hN]; omega
end
end Go.Av
end
/- The types of a program, by reckoning. -/
section
set_option linter.all false
namespace Go.Av
def mkDs (P : Program) (t : TypeId) : TypeDesc → Option Ds
 | .int k => some (.int k)
 | .bool => some .bool
 | .pointer e => some (.ptr e)
 | .slice e => some (.slice e)
 | .array n e => some (.array n e)
 | .map k e => some (.map k e)
 | .func _ _ _ => some .func
 | .interface _ => some .iface
 | .struct f => if (f.toList.all fun x => (x.name != "_") && (P.info? x.type).isSome) && !P.stoodInHeld t then some (.struct (f.toList.map fun x => (x.offset, x.type))) else none
 | _ => some .other
def mkZero (d : Ds) (z : Value) : Option (List Value) := match d.agg with
 | true => match z with
   | .agg a => some a.toList
   | _ => none
 | false => some [z]
def mkTy (P : Program) (t : TypeId) : Option TyD := match P.info? t with
 | some i => match i.zero with
   | some z => match P.underlying t with
     | some d => match mkDs P t d with
       | some ds => match mkZero ds z with
         | some zs => if zs.length == i.size && (zs.all fun v => single (ofVal v)) && (ds.agg || i.size == 1) then some ⟨ds, zs, i.size, i.bytes⟩ else none
         | none => none
       | none => none
     | none => none
   | none => none
 | none => none
def mkTys (P : Program) : List Nat → Option Tys
 | [] => some []
 | t :: r => match mkTy P t with
   | some T => match mkTys P r with
     | some Γ => some ((t, T) :: Γ)
     | none => none
   | none => none
theorem mkDs_sound {P : Program} {t : TypeId} {d : TypeDesc} {ds : Ds} (h : mkDs P t d = some ds) : DsOk P t ds d := by
 unfold mkDs at h
 cases d <;> simp only [] at h <;> (try (split at h)) <;> cases h <;> simp only [DsOk] <;> (try (first | rfl | exact ⟨_, rfl⟩ | exact ⟨_, _, _, rfl⟩ | (refine ⟨fun f e => ?_, fun n e' e => ?_, fun ms e => ?_⟩ <;> cases e; done)))
 rename_i f hc
 simp only [Bool.and_eq_true, List.all_eq_true, bne_iff_ne, ne_eq, Bool.not_eq_true'] at hc
 exact ⟨f, rfl, rfl, fun x hx => (hc.1 x hx).1, hc.2, fun x hx => (hc.1 x hx).2⟩
theorem mkTy_sound {P : Program} {t : TypeId} {T : TyD} (h : mkTy P t = some T) : TyOk P t T := by
 unfold mkTy at h
 cases hi : P.info? t with
 | none => simp [hi] at h
 | some i =>
 simp only [hi] at h
 cases hz : i.zero with
 | none => simp [hz] at h
 | some z =>
 simp only [hz] at h
 cases hu : P.underlying t with
 | none => simp [hu] at h
 | some d =>
 simp only [hu] at h
 cases hd : mkDs P t d with
 | none => simp [hd] at h
 | some ds =>
 simp only [hd] at h
 cases hm : mkZero ds z with
 | none => simp [hm] at h
 | some zs =>
 simp only [hm] at h
 split at h
 · rename_i hc
   cases h
   simp only [Bool.and_eq_true, beq_iff_eq, List.all_eq_true, Bool.or_eq_true] at hc
   obtain ⟨⟨h1, h2⟩, h3⟩ := hc
   refine ⟨⟨i, hi, rfl, rfl, ?_⟩, h1, h2, fun ha => ?_, d, hu, mkDs_sound hd⟩
   · rw [hz]
     unfold mkZero at hm
     unfold TyD.zeroV
     cases ha : ds.agg with
     | true =>
       simp only [ha] at hm ⊢
       cases z <;> simp only [] at hm <;> cases hm
       simp
     | false =>
       simp only [ha] at hm ⊢
       cases hm; rfl
   · simp only at ha
     rcases h3 with h3 | h3
     · rw [ha] at h3; cases h3
     · exact h3
 · cases h
theorem mkTys_sound {P : Program} : ∀ {ts : List Nat} {Γ : Tys}, mkTys P ts = some Γ → TysOk P Γ
 | [], Γ, h => by simp only [mkTys] at h; cases h; exact TysOk.nil P
 | t :: r, Γ, h => by
   simp only [mkTys] at h
   split at h
   · rename_i T hT
     split at h
     · rename_i G hG
       cases h
       exact TysOk.cons (mkTy_sound hT) (mkTys_sound hG)
     · cases h
   · cases h
end Go.Av
end
/- Rules for the printed definitions: joins, loops. -/
section
set_option linter.all false
namespace Go.Av
open Go.Sp
def roL {T : Type} [Inhabited T] (sz : Nat) (f : T → List AV) (l : List T) : AV := .ro sz l.length (fun i => f (l.getD i default))
def bufL {T : Type} [Inhabited T] (ty sz : Nat) (f : T → List AV) (l : List T) : Blk := .buf ty sz l.length (fun i => f (l.getD i default))
section
variable {P : Program} {N : Nat} {Γ : Tys} {C : Ctx} {rr : Option Nat} {L : List (Nat × AV)} {M : List (Nat × Blk)} {g : Nat} {Q : Exit → Act → World → Prop}
theorem W.loopGo {S R : Type} {body : S → (S → Option R) → Option R} {n : Nat} {s0 : S} {r : R} {c : Code} (H : loopGo body n s0 = some r) (Ls : S → List (Nat × AV)) (Ms : S → List (Nat × Blk)) (hL : Agree (fr L) (Ls s0)) (hM : AgreeM M (Ms s0))
   (round : ∀ (κ : S → Option R) (s : S), body s κ = some r → ∀ K : Act → World → Prop, (∀ s', κ s' = some r → At N C (Ls s') (Ms s') g K) → W P N rr C c (Ls s) (Ms s) g (Exit.then K Q)) : W P N rr C (.loop c) L M g Q := by
 refine W.loop (S := S) (fun n s => Sp.loopGo body n s = some r) Ls Ms H hL hM (fun n s hJ K hK => ?_)
 cases n with
 | zero => simp [Sp.loopGo] at hJ
 | succ n => exact round (Sp.loopGo body n) s hJ K (fun s' hs' => hK n s' (Nat.lt_succ_self n) hs')
theorem W.rangeGo {S R : Type} {body : Nat → S → (S → R) → R} {exit : S → R} {b : Nat} {s0 : S} {r : R} {c : Code} (H : rangeGo body exit b 0 s0 = r) (Ls : Nat → S → List (Nat × AV)) (Ms : Nat → S → List (Nat × Blk)) (hL : Agree (fr L) (Ls 0 s0)) (hM : AgreeM M (Ms 0 s0))
   (round : ∀ (κ : S → R) (i : Nat) (s : S), i ≤ b → (i < b → body i s κ = r) → (b ≤ i → exit s = r) → ∀ K : Act → World → Prop, (i < b → ∀ s', κ s' = r → At N C (Ls (i + 1) s') (Ms (i + 1) s') g K) → W P N rr C c (Ls i s) (Ms i s) g (Exit.then K Q)) :
   W P N rr C (.loop c) L M g Q := by
 refine W.loop (S := Nat × S) (n0 := b) (s0 := (0, s0)) (fun n s => s.1 + n = b ∧ Sp.rangeGo body exit n s.1 s.2 = r) (fun s => Ls s.1 s.2) (fun s => Ms s.1 s.2) ⟨Nat.zero_add _, H⟩ hL hM (fun n s hJ K hK => ?_)
 obtain ⟨i, s⟩ := s
 obtain ⟨h1, h2⟩ := hJ
 simp only at h1 h2 hK ⊢
 cases n with
 | zero => exact round (fun s => exit s) i s (by omega) (fun hlt => by omega) (fun _ => h2) K (fun hlt => by omega)
 | succ n => exact round (Sp.rangeGo body exit n (i + 1)) i s (by omega) (fun _ => h2) (fun hge => by omega) K (fun _ s' hs' => hK n (i + 1, s') (Nat.lt_succ_self n) ⟨by simp only; omega, hs'⟩)
theorem At.convM {M' : List (Nat × Blk)} {R : Act → World → Prop} (hM : AgreeM M M') (K : At N C L M' g R) : At N C L M g R := by
 intro h ρ a w I
 refine K h ρ a w { I with blk := fun id y hy => ?_, dom := fun id hid => I.dom id (((hM.spec id).1).1 hid) }
 obtain ⟨x, h1, h2⟩ := (hM.spec id).2 y hy
 exact h2 h ρ id w (I.blk id x h1)
theorem Sim.nil (sz : Nat) (e : Nat → List AV) : Sim .nilS (.ro sz 0 e) := by
 intro h ρ v H
 cases H
 exact .ro _ _ _ _ none 0 (fun _ => rfl) ⟨Nat.le_refl _, Nat.zero_le _⟩ (fun i hi => by omega) (fun i j hi => by omega) (fun k v hk => by simp at hk) (fun i j c v hi => by omega)
theorem Sim.tup {xs ys : List AV} (hl : xs.length = ys.length) (hs : ∀ (i : Nat) (x y : AV), xs[i]? = some x → ys[i]? = some y → Sim x y) : Sim (.tup xs) (.tup ys) := by
 intro h ρ v H
 cases H with
 | tup _ _ vs hl' hc =>
   refine .tup _ _ _ (by rw [hl', hl]) fun i c v h1 h2 => ?_
   have hi : i < xs.length := by rw [hl]; exact (List.getElem?_eq_some_iff.1 h1).1
   exact hs i xs[i] c (List.getElem?_eq_getElem hi) h1 h ρ v (hc i xs[i] v (List.getElem?_eq_getElem hi) h2)
inductive SimL : List AV → List AV → Prop
 | nil : SimL [] []
 | cons {x y : AV} {r s : List AV} : Sim x y → SimL r s → SimL (x :: r) (y :: s)
theorem SimL.spec {xs ys : List AV} (H : SimL xs ys) : xs.length = ys.length ∧ ∀ (i : Nat) (x y : AV), xs[i]? = some x → ys[i]? = some y → Sim x y := by
 induction H with
 | nil => exact ⟨rfl, fun i x y h => by simp at h⟩
 | cons h _ ih =>
   refine ⟨by simp [ih.1], fun i x y h1 h2 => ?_⟩
   cases i with
   | zero => simp at h1 h2; subst h1 h2; exact h
   | succ i => exact ih.2 i x y (by simpa using h1) (by simpa using h2)
theorem Sim.tupL {xs ys : List AV} (H : SimL xs ys) : Sim (.tup xs) (.tup ys) := Sim.tup H.spec.1 H.spec.2
theorem Sim.aggL {xs ys : List AV} (H : SimL xs ys) : Sim (.agg xs) (.agg ys) := Sim.agg H.spec.1 H.spec.2
theorem W.len {c : Code} {t sz n : Nat} {e : Nat → List AV} (ht : fr L t = .ro sz n e) (K : n ≤ maxLen → W P N rr C c L M g Q) : W P N rr C c L M g Q := by
 intro h ρ a w I
 have := I.slot t
 rw [ht] at this
 generalize a.tmps.getD t undef = v at this
 cases this with
 | ro _ _ _ _ _ _ _ hcap _ _ _ _ => exact K hcap.2 h ρ a w I
theorem BSim.push {T : Type} [Inhabited T] {ty sz : Nat} {f : T → List AV} {l r : List T} {e : Nat → List AV} {n : Nat} (hn : n = r.length) (he : ∀ k, k < r.length → e k = f (r.getD k default)) :
   BSim (.buf ty sz (l.length + n) (fun k => if k < l.length then f (l.getD k default) else e (k - l.length))) (.buf ty sz (l ++ r).length (fun k => f ((l ++ r).getD k default))) := by
 subst hn
 refine BSim.buf (by simp) (fun i hi => ?_)
 by_cases h : i < l.length
 · simp [h, List.getD_eq_getElem?_getD, List.getElem?_append_left h]
 · simp only [h, if_false]
   rw [he _ (by omega)]
   simp [List.getD_eq_getElem?_getD, List.getElem?_append_right (Nat.le_of_not_lt h)]
theorem BSim.set {T : Type} [Inhabited T] {ty sz : Nat} {f : T → List AV} {l : List T} {i : Nat} {x : T} {es : List AV} (he : es = f x) :
   BSim (.buf ty sz l.length (fun k => if k = i then es else f (l.getD k default))) (.buf ty sz (l.set i x).length (fun k => f ((l.set i x).getD k default))) := by
 subst he
 refine BSim.buf (by simp) (fun k hk => ?_)
 by_cases h : k = i
 · subst h; simp [List.getD_eq_getElem?_getD, hk]
 · simp [h, List.getD_eq_getElem?_getD, List.getElem?_set_ne (Ne.symm h)]
theorem BSim.made {T : Type} [Inhabited T] {ty sz n : Nat} {f : T → List AV} {x : T} {e : List AV} (he : e = f x) : BSim (.buf ty sz n (fun _ => e)) (.buf ty sz (List.replicate n x).length (fun k => f ((List.replicate n x).getD k default))) := by
 subst he
 refine BSim.buf (by simp) (fun k hk => ?_)
 simp [List.getD_eq_getElem?_getD, hk]
theorem At.thenC {y : Code} (K : W P N rr C y L M g Q) : At N C L M g (Exit.then (fun a w => y.wpIn (Fw rr) 1 P Q a w) Q .normal) := K
theorem At.thenK {K : Act → World → Prop} (H : At N C L M g K) : At N C L M g (Exit.then K Q .normal) := H
theorem At.inb {id : Nat} (H : At N C L M g (Q .normal)) : At N C L M g (Exit.inBlock id Q .normal) := H
theorem At.rthen {K : Act → World → Prop} (H : At N C L M g (Q .ret)) : At N C L M g (Exit.then K Q .ret) := H
theorem At.rinb {id : Nat} (H : At N C L M g (Q .ret)) : At N C L M g (Exit.inBlock id Q .ret) := H
theorem At.xthen {K : Act → World → Prop} {i : Nat} (H : At N C L M g (Q (.exit i))) : At N C L M g (Exit.then K Q (.exit i)) := H
theorem At.xhere {i : Nat} (H : At N C L M g (Q .normal)) : At N C L M g (Exit.inBlock i Q (.exit i)) := by
 have e : Exit.inBlock i Q (.exit i) = Q .normal := by funext a w; simp [Exit.inBlock]
 rw [e]; exact H
theorem At.xpast {i j : Nat} (h : Nat.beq j i = false) (H : At N C L M g (Q (.exit j))) : At N C L M g (Exit.inBlock i Q (.exit j)) := by
 have hne : j ≠ i := by rintro rfl; simp at h
 have e : Exit.inBlock i Q (.exit j) = Q (.exit j) := by funext a w; simp [Exit.inBlock, hne]
 rw [e]; exact H
theorem Ctr.sim {f : FuncId} {xs ys : List AV} {v : AV} {B : List (Nat × Blk)} (hs : SimL xs ys) (H : Ctr P f ys v B) : Ctr P f xs v B := by
 refine ⟨H.1, fun h w vs hR hp => H.2 h w vs ?_ hp⟩
 obtain ⟨hl, hs'⟩ := hs.spec
 refine ⟨by rw [hR.1, hl], fun i c v hc hv => ?_⟩
 have hi : i < xs.length := by rw [hl]; exact (List.getElem?_eq_some_iff.1 hc).1
 exact hs' i xs[i] c (List.getElem?_eq_getElem hi) hc h ρ0 v (hR.2 i xs[i] v (List.getElem?_eq_getElem hi) hv)
theorem elemAt_flat {T : Type} [Inhabited T] {sz : Nat} {f : T → List AV} (hf : ∀ x, (f x).length = sz) : ∀ (l : List T) (i : Nat), i < l.length → elemAt sz (l.flatMap f) i = f (l.getD i default)
 | x :: l, 0, _ => by
   unfold elemAt
   simp [hf x]
 | x :: l, i + 1, h => by
   have := elemAt_flat hf l i (by simpa using h)
   unfold elemAt at this ⊢
   rw [List.flatMap_cons, Nat.add_mul, Nat.one_mul, Nat.add_comm, ← List.drop_drop]
   have e : (f x ++ l.flatMap f).drop sz = l.flatMap f := by rw [← hf x]; simp
   rw [e, this]
   simp
theorem Sim.lit {T : Type} [Inhabited T] {sz n : Nat} {f : T → List AV} {cs : List AV} (l : List T) (hn : n = l.length) (hc : cs = l.flatMap f) (hf : ∀ x, (f x).length = sz) : Sim (.ro sz n (elemAt sz cs)) (.ro sz l.length (fun i => f (l.getD i default))) := by
 subst hn hc
 exact Sim.ro rfl (fun i hi => elemAt_flat hf l i hi)
theorem BSim.lit {T : Type} [Inhabited T] {ty sz n : Nat} {f : T → List AV} {cs : List AV} (l : List T) (hn : n = l.length) (hc : cs = l.flatMap f) (hf : ∀ x, (f x).length = sz) : BSim (.buf ty sz n (elemAt sz cs)) (.buf ty sz l.length (fun i => f (l.getD i default))) := by
 subst hn hc
 exact BSim.buf rfl (fun i hi => elemAt_flat hf l i hi)
theorem At.slot {R : Act → World → Prop} {t : Nat} {v : AV} (hs : Sim (fr L t) v) (K : At N C ((t, v) :: L) M g R) : At N C L M g R := by
 intro h ρ a w I
 refine K h ρ a w { I with slot := fun u => ?_ }
 simp only [fr, put]
 split
 · rename_i hb
   have := Nat.eq_of_beq_eq_true hb
   subst this
   exact hs h ρ _ (I.slot u)
 · exact I.slot u
theorem At.nilOwn {R : Act → World → Prop} (t id ty sz : Nat) {e : Nat → List AV} (ht : fr L t = .nilS) (hid : mm M id = none) (K : At N C ((t, .buf id 0) :: L) ((id, .buf ty sz 0 e) :: M) g R) : At N C L M g R := by
 intro h ρ a w I
 have hρ := I.dom id hid
 have hle : ∀ i l, ρ i = some l → ∃ l', upd ρ id (some (.sl 0 sz (.slice none 0 0))) i = some l' ∧ l.le l' := by
   intro i l hi
   have hne : i ≠ id := by rintro rfl; rw [hρ] at hi; cases hi
   exact ⟨l, by rw [upd_other _ _ hne]; exact hi, .inl rfl⟩
 have I' : InvH N C h (upd ρ id (some (.sl 0 sz (.slice none 0 0)))) (fr L) (mm ((id, .buf ty sz 0 e) :: M)) g a w := by
   refine I.step (S := fun i => i = id) rfl rfl rfl (Nat.le_refl _) (fun _ _ _ => rfl) (fun i hi => upd_other _ _ hi) hle (fun _ _ h => h) (fun _ _ h => .inl h) (fun i hi => upd_other _ _ hi) ?_ ?_ ?_ ?_
   · rintro i rfl hM; simp only [mm] at hM; rw [upd_same] at hM; cases hM
   · rintro i y rfl hM; simp only [mm] at hM; rw [upd_same] at hM; cases hM
     exact ⟨.slice none 0 0, [], upd_same _ _ _, ⟨by simp, .inl ⟨rfl, rfl⟩⟩, fun j hj => (by omega), fun x hx => (by cases hx), fun j k c x hj => (by omega)⟩
   · rintro i l b rfl h1 h2; rw [upd_same] at h1; cases h1; simp [LI.owns, Value.ownBlock] at h2
   · rintro i i' l l' b rfl rfl _ _ _ _; rfl
 refine K h _ a w { I' with slot := fun u => ?_ }
 simp only [fr, put]
 split
 · rename_i hb
   have := Nat.eq_of_beq_eq_true hb
   subst this
   have hv := I.slot u
   rw [ht] at hv
   generalize a.tmps.getD u undef = x at hv
   cases hv
   exact .buf _ _ _ _ _ _ _ (upd_same _ _ _) (Nat.le_refl _) rfl (fun _ => rfl)
 · exact I'.slot u
theorem Sim.sub {T : Type} [Inhabited T] {sz n : Nat} {f : T → List AV} {l : List T} {e : Nat → List AV} (hn : n = l.length) (he : ∀ i, i < l.length → e i = f (l.getD i default)) : Sim (.ro sz n e) (.ro sz l.length (fun i => f (l.getD i default))) := by
 subst hn
 exact Sim.ro rfl he
def Seg {T : Type} [Inhabited T] (f : T → List AV) (n : Nat) (e : Nat → List AV) (l : List T) : Prop := n = l.length ∧ ∀ k, k < n → e k = f (l.getD k default)
theorem Seg.refl {T : Type} [Inhabited T] (f : T → List AV) (l : List T) : Seg f l.length (fun k => f (l.getD k default)) l := ⟨rfl, fun _ _ => rfl⟩
theorem Seg.lit {T : Type} [Inhabited T] {f : T → List AV} {sz n : Nat} {cs : List AV} (l : List T) (hn : n = l.length) (hc : cs = l.flatMap f) (hf : ∀ x, (f x).length = sz) : Seg f n (elemAt sz cs) l := by
 subst hn hc
 exact ⟨rfl, fun k hk => elemAt_flat hf l k hk⟩
theorem Seg.made {T : Type} [Inhabited T] {f : T → List AV} {n : Nat} (x : T) {e : List AV} (he : e = f x) : Seg f n (fun _ => e) (List.replicate n x) := by
 subst he
 exact ⟨by simp, fun k hk => by simp [List.getD_eq_getElem?_getD, hk]⟩
theorem Seg.push {T : Type} [Inhabited T] {f : T → List AV} {n m : Nat} {e e' : Nat → List AV} {l r : List T} (h : Seg f n e l) (h' : Seg f m e' r) : Seg f (n + m) (fun k => if k < n then e k else e' (k - n)) (l ++ r) := by
 obtain ⟨rfl, h1⟩ := h
 obtain ⟨rfl, h2⟩ := h'
 refine ⟨by simp, fun k hk => ?_⟩
 by_cases h : k < l.length
 · simp only [h, if_true]
   rw [h1 k h]
   simp [List.getD_eq_getElem?_getD, List.getElem?_append_left h]
 · simp only [h, if_false]
   rw [h2 _ (by omega)]
   simp [List.getD_eq_getElem?_getD, List.getElem?_append_right (Nat.le_of_not_lt h)]
theorem Seg.set {T : Type} [Inhabited T] {f : T → List AV} {n i : Nat} {e : Nat → List AV} {l : List T} {es : List AV} (h : Seg f n e l) (x : T) (he : es = f x) : Seg f n (fun k => if k = i then es else e k) (l.set i x) := by
 obtain ⟨rfl, h1⟩ := h
 subst he
 refine ⟨by simp, fun k hk => ?_⟩
 by_cases h : k = i
 · subst h; simp [List.getD_eq_getElem?_getD, hk]
 · simp only [h, if_false]
   rw [h1 k hk]
   simp [List.getD_eq_getElem?_getD, List.getElem?_set_ne (Ne.symm h)]
theorem Seg.take {T : Type} [Inhabited T] (f : T → List AV) (l : List T) (a : Nat) (h : a ≤ l.length) : Seg f a (fun k => f (l.getD k default)) (l.take a) := by
 refine ⟨by simp; omega, fun k hk => ?_⟩
 simp [List.getD_eq_getElem?_getD, List.getElem?_take, hk]
theorem Seg.drop {T : Type} [Inhabited T] (f : T → List AV) (l : List T) (a : Nat) : Seg f (l.length - a) (fun k => f (l.getD (a + k) default)) (l.drop a) := by
 refine ⟨by simp, fun k hk => ?_⟩
 simp [List.getD_eq_getElem?_getD, List.getElem?_drop]
theorem Seg.cut {T : Type} [Inhabited T] (f : T → List AV) (l : List T) (a b : Nat) (h : b ≤ l.length) : Seg f (b - a) (fun k => f (l.getD (a + k) default)) ((l.take b).drop a) := by
 refine ⟨by simp; omega, fun k hk => ?_⟩
 simp [List.getD_eq_getElem?_getD, List.getElem?_drop, List.getElem?_take, show a + k < b by omega]
theorem Sim.seg {T : Type} [Inhabited T] {sz n : Nat} {f : T → List AV} {e : Nat → List AV} {l : List T} (h : Seg f n e l) : Sim (.ro sz n e) (roL sz f l) := Sim.ro h.1 h.2
theorem BSim.seg {T : Type} [Inhabited T] {ty sz n : Nat} {f : T → List AV} {e : Nat → List AV} {l : List T} (h : Seg f n e l) : BSim (.buf ty sz n e) (bufL ty sz f l) := BSim.buf h.1 h.2
end
end Go.Av
end
/- A scope of labels, without jumps to them; maps read as such. -/
section
set_option linter.all false
namespace Go
section
variable {F : Fence} {n : Nat} {P : Program} {b : Frame} {a : Act} {k : List Item} {cs : List Frame} {w : World} {Q : Exit → Act → World → Prop}
theorem av_stepR_scope {c : Code} : step P (lone (b.atR a (.code (.scope c) :: k)) cs w) = .next (lone (b.atR a (.code c :: .inScope c :: k)) cs w) :=
 step_lone_go (by simp [stepG, stepG.exec, Frame.atR])
theorem av_stepR_inScope {c : Code} : step P (lone (b.atR a (.inScope c :: k)) cs w) = .next (lone (b.atR a k) cs w) :=
 step_lone_go (by simp [stepG, stepG.exec, Frame.atR])
theorem av_wpIn_scope {c : Code} (h : c.wpIn F n P (Exit.noGoto Q) a w) : (Code.scope c).wpIn F n P Q a w := by
 intro b k cs hro hb hr
 have h0 : (lone (b.atR a (.code (.scope c) :: k)) cs w).fenced P F := fenced_calm hb hr rfl
 obtain ⟨e, a₁, w₁, hq, harr⟩ := h b (.inScope c :: k) cs hro hb hr
 cases e with
 | normal => exact ⟨.normal, a₁, w₁, hq, .head h0 av_stepR_scope (StepsIn.trans harr (.one (fenced_calm hb hr rfl) av_stepR_inScope))⟩
 | exit id =>
   have hx : exitTo id (.inScope c :: k) = exitTo id k := by simp [exitTo]
   exact ⟨.exit id, a₁, w₁, hq, fun k' hk => .head h0 av_stepR_scope (harr.1 k' (by rw [hx]; exact hk)),
     fun hr' hk => let ⟨k₁, h1, h2⟩ := harr.2 hr' (by rw [hx]; exact hk); ⟨k₁, h1, .head h0 av_stepR_scope h2⟩⟩
 | goto l => exact hq.elim
 | ret => exact ⟨_, a₁, w₁, hq, .of_steps (.one h0 av_stepR_scope) harr⟩
 | panic ch => exact ⟨_, a₁, w₁, hq, .of_steps (.one h0 av_stepR_scope) harr⟩
 | outgrown => exact ⟨_, a₁, w₁, hq, .of_steps (.one h0 av_stepR_scope) harr⟩
end
end Go
namespace Go.Av
section
variable {P : Program} {N : Nat} {Γ : Tys} {C : Ctx} {rr : Option Nat} {L : List (Nat × AV)} {M : List (Nat × Blk)} {g : Nat} {Q : Exit → Act → World → Prop}
theorem W.joinC {S R : Type} {f : (S → R) → R} {k : S → R} {r : R} {x y : Code} (H : Sp.joinK f k = r) (Ls : S → List (Nat × AV)) (Ms : S → List (Nat × Blk))
   (rest : ∀ s, k s = r → W P N rr C y (Ls s) (Ms s) g Q)
   (first : ∀ κ : S → R, f κ = r → (∀ s, κ s = r → At N C (Ls s) (Ms s) g (fun a w => y.wpIn (Fw rr) 1 P Q a w)) → W P N rr C x L M g (Exit.then (fun a w => y.wpIn (Fw rr) 1 P Q a w) Q)) : W P N rr C x L M g (Exit.then (fun a w => y.wpIn (Fw rr) 1 P Q a w) Q) :=
 first k H rest
theorem W.scope {c : Code} (H : W P N rr C c L M g (Exit.noGoto Q)) : W P N rr C (.scope c) L M g Q := fun h ρ a w I => av_wpIn_scope (H h ρ a w I)
theorem W.label {l : Nat} (K : At N C L M g (Q .normal)) : W P N rr C (.label l) L M g Q := fun h ρ a w I => wpIn_label (K h ρ a w I)
theorem At.rins (H : At N C L M g (Q .ret)) : At N C L M g (Exit.noGoto Q .ret) := H
end
def setNil : List AV → Nat → Nat → Option (List AV)
 | .nilS :: r, 0, id => some (.buf id 0 :: r)
 | x :: r, n + 1, id => match setNil r n id with
   | some r' => some (x :: r')
   | none => none
 | _, _, _ => none
theorem setNil_spec {id : Nat} : ∀ {cs cs' : List AV} {j : Nat}, setNil cs j id = some cs' → cs'.length = cs.length ∧ ∀ (i : Nat) (c : AV), cs'[i]? = some c → cs[i]? = some c ∨ (c = .buf id 0 ∧ cs[i]? = some .nilS) := by
 intro cs
 induction cs with
 | nil => intro cs' j h; cases j <;> simp [setNil] at h
 | cons x r ih =>
   intro cs' j h
   cases j with
   | zero =>
     cases x <;> simp only [setNil] at h <;> cases h
     refine ⟨rfl, fun i c hc => ?_⟩
     cases i with
     | zero => simp at hc; subst hc; exact .inr ⟨rfl, rfl⟩
     | succ i => exact .inl (by simpa using hc)
   | succ j =>
     simp only [setNil] at h
     split at h
     · rename_i r' hr
       cases h
       obtain ⟨h1, h2⟩ := ih hr
       refine ⟨by simp [h1], fun i c hc => ?_⟩
       cases i with
       | zero => exact .inl (by simpa using hc)
       | succ i => simpa using h2 i c (by simpa using hc)
     · cases h
section
variable {N : Nat} {C : Ctx} {L : List (Nat × AV)} {M : List (Nat × Blk)} {g : Nat}
theorem At.nilOwnCell {R : Act → World → Prop} (i0 j0 id ty sz : Nat) {e : Nat → List AV} {cs cs' : List AV} (hc : mm M i0 = some (.cells cs)) (hs : setNil cs j0 id = some cs') (hid : mm M id = none) (K : At N C L ((i0, .cells cs') :: (id, .buf ty sz 0 e) :: M) g R) : At N C L M g R := by
 intro h ρ a w I
 have hρ := I.dom id hid
 have hne0 : i0 ≠ id := by rintro rfl; rw [hc] at hid; cases hid
 have hle : ∀ i l, ρ i = some l → ∃ l', upd ρ id (some (.sl 0 sz (.slice none 0 0))) i = some l' ∧ l.le l' := by
   intro i l hi
   have hne : i ≠ id := by rintro rfl; rw [hρ] at hi; cases hi
   exact ⟨l, by rw [upd_other _ _ hne]; exact hi, .inl rfl⟩
 have I' : InvH N C h (upd ρ id (some (.sl 0 sz (.slice none 0 0)))) (fr L) (mm ((id, .buf ty sz 0 e) :: M)) g a w := by
   refine I.step (S := fun i => i = id) rfl rfl rfl (Nat.le_refl _) (fun _ _ _ => rfl) (fun i hi => upd_other _ _ hi) hle (fun _ _ h => h) (fun _ _ h => .inl h) (fun i hi => upd_other _ _ hi) ?_ ?_ ?_ ?_
   · rintro i rfl hM; simp only [mm] at hM; rw [upd_same] at hM; cases hM
   · rintro i y rfl hM; simp only [mm] at hM; rw [upd_same] at hM; cases hM
     exact ⟨.slice none 0 0, [], upd_same _ _ _, ⟨by simp, .inl ⟨rfl, rfl⟩⟩, fun j hj => (by omega), fun x hx => (by cases hx), fun j k c x hj => (by omega)⟩
   · rintro i l b rfl h1 h2; rw [upd_same] at h1; cases h1; simp [LI.owns, Value.ownBlock] at h2
   · rintro i i' l l' b rfl rfl _ _ _ _; rfl
 refine K h _ a w { I' with blk := fun i x hx => ?_, dom := fun i hi => I'.dom i ?_ }
 · simp only [mm] at hx
   by_cases hi : i = i0
   · subst hi
     rw [upd_same] at hx; cases hx
     have hold : mm ((id, .buf ty sz 0 e) :: M) i = some (.cells cs) := by simp only [mm]; rw [upd_other _ _ hne0]; exact hc
     obtain ⟨b, vs, ty', q1, q2, q3, q4⟩ := I'.blk i _ hold
     obtain ⟨s1, s2⟩ := setNil_spec hs
     refine ⟨b, vs, ty', q1, q2, by rw [q3, s1], fun j c v hj hv => ?_⟩
     rcases s2 j c hj with e1 | ⟨rfl, e1⟩
     · exact q4 j c v e1 hv
     · have := q4 j _ v e1 hv
       cases this
       exact .buf _ _ _ _ _ _ _ (upd_same _ _ _) (Nat.le_refl _) rfl (fun _ => rfl)
   · rw [upd_other _ _ hi] at hx
     exact I'.blk i x hx
 · simp only [mm] at hi ⊢
   by_cases hi0 : i = i0
   · subst hi0; rw [upd_same] at hi; cases hi
   · rw [upd_other _ _ hi0] at hi; exact hi
end
open Go.Sp
def MSeg {T : Type} [Inhabited T] (f : T → AV) (dom : Int → Bool) (e : Int → AV) (n : Nat) (m : Mp T) : Prop := (∀ k, dom k = (m.get k).isSome) ∧ (∀ k, e k = f ((m.get k).getD default)) ∧ n = m.card
theorem MSeg.refl {T : Type} [Inhabited T] (f : T → AV) (m : Mp T) : MSeg f (fun k => (m.get k).isSome) (fun k => f ((m.get k).getD default)) m.card m := ⟨fun _ => rfl, fun _ => rfl, rfl⟩
theorem MSeg.empty {T : Type} [Inhabited T] {f : T → AV} {e : AV} (he : e = f default) : MSeg f (fun _ => false) (fun _ => e) 0 Mp.empty := ⟨fun _ => rfl, fun _ => he, rfl⟩
theorem MSeg.set {T : Type} [Inhabited T] {f : T → AV} {dom : Int → Bool} {e : Int → AV} {n : Nat} {m : Mp T} (h : MSeg f dom e n m) {q : Int} (x : T) {ex : AV} (hx : ex = f x) :
   MSeg f (fun j => decide (j = q) || dom j) (fun j => bif decide (j = q) then ex else e j) (bif dom q then n else n + 1) (m.set q x) := by
 obtain ⟨h1, h2, rfl⟩ := h
 subst hx
 refine ⟨fun k => ?_, fun k => ?_, ?_⟩
 · by_cases hk : k = q
   · subst hk; simp [Mp.set]
   · simp [Mp.set, hk, h1]
 · by_cases hk : k = q
   · subst hk; simp [Mp.set]
   · simp [Mp.set, hk, h2]
 · rw [h1]
   simp only [Mp.set]
   cases (m.get q).isSome <;> rfl
end Go.Av
end
/- Ranges over functions: what an iterator promises; the statement. -/
section
set_option linter.all false
namespace Go.Av
open Go.Sp
def Stab (J : (Nat → Prop) → World → Prop) : Prop := ∀ (X X' : Nat → Prop) (w w' : World), J X w → w'.os = w.os → w'.tape = w.tape → w'.output = w.output → w.heap.size ≤ w'.heap.size → (∀ k, k < w.heap.size → ¬ X k → w'.heap[k]? = w.heap[k]?) →
 (∀ b, X' b → X b ∨ w.heap.size ≤ b) → J X' w'
def RoundPost (h : Hp) (X : Nat → Prop) (W : World) (J : Bool → World → Prop) : Ending → World → Prop := fun e W' => ∃ b, e = .returned (.bool b) ∧ J b W' ∧ W'.os = W.os ∧ W'.tape = W.tape ∧ W'.output = W.output ∧ W.heap.size ≤ W'.heap.size ∧
 (∀ k, k < W.heap.size → X k → W'.heap[k]? = W.heap[k]?) ∧ ∀ k o, h k = some o → W'.heap[k]? = some o
def Yld (P : Program) (h : Hp) (l : Nat) (J : Nat → (Nat → Prop) → World → Prop) (items : List (List AV)) : Prop :=
 ∀ (k : Nat) (X : Nat → Prop) (W : World) (it : List AV) (us : List Value), J (k + 1) X W → items[k]? = some it → RelL (fun _ => none) ρ0 it us →
   ∃ fn tmps assign body, (Instr.yield l us.toArray).run P W = .ok (.round l fn tmps assign body) W ∧ RoundIn (Fw none) 1 P l fn tmps assign body W (RoundPost h X W (fun b => J (bif b then k + 2 else 0) (fun b' => X b' ∧ b' < W.heap.size)))
def IterPost (J : Nat → (Nat → Prop) → World → Prop) (n : Nat) : Ending → World → Prop := fun e w' => (∃ v, e = .returned v) ∧ ∃ X, J (n + 1) X w' ∨ J 0 X w'
def Iter (P : Program) (f : FuncId) (caps : List AV) (items : List (List AV)) : Prop :=
 Enters P f ∧ ∀ (h : Hp) (w : World) (vs : List Value), RelL h ρ0 caps vs → (∀ b o, h b = some o → w.heap[b]? = some o) →
   ∀ (l : Nat) (J : Nat → (Nat → Prop) → World → Prop), (∀ k, Stab (J k)) → Yld P h l J items → J 1 (fun _ => False) w → CallsIn (Fw none) 0 P f (Value.func (.yield l) #[] #[] :: vs).toArray w (IterPost J items.length)
def Ci (w0 : World) (h0 : Hp) (J : Nat → (Nat → Prop) → World → Prop) (hJ : ∀ k, Stab (J k)) : Ctx := { w0 := w0, h0 := h0, savA := [], savV := [], bor := fun b => h0 b = none, gh := J, gh_step := fun g X X' w w' => hJ g X X' w w' }
def IRetQ (P : Program) (fn : Func) (J : Nat → (Nat → Prop) → World → Prop) (n : Nat) : Exit → Act → World → Prop := bodyPostM (Fw none) 1 P fn (IterPost J n)
theorem roundIn_w {P : Program} {l f : Nat} {tmps : Array Value} {assign body : Code} {w : World} {R : Ending → World → Prop} {n n' : Nat} (H : RoundIn (Fw none) n P l f tmps assign body w R) : RoundIn (Fw none) n' P l f tmps assign body w R :=
 ⟨trivial, fun c cs _ => H.2 c cs (room_w _ _)⟩
section
variable {P : Program} {N : Nat} {Γ : Tys} {C : Ctx} {rr : Option Nat} {L : List (Nat × AV)} {M : List (Nat × Blk)} {g : Nat} {Q : Exit → Act → World → Prop} {R : Act → World → Prop}
variable {w0 : World} {h0 : Hp} {J : Nat → (Nat → Prop) → World → Prop} {hJ : ∀ k, Stab (J k)}
theorem InvH.afterRound {h : Hp} {ρ : Rho} {F : Fr} {Mx : Mm} {a : Act} {w W' : World} {g' : Nat} (I : InvH N (Ci w0 h0 J hJ) h ρ F Mx g a w) {X : Nat → Prop} (x1 : ∀ b, ownSet ρ b → X b) (x2 : ∀ b o, h b = some o → h0 b = some o ∨ X b)
   (hos : W'.os = w.os) (htape : W'.tape = w.tape) (hout : W'.output = w.output) (hsz : w.heap.size ≤ W'.heap.size) (hX : ∀ k, k < w.heap.size → X k → W'.heap[k]? = w.heap[k]?) (hh : ∀ k o, h0 k = some o → W'.heap[k]? = some o) (hJ' : J g' (fun b => X b ∧ b < w.heap.size) W') : InvH N (Ci w0 h0 J hJ) h ρ F Mx g' a W' := by
 refine { I with hp := fun b o hb => ?_, blk := fun id x hx => ?_, own := fun id li b q1 q2 => ?_, os := hos.trans I.os, tape := htape.trans I.tape, out := hout.trans I.out, sz := Nat.le_trans I.sz hsz, kept := fun k hk hb => ?_, gst := ⟨_, fun b hb => ⟨x1 b hb, let ⟨id, li, q1, q2⟩ := hb; (I.own id li b q1 q2).2.1⟩, fun b o hb => (x2 b o hb).imp (fun h => h) (fun h => ⟨h, I.hlt hb⟩), hJ'⟩ }
 · rcases x2 b o hb with h1 | h1
   · exact hh b o h1
   · rw [hX b (I.hlt hb) h1]; exact I.hp b o hb
 · exact (I.blk id x hx).keep (Le.refl h) rfl (hle_refl _) (fun li b q1 q2 => hX b (I.own id li b q1 q2).2.1 (x1 b ⟨id, li, q1, q2⟩))
 · obtain ⟨q3, q4, q5⟩ := I.own id li b q1 q2
   exact ⟨q3, Nat.lt_of_lt_of_le q4 hsz, q5⟩
 · rw [← I.kept k hk hb]
   cases ho : h0 k with
   | none => exact absurd ho hb
   | some o => rw [hh k o ho, I.hp k o (I.ext k o ho)]
theorem run_yieldOp {a : Act} {o : Oper} {f : Operand} {args : Array Operand} {ts : Array TypeId} (ho : o.op = .call { callee := .value f, args := args, argTypes := ts }) {l : Nat} (he : a.eval f = .func (.yield l) #[] #[]) (w : World) :
   (execOp a.eval o).run P w = (Instr.yield l (args.map a.eval)).run P w := by
 unfold execOp
 simp [ho, resolve, Deferred.ofValue, invoke, he]
theorem RelL.of_gr {h h' : Hp} {ρ ρ' : Rho} {cs : List AV} {vs : List Value} (H : RelL h ρ cs vs) (hc : grL cs = true) : RelL h' ρ' cs vs := ⟨H.1, fun i c v a b => (H.2 i c v a b).of_gr (grL_get hc a)⟩
theorem At.iret {fn : Func} {n : Nat} (hr : fn.results.toList = []) (hg : g = 0 ∨ g = n + 1) (hval : ∀ b o, h0 b = some o → w0.heap[b]? = some o) : At N (Ci w0 h0 J hJ) L M g (IRetQ P fn J n .ret) := by
 intro h ρ a w I
 obtain ⟨Ds, hd1, hd2, hd3⟩ := I.dfr
 obtain ⟨X, x1, x2, x3⟩ := I.gst
 show LeavesInM (Fw none) 1 P fn a.tmps (IterPost J n) a.defers .returning w
 rw [hd1]
 refine leaves Ds w hd2 (fun D hD => I.hp _ _ (hd3 D hD).1) (fun w2 e1 e2 e3 e4 e5 => ?_)
 have hJ2 : J g X w2 := hJ g X X w w2 x3 e1 e2 e3 (by omega) (fun k _ hk => e5 k (fun hkD => by
   rcases x2 k _ (hd3 k hkD).1 with h1 | h1
   · exact absurd (heap_lt (hval k _ h1)) (Nat.not_lt.2 (hd3 k hkD).2)
   · exact hk h1)) (fun b hb => .inl hb)
 refine ⟨.tuple #[], ?_, ⟨_, rfl⟩, X, ?_⟩
 · unfold results
   rw [Array.mapM_eq_mapM_toList, hr]
   simp [Sem.run_bind]
 · rcases hg with rfl | rfl
   · exact .inr hJ2
   · exact .inl hJ2
theorem Iter.of_body {f : FuncId} {fn : Func} {c : Code} {caps : List AV} {items : List (List AV)} (hf : P.funcs[f]? = some fn) (hn : (fn.name == "runtime.NumGoroutine") = false) (hb : fn.body = some c) (hN : fn.ntmps = N) (hx : Nat.ble (caps.length + 1) N = true)
   (H : ∀ w0 h0 l J hJ, (∀ b o, h0 b = some o → w0.heap[b]? = some o) → Yld P h0 l J items → W P N none (Ci w0 h0 J hJ) c (argL 0 (.fn (.yield l) [] [] :: caps)) [] 1 (IRetQ P fn J items.length)) : Iter P f caps items := by
 refine ⟨enters_of hf hn hb, fun h w vs hR hp l J hJ hY h1 => ?_⟩
 refine callsIn_w (n := 1) (callsIn_of_wp_marks hf hb trivial ?_)
 refine H w h l J hJ hp hY h ρ0 _ w ?_
 have hR' : RelL h ρ0 (.fn (.yield l) [] [] :: caps) (Value.func (.yield l) #[] #[] :: vs) := RelL.cons (.fn _ _ _ _ [] [] rfl rfl (fun i c v hc => by simp at hc) (fun i c v hc => by simp at hc)) hR
 have hlen : (Value.func (.yield l) #[] #[] :: vs).length ≤ N := by rw [hR'.1]; exact Nat.le_of_ble_eq_true hx
 generalize Value.func (.yield l) #[] #[] :: vs = us at hR' hlen
 refine ⟨fun t => ?_, ⟨rfl, fun i c v h1 => by simp [Ci] at h1⟩, ?_, hp, fun id x hx => (by cases hx), fun _ _ => rfl, fun id li b h1 => (by cases h1), fun id id' li li' b h1 => (by cases h1), rfl, rfl, rfl, Nat.le_refl _, fun _ _ _ => rfl, fun b o hb => hb, fun b o hb _ => hb,
   ⟨fun _ => False, fun b ⟨id, li, q, _⟩ => (by cases q), fun b o hb => .inl hb, h1⟩, ⟨[], rfl, List.nodup_nil, fun D hD => (by cases hD)⟩⟩
 · rcases argL_rel (h := h) (ρ := ρ0) 0 hR' t with e | ⟨i, u, e1, e2, e3⟩
   · rw [e]; exact .any _ _
   · have e0 : t = i := by omega
     subst e0
     have hi : t < us.length := (List.getElem?_eq_some_iff.1 e2).1
     have : (us.toArray ++ Array.replicate (fn.ntmps - us.toArray.size) undef).getD t undef = u := by
       have e4 : us[t] = u := by have := List.getElem?_eq_getElem hi; rw [this] at e2; exact Option.some.inj e2
       simp [Array.getElem?_append, hi, e4]
     rw [this]
     exact e3
 · simp [hN] at hlen ⊢; omega
end
end Go.Av
end
/- A region that draws its order and yields once, with all that stands ahead of the yield done by then: whatever the order. -/
section
set_option linter.all false
namespace Go.Av
open Go.Sp
theorem intEq {k : IntKind} {n m : Int} (h : n = m) : AV.int k n = AV.int k m := h ▸ rfl
def bitsB (m : Nat) : Nat → Bool
 | 0 => true
 | n + 1 => match m.testBit n with
   | true => bitsB m n
   | false => false
def hasB (k : Nat) : List Item → Bool
 | [] => true
 | x :: r => match x.mask.testBit k with
   | true => hasB k r
   | false => false
def neckOk (ops : Array Oper) (ft : List (List Nat × List Nat)) (k : Nat) : Bool := match items ops ops.toList ft [] 0 with
 | some l => match nthN k l with
   | some x => match okAll 0 l with
     | true => match bitsB x.mask k with
       | true => hasB k (l.drop (k + 1))
       | false => false
     | false => false
   | none => false
 | none => false
theorem bitsB_spec {m : Nat} : ∀ {n : Nat}, bitsB m n = true → ∀ i, i < n → m.testBit i = true
 | n + 1, h, i, hi => by
   unfold bitsB at h
   split at h
   · rename_i hb
     by_cases e : i = n
     · rw [e]; exact hb
     · exact bitsB_spec h i (by omega)
   · cases h
theorem hasB_spec {k : Nat} : ∀ {l : List Item}, hasB k l = true → ∀ (j : Nat) (x : Item), l[j]? = some x → x.mask.testBit k = true
 | y :: r, h, j, x, hx => by
   unfold hasB at h
   split at h
   · rename_i hb
     cases j with
     | zero => simp at hx; subst hx; exact hb
     | succ j => exact hasB_spec h j x (by simpa using hx)
   · cases h
section
variable {P : Program} {N : Nat} {ops : Array Oper}
def Far (ops : Array Oper) (fts : List (List Nat × List Nat)) : Prop :=
 ∀ (i j : Nat) (o o' : Oper) (f f' : List Nat × List Nat), i < j → ops[i]? = some o → fts[i]? = some f → ops[j]? = some o' → fts[j]? = some f' → ¬ Anc ops i j →
   (∀ t, o.dst = some t → t ∉ o'.looksAt ops) ∧ (∀ t, o'.dst = some t → t ∉ o.looksAt ops) ∧ (∀ t, o.dst = some t → o'.dst ≠ some t) ∧ (∀ t, t ∈ f.2 → t ∉ f'.1) ∧ (∀ t, t ∈ f'.2 → t ∉ f.1) ∧ (∀ t, t ∈ f.2 → t ∉ f'.2)
def Back (ops : Array Oper) : Prop := ∀ (i : Nat) (o : Oper) (e : Edge), ops[i]? = some o → e ∈ o.after → Region.binds .any e = true → e.on < i
theorem neck_spec {fts : List (List Nat × List Nat)} {k : Nat} (h : neckOk ops fts k = true) : Far ops fts ∧ Back ops ∧ (∀ i, i < k → Anc ops i k) ∧ (∀ j, k < j → j < ops.size → Anc ops k j) ∧ fts.length = ops.size := by
 unfold neckOk at h
 split at h
 case h_2 => cases h
 rename_i l hl
 split at h
 case h_2 => cases h
 rename_i x hx
 split at h
 case h_2 => cases h
 rename_i hok
 split at h
 case h_2 => cases h
 rename_i hbits
 obtain ⟨hlen, hft, hit⟩ := items_spec hl rfl (fun k i h => by simp at h) (fun k => .inl (by simp))
 simp only [Nat.zero_add] at hit
 have hn : ops.toList.length = ops.size := by simp
 have hpair := okAll_spec hok
 simp only [Nat.zero_add] at hpair
 refine ⟨?_, ?_, ?_, ?_, by rw [hft, hn]⟩
 · intro i j o o' f f' hij ho hf ho' hf' hA
   have hi : i < l.length := by rw [hlen, hn]; exact (Array.getElem?_eq_some_iff.1 ho).1
   have hj : j < l.length := by rw [hlen, hn]; exact (Array.getElem?_eq_some_iff.1 ho').1
   obtain ⟨o1, f1, h1, h2, a1, a2, a3, a4, _, _⟩ := hit i l[i] (List.getElem?_eq_getElem hi)
   obtain ⟨o2, f2, h3, h4, b1, b2, b3, b4, b5, _⟩ := hit j l[j] (List.getElem?_eq_getElem hj)
   rw [Array.getElem?_toList, ho] at h1; cases h1
   rw [Array.getElem?_toList, ho'] at h3; cases h3
   rw [hf] at h2; cases h2
   rw [hf'] at h4; cases h4
   have h0 := hpair i j _ _ hij (List.getElem?_eq_getElem hi) (List.getElem?_eq_getElem hj)
   have hc : confl l[i] l[j] = false := by
     unfold okPair at h0
     split at h0
     · exact absurd (b5 i h0) hA
     · assumption
   unfold confl at hc
   simp only [Bool.or_eq_false_iff] at hc
   obtain ⟨⟨⟨⟨⟨c1, c2⟩, c3⟩, c4⟩, c5⟩, c6⟩ := hc
   refine ⟨fun t ht hin => ?_, fun t ht hin => ?_, fun t ht hin => ?_, fun t ht hin => ?_, fun t ht hin => ?_, fun t ht hin => ?_⟩
   · rw [dstIn_spec (a1.trans ht) (b2 ▸ hin)] at c1; cases c1
   · rw [dstIn_spec (b1.trans ht) (a2 ▸ hin)] at c2; cases c2
   · rw [a1.trans ht, b1.trans hin] at c3; simp [sameDst] at c3
   · rw [meets_spec (a4 ▸ ht) (b3 ▸ hin)] at c4; cases c4
   · rw [meets_spec (b4 ▸ ht) (a3 ▸ hin)] at c5; cases c5
   · rw [meets_spec (a4 ▸ ht) (b4 ▸ hin)] at c6; cases c6
 · intro i o e ho he hb
   have hi : i < l.length := by rw [hlen, hn]; exact (Array.getElem?_eq_some_iff.1 ho).1
   obtain ⟨o1, f1, h1, _, _, _, _, _, _, h8⟩ := hit i l[i] (List.getElem?_eq_getElem hi)
   rw [Array.getElem?_toList, ho] at h1; cases h1
   exact h8 e he hb
 · intro i hi
   obtain ⟨_, _, _, _, _, _, _, _, h7, _⟩ := hit k x (nthN_get hx)
   exact h7 i (bitsB_spec hbits i hi)
 · intro j hkj hj
   have hj' : j < l.length := by rw [hlen, hn]; exact hj
   obtain ⟨_, _, _, _, _, _, _, _, h7, _⟩ := hit j l[j] (List.getElem?_eq_getElem hj')
   refine h7 k (hasB_spec h (j - (k + 1)) l[j] ?_)
   rw [List.getElem?_drop, show k + 1 + (j - (k + 1)) = j by omega]
   exact List.getElem?_eq_getElem hj'
theorem cnt_from {S : Nat → Bool} {K : Nat} : ∀ {n : Nat}, (∀ i, i < n → S i = decide (i < K)) → cnt S n = n - K
 | 0, _ => by simp [cnt]
 | n + 1, h => by
   have ih := cnt_from (S := S) (K := K) (n := n) (fun i hi => h i (by omega))
   have h0 := h n (by omega)
   unfold cnt
   by_cases e : n < K
   · rw [h0]; simp [e, ih]; omega
   · rw [h0]; simp [e, ih]; omega
theorem any_seg {F0 F1 : Fr} {M0 M1 : Mm} {os : List Oper} {rs : List OpRes} {Z : Ctx → Prop} (T : Trace Z P N ops F0 M0 os rs F1 M1) (m : Nat) (hos : ∀ j, j < os.length → ops[m + j]? = os[j]?) (hle : m + os.length ≤ ops.size) {fts : List (List Nat × List Nat)}
   (hft : ∀ (j : Nat) (r : OpRes), rs[j]? = some r → fts[m + j]? = some (r.rd, r.wr.map (·.1))) (hfar : Far ops fts) (hback : Back ops) (neck : ∀ i, m + os.length ≤ i → i < ops.size → ∀ j, j < os.length → Anc ops (m + j) i)
   (hdst : ∀ o, o ∈ os → ∀ d, o.dst = some d → d < N) {C : Ctx} (hZ : Z C) {g : Nat} {rr : Option Nat} {n : Nat} {Q : Exit → Act → World → Prop}
   (hQ : ∀ (listed : Array Bool) (h : Hp) (ρ : Rho) (a : Act) (w : World), listed.size = ops.size → (∀ i, i < ops.size → listed.getD i false = decide (i < m + os.length)) → InvH N C h ρ F1 M1 g a w → wpAnyIn (Fw rr) n P .any ops Q (ops.size - (m + os.length)) listed a w) :
   ∀ (fuel : Nat) (listed : Array Bool) (h : Hp) (ρ : Rho) (a : Act) (w : World), listed.size = ops.size → cnt (fun i => listed.getD i false) ops.size = fuel → Closed ops (fun i => listed.getD i false) →
     (∀ i, i < m → listed.getD i false = true) → (∀ i, m + os.length ≤ i → listed.getD i false = false) →
     InvH N C h ρ (stF F0 (dvs os rs) (fun i => listed.getD i false) m) (stM M0 (rs.map (·.wr)) (fun i => listed.getD i false) m) g a w → wpAnyIn (Fw rr) n P .any ops Q fuel listed a w := by
 have hrs : ∀ (i : Nat) (o : Oper), os[i]? = some o → ∃ r, rs[i]? = some r := by
   intro i o ho
   have hi : i < rs.length := by rw [T.len]; exact (List.getElem?_eq_some_iff.1 ho).1
   exact ⟨rs[i], List.getElem?_eq_getElem hi⟩
 have hgd : ∀ (listed : Array Bool) (i : Nat), listed.size = ops.size → i < ops.size → listed.getD i true = listed.getD i false := by
   intro listed i hs hi
   have : i < listed.size := by omega
   simp [this]
 intro fuel
 induction fuel with
 | zero =>
   intro listed h ρ a w hs hc hcl hlo hhi I
   have hall := cnt_zero hc
   have hlen : ops.size ≤ m + os.length := by
     rcases Nat.lt_or_ge (m + os.length) ops.size with h1 | h1
     · have h2 := hall _ h1
       have h3 := hhi _ (Nat.le_refl _)
       rw [h3] at h2; cases h2
     · exact h1
   obtain ⟨e1, e2⟩ := T.all (fun i => listed.getD i false) m (fun i hi => hall _ (by omega))
   rw [e1, e2] at I
   have := hQ listed h ρ a w hs (fun i hi => by rw [hall i hi]; simp; omega) I
   rwa [show ops.size - (m + os.length) = 0 by omega] at this
 | succ fuel ih =>
   intro listed h ρ a w hs hc hcl hlo hhi I
   by_cases hall : ∀ i, i < os.length → listed.getD (m + i) false = true
   · obtain ⟨e1, e2⟩ := T.all (fun i => listed.getD i false) m (fun i hi => hall i hi)
     rw [e1, e2] at I
     have hd : ∀ i, i < ops.size → listed.getD i false = decide (i < m + os.length) := by
       intro i hi
       by_cases e : i < m + os.length
       · rw [decide_eq_true e]
         by_cases e3 : i < m
         · exact hlo i e3
         · have := hall (i - m) (by omega)
           rwa [show m + (i - m) = i by omega] at this
       · rw [decide_eq_false e]; exact hhi i (by omega)
     have := hQ listed h ρ a w hs hd I
     rw [cnt_from hd] at hc
     rwa [hc] at this
   · refine ⟨fun h0 => ?_, fun i hi => ?_⟩
     · exfalso
       have key : ∀ q i, i < q → i < ops.size → listed.getD i false = true := by
         intro q
         induction q with
         | zero => intro i hi; omega
         | succ q ihq =>
           intro i him hi
           cases hl' : listed.getD i false with
           | true => rfl
           | false =>
             exfalso
             have ho : ops[i]? = some ops[i] := Array.getElem?_eq_getElem hi
             have : i ∈ Region.ready .any ops listed := mem_ready.2 ⟨by rw [hgd listed i hs hi]; exact hl', _, ho, fun e he hb => ihq e.on (by have := hback i _ e ho he hb; omega) (by have := hback i _ e ho he hb; omega)⟩
             rw [h0] at this; cases this
       exact hall (fun i hi => key (m + i + 1) (m + i) (by omega) (by omega))
     · obtain ⟨h1, o, ho, hdone⟩ := mem_ready.1 hi
       have hin := (Array.getElem?_eq_some_iff.1 ho).1
       rw [hgd listed i hs hin] at h1
       have anc1 : ∀ k, Anc ops k i → listed.getD k false = true := by
         intro k A
         obtain ⟨j, hj⟩ : ∃ j, j = i := ⟨i, rfl⟩
         rw [← hj] at A
         induction A with
         | edge q1 q2 q3 q4 => subst hj; rw [ho] at q1; cases q1; exact q4 ▸ hdone _ q2 q3
         | trans A1 _ _ ih2 => exact A1.closed hcl (ih2 hj)
       have anc2 : ∀ k, Anc ops i k → listed.getD k false = false := by
         intro k A
         cases hk : listed.getD k false with
         | false => rfl
         | true =>
           have : listed.getD i false = true := A.closed hcl hk
           rw [h1] at this; cases this
       have him : m ≤ i := by
         rcases Nat.lt_or_ge i m with h2 | h2
         · rw [hlo i h2] at h1; cases h1
         · exact h2
       have hiu : i < m + os.length := by
         rcases Nat.lt_or_ge i (m + os.length) with h2 | h2
         · exact h2
         · exact absurd (fun j hj => anc1 _ (neck i h2 hin j hj)) hall
       obtain ⟨p, rfl⟩ : ∃ p, i = m + p := ⟨i - m, by omega⟩
       have hp : p < os.length := by omega
       have hop0 : os[p]? = some o := by rw [← hos p hp]; exact ho
       obtain ⟨r, hr⟩ := hrs p o hop0
       have hop := T.at m p o r hop0 hr
       have apartT : ∀ (k : Nat) (o' : Oper) (r' : OpRes), os[k]? = some o' → rs[k]? = some r' → k ≠ p → (listed.getD (m + k) false ≠ decide (m + k < m + p)) →
           (∀ t, o'.dst = some t → t ∉ o.looksAt ops) ∧ (∀ t, t ∈ r'.wr.map (·.1) → t ∉ r.rd) ∧ (∀ t, o.dst = some t → o'.dst ≠ some t) ∧ (∀ t, t ∈ r.wr.map (·.1) → t ∉ r'.wr.map (·.1)) := by
         intro k o' r' ho' hr' hne hd
         have hkl := (List.getElem?_eq_some_iff.1 ho').1
         have ho2 : ops[m + k]? = some o' := by rw [hos k hkl]; exact ho'
         rcases Nat.lt_or_ge k p with hlt | hge
         · have hk : listed.getD (m + k) false = false := by
             cases hk : listed.getD (m + k) false with
             | false => rfl
             | true => rw [hk] at hd; simp [hlt] at hd
           have hA : ¬ Anc ops (m + k) (m + p) := fun A => by rw [anc1 _ A] at hk; cases hk
           obtain ⟨f1, f2, f3, f4, f5, f6⟩ := hfar (m + k) (m + p) o' o _ _ (by omega) ho2 (hft k r' hr') ho (hft p r hr) hA
           exact ⟨f1, f4, fun t h1 h2 => f3 t h2 h1, fun t h1 h2 => f6 t h2 h1⟩
         · have hgt : p < k := by omega
           have hk : listed.getD (m + k) false = true := by
             cases hk : listed.getD (m + k) false with
             | true => rfl
             | false => rw [hk] at hd; simp [Nat.not_lt.2 hge] at hd
           have hA : ¬ Anc ops (m + p) (m + k) := fun A => by rw [anc2 _ A] at hk; cases hk
           obtain ⟨f1, f2, f3, f4, f5, f6⟩ := hfar (m + p) (m + k) o o' _ _ (by omega) ho (hft p r hr) ho2 (hft k r' hr') hA
           exact ⟨f2, f5, f3, f6⟩
       have hset : ∀ j, j ≠ m + p → (listed.setIfInBounds (m + p) true).getD j false = listed.getD j false := fun j hj => getD_set_ne false (Ne.symm hj)
       have hseti : (listed.setIfInBounds (m + p) true).getD (m + p) false = true := by
         have : m + p < listed.size := by omega
         simp [this]
       unfold wpOpIn
       simp only [ho]
       refine hop C hZ h ρ _ _ g a w I (fun t ht => stF_congr rfl (fun k d v hk hd hdt => ?_)) (fun t ht => stM_congr rfl (fun k wr hk hd hin' => ?_)) rr n _ Q (fun x h' ρ' w' I' hv => ?_)
       · obtain ⟨o', r', e1, e2, e3⟩ := dvs_inv hk
         cases e3
         by_cases hki : k = p
         · subst hki; simp [h1] at hd
         · exact (apartT k o' r' e1 e2 hki hd).1 t hdt ht
       · simp only [List.getElem?_map, Option.map_eq_some_iff] at hk
         obtain ⟨r', e2, rfl⟩ := hk
         have hk' : k < os.length := by
           have := (List.getElem?_eq_some_iff.1 e2).1
           rwa [T.len] at this
         by_cases hki : k = p
         · subst hki; simp [h1] at hd
         · exact (apartT k _ r' (List.getElem?_eq_getElem hk') e2 hki hd).2.1 t hin' ht
       · have hF : stF F0 (dvs os rs) (fun j => (listed.setIfInBounds (m + p) true).getD j false) m = putO (stF F0 (dvs os rs) (fun j => listed.getD j false) m) o.dst r.v := by
           funext t
           refine stF_ins (i := p) (dvs_get hop0 hr) (by simpa using h1) (by simpa using hseti) (fun j hj => by simpa using hset (m + j) (by omega)) (fun j e u hij hj hs' t' ht' => ?_) t
           obtain ⟨o', r', e1, e2, e3⟩ := dvs_inv hj
           cases e3
           exact (apartT j o' r' e1 e2 (by omega) (by rw [hs']; simp; omega)).2.2.1 t' ht'
         have hM : stM M0 (rs.map (·.wr)) (fun j => (listed.setIfInBounds (m + p) true).getD j false) m = updL (stM M0 (rs.map (·.wr)) (fun j => listed.getD j false) m) r.wr := by
           funext t
           refine stM_ins (i := p) (by simp [hr]) (by simpa using h1) (by simpa using hseti) (fun j hj => by simpa using hset (m + j) (by omega)) (fun j wr' hij hj hs' t' ht' => ?_) t
           simp only [List.getElem?_map, Option.map_eq_some_iff] at hj
           obtain ⟨r', e2, rfl⟩ := hj
           have hj' : j < os.length := by
             have := (List.getElem?_eq_some_iff.1 e2).1
             rwa [T.len] at this
           exact (apartT j _ r' (List.getElem?_eq_getElem hj') e2 (by omega) (by rw [hs']; simp; omega)).2.2.2 t' ht'
         refine ih (listed.setIfInBounds (m + p) true) h' ρ' _ w' (by simp [hs]) ?_ ?_ ?_ ?_ ?_
         · have := cnt_ins (S := fun j => listed.getD j false) (S' := fun j => (listed.setIfInBounds (m + p) true).getD j false) h1 hseti hset ops.size hin
           omega
         · intro j o' ho' hj e he hb
           by_cases hji : j = m + p
           · subst hji
             rw [ho] at ho'; cases ho'
             by_cases hei : e.on = m + p
             · rw [hei]; exact hseti
             · simp only [hset _ hei]; exact hdone e he hb
           · simp only [hset _ hji] at hj
             by_cases hei : e.on = m + p
             · rw [hei]; exact hseti
             · simp only [hset _ hei]; exact hcl j o' ho' hj e he hb
         · intro j hj; rw [hset j (by omega)]; exact hlo j hj
         · intro j hj; rw [hset j (by omega)]; exact hhi j hj
         · rw [hF, hM]
           exact I'.put (fun d hd => hdst o (List.mem_of_getElem? hop0) d hd) hv
theorem all_done {listed : Array Bool} (hs : listed.size = ops.size) (hall : ∀ i, i < ops.size → listed.getD i false = true) : Region.ready .any ops listed = [] := by
 rcases hr : Region.ready .any ops listed with _ | ⟨i, t⟩
 · rfl
 · obtain ⟨h1, o, ho, _⟩ := mem_ready.1 (hr ▸ List.mem_cons_self .. : i ∈ Region.ready .any ops listed)
   have hi := (Array.getElem?_eq_some_iff.1 ho).1
   have := hall i hi
   have hi' : i < listed.size := by omega
   have e : listed.getD i true = listed.getD i false := by simp [hi']
   rw [e, this] at h1; cases h1
end
section
variable {P : Program} {N : Nat} {Γ : Tys} {L : List (Nat × AV)} {M : List (Nat × Blk)} {g : Nat} {Q : Exit → Act → World → Prop}
variable {w0 : World} {h0 : Hp} {J : Nat → (Nat → Prop) → World → Prop} {hJ : ∀ k, Stab (J k)}
end
end Go.Av
end
/- A region that draws its order and yields once, without a guard. -/
section
set_option linter.all false
namespace Go.Av
open Go.Sp
theorem Sim.cloL {f : Fn} {fs cs cs' : List AV} (hs : SimL cs cs') : Sim (.clo f fs cs) (.clo f fs cs') := by
 obtain ⟨hl, hq⟩ := hs.spec
 intro h ρ v H
 cases H with
 | clo _ _ _ _ _ hv =>
   cases hv with
   | fn _ _ _ _ vs ws h1 h2 hc hd =>
     refine .clo _ _ _ _ _ (.fn _ _ _ _ vs ws h1 (h2.trans hl) hc (fun i c v k1 k2 => ?_))
     have hi : i < cs.length := by rw [hl]; exact (List.getElem?_eq_some_iff.1 k1).1
     exact hq i cs[i] c (List.getElem?_eq_getElem hi) k1 h _ v (hd i cs[i] v (List.getElem?_eq_getElem hi) k2)
section
variable {P : Program} {N : Nat} {Γ : Tys} {L : List (Nat × AV)} {M : List (Nat × Blk)} {g : Nat} {Q : Exit → Act → World → Prop}
variable {w0 : World} {h0 : Hp} {J : Nat → (Nat → Prop) → World → Prop} {hJ : ∀ k, Stab (J k)}
theorem W.regionYf (E : Env P Γ) {l : Nat} {items : List (List AV)} (hY : Yld P h0 l J items) {id : Nat} {ops : Array Oper} (own : List Nat) (k : Nat) (rvs1 rvs2 : List RV) {A1 : Acc} {A2 : Bool → Acc} {y : Oper} {post : List Oper} {f : Operand} {args : Array Operand} {ts : Array TypeId} {it : List AV} {d : Nat}
   (hk : ops.toList.drop k = y :: post) (hr1 : runR Γ own ops.toList (ops.toList.take k) rvs1 L M = some A1) (hyo : y.op = .call { callee := .value f, args := args, argTypes := ts }) (hyd : y.dst = some d)
   (hg : y.guard = none) (hf : stripV (evO (fr A1.L) f) = .fn (.yield l) [] []) (hit : mapAV (fun x => stripV (evO (fr A1.L) x)) args.toList = it) (hgr : grL it = true)
   (hr2 : ∀ b, runR Γ own ops.toList post rvs2 ((d, .bool b) :: A1.L) A1.M = some (A2 b)) (hd : dstOk N ops.toList = true) (hneck : ∀ b, neckOk ops (A1.ft ++ ([], []) :: (A2 b).ft) k = true)
   (hcs1 : AllP A1.cs) (hrq1 : RqOk P A1.rq) (hn : AllP (needs (fr A1.L) true y.op.operands.toList)) (hcs2 : ∀ b, AllP (A2 b).cs) (hrq2 : ∀ b, RqOk P (A2 b).rq)
   (hitm : ∃ q, g = q + 1 ∧ items[q]? = some it)
   (K : ∀ b g', (g' = bif b then g + 1 else 0) → At N (Ci w0 h0 J hJ) (A2 b).L (A2 b).M g' (Q .normal)) (hz : FzOk own (Ci w0 h0 J hJ) := by exact .inl rfl) : W P N none (Ci w0 h0 J hJ) (.region id ops true) L M g Q := by
 intro h ρ a w I
 refine wpIn_region_any E.mixed ?_
 have hlen : k < ops.toList.length := by
   rcases Nat.lt_or_ge k ops.toList.length with h | h
   · exact h
   · rw [List.drop_eq_nil_of_le h] at hk; cases hk
 have hsplit : ops.toList = ops.toList.take k ++ y :: post := by rw [← hk, List.take_append_drop]
 have htk : (ops.toList.take k).length = k := by rw [List.length_take]; omega
 have hsize : ops.size = k + (1 + post.length) := by
   have := congrArg List.length hsplit
   rw [List.length_append, htk, List.length_cons] at this
   simp at this; omega
 obtain ⟨rs, T, hft1⟩ := runR_trace (N := N) E.ty E.depth (ops.toList.take k) rvs1 L M hr1 hcs1.mem hrq1
 have hrl : rs.length = k := by rw [T.len, htk]
 have hyk : ops[k]? = some y := by
   rw [← Array.getElem?_toList, hsplit, List.getElem?_append_right (by omega), htk]; simp
 have hpost : ∀ j, post[j]? = ops[k + 1 + j]? := fun j => by
   rw [← Array.getElem?_toList, hsplit, List.getElem?_append_right (by omega), htk, show k + 1 + j - k = j + 1 by omega]; simp
 have hmem : ∀ o, o ∈ post → o ∈ ops.toList := fun o ho => by rw [hsplit]; simp [ho]
 have hnd : ∀ c, y.op ≠ .defer c := fun c e => by rw [hyo] at e; cases e
 have hdN : d < N := dstOk_spec hd y (by rw [hsplit]; simp) d hyd
 obtain ⟨_, hback, nk1, nk2, _⟩ := neck_spec (hneck true)
 have hfal : (fun i => (Array.replicate ops.size false).getD i false) = fun _ => false := by
   funext i
   by_cases h : i < ops.size <;> simp [h]
 have hcl0 : Closed ops (fun i => (Array.replicate ops.size false).getD i false) := by
   intro j o _ hj
   exfalso
   by_cases h : j < ops.size <;> simp [h] at hj
 have e1 : ∀ (l : List (Option Nat × AV)) (G : Fr) (k : Nat), stF G l (fun _ => false) k = G := by
   intro l
   induction l with
   | nil => intros; rfl
   | cons x l ih => intro G k; obtain ⟨e, u⟩ := x; unfold stF; simp [ih]
 have e2 : ∀ (l : List (List (Nat × Blk))) (G : Mm) (k : Nat), stM G l (fun _ => false) k = G := by
   intro l
   induction l with
   | nil => intros; rfl
   | cons x l ih => intro G k; unfold stM; simp [ih]
 have e3 : ∀ n, cnt (fun _ => false) n = n := by
   intro n
   induction n with
   | zero => rfl
   | succ n ih => simp [cnt, ih]
 -- behind the yield
 have fin : ∀ (b : Bool) (g' : Nat), (g' = bif b then g + 1 else 0) → ∀ (listed : Array Bool) (h : Hp) (ρ : Rho) (a : Act) (w' : World) (x : Value), listed.size = ops.size → (∀ i, i < ops.size → listed.getD i false = decide (i < k + 1)) →
     InvH N (Ci w0 h0 J hJ) h ρ (fr A1.L) (mm A1.M) g' a w' → Rel h ρ (.bool b) x → wpAnyIn (Fw none) 1 P .any ops Q post.length listed (a.put y.dst x) w' := by
   intro b g' hg2 listed h ρ a w' x hls hl I' hx
   obtain ⟨rs2, T2, hft2⟩ := runR_trace (N := N) E.ty E.depth post rvs2 _ _ (hr2 b) (hcs2 b).mem (hrq2 b)
   have hp := I'.put (d := y.dst) (fun t ht => by rw [hyd] at ht; cases ht; exact hdN) hx
   rw [hyd] at hp ⊢
   obtain ⟨hfar, _, _, _, _⟩ := neck_spec (hneck b)
   refine any_seg (C := Ci w0 h0 J hJ) (g := g') T2 (k + 1) (fun j _ => (hpost j).symm) (by omega) (fts := A1.ft ++ ([], []) :: (A2 b).ft) (fun j r hr => ?_) hfar hback (fun i hi hi2 => by omega) (fun o ho => dstOk_spec hd o (hmem o ho)) hz (fun listed h ρ a w hs hl I => ?_)
     post.length listed h ρ _ w' hls ?_ ?_ (fun i hi => by rw [hl i (by omega)]; simp [hi]) (fun i hi => ?_) ?_
   · rw [List.getElem?_append_right (by rw [hft1, List.length_map]; omega), hft1, List.length_map, hrl, show k + 1 + j - k = j + 1 by omega, List.getElem?_cons_succ, hft2, List.getElem?_map, hr]; rfl
   · rw [show ops.size - (k + 1 + post.length) = 0 by omega]
     exact ⟨all_done hs (fun i hi => by rw [hl i hi]; simp; omega), K b g' hg2 h ρ a w I⟩
   · rw [cnt_from hl]; omega
   · intro j o ho hj e he hb
     have hjs := (Array.getElem?_eq_some_iff.1 ho).1
     simp only [hl j hjs, decide_eq_true_eq] at hj
     have := hback j o e ho he hb
     simp only [hl e.on (by omega), decide_eq_true_eq]; omega
   · by_cases h : i < ops.size
     · rw [hl i h]; simp; omega
     · simp [show ¬ i < listed.size by omega]
   · have hpl : ∀ (r : List OpRes) (o : List Oper) (G : Fr) (S : Nat → Bool) (m : Nat), (∀ i, m ≤ i → i < m + o.length → S i = false) → stF G (dvs o r) S m = G := by
       intro r o
       induction o generalizing r with
       | nil => intro G S m _; cases r <;> rfl
       | cons x o ih =>
         intro G S m hS
         cases r with
         | nil => rfl
         | cons y r =>
           simp only [dvs, stF]
           rw [if_neg (by rw [hS m (Nat.le_refl _) (by simp)]; simp)]
           exact ih r G S (m + 1) (fun i h1 h2 => hS i (by omega) (by simp; omega))
     have hpm : ∀ (r : List (List (Nat × Blk))) (G : Mm) (S : Nat → Bool) (m : Nat), (∀ i, m ≤ i → i < m + r.length → S i = false) → stM G r S m = G := by
       intro r
       induction r with
       | nil => intros; rfl
       | cons y r ih =>
         intro G S m hS
         simp only [stM]
         rw [if_neg (by rw [hS m (Nat.le_refl _) (by simp)]; simp)]
         exact ih G S (m + 1) (fun i h1 h2 => hS i (by omega) (by simp; omega))
     rw [hpl _ _ _ _ _ (fun i h1 h2 => by rw [hl i (by omega)]; simp; omega), hpm _ _ _ _ (fun i h1 h2 => by rw [List.length_map, T2.len] at h2; rw [hl i (by omega)]; simp; omega)]
     exact hp
 obtain ⟨hfar, _, _, _, _⟩ := neck_spec (hneck true)
 refine any_seg (C := Ci w0 h0 J hJ) (g := g) T 0 (fun j hj => ?_) (by omega) (fts := A1.ft ++ ([], []) :: (A2 true).ft) (fun j r hr => ?_) hfar hback (fun i hi hi2 j hj => ?_) (fun o ho => dstOk_spec hd o (List.mem_of_mem_take ho)) hz (fun listed h ρ a w hs hl I => ?_)
   ops.size _ h ρ a _ (by simp) (by rw [hfal, e3]) hcl0 (fun i hi => by omega) (fun i hi => by have := congrFun hfal i; simpa using this) ?_
 · rw [List.getElem?_take, Nat.zero_add, if_pos (by omega), Array.getElem?_toList]
 · have hj := (List.getElem?_eq_some_iff.1 hr).1
   rw [Nat.zero_add, List.getElem?_append_left (by rw [hft1, List.length_map]; omega), hft1, List.getElem?_map, hr]; rfl
 · rw [htk] at hi hj
   rw [Nat.zero_add] at hi ⊢
   by_cases e : i = k
   · subst e; exact nk1 j hj
   · exact .trans (nk1 j hj) (nk2 i (by omega) hi2)
 · rw [htk, Nat.zero_add] at hl ⊢
   rw [show ops.size - k = post.length + 1 by omega]
   have hgdd : ∀ i, i < ops.size → listed.getD i true = listed.getD i false := fun i hi => by
     have : i < listed.size := by omega
     simp [this]
   refine ⟨fun h0 => ?_, fun i hi => ?_⟩
   · exfalso
     have : k ∈ Region.ready .any ops listed := mem_ready.2 ⟨by rw [hgdd k (by omega), hl k (by omega)]; simp, y, hyk, fun e he hb => by
       have := hback k y e hyk he hb
       rw [hl e.on (by omega)]; simp [this]⟩
     rw [h0] at this; cases this
   · obtain ⟨h1, o, ho, hdone⟩ := mem_ready.1 hi
     have hin := (Array.getElem?_eq_some_iff.1 ho).1
     rw [hgdd i hin, hl i hin] at h1
     have hik : i = k := by
       rcases Nat.lt_or_ge k i with h2 | h2
       · exfalso
         have hclk : Closed ops (fun i => listed.getD i false) := by
           intro j o ho hj e he hb
           have hjs := (Array.getElem?_eq_some_iff.1 ho).1
           simp only [hl j hjs, decide_eq_true_eq] at hj
           have := hback j o e ho he hb
           simp only [hl e.on (by omega), decide_eq_true_eq]; omega
         have anc1 : ∀ q, Anc ops q i → listed.getD q false = true := by
           intro q A
           obtain ⟨j, hj⟩ : ∃ j, j = i := ⟨i, rfl⟩
           rw [← hj] at A
           induction A with
           | edge q1 q2 q3 q4 => subst hj; rw [ho] at q1; cases q1; exact q4 ▸ hdone _ q2 q3
           | trans A1 _ _ ih2 => exact A1.closed hclk (ih2 hj)
         have := anc1 k (nk2 i h2 hin)
         rw [hl k (by omega)] at this; simp at this
       · have : ¬ i < k := by simpa using h1
         omega
     subst hik
     have hlk : ∀ j, j < ops.size → (listed.setIfInBounds i true).getD j false = decide (j < i + 1) := by
       intro j hj
       by_cases e : j = i
       · subst e
         have : j < listed.size := by omega
         simp [this]
       · rw [getD_set_ne false (Ne.symm e), hl j hj]
         congr 1
         exact propext ⟨fun h => by omega, fun h => by omega⟩
     unfold wpOpIn
     simp only [hyk]
     have hgs : Region.wanted y (yielded ops a.tmps) = true := by unfold Region.wanted; rw [hg]
     rw [hgs, if_pos rfl]
     obtain ⟨q, rfl, hq⟩ := hitm
     have hop : ∀ z, z ∈ y.op.operands → Rel h ρ (stripV (evO (fr A1.L) z)) (a.eval z) := by
       intro z hz
       have h1 := evO_rel (ops := ops) (o := y) I (fun _ _ => rfl) hz
       cases hev : evO (fr A1.L) z <;> rw [hev] at h1 <;> (try exact h1)
       rename_i G v
       have hG := hn.mem _ (needs_mem (W := true) (by simpa using hz) hev) rfl
       cases h1 with
       | cnd _ _ _ _ ht hf => exact ht hG
     have hfv : a.eval f = .func (.yield l) #[] #[] := by
       have h1 := hop f (by rw [hyo]; simp [Op.operands, Call.operands])
       rw [hf] at h1
       generalize a.eval f = z at h1
       cases h1 with
       | fn _ _ _ _ vs ws hl hm _ _ =>
         have e1 : vs = [] := by simpa using hl
         have e2 : ws = [] := by simpa using hm
         subst e1; subst e2; rfl
     have hargs : RelL h ρ it (args.toList.map a.eval) := by
       rw [← hit]
       exact mapAV_rel args.toList (fun z hz => hop z (mem_callArgs hyo hz))
     obtain ⟨X, x1, x2, x3⟩ := I.gst
     obtain ⟨fn, tmps, assign, body, hy, hR⟩ := hY q X w it _ x3 hq (hargs.of_gr hgr)
     refine ⟨fun _ _ => trivial, ?_⟩
     have e1 : args.map a.eval = (args.toList.map a.eval).toArray := by apply Array.ext'; simp
     rw [Oper.semAt_eq _ _ _ hnd, run_yieldOp hyo hfv, e1, hy]
     refine ⟨fun e => (by cases e), ?_⟩
     refine (roundIn_w hR).mono (fun e W' he => ?_)
     obtain ⟨b, rfl, hJ', k1, k2, k3, k4, k5, k6⟩ := he
     refine fin b _ rfl _ h ρ a W' _ (by simp [hs]) hlk ?_ (.bool _ _)
     refine I.afterRound x1 x2 k1 k2 k3 k4 k5 k6 ?_
     cases b <;> exact hJ'
 · rw [hfal, e1, e2]
   exact I.drew
end
end Go.Av
end
/- The statement that ranges over a function. -/
section
set_option linter.all false
namespace Go.Av
open Go.Sp
def Cr (w0 : World) (h0 : Hp) (br : Nat → Prop) (avs : List AV) (vs : List Value) (gh : (Nat → Prop) → World → Prop) (st : Stab gh) : Ctx := { w0 := w0, h0 := h0, savA := avs, savV := vs, bor := br, gh := fun _ => gh, gh_step := fun _ X X' w w' => st X X' w w' }
def Still (Z : Nat → Prop) (V : Nat → Option Obj) (n : Nat) (Y : Nat → Prop) (w : World) : Prop := (∀ b, Z b → b < n ∧ ¬ Y b ∧ w.heap[b]? = V b) ∧ n ≤ w.heap.size
theorem Still.stab (Z : Nat → Prop) (V : Nat → Option Obj) (n : Nat) : Stab (Still Z V n) := by
 intro X X' w w' H _ _ _ hsz hk hX
 refine ⟨fun b hb => ?_, Nat.le_trans H.2 hsz⟩
 obtain ⟨h1, h2, h3⟩ := H.1 b hb
 have hlt : b < w.heap.size := Nat.lt_of_lt_of_le h1 H.2
 refine ⟨h1, fun h => ?_, by rw [hk b hlt h2]; exact h3⟩
 rcases hX b h with h4 | h4
 · exact h2 h4
 · omega
def zipT : List Nat → List AV → List (Nat × AV)
 | t :: ts, v :: vs => (t, v) :: zipT ts vs
 | _, _ => []
def allLt (N : Nat) : List Nat → Bool
 | [] => true
 | t :: ts => match Nat.blt t N with
   | true => allLt N ts
   | false => false
theorem allLt_spec {N : Nat} : ∀ {ts : List Nat}, allLt N ts = true → ∀ t, t ∈ ts → t < N
 | [], _, t, ht => by cases ht
 | x :: ts, h, t, ht => by
   unfold allLt at h
   split at h
   · rename_i hb
     rcases List.mem_cons.1 ht with rfl | ht
     · exact Nat.le_of_ble_eq_true hb
     · exact allLt_spec h t ht
   · cases h
def avsOf : List (Nat × AV) → List AV
 | [] => []
 | (_, v) :: r => v :: avsOf r
theorem avsOf_fr (f : Nat → Value) : ∀ (L : List (Nat × AV)), (L.map (fun p => f p.1)).length = (avsOf L).length ∧ ∀ t : Nat, fr L t = .any ∨ ∃ i : Nat, (avsOf L)[i]? = some (fr L t) ∧ (L.map (fun p => f p.1))[i]? = some (f t)
 | [] => ⟨rfl, fun t => .inl rfl⟩
 | (d, v) :: r => by
   obtain ⟨h1, h2⟩ := avsOf_fr f r
   refine ⟨by simp [avsOf] at h1 ⊢; exact h1, fun t => ?_⟩
   simp only [fr, put, avsOf]
   split
   · rename_i hb
     have := Nat.eq_of_beq_eq_true hb
     subst this
     exact .inr ⟨0, rfl, rfl⟩
   · rcases h2 t with h | ⟨i, q1, q2⟩
     · exact .inl h
     · exact .inr ⟨i + 1, by simpa using q1, by simpa using q2⟩
theorem zip_slots {N : Nat} {h : Hp} {ρ : Rho} : ∀ (ps : List Nat) (it : List AV) (us : List Value) (tm : Array Value) (F : Fr), RelL h ρ it us → it.length = ps.length → (∀ t, t ∈ ps → t < N) → tm.size = N → ps.Nodup → (∀ t, Rel h ρ (F t) (tm.getD t undef)) →
   ((ps.zip us).foldl (fun (tm : Array Value) (x : Nat × Value) => tm.setIfInBounds x.1 x.2) tm).size = N ∧ ∀ t, Rel h ρ (match findL (zipT ps it) t with | some v => v | none => F t) (((ps.zip us).foldl (fun (tm : Array Value) (x : Nat × Value) => tm.setIfInBounds x.1 x.2) tm).getD t undef)
 | [], it, us, tm, F, hR, hl, _, hs, _, hF => by
   have : it = [] := by simpa using hl
   subst this
   exact ⟨by simpa using hs, fun t => by simpa [zipT, findL] using hF t⟩
 | p :: ps, it, us, tm, F, hR, hl, hN, hs, hnd, hF => by
   cases it with
   | nil => simp at hl
   | cons v it =>
   obtain ⟨u, r, rfl, h1, h2⟩ := hR.inv_cons
   have hp : p < N := hN p (by simp)
   have key := zip_slots ps it r (tm.setIfInBounds p u) (put F p v) h2 (by simpa using hl) (fun t ht => hN t (by simp [ht])) (by simpa using hs) (List.nodup_cons.1 hnd).2 (fun t => by
     by_cases ht : t = p
     · subst ht
       rw [put_same]
       simpa [hs, hp] using h1
     · rw [put_other F v ht]
       have := hF t
       simpa [Array.getElem?_setIfInBounds_ne (Ne.symm ht)] using this)
   refine ⟨by simpa using key.1, fun t => ?_⟩
   have k2 := key.2 t
   simp only [List.zip_cons_cons, List.foldl_cons, zipT, findL]
   cases hb : Nat.beq t p with
   | true =>
     have e := Nat.eq_of_beq_eq_true hb
     subst e
     have hno : findL (zipT ps it) t = none := by
       have hnp := (List.nodup_cons.1 hnd).1
       clear key k2 hl h2 hN hs hF hR h1 hnd
       induction ps generalizing it with
       | nil => cases it <;> rfl
       | cons q qs ih =>
         cases it with
         | nil => rfl
         | cons x xs =>
           simp only [zipT, findL]
           have : Nat.beq t q = false := by
             cases hq : Nat.beq t q with
             | false => rfl
             | true => exact absurd (Nat.eq_of_beq_eq_true hq) (fun e => hnp (by simp [e]))
           rw [this]
           exact ih xs (fun h => hnp (by simp [h]))
     rw [hno] at k2
     simpa [put_same] using k2
   | false =>
     have hne : t ≠ p := by rintro rfl; simp at hb
     simp only [put_other F v hne] at k2
     exact k2
theorem fr_zip : ∀ (ps : List Nat) (it : List AV) (L : List (Nat × AV)) (t : Nat), fr (zipT ps it ++ L) t = match findL (zipT ps it) t with | some v => v | none => fr L t
 | [], it, L, t => by simp [zipT, findL]
 | p :: ps, [], L, t => by simp [zipT, findL]
 | p :: ps, v :: it, L, t => by
   simp only [zipT, List.cons_append, fr, put, findL]
   cases hb : Nat.beq t p with
   | true => rfl
   | false => simp only []; exact fr_zip ps it L t
def noDupN : List Nat → Bool
 | [] => true
 | t :: ts => match inList ts t with
   | true => false
   | false => noDupN ts
theorem inList_of {t : Nat} : ∀ {ts : List Nat}, t ∈ ts → inList ts t = true
 | x :: ts, h => by
   unfold inList
   rcases List.mem_cons.1 h with rfl | h
   · simp
   · split
     · rfl
     · exact inList_of h
theorem noDupN_spec : ∀ {ts : List Nat}, noDupN ts = true → ts.Nodup
 | [], _ => List.nodup_nil
 | t :: ts, h => by
   unfold noDupN at h
   split at h
   · cases h
   · rename_i hb
     refine List.nodup_cons.2 ⟨fun hm => ?_, noDupN_spec h⟩
     rw [inList_of hm] at hb; cases hb
def jumpOf : Exit → Code
 | .exit i => .exit i
 | _ => .ret
section
variable {P : Program} {N : Nat} {Γ : Tys} {L : List (Nat × AV)} {M : List (Nat × Blk)} {g : Nat} {Q : Exit → Act → World → Prop} {w0 : World} {h0 : Hp} {SA : List AV} {SV : List Value} {br : Nat → Prop}
theorem InvH.reframe {br : Nat → Prop} {avs : List AV} {vs : List Value} {gh gh' : (Nat → Prop) → World → Prop} {st : Stab gh} {st' : Stab gh'} {h1 h : Hp} {ρ : Rho} {F F' : Fr} {Mx : Mm} {a a' : Act} {w w' : World} (I : InvH N (Cr w0 h1 br avs vs gh st) h ρ F Mx g a w) (hs : ∀ t, Rel h ρ (F' t) (a'.tmps.getD t undef)) (hN : a'.tmps.size = N) (hd : ∃ Ds : List Nat, a'.defers = Ds.map (fun D => { target := .collected D, args := #[] }) ∧ Ds.Nodup ∧ ∀ D, D ∈ Ds → h D = some (.deferred (some [])) ∧ w0.heap.size ≤ D)
   {Z : Nat → Prop} (hZ : ∀ b, Z b → h b = none ∧ ¬ ownSet ρ b ∧ w0.heap.size ≤ b) (hos : w'.os = w.os) (htape : w'.tape = w.tape) (hout : w'.output = w.output) (hsz : w.heap.size ≤ w'.heap.size) (hk : ∀ k, k < w.heap.size → ¬ Z k → w'.heap[k]? = w.heap[k]?)
   (hg : ∃ X : Nat → Prop, (∀ b, ownSet ρ b → X b) ∧ (∀ b o, h b = some o → h1 b = some o ∨ X b) ∧ gh' X w') : InvH N (Cr w0 h1 br avs vs gh' st') h ρ F' Mx g a' w' := by
 refine ⟨hs, I.sav, hN, fun b o hb => ?_, fun id x hx => ?_, I.dom, fun id li b q1 q2 => ?_, I.inj, hos.trans I.os, htape.trans I.tape, hout.trans I.out, Nat.le_trans I.sz hsz, fun k hk0 hb => ?_, I.ext, I.old, hg, hd⟩
 · rw [hk b (I.hlt hb) (fun hz => by rw [(hZ b hz).1] at hb; cases hb)]; exact I.hp b o hb
 · exact (I.blk id x hx).keep (Le.refl h) rfl (hle_refl _) (fun li b q1 q2 => hk b (I.own id li b q1 q2).2.1 (fun hz => (hZ b hz).2.1 ⟨id, li, q1, q2⟩))
 · obtain ⟨q3, q4, q5⟩ := I.own id li b q1 q2
   exact ⟨q3, Nat.lt_of_lt_of_le q4 hsz, q5⟩
 · rw [hk k (Nat.lt_of_lt_of_le hk0 I.sz) (fun hz => by have := (hZ k hz).2.2; exact absurd hk0 (Nat.not_lt.2 this))]
   exact I.kept k hk0 hb
theorem W.rangeFunc {fop : Operand} {ps : Array Tmp} {assign body : Code} {gf : FuncId} {caps : List AV} {items : List (List AV)}
   (hf : evO (fr L) fop = .clo (.func gf) [] caps) (hI : Iter P gf caps items) (hit : ∀ it, it ∈ items → it.length = ps.size ∧ grL it = true) (hpN : allLt N ps.toList = true) (hpd : noDupN ps.toList = true) (hLd : noDupN (L.map (·.1)) = true)
   {S : Type} (J : Nat → S → Prop) (Ms : S → List (Nat × Blk)) (s0 : S) (hJ0 : J 0 s0) (hM : AgreeM M (Ms s0)) (La : Nat → List (Nat × AV)) (Ma : Nat → S → List (Nat × Blk))
   {SX : Type} (JX : Exit → SX → Prop) (MX : Exit → SX → List (Nat × Blk)) (hX : ∀ e s, JX e s → e = .ret ∨ ∃ i, e = .exit i) (hval : ∀ b o, h0 b = some o → w0.heap[b]? = some o)
   (asg : ∀ (h1 : Hp) (vs : List Value) (gh : (Nat → Prop) → World → Prop) (st : Stab gh) (l : Nat) (k : Nat) (it : List AV) (s : S), items[k]? = some it → ∀ K : Act → World → Prop, At N (Cr w0 h1 br (avsOf L ++ SA) vs gh st) (La k) (Ma k s) g K →
     W P N (some l) (Cr w0 h1 br (avsOf L ++ SA) vs gh st) assign (zipT ps.toList it ++ L) (Ms s) g (Exit.then K (fun _ _ _ => False)))
   (round : ∀ (h1 : Hp) (vs : List Value) (gh : (Nat → Prop) → World → Prop) (st : Stab gh) (l : Nat) (k : Nat) (it : List AV) (s : S), items[k]? = some it → J k s → ∀ Qr : Exit → Act → World → Prop,
     (∀ s', J (k + 1) s' → At N (Cr w0 h1 br (avsOf L ++ SA) vs gh st) [] (Ms s') g (Qr .normal)) → (∀ e s', JX e s' → At N (Cr w0 h1 br (avsOf L ++ SA) vs gh st) [] (MX e s') g (Qr e)) →
     W P N (some l) (Cr w0 h1 br (avsOf L ++ SA) vs gh st) body (La k) (Ma k s) g Qr)
   (done : ∀ s, J items.length s → At N (Cq w0 h0 SA SV br) L (Ms s) g (Q .normal)) (left : ∀ e s, JX e s → At N (Cq w0 h0 SA SV br) L (MX e s) g (Q e)) : W P N none (Cq w0 h0 SA SV br) (.rangeFunc fop ps assign body) L M g Q := by
 refine At.convM hM ?_
 intro h ρ a w I
 refine wpIn_rangeFunc ?_
 intro fn hfn
 -- the function, and its contract
 have hfv : ∃ ws : List Value, a.eval fop = .func (.func gf) #[] ws.toArray ∧ RelL h ρ0 caps ws := by
   have h1 : Rel h ρ (evO (fr L) fop) (a.eval fop) := by
     cases fop with
     | tmp t => exact I.slot t
     | const v => exact Rel.ofVal h ρ v
     | func f => exact .fn _ _ _ _ [] [] rfl rfl (fun i c v hc => by simp at hc) (fun i c v hc => by simp at hc)
     | global g => exact .any _ _
   rw [hf] at h1
   generalize a.eval fop = z at h1
   cases h1 with
   | clo _ _ _ _ _ h2 =>
   cases h2 with
   | fn _ _ _ _ us ws hl hm _ hd =>
     have e1 : us = [] := by simpa using hl
     subst e1
     exact ⟨ws, rfl, hm, hd⟩
 obtain ⟨ws, hev, hws⟩ := hfv
 obtain ⟨rec, hrec⟩ : ∃ rec : LoopState → Option Code → Loop, rec = fun st pe => { state := st, pending := pe, fn, tmps := a.tmps, params := ps, assign, body, defers := w.heap.size } := ⟨_, rfl⟩
 obtain ⟨W1, hW1⟩ : ∃ W1, (w.alloc (.deferred (some []))).alloc (.loop (rec .ready none)) = W1 := ⟨_, rfl⟩
 have hL1 : W1.heap[w.heap.size + 1]? = some (.loop (rec .ready none)) := by
   rw [← hW1]; have := World.alloc_heap_new (w.alloc (.deferred (some []))) (.loop (rec .ready none)); rwa [World.size_alloc] at this
 have hK1 : W1.heap[w.heap.size]? = some (.deferred (some [])) := by
   rw [← hW1]; exact (RowKit.Below.heap_alloc _ _ _ (by simp)).trans (World.alloc_heap_new w _)
 have hS1 : W1.heap.size = w.heap.size + 2 := by rw [← hW1]; simp
 have hB1 : RowKit.Below w.heap.size w W1 := by
   rw [← hW1]; exact ((((RowKit.Below.refl _ w).alloc (Nat.le_refl _) _).alloc (by simp) _))
 obtain ⟨D, hD⟩ : ∃ D, w.heap.size = D := ⟨_, rfl⟩
 have hnod : ∀ {h' : Hp}, ∃ Ds : List Nat, ([] : List Deferred) = Ds.map (fun D => { target := .collected D, args := #[] }) ∧ Ds.Nodup ∧ ∀ D, D ∈ Ds → h' D = some (.deferred (some [])) ∧ w0.heap.size ≤ D := fun {h'} => ⟨[], rfl, List.nodup_nil, fun D hD => (by cases hD)⟩
 have hlt0 : ∀ b o, h b = some o → b < D := fun b o hb => by rw [← hD]; exact I.hlt hb
 obtain ⟨vs0, hvs⟩ : ∃ vs, L.map (fun p => a.tmps.getD p.1 undef) = vs := ⟨_, rfl⟩
 obtain ⟨hav1, hav2⟩ := avsOf_fr (fun t => a.tmps.getD t undef) L
 rw [hvs] at hav1 hav2
 obtain ⟨vs, hvs2⟩ : ∃ vs, vs0 ++ SV = vs := ⟨_, rfl⟩
 have hsv : SV.length = SA.length := I.sav.1
 have hsz0 : w0.heap.size ≤ D := by rw [← hD]; exact I.sz
 have slotL : ∀ {h' : Hp} {ρ' : Rho}, (vs.length = (avsOf L ++ SA).length ∧ ∀ (i : Nat) (c : AV) (v : Value), (avsOf L ++ SA)[i]? = some c → vs[i]? = some v → Rel h' ρ' c v) → ∀ t, Rel h' ρ' (fr L t) (a.tmps.getD t undef) := fun hs t => by
   rcases hav2 t with e | ⟨i, q1, q2⟩
   · rw [e]; exact .any _ _
   · refine hs.2 i _ _ ?_ ?_
     · rw [List.getElem?_append_left (List.getElem?_eq_some_iff.1 q1).1]; exact q1
     · rw [← hvs2, List.getElem?_append_left (List.getElem?_eq_some_iff.1 q2).1]; exact q2
 have slotS : ∀ {h' : Hp} {ρ' : Rho}, (vs.length = (avsOf L ++ SA).length ∧ ∀ (i : Nat) (c : AV) (v : Value), (avsOf L ++ SA)[i]? = some c → vs[i]? = some v → Rel h' ρ' c v) → ∀ (i : Nat) (c : AV) (v : Value), SA[i]? = some c → SV[i]? = some v → Rel h' ρ' c v := fun hs i c v h1 h2 => by
   refine hs.2 ((avsOf L).length + i) _ _ ?_ ?_
   · rw [List.getElem?_append_right (Nat.le_add_right _ _), Nat.add_sub_cancel_left]; exact h1
   · rw [← hvs2, ← hav1, List.getElem?_append_right (Nat.le_add_right _ _), Nat.add_sub_cancel_left]; exact h2
 let T : (Nat → Prop) → World → Prop := fun _ _ => True
 have sT : Stab T := fun _ _ _ _ _ _ _ _ _ _ _ => trivial
 -- the caller between two rounds, while the iterator holds X
 let MidP : List (Nat × Blk) → (Nat → Prop) → World → Prop := fun Mx X Wd => (∃ h' ρ' a0, a0.defers = [] ∧ InvH N (Cr w0 h br (avsOf L ++ SA) vs T sT) h' ρ' (fr []) (mm Mx) g a0 Wd ∧ ∀ b, (X b ∨ b = D ∨ b = D + 1) → h' b = none ∧ ¬ ownSet ρ' b) ∧ Wd.heap[D]? = some (.deferred (some [])) ∧ W1.heap.size ≤ Wd.heap.size ∧ ∀ b, X b → W1.heap.size ≤ b
 let Jf : Nat → (Nat → Prop) → World → Prop := fun k X Wd => match k with
   | 0 => ∃ e s, JX e s ∧ MidP (MX e s) X Wd ∧ Wd.heap[D + 1]? = some (.loop (rec .done (some (jumpOf e))))
   | k + 1 => ∃ s, J k s ∧ MidP (Ms s) X Wd ∧ Wd.heap[D + 1]? = some (.loop (rec .ready none))
 have midStab : ∀ Mx (o : Obj), Stab (fun X Wd => MidP Mx X Wd ∧ Wd.heap[D + 1]? = some o) := by
   rintro Mx o X X' wd wd' ⟨⟨⟨h', ρ', a0, hd0, I0, hZ⟩, m1, m2, m3⟩, m4⟩ hos htape hout hsz hk hX'
   have hDX : ¬ X D := fun hx => by have := m3 D hx; omega
   have hDX' : ¬ X (D + 1) := fun hx => by have := m3 _ hx; omega
   refine ⟨⟨⟨h', ρ', a0, hd0, I0.reframe (Z := X) I0.slot I0.size (by rw [hd0]; exact hnod) (fun b hb => ⟨(hZ b (.inl hb)).1, (hZ b (.inl hb)).2, by have := m3 b hb; omega⟩) hos htape hout hsz hk ⟨fun _ => True, fun _ _ => trivial, fun _ _ _ => .inr trivial, trivial⟩, fun b hb => ?_⟩, ?_, Nat.le_trans m2 hsz, fun b hb => ?_⟩, ?_⟩
   · rcases hb with hb | hb
     · rcases hX' b hb with h2 | h2
       · exact hZ b (.inl h2)
       · refine ⟨?_, fun ⟨id, li, q1, q2⟩ => ?_⟩
         · cases ho : h' b with
           | none => rfl
           | some o => have := I0.hlt ho; omega
         · have := (I0.own id li b q1 q2).2.1; omega
     · exact hZ b (.inr hb)
   · rw [hk D (by omega) hDX]; exact m1
   · rcases hX' b hb with h2 | h2
     · exact m3 b h2
     · omega
   · rw [hk _ (by omega) hDX']; exact m4
 have hstab : ∀ k, Stab (Jf k) := by
   intro k X X' wd wd' H hos htape hout hsz hk hX'
   cases k with
   | zero =>
     obtain ⟨e, s, q1, q2⟩ := H
     exact ⟨e, s, q1, midStab _ _ X X' wd wd' q2 hos htape hout hsz hk hX'⟩
   | succ k =>
     obtain ⟨s, q1, q2⟩ := H
     exact ⟨s, q1, midStab _ _ X X' wd wd' q2 hos htape hout hsz hk hX'⟩
 have hyld : Yld P h (D + 1) Jf items := by
   rintro k X W it us ⟨s, hJ, ⟨⟨h', ρ', a0, hd0, I0, hZ⟩, m1, m2, m3⟩, hl⟩ hitk hus
   obtain ⟨hitl, hitg⟩ := hit it (List.mem_of_getElem? hitk)
   have hsz2 : us.toArray.size = ps.size := by simp only [List.size_toArray]; rw [hus.1, hitl]
   have hy := run_yield (P := P) (args := us.toArray) hl (by rw [hrec]; exact hsz2)
   rw [hrec] at hy
   refine ⟨fn, _, assign, body, hy, roundIn_of_wpIn (F := Fw none) (n := 1) trivial ?_⟩
   have hfold : (ps.zip us.toArray).foldl (fun tmps (x : Nat × Value) => tmps.setIfInBounds x.1 x.2) a.tmps = ((ps.toList.zip us).foldl (fun (tm : Array Value) (x : Nat × Value) => tm.setIfInBounds x.1 x.2) a.tmps) := by
     rw [← Array.foldl_toList, Array.toList_zip]
   obtain ⟨z1, z2⟩ := zip_slots ps.toList it us a.tmps (fr L) (hus.of_gr (h' := h') (ρ' := ρ') hitg) (by simpa using hitl) (fun t ht => allLt_spec hpN t ht) I.size (noDupN_spec hpd) (slotL I0.sav)
   rw [← hfold] at z1 z2
   obtain ⟨Z, hZd⟩ : ∃ Z : Nat → Prop, Z = fun b => (X b ∧ b < W.heap.size) ∨ b = D ∨ b = D + 1 := ⟨_, rfl⟩
   have hZlt : ∀ b, Z b → b < W.heap.size ∧ D ≤ b := fun b hb => by
     rw [hZd] at hb
     rcases hb with hb | hb
     · exact ⟨hb.2, by have := m3 b hb.1; omega⟩
     · exact ⟨by omega, by omega⟩
   have hZ' : ∀ b, Z b → h' b = none ∧ ¬ ownSet ρ' b := fun b hb => by
     rw [hZd] at hb
     exact hZ b (hb.imp (fun h => h.1) (fun h => h))
   have still0 : ∀ (h2 : Hp) (ρ2 : Rho), (∀ b, Z b → h2 b = none ∧ ¬ ownSet ρ2 b) → ∀ (V : Nat → Option Obj) (w2 : World), W.heap.size ≤ w2.heap.size → (∀ b, Z b → w2.heap[b]? = V b) → ∃ Y : Nat → Prop, (∀ b, ownSet ρ2 b → Y b) ∧ (∀ b o, h2 b = some o → h b = some o ∨ Y b) ∧ Still Z V W.heap.size Y w2 :=
     fun h2 ρ2 hz V w2 hsz hv => ⟨fun b => ¬ Z b, fun b hb hzb => (hz b hzb).2 hb, fun b o hb => .inr (fun hzb => by rw [(hz b hzb).1] at hb; cases hb), fun b hb => ⟨(hZlt b hb).1, fun hn => hn hb, hv b hb⟩, hsz⟩
   have free : ∀ {gh : (Nat → Prop) → World → Prop} {st : Stab gh} {V : Nat → Option Obj} {h2 : Hp} {ρ2 : Rho} {F2 : Fr} {M2 : Mm} {a2 : Act} {w2 : World}, InvH N (Cr w0 h br (avsOf L ++ SA) vs (Still Z V W.heap.size) (Still.stab _ _ _)) h2 ρ2 F2 M2 g a2 w2 → (∀ b, Z b → h2 b = none ∧ ¬ ownSet ρ2 b) ∧ (∀ b, Z b → w2.heap[b]? = V b) ∧ W.heap.size ≤ w2.heap.size :=
     fun {gh st V h2 ρ2 F2 M2 a2 w2} I2 => by
       obtain ⟨Y, y1, y2, y3⟩ := I2.gst
       refine ⟨fun b hb => ⟨?_, fun ho => (y3.1 b hb).2.1 (y1 b ho)⟩, fun b hb => (y3.1 b hb).2.2, y3.2⟩
       cases ho : h2 b with
       | none => rfl
       | some o =>
         rcases y2 b o ho with h3 | h3
         · have := hlt0 b o h3; have := (hZlt b hb).2; omega
         · exact absurd h3 (y3.1 b hb).2.1
   have hlast : ∀ b, Z b → b ≠ D + 1 → (X b ∧ b < W.heap.size) ∨ b = D := fun b hb hne => by
     rw [hZd] at hb
     rcases hb with hb | hb | hb
     · exact .inl hb
     · exact .inr hb
     · exact absurd hb hne
   have zD : Z D := by rw [hZd]; exact .inr (.inl rfl)
   have zD1 : Z (D + 1) := by rw [hZd]; exact .inr (.inr rfl)
   refine asg h vs (Still Z (fun b => W.heap[b]?) W.heap.size) (Still.stab _ _ _) (D + 1) k it s hitk _ (fun h2 ρ2 a1 w1 I2 => ?_) h' ρ' _ W
     (I0.reframe (Z := fun _ => False) (a' := { tmps := (ps.zip us.toArray).foldl (fun tmps (x : Nat × Value) => tmps.setIfInBounds x.1 x.2) a.tmps, defers := [] }) (fun t => by rw [fr_zip]; exact z2 t) z1 hnod (fun b hb => hb.elim) rfl rfl rfl (Nat.le_refl _) (fun _ _ _ => rfl) (still0 h' ρ' hZ' _ W (Nat.le_refl _) (fun b hb => rfl)))
   obtain ⟨f1, f2, f3⟩ := free (gh := T) (st := sT) I2
   have hl1 : w1.heap[D + 1]? = some (.loop (rec .ready none)) := (f2 _ zD1).trans hl
   have hbr := run_beginRound (P := P) hl1 (by rw [hrec])
   refine ⟨_, hbr, ?_⟩
   have hlt1 : D + 1 < w1.heap.size := (Array.getElem?_eq_some_iff.1 hl1).1
   have hl2 : (w1.putObj (D + 1) (.loop { rec .ready none with state := .busy })).heap[D + 1]? = some (.loop { rec .ready none with state := .busy }) := World.putObj_heap_same hlt1
   refine round h vs (Still Z (fun b => if b = D + 1 then some (.loop { rec .ready none with state := .busy }) else W.heap[b]?) W.heap.size) (Still.stab _ _ _) (D + 1) k it s hitk hJ _ (fun s' hJ' h3 ρ3 a3 w3 I3 => ?_) (fun e s' hJX h3 ρ3 a3 w3 I3 => ?_) h2 ρ2 a1 _
     (I2.reframe (Z := fun b => b = D + 1) I2.slot I2.size I2.dfr (fun b hb => by subst hb; exact ⟨(f1 _ zD1).1, (f1 _ zD1).2, by omega⟩) rfl rfl rfl (by simp) (fun kk _ hkk => World.putObj_heap_other hkk) (still0 h2 ρ2 f1 _ _ (by simpa using f3) (fun b hb => by
       by_cases hbe : b = D + 1
       · subst hbe; rw [if_pos rfl]; exact hl2
       · rw [if_neg hbe, World.putObj_heap_other hbe]; exact f2 b hb)))
   all_goals
     obtain ⟨p1, p2, p3⟩ := free (gh := T) (st := sT) I3
     have hl3 : w3.heap[D + 1]? = some (.loop { rec .ready none with state := .busy }) := by have := p2 _ zD1; rw [if_pos rfl] at this; exact this
     have hlt3 : D + 1 < w3.heap.size := (Array.getElem?_eq_some_iff.1 hl3).1
     have mid : ∀ (Mx : List (Nat × Blk)), InvH N (Cr w0 h br (avsOf L ++ SA) vs (Still Z (fun b => if b = D + 1 then some (.loop { rec .ready none with state := .busy }) else W.heap[b]?) W.heap.size) (Still.stab _ _ _)) h3 ρ3 (fr []) (mm Mx) g a3 w3 → ∀ o, MidP Mx (fun b => X b ∧ b < W.heap.size) (w3.putObj (D + 1) o) := fun Mx I3 o =>
       ⟨⟨h3, ρ3, { a3 with defers := [] }, rfl, I3.reframe (Z := fun b => b = D + 1) (fun t => .any _ _) I3.size hnod (fun b hb => by subst hb; exact ⟨(p1 _ zD1).1, (p1 _ zD1).2, by omega⟩) rfl rfl rfl (by simp) (fun kk _ hkk => World.putObj_heap_other hkk) ⟨fun _ => True, fun _ _ => trivial, fun _ _ _ => .inr trivial, trivial⟩,
         fun b hb => p1 b (by rw [hZd]; exact hb)⟩, by
           rw [World.putObj_heap_other (by omega)]
           have := p2 _ zD; rw [if_neg (by omega)] at this
           exact this.trans m1, by simp; omega, fun b hb => m3 b hb.1⟩
     have kept : ∀ o, RoundPost h X W (fun _ _ => True) (.returned (.bool true)) (w3.putObj (D + 1) o) := fun o =>
       ⟨true, rfl, trivial, I3.os.trans I0.os.symm, I3.tape.trans I0.tape.symm, I3.out.trans I0.out.symm, by simpa using p3, fun kk hkk hX => by
         have hne : kk ≠ D + 1 := fun e => by have := m3 kk hX; omega
         rw [World.putObj_heap_other hne]
         have := p2 kk (by rw [hZd]; exact .inl ⟨hX, hkk⟩)
         rw [if_neg hne] at this
         exact this, fun kk o' hk' => by
         have := hlt0 kk o' hk'
         rw [World.putObj_heap_other (by omega)]
         exact I3.hp kk o' (I3.ext kk o' hk')⟩
   · have hr := run_endRound (P := P) none hl3
     refine ⟨_, _, hr, ?_⟩
     obtain ⟨_, _, _, k1, k2, k3, k4, k5, k6⟩ := kept (.loop { ({ rec .ready none with state := .busy } : Loop) with state := .ready, pending := none })
     refine ⟨true, rfl, ⟨s', hJ', mid _ I3 _, ?_⟩, k1, k2, k3, k4, k5, k6⟩
     rw [World.putObj_heap_same hlt3, hrec]; rfl
   · rcases hX e s' hJX with rfl | ⟨i, rfl⟩
     · have hr := run_endRound (P := P) (some .ret) hl3
       refine ⟨_, _, hr, ?_⟩
       obtain ⟨_, _, _, k1, k2, k3, k4, k5, k6⟩ := kept (.loop { ({ rec .ready none with state := .busy } : Loop) with state := .done, pending := some .ret })
       refine ⟨false, rfl, ⟨.ret, s', hJX, mid _ I3 _, ?_⟩, k1, k2, k3, k4, k5, k6⟩
       rw [World.putObj_heap_same hlt3, hrec]; rfl
     · have hr := run_endRound (P := P) (some (.exit i)) hl3
       refine ⟨_, _, hr, ?_⟩
       obtain ⟨_, _, _, k1, k2, k3, k4, k5, k6⟩ := kept (.loop { ({ rec .ready none with state := .busy } : Loop) with state := .done, pending := some (.exit i) })
       refine ⟨false, rfl, ⟨.exit i, s', hJX, mid _ I3 _, ?_⟩, k1, k2, k3, k4, k5, k6⟩
       rw [World.putObj_heap_same hlt3, hrec]; rfl
 -- the way back
 have back : ∀ (Mx : List (Nat × Blk)) (X : Nat → Prop) (W : World) (o0 o1 : Obj), MidP Mx X W → W.heap[D + 1]? = some o0 → ∃ h' ρ', InvH N (Cq w0 h0 SA SV br) h' ρ' (fr L) (mm Mx) g { a with defers := [{ target := .collected D, args := #[] }] ++ a.defers } (W.putObj (D + 1) o1) := by
   rintro Mx X W o0 o1 ⟨⟨h', ρ', a0, hd0, I0, hZ⟩, m1, m2, m3⟩ hl
   have hlt : D + 1 < W.heap.size := (Array.getElem?_eq_some_iff.1 hl).1
   obtain ⟨hz1, hz2⟩ := hZ D (.inr (.inl rfl))
   obtain ⟨hy1, hy2⟩ := hZ (D + 1) (.inr (.inr rfl))
   have hle : ∀ b o, h' b = some o → upd h' D (some (.deferred (some []))) b = some o := fun b o hb => by
     rw [upd_other _ _ (fun e => by subst e; rw [hz1] at hb; cases hb)]; exact hb
   refine ⟨upd h' D (some (.deferred (some []))), ρ', ⟨fun t => (slotL I0.sav t).heap (Le.of hle), ⟨hsv, fun i c v h1 h2 => (slotS I0.sav i c v h1 h2).heap (Le.of hle)⟩, I.size, fun b o hb => ?_, fun id x hx => ?_, I0.dom, fun id li b q1 q2 => ?_, I0.inj, I0.os, I0.tape, I0.out, by have := I0.sz; rw [World.putObj_size]; exact this, fun kk hk0 hb => ?_, fun b o hb => hle b o (I0.ext b o (I.ext b o hb)), fun b o hb hlt' => ?_, ⟨fun _ => True, fun _ _ => trivial, fun _ _ _ => .inr trivial, trivial⟩, ?_⟩⟩
   · by_cases hbD : b = D
     · subst hbD
       rw [upd_same] at hb; cases hb
       rw [World.putObj_heap_other (by omega)]; exact m1
     · rw [upd_other _ _ hbD] at hb
       rw [World.putObj_heap_other (fun e => by subst e; rw [hy1] at hb; cases hb)]; exact I0.hp b o hb
   · exact (I0.blk id x hx).keep (Le.of hle) rfl (hle_refl _) (fun li b q1 q2 => World.putObj_heap_other (fun e => by subst e; exact hy2 ⟨id, li, q1, q2⟩))
   · obtain ⟨q3, q4, q5⟩ := I0.own id li b q1 q2
     refine ⟨?_, by simpa using q4, ?_⟩
     · rw [upd_other _ _ (fun e => by subst e; exact hz2 ⟨id, li, q1, q2⟩)]; exact q3
     · exact q5
   · rw [World.putObj_heap_other (by have : kk < w0.heap.size := hk0; omega)]; exact I0.kept kk hk0 hb
   · have hne : b ≠ D := by have : b < w0.heap.size := hlt'; omega
     rw [upd_other _ _ hne] at hb
     exact I.old b o (I0.old b o hb hlt') hlt'
   · obtain ⟨Ds, hd1, hd2, hd3⟩ := I.dfr
     refine ⟨D :: Ds, by simp [hd1], List.nodup_cons.2 ⟨fun hm => ?_, hd2⟩, fun D' hD' => ?_⟩
     · have := hlt0 D _ (hd3 D hm).1; omega
     · rcases List.mem_cons.1 hD' with rfl | hm
       · exact ⟨upd_same _ _ _, hsz0⟩
       · exact ⟨hle _ _ (I0.ext _ _ (hd3 D' hm).1), (hd3 D' hm).2⟩
 have hj1 : Jf 1 (fun _ => False) W1 := by
   refine ⟨s0, hJ0, ⟨⟨h, ρ, { a with defers := [] }, rfl, ?_, fun b hb => ?_⟩, hD ▸ hK1, Nat.le_refl _, fun b hb => hb.elim⟩, hD ▸ hL1⟩
   · refine ⟨fun t => .any _ _, ⟨by show vs.length = (avsOf L ++ SA).length; rw [← hvs2, List.length_append, List.length_append, hav1, hsv], fun i c v q1 q2 => ?_⟩, I.size, fun b o hb => ?_, fun id x hx => ?_, I.dom, fun id li b q1 q2 => ?_, I.inj, hB1.os.trans I.os, hB1.tape.trans I.tape, hB1.output.trans I.out, Nat.le_trans I.sz hB1.size, fun kk hk0 hb => ?_, fun b o hb => hb, fun b o hb _ => hb, ⟨fun _ => True, fun _ _ => trivial, fun _ _ _ => .inr trivial, trivial⟩, hnod⟩
     · replace q1 : (avsOf L ++ SA)[i]? = some c := q1
       replace q2 : vs[i]? = some v := q2
       rcases Nat.lt_or_ge i (avsOf L).length with hi | hi
       rotate_left
       · rw [List.getElem?_append_right hi] at q1
         rw [← hvs2, List.getElem?_append_right (by rw [hav1]; exact hi), hav1] at q2
         exact I.sav.2 _ c v q1 q2
       rw [List.getElem?_append_left hi] at q1
       rw [← hvs2, List.getElem?_append_left (by rw [hav1]; exact hi)] at q2
       obtain ⟨t, q3⟩ : ∃ t, L[i]? = some (t, c) := by
         have : ∀ (L : List (Nat × AV)) (i : Nat), (avsOf L)[i]? = some c → ∃ t, L[i]? = some (t, c) := by
           intro L
           induction L with
           | nil => intro i h; simp [avsOf] at h
           | cons x r ih =>
             obtain ⟨d, v⟩ := x
             intro i h
             cases i with
             | zero => simp [avsOf] at h; subst h; exact ⟨d, rfl⟩
             | succ i => simpa [avsOf] using ih i (by simpa [avsOf] using h)
         exact this L i q1
       have q4 : fr L t = c := by
         have : ∀ (L : List (Nat × AV)), noDupN (L.map (·.1)) = true → ∀ i : Nat, L[i]? = some (t, c) → fr L t = c := by
           intro L
           induction L with
           | nil => intro _ i h; simp at h
           | cons x r ih =>
             obtain ⟨d, v⟩ := x
             intro hn i h
             have hn' := noDupN_spec hn
             simp only [List.map_cons] at hn'
             cases i with
             | zero =>
               simp at h; obtain ⟨rfl, rfl⟩ := h
               exact put_same _ _ _
             | succ i =>
               have hi : r[i]? = some (t, c) := by simpa using h
               have hne : t ≠ d := by
                 rintro rfl
                 exact (List.nodup_cons.1 hn').1 (List.mem_map.2 ⟨(t, c), List.mem_of_getElem? hi, rfl⟩)
               simp only [fr]
               rw [put_other _ _ hne]
               refine ih ?_ i hi
               simp only [List.map_cons] at hn
               unfold noDupN at hn
               split at hn
               · cases hn
               · exact hn
         exact this L hLd i q3
       have q5 : v = a.tmps.getD t undef := by
         replace q2 : (L.map (fun p => a.tmps.getD p.1 undef))[i]? = some v := by rw [hvs]; exact q2
         rw [List.getElem?_map, q3] at q2
         simpa using q2.symm
       rw [q5, ← q4]
       exact I.slot t
     · rw [hB1.block b (I.hlt hb)]; exact I.hp b o hb
     · exact (I.blk id x hx).keep (Le.refl h) rfl (hle_refl _) (fun li b q1 q2 => hB1.block b (I.own id li b q1 q2).2.1)
     · obtain ⟨q3, q4, q5⟩ := I.own id li b q1 q2
       exact ⟨q3, Nat.lt_of_lt_of_le q4 hB1.size, q5⟩
     · rw [hB1.block kk (Nat.lt_of_lt_of_le hk0 I.sz)]; exact I.kept kk hk0 hb
   · have hge : D ≤ b := by
       rcases hb with hb | hb | hb
       · exact hb.elim
       · omega
       · omega
     refine ⟨?_, fun ⟨id, li, q1, q2⟩ => ?_⟩
     · cases ho : h b with
       | none => rfl
       | some o => have := hlt0 b o ho; omega
     · have := (I.own id li b q1 q2).2.1; omega
 refine ⟨w.heap.size + 1, [{ target := .collected w.heap.size, args := #[] }], W1, { target := .fn (.func gf) ws.toArray, args := #[.func (.yield (w.heap.size + 1)) #[] #[]] }, W1, gf,
   #[.func (.yield (w.heap.size + 1)) #[] #[]] ++ ws.toArray, W1, ?_, ?_, fun f' hf' => trivial, ?_, fun _ => Nat.le_refl _, ?_⟩
 · rw [← hW1, hrec]; exact run_enterLoop_outer _ _ _ _ _
 · simp only [resolve, hev]
   simp [go_sem]
 · have eg : ∀ args w, (callFunc gf args).run P w = .ok (.enter gf args) w := hI.1
   simp [invoke, go_sem, eg]
 · have harr : #[Value.func (.yield (w.heap.size + 1)) #[] #[]] ++ ws.toArray = (Value.func (.yield (D + 1)) #[] #[] :: ws).toArray := by rw [hD]; simp
   rw [harr, hD]
   refine callsIn_w ((hI.2 h W1 ws hws (fun b o hb => by rw [hB1.block b (I.hlt hb)]; exact I.hp b o hb) (D + 1) Jf hstab hyld hj1).mono ?_)
   rintro e W2 ⟨⟨v, rfl⟩, X, hJe⟩
   rcases hJe with ⟨s, hJ, hmid, hl⟩ | ⟨e', s, hJX, hmid, hl⟩
   · have h5 := run_endLoop (P := P) hl (by rw [hrec]; simp)
     have h6 : (rec .ready none).pending = none := by rw [hrec]
     rw [h6] at h5
     obtain ⟨h', ρ', I'⟩ := back _ X W2 _ _ hmid hl
     exact ⟨none, _, h5, done s hJ h' ρ' _ _ I'⟩
   · have h5 := run_endLoop (P := P) hl (by rw [hrec]; simp)
     have h6 : (rec .done (some (jumpOf e'))).pending = some (jumpOf e') := by rw [hrec]
     rw [h6] at h5
     refine ⟨some (jumpOf e'), _, h5, ?_⟩
     rcases hX e' s hJX with rfl | ⟨i, rfl⟩
     · obtain ⟨h', ρ', I'⟩ := back _ X W2 _ _ hmid hl
       exact wpIn_ret (left _ s hJX h' ρ' _ _ I')
     · obtain ⟨h', ρ', I'⟩ := back _ X W2 _ _ hmid hl
       exact wpIn_exit (left _ s hJX h' ρ' _ _ I')
theorem W.listGo {fop : Operand} {ps : Array Tmp} {assign body : Code} {gf : FuncId} {caps : List AV} {A S R : Type} {bd : A → S → (S → R) → R} {exit : S → R} {l : List A} {s0 : S} {r : R} (H : Sp.listGo bd exit l s0 = r) (enc : A → List AV)
   (hI : Iter P gf caps (l.map enc)) (hf : evO (fr L) fop = .clo (.func gf) [] caps) (henc : ∀ x, (enc x).length = ps.size ∧ grL (enc x) = true) (hpN : allLt N ps.toList = true) (hpd : noDupN ps.toList = true) (hLd : noDupN (L.map (·.1)) = true)
   (Ms : S → List (Nat × Blk)) (hM : AgreeM M (Ms s0)) (La : A → List (Nat × AV)) (Ma : A → S → List (Nat × Blk))
   {SX : Type} (JX : Exit → SX → Prop) (MX : Exit → SX → List (Nat × Blk)) (hX : ∀ e s, JX e s → e = .ret ∨ ∃ i, e = .exit i) (hval : ∀ b o, h0 b = some o → w0.heap[b]? = some o)
   (asg : ∀ (h1 : Hp) (vs : List Value) (gh : (Nat → Prop) → World → Prop) (st : Stab gh) (lp : Nat) (x : A) (s : S) (K : Act → World → Prop), At N (Cr w0 h1 br (avsOf L ++ SA) vs gh st) (La x) (Ma x s) g K →
     W P N (some lp) (Cr w0 h1 br (avsOf L ++ SA) vs gh st) assign (zipT ps.toList (enc x) ++ L) (Ms s) g (Exit.then K (fun _ _ _ => False)))
   (round : ∀ (κ : S → R) (h1 : Hp) (vs : List Value) (gh : (Nat → Prop) → World → Prop) (st : Stab gh) (lp : Nat) (x : A) (s : S), bd x s κ = r → ∀ Qr : Exit → Act → World → Prop,
     (∀ s', κ s' = r → At N (Cr w0 h1 br (avsOf L ++ SA) vs gh st) [] (Ms s') g (Qr .normal)) → (∀ e s', JX e s' → At N (Cr w0 h1 br (avsOf L ++ SA) vs gh st) [] (MX e s') g (Qr e)) →
     W P N (some lp) (Cr w0 h1 br (avsOf L ++ SA) vs gh st) body (La x) (Ma x s) g Qr)
   (done : ∀ s, exit s = r → At N (Cq w0 h0 SA SV br) L (Ms s) g (Q .normal)) (left : ∀ e s, JX e s → At N (Cq w0 h0 SA SV br) L (MX e s) g (Q e)) : W P N none (Cq w0 h0 SA SV br) (.rangeFunc fop ps assign body) L M g Q := by
 have key : ∀ (k : Nat) (it : List AV), (l.map enc)[k]? = some it → ∃ x, l[k]? = some x ∧ it = enc x ∧ l.drop k = x :: l.drop (k + 1) := by
   intro k it h
   rw [List.getElem?_map] at h
   cases hx : l[k]? with
   | none => simp [hx] at h
   | some x =>
     simp [hx] at h
     obtain ⟨hlt, rfl⟩ := List.getElem?_eq_some_iff.1 hx
     exact ⟨_, rfl, h.symm, List.drop_eq_getElem_cons hlt⟩
 refine W.rangeFunc hf hI (fun it hit => ?_) hpN hpd hLd (S := S) (fun k s => Sp.listGo bd exit (l.drop k) s = r) Ms s0 (by simpa using H) hM (fun k => match l[k]? with | some x => La x | none => []) (fun k s => match l[k]? with | some x => Ma x s | none => []) JX MX hX hval
   (fun h1 vs gh st lp k it s hit K hK => ?_) (fun h1 vs gh st lp k it s hit hJ Qr hQ hQx => ?_) (fun s hJ => ?_) left
 · obtain ⟨x, _, rfl⟩ := List.mem_map.1 hit
   exact henc x
 · obtain ⟨x, hx, rfl, _⟩ := key k it hit
   simp only [hx] at hK
   exact asg h1 vs gh st lp x s K hK
 · obtain ⟨x, hx, rfl, hd⟩ := key k it hit
   simp only [hx]
   rw [hd] at hJ
   exact round _ h1 vs gh st lp x s hJ Qr hQ hQx
 · refine done s ?_
   rw [List.length_map, List.drop_length] at hJ
   exact hJ
end
def Yl {A : Type} (items : List A) (g : Nat) (r : List A) : Prop := ∃ d, items = d ++ r ∧ g = d.length + 1
theorem Yl.start {A : Type} (items : List A) : Yl items 1 items := ⟨[], rfl, rfl⟩
theorem Yl.item {A : Type} {items r : List A} {g : Nat} {Wb : Bool} {x : A} {rest : Option (List A)} (enc : A → List AV) (H : emitIf Wb x rest = some r) (hY : Yl items g r) (hW : Wb = true) : ∃ q, g = q + 1 ∧ (items.map enc)[q]? = some (enc x) := by
 subst hW
 obtain ⟨d, rfl, rfl⟩ := hY
 unfold emitIf at H
 cases rest with
 | none => simp at H
 | some l =>
   simp at H; subst H
   exact ⟨d.length, rfl, by simp⟩
theorem Yl.next {A : Type} {items r : List A} {g g' : Nat} {Wb : Bool} {x : A} {rest : Option (List A)} (H : emitIf Wb x rest = some r) (hY : Yl items g r) (h1 : Wb = false → g' = g) (h2 : Wb = true → g' = g + 1) : ∃ r', rest = some r' ∧ Yl items g' r' := by
 obtain ⟨d, rfl, rfl⟩ := hY
 unfold emitIf at H
 cases Wb with
 | false => rw [h1 rfl]; exact ⟨r, H, d, rfl, rfl⟩
 | true =>
   rw [h2 rfl]
   cases rest with
   | none => simp at H
   | some l =>
     simp at H; subst H
     exact ⟨l, rfl, d ++ [x], by simp, by simp⟩
theorem Yl.fin {A : Type} {items r : List A} {g : Nat} (enc : A → List AV) (H : some [] = some r) (hY : Yl items g r) : g = (items.map enc).length + 1 := by
 cases H
 obtain ⟨d, rfl, rfl⟩ := hY
 simp
theorem Yl.split {g g' : Nat} {Wb b : Bool} (h1 : Wb = false → g' = g) (h2 : Wb = true → g' = bif b then g + 1 else 0) : (Wb = true ∧ b = false ∧ g' = 0) ∨ ((Wb = true → b = true) ∧ (Wb = false → g' = g) ∧ (Wb = true → g' = g + 1)) := by
 cases Wb with
 | false => exact .inr ⟨fun h => (by cases h), fun _ => h1 rfl, fun h => (by cases h)⟩
 | true =>
   cases b with
   | false => exact .inl ⟨rfl, rfl, h2 rfl⟩
   | true => exact .inr ⟨fun _ => rfl, fun h => (by cases h), fun _ => h2 rfl⟩
section
variable {P : Program} {N : Nat} {C : Ctx} {rr : Option Nat} {L : List (Nat × AV)} {M : List (Nat × Blk)} {g : Nat} {Q : Exit → Act → World → Prop}
theorem W.loopG {S : Type} {c : Code} (J : Nat → S → Prop) (Ls : S → List (Nat × AV)) (Ms : S → List (Nat × Blk)) (gs : S → Nat) {n0 : Nat} {s0 : S} (h0 : J n0 s0) (hL : Agree (fr L) (Ls s0)) (hM : AgreeM M (Ms s0)) (hg : gs s0 = g)
   (round : ∀ n s, J n s → ∀ K : Act → World → Prop, (∀ n' s', n' < n → J n' s' → At N C (Ls s') (Ms s') (gs s') K) → W P N rr C c (Ls s) (Ms s) (gs s) (Exit.then K Q)) : W P N rr C (.loop c) L M g Q := by
 refine At.conv hL hM ?_
 subst hg
 intro h ρ a w I
 let J' : Nat → Act → World → Prop := fun n a w => ∃ s h ρ, J n s ∧ InvH N C h ρ (fr (Ls s)) (mm (Ms s)) (gs s) a w
 have hex : ∃ n, J' n a w := ⟨n0, s0, h, ρ, h0, I⟩
 classical
 let μ : Act → World → Nat := fun a w => if hh : ∃ n, J' n a w then Classical.choose (exists_least hh) else 0
 have hμ : ∀ a w, (hh : ∃ n, J' n a w) → J' (μ a w) a w ∧ ∀ m, J' m a w → μ a w ≤ m := fun a w hh => by
   have : μ a w = Classical.choose (exists_least hh) := dif_pos hh
   rw [this]
   exact Classical.choose_spec (exists_least hh)
 refine wpIn_loop (fun a w => ∃ n, J' n a w) μ hex ?_
 intro a w ha
 obtain ⟨⟨s, h, ρ, hJ, I⟩, _⟩ := hμ a w ha
 refine round _ s hJ _ (fun n' s' hlt hJ' h' ρ' a' w' I' => ?_) h ρ a w I
 have hex' : ∃ n, J' n a' w' := ⟨n', s', h', ρ', hJ', I'⟩
 exact ⟨hex', Nat.lt_of_le_of_lt ((hμ a' w' hex').2 n' ⟨s', h', ρ', hJ', I'⟩) hlt⟩
theorem W.rangeGoI {A S : Type} {items : List A} {body : Nat → S → (S → Option (List A)) → Option (List A)} {exit : S → Option (List A)} {b : Nat} {s0 : S} {r : List A} {c : Code} (H : Sp.rangeGo body exit b 0 s0 = some r) (hY : Yl items g r)
   (Ls : Nat → S → List (Nat × AV)) (Ms : Nat → S → List (Nat × Blk)) (hL : Agree (fr L) (Ls 0 s0)) (hM : AgreeM M (Ms 0 s0))
   (round : ∀ (κ : S → Option (List A)) (i : Nat) (s : S) (g : Nat) (r : List A), i ≤ b → Yl items g r → (i < b → body i s κ = some r) → (b ≤ i → exit s = some r) → ∀ K : Act → World → Prop, (i < b → ∀ s' g' r', Yl items g' r' → κ s' = some r' → At N C (Ls (i + 1) s') (Ms (i + 1) s') g' K) → W P N rr C c (Ls i s) (Ms i s) g (Exit.then K Q)) :
   W P N rr C (.loop c) L M g Q := by
 refine W.loopG (S := Nat × S × Nat × List A) (n0 := b) (s0 := (0, s0, g, r)) (fun n s => s.1 + n = b ∧ Yl items s.2.2.1 s.2.2.2 ∧ Sp.rangeGo body exit n s.1 s.2.1 = some s.2.2.2) (fun s => Ls s.1 s.2.1) (fun s => Ms s.1 s.2.1) (fun s => s.2.2.1) ⟨Nat.zero_add _, hY, H⟩ hL hM rfl (fun n s hJ K hK => ?_)
 obtain ⟨i, s, g, r⟩ := s
 obtain ⟨h1, hy, h2⟩ := hJ
 simp only at h1 h2 hK hy ⊢
 cases n with
 | zero => exact round (fun s => exit s) i s g r (by omega) hy (fun hlt => by omega) (fun _ => h2) K (fun hlt => by omega)
 | succ n => exact round (Sp.rangeGo body exit n (i + 1)) i s g r (by omega) hy (fun _ => h2) (fun hge => by omega) K (fun _ s' g' r' hy' hs' => hK n (i + 1, s', g', r') (Nat.lt_succ_self n) ⟨by simp only; omega, hy', hs'⟩)
theorem At.iofNormal {w0 : World} {h0 : Hp} {J : Nat → (Nat → Prop) → World → Prop} {hJ : ∀ k, Stab (J k)} {fn : Func} {n : Nat} (H : At N (Ci w0 h0 J hJ) L M g (IRetQ P fn J n .ret)) : At N (Ci w0 h0 J hJ) L M g (IRetQ P fn J n .normal) := H
theorem W.condNz {op : Operand} {x y : Code} {n : Nat} (hb : evO (fr L) op = .nz n) (ht : n = 0 → W P N rr C x L M g Q) (hf : W P N rr C y L M g Q) : W P N rr C (.cond op x y) L M g Q := by
 intro h ρ a w I
 have hr : Rel h ρ (.nz n) (a.eval op) := by
   rw [← hb]
   cases op with
   | tmp t => exact I.slot t
   | const v => exact Rel.ofVal h ρ v
   | func f => exact .fn _ _ _ _ [] [] rfl rfl (fun i c v hc => by simp at hc) (fun i c v hc => by simp at hc)
   | global g => exact .any _ _
 obtain ⟨b, he, hn⟩ : ∃ b, a.eval op = .bool b ∧ (b = true → n = 0) := by generalize a.eval op = z at hr; cases hr with | nz _ _ b hb => exact ⟨b, rfl, hb⟩
 exact wpIn_cond_split he (fun h1 => ht (hn h1) h ρ a w I) (fun _ => hf h ρ a w I)
end
theorem BSim.grid {tS ty sz n n' : Nat} {m m' : Nat → Nat} {e e' : Nat → Nat → List AV} (hn : n = n') (hm : ∀ i, i < n → m i = m' i) (he : ∀ i j, i < n → j < m i → e i j = e' i j) : BSim (.grid tS ty sz n m e) (.grid tS ty sz n' m' e') := by
 subst hn
 intro h ρ id w H
 obtain ⟨v, rows, q1, q2, q3, q4, q5⟩ := H
 refine ⟨v, rows, q1, q2, q3, fun i x hx => ?_, q5⟩
 have hi : i < n := by rw [← q2]; exact (List.getElem?_eq_some_iff.1 hx).1
 obtain ⟨r0, r1, xs, r2, r3, r4, r5⟩ := q4 i x hx
 refine ⟨r0.trans (hm i hi), r1, xs, r2, fun j hj => ?_, r4, fun j k c y hj hc hy => ?_⟩
 · rw [← hm i hi] at hj
   rw [← he i j hi hj]; exact r3 j hj
 · rw [← hm i hi] at hj
   rw [← he i j hi hj] at hc
   exact r5 j k c y hj hc hy
def GSeg {T : Type} [Inhabited T] (f : T → List AV) (n : Nat) (m : Nat → Nat) (e : Nat → Nat → List AV) (l : List (List T)) : Prop := n = l.length ∧ (∀ i, i < n → m i = (l.getD i []).length) ∧ ∀ i j, i < n → j < m i → e i j = f ((l.getD i []).getD j default)
theorem GSeg.refl {T : Type} [Inhabited T] (f : T → List AV) (l : List (List T)) : GSeg f l.length (fun i => (l.getD i []).length) (fun i j => f ((l.getD i []).getD j default)) l := ⟨rfl, fun _ _ => rfl, fun _ _ _ _ => rfl⟩
theorem GSeg.made {T : Type} [Inhabited T] (f : T → List AV) (n : Nat) : GSeg f n (fun _ => 0) (fun _ _ => []) (List.replicate n ([] : List T)) := by
 refine ⟨by simp, fun i hi => ?_, fun i j hi hj => absurd hj (Nat.not_lt_zero _)⟩
 simp [List.getD_eq_getElem?_getD, hi]
theorem GSeg.setRow {T : Type} [Inhabited T] {f : T → List AV} {n k i : Nat} {m : Nat → Nat} {e : Nat → Nat → List AV} {e2 : Nat → List AV} {l : List (List T)} {row : List T} (h : GSeg f n m e l) (h2 : Seg f k e2 row) :
   GSeg f n (fun a => if a = i then k else m a) (fun a => if a = i then e2 else e a) (l.set i row) := by
 obtain ⟨rfl, g1, g2⟩ := h
 obtain ⟨rfl, g3⟩ := h2
 refine ⟨by simp, fun a ha => ?_, fun a j ha hj => ?_⟩
 · by_cases hai : a = i
   · subst hai; simp [List.getD_eq_getElem?_getD, ha]
   · simp only [hai, if_false]; rw [g1 a ha]; simp [List.getD_eq_getElem?_getD, List.getElem?_set_ne (Ne.symm hai)]
 · by_cases hai : a = i
   · subst hai
     simp only [if_true] at hj ⊢
     rw [g3 j hj]
     simp [List.getD_eq_getElem?_getD, ha]
   · simp only [hai, if_false] at hj ⊢
     rw [g2 a j ha hj]
     simp [List.getD_eq_getElem?_getD, List.getElem?_set_ne (Ne.symm hai)]
end Go.Av
end
/- Functions that blocks are handed over to. -/
section
set_option linter.all false
namespace Go.Av
open Go.Sp
abbrev Cb (w0 : World) (h0 : Hp) (ρb : Rho) : Ctx := Cq w0 h0 [] [] (ownSet ρb)
def RetOQ (P : Program) (fn : Func) (h0 : Hp) (w0 : World) (ρb : Rho) (v : AV) (B : List (Nat × Blk)) : Exit → Act → World → Prop := bodyPostM (Fw none) 1 P fn (CtrOPost h0 w0 ρb v B)
theorem mm_sh {k : Nat} : ∀ {B : List (Nat × Blk)} {i : Nat}, mm (shB k B) (k + i) = (mm B i).map (·.sh k)
 | [], i => rfl
 | (j, b) :: r, i => by
   simp only [shB, mm, upd]
   by_cases h : i = j
   · subst h; simp
   · have e1 : Nat.beq i j = false := by
       cases hb : Nat.beq i j with
       | false => rfl
       | true => exact absurd (Nat.eq_of_beq_eq_true hb) h
     have e2 : Nat.beq (k + i) (k + j) = false := by
       cases hb : Nat.beq (k + i) (k + j) with
       | false => rfl
       | true => have := Nat.eq_of_beq_eq_true hb; omega
     rw [e1, e2]
     exact mm_sh
theorem mm_sh_lt {k : Nat} : ∀ {B : List (Nat × Blk)} {i : Nat}, i < k → mm (shB k B) i = none
 | [], i, _ => rfl
 | (j, b) :: r, i, h => by
   simp only [shB, mm, upd]
   have e2 : Nat.beq i (k + j) = false := by
     cases hb : Nat.beq i (k + j) with
     | false => rfl
     | true => have := Nat.eq_of_beq_eq_true hb; omega
   rw [e2]
   exact mm_sh_lt h
def LiOk : Blk → Option LI → Prop
 | .cells _, o => ∃ b, o = some (.blk b)
 | .buf _ sz n _, o => ∃ v, o = some (.sl n sz v) ∧ v.oneCell' = true
 | .bufk _ sz n _ _, o => ∃ v, o = some (.sl n sz v) ∧ v.oneCell' = true
 | .iter _ _ _, o => ∃ b, o = some (.blk b)
 | .map _ _ _ _, o => ∃ b, o = some (.blk b)
 | .dead, o => ∃ n sz, o = some (.sl n sz (.slice none 0 0))
 | .grid _ _ sz _ _ _, o => ∃ v rows, o = some (.grid v sz rows)
theorem ownsRow_one {w : World} {base : Nat} {e : TypeId} {size : Nat} {v : Value} {n : Nat} {xs : List Value} (h : w.ownsRow base e size v n xs) : v.oneCell' = true := by
 rcases h.2 with ⟨rfl, _⟩ | ⟨g, cap, cur, rfl, _⟩ <;> rfl
theorem BlkOk.li {h : Hp} {ρ : Rho} {id : Nat} {x : Blk} {w : World} (H : BlkOk h ρ id x w) : LiOk x (ρ id) := by
 cases x with
 | cells cs => obtain ⟨b, vs, ty, q1, _⟩ := H; exact ⟨_, q1⟩
 | buf ty sz n e => obtain ⟨v, xs, q1, q2, _⟩ := H; exact ⟨_, q1, ownsRow_one q2⟩
 | map z dom e n => obtain ⟨b, es, clock, ks, q1, _⟩ := H; exact ⟨_, q1⟩
 | iter e cur Pl => obtain ⟨b, bm, clock, c0, es, seen, left, q1, _⟩ := H; exact ⟨_, q1⟩
 | bufk ty sz n c e => obtain ⟨v, xs, q1, q2, _⟩ := H; exact ⟨_, q1, ownsRow_one q2⟩
 | dead => obtain ⟨n, sz, q1⟩ := H; exact ⟨_, _, q1⟩
 | grid tS ty sz n m e => obtain ⟨v, rows, q1, _⟩ := H; exact ⟨_, _, q1⟩
def Stays (SA : List AV) (SV : List Value) (ρb : Rho) (k : Nat) (B0 : List (Nat × Blk)) : Prop :=
 ∀ (h' : Hp) (ρ' : Rho), (∀ (i : Nat) (c : AV) (v : Value), SA[i]? = some c → SV[i]? = some v → Rel h' ρ' c v) → (∀ id x, mm B0 id = some x → LiOk x (ρ' id)) → (∀ id, mm B0 id = none → ρ' id = none) →
   ∀ i li li', ρb (k + i) = some li → ρ' i = some li' → li.le li'
theorem mm_keys {B : List (Nat × Blk)} {id : Nat} (h : id ∉ keysB B) : mm B id = none := by
 cases hz : mm B id with
 | none => rfl
 | some z => exact absurd (keysB_mm.2 (by rw [hz]; rfl)) h
def offAll (l : List Nat) : List Nat → Bool
 | [] => true
 | i :: r => match inList l i with
   | true => false
   | false => offAll l r
theorem offAll_spec {l : List Nat} : ∀ {r : List Nat}, offAll l r = true → ∀ i, i ∈ r → i ∉ l
 | [], _, i, h => by cases h
 | j :: r, h, i, hi => by
   simp only [offAll] at h
   split at h
   · cases h
   · rename_i hj
     rcases List.mem_cons.1 hi with rfl | h3
     · intro hm; rw [inList_spec hm] at hj; cases hj
     · exact offAll_spec h i h3
theorem stays_off {SA : List AV} {SV : List Value} {ρb : Rho} {k : Nat} {A B0 : List (Nat × Blk)} (hdom : ∀ id, mm A id = none → ρb id = none) (hd : offAll (keysB A) (keysB (shB k B0)) = true) : Stays SA SV ρb k B0 := by
 intro h' ρ' _ _ h3 i li li' q1 q2
 have hi : i ∈ keysB B0 := by
   refine keysB_mm.2 ?_
   cases hz : mm B0 i with
   | none => rw [h3 i hz] at q2; cases q2
   | some z => rfl
 have hk : k + i ∈ keysB (shB k B0) := by rw [keysB_sh]; exact List.mem_map_of_mem hi
 rw [hdom _ (mm_keys (offAll_spec hd _ hk))] at q1; cases q1
section
variable {P : Program} {N : Nat} {Γ : Tys} {L : List (Nat × AV)} {M : List (Nat × Blk)} {g : Nat}
theorem At.retO (hΓ : TysOk P Γ) {w0 : World} {h0 : Hp} {ρb : Rho} {fn : Func} {v : AV} {B B0 : List (Nat × Blk)} {xs : List AV} (K : List Nat) (k : Nat) (hr : resL Γ (fr L) (mm M) fn.results.toList = some xs) (ho : onlyIds K (resV xs) = true) (hB : filtM K M K = some B0) (hBo : onlyBs K B0 = true) (hBs : AgreeM (shB k B0) B) (hs : Sim ((resV xs).sh k) v)
   (hval : ∀ b o, h0 b = some o → w0.heap[b]? = some o) {SA : List AV} {SV : List Value} (hsa : onlyL K SA = true) (hst : Stays SA SV ρb k B0) : At N (Cq w0 h0 SA SV (ownSet ρb)) L M g (RetOQ P fn h0 w0 ρb v B .ret) := by
 intro h ρ a w I
 obtain ⟨Ds, hd1, hd2, hd3⟩ := I.dfr
 show LeavesInM (Fw none) 1 P fn a.tmps (CtrOPost h0 w0 ρb v B) a.defers .returning w
 rw [hd1]
 refine leaves Ds w hd2 (fun D hD => I.hp _ _ (hd3 D hD).1) (fun w2 e1 e2 e3 e4 e5 => ?_)
 have hnc : ∀ (b : Nat) (o : Obj), w.heap[b]? = some o → (∀ d, o ≠ .deferred d) → w2.heap[b]? = some o := fun b o hb hno => by
   have : b ∉ Ds := fun hb' => by
     have := I.hp _ _ (hd3 b hb').1
     rw [hb] at this; cases this
     exact hno _ rfl
   rw [e5 b this]; exact hb
 obtain ⟨vs, h1, h2⟩ := resL_sound (w2 := w2) hΓ I (fun b o hb ho => hnc b o hb (fun d e => by subst e; simp [Obj.isCells] at ho)) hr
 have hres : (results fn a.tmps).run P w2 = .ok (if h : vs.length = 1 then vs[0] else .tuple vs.toArray) w2 := by
   unfold results
   rw [Array.mapM_eq_mapM_toList]
   rw [map_eq_pure_bind]
   simp only [Sem.run_bind, Sem.run_pure]
   have key : ∀ r : Result (List Value), r = .ok vs w2 → (r.andThen fun a w' => .ok a.toArray w').andThen (fun a w' => Result.ok (if h : a.size = 1 then a[0] else Value.tuple a) w') = .ok (if h : vs.length = 1 then vs[0] else .tuple vs.toArray) w2 := by
     rintro _ rfl
     simp only [Result.andThen_ok, List.size_toArray, List.getElem_toArray]
   exact key _ h1
 refine ⟨_, hres, ?_⟩
 obtain ⟨ρ', hρ, I'⟩ := I.forget (ts := []) (L' := []) rfl hB hsa
 let h' : Hp := fun b => if b ∈ Ds then none else h b
 have hle : Le h h' := by
   intro b o hb _ hno
   show (if b ∈ Ds then none else h b) = some o
   rw [if_neg ?_]
   · exact hb
   · intro hbD
     rw [(hd3 b hbD).1] at hb; cases hb
     exact hno _ rfl
 let ρ2 : Rho := fun j => if k ≤ j then ρ' (j - k) else none
 have hin : ∀ i, ρ2 (k + i) = ρ' i := fun i => by
   show (if k ≤ k + i then ρ' (k + i - k) else none) = ρ' i
   rw [if_pos (Nat.le_add_right _ _), Nat.add_sub_cancel_left]
 have hinv : ∀ j li, ρ2 j = some li → ∃ i, j = k + i ∧ ρ' i = some li := fun j li hj => by
   have : (if k ≤ j then ρ' (j - k) else none) = some li := hj
   split at this
   · exact ⟨j - k, by omega, this⟩
   · cases this
 have hok : ∀ i x, mm B0 i = some x → onlyB K x = true := by
   have key : ∀ {ids : List Nat} {B' : List (Nat × Blk)}, onlyBs ids B' = true → ∀ i x, mm B' i = some x → onlyB ids x = true := by
     intro ids B'
     induction B' with
     | nil => intro _ i x hx; cases hx
     | cons y r ih =>
       obtain ⟨j, b⟩ := y
       intro ho i x hx
       unfold onlyBs at ho
       split at ho
       · rename_i hb
         simp only [mm, upd] at hx
         split at hx
         · cases hx; exact hb
         · exact ih ho i x hx
       · cases ho
   exact key hBo
 have hmem : ∀ i x, mm B0 i = some x → i ∈ K := by
   have key : ∀ {is : List Nat} {M'' : List (Nat × Blk)}, filtM K M is = some M'' → ∀ i b, mm M'' i = some b → i ∈ is := by
     intro is
     induction is with
     | nil => intro M'' h i b hb; simp only [filtM] at h; cases h; cases hb
     | cons s is ih =>
       intro M'' h i b hb
       simp only [filtM] at h
       split at h
       · cases h
       · split at h
         · split at h
           · rename_i r hr
             cases h
             simp only [mm, upd] at hb
             split at hb
             · rename_i hbe; have := Nat.eq_of_beq_eq_true hbe; subst this; exact List.mem_cons_self ..
             · exact List.mem_cons_of_mem _ (ih hr i b hb)
           · cases h
         · cases h
   exact key hB
 refine ⟨h', ρ2, e1.trans I.os, e2.trans I.tape, e3.trans I.out, by rw [e4]; exact I.sz, fun kk hk hb => ?_, fun b o hb => ?_, fun b o hb => ?_, ?_, ⟨fun id y hy => ?_, fun id hid => ?_, fun id li b q1 q2 => ?_, fun id id' li li' b q1 q1' q2 q2' => ?_⟩, fun id li b q1 q2 => ?_, fun id li li' q1 q2 => ?_⟩
 · rw [e5 kk (fun hkD => by have := (hd3 kk hkD).2; exact absurd hk (Nat.not_lt.2 this))]
   exact I.kept kk hk hb
 · show (if b ∈ Ds then none else h b) = some o
   rw [if_neg (fun hbD => absurd (heap_lt (hval b _ hb)) (Nat.not_lt.2 (hd3 b hbD).2))]
   exact I.ext b o hb
 · have hb' : b ∉ Ds ∧ h b = some o := by
     have : (if b ∈ Ds then none else h b) = some o := hb
     split at this
     · cases this
     · exact ⟨by assumption, this⟩
   rcases Nat.lt_or_ge b w0.heap.size with hlt | hge
   · exact .inl (I.old b o hb'.2 hlt)
   · right
     refine ⟨hge, ?_⟩
     rw [e5 b hb'.1]
     exact I.hp b o hb'.2
 · refine hs _ _ _ ?_
   have := ((resV_rel h2).forget hρ ho).heap hle
   exact this.shift (fun id _ => hin id) ho
 · obtain ⟨y0, q1, q2⟩ := (hBs.spec id).2 y hy
   rcases Nat.lt_or_ge id k with hlt | hge
   · rw [mm_sh_lt hlt] at q1; cases q1
   · obtain ⟨i, rfl⟩ : ∃ i, id = k + i := ⟨id - k, by omega⟩
     rw [mm_sh] at q1
     cases hz : mm B0 i with
     | none => simp [hz] at q1
     | some z =>
       simp [hz] at q1
       subst q1
       refine q2 _ _ _ _ ?_
       have hb := (I'.blk i z hz).keep hle rfl (hle_refl _) (w' := w2) (fun li b q3 q4 => e5 b (fun hbD => by
         have := (I'.own i li b q3 q4).1
         rw [(hd3 b hbD).1] at this; cases this))
       exact hb.shift (ids := K) (fun id _ => hin id) (hmem i z hz) (hok i z hz)
 · cases hp : ρ2 id with
   | none => rfl
   | some li =>
     obtain ⟨i, rfl, q1⟩ := hinv id li hp
     have := ((hBs.spec (k + i)).1).1 hid
     rw [mm_sh] at this
     have h3 : mm B0 i = none := by
       cases hz : mm B0 i with
       | none => rfl
       | some z => simp [hz] at this
     rw [I'.dom i h3] at q1; cases q1
 · obtain ⟨i, rfl, q3⟩ := hinv id li q1
   obtain ⟨z1, z2, z3⟩ := I'.own i li b q3 q2
   refine ⟨?_, by rw [e4]; exact z2⟩
   show (if b ∈ Ds then none else h b) = none
   split
   · rfl
   · exact z1
 · obtain ⟨i, rfl, q3⟩ := hinv id li q1
   obtain ⟨i', rfl, q3'⟩ := hinv id' li' q1'
   rw [I'.inj i i' li li' b q3 q3' q2 q2']
 · obtain ⟨i, rfl, q3⟩ := hinv id li q1
   obtain ⟨z1, z2, z3⟩ := I'.own i li b q3 q2
   exact z3.symm
 · obtain ⟨i, rfl, q3⟩ := hinv id li' q2
   exact hst h ρ' I'.sav.2 (fun id x hx => (I'.blk id x hx).li) I'.dom i li li' q1 q3
theorem At.retK (hΓ : TysOk P Γ) {w0 : World} {h0 : Hp} {ρb : Rho} {fn : Func} {v : AV} {A B B0 : List (Nat × Blk)} {xs : List AV} (K : List Nat) (k : Nat) (hr : resL Γ (fr L) (mm M) fn.results.toList = some xs) (ho : onlyIds K (resV xs) = true) (hB : filtM K M K = some B0) (hBo : onlyBs K B0 = true) (hBs : AgreeM (shB k B0) B) (hs : Sim ((resV xs).sh k) v)
   (hval : ∀ b o, h0 b = some o → w0.heap[b]? = some o) (hdom : ∀ id, mm A id = none → ρb id = none) (hd : offAll (keysB A) (keysB (shB k B0)) = true) : At N (Cb w0 h0 ρb) L M g (RetOQ P fn h0 w0 ρb v B .ret) :=
 At.retO hΓ K k hr ho hB hBo hBs hs hval rfl (stays_off hdom hd)
theorem CtrO.of_body {f : FuncId} {fn : Func} {c : Code} {xs : List AV} {v : AV} {A B : List (Nat × Blk)} (hf : P.funcs[f]? = some fn) (hn : (fn.name == "runtime.NumGoroutine") = false) (hb : fn.body = some c) (hN : fn.ntmps = N) (hx : Nat.ble xs.length N = true)
   (H : ∀ w0 h0 ρb, (∀ b o, h0 b = some o → w0.heap[b]? = some o) → (∀ id, mm A id = none → ρb id = none) → W P N none (Cb w0 h0 ρb) c (argL 0 xs) A 0 (RetOQ P fn h0 w0 ρb v B)) : CtrO P f xs A v B := by
 refine ⟨enters_of hf hn hb, fun h w ρ vs hR hp O => ?_⟩
 refine callsIn_w (n := 1) (callsIn_of_wp_marks hf hb trivial ?_)
 refine H w h ρ hp O.dom h ρ _ w ?_
 have hlen : vs.length ≤ N := by rw [hR.1]; exact Nat.le_of_ble_eq_true hx
 refine ⟨fun t => ?_, ⟨rfl, fun i c v h1 => by simp [Cb, Cq] at h1⟩, ?_, hp, O.blk, O.dom, fun id li b q1 q2 => ⟨(O.own id li b q1 q2).1, (O.own id li b q1 q2).2, .inr ⟨id, li, q1, q2⟩⟩, O.inj, rfl, rfl, rfl, Nat.le_refl _, fun _ _ _ => rfl, fun b o hb => hb, fun b o hb _ => hb, ⟨fun _ => True, fun _ _ => trivial, fun _ _ _ => .inr trivial, trivial⟩, ⟨[], rfl, List.nodup_nil, fun D hD => (by cases hD)⟩⟩
 · rcases argL_rel (h := h) (ρ := ρ) 0 hR t with e | ⟨i, u, e1, e2, e3⟩
   · rw [e]; exact .any _ _
   · have e0 : t = i := by omega
     subst e0
     have hi : t < vs.length := (List.getElem?_eq_some_iff.1 e2).1
     have : (vs.toArray ++ Array.replicate (fn.ntmps - vs.toArray.size) undef).getD t undef = u := by
       have e4 : vs[t] = u := by have := List.getElem?_eq_getElem hi; rw [this] at e2; exact Option.some.inj e2
       simp [Array.getElem?_append, hi, e4]
     rw [this]
     exact e3
 · simp [hN]; omega
theorem CtrO.at {f : FuncId} {n ty sz n' : Nat} {e : Nat → List AV} {rest : List AV} {v : AV} {B : List (Nat × Blk)} {id0 : Nat} (H : CtrO P f (.buf id0 n :: rest) [(id0, .buf ty sz n' e)] v B) (hc : clL rest = true) (id : Nat) (hB : inList (keysB B) id = false := by rfl) : CtrO P f (.buf id n :: rest) [(id, .buf ty sz n' e)] v B := by
 refine ⟨H.1, fun h w ρ vs hR hp O => ?_⟩
 let ρ2 : Rho := fun j => if j = id0 then ρ id else none
 have h2 : ρ2 id0 = ρ id := if_pos rfl
 have hinv : ∀ j li, ρ2 j = some li → j = id0 ∧ ρ id = some li := fun j li hj => by
   have : (if j = id0 then ρ id else none) = some li := hj
   split at this
   · exact ⟨by assumption, this⟩
   · cases this
 have hset : ∀ b, ownSet ρ2 b ↔ ownSet ρ b := fun b => by
   constructor
   · rintro ⟨j, li, q1, q2⟩
     exact ⟨id, li, (hinv j li q1).2, q2⟩
   · rintro ⟨j, li, q1, q2⟩
     have hj : j = id := by
       cases hz : mm [(id, Blk.buf ty sz n' e)] j with
       | none => rw [O.dom j hz] at q1; cases q1
       | some z =>
         simp only [mm, upd] at hz
         split at hz
         · rename_i hb; exact Nat.eq_of_beq_eq_true hb
         · cases hz
     subst hj
     exact ⟨id0, li, h2.trans q1, q2⟩
 obtain ⟨x, r, rfl, q1, q2⟩ := hR.inv_cons
 have hR2 : RelL h ρ2 (.buf id0 n :: rest) (x :: r) := by
   refine RelL.cons ?_ (q2.of_cl hc)
   cases q1 with
   | buf _ _ _ n2 sz2 _ v' hb hle h1 he => exact .buf _ _ _ _ _ _ _ (h2.trans hb) hle h1 he
 have hO2 : Ownd h ρ2 [(id0, .buf ty sz n' e)] w := by
   refine ⟨fun j y hj => ?_, fun j hj => ?_, fun j li b q3 q4 => O.own id li b (hinv j li q3).2 q4, fun j j' li li' b q3 q3' _ _ => by rw [(hinv j li q3).1, (hinv j' li' q3').1]⟩
   · simp only [mm, upd] at hj
     split at hj
     · rename_i hb
       have := Nat.eq_of_beq_eq_true hb
       subst this
       cases hj
       obtain ⟨v0, us, k1, k2⟩ := O.blk id (.buf ty sz n' e) (by simp [mm, upd])
       exact ⟨v0, us, h2.trans k1, k2⟩
     · cases hj
   · cases hp2 : ρ2 j with
     | none => rfl
     | some li =>
       obtain ⟨rfl, _⟩ := hinv j li hp2
       simp [mm, upd] at hj
 refine (H.2 h w ρ2 _ hR2 hp hO2).mono (fun en w' he => ?_)
 cases en with
 | panicked ch => exact he.elim
 | outgrown => exact he.elim
 | returned x =>
 obtain ⟨h', ρ', p1, p2, p3, p4, p5, p6, p7, p8, p9, p10, _⟩ := he
 refine ⟨h', ρ', p1, p2, p3, p4, fun kk hk hn => p5 kk hk (fun ho => hn ((hset kk).1 ho)), p6, p7, p8, p9, fun i li b q3 q4 => (p10 i li b q3 q4).imp (fun h => (hset b).1 h) (fun h => h), fun i li li' q3 q4 => ?_⟩
 exfalso
 by_cases hi : i = id
 · subst hi
   have : i ∉ keysB B := fun hm => by rw [inList_spec hm] at hB; cases hB
   rw [p9.dom i (mm_keys this)] at q4; cases q4
 · rw [O.dom i (by simp only [mm]; rw [upd_other _ _ hi])] at q3; cases q3
theorem BSim.bufk {ty sz n c : Nat} {e : Nat → List AV} {y : Blk} (H : BSim (.buf ty sz n e) y) : BSim (.bufk ty sz n c e) y := by
 intro h ρ id w B
 obtain ⟨v, xs, q1, q2, _, q3⟩ := B
 exact H h ρ id w ⟨v, xs, q1, q2, q3⟩
theorem Seg.moved {T : Type} [Inhabited T] {f : T → List AV} {l : List T} (b j : Nat) (hb : b ≤ j) (hj : j ≤ l.length) : Seg f (b + (l.length - j)) (fun q => if q < b then f (l.getD q default) else f (l.getD (j + (q - b)) default)) (l.take b ++ l.drop j) := by
 refine ⟨by simp; omega, fun k hk => ?_⟩
 by_cases h : k < b
 · simp only [h, if_true]
   simp [List.getD_eq_getElem?_getD, List.getElem?_append_left (show k < (l.take b).length by simp; omega), List.getElem?_take, h]
 · simp only [h, if_false]
   have hl : (l.take b).length = b := by simp; omega
   simp only [List.getD_eq_getElem?_getD]
   rw [List.getElem?_append_right (by rw [hl]; omega), hl, List.getElem?_drop]
theorem bufEq {id n m : Nat} (h : n = m) : AV.buf id n = AV.buf id m := h ▸ rfl
end
theorem Ctr.ofO {P : Program} {f : FuncId} {args : List AV} {v : AV} {B : List (Nat × Blk)} (H : CtrO P f args [] v B) : Ctr P f args v B := by
 refine ⟨H.1, fun h w vs hR hp => ?_⟩
 have hno : ∀ b, ¬ ownSet ρ0 b := fun b ⟨id, li, q, _⟩ => by cases q
 refine (H.2 h w ρ0 vs hR hp ⟨fun id x hx => (by cases hx), fun _ _ => rfl, fun id li b q => (by cases q), fun id id' li li' b q => (by cases q)⟩).mono (fun en w' he => ?_)
 cases en with
 | panicked ch => exact he.elim
 | outgrown => exact he.elim
 | returned x =>
 obtain ⟨h', ρ', p1, p2, p3, p4, p5, p6, p7, p8, p9, p10, _⟩ := he
 exact ⟨h', ρ', ⟨p1, p2, p3, p4, fun k hk => p5 k hk (hno k)⟩, p6, p7, p8, ⟨p9.blk, p9.dom, fun id li b q1 q2 => ⟨(p9.own id li b q1 q2).1, (p10 id li b q1 q2).resolve_left (hno b), (p9.own id li b q1 q2).2⟩, p9.inj⟩⟩
section
variable {N : Nat} {C : Ctx} {L : List (Nat × AV)} {M : List (Nat × Blk)} {g : Nat} {R : Act → World → Prop}
end
end Go.Av
end
