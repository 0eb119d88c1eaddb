/- Rules of control. -/
import Derived.Test.YtnaodipmfaglfaaAvQ
import Derived.RangeFuncLeaves
import Derived.RangeFuncRecord
set_option linter.all false
namespace Go.Av
structure Env (P : Program) (Γ : Tys) : Prop where
  ty : TysOk P Γ
  depth : 8 ≤ P.depth
  mixed : P.follows .mixedOrders = true
def At (N : Nat) (C : Ctx) (L : List (Nat × AV)) (M : List (Nat × Blk)) (g : Nat) (R : Act → World → Prop) : Prop := ∀ h ρ a w, InvH N C h ρ (fr L) (mm M) g a w → R a w
def W (P : Program) (N : Nat) (rr : Option Nat) (C : Ctx) (c : Code) (L : List (Nat × AV)) (M : List (Nat × Blk)) (g : Nat) (Q : Exit → Act → World → Prop) : Prop := At N C L M g (fun a w => c.wpIn (Fw rr) 1 P Q a w)
def findL : List (Nat × AV) → Nat → Option AV
  | [], _ => none
  | (d, v) :: r, t => match Nat.beq t d with
    | true => some v
    | false => findL r t
def filtL (ids : List Nat) (L : List (Nat × AV)) : List Nat → Option (List (Nat × AV))
  | [] => some []
  | t :: ts => match findL L t with
    | none => none
    | some v => match onlyIds ids v with
      | true => match filtL ids L ts with
        | some r => some ((t, v) :: r)
        | none => none
      | false => none
def filtM (ids : List Nat) (M : List (Nat × Blk)) : List Nat → Option (List (Nat × Blk))
  | [] => some []
  | i :: is => match mm M i with
    | none => none
    | some b => match onlyB ids b with
      | true => match filtM ids M is with
        | some r => some ((i, b) :: r)
        | none => none
      | false => none
theorem findL_fr : ∀ {L : List (Nat × AV)} {t : Nat} {v : AV}, findL L t = some v → fr L t = v
  | (d, u) :: r, t, v, h => by
    unfold findL at h
    simp only [fr, put]
    split at h
    · rename_i hb; cases h; simp [hb]
    · rename_i hb; simp only [hb]; exact findL_fr h
theorem filtL_spec {ids : List Nat} {L : List (Nat × AV)} : ∀ {ts : List Nat} {L' : List (Nat × AV)}, filtL ids L ts = some L' → ∀ t, fr L' t = .any ∨ (fr L' t = fr L t ∧ onlyIds ids (fr L' t) = true)
  | [], L', h, t => by
    simp only [filtL] at h; cases h; exact .inl rfl
  | s :: ts, L', h, t => by
    simp only [filtL] at h
    split at h
    · cases h
    · rename_i v hv
      split at h
      · rename_i ho
        split at h
        · rename_i r hr
          cases h
          simp only [fr, put]
          split
          · rename_i hb
            have := Nat.eq_of_beq_eq_true hb
            subst this
            exact .inr ⟨(findL_fr hv).symm, ho⟩
          · exact filtL_spec hr t
        · cases h
      · cases h
theorem filtM_spec {ids : List Nat} {M : List (Nat × Blk)} : ∀ {is : List Nat} {M' : List (Nat × Blk)}, filtM ids M is = some M' → (∀ i b, mm M' i = some b → mm M i = some b ∧ onlyB ids b = true) ∧ ∀ i, i ∈ is → (mm M' i).isSome = true
  | [], M', h => by
    simp only [filtM] at h; cases h; exact ⟨fun i b h => (by cases h), fun i h => (by cases h)⟩
  | s :: is, M', h => by
    simp only [filtM] at h
    split at h
    · cases h
    · rename_i b hb
      split at h
      · rename_i ho
        split at h
        · rename_i r hr
          cases h
          obtain ⟨h1, h2⟩ := filtM_spec hr
          refine ⟨fun i b' hi => ?_, fun i hi => ?_⟩
          · simp only [mm, upd] at hi
            split at hi
            · rename_i hbe
              have := Nat.eq_of_beq_eq_true hbe
              subst this
              cases hi; exact ⟨hb, ho⟩
            · exact h1 i b' hi
          · simp only [mm, upd]
            split
            · rfl
            · rename_i hbe
              rcases List.mem_cons.1 hi with rfl | hi
              · simp at hbe
              · exact h2 i hi
        · cases h
      · cases h
section
variable {P : Program} {N : Nat} {Γ : Tys} {C : Ctx} {rr : Option Nat} {L : List (Nat × AV)} {M : List (Nat × Blk)} {g : Nat} {Q : Exit → Act → World → Prop} {R : Act → World → Prop}
theorem InvH.forget {h : Hp} {ρ : Rho} {a : Act} {w : World} (I : InvH N C h ρ (fr L) (mm M) g a w) {ids ts : List Nat} {L' : List (Nat × AV)} {M' : List (Nat × Blk)} (hL : filtL ids L ts = some L') (hM : filtM ids M ids = some M') (hs : onlyL ids C.savA = true) :
    ∃ ρ', (∀ id, id ∈ ids → ρ' id = ρ id) ∧ InvH N C h ρ' (fr L') (mm M') g a w := by
  obtain ⟨hM1, hM2⟩ := filtM_spec hM
  refine ⟨fun id => if id ∈ ids then ρ id else none, fun id hid => by simp [hid], ?_⟩
  have hρ : ∀ id, id ∈ ids → (fun id => if id ∈ ids then ρ id else none) id = ρ id := fun id hid => by simp [hid]
  have hρ' : ∀ id li, (fun id => if id ∈ ids then ρ id else none) id = some li → ρ id = some li := fun id li h1 => by
    simp only at h1
    split at h1
    · exact h1
    · cases h1
  refine { I with slot := fun t => ?_, sav := ⟨I.sav.1, fun i c v h1 h2 => (I.sav.2 i c v h1 h2).forget hρ (onlyL_get hs h1)⟩, blk := fun id x hx => ?_, dom := fun id hid => ?_, own := fun id li b h1 h2 => I.own id li b (hρ' id li h1) h2, inj := fun id id' li li' b h1 h1' h2 h2' => I.inj id id' li li' b (hρ' _ _ h1) (hρ' _ _ h1') h2 h2', gst := ?_ }
  · rcases filtL_spec hL t with e | ⟨e, ho⟩
    · rw [e]; exact .any _ _
    · have := I.slot t
      rw [← e] at this
      exact this.forget hρ ho
  · obtain ⟨h1, ho⟩ := hM1 id x hx
    have hin : id ∈ ids := by
      -- only the kept names are in M'
      have key : ∀ {is : List Nat} {M'' : List (Nat × Blk)}, filtM ids M is = some M'' → ∀ i b, mm M'' i = some b → i ∈ is := by
        intro is
        induction is with
        | nil => intro M'' h i b hb; simp only [filtM] at h; cases h; cases hb
        | cons s is ih =>
          intro M'' h i b hb
          simp only [filtM] at h
          split at h
          · cases h
          · split at h
            · split at h
              · rename_i r hr
                cases h
                simp only [mm, upd] at hb
                split at hb
                · rename_i hbe; have := Nat.eq_of_beq_eq_true hbe; subst this; exact List.mem_cons_self ..
                · exact List.mem_cons_of_mem _ (ih hr i b hb)
              · cases h
            · cases h
      exact key hM id x hx
    have H := I.blk id x h1
    cases x with
    | cells cs =>
      obtain ⟨b, vs, ty, q1, q2, q3, q4⟩ := H
      exact ⟨b, vs, ty, (hρ id hin).trans q1, q2, q3, fun i c v hc hv => (q4 i c v hc hv).forget hρ (onlyL_get (by simpa [onlyB] using ho) hc)⟩
    | buf ty sz n e =>
      obtain ⟨v, xs, q1, q2⟩ := H
      exact ⟨v, xs, (hρ id hin).trans q1, q2⟩
    | map z dom e n =>
      obtain ⟨b, es, clock, ks, q1, q2⟩ := H
      exact ⟨b, es, clock, ks, (hρ id hin).trans q1, q2⟩
    | bufk ty sz n c e =>
      obtain ⟨v, xs, q1, q2⟩ := H
      exact ⟨v, xs, (hρ id hin).trans q1, q2⟩
    | dead =>
      obtain ⟨n, sz, q1⟩ := H
      exact ⟨n, sz, (hρ id hin).trans q1⟩
    | grid tS ty sz n m e =>
      obtain ⟨v, rows, q1, q2⟩ := H
      exact ⟨v, rows, (hρ id hin).trans q1, q2⟩
  · by_cases hin : id ∈ ids
    · have := hM2 id hin
      rw [hid] at this; cases this
    · simp [hin]
  · obtain ⟨X, x1, x2, x3⟩ := I.gst
    exact ⟨X, fun b ⟨id, li, h1, h2⟩ => x1 b ⟨id, li, hρ' id li h1, h2⟩, x2, x3⟩
theorem At.keep {ids ts : List Nat} {L' : List (Nat × AV)} {M' : List (Nat × Blk)} (hL : filtL ids L ts = some L') (hM : filtM ids M ids = some M') (K : At N C L' M' g R) (hs : onlyL ids C.savA = true := by rfl) : At N C L M g R := by
  intro h ρ a w I
  obtain ⟨ρ', _, I'⟩ := I.forget hL hM hs
  exact K h ρ' a w I'
def Sim (x y : AV) : Prop := ∀ h ρ v, Rel h ρ x v → Rel h ρ y v
theorem Sim.refl (x : AV) : Sim x x := fun _ _ _ h => h
theorem Sim.of_eq {x y : AV} (h : x = y) : Sim x y := h ▸ Sim.refl x
theorem Sim.any (x : AV) : Sim x .any := fun _ _ _ _ => .any _ _
inductive Agree (F : Fr) : List (Nat × AV) → Prop
  | nil : Agree F []
  | cons {t : Nat} {v : AV} {r : List (Nat × AV)} : Sim (F t) v → Agree F r → Agree F ((t, v) :: r)
theorem Agree.spec {F : Fr} {L' : List (Nat × AV)} (H : Agree F L') : ∀ t, Sim (F t) (fr L' t) := by
  induction H with
  | nil => exact fun t => .any _
  | cons h _ ih =>
    intro t
    simp only [fr, put]
    split
    · rename_i hb; have := Nat.eq_of_beq_eq_true hb; subst this; exact h
    · exact ih t
theorem BSim.buf {ty sz n n' : Nat} {e e' : Nat → List AV} (hn : n = n') (he : ∀ i, i < n → e i = e' i) : BSim (.buf ty sz n e) (.buf ty sz n' e') := by
  subst hn
  intro h ρ id w H
  obtain ⟨v, xs, q1, q2, q3, q4, q5⟩ := H
  exact ⟨v, xs, q1, q2, fun i hi => he i hi ▸ q3 i hi, q4, fun i j c x hi hc hx => q5 i j c x hi (by rw [he i hi]; exact hc) hx⟩
theorem BSim.map {z : Value} {dom dom' : Int → Bool} {e e' : Int → AV} {n n' : Nat} (h1 : ∀ k, dom k = dom' k) (h2 : ∀ k, e k = e' k) (h3 : n = n') : BSim (.map z dom e n) (.map z dom' e' n') := by
  obtain rfl : dom = dom' := funext h1
  obtain rfl : e = e' := funext h2
  subst h3
  exact .refl _
theorem Sim.ro {sz n n' : Nat} {e e' : Nat → List AV} (hn : n = n') (he : ∀ i, i < n → e i = e' i) : Sim (.ro sz n e) (.ro sz n' e') := by
  subst hn
  intro h ρ v H
  cases H with
  | ro _ _ _ _ a cap hnil hcap hsz hs h1 hc => exact .ro _ _ _ _ _ _ hnil hcap (fun i hi => he i hi ▸ hsz i hi) hs h1 (fun i j c v hi hc' hv => hc i j c v hi (by rw [he i hi]; exact hc') hv)
theorem Sim.agg {xs ys : List AV} (hl : xs.length = ys.length) (hs : ∀ (i : Nat) (x y : AV), xs[i]? = some x → ys[i]? = some y → Sim x y) : Sim (.agg xs) (.agg ys) := by
  intro h ρ v H
  cases H with
  | agg _ _ vs hl' hc =>
    refine .agg _ _ _ (by rw [hl', hl]) fun i c v h1 h2 => ?_
    have hi : i < xs.length := by rw [hl]; exact (List.getElem?_eq_some_iff.1 h1).1
    exact hs i xs[i] c (List.getElem?_eq_getElem hi) h1 h ρ v (hc i xs[i] v (List.getElem?_eq_getElem hi) h2)
inductive AgreeM : List (Nat × Blk) → List (Nat × Blk) → Prop
  | nil : AgreeM [] []
  | cons {i : Nat} {x y : Blk} {r s : List (Nat × Blk)} : BSim x y → AgreeM r s → AgreeM ((i, x) :: r) ((i, y) :: s)
theorem AgreeM.refl : ∀ M, AgreeM M M
  | [] => .nil
  | (_, _) :: r => .cons (.refl _) (AgreeM.refl r)
theorem AgreeM.spec {M M' : List (Nat × Blk)} (H : AgreeM M M') : ∀ i, (mm M' i = none ↔ mm M i = none) ∧ ∀ y, mm M' i = some y → ∃ x, mm M i = some x ∧ BSim x y := by
  induction H with
  | nil => exact fun i => ⟨Iff.rfl, fun y h => by cases h⟩
  | cons h _ ih =>
    rename_i j x y r s hr
    intro i
    simp only [mm, upd]
    split
    · exact ⟨by simp, fun y' e => by cases e; exact ⟨_, rfl, h⟩⟩
    · exact ih i
theorem At.conv {L' : List (Nat × AV)} {M' : List (Nat × Blk)} (hL : Agree (fr L) L') (hM : AgreeM M M') (K : At N C L' M' g R) : At N C L M g R := by
  intro h ρ a w I
  refine K h ρ a w { I with slot := fun t => hL.spec t h ρ _ (I.slot t), blk := fun id y hy => ?_, dom := fun id hid => I.dom id (((hM.spec id).1).1 hid) }
  obtain ⟨x, h1, h2⟩ := (hM.spec id).2 y hy
  exact h2 h ρ id w (I.blk id x h1)
def dstOk (N : Nat) : List Oper → Bool
  | [] => true
  | o :: r => match o.dst with
    | none => dstOk N r
    | some d => match Nat.blt d N with
      | true => dstOk N r
      | false => false
theorem dstOk_spec {N : Nat} {l : List Oper} : dstOk N l = true → ∀ o, o ∈ l → ∀ d, o.dst = some d → d < N := by
  induction l with
  | nil => intro _ o ho; cases ho
  | cons x l ih =>
    intro h o ho d hd
    unfold dstOk at h
    cases hx : x.dst with
    | none =>
      simp only [hx] at h
      rcases List.mem_cons.1 ho with rfl | ho
      · rw [hx] at hd; cases hd
      · exact ih h o ho d hd
    | some e =>
      simp only [hx] at h
      cases hb : Nat.blt e N with
      | false => simp [hb] at h
      | true =>
        simp only [hb] at h
        rcases List.mem_cons.1 ho with rfl | ho
        · rw [hx] at hd; cases hd; exact Nat.le_of_ble_eq_true hb
        · exact ih h o ho d hd
def drawOk (draw : Bool) (ops : Array Oper) (ft : List (List Nat × List Nat)) : Bool := match draw with
  | true => orderOk ops ft
  | false => true
theorem W.region (E : Env P Γ) {id : Nat} {ops : Array Oper} {draw : Bool} (own : List Nat) (rvs : List RV) {A : Acc} (hr : runR Γ own ops.toList ops.toList rvs L M = some A) (hd : dstOk N ops.toList = true) (ho : drawOk draw ops A.ft = true) (hcs : AllP A.cs)
    (hrq : RqOk P A.rq) (K : At N C A.L A.M g (Q .normal)) : W P N rr C (.region id ops draw) L M g Q := by
  intro h ρ a w I
  obtain ⟨rs, T, hft⟩ := runR_trace (N := N) E.ty E.depth ops.toList rvs L M hr hcs.mem hrq
  cases draw with
  | false =>
    refine wpIn_region ?_
    have := T.lex (ops := ops) (rr := rr) (n := 1) (Q := Q) K 0 h ρ a w I (dstOk_spec hd) (fun j => .inl (by simp))
    rw [List.range_eq_range']
    simpa using this
  | true =>
    refine wpIn_region_any E.mixed ?_
    have hcl : Closed ops (fun i => (Array.replicate ops.size false).getD i false) := by
      intro j o _ hj
      exfalso
      by_cases h : j < ops.size <;> simp [h] at hj
    have hfal : (fun i => (Array.replicate ops.size false).getD i false) = fun _ => false := by
      funext i
      by_cases h : i < ops.size <;> simp [h]
    have e1 : ∀ (l : List (Option Nat × AV)) (G : Fr) (k : Nat), stF G l (fun _ => false) k = G := by
      intro l
      induction l with
      | nil => intros; rfl
      | cons x l ih => intro G k; obtain ⟨e, u⟩ := x; unfold stF; simp [ih]
    have e2 : ∀ (l : List (List (Nat × Blk))) (G : Mm) (k : Nat), stM G l (fun _ => false) k = G := by
      intro l
      induction l with
      | nil => intros; rfl
      | cons x l ih => intro G k; unfold stM; simp [ih]
    have e3 : ∀ n, cnt (fun _ => false) n = n := by
      intro n
      induction n with
      | zero => rfl
      | succ n ih => simp [cnt, ih]
    refine any_order T (by rw [← hft]; exact ho) (dstOk_spec hd) K ops.size _ h ρ a _ (by simp) (by rw [hfal, e3]) hcl ?_
    rw [hfal, e1, e2]
    exact I.drew
theorem W.seq {x y : Code} (H : W P N rr C x L M g (Exit.then (fun a w => y.wpIn (Fw rr) 1 P Q a w) Q)) : W P N rr C (.seq x y) L M g Q :=
  fun h ρ a w I => wpIn_seq (H h ρ a w I)
theorem W.skip (K : At N C L M g (Q .normal)) : W P N rr C .skip L M g Q := fun h ρ a w I => wpIn_skip (K h ρ a w I)
theorem W.exit {id : Nat} (K : At N C L M g (Q (.exit id))) : W P N rr C (.exit id) L M g Q := fun h ρ a w I => wpIn_exit (K h ρ a w I)
theorem W.ret (K : At N C L M g (Q .ret)) : W P N rr C .ret L M g Q := fun h ρ a w I => wpIn_ret (K h ρ a w I)
theorem W.block {id : Nat} {c : Code} (H : W P N rr C c L M g (Exit.inBlock id Q)) : W P N rr C (.block id c) L M g Q := fun h ρ a w I => wpIn_block (H h ρ a w I)
theorem W.cond {op : Operand} {x y : Code} {b : Bool} (hb : evO (fr L) op = .bool b) (ht : b = true → W P N rr C x L M g Q) (hf : b = false → W P N rr C y L M g Q) : W P N rr C (.cond op x y) L M g Q := by
  intro h ρ a w I
  have hr : Rel h ρ (.bool b) (a.eval op) := by
    rw [← hb]
    cases op with
    | tmp t => exact I.slot t
    | const v => exact Rel.ofVal h ρ v
    | func f => exact .fn _ _ _ _ [] [] rfl rfl (fun i c v hc => by simp at hc) (fun i c v hc => by simp at hc)
    | global g => exact .any _ _
  have he : a.eval op = .bool b := by generalize a.eval op = z at hr; cases hr; rfl
  exact wpIn_cond_split he (fun h1 => ht h1 h ρ a w I) (fun h1 => hf h1 h ρ a w I)
theorem exists_least {p : Nat → Prop} (h : ∃ n, p n) : ∃ n, p n ∧ ∀ m, p m → n ≤ m := by
  obtain ⟨n, hn⟩ := h
  induction n using Nat.strongRecOn with
  | _ n ih =>
    by_cases hx : ∃ m, m < n ∧ p m
    · obtain ⟨m, hm, hp⟩ := hx
      exact ih m hm hp
    · exact ⟨n, hn, fun m hm => by
        rcases Nat.lt_or_ge m n with h | h
        · exact absurd ⟨m, h, hm⟩ hx
        · exact h⟩
theorem W.loop {S : Type} {c : Code} (J : Nat → S → Prop) (Ls : S → List (Nat × AV)) (Ms : S → List (Nat × Blk)) {n0 : Nat} {s0 : S} (h0 : J n0 s0) (hL : Agree (fr L) (Ls s0)) (hM : AgreeM M (Ms s0))
    (round : ∀ n s, J n s → ∀ K : Act → World → Prop, (∀ n' s', n' < n → J n' s' → At N C (Ls s') (Ms s') g K) → W P N rr C c (Ls s) (Ms s) g (Exit.then K Q)) : W P N rr C (.loop c) L M g Q := by
  refine At.conv hL hM ?_
  intro h ρ a w I
  let J' : Nat → Act → World → Prop := fun n a w => ∃ s h ρ, J n s ∧ InvH N C h ρ (fr (Ls s)) (mm (Ms s)) g a w
  have hex : ∃ n, J' n a w := ⟨n0, s0, h, ρ, h0, I⟩
  classical
  let μ : Act → World → Nat := fun a w => if hh : ∃ n, J' n a w then Classical.choose (exists_least hh) else 0
  have hμ : ∀ a w, (hh : ∃ n, J' n a w) → J' (μ a w) a w ∧ ∀ m, J' m a w → μ a w ≤ m := fun a w hh => by
    have : μ a w = Classical.choose (exists_least hh) := dif_pos hh
    rw [this]
    exact Classical.choose_spec (exists_least hh)
  refine wpIn_loop (fun a w => ∃ n, J' n a w) μ hex ?_
  intro a w ha
  obtain ⟨⟨s, h, ρ, hJ, I⟩, _⟩ := hμ a w ha
  refine round _ s hJ _ (fun n' s' hlt hJ' h' ρ' a' w' I' => ?_) h ρ a w I
  have hex' : ∃ n, J' n a' w' := ⟨n', s', h', ρ', hJ', I'⟩
  exact ⟨hex', Nat.lt_of_le_of_lt ((hμ a' w' hex').2 n' ⟨s', h', ρ', hJ', I'⟩) hlt⟩
end
end Go.Av
