/- Functions that blocks are handed over to. -/
import Derived.Test.YtnaodipmfaglfaaAvZ
set_option linter.all false
namespace Go.Av
open Go.Sp
abbrev Cb (w0 : World) (h0 : Hp) (ρb : Rho) : Ctx := Cq w0 h0 [] [] (ownSet ρb)
def RetOQ (P : Program) (fn : Func) (h0 : Hp) (w0 : World) (ρb : Rho) (v : AV) (B : List (Nat × Blk)) : Exit → Act → World → Prop := bodyPostM (Fw none) 1 P fn (CtrOPost h0 w0 ρb v B)
theorem mm_sh {k : Nat} : ∀ {B : List (Nat × Blk)} {i : Nat}, mm (shB k B) (k + i) = (mm B i).map (·.sh k)
  | [], i => rfl
  | (j, b) :: r, i => by
    simp only [shB, mm, upd]
    by_cases h : i = j
    · subst h; simp
    · have e1 : Nat.beq i j = false := by
        cases hb : Nat.beq i j with
        | false => rfl
        | true => exact absurd (Nat.eq_of_beq_eq_true hb) h
      have e2 : Nat.beq (k + i) (k + j) = false := by
        cases hb : Nat.beq (k + i) (k + j) with
        | false => rfl
        | true => have := Nat.eq_of_beq_eq_true hb; omega
      rw [e1, e2]
      exact mm_sh
theorem mm_sh_lt {k : Nat} : ∀ {B : List (Nat × Blk)} {i : Nat}, i < k → mm (shB k B) i = none
  | [], i, _ => rfl
  | (j, b) :: r, i, h => by
    simp only [shB, mm, upd]
    have e2 : Nat.beq i (k + j) = false := by
      cases hb : Nat.beq i (k + j) with
      | false => rfl
      | true => have := Nat.eq_of_beq_eq_true hb; omega
    rw [e2]
    exact mm_sh_lt h
def LiOk : Blk → Option LI → Prop
  | .cells _, o => ∃ b, o = some (.blk b)
  | .buf _ sz n _, o => ∃ v, o = some (.sl n sz v) ∧ v.oneCell' = true
  | .bufk _ sz n _ _, o => ∃ v, o = some (.sl n sz v) ∧ v.oneCell' = true
  | .map _ _ _ _, o => ∃ b, o = some (.blk b)
  | .dead, o => ∃ n sz, o = some (.sl n sz (.slice none 0 0))
  | .grid _ _ sz _ _ _, o => ∃ v rows, o = some (.grid v sz rows)
theorem ownsRow_one {w : World} {base : Nat} {e : TypeId} {size : Nat} {v : Value} {n : Nat} {xs : List Value} (h : w.ownsRow base e size v n xs) : v.oneCell' = true := by
  rcases h.2 with ⟨rfl, _⟩ | ⟨g, cap, cur, rfl, _⟩ <;> rfl
theorem BlkOk.li {h : Hp} {ρ : Rho} {id : Nat} {x : Blk} {w : World} (H : BlkOk h ρ id x w) : LiOk x (ρ id) := by
  cases x with
  | cells cs => obtain ⟨b, vs, ty, q1, _⟩ := H; exact ⟨_, q1⟩
  | buf ty sz n e => obtain ⟨v, xs, q1, q2, _⟩ := H; exact ⟨_, q1, ownsRow_one q2⟩
  | map z dom e n => obtain ⟨b, es, clock, ks, q1, _⟩ := H; exact ⟨_, q1⟩
  | bufk ty sz n c e => obtain ⟨v, xs, q1, q2, _⟩ := H; exact ⟨_, q1, ownsRow_one q2⟩
  | dead => obtain ⟨n, sz, q1⟩ := H; exact ⟨_, _, q1⟩
  | grid tS ty sz n m e => obtain ⟨v, rows, q1, _⟩ := H; exact ⟨_, _, q1⟩
def Stays (SA : List AV) (SV : List Value) (ρb : Rho) (k : Nat) (B0 : List (Nat × Blk)) : Prop :=
  ∀ (h' : Hp) (ρ' : Rho), (∀ (i : Nat) (c : AV) (v : Value), SA[i]? = some c → SV[i]? = some v → Rel h' ρ' c v) → (∀ id x, mm B0 id = some x → LiOk x (ρ' id)) → (∀ id, mm B0 id = none → ρ' id = none) →
    ∀ i li li', ρb (k + i) = some li → ρ' i = some li' → li.le li'
theorem mm_keys {B : List (Nat × Blk)} {id : Nat} (h : id ∉ keysB B) : mm B id = none := by
  cases hz : mm B id with
  | none => rfl
  | some z => exact absurd (keysB_mm.2 (by rw [hz]; rfl)) h
def offAll (l : List Nat) : List Nat → Bool
  | [] => true
  | i :: r => match inList l i with
    | true => false
    | false => offAll l r
theorem offAll_spec {l : List Nat} : ∀ {r : List Nat}, offAll l r = true → ∀ i, i ∈ r → i ∉ l
  | [], _, i, h => by cases h
  | j :: r, h, i, hi => by
    simp only [offAll] at h
    split at h
    · cases h
    · rename_i hj
      rcases List.mem_cons.1 hi with rfl | h3
      · intro hm; rw [inList_spec hm] at hj; cases hj
      · exact offAll_spec h i h3
theorem stays_off {SA : List AV} {SV : List Value} {ρb : Rho} {k : Nat} {A B0 : List (Nat × Blk)} (hdom : ∀ id, mm A id = none → ρb id = none) (hd : offAll (keysB A) (keysB (shB k B0)) = true) : Stays SA SV ρb k B0 := by
  intro h' ρ' _ _ h3 i li li' q1 q2
  have hi : i ∈ keysB B0 := by
    refine keysB_mm.2 ?_
    cases hz : mm B0 i with
    | none => rw [h3 i hz] at q2; cases q2
    | some z => rfl
  have hk : k + i ∈ keysB (shB k B0) := by rw [keysB_sh]; exact List.mem_map_of_mem hi
  rw [hdom _ (mm_keys (offAll_spec hd _ hk))] at q1; cases q1
section
variable {P : Program} {N : Nat} {Γ : Tys} {L : List (Nat × AV)} {M : List (Nat × Blk)} {g : Nat}
theorem At.retO (hΓ : TysOk P Γ) {w0 : World} {h0 : Hp} {ρb : Rho} {fn : Func} {v : AV} {B B0 : List (Nat × Blk)} {xs : List AV} (K : List Nat) (k : Nat) (hr : resL Γ (fr L) (mm M) fn.results.toList = some xs) (ho : onlyIds K (resV xs) = true) (hB : filtM K M K = some B0) (hBo : onlyBs K B0 = true) (hBs : AgreeM (shB k B0) B) (hs : Sim ((resV xs).sh k) v)
    (hval : ∀ b o, h0 b = some o → w0.heap[b]? = some o) {SA : List AV} {SV : List Value} (hsa : onlyL K SA = true) (hst : Stays SA SV ρb k B0) : At N (Cq w0 h0 SA SV (ownSet ρb)) L M g (RetOQ P fn h0 w0 ρb v B .ret) := by
  intro h ρ a w I
  obtain ⟨Ds, hd1, hd2, hd3⟩ := I.dfr
  show LeavesInM (Fw none) 1 P fn a.tmps (CtrOPost h0 w0 ρb v B) a.defers .returning w
  rw [hd1]
  refine leaves Ds w hd2 (fun D hD => I.hp _ _ (hd3 D hD).1) (fun w2 e1 e2 e3 e4 e5 => ?_)
  have hnc : ∀ (b : Nat) (o : Obj), w.heap[b]? = some o → (∀ d, o ≠ .deferred d) → w2.heap[b]? = some o := fun b o hb hno => by
    have : b ∉ Ds := fun hb' => by
      have := I.hp _ _ (hd3 b hb').1
      rw [hb] at this; cases this
      exact hno _ rfl
    rw [e5 b this]; exact hb
  obtain ⟨vs, h1, h2⟩ := resL_sound (w2 := w2) hΓ I (fun b o hb ho => hnc b o hb (fun d e => by subst e; simp [Obj.isCells] at ho)) hr
  have hres : (results fn a.tmps).run P w2 = .ok (if h : vs.length = 1 then vs[0] else .tuple vs.toArray) w2 := by
    unfold results
    rw [Array.mapM_eq_mapM_toList]
    rw [map_eq_pure_bind]
    simp only [Sem.run_bind, Sem.run_pure]
    have key : ∀ r : Result (List Value), r = .ok vs w2 → (r.andThen fun a w' => .ok a.toArray w').andThen (fun a w' => Result.ok (if h : a.size = 1 then a[0] else Value.tuple a) w') = .ok (if h : vs.length = 1 then vs[0] else .tuple vs.toArray) w2 := by
      rintro _ rfl
      simp only [Result.andThen_ok, List.size_toArray, List.getElem_toArray]
    exact key _ h1
  refine ⟨_, hres, ?_⟩
  obtain ⟨ρ', hρ, I'⟩ := I.forget (ts := []) (L' := []) rfl hB hsa
  let h' : Hp := fun b => if b ∈ Ds then none else h b
  have hle : Le h h' := by
    intro b o hb _ hno
    show (if b ∈ Ds then none else h b) = some o
    rw [if_neg ?_]
    · exact hb
    · intro hbD
      rw [(hd3 b hbD).1] at hb; cases hb
      exact hno _ rfl
  let ρ2 : Rho := fun j => if k ≤ j then ρ' (j - k) else none
  have hin : ∀ i, ρ2 (k + i) = ρ' i := fun i => by
    show (if k ≤ k + i then ρ' (k + i - k) else none) = ρ' i
    rw [if_pos (Nat.le_add_right _ _), Nat.add_sub_cancel_left]
  have hinv : ∀ j li, ρ2 j = some li → ∃ i, j = k + i ∧ ρ' i = some li := fun j li hj => by
    have : (if k ≤ j then ρ' (j - k) else none) = some li := hj
    split at this
    · exact ⟨j - k, by omega, this⟩
    · cases this
  have hok : ∀ i x, mm B0 i = some x → onlyB K x = true := by
    have key : ∀ {ids : List Nat} {B' : List (Nat × Blk)}, onlyBs ids B' = true → ∀ i x, mm B' i = some x → onlyB ids x = true := by
      intro ids B'
      induction B' with
      | nil => intro _ i x hx; cases hx
      | cons y r ih =>
        obtain ⟨j, b⟩ := y
        intro ho i x hx
        unfold onlyBs at ho
        split at ho
        · rename_i hb
          simp only [mm, upd] at hx
          split at hx
          · cases hx; exact hb
          · exact ih ho i x hx
        · cases ho
    exact key hBo
  have hmem : ∀ i x, mm B0 i = some x → i ∈ K := by
    have key : ∀ {is : List Nat} {M'' : List (Nat × Blk)}, filtM K M is = some M'' → ∀ i b, mm M'' i = some b → i ∈ is := by
      intro is
      induction is with
      | nil => intro M'' h i b hb; simp only [filtM] at h; cases h; cases hb
      | cons s is ih =>
        intro M'' h i b hb
        simp only [filtM] at h
        split at h
        · cases h
        · split at h
          · split at h
            · rename_i r hr
              cases h
              simp only [mm, upd] at hb
              split at hb
              · rename_i hbe; have := Nat.eq_of_beq_eq_true hbe; subst this; exact List.mem_cons_self ..
              · exact List.mem_cons_of_mem _ (ih hr i b hb)
            · cases h
          · cases h
    exact key hB
  refine ⟨h', ρ2, e1.trans I.os, e2.trans I.tape, e3.trans I.out, by rw [e4]; exact I.sz, fun kk hk hb => ?_, fun b o hb => ?_, fun b o hb => ?_, ?_, ⟨fun id y hy => ?_, fun id hid => ?_, fun id li b q1 q2 => ?_, fun id id' li li' b q1 q1' q2 q2' => ?_⟩, fun id li b q1 q2 => ?_, fun id li li' q1 q2 => ?_⟩
  · rw [e5 kk (fun hkD => by have := (hd3 kk hkD).2; exact absurd hk (Nat.not_lt.2 this))]
    exact I.kept kk hk hb
  · show (if b ∈ Ds then none else h b) = some o
    rw [if_neg (fun hbD => absurd (heap_lt (hval b _ hb)) (Nat.not_lt.2 (hd3 b hbD).2))]
    exact I.ext b o hb
  · have hb' : b ∉ Ds ∧ h b = some o := by
      have : (if b ∈ Ds then none else h b) = some o := hb
      split at this
      · cases this
      · exact ⟨by assumption, this⟩
    rcases Nat.lt_or_ge b w0.heap.size with hlt | hge
    · exact .inl (I.old b o hb'.2 hlt)
    · right
      refine ⟨hge, ?_⟩
      rw [e5 b hb'.1]
      exact I.hp b o hb'.2
  · refine hs _ _ _ ?_
    have := ((resV_rel h2).forget hρ ho).heap hle
    exact this.shift (fun id _ => hin id) ho
  · obtain ⟨y0, q1, q2⟩ := (hBs.spec id).2 y hy
    rcases Nat.lt_or_ge id k with hlt | hge
    · rw [mm_sh_lt hlt] at q1; cases q1
    · obtain ⟨i, rfl⟩ : ∃ i, id = k + i := ⟨id - k, by omega⟩
      rw [mm_sh] at q1
      cases hz : mm B0 i with
      | none => simp [hz] at q1
      | some z =>
        simp [hz] at q1
        subst q1
        refine q2 _ _ _ _ ?_
        have hb := (I'.blk i z hz).keep hle rfl (hle_refl _) (w' := w2) (fun li b q3 q4 => e5 b (fun hbD => by
          have := (I'.own i li b q3 q4).1
          rw [(hd3 b hbD).1] at this; cases this))
        exact hb.shift (ids := K) (fun id _ => hin id) (hmem i z hz) (hok i z hz)
  · cases hp : ρ2 id with
    | none => rfl
    | some li =>
      obtain ⟨i, rfl, q1⟩ := hinv id li hp
      have := ((hBs.spec (k + i)).1).1 hid
      rw [mm_sh] at this
      have h3 : mm B0 i = none := by
        cases hz : mm B0 i with
        | none => rfl
        | some z => simp [hz] at this
      rw [I'.dom i h3] at q1; cases q1
  · obtain ⟨i, rfl, q3⟩ := hinv id li q1
    obtain ⟨z1, z2, z3⟩ := I'.own i li b q3 q2
    refine ⟨?_, by rw [e4]; exact z2⟩
    show (if b ∈ Ds then none else h b) = none
    split
    · rfl
    · exact z1
  · obtain ⟨i, rfl, q3⟩ := hinv id li q1
    obtain ⟨i', rfl, q3'⟩ := hinv id' li' q1'
    rw [I'.inj i i' li li' b q3 q3' q2 q2']
  · obtain ⟨i, rfl, q3⟩ := hinv id li q1
    obtain ⟨z1, z2, z3⟩ := I'.own i li b q3 q2
    exact z3.symm
  · obtain ⟨i, rfl, q3⟩ := hinv id li' q2
    exact hst h ρ' I'.sav.2 (fun id x hx => (I'.blk id x hx).li) I'.dom i li li' q1 q3
theorem At.retK (hΓ : TysOk P Γ) {w0 : World} {h0 : Hp} {ρb : Rho} {fn : Func} {v : AV} {A B B0 : List (Nat × Blk)} {xs : List AV} (K : List Nat) (k : Nat) (hr : resL Γ (fr L) (mm M) fn.results.toList = some xs) (ho : onlyIds K (resV xs) = true) (hB : filtM K M K = some B0) (hBo : onlyBs K B0 = true) (hBs : AgreeM (shB k B0) B) (hs : Sim ((resV xs).sh k) v)
    (hval : ∀ b o, h0 b = some o → w0.heap[b]? = some o) (hdom : ∀ id, mm A id = none → ρb id = none) (hd : offAll (keysB A) (keysB (shB k B0)) = true) : At N (Cb w0 h0 ρb) L M g (RetOQ P fn h0 w0 ρb v B .ret) :=
  At.retO hΓ K k hr ho hB hBo hBs hs hval rfl (stays_off hdom hd)
theorem CtrO.of_body {f : FuncId} {fn : Func} {c : Code} {xs : List AV} {v : AV} {A B : List (Nat × Blk)} (hf : P.funcs[f]? = some fn) (hn : (fn.name == "runtime.NumGoroutine") = false) (hb : fn.body = some c) (hN : fn.ntmps = N) (hx : Nat.ble xs.length N = true)
    (H : ∀ w0 h0 ρb, (∀ b o, h0 b = some o → w0.heap[b]? = some o) → (∀ id, mm A id = none → ρb id = none) → W P N none (Cb w0 h0 ρb) c (argL 0 xs) A 0 (RetOQ P fn h0 w0 ρb v B)) : CtrO P f xs A v B := by
  refine ⟨enters_of hf hn hb, fun h w ρ vs hR hp O => ?_⟩
  refine callsIn_w (n := 1) (callsIn_of_wp_marks hf hb trivial ?_)
  refine H w h ρ hp O.dom h ρ _ w ?_
  have hlen : vs.length ≤ N := by rw [hR.1]; exact Nat.le_of_ble_eq_true hx
  refine ⟨fun t => ?_, ⟨rfl, fun i c v h1 => by simp [Cb, Cq] at h1⟩, ?_, hp, O.blk, O.dom, fun id li b q1 q2 => ⟨(O.own id li b q1 q2).1, (O.own id li b q1 q2).2, .inr ⟨id, li, q1, q2⟩⟩, O.inj, rfl, rfl, rfl, Nat.le_refl _, fun _ _ _ => rfl, fun b o hb => hb, fun b o hb _ => hb, ⟨fun _ => True, fun _ _ => trivial, fun _ _ _ => .inr trivial, trivial⟩, ⟨[], rfl, List.nodup_nil, fun D hD => (by cases hD)⟩⟩
  · rcases argL_rel (h := h) (ρ := ρ) 0 hR t with e | ⟨i, u, e1, e2, e3⟩
    · rw [e]; exact .any _ _
    · have e0 : t = i := by omega
      subst e0
      have hi : t < vs.length := (List.getElem?_eq_some_iff.1 e2).1
      have : (vs.toArray ++ Array.replicate (fn.ntmps - vs.toArray.size) undef).getD t undef = u := by
        have e4 : vs[t] = u := by have := List.getElem?_eq_getElem hi; rw [this] at e2; exact Option.some.inj e2
        simp [Array.getElem?_append, hi, e4]
      rw [this]
      exact e3
  · simp [hN]; omega
theorem CtrO.at {f : FuncId} {n ty sz n' : Nat} {e : Nat → List AV} {rest : List AV} {v : AV} {B : List (Nat × Blk)} {id0 : Nat} (H : CtrO P f (.buf id0 n :: rest) [(id0, .buf ty sz n' e)] v B) (hc : clL rest = true) (id : Nat) (hB : inList (keysB B) id = false := by rfl) : CtrO P f (.buf id n :: rest) [(id, .buf ty sz n' e)] v B := by
  refine ⟨H.1, fun h w ρ vs hR hp O => ?_⟩
  let ρ2 : Rho := fun j => if j = id0 then ρ id else none
  have h2 : ρ2 id0 = ρ id := if_pos rfl
  have hinv : ∀ j li, ρ2 j = some li → j = id0 ∧ ρ id = some li := fun j li hj => by
    have : (if j = id0 then ρ id else none) = some li := hj
    split at this
    · exact ⟨by assumption, this⟩
    · cases this
  have hset : ∀ b, ownSet ρ2 b ↔ ownSet ρ b := fun b => by
    constructor
    · rintro ⟨j, li, q1, q2⟩
      exact ⟨id, li, (hinv j li q1).2, q2⟩
    · rintro ⟨j, li, q1, q2⟩
      have hj : j = id := by
        cases hz : mm [(id, Blk.buf ty sz n' e)] j with
        | none => rw [O.dom j hz] at q1; cases q1
        | some z =>
          simp only [mm, upd] at hz
          split at hz
          · rename_i hb; exact Nat.eq_of_beq_eq_true hb
          · cases hz
      subst hj
      exact ⟨id0, li, h2.trans q1, q2⟩
  obtain ⟨x, r, rfl, q1, q2⟩ := hR.inv_cons
  have hR2 : RelL h ρ2 (.buf id0 n :: rest) (x :: r) := by
    refine RelL.cons ?_ (q2.of_cl hc)
    cases q1 with
    | buf _ _ _ n2 sz2 _ v' hb hle h1 he => exact .buf _ _ _ _ _ _ _ (h2.trans hb) hle h1 he
  have hO2 : Ownd h ρ2 [(id0, .buf ty sz n' e)] w := by
    refine ⟨fun j y hj => ?_, fun j hj => ?_, fun j li b q3 q4 => O.own id li b (hinv j li q3).2 q4, fun j j' li li' b q3 q3' _ _ => by rw [(hinv j li q3).1, (hinv j' li' q3').1]⟩
    · simp only [mm, upd] at hj
      split at hj
      · rename_i hb
        have := Nat.eq_of_beq_eq_true hb
        subst this
        cases hj
        obtain ⟨v0, us, k1, k2⟩ := O.blk id (.buf ty sz n' e) (by simp [mm, upd])
        exact ⟨v0, us, h2.trans k1, k2⟩
      · cases hj
    · cases hp2 : ρ2 j with
      | none => rfl
      | some li =>
        obtain ⟨rfl, _⟩ := hinv j li hp2
        simp [mm, upd] at hj
  refine (H.2 h w ρ2 _ hR2 hp hO2).mono (fun en w' he => ?_)
  cases en with
  | panicked ch => exact he.elim
  | outgrown => exact he.elim
  | returned x =>
  obtain ⟨h', ρ', p1, p2, p3, p4, p5, p6, p7, p8, p9, p10, _⟩ := he
  refine ⟨h', ρ', p1, p2, p3, p4, fun kk hk hn => p5 kk hk (fun ho => hn ((hset kk).1 ho)), p6, p7, p8, p9, fun i li b q3 q4 => (p10 i li b q3 q4).imp (fun h => (hset b).1 h) (fun h => h), fun i li li' q3 q4 => ?_⟩
  exfalso
  by_cases hi : i = id
  · subst hi
    have : i ∉ keysB B := fun hm => by rw [inList_spec hm] at hB; cases hB
    rw [p9.dom i (mm_keys this)] at q4; cases q4
  · rw [O.dom i (by simp only [mm]; rw [upd_other _ _ hi])] at q3; cases q3
theorem BSim.bufk {ty sz n c : Nat} {e : Nat → List AV} {y : Blk} (H : BSim (.buf ty sz n e) y) : BSim (.bufk ty sz n c e) y := by
  intro h ρ id w B
  obtain ⟨v, xs, q1, q2, _, q3⟩ := B
  exact H h ρ id w ⟨v, xs, q1, q2, q3⟩
theorem Seg.moved {T : Type} [Inhabited T] {f : T → List AV} {l : List T} (b j : Nat) (hb : b ≤ j) (hj : j ≤ l.length) : Seg f (b + (l.length - j)) (fun q => if q < b then f (l.getD q default) else f (l.getD (j + (q - b)) default)) (l.take b ++ l.drop j) := by
  refine ⟨by simp; omega, fun k hk => ?_⟩
  by_cases h : k < b
  · simp only [h, if_true]
    simp [List.getD_eq_getElem?_getD, List.getElem?_append_left (show k < (l.take b).length by simp; omega), List.getElem?_take, h]
  · simp only [h, if_false]
    have hl : (l.take b).length = b := by simp; omega
    simp only [List.getD_eq_getElem?_getD]
    rw [List.getElem?_append_right (by rw [hl]; omega), hl, List.getElem?_drop]
theorem bufEq {id n m : Nat} (h : n = m) : AV.buf id n = AV.buf id m := h ▸ rfl
end
def bufkL {T : Type} [Inhabited T] (ty sz c : Nat) (f : T → List AV) (l : List T) : Blk := .bufk ty sz l.length c (fun i => f (l.getD i default))
theorem BSim.kseg {T : Type} [Inhabited T] {ty sz c n : Nat} {f : T → List AV} {e : Nat → List AV} {l : List T} (H : Seg f n e l) : BSim (.bufk ty sz n c e) (bufkL ty sz c f l) := by
  obtain ⟨rfl, he⟩ := H
  intro h ρ id w B
  obtain ⟨v, xs, q1, q2, q3, q4, q5, q6⟩ := B
  exact ⟨v, xs, q1, q2, q3, fun i hi => by have := q4 i hi; rw [he i hi] at this; exact this, q5, fun i j c x hi hc hx => q6 i j c x hi (by rw [he i hi]; exact hc) hx⟩
theorem Ctr.ofO {P : Program} {f : FuncId} {args : List AV} {v : AV} {B : List (Nat × Blk)} (H : CtrO P f args [] v B) : Ctr P f args v B := by
  refine ⟨H.1, fun h w vs hR hp => ?_⟩
  have hno : ∀ b, ¬ ownSet ρ0 b := fun b ⟨id, li, q, _⟩ => by cases q
  refine (H.2 h w ρ0 vs hR hp ⟨fun id x hx => (by cases hx), fun _ _ => rfl, fun id li b q => (by cases q), fun id id' li li' b q => (by cases q)⟩).mono (fun en w' he => ?_)
  cases en with
  | panicked ch => exact he.elim
  | outgrown => exact he.elim
  | returned x =>
  obtain ⟨h', ρ', p1, p2, p3, p4, p5, p6, p7, p8, p9, p10, _⟩ := he
  exact ⟨h', ρ', ⟨p1, p2, p3, p4, fun k hk => p5 k hk (hno k)⟩, p6, p7, p8, ⟨p9.blk, p9.dom, fun id li b q1 q2 => ⟨(p9.own id li b q1 q2).1, (p10 id li b q1 q2).resolve_left (hno b), (p9.own id li b q1 q2).2⟩, p9.inj⟩⟩
theorem Sim.lit2 {T : Type} [Inhabited T] {sz n : Nat} {f : T → List AV} {cs cs' : List AV} (l : List T) (hs : SimL cs cs') (hn : n = l.length) (hc : cs' = l.flatMap f) (hf : ∀ x, (f x).length = sz) : Sim (.ro sz n (elemAt sz cs)) (.ro sz l.length (fun i => f (l.getD i default))) := by
  obtain ⟨hl, hss⟩ := hs.spec
  intro h ρ v H
  refine Sim.lit l hn hc hf h ρ v ?_
  cases H with
  | ro _ _ _ _ a cap hnil hcap hsz hs h1 hcc =>
    refine .ro _ _ _ _ _ _ hnil hcap (fun i hi => ?_) hs h1 (fun i j c v hi hj hv => ?_)
    · have := hsz i hi
      unfold elemAt at this ⊢
      simp only [List.length_take, List.length_drop] at this ⊢
      rw [← hl]; exact this
    · obtain ⟨hj1, hj2⟩ := elemAt_get hj
      have hlt : i * sz + j < cs.length := by rw [hl]; exact (List.getElem?_eq_some_iff.1 hj2).1
      have h3 : (elemAt sz cs i)[j]? = some cs[i * sz + j] := by
        unfold elemAt
        rw [List.getElem?_take, if_pos hj1, List.getElem?_drop]
        exact List.getElem?_eq_getElem hlt
      exact hss _ _ _ (List.getElem?_eq_getElem hlt) hj2 h ρ0 v (hcc i j _ v hi h3 hv)
section
variable {N : Nat} {C : Ctx} {L : List (Nat × AV)} {M : List (Nat × Blk)} {g : Nat} {R : Act → World → Prop}
end
end Go.Av
