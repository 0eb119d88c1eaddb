/- Texts of the framework, or of the plain law, one behind another. -/
import Derived.Test.YtnaodipmfaglfaaFr3
import Derived.Laws.CopyRow
import Derived.Lib.AppendZerosOnto
import Derived.Lib.Overlaps
import Derived.Test.YtnaodipmfaglfaaFr1
import Derived.Shelf.Sort.Plain
import Derived.Shelf.Slices.In.SortNone
import Derived.Sort.OwnSortedInts
import Derived.ProofKit
import Derived.OpenShut
import Derived.ReadAgain
import Derived.ChangeStays
import Derived.SizedLaws
import Derived.Carry
import Derived.Below
import Derived.ChangeSame
/- Functions that blocks are handed over to. -/
section
set_option linter.all false
namespace Go.Av
open Go.Sp
abbrev Cb (w0 : World) (h0 : Hp) (ρb : Rho) : Ctx := Cq w0 h0 [] [] (ownSet ρb)
def RetOQ (P : Program) (fn : Func) (h0 : Hp) (w0 : World) (ρb : Rho) (v : AV) (B : List (Nat × Blk)) : Exit → Act → World → Prop := bodyPostM (Fw none) 1 P fn (CtrOPost h0 w0 ρb v B)
theorem mm_sh {k : Nat} : ∀ {B : List (Nat × Blk)} {i : Nat}, mm (shB k B) (k + i) = (mm B i).map (·.sh k)
 | [], i => rfl
 | (j, b) :: r, i => by
   simp only [shB, mm, upd]
   by_cases h : i = j
   · subst h; simp
   · have e1 : Nat.beq i j = false := by
       cases hb : Nat.beq i j with
       | false => rfl
       | true => exact absurd (Nat.eq_of_beq_eq_true hb) h
     have e2 : Nat.beq (k + i) (k + j) = false := by
       cases hb : Nat.beq (k + i) (k + j) with
       | false => rfl
       | true => have := Nat.eq_of_beq_eq_true hb; omega
     rw [e1, e2]
     exact mm_sh
theorem mm_sh_lt {k : Nat} : ∀ {B : List (Nat × Blk)} {i : Nat}, i < k → mm (shB k B) i = none
 | [], i, _ => rfl
 | (j, b) :: r, i, h => by
   simp only [shB, mm, upd]
   have e2 : Nat.beq i (k + j) = false := by
     cases hb : Nat.beq i (k + j) with
     | false => rfl
     | true => have := Nat.eq_of_beq_eq_true hb; omega
   rw [e2]
   exact mm_sh_lt h
def LiOk : Blk → Option LI → Prop
 | .cells _, o => ∃ b, o = some (.blk b)
 | .buf _ sz n _, o => ∃ v, o = some (.sl n sz v) ∧ v.oneCell' = true
 | .bufk _ sz n _ _, o => ∃ v, o = some (.sl n sz v) ∧ v.oneCell' = true
 | .iter _ _ _, o => ∃ b, o = some (.blk b)
 | .map _ _ _ _, o => ∃ b, o = some (.blk b)
 | .dead, o => ∃ n sz, o = some (.sl n sz (.slice none 0 0))
 | .grid _ _ sz _ _ _, o => ∃ v rows, o = some (.grid v sz rows)
theorem ownsRow_one {w : World} {base : Nat} {e : TypeId} {size : Nat} {v : Value} {n : Nat} {xs : List Value} (h : w.ownsRow base e size v n xs) : v.oneCell' = true := by
 rcases h.2 with ⟨rfl, _⟩ | ⟨g, cap, cur, rfl, _⟩ <;> rfl
theorem BlkOk.li {h : Hp} {ρ : Rho} {id : Nat} {x : Blk} {w : World} (H : BlkOk h ρ id x w) : LiOk x (ρ id) := by
 cases x with
 | cells cs => obtain ⟨b, vs, ty, q1, _⟩ := H; exact ⟨_, q1⟩
 | buf ty sz n e => obtain ⟨v, xs, q1, q2, _⟩ := H; exact ⟨_, q1, ownsRow_one q2⟩
 | map z dom e n => obtain ⟨b, es, clock, ks, q1, _⟩ := H; exact ⟨_, q1⟩
 | iter e cur Pl => obtain ⟨b, bm, clock, c0, es, seen, left, q1, _⟩ := H; exact ⟨_, q1⟩
 | bufk ty sz n c e => obtain ⟨v, xs, q1, q2, _⟩ := H; exact ⟨_, q1, ownsRow_one q2⟩
 | dead => obtain ⟨n, sz, q1⟩ := H; exact ⟨_, _, q1⟩
 | grid tS ty sz n m e => obtain ⟨v, rows, q1, _⟩ := H; exact ⟨_, _, q1⟩
def Stays (SA : List AV) (SV : List Value) (ρb : Rho) (k : Nat) (B0 : List (Nat × Blk)) : Prop :=
 ∀ (h' : Hp) (ρ' : Rho), (∀ (i : Nat) (c : AV) (v : Value), SA[i]? = some c → SV[i]? = some v → Rel h' ρ' c v) → (∀ id x, mm B0 id = some x → LiOk x (ρ' id)) → (∀ id, mm B0 id = none → ρ' id = none) →
   ∀ i li li', ρb (k + i) = some li → ρ' i = some li' → li.le li'
theorem mm_keys {B : List (Nat × Blk)} {id : Nat} (h : id ∉ keysB B) : mm B id = none := by
 cases hz : mm B id with
 | none => rfl
 | some z => exact absurd (keysB_mm.2 (by rw [hz]; rfl)) h
def offAll (l : List Nat) : List Nat → Bool
 | [] => true
 | i :: r => match inList l i with
   | true => false
   | false => offAll l r
theorem offAll_spec {l : List Nat} : ∀ {r : List Nat}, offAll l r = true → ∀ i, i ∈ r → i ∉ l
 | [], _, i, h => by cases h
 | j :: r, h, i, hi => by
   simp only [offAll] at h
   split at h
   · cases h
   · rename_i hj
     rcases List.mem_cons.1 hi with rfl | h3
     · intro hm; rw [inList_spec hm] at hj; cases hj
     · exact offAll_spec h i h3
theorem stays_off {SA : List AV} {SV : List Value} {ρb : Rho} {k : Nat} {A B0 : List (Nat × Blk)} (hdom : ∀ id, mm A id = none → ρb id = none) (hd : offAll (keysB A) (keysB (shB k B0)) = true) : Stays SA SV ρb k B0 := by
 intro h' ρ' _ _ h3 i li li' q1 q2
 have hi : i ∈ keysB B0 := by
   refine keysB_mm.2 ?_
   cases hz : mm B0 i with
   | none => rw [h3 i hz] at q2; cases q2
   | some z => rfl
 have hk : k + i ∈ keysB (shB k B0) := by rw [keysB_sh]; exact List.mem_map_of_mem hi
 rw [hdom _ (mm_keys (offAll_spec hd _ hk))] at q1; cases q1
section
variable {P : Program} {N : Nat} {Γ : Tys} {L : List (Nat × AV)} {M : List (Nat × Blk)} {g : Nat}
theorem At.retO (hΓ : TysOk P Γ) {w0 : World} {h0 : Hp} {ρb : Rho} {fn : Func} {v : AV} {B B0 : List (Nat × Blk)} {xs : List AV} (K : List Nat) (k : Nat) (hr : resL Γ (fr L) (mm M) fn.results.toList = some xs) (ho : onlyIds K (resV xs) = true) (hB : filtM K M K = some B0) (hBo : onlyBs K B0 = true) (hBs : AgreeM (shB k B0) B) (hs : Sim ((resV xs).sh k) v)
   (hval : ∀ b o, h0 b = some o → w0.heap[b]? = some o) {SA : List AV} {SV : List Value} (hsa : onlyL K SA = true) (hst : Stays SA SV ρb k B0) : At N (Cq w0 h0 SA SV (ownSet ρb)) L M g (RetOQ P fn h0 w0 ρb v B .ret) := by
 intro h ρ a w I
 obtain ⟨Ds, hd1, hd2, hd3⟩ := I.dfr
 show LeavesInM (Fw none) 1 P fn a.tmps (CtrOPost h0 w0 ρb v B) a.defers .returning w
 rw [hd1]
 refine leaves Ds w hd2 (fun D hD => I.hp _ _ (hd3 D hD).1) (fun w2 e1 e2 e3 e4 e5 => ?_)
 have hnc : ∀ (b : Nat) (o : Obj), w.heap[b]? = some o → (∀ d, o ≠ .deferred d) → w2.heap[b]? = some o := fun b o hb hno => by
   have : b ∉ Ds := fun hb' => by
     have := I.hp _ _ (hd3 b hb').1
     rw [hb] at this; cases this
     exact hno _ rfl
   rw [e5 b this]; exact hb
 obtain ⟨vs, h1, h2⟩ := resL_sound (w2 := w2) hΓ I (fun b o hb ho => hnc b o hb (fun d e => by subst e; simp [Obj.isCells] at ho)) hr
 have hres : (results fn a.tmps).run P w2 = .ok (if h : vs.length = 1 then vs[0] else .tuple vs.toArray) w2 := by
   unfold results
   rw [Array.mapM_eq_mapM_toList]
   rw [map_eq_pure_bind]
   simp only [Sem.run_bind, Sem.run_pure]
   have key : ∀ r : Result (List Value), r = .ok vs w2 → (r.andThen fun a w' => .ok a.toArray w').andThen (fun a w' => Result.ok (if h : a.size = 1 then a[0] else Value.tuple a) w') = .ok (if h : vs.length = 1 then vs[0] else .tuple vs.toArray) w2 := by
     rintro _ rfl
     simp only [Result.andThen_ok, List.size_toArray, List.getElem_toArray]
   exact key _ h1
 refine ⟨_, hres, ?_⟩
 obtain ⟨ρ', hρ, I'⟩ := I.forget (ts := []) (L' := []) rfl hB hsa
 let h' : Hp := fun b => if b ∈ Ds then none else h b
 have hle : Le h h' := by
   intro b o hb _ hno
   show (if b ∈ Ds then none else h b) = some o
   rw [if_neg ?_]
   · exact hb
   · intro hbD
     rw [(hd3 b hbD).1] at hb; cases hb
     exact hno _ rfl
 let ρ2 : Rho := fun j => if k ≤ j then ρ' (j - k) else none
 have hin : ∀ i, ρ2 (k + i) = ρ' i := fun i => by
   show (if k ≤ k + i then ρ' (k + i - k) else none) = ρ' i
   rw [if_pos (Nat.le_add_right _ _), Nat.add_sub_cancel_left]
 have hinv : ∀ j li, ρ2 j = some li → ∃ i, j = k + i ∧ ρ' i = some li := fun j li hj => by
   have : (if k ≤ j then ρ' (j - k) else none) = some li := hj
   split at this
   · exact ⟨j - k, by omega, this⟩
   · cases this
 have hok : ∀ i x, mm B0 i = some x → onlyB K x = true := by
   have key : ∀ {ids : List Nat} {B' : List (Nat × Blk)}, onlyBs ids B' = true → ∀ i x, mm B' i = some x → onlyB ids x = true := by
     intro ids B'
     induction B' with
     | nil => intro _ i x hx; cases hx
     | cons y r ih =>
       obtain ⟨j, b⟩ := y
       intro ho i x hx
       unfold onlyBs at ho
       split at ho
       · rename_i hb
         simp only [mm, upd] at hx
         split at hx
         · cases hx; exact hb
         · exact ih ho i x hx
       · cases ho
   exact key hBo
 have hmem : ∀ i x, mm B0 i = some x → i ∈ K := by
   have key : ∀ {is : List Nat} {M'' : List (Nat × Blk)}, filtM K M is = some M'' → ∀ i b, mm M'' i = some b → i ∈ is := by
     intro is
     induction is with
     | nil => intro M'' h i b hb; simp only [filtM] at h; cases h; cases hb
     | cons s is ih =>
       intro M'' h i b hb
       simp only [filtM] at h
       split at h
       · cases h
       · split at h
         · split at h
           · rename_i r hr
             cases h
             simp only [mm, upd] at hb
             split at hb
             · rename_i hbe; have := Nat.eq_of_beq_eq_true hbe; subst this; exact List.mem_cons_self ..
             · exact List.mem_cons_of_mem _ (ih hr i b hb)
           · cases h
         · cases h
   exact key hB
 refine ⟨h', ρ2, e1.trans I.os, e2.trans I.tape, e3.trans I.out, by rw [e4]; exact I.sz, fun kk hk hb => ?_, fun b o hb => ?_, fun b o hb => ?_, ?_, ⟨fun id y hy => ?_, fun id hid => ?_, fun id li b q1 q2 => ?_, fun id id' li li' b q1 q1' q2 q2' => ?_⟩, fun id li b q1 q2 => ?_, fun id li li' q1 q2 => ?_⟩
 · rw [e5 kk (fun hkD => by have := (hd3 kk hkD).2; exact absurd hk (Nat.not_lt.2 this))]
   exact I.kept kk hk hb
 · show (if b ∈ Ds then none else h b) = some o
   rw [if_neg (fun hbD => absurd (heap_lt (hval b _ hb)) (Nat.not_lt.2 (hd3 b hbD).2))]
   exact I.ext b o hb
 · have hb' : b ∉ Ds ∧ h b = some o := by
     have : (if b ∈ Ds then none else h b) = some o := hb
     split at this
     · cases this
     · exact ⟨by assumption, this⟩
   rcases Nat.lt_or_ge b w0.heap.size with hlt | hge
   · exact .inl (I.old b o hb'.2 hlt)
   · right
     refine ⟨hge, ?_⟩
     rw [e5 b hb'.1]
     exact I.hp b o hb'.2
 · refine hs _ _ _ ?_
   have := ((resV_rel h2).forget hρ ho).heap hle
   exact this.shift (fun id _ => hin id) ho
 · obtain ⟨y0, q1, q2⟩ := (hBs.spec id).2 y hy
   rcases Nat.lt_or_ge id k with hlt | hge
   · rw [mm_sh_lt hlt] at q1; cases q1
   · obtain ⟨i, rfl⟩ : ∃ i, id = k + i := ⟨id - k, by omega⟩
     rw [mm_sh] at q1
     cases hz : mm B0 i with
     | none => simp [hz] at q1
     | some z =>
       simp [hz] at q1
       subst q1
       refine q2 _ _ _ _ ?_
       have hb := (I'.blk i z hz).keep hle rfl (hle_refl _) (w' := w2) (fun li b q3 q4 => e5 b (fun hbD => by
         have := (I'.own i li b q3 q4).1
         rw [(hd3 b hbD).1] at this; cases this))
       exact hb.shift (ids := K) (fun id _ => hin id) (hmem i z hz) (hok i z hz)
 · cases hp : ρ2 id with
   | none => rfl
   | some li =>
     obtain ⟨i, rfl, q1⟩ := hinv id li hp
     have := ((hBs.spec (k + i)).1).1 hid
     rw [mm_sh] at this
     have h3 : mm B0 i = none := by
       cases hz : mm B0 i with
       | none => rfl
       | some z => simp [hz] at this
     rw [I'.dom i h3] at q1; cases q1
 · obtain ⟨i, rfl, q3⟩ := hinv id li q1
   obtain ⟨z1, z2, z3⟩ := I'.own i li b q3 q2
   refine ⟨?_, by rw [e4]; exact z2⟩
   show (if b ∈ Ds then none else h b) = none
   split
   · rfl
   · exact z1
 · obtain ⟨i, rfl, q3⟩ := hinv id li q1
   obtain ⟨i', rfl, q3'⟩ := hinv id' li' q1'
   rw [I'.inj i i' li li' b q3 q3' q2 q2']
 · obtain ⟨i, rfl, q3⟩ := hinv id li q1
   obtain ⟨z1, z2, z3⟩ := I'.own i li b q3 q2
   exact z3.symm
 · obtain ⟨i, rfl, q3⟩ := hinv id li' q2
   exact hst h ρ' I'.sav.2 (fun id x hx => (I'.blk id x hx).li) I'.dom i li li' q1 q3
theorem At.retK (hΓ : TysOk P Γ) {w0 : World} {h0 : Hp} {ρb : Rho} {fn : Func} {v : AV} {A B B0 : List (Nat × Blk)} {xs : List AV} (K : List Nat) (k : Nat) (hr : resL Γ (fr L) (mm M) fn.results.toList = some xs) (ho : onlyIds K (resV xs) = true) (hB : filtM K M K = some B0) (hBo : onlyBs K B0 = true) (hBs : AgreeM (shB k B0) B) (hs : Sim ((resV xs).sh k) v)
   (hval : ∀ b o, h0 b = some o → w0.heap[b]? = some o) (hdom : ∀ id, mm A id = none → ρb id = none) (hd : offAll (keysB A) (keysB (shB k B0)) = true) : At N (Cb w0 h0 ρb) L M g (RetOQ P fn h0 w0 ρb v B .ret) :=
 At.retO hΓ K k hr ho hB hBo hBs hs hval rfl (stays_off hdom hd)
theorem At.oofNormal {w0 : World} {h0 : Hp} {ρb : Rho} {fn : Func} {v : AV} {B : List (Nat × Blk)} {SA : List AV} {SV : List Value} (H : At N (Cq w0 h0 SA SV (ownSet ρb)) L M g (RetOQ P fn h0 w0 ρb v B .ret)) : At N (Cq w0 h0 SA SV (ownSet ρb)) L M g (RetOQ P fn h0 w0 ρb v B .normal) := H
theorem CtrO.of_body {f : FuncId} {fn : Func} {c : Code} {xs : List AV} {v : AV} {A B : List (Nat × Blk)} (hf : P.funcs[f]? = some fn) (hn : (fn.name == "runtime.NumGoroutine") = false) (hb : fn.body = some c) (hN : fn.ntmps = N) (hx : Nat.ble xs.length N = true)
   (H : ∀ w0 h0 ρb, (∀ b o, h0 b = some o → w0.heap[b]? = some o) → (∀ id, mm A id = none → ρb id = none) → W P N none (Cb w0 h0 ρb) c (argL 0 xs) A 0 (RetOQ P fn h0 w0 ρb v B)) : CtrO P f xs A v B := by
 refine ⟨enters_of hf hn hb, fun h w ρ vs hR hp O => ?_⟩
 refine callsIn_w (n := 1) (callsIn_of_wp_marks hf hb trivial ?_)
 refine H w h ρ hp O.dom h ρ _ w ?_
 have hlen : vs.length ≤ N := by rw [hR.1]; exact Nat.le_of_ble_eq_true hx
 refine ⟨fun t => ?_, ⟨rfl, fun i c v h1 => by simp [Cb, Cq] at h1⟩, ?_, hp, O.blk, O.dom, fun id li b q1 q2 => ⟨(O.own id li b q1 q2).1, (O.own id li b q1 q2).2, .inr ⟨id, li, q1, q2⟩⟩, O.inj, rfl, rfl, rfl, Nat.le_refl _, fun _ _ _ => rfl, fun b o hb => hb, fun b o hb _ => hb, ⟨fun _ => True, fun _ _ => trivial, fun _ _ _ => .inr trivial, trivial⟩, ⟨[], rfl, List.nodup_nil, fun D hD => (by cases hD)⟩⟩
 · rcases argL_rel (h := h) (ρ := ρ) 0 hR t with e | ⟨i, u, e1, e2, e3⟩
   · rw [e]; exact .any _ _
   · have e0 : t = i := by omega
     subst e0
     have hi : t < vs.length := (List.getElem?_eq_some_iff.1 e2).1
     have : (vs.toArray ++ Array.replicate (fn.ntmps - vs.toArray.size) undef).getD t undef = u := by
       have e4 : vs[t] = u := by have := List.getElem?_eq_getElem hi; rw [this] at e2; exact Option.some.inj e2
       simp [Array.getElem?_append, hi, e4]
     rw [this]
     exact e3
 · simp [hN]; omega
theorem CtrO.at {f : FuncId} {n ty sz n' : Nat} {e : Nat → List AV} {rest : List AV} {v : AV} {B : List (Nat × Blk)} {id0 : Nat} (H : CtrO P f (.buf id0 n :: rest) [(id0, .buf ty sz n' e)] v B) (hc : clL rest = true) (id : Nat) (hB : inList (keysB B) id = false := by rfl) : CtrO P f (.buf id n :: rest) [(id, .buf ty sz n' e)] v B := by
 refine ⟨H.1, fun h w ρ vs hR hp O => ?_⟩
 let ρ2 : Rho := fun j => if j = id0 then ρ id else none
 have h2 : ρ2 id0 = ρ id := if_pos rfl
 have hinv : ∀ j li, ρ2 j = some li → j = id0 ∧ ρ id = some li := fun j li hj => by
   have : (if j = id0 then ρ id else none) = some li := hj
   split at this
   · exact ⟨by assumption, this⟩
   · cases this
 have hset : ∀ b, ownSet ρ2 b ↔ ownSet ρ b := fun b => by
   constructor
   · rintro ⟨j, li, q1, q2⟩
     exact ⟨id, li, (hinv j li q1).2, q2⟩
   · rintro ⟨j, li, q1, q2⟩
     have hj : j = id := by
       cases hz : mm [(id, Blk.buf ty sz n' e)] j with
       | none => rw [O.dom j hz] at q1; cases q1
       | some z =>
         simp only [mm, upd] at hz
         split at hz
         · rename_i hb; exact Nat.eq_of_beq_eq_true hb
         · cases hz
     subst hj
     exact ⟨id0, li, h2.trans q1, q2⟩
 obtain ⟨x, r, rfl, q1, q2⟩ := hR.inv_cons
 have hR2 : RelL h ρ2 (.buf id0 n :: rest) (x :: r) := by
   refine RelL.cons ?_ (q2.of_cl hc)
   cases q1 with
   | buf _ _ _ n2 sz2 _ v' hb hle h1 he => exact .buf _ _ _ _ _ _ _ (h2.trans hb) hle h1 he
 have hO2 : Ownd h ρ2 [(id0, .buf ty sz n' e)] w := by
   refine ⟨fun j y hj => ?_, fun j hj => ?_, fun j li b q3 q4 => O.own id li b (hinv j li q3).2 q4, fun j j' li li' b q3 q3' _ _ => by rw [(hinv j li q3).1, (hinv j' li' q3').1]⟩
   · simp only [mm, upd] at hj
     split at hj
     · rename_i hb
       have := Nat.eq_of_beq_eq_true hb
       subst this
       cases hj
       obtain ⟨v0, us, k1, k2⟩ := O.blk id (.buf ty sz n' e) (by simp [mm, upd])
       exact ⟨v0, us, h2.trans k1, k2⟩
     · cases hj
   · cases hp2 : ρ2 j with
     | none => rfl
     | some li =>
       obtain ⟨rfl, _⟩ := hinv j li hp2
       simp [mm, upd] at hj
 refine (H.2 h w ρ2 _ hR2 hp hO2).mono (fun en w' he => ?_)
 cases en with
 | panicked ch => exact he.elim
 | outgrown => exact he.elim
 | returned x =>
 obtain ⟨h', ρ', p1, p2, p3, p4, p5, p6, p7, p8, p9, p10, _⟩ := he
 refine ⟨h', ρ', p1, p2, p3, p4, fun kk hk hn => p5 kk hk (fun ho => hn ((hset kk).1 ho)), p6, p7, p8, p9, fun i li b q3 q4 => (p10 i li b q3 q4).imp (fun h => (hset b).1 h) (fun h => h), fun i li li' q3 q4 => ?_⟩
 exfalso
 by_cases hi : i = id
 · subst hi
   have : i ∉ keysB B := fun hm => by rw [inList_spec hm] at hB; cases hB
   rw [p9.dom i (mm_keys this)] at q4; cases q4
 · rw [O.dom i (by simp only [mm]; rw [upd_other _ _ hi])] at q3; cases q3
theorem BSim.bufk {ty sz n c : Nat} {e : Nat → List AV} {y : Blk} (H : BSim (.buf ty sz n e) y) : BSim (.bufk ty sz n c e) y := by
 intro h ρ id w B
 obtain ⟨v, xs, q1, q2, _, q3⟩ := B
 exact H h ρ id w ⟨v, xs, q1, q2, q3⟩
theorem Seg.moved {T : Type} [Inhabited T] {f : T → List AV} {l : List T} (b j : Nat) (hb : b ≤ j) (hj : j ≤ l.length) : Seg f (b + (l.length - j)) (fun q => if q < b then f (l.getD q default) else f (l.getD (j + (q - b)) default)) (l.take b ++ l.drop j) := by
 refine ⟨by simp; omega, fun k hk => ?_⟩
 by_cases h : k < b
 · simp only [h, if_true]
   simp [List.getD_eq_getElem?_getD, List.getElem?_append_left (show k < (l.take b).length by simp; omega), List.getElem?_take, h]
 · simp only [h, if_false]
   have hl : (l.take b).length = b := by simp; omega
   simp only [List.getD_eq_getElem?_getD]
   rw [List.getElem?_append_right (by rw [hl]; omega), hl, List.getElem?_drop]
theorem bufEq {id n m : Nat} (h : n = m) : AV.buf id n = AV.buf id m := h ▸ rfl
theorem gbEq {id n m : Nat} (h : n = m) : AV.gb id n = AV.gb id m := h ▸ rfl
end
def bufkL {T : Type} [Inhabited T] (ty sz c : Nat) (f : T → List AV) (l : List T) : Blk := .bufk ty sz l.length c (fun i => f (l.getD i default))
theorem BSim.kseg {T : Type} [Inhabited T] {ty sz c n : Nat} {f : T → List AV} {e : Nat → List AV} {l : List T} (H : Seg f n e l) : BSim (.bufk ty sz n c e) (bufkL ty sz c f l) := by
 obtain ⟨rfl, he⟩ := H
 intro h ρ id w B
 obtain ⟨v, xs, q1, q2, q3, q4, q5, q6⟩ := B
 exact ⟨v, xs, q1, q2, q3, fun i hi => by have := q4 i hi; rw [he i hi] at this; exact this, q5, fun i j c x hi hc hx => q6 i j c x hi (by rw [he i hi]; exact hc) hx⟩
theorem Ctr.ofO {P : Program} {f : FuncId} {args : List AV} {v : AV} {B : List (Nat × Blk)} (H : CtrO P f args [] v B) : Ctr P f args v B := by
 refine ⟨H.1, fun h w vs hR hp => ?_⟩
 have hno : ∀ b, ¬ ownSet ρ0 b := fun b ⟨id, li, q, _⟩ => by cases q
 refine (H.2 h w ρ0 vs hR hp ⟨fun id x hx => (by cases hx), fun _ _ => rfl, fun id li b q => (by cases q), fun id id' li li' b q => (by cases q)⟩).mono (fun en w' he => ?_)
 cases en with
 | panicked ch => exact he.elim
 | outgrown => exact he.elim
 | returned x =>
 obtain ⟨h', ρ', p1, p2, p3, p4, p5, p6, p7, p8, p9, p10, _⟩ := he
 exact ⟨h', ρ', ⟨p1, p2, p3, p4, fun k hk => p5 k hk (hno k)⟩, p6, p7, p8, ⟨p9.blk, p9.dom, fun id li b q1 q2 => ⟨(p9.own id li b q1 q2).1, (p10 id li b q1 q2).resolve_left (hno b), (p9.own id li b q1 q2).2⟩, p9.inj⟩⟩
theorem Sim.lit2 {T : Type} [Inhabited T] {sz n : Nat} {f : T → List AV} {cs cs' : List AV} (l : List T) (hs : SimL cs cs') (hn : n = l.length) (hc : cs' = l.flatMap f) (hf : ∀ x, (f x).length = sz) : Sim (.ro sz n (elemAt sz cs)) (.ro sz l.length (fun i => f (l.getD i default))) := by
 obtain ⟨hl, hss⟩ := hs.spec
 intro h ρ v H
 refine Sim.lit l hn hc hf h ρ v ?_
 cases H with
 | ro _ _ _ _ a cap hnil hcap hsz hs h1 hcc =>
   refine .ro _ _ _ _ _ _ hnil hcap (fun i hi => ?_) hs h1 (fun i j c v hi hj hv => ?_)
   · have := hsz i hi
     unfold elemAt at this ⊢
     simp only [List.length_take, List.length_drop] at this ⊢
     rw [← hl]; exact this
   · obtain ⟨hj1, hj2⟩ := elemAt_get hj
     have hlt : i * sz + j < cs.length := by rw [hl]; exact (List.getElem?_eq_some_iff.1 hj2).1
     have h3 : (elemAt sz cs i)[j]? = some cs[i * sz + j] := by
       unfold elemAt
       rw [List.getElem?_take, if_pos hj1, List.getElem?_drop]
       exact List.getElem?_eq_getElem hlt
     exact hss _ _ _ (List.getElem?_eq_getElem hlt) hj2 h ρ0 v (hcc i j _ v hi h3 hv)
section
variable {N : Nat} {C : Ctx} {L : List (Nat × AV)} {M : List (Nat × Blk)} {g : Nat} {R : Act → World → Prop}
theorem At.freeze (t id : Nat) {n ty sz n' : Nat} {e : Nat → List AV} {K ts : List Nat} {L' : List (Nat × AV)} {M' : List (Nat × Blk)} (ht : fr L t = .buf id n) (hM : mm M id = some (.buf ty sz n' e)) (hn : n = n') (hK : inList K id = false) (hL : filtL K L ts = some L') (hMK : filtM K M K = some M')
   (hbor : ∀ b, ¬ C.bor b) (Kk : At N C ((t, .ro sz n' e) :: L') M' g R) (hs : onlyL K C.savA = true := by rfl) : At N C L M g R := by
 intro h ρ a w I
 subst hn
 obtain ⟨v, us, k1, k2, k3, k5, k4⟩ := I.blk id _ hM
 obtain ⟨ρ', hρ, I'⟩ := I.forget hL hMK hs
 have hv : a.tmps.getD t undef = v := by
   have := I.slot t
   rw [ht] at this
   generalize a.tmps.getD t undef = x at this
   cases this with
   | buf _ _ _ n2 sz2 _ v' hb hle h1 he => rw [k1] at hb; cases hb; exact he rfl
 have hout : ∀ id' li b, ρ' id' = some li → li.owns b → v.ownBlock ≠ some b := by
   intro id' li b q1 q2 q3
   -- the kept names are others
   have hk : id' ∈ K := by
     cases hz : mm M' id' with
     | none => rw [I'.dom id' hz] at q1; cases q1
     | some z =>
       have key : ∀ {is : List Nat} {M'' : List (Nat × Blk)}, filtM K M is = some M'' → ∀ i b, mm M'' i = some b → i ∈ is := by
         intro is
         induction is with
         | nil => intro M'' h i b hb; simp only [filtM] at h; cases h; cases hb
         | cons s is ih =>
           intro M'' h i b hb
           simp only [filtM] at h
           split at h
           · cases h
           · split at h
             · split at h
               · rename_i r hr
                 cases h
                 simp only [mm, upd] at hb
                 split at hb
                 · rename_i hbe; have := Nat.eq_of_beq_eq_true hbe; subst this; exact List.mem_cons_self ..
                 · exact List.mem_cons_of_mem _ (ih hr i b hb)
               · cases h
             · cases h
       exact key hMK id' z hz
   rw [hρ id' hk] at q1
   have := I.inj id' id li _ b q1 k1 q2 q3
   subst this
   rw [inList_of hk] at hK; cases hK
 classical
 let h' : Hp := fun b => if v.ownBlock = some b then w.heap[b]? else h b
 have hin : ∀ b, v.ownBlock = some b → h' b = w.heap[b]? := fun b hb => if_pos hb
 have hle : ∀ b o, h b = some o → h' b = some o := by
   intro b o hb
   show (if v.ownBlock = some b then w.heap[b]? else h b) = some o
   split
   · exact I.hp b o hb
   · exact hb
 have hge : ∀ b, v.ownBlock = some b → C.w0.heap.size ≤ b := fun b hb => (I.own id _ b k1 hb).2.2.resolve_right (hbor b)
 have hnew : ∀ b o, h' b = some o → (v.ownBlock = some b ∧ w.heap[b]? = some o) ∨ h b = some o := by
   intro b o hb
   have : (if v.ownBlock = some b then w.heap[b]? else h b) = some o := hb
   split at this
   · exact .inl ⟨by assumption, this⟩
   · exact .inr this
 have I2 : InvH N C h' ρ' (fr L') (mm M') g a w := by
   refine { I' with slot := fun u => (I'.slot u).heap (Le.of hle), sav := ⟨I'.sav.1, fun i c x q1 q2 => (I'.sav.2 i c x q1 q2).heap (Le.of hle)⟩, hp := fun b o hb => ?_, blk := fun i x hx => (I'.blk i x hx).keep (Le.of hle) rfl (hle_refl _) (fun _ _ _ _ => rfl), own := fun i li b q1 q2 => ?_, ext := fun b o hb => hle b o (I'.ext b o hb), old := fun b o hb hlt => ?_, gst := ?_, dfr := ?_ }
   · rcases hnew b o hb with q | q
     · exact q.2
     · exact I'.hp b o q
   · obtain ⟨q3, q4, q5⟩ := I'.own i li b q1 q2
     refine ⟨?_, q4, q5⟩
     show (if v.ownBlock = some b then w.heap[b]? else h b) = none
     rw [if_neg (hout i li b q1 q2)]; exact q3
   · rcases hnew b o hb with q | q
     · exact absurd hlt (Nat.not_lt.2 (hge b q.1))
     · exact I'.old b o q hlt
   · obtain ⟨X, x1, x2, x3⟩ := I.gst
     refine ⟨X, fun b ⟨i, li, q1, q2⟩ => ?_, fun b o hb => ?_, x3⟩
     · have hk : ρ i = some li := by
         cases hz : mm M' i with
         | none => rw [I'.dom i hz] at q1; cases q1
         | some z =>
           have key : ∀ {is : List Nat} {M'' : List (Nat × Blk)}, filtM K M is = some M'' → ∀ i b, mm M'' i = some b → i ∈ is := by
             intro is
             induction is with
             | nil => intro M'' h i b hb; simp only [filtM] at h; cases h; cases hb
             | cons s is ih =>
               intro M'' h i b hb
               simp only [filtM] at h
               split at h
               · cases h
               · split at h
                 · split at h
                   · rename_i r hr
                     cases h
                     simp only [mm, upd] at hb
                     split at hb
                     · rename_i hbe; have := Nat.eq_of_beq_eq_true hbe; subst this; exact List.mem_cons_self ..
                     · exact List.mem_cons_of_mem _ (ih hr i b hb)
                   · cases h
                 · cases h
           rw [← hρ i (key hMK i z hz)]; exact q1
       exact x1 b ⟨i, li, hk, q2⟩
     · rcases hnew b o hb with q | q
       · exact .inr (x1 b ⟨id, _, k1, q.1⟩)
       · exact x2 b o q
   · obtain ⟨Ds, hd1, hd2, hd3⟩ := I'.dfr
     exact ⟨Ds, hd1, hd2, fun D hD => ⟨hle _ _ (hd3 D hD).1, (hd3 D hD).2⟩⟩
 refine Kk h' ρ' a w { I2 with slot := fun u => ?_ }
 simp only [fr, put]
 split
 · rename_i hb
   have := Nat.eq_of_beq_eq_true hb
   subst this
   rw [hv]
   exact (ro_of_own k2 hin k3 k5 (fun i j c x hi hc hx => (k4 i j c x hi hc hx).heap (Le.of hle))).closed
 · exact I2.slot u
end
end Go.Av
end
/- Functions that blocks are lent to: these come back under their names. Names may be changed. -/
section
set_option linter.all false
namespace Go.Av
open Go.Sp
def ref : Nat × Blk → AV
 | (id, .cells _) => .lp id 0
 | (id, .buf _ _ n _) => .buf id n
 | (id, .map _ _ _ _) => .mp id
 | _ => .any
def refs : List (Nat × Blk) → List AV
 | [] => []
 | x :: r => ref x :: refs r
def refV (ρ : Rho) : Nat × Blk → Value
 | (id, .cells _) => match ρ id with
   | some (.blk b) => .pointer (some ⟨b, 0, none⟩)
   | _ => undef
 | (id, .buf _ _ _ _) => match ρ id with
   | some (.sl _ _ v) => v
   | _ => undef
 | (id, .map _ _ _ _) => match ρ id with
   | some (.blk b) => .map (some b)
   | _ => undef
 | _ => undef
def refVs (ρ : Rho) : List (Nat × Blk) → List Value
 | [] => []
 | x :: r => refV ρ x :: refVs ρ r
def okShape : Blk → Blk → Bool
 | .cells _, .cells _ => true
 | .map _ _ _ _, .map _ _ _ _ => true
 | .buf _ sz _ _, .buf _ sz' _ _ => Nat.beq sz sz'
 | .buf _ sz _ _, .bufk _ sz' _ _ _ => Nat.beq sz sz'
 | _, _ => false
def sameShape (B0 : List (Nat × Blk)) : List (Nat × Blk) → Bool
 | [] => true
 | (i, x) :: r => match mm B0 i with
   | none => sameShape B0 r
   | some y => match okShape x y with
     | true => sameShape B0 r
     | false => false
theorem refs_get {ρ : Rho} : ∀ {A : List (Nat × Blk)} {i : Nat} {x : Nat × Blk}, A[i]? = some x → (refs A)[i]? = some (ref x) ∧ (refVs ρ A)[i]? = some (refV ρ x)
 | [], i, x, h => by simp at h
 | y :: A, 0, x, h => by simp at h; subst h; exact ⟨rfl, rfl⟩
 | y :: A, i + 1, x, h => by
   simp only [List.getElem?_cons_succ] at h
   have := refs_get (ρ := ρ) h
   simpa [refs, refVs] using this
theorem refs_len {ρ : Rho} : ∀ {A : List (Nat × Blk)}, (refVs ρ A).length = (refs A).length
 | [] => rfl
 | y :: A => by simp [refs, refVs, refs_len (A := A)]
theorem refs_inv {ρ : Rho} : ∀ {A : List (Nat × Blk)} {i : Nat} {c : AV} {v : Value}, (refs A)[i]? = some c → (refVs ρ A)[i]? = some v → ∃ x, A[i]? = some x ∧ c = ref x ∧ v = refV ρ x
 | [], i, c, v, h, _ => by simp [refs] at h
 | y :: A, 0, c, v, h, k => by simp [refs] at h; simp [refVs] at k; exact ⟨y, rfl, h.symm, k.symm⟩
 | y :: A, i + 1, c, v, h, k => by
   simp only [refs, List.getElem?_cons_succ] at h
   simp only [refVs, List.getElem?_cons_succ] at k
   obtain ⟨x, q1, q2, q3⟩ := refs_inv h k
   exact ⟨x, by simpa using q1, q2, q3⟩
theorem mm_get : ∀ {A : List (Nat × Blk)} {id : Nat} {x : Blk}, mm A id = some x → ∃ i : Nat, A[i]? = some (id, x)
 | [], id, x, h => by cases h
 | (j, y) :: A, id, x, h => by
   simp only [mm, upd] at h
   split at h
   · rename_i hb
     have := Nat.eq_of_beq_eq_true hb
     subst this
     cases h
     exact ⟨0, rfl⟩
   · obtain ⟨i, hi⟩ := mm_get h
     exact ⟨i + 1, by simpa using hi⟩
theorem get_mm : ∀ {A : List (Nat × Blk)} {i id : Nat} {x : Blk}, noDup (keysB A) = true → A[i]? = some (id, x) → mm A id = some x
 | [], i, id, x, _, h => by simp at h
 | (j, y) :: A, 0, id, x, _, h => by simp at h; obtain ⟨rfl, rfl⟩ := h; simp [mm, upd]
 | (j, y) :: A, i + 1, id, x, hn, h => by
   simp only [List.getElem?_cons_succ] at h
   obtain ⟨n1, n2⟩ := noDup_spec (i := j) (r := keysB A) hn
   have := get_mm n2 h
   have hne : id ≠ j := fun e => n1 (by subst e; exact keysB_mm.2 (by rw [this]; rfl))
   simp only [mm]
   rw [upd_other _ _ hne]
   exact this
theorem sameShape_spec {B0 : List (Nat × Blk)} : ∀ {A : List (Nat × Blk)}, sameShape B0 A = true → ∀ (i id : Nat) (x y : Blk), A[i]? = some (id, x) → mm B0 id = some y → okShape x y = true
 | [], _, i, id, x, y, h, _ => by simp at h
 | (j, z) :: A, hs, i, id, x, y, h, hy => by
   simp only [sameShape] at hs
   cases i with
   | zero =>
     simp at h
     obtain ⟨rfl, rfl⟩ := h
     simp only [hy] at hs
     split at hs
     · assumption
     · cases hs
   | succ i =>
     simp only [List.getElem?_cons_succ] at h
     split at hs
     · exact sameShape_spec hs i id x y h hy
     · split at hs
       · exact sameShape_spec hs i id x y h hy
       · cases hs
theorem stays_lend {ρb : Rho} {A B0 : List (Nat × Blk)} (hdom : ∀ id, mm A id = none → ρb id = none) (hent : ∀ id x, mm A id = some x → LiOk x (ρb id)) (hs : sameShape B0 A = true) : Stays (refs A) (refVs ρb A) ρb 0 B0 := by
 intro h' ρ' h1 h2 h3 id li li' q1 q2
 rw [Nat.zero_add] at q1
 cases hx : mm A id with
 | none => rw [hdom id hx] at q1; cases q1
 | some x =>
 cases hy : mm B0 id with
 | none => rw [h3 id hy] at q2; cases q2
 | some y =>
 obtain ⟨i, hi⟩ := mm_get hx
 obtain ⟨r1, r2⟩ := refs_get (ρ := ρb) hi
 have hrel := h1 i _ _ r1 r2
 have hsh := sameShape_spec hs i id x y hi hy
 have hA := hent id x hx
 have hB := h2 id y hy
 cases x <;> cases y <;> simp only [okShape] at hsh <;> (try (cases hsh; done))
 case cells.cells =>
   obtain ⟨b, e1⟩ := hA
   obtain ⟨b', e2⟩ := hB
   rw [e1] at q1; cases q1
   rw [e2] at q2; cases q2
   simp only [ref, refV, e1] at hrel
   cases hrel with
   | lp _ _ _ b2 hb => rw [e2] at hb; cases hb; exact .inl rfl
 case map.map =>
   obtain ⟨b, e1⟩ := hA
   obtain ⟨b', e2⟩ := hB
   rw [e1] at q1; cases q1
   rw [e2] at q2; cases q2
   simp only [ref, refV, e1] at hrel
   cases hrel with
   | mp _ _ b2 hb => rw [e2] at hb; cases hb; exact .inl rfl
 case buf.buf =>
   rename_i ty sz n e ty' sz' n' e'
   have hsz := Nat.eq_of_beq_eq_true hsh
   subst hsz
   obtain ⟨v, e1, _⟩ := hA
   obtain ⟨v', e2, _⟩ := hB
   rw [e1] at q1; cases q1
   rw [e2] at q2; cases q2
   simp only [ref, refV, e1] at hrel
   generalize v = u at hrel
   cases hrel with
   | buf _ _ _ n2 sz2 _ v2 hb hle h1' he =>
     rw [e2] at hb; cases hb
     rcases Nat.lt_or_ge n n' with hlt | hge
     · exact .inr (.inl ⟨_, _, _, _, _, rfl, rfl, hlt⟩)
     · have hn : n = n' := by omega
       subst hn
       rw [he rfl]; exact .inl rfl
 case buf.bufk =>
   rename_i ty sz n e ty' sz' n' c' e'
   have hsz := Nat.eq_of_beq_eq_true hsh
   subst hsz
   obtain ⟨v, e1, _⟩ := hA
   obtain ⟨v', e2, _⟩ := hB
   rw [e1] at q1; cases q1
   rw [e2] at q2; cases q2
   simp only [ref, refV, e1] at hrel
   generalize v = u at hrel
   cases hrel with
   | buf _ _ _ n2 sz2 _ v2 hb hle h1' he =>
     rw [e2] at hb; cases hb
     rcases Nat.lt_or_ge n n' with hlt | hge
     · exact .inr (.inl ⟨_, _, _, _, _, rfl, rfl, hlt⟩)
     · have hn : n = n' := by omega
       subst hn
       rw [he rfl]; exact .inl rfl
theorem ref_rel {h : Hp} {ρ : Rho} {id : Nat} {x : Blk} (H : LiOk x (ρ id)) : Rel h ρ (ref (id, x)) (refV ρ (id, x)) := by
 cases x with
 | cells cs => obtain ⟨b, e⟩ := H; simp only [ref, refV, e]; exact .lp _ _ _ _ e
 | buf ty sz n f => obtain ⟨v, e, h1⟩ := H; simp only [ref, refV, e]; exact .buf _ _ _ _ _ _ _ e (Nat.le_refl _) h1 (fun _ => rfl)
 | map z d f n => obtain ⟨b, e⟩ := H; simp only [ref, refV, e]; exact .mp _ _ _ e
 | bufk | dead | grid | iter => exact .any _ _
section
variable {P : Program} {N : Nat}
theorem CtrL.of_body {f : FuncId} {fn : Func} {c : Code} {xs : List AV} {v : AV} {A B : List (Nat × Blk)} (hf : P.funcs[f]? = some fn) (hn : (fn.name == "runtime.NumGoroutine") = false) (hb : fn.body = some c) (hN : fn.ntmps = N) (hx : Nat.ble xs.length N = true) (hA : noDup (keysB A) = true)
   (H : ∀ w0 h0 ρb, (∀ b o, h0 b = some o → w0.heap[b]? = some o) → (∀ id, mm A id = none → ρb id = none) → (∀ id x, mm A id = some x → LiOk x (ρb id)) → W P N none (Cq w0 h0 (refs A) (refVs ρb A) (ownSet ρb)) c (argL 0 xs) A 0 (RetOQ P fn h0 w0 ρb v B)) : CtrO P f xs A v B := by
 refine ⟨enters_of hf hn hb, fun h w ρ vs hR hp O => ?_⟩
 refine callsIn_w (n := 1) (callsIn_of_wp_marks hf hb trivial ?_)
 refine H w h ρ hp O.dom (fun id x hx => (O.blk id x hx).li) h ρ _ w ?_
 have hlen : vs.length ≤ N := by rw [hR.1]; exact Nat.le_of_ble_eq_true hx
 refine ⟨fun t => ?_, ⟨refs_len, fun i c v h1 h2 => ?_⟩, ?_, hp, O.blk, O.dom, fun id li b q1 q2 => ⟨(O.own id li b q1 q2).1, (O.own id li b q1 q2).2, .inr ⟨id, li, q1, q2⟩⟩, O.inj, rfl, rfl, rfl, Nat.le_refl _, fun _ _ _ => rfl, fun b o hb => hb, fun b o hb _ => hb, ⟨fun _ => True, fun _ _ => trivial, fun _ _ _ => .inr trivial, trivial⟩, ⟨[], rfl, List.nodup_nil, fun D hD => (by cases hD)⟩⟩
 · rcases argL_rel (h := h) (ρ := ρ) 0 hR t with e | ⟨i, u, e1, e2, e3⟩
   · rw [e]; exact .any _ _
   · have e0 : t = i := by omega
     subst e0
     have hi : t < vs.length := (List.getElem?_eq_some_iff.1 e2).1
     have : (vs.toArray ++ Array.replicate (fn.ntmps - vs.toArray.size) undef).getD t undef = u := by
       have e4 : vs[t] = u := by have := List.getElem?_eq_getElem hi; rw [this] at e2; exact Option.some.inj e2
       simp [Array.getElem?_append, hi, e4]
     rw [this]
     exact e3
 · obtain ⟨⟨id, x⟩, q1, rfl, rfl⟩ := refs_inv h1 h2
   exact ref_rel (O.blk id x (get_mm hA q1)).li
 · simp [hN]; omega
end
section
variable {P : Program} {N : Nat} {Γ : Tys} {L : List (Nat × AV)} {M : List (Nat × Blk)} {g : Nat}
theorem At.retL (hΓ : TysOk P Γ) {w0 : World} {h0 : Hp} {ρb : Rho} {fn : Func} {v : AV} {A B B0 : List (Nat × Blk)} {xs : List AV} (K : List Nat) (hr : resL Γ (fr L) (mm M) fn.results.toList = some xs) (ho : onlyIds K (resV xs) = true) (hB : filtM K M K = some B0) (hBo : onlyBs K B0 = true) (hBs : AgreeM (shB 0 B0) B) (hs : Sim ((resV xs).sh 0) v)
   (hval : ∀ b o, h0 b = some o → w0.heap[b]? = some o) (hdom : ∀ id, mm A id = none → ρb id = none) (hent : ∀ id x, mm A id = some x → LiOk x (ρb id)) (hsa : onlyL K (refs A) = true) (hd : sameShape B0 A = true) : At N (Cq w0 h0 (refs A) (refVs ρb A) (ownSet ρb)) L M g (RetOQ P fn h0 w0 ρb v B .ret) :=
 At.retO hΓ K 0 hr ho hB hBo hBs hs hval hsa (stays_lend hdom hent hd)
end
def look : List (Nat × Nat) → Nat → Nat
 | [], i => i
 | (a, b) :: r, i => match Nat.beq i a with
   | true => b
   | false => look r i
mutual
def AV.ren (π : List (Nat × Nat)) : AV → AV
 | .lp id off => .lp (look π id) off
 | .buf id n => .buf (look π id) n
 | .ep id n i off => .ep (look π id) n i off
 | .mp id => .mp (look π id)
 | .gb id n => .gb (look π id) n
 | .gp id n i => .gp (look π id) n i
 | .gr' id i m => .gr' (look π id) i m
 | .ge id i m j off => .ge (look π id) i m j off
 | .sb id n a b => .sb (look π id) n a b
 | .agg cs => .agg (renL π cs)
 | .tup cs => .tup (renL π cs)
 | .fn f fs cs => .fn f (renL π fs) (renL π cs)
 | .ifc t v => .ifc t (v.ren π)
 | .cnd g v => .cnd g (v.ren π)
 | .any => .any
 | .nilS => .nilS
 | .nilFn => .nilFn
 | .nilPtr => .nilPtr
 | .nilMap => .nilMap
 | .nilIfc => .nilIfc
 | .bool b => .bool b
 | .int k n => .int k n
 | .ro sz n e => .ro sz n e
 | .rp cs => .rp cs
 | .clo f a b => .clo f a b
 | .rom z d e n => .rom z d e n
 | .raw v => .raw v
 | .nz n => .nz n
 | .po b cs => .po b cs
def renL (π : List (Nat × Nat)) : List AV → List AV
 | [] => []
 | c :: cs => c.ren π :: renL π cs
end
def Blk.ren (π : List (Nat × Nat)) : Blk → Blk
 | .cells cs => .cells (renL π cs)
 | .buf ty sz n e => .buf ty sz n e
 | .map z d e n => .map z d e n
 | .dead => .dead
 | .grid a b c d e f => .grid a b c d e f
 | .bufk a b c d e => .bufk a b c d e
 | .iter a b c => .iter a b c
def renB (π : List (Nat × Nat)) : List (Nat × Blk) → List (Nat × Blk)
 | [] => []
 | (i, b) :: r => (look π i, b.ren π) :: renB π r
theorem renL_len {π : List (Nat × Nat)} : ∀ {cs : List AV}, (renL π cs).length = cs.length
 | [] => rfl
 | c :: cs => by simp [renL, renL_len (cs := cs)]
theorem renL_get {π : List (Nat × Nat)} : ∀ {cs : List AV} {i : Nat} {c : AV}, (renL π cs)[i]? = some c → ∃ c0, cs[i]? = some c0 ∧ c = c0.ren π
 | [], i, c, h => by simp [renL] at h
 | x :: cs, 0, c, h => by simp [renL] at h; exact ⟨x, by simp, h.symm⟩
 | x :: cs, i + 1, c, h => by
   simp only [renL, List.getElem?_cons_succ] at h
   obtain ⟨c0, e1, e2⟩ := renL_get h
   exact ⟨c0, by simpa using e1, e2⟩
theorem renL_at {π : List (Nat × Nat)} : ∀ {cs : List AV} {i : Nat} {c : AV}, cs[i]? = some c → (renL π cs)[i]? = some (c.ren π)
 | [], i, c, h => by simp at h
 | x :: cs, 0, c, h => by simp at h; subst h; simp [renL]
 | x :: cs, i + 1, c, h => by
   simp only [List.getElem?_cons_succ] at h
   simp only [renL, List.getElem?_cons_succ]
   exact renL_at h
theorem Rel.ren {h : Hp} {ρ ρ' : Rho} {ids : List Nat} {π : List (Nat × Nat)} (hρ : ∀ id, id ∈ ids → ρ' (look π id) = ρ id) {a : AV} {v : Value} (H : Rel h ρ a v) (hc : onlyIds ids a = true) : Rel h ρ' (a.ren π) v := by
 obtain ⟨ρ1, he, H'⟩ : ∃ ρ1, ρ = ρ1 ∧ Rel h ρ1 a v := ⟨ρ, rfl, H⟩
 clear H
 induction H' with
 | any ρ v => simp only [AV.ren]; exact .any _ _
 | nilS => simp only [AV.ren]; exact .nilS _
 | nilFn => simp only [AV.ren]; exact .nilFn _
 | nilPtr => simp only [AV.ren]; exact .nilPtr _
 | nilMap => simp only [AV.ren]; exact .nilMap _
 | nilIfc => simp only [AV.ren]; exact .nilIfc _
 | bool => simp only [AV.ren]; exact .bool _ _
 | int => simp only [AV.ren]; exact .int _ _ _
 | agg ρ1 cs vs hl hc' ih =>
   simp only [AV.ren]
   refine .agg _ _ _ (by rw [renL_len]; exact hl) fun i c v h1 h2 => ?_
   obtain ⟨c0, e1, rfl⟩ := renL_get h1
   exact ih i c0 v e1 h2 (onlyL_get (by simpa [onlyIds] using hc) e1) he
 | tup ρ1 cs vs hl hc' ih =>
   simp only [AV.ren]
   refine .tup _ _ _ (by rw [renL_len]; exact hl) fun i c v h1 h2 => ?_
   obtain ⟨c0, e1, rfl⟩ := renL_get h1
   exact ih i c0 v e1 h2 (onlyL_get (by simpa [onlyIds] using hc) e1) he
 | ro ρ1 sz n e a cap hnil hcap hsz hs h1 hc' ih => simp only [AV.ren]; exact .ro _ _ _ _ _ _ hnil hcap hsz hs h1 hc'
 | rp ρ1 cs ad hs hc' ih => simp only [AV.ren]; exact .rp _ _ _ hs hc'
 | lp ρ1 id off b hb => simp only [AV.ren]; subst he; exact .lp _ _ _ _ ((hρ id (inList_mem (by simpa [onlyIds] using hc))).trans hb)
 | buf ρ1 id n n' sz v v' hb hle h1 hq => simp only [AV.ren]; subst he; exact .buf _ _ _ _ _ _ _ ((hρ id (inList_mem (by simpa [onlyIds] using hc))).trans hb) hle h1 hq
 | ep ρ1 id n i off n' sz v v' hb hle h1 hq => simp only [AV.ren]; subst he; exact .ep _ _ _ _ _ _ _ _ _ ((hρ id (inList_mem (by simpa [onlyIds] using hc))).trans hb) hle h1 hq
 | fn ρ1 f fs cs vs ws hl hm hc' hd ih1 ih2 =>
   simp only [onlyIds] at hc
   split at hc
   · rename_i h0
     simp only [AV.ren]
     refine .fn _ _ _ _ _ _ (by rw [renL_len]; exact hl) (by rw [renL_len]; exact hm) (fun i c v h1 h2 => ?_) (fun i c v h1 h2 => ?_)
     · obtain ⟨c0, e1, rfl⟩ := renL_get h1
       exact ih1 i c0 v e1 h2 (onlyL_get h0 e1) he
     · obtain ⟨c0, e1, rfl⟩ := renL_get h1
       exact ih2 i c0 v e1 h2 (onlyL_get hc e1) he
   · cases hc
 | clo ρ1 f fs cs v hv ih => simp only [AV.ren]; exact .clo _ _ _ _ _ hv
 | mp ρ1 id b hb => simp only [AV.ren]; subst he; exact .mp _ _ _ ((hρ id (inList_mem (by simpa [onlyIds] using hc))).trans hb)
 | rom ρ1 z dom e n r es clock ks hR hks hlen hel hk hborn hbd hdom hz hc' ihz ih => simp only [AV.ren]; exact .rom _ _ _ _ _ _ _ _ _ hR hks hlen hel hk hborn hbd hdom hz hc'
 | ifc ρ1 t a v hv ih => simp only [AV.ren]; exact .ifc _ _ _ _ (ih (by simpa [onlyIds] using hc) he)
 | cnd ρ1 g a v ht hf ih => simp only [AV.ren]; exact .cnd _ _ _ _ (fun hg => ih hg (by simpa [onlyIds] using hc) he) hf
 | raw => simp only [AV.ren]; exact .raw _ _
 | nz ρ1 n b hb => simp only [AV.ren]; exact .nz _ _ _ hb
 | po ρ1 b cs v ht hf ih => simp only [AV.ren] at ih ⊢; exact .po _ _ _ _ (fun hg => ih hg rfl he) hf
 | gb ρ1 id n li v hb hg h0 => simp only [AV.ren]; subst he; exact .gb _ _ _ _ _ ((hρ id (inList_mem (by simpa [onlyIds] using hc))).trans hb) hg h0
 | gp ρ1 id n i li ad hb hg => simp only [AV.ren]; subst he; exact .gp _ _ _ _ _ _ ((hρ id (inList_mem (by simpa [onlyIds] using hc))).trans hb) hg
 | gr' ρ1 id i m li v hb hg h0 => simp only [AV.ren]; subst he; exact .gr' _ _ _ _ _ _ ((hρ id (inList_mem (by simpa [onlyIds] using hc))).trans hb) hg h0
 | sb ρ1 id n a b n' sz v v' hb hle h0 hq => simp only [AV.ren]; subst he; exact .sb _ _ _ _ _ _ _ _ _ ((hρ id (inList_mem (by simpa [onlyIds] using hc))).trans hb) hle h0 hq
 | ge ρ1 id i m j off li v hb h0 hg => simp only [AV.ren]; subst he; exact .ge _ _ _ _ _ _ _ _ ((hρ id (inList_mem (by simpa [onlyIds] using hc))).trans hb) h0 hg
theorem BlkOk.ren {h : Hp} {ρ ρ' : Rho} {ids : List Nat} {π : List (Nat × Nat)} (hρ : ∀ id, id ∈ ids → ρ' (look π id) = ρ id) {id : Nat} {x : Blk} {w : World} (H : BlkOk h ρ id x w) (hid : id ∈ ids) (ho : onlyB ids x = true) : BlkOk h ρ' (look π id) (x.ren π) w := by
 cases x with
 | cells cs =>
   obtain ⟨b, vs, ty, q1, q2, q3, q4⟩ := H
   refine ⟨b, vs, ty, (hρ id hid).trans q1, q2, by rw [renL_len]; exact q3, fun i c v hc hv => ?_⟩
   obtain ⟨c0, e1, rfl⟩ := renL_get hc
   exact (q4 i c0 v e1 hv).ren hρ (onlyL_get (by simpa [onlyB] using ho) e1)
 | buf ty sz n e => obtain ⟨v, xs, q1, q2⟩ := H; exact ⟨v, xs, (hρ id hid).trans q1, q2⟩
 | map z dom e n => obtain ⟨b, es, clock, ks, q1, q2⟩ := H; exact ⟨b, es, clock, ks, (hρ id hid).trans q1, q2⟩
 | iter e cur Pl => obtain ⟨b, bm, clock, c0, es, seen, left, q1, q2⟩ := H; exact ⟨b, bm, clock, c0, es, seen, left, (hρ id hid).trans q1, q2⟩
 | bufk ty sz n c e => obtain ⟨v, xs, q1, q2⟩ := H; exact ⟨v, xs, (hρ id hid).trans q1, q2⟩
 | dead => obtain ⟨n, sz, q1⟩ := H; exact ⟨n, sz, (hρ id hid).trans q1⟩
 | grid tS ty sz n m e => obtain ⟨v, rows, q1, q2⟩ := H; exact ⟨v, rows, (hρ id hid).trans q1, q2⟩
mutual
/-- Back: what holds by the new names holds by the old ones. -/
theorem Rel.unren {h : Hp} {ρ ρ' : Rho} {ids : List Nat} {π : List (Nat × Nat)} (hρ : ∀ id, id ∈ ids → ρ id = ρ' (look π id)) : ∀ (a : AV) {v : Value}, Rel h ρ' (a.ren π) v → onlyIds ids a = true → Rel h ρ a v
 | .any, v, H, hc => .any _ _
 | .nilS, v, H, hc => H.of_cl rfl
 | .nilFn, v, H, hc => H.of_cl rfl
 | .nilPtr, v, H, hc => H.of_cl rfl
 | .nilMap, v, H, hc => H.of_cl rfl
 | .nilIfc, v, H, hc => H.of_cl rfl
 | .bool b, v, H, hc => H.of_cl rfl
 | .int k n, v, H, hc => H.of_cl rfl
 | .ro sz n e, v, H, hc => H.of_cl rfl
 | .rp cs, v, H, hc => H.of_cl rfl
 | .clo f a b, v, H, hc => H.of_cl rfl
 | .rom z d e n, v, H, hc => H.of_cl rfl
 | .raw u, v, H, hc => H.of_cl rfl
 | .nz n, v, H, hc => H.of_cl rfl
 | .po b cs, v, H, hc => H.of_cl rfl
 | .lp id off, v, H, hc => by
   simp only [AV.ren] at H
   cases H with
   | lp _ _ _ b hb => exact .lp _ _ _ _ ((hρ id (inList_mem (by simpa [onlyIds] using hc))).trans hb)
 | .buf id n, v, H, hc => by
   simp only [AV.ren] at H
   cases H with
   | buf _ _ _ n' sz _ v' hb hle h1 hq => exact .buf _ _ _ _ _ _ _ ((hρ id (inList_mem (by simpa [onlyIds] using hc))).trans hb) hle h1 hq
 | .ep id n i off, v, H, hc => by
   simp only [AV.ren] at H
   cases H with
   | ep _ _ _ _ _ n' sz _ v' hb hle h1 hq => exact .ep _ _ _ _ _ _ _ _ _ ((hρ id (inList_mem (by simpa [onlyIds] using hc))).trans hb) hle h1 hq
 | .mp id, v, H, hc => by
   simp only [AV.ren] at H
   cases H with
   | mp _ _ b hb => exact .mp _ _ _ ((hρ id (inList_mem (by simpa [onlyIds] using hc))).trans hb)
 | .gb id n, v, H, hc => by
   simp only [AV.ren] at H
   cases H with
   | gb _ _ _ li _ hb hg h0 => exact .gb _ _ _ _ _ ((hρ id (inList_mem (by simpa [onlyIds] using hc))).trans hb) hg h0
 | .gp id n i, v, H, hc => by
   simp only [AV.ren] at H
   cases H with
   | gp _ _ _ _ li ad hb hg => exact .gp _ _ _ _ _ _ ((hρ id (inList_mem (by simpa [onlyIds] using hc))).trans hb) hg
 | .gr' id i m, v, H, hc => by
   simp only [AV.ren] at H
   cases H with
   | gr' _ _ _ _ li _ hb hg h0 => exact .gr' _ _ _ _ _ _ ((hρ id (inList_mem (by simpa [onlyIds] using hc))).trans hb) hg h0
 | .ge id i m j off, v, H, hc => by
   simp only [AV.ren] at H
   cases H with
   | ge _ _ _ _ _ _ li _ hb h0 hg => exact .ge _ _ _ _ _ _ _ _ ((hρ id (inList_mem (by simpa [onlyIds] using hc))).trans hb) h0 hg
 | .sb id n a b, v, H, hc => by
   simp only [AV.ren] at H
   cases H with
   | sb _ _ _ _ _ n' sz _ v' hb hle h0 hq => exact .sb _ _ _ _ _ _ _ _ _ ((hρ id (inList_mem (by simpa [onlyIds] using hc))).trans hb) hle h0 hq
 | .agg cs, v, H, hc => by
   simp only [AV.ren] at H
   cases H with
   | agg _ _ vs hl hr => exact .agg _ _ _ (by rw [hl, renL_len]) (fun i c v h1 h2 => Rel.unrenL hρ cs (by simpa [onlyIds] using hc) i c v h1 (hr i _ v (renL_at h1) h2))
 | .tup cs, v, H, hc => by
   simp only [AV.ren] at H
   cases H with
   | tup _ _ vs hl hr => exact .tup _ _ _ (by rw [hl, renL_len]) (fun i c v h1 h2 => Rel.unrenL hρ cs (by simpa [onlyIds] using hc) i c v h1 (hr i _ v (renL_at h1) h2))
 | .fn f fs cs, v, H, hc => by
   simp only [AV.ren] at H
   simp only [onlyIds] at hc
   split at hc
   · rename_i h0
     cases H with
     | fn _ _ _ _ vs ws hl hm h1 h2 => exact .fn _ _ _ _ _ _ (by rw [hl, renL_len]) (by rw [hm, renL_len]) (fun i c v q1 q2 => Rel.unrenL hρ fs h0 i c v q1 (h1 i _ v (renL_at q1) q2)) (fun i c v q1 q2 => Rel.unrenL hρ cs hc i c v q1 (h2 i _ v (renL_at q1) q2))
   · cases hc
 | .ifc t a, v, H, hc => by
   simp only [AV.ren] at H
   cases H with
   | ifc _ _ _ u hv => exact .ifc _ _ _ _ (Rel.unren hρ a hv (by simpa [onlyIds] using hc))
 | .cnd g a, v, H, hc => by
   simp only [AV.ren] at H
   cases H with
   | cnd _ _ _ _ ht hf => exact .cnd _ _ _ _ (fun hg => Rel.unren hρ a (ht hg) (by simpa [onlyIds] using hc)) hf
theorem Rel.unrenL {h : Hp} {ρ ρ' : Rho} {ids : List Nat} {π : List (Nat × Nat)} (hρ : ∀ id, id ∈ ids → ρ id = ρ' (look π id)) : ∀ (cs : List AV), onlyL ids cs = true → ∀ (i : Nat) (c : AV) (v : Value), cs[i]? = some c → Rel h ρ' (c.ren π) v → Rel h ρ c v
 | [], _, i, c, v, h1, _ => by simp at h1
 | x :: cs, hc, 0, c, v, h1, H => by
   simp only [List.getElem?_cons_zero, Option.some.injEq] at h1
   simp only [onlyL] at hc
   split at hc
   · rename_i h0
     rw [← h1] at H ⊢
     exact Rel.unren hρ x H h0
   · cases hc
 | x :: cs, hc, i + 1, c, v, h1, H => by
   simp only [List.getElem?_cons_succ] at h1
   simp only [onlyL] at hc
   split at hc
   · exact Rel.unrenL hρ cs hc i c v h1 H
   · cases hc
end
theorem mm_renB {π : List (Nat × Nat)} {ids : List Nat} (hinj : ∀ i j, i ∈ ids → j ∈ ids → look π i = look π j → i = j) : ∀ {B : List (Nat × Blk)}, (∀ i, i ∈ keysB B → i ∈ ids) → ∀ i, i ∈ ids → mm (renB π B) (look π i) = (mm B i).map (·.ren π)
 | [], _, i, _ => rfl
 | (j, b) :: r, h, i, hi => by
   simp only [renB, mm]
   by_cases e : i = j
   · subst e; simp [upd]
   · rw [upd_other _ _ e, upd_other _ _ (fun q => e (hinj i j hi (h j (List.mem_cons_self ..)) q))]
     exact mm_renB hinj (fun i hi => h i (List.mem_cons_of_mem _ hi)) i hi
theorem keys_renB {π : List (Nat × Nat)} : ∀ {B : List (Nat × Blk)}, keysB (renB π B) = (keysB B).map (look π)
 | [] => rfl
 | (j, b) :: r => by simp [renB, keysB, keys_renB (B := r)]
def injOn (π : List (Nat × Nat)) : List Nat → Bool
 | [] => true
 | i :: r => match inList (r.map (look π)) (look π i) with
   | true => match inList r i with
     | true => injOn π r
     | false => false
   | false => injOn π r
theorem injOn_spec {π : List (Nat × Nat)} : ∀ {l : List Nat}, injOn π l = true → ∀ i j, i ∈ l → j ∈ l → look π i = look π j → i = j
 | [], _, i, j, h, _, _ => by cases h
 | x :: l, hi, i, j, h1, h2, e => by
   simp only [injOn] at hi
   have key : injOn π l = true ∧ ∀ k, k ∈ l → look π x = look π k → x ∈ l := by
     split at hi
     · split at hi
       · rename_i h3; exact ⟨hi, fun _ _ _ => inList_mem h3⟩
       · cases hi
     · rename_i h3
       refine ⟨hi, fun k hk e => ?_⟩
       rw [inList_spec (by rw [e]; exact List.mem_map_of_mem hk)] at h3; cases h3
   obtain ⟨k1, k2⟩ := key
   rcases List.mem_cons.1 h1 with rfl | h3 <;> rcases List.mem_cons.1 h2 with rfl | h4
   · rfl
   · exact injOn_spec k1 i j (k2 j h4 e) h4 e
   · exact injOn_spec k1 i j h3 (k2 i h3 e.symm) e
   · exact injOn_spec k1 i j h3 h4 e
theorem CtrO.ren {P : Program} {f : FuncId} {args : List AV} {A B : List (Nat × Blk)} {v : AV} (H : CtrO P f args A v B) (π : List (Nat × Nat)) (ha : onlyL (keysB A) args = true := by rfl) (hA : onlyBs (keysB A) A = true := by rfl) (hv : onlyIds (keysB B) v = true := by rfl) (hB : onlyBs (keysB B) B = true := by rfl) (hi : injOn π (keysB A ++ keysB B) = true := by rfl) :
   CtrO P f (renL π args) (renB π A) (v.ren π) (renB π B) := by
 have hinj := injOn_spec hi
 have iA : ∀ i j, i ∈ keysB A → j ∈ keysB A → look π i = look π j → i = j := fun i j h1 h2 => hinj i j (List.mem_append_left _ h1) (List.mem_append_left _ h2)
 have iB : ∀ i j, i ∈ keysB B → j ∈ keysB B → look π i = look π j → i = j := fun i j h1 h2 => hinj i j (List.mem_append_right _ h1) (List.mem_append_right _ h2)
 refine ⟨H.1, fun h w ρ vs hR hp O => ?_⟩
 classical
 let ρ2 : Rho := fun j => if j ∈ keysB A then ρ (look π j) else none
 have h2 : ∀ j, j ∈ keysB A → ρ2 j = ρ (look π j) := fun j hj => if_pos hj
 have hinv : ∀ j li, ρ2 j = some li → j ∈ keysB A ∧ ρ (look π j) = some li := fun j li hj => by
   have : (if j ∈ keysB A then ρ (look π j) else none) = some li := hj
   split at this
   · exact ⟨by assumption, this⟩
   · cases this
 have hback : ∀ i li, ρ i = some li → ∃ j, j ∈ keysB A ∧ i = look π j := fun i li hi => by
   have : i ∈ keysB (renB π A) := Classical.byContradiction fun hn => by rw [O.dom i (mm_keys hn)] at hi; cases hi
   rw [keys_renB] at this
   obtain ⟨j, q1, q2⟩ := List.mem_map.1 this
   exact ⟨j, q1, q2.symm⟩
 have hset : ∀ b, ownSet ρ2 b ↔ ownSet ρ b := fun b => by
   constructor
   · rintro ⟨j, li, q1, q2⟩
     exact ⟨_, li, (hinv j li q1).2, q2⟩
   · rintro ⟨i, li, q1, q2⟩
     obtain ⟨j, q3, rfl⟩ := hback i li q1
     exact ⟨j, li, (h2 j q3).trans q1, q2⟩
 have hmA : ∀ j, j ∈ keysB A → mm (renB π A) (look π j) = (mm A j).map (·.ren π) := mm_renB iA (fun _ h => h)
 have hR2 : RelL h ρ2 args vs := ⟨by rw [hR.1, renL_len], fun i c v hc hv => Rel.unrenL h2 args ha i c v hc (hR.2 i _ v (renL_at hc) hv)⟩
 have hO2 : Ownd h ρ2 A w := by
   refine ⟨fun j y hj => ?_, fun j hj => ?_, fun j li b q3 q4 => O.own _ li b (hinv j li q3).2 q4, fun j j' li li' b q3 q3' q4 q4' => ?_⟩
   · have hjA : j ∈ keysB A := keysB_mm.2 (by rw [hj]; rfl)
     have := O.blk (look π j) (y.ren π) (by rw [hmA j hjA, hj]; rfl)
     have ho := onlyBs_mm hA j y hj
     cases y with
     | cells cs =>
       obtain ⟨b, us, ty, q1, q2, q3, q4⟩ := this
       exact ⟨b, us, ty, (h2 j hjA).trans q1, q2, by rw [q3, renL_len], fun i c v hc hv => Rel.unrenL h2 cs (by simpa [onlyB] using ho) i c v hc (q4 i _ v (renL_at hc) hv)⟩
     | buf ty sz n e => obtain ⟨v, xs, q1, q2⟩ := this; exact ⟨v, xs, (h2 j hjA).trans q1, q2⟩
     | map z dom e n => obtain ⟨b, es, clock, ks, q1, q2⟩ := this; exact ⟨b, es, clock, ks, (h2 j hjA).trans q1, q2⟩
     | iter e cur Pl => obtain ⟨b, bm, clock, c0, es, seen, left, q1, q2⟩ := this; exact ⟨b, bm, clock, c0, es, seen, left, (h2 j hjA).trans q1, q2⟩
     | bufk ty sz n c e => obtain ⟨v, xs, q1, q2⟩ := this; exact ⟨v, xs, (h2 j hjA).trans q1, q2⟩
     | dead => obtain ⟨n, sz, q1⟩ := this; exact ⟨n, sz, (h2 j hjA).trans q1⟩
     | grid tS ty sz n m e => obtain ⟨v, rows, q1, q2⟩ := this; exact ⟨v, rows, (h2 j hjA).trans q1, q2⟩
   · cases hq : ρ2 j with
     | none => rfl
     | some li =>
       have := keysB_mm.1 (hinv j li hq).1
       rw [hj] at this; cases this
   · exact iA j j' (hinv j li q3).1 (hinv j' li' q3').1 (O.inj _ _ li li' b (hinv j li q3).2 (hinv j' li' q3').2 q4 q4')
 refine (H.2 h w ρ2 _ hR2 hp hO2).mono (fun en w' he => ?_)
 cases en with
 | panicked ch => exact he.elim
 | outgrown => exact he.elim
 | returned x =>
 obtain ⟨h', ρ3, p1, p2, p3, p4, p5, p6, p7, p8, p9, p10, p11⟩ := he
 let ρ' : Rho := fun i => if hx : ∃ j, j ∈ keysB B ∧ look π j = i then ρ3 (Classical.choose hx) else none
 have hin : ∀ j, j ∈ keysB B → ρ' (look π j) = ρ3 j := fun j hj => by
   have hx : ∃ k, k ∈ keysB B ∧ look π k = look π j := ⟨j, hj, rfl⟩
   have e1 : ρ' (look π j) = ρ3 (Classical.choose hx) := dif_pos hx
   obtain ⟨q1, q2⟩ := Classical.choose_spec hx
   rw [e1, iB _ _ q1 hj q2]
 have hout : ∀ i li, ρ' i = some li → ∃ j, j ∈ keysB B ∧ i = look π j ∧ ρ3 j = some li := fun i li hi => by
   by_cases hx : ∃ j, j ∈ keysB B ∧ look π j = i
   · obtain ⟨j, q1, rfl⟩ := hx
     exact ⟨j, q1, rfl, (hin j q1).symm.trans hi⟩
   · have : ρ' i = none := dif_neg hx
     rw [this] at hi; cases hi
 have hmB : ∀ j, j ∈ keysB B → mm (renB π B) (look π j) = (mm B j).map (·.ren π) := mm_renB iB (fun _ h => h)
 refine ⟨h', ρ', p1, p2, p3, p4, fun kk hk hn => p5 kk hk (fun ho => hn ((hset kk).1 ho)), p6, p7, p8.ren (ids := keysB B) hin hv, ⟨fun i y hy => ?_, fun i hy => ?_, fun i li b q1 q2 => ?_, fun i i' li li' b q1 q1' q2 q2' => ?_⟩, fun i li b q1 q2 => ?_, fun i li li' q1 q2 => ?_⟩
 · have hi : i ∈ keysB (renB π B) := keysB_mm.2 (by rw [hy]; rfl)
   rw [keys_renB] at hi
   obtain ⟨j, q1, rfl⟩ := List.mem_map.1 hi
   rw [hmB j q1] at hy
   obtain ⟨y0, q2, rfl⟩ := Option.map_eq_some_iff.1 hy
   exact (p9.blk j y0 q2).ren (ids := keysB B) hin q1 (onlyBs_mm hB j y0 q2)
 · cases hq : ρ' i with
   | none => rfl
   | some li =>
     obtain ⟨j, q1, rfl, q2⟩ := hout i li hq
     rw [hmB j q1] at hy
     have := keysB_mm.1 q1
     cases hz : mm B j with
     | none => rw [hz] at this; cases this
     | some z => rw [hz] at hy; cases hy
 · obtain ⟨j, q3, rfl, q4⟩ := hout i li q1
   exact p9.own j li b q4 q2
 · obtain ⟨j, q3, rfl, q4⟩ := hout i li q1
   obtain ⟨j', q3', rfl, q4'⟩ := hout i' li' q1'
   rw [p9.inj j j' li li' b q4 q4' q2 q2']
 · obtain ⟨j, q3, rfl, q4⟩ := hout i li q1
   exact (p10 j li b q4 q2).imp (fun h => (hset b).1 h) (fun h => h)
 · obtain ⟨j, q3, rfl, q4⟩ := hout i li' q2
   obtain ⟨j2, q5, q6⟩ := hback _ li q1
   have : j = j2 := hinj j j2 (List.mem_append_right _ q3) (List.mem_append_left _ q5) q6
   subst this
   exact p11 j li li' ((h2 j q5).trans q1) q4
theorem CtrO.sim {P : Program} {f : FuncId} {args args' : List AV} {A A' B : List (Nat × Blk)} {v : AV} (H : CtrO P f args' A' v B) (hs : SimL args args') (hM : AgreeM A A') : CtrO P f args A v B := by
 refine ⟨H.1, fun h w ρ vs hR hp O => H.2 h w ρ vs ⟨by rw [hR.1, hs.spec.1], fun i c u hc hu => ?_⟩ hp ⟨fun id y hy => ?_, fun id hy => O.dom id (((hM.spec id).1).1 hy), O.own, O.inj⟩⟩
 · obtain ⟨l1, l2⟩ := hs.spec
   have hi : i < args.length := by rw [l1]; exact (List.getElem?_eq_some_iff.1 hc).1
   exact l2 i _ c (List.getElem?_eq_getElem hi) hc h ρ u (hR.2 i _ u (List.getElem?_eq_getElem hi) hu)
 · obtain ⟨x, q1, q2⟩ := (hM.spec id).2 y hy
   exact q2 h ρ id w (O.blk id x q1)
theorem Sim.po_rp {cs cs' : List AV} {b : Bool} (hb : b = true) (hs : SimL cs cs') : Sim (.rp cs) (.po b cs') := by
 intro h ρ v H
 subst hb
 refine .po _ _ _ _ (fun _ => ?_) (fun e => by cases e)
 cases H with
 | rp _ _ ad h1 h2 =>
   obtain ⟨l1, l2⟩ := hs.spec
   refine .rp _ _ _ (fun j hj => h1 j (by rw [l1]; exact hj)) (fun j c v hj hv => ?_)
   have hi : j < cs.length := by rw [l1]; exact (List.getElem?_eq_some_iff.1 hj).1
   exact l2 j _ c (List.getElem?_eq_getElem hi) hj h ρ0 v (h2 j _ v (List.getElem?_eq_getElem hi) hv)
theorem Sim.po_nil {cs : List AV} {b : Bool} (hb : b = false) : Sim .nilPtr (.po b cs) := by
 intro h ρ v H
 subst hb
 cases H
 exact .po _ _ _ _ (fun e => by cases e) (fun _ => rfl)
theorem Sim.po {cs cs' : List AV} {b : Bool} (hs : SimL cs cs') : Sim (.po b cs) (.po b cs') := by
 intro h ρ v H
 cases H with
 | po _ _ _ _ ht hf =>
 cases b with
 | false => exact .po _ _ _ _ (fun e => by cases e) hf
 | true => exact Sim.po_rp rfl hs h ρ v (ht rfl)
theorem Sim.rp_po {cs : List AV} {b : Bool} (hb : b = true) : Sim (.po b cs) (.rp cs) := by
 intro h ρ v H
 cases H with
 | po _ _ _ _ ht hf => exact ht hb
theorem Sim.rp {cs cs' : List AV} (hs : SimL cs cs') : Sim (.rp cs) (.rp cs') := by
 intro h ρ v H
 cases H with
 | rp _ _ ad h1 h2 =>
   obtain ⟨l1, l2⟩ := hs.spec
   refine .rp _ _ _ (fun j hj => h1 j (by rw [l1]; exact hj)) (fun j c v hj hv => ?_)
   have hi : j < cs.length := by rw [l1]; exact (List.getElem?_eq_some_iff.1 hj).1
   exact l2 j _ c (List.getElem?_eq_getElem hi) hj h ρ0 v (h2 j _ v (List.getElem?_eq_getElem hi) hv)
theorem BSim.cells {xs ys : List AV} (hs : SimL xs ys) : BSim (.cells xs) (.cells ys) := by
 intro h ρ id w H
 obtain ⟨b, vs, ty, q1, q2, q3, q4⟩ := H
 obtain ⟨l1, l2⟩ := hs.spec
 refine ⟨b, vs, ty, q1, q2, by rw [q3, l1], fun i c v hc hv => ?_⟩
 have hi : i < xs.length := by rw [l1]; exact (List.getElem?_eq_some_iff.1 hc).1
 exact l2 i _ c (List.getElem?_eq_getElem hi) hc h ρ v (q4 i _ v (List.getElem?_eq_getElem hi) hv)
theorem lend_off {S : Type} {W : Bool} {x : Option S} {d y : S} (h : (bif W then x else some d) = some y) (hW : W = false) : y = d := by
 subst hW; exact (Option.some.inj h).symm
end Go.Av
end
/- Owned results of several blocks: names changed at the return; empty slices within temporaries. -/
section
set_option linter.all false
namespace Go.Av
section
variable {N : Nat} {C : Ctx} {L : List (Nat × AV)} {M : List (Nat × Blk)} {g : Nat}
theorem fr_ren {π : List (Nat × Nat)} : ∀ {L : List (Nat × AV)} (t : Nat), fr (L.map fun x => (x.1, x.2.ren π)) t = (fr L t).ren π
 | [], t => by simp only [List.map_nil, fr, AV.ren]
 | (u, v) :: r, t => by
   simp only [List.map_cons, fr, put]
   split
   · rfl
   · exact fr_ren t
theorem At.ren {w0 : World} {h0 : Hp} {br : Nat → Prop} {R : Act → World → Prop} (π : List (Nat × Nat)) {K ts : List Nat} {L' : List (Nat × AV)} {M' : List (Nat × Blk)} (hL : filtL K L ts = some L') (hM : filtM K M K = some M') (hk : keysB M' = K) (hB : onlyBs K M' = true) (hi : injOn π K = true)
   (H : At N (Cq w0 h0 [] [] br) (L'.map fun x => (x.1, x.2.ren π)) (renB π M') g R) : At N (Cq w0 h0 [] [] br) L M g R := by
 intro h ρ0' a w I0
 obtain ⟨ρ, _, I⟩ := I0.forget hL hM rfl
 classical
 have hinj := injOn_spec hi
 let ρ' : Rho := fun i => if hx : ∃ j, j ∈ K ∧ look π j = i then ρ (Classical.choose hx) else none
 have hin : ∀ j, j ∈ K → ρ' (look π j) = ρ j := fun j hj => by
   have hx : ∃ k, k ∈ K ∧ look π k = look π j := ⟨j, hj, rfl⟩
   have e1 : ρ' (look π j) = ρ (Classical.choose hx) := dif_pos hx
   obtain ⟨q1, q2⟩ := Classical.choose_spec hx
   rw [e1, hinj _ _ q1 hj q2]
 have hout : ∀ i li, ρ' i = some li → ∃ j, j ∈ K ∧ i = look π j ∧ ρ j = some li := fun i li hi => by
   by_cases hx : ∃ j, j ∈ K ∧ look π j = i
   · obtain ⟨j, q1, rfl⟩ := hx
     exact ⟨j, q1, rfl, (hin j q1).symm.trans hi⟩
   · have : ρ' i = none := dif_neg hx
     rw [this] at hi; cases hi
 have hmB : ∀ j, j ∈ K → mm (renB π M') (look π j) = (mm M' j).map (·.ren π) := mm_renB hinj (fun i hi => hk ▸ hi)
 refine H h ρ' a w { I with slot := fun t => ?_, sav := ⟨rfl, fun i c v h1 => by simp [Cq] at h1⟩, blk := fun i y hy => ?_, dom := fun i hy => ?_, own := fun i li b q1 q2 => ?_, inj := fun i i' li li' b q1 q1' q2 q2' => ?_, gst := ?_ }
 · rw [fr_ren]
   rcases filtL_spec hL t with e | ⟨e, ho⟩
   · rw [e]; exact .any _ _
   · exact (I.slot t).ren (ids := K) hin ho
 · have hi : i ∈ keysB (renB π M') := keysB_mm.2 (by rw [hy]; rfl)
   rw [keys_renB] at hi
   obtain ⟨j, q1, rfl⟩ := List.mem_map.1 hi
   rw [hk] at q1
   rw [hmB j q1] at hy
   obtain ⟨y0, q2, rfl⟩ := Option.map_eq_some_iff.1 hy
   exact (I.blk j y0 q2).ren (ids := K) hin q1 (onlyBs_mm hB j y0 q2)
 · cases hq : ρ' i with
   | none => rfl
   | some li =>
     obtain ⟨j, q1, rfl, q2⟩ := hout i li hq
     rw [hmB j q1] at hy
     have := keysB_mm.1 (hk ▸ q1 : j ∈ keysB M')
     cases hz : mm M' j with
     | none => rw [hz] at this; cases this
     | some z => rw [hz] at hy; cases hy
 · obtain ⟨j, q3, rfl, q4⟩ := hout i li q1
   exact I.own j li b q4 q2
 · obtain ⟨j, q3, rfl, q4⟩ := hout i li q1
   obtain ⟨j', q3', rfl, q4'⟩ := hout i' li' q1'
   rw [I.inj j j' li li' b q4 q4' q2 q2']
 · obtain ⟨X, x1, x2, x3⟩ := I.gst
   refine ⟨X, fun b ⟨i, li, q1, q2⟩ => ?_, x2, x3⟩
   obtain ⟨j, q3, rfl, q4⟩ := hout i li q1
   exact x1 b ⟨j, li, q4, q2⟩
end
end Go.Av
end
/- An owned slice is only read from now on, wherever it is named. -/
section
set_option linter.all false
namespace Go.Av
mutual
/-- A value in which a name is read as what it stands for; what must hold for it. -/
def fz (id n' : Nat) (r : AV) (K : List Nat) : AV → Option (AV × List Prop)
 | .buf i n => match Nat.beq i id with
   | true => some (r, [n = n'])
   | false => match inList K i with
     | true => some (.buf i n, [])
     | false => none
 | .agg cs => match fzL id n' r K cs with
   | some (cs', ps) => some (.agg cs', ps)
   | none => none
 | .tup cs => match fzL id n' r K cs with
   | some (cs', ps) => some (.tup cs', ps)
   | none => none
 | v => match onlyIds K v with
   | true => some (v, [])
   | false => none
def fzL (id n' : Nat) (r : AV) (K : List Nat) : List AV → Option (List AV × List Prop)
 | [] => some ([], [])
 | c :: cs => match fz id n' r K c with
   | some (c', ps) => match fzL id n' r K cs with
     | some (cs', qs) => some (c' :: cs', appP ps qs)
     | none => none
   | none => none
end
theorem fz_other {id n' : Nat} {r : AV} {K : List Nat} {x y : AV} {ps : List Prop} (h : fz id n' r K x = some (y, ps)) (h1 : ∀ i n, x ≠ .buf i n) (h2 : ∀ cs, x ≠ .agg cs) (h3 : ∀ cs, x ≠ .tup cs) : onlyIds K x = true ∧ y = x := by
 cases x <;> first | exact absurd rfl (h1 _ _) | exact absurd rfl (h2 _) | exact absurd rfl (h3 _) | (simp only [fz] at h; split at h <;> cases h; exact ⟨by assumption, rfl⟩)
theorem fzL_get {id n' : Nat} {r : AV} {K : List Nat} : ∀ {cs cs' : List AV} {ps : List Prop}, fzL id n' r K cs = some (cs', ps) → cs'.length = cs.length ∧
   ∀ (i : Nat) (c' : AV), cs'[i]? = some c' → ∃ c qs, cs[i]? = some c ∧ fz id n' r K c = some (c', qs) ∧ ∀ q, q ∈ qs → q ∈ ps
 | [], cs', ps, h => by
   simp only [fzL] at h; cases h
   exact ⟨rfl, fun i c' hc => (by simp at hc)⟩
 | c :: cs, cs', ps, h => by
   simp only [fzL] at h
   split at h
   · rename_i d qs hd
     split at h
     · rename_i ds rs hds
       cases h
       obtain ⟨h1, h2⟩ := fzL_get hds
       refine ⟨by simp [h1], fun i c' hc => ?_⟩
       cases i with
       | zero => simp at hc; subst hc; exact ⟨c, qs, rfl, hd, fun q hq => appP_mem.2 (.inl hq)⟩
       | succ i =>
         obtain ⟨c0, q0, e1, e2, e3⟩ := h2 i c' (by simpa using hc)
         exact ⟨c0, q0, by simpa using e1, e2, fun q hq => appP_mem.2 (.inr (e3 q hq))⟩
     · cases h
   · cases h
theorem Rel.fz {h h' : Hp} {ρ ρ' : Rho} {id n' sz : Nat} {v0 : Value} {r : AV} {K : List Nat} (hle : Le h h') (hρ : ∀ i, i ∈ K → ρ' i = ρ i) (hid : ρ id = some (.sl n' sz v0)) (hr : Rel h' ρ' r v0) {x : AV} {v : Value} (H : Rel h ρ x v) :
   ∀ {y : AV} {ps : List Prop}, Go.Av.fz id n' r K x = some (y, ps) → (∀ q, q ∈ ps → q) → Rel h' ρ' y v := by
 induction H with
 | buf ρ i n n2 sz2 v v' hb hl h1 he =>
   intro y ps hy hp
   simp only [Go.Av.fz] at hy
   split at hy
   · rename_i hi
     cases hy
     have := Nat.eq_of_beq_eq_true hi
     subst this
     have hn : n = n' := hp _ (List.mem_cons_self ..)
     rw [hid] at hb; cases hb
     rw [he hn]; exact hr
   · split at hy
     · rename_i hk
       cases hy
       exact .buf _ _ _ _ _ _ _ ((hρ i (inList_mem hk)).trans hb) hl h1 he
     · cases hy
 | agg ρ cs vs hl hc ih =>
   intro y ps hy hp
   simp only [Go.Av.fz] at hy
   split at hy
   · rename_i cs' qs hcs
     cases hy
     obtain ⟨e1, e2⟩ := fzL_get hcs
     refine .agg _ _ _ (by rw [hl, e1]) fun i c v h1 h2 => ?_
     obtain ⟨c0, q0, k1, k2, k3⟩ := e2 i c h1
     exact ih i c0 v k1 h2 hρ hid k2 (fun q hq => hp q (k3 q hq))
   · cases hy
 | tup ρ cs vs hl hc ih =>
   intro y ps hy hp
   simp only [Go.Av.fz] at hy
   split at hy
   · rename_i cs' qs hcs
     cases hy
     obtain ⟨e1, e2⟩ := fzL_get hcs
     refine .tup _ _ _ (by rw [hl, e1]) fun i c v h1 h2 => ?_
     obtain ⟨c0, q0, k1, k2, k3⟩ := e2 i c h1
     exact ih i c0 v k1 h2 hρ hid k2 (fun q hq => hp q (k3 q hq))
   · cases hy
 | _ =>
   intro y ps hy hp
   obtain ⟨ho, rfl⟩ := fz_other hy (fun _ _ e => by cases e) (fun _ e => by cases e) (fun _ e => by cases e)
   refine Rel.forget hρ (Rel.heap ?_ hle) ho
   first | (constructor <;> assumption) | (constructor; done)
def fzS (id n' : Nat) (r : AV) (K : List Nat) (L : List (Nat × AV)) : List Nat → Option (List (Nat × AV) × List Prop)
 | [] => some ([], [])
 | t :: ts => match findL L t with
   | some x => match fz id n' r K x with
     | some (y, ps) => match fzS id n' r K L ts with
       | some (L', qs) => some ((t, y) :: L', appP ps qs)
       | none => none
     | none => none
   | none => none
def fzB (id n' : Nat) (r : AV) (K : List Nat) : Blk → Option (Blk × List Prop)
 | .cells cs => match fzL id n' r K cs with
   | some (cs', ps) => some (.cells cs', ps)
   | none => none
 | b => match onlyB K b with
   | true => some (b, [])
   | false => none
def fzM (id n' : Nat) (r : AV) (K : List Nat) (M : List (Nat × Blk)) : List Nat → Option (List (Nat × Blk) × List Prop)
 | [] => some ([], [])
 | t :: ts => match mm M t with
   | some x => match fzB id n' r K x with
     | some (y, ps) => match fzM id n' r K M ts with
       | some (M', qs) => some ((t, y) :: M', appP ps qs)
       | none => none
     | none => none
   | none => none
theorem fzS_spec {id n' : Nat} {r : AV} {K : List Nat} {L : List (Nat × AV)} : ∀ {ts : List Nat} {L' : List (Nat × AV)} {ps : List Prop}, fzS id n' r K L ts = some (L', ps) →
   ∀ t, fr L' t = .any ∨ ∃ qs, fz id n' r K (fr L t) = some (fr L' t, qs) ∧ ∀ q, q ∈ qs → q ∈ ps
 | [], L', ps, h, t => by simp only [fzS] at h; cases h; exact .inl rfl
 | u :: ts, L', ps, h, t => by
   simp only [fzS] at h
   split at h
   · rename_i x hx
     split at h
     · rename_i y qs hy
       split at h
       · rename_i L2 rs h2
         cases h
         simp only [fr, put]
         split
         · rename_i hb
           have := Nat.eq_of_beq_eq_true hb
           subst this
           rw [findL_fr hx]
           exact .inr ⟨qs, hy, fun q hq => appP_mem.2 (.inl hq)⟩
         · rcases fzS_spec h2 t with e | ⟨q0, e1, e2⟩
           · exact .inl e
           · exact .inr ⟨q0, e1, fun q hq => appP_mem.2 (.inr (e2 q hq))⟩
       · cases h
     · cases h
   · cases h
theorem fzM_spec {id n' : Nat} {r : AV} {K : List Nat} {M : List (Nat × Blk)} : ∀ {ts : List Nat} {M' : List (Nat × Blk)} {ps : List Prop}, fzM id n' r K M ts = some (M', ps) →
   (∀ t, t ∈ ts → (mm M' t).isSome = true) ∧ ∀ t y, mm M' t = some y → t ∈ ts ∧ ∃ x qs, mm M t = some x ∧ fzB id n' r K x = some (y, qs) ∧ ∀ q, q ∈ qs → q ∈ ps
 | [], M', ps, h => by simp only [fzM] at h; cases h; exact ⟨fun t ht => (by cases ht), fun t y hy => (by cases hy)⟩
 | u :: ts, M', ps, h => by
   simp only [fzM] at h
   split at h
   · rename_i x hx
     split at h
     · rename_i y qs hy
       split at h
       · rename_i L2 rs h2
         cases h
         obtain ⟨k1, k2⟩ := fzM_spec h2
         refine ⟨fun t ht => ?_, fun t z hz => ?_⟩
         · simp only [mm]
           by_cases e : t = u
           · subst e; rw [upd_same]; rfl
           · rw [upd_other _ _ e]
             exact k1 t ((List.mem_cons.1 ht).resolve_left e)
         · simp only [mm] at hz
           by_cases e : t = u
           · subst e; rw [upd_same] at hz; cases hz
             exact ⟨List.mem_cons_self .., x, qs, hx, hy, fun q hq => appP_mem.2 (.inl hq)⟩
           · rw [upd_other _ _ e] at hz
             obtain ⟨e0, x2, q2, e1, e2, e3⟩ := k2 t z hz
             exact ⟨List.mem_cons_of_mem _ e0, x2, q2, e1, e2, fun q hq => appP_mem.2 (.inr (e3 q hq))⟩
       · cases h
     · cases h
   · cases h
section
variable {N : Nat} {C : Ctx} {L : List (Nat × AV)} {M : List (Nat × Blk)} {g : Nat} {R : Act → World → Prop}
theorem At.freezeA (id : Nat) {ty sz n' : Nat} {e : Nat → List AV} {K ts : List Nat} {L' : List (Nat × AV)} {M' : List (Nat × Blk)} {ps qs : List Prop} (hM : mm M id = some (.buf ty sz n' e)) (hK : inList K id = false)
   (hL : fzS id n' (.ro sz n' e) K L ts = some (L', ps)) (hMK : fzM id n' (.ro sz n' e) K M K = some (M', qs)) (hps : AllP ps) (hqs : AllP qs)
   (hbor : ∀ b, ¬ C.bor b) (Kk : At N C L' M' g R) (hs : onlyL K C.savA = true := by rfl) : At N C L M g R := by
 intro h ρ a w I
 have hps := hps.mem
 have hqs := hqs.mem
 obtain ⟨v, us, k1, k2, k3, k5, k4⟩ := I.blk id _ hM
 obtain ⟨m1, m2⟩ := fzM_spec hMK
 have hidK : id ∉ K := fun hk => by rw [inList_of hk] at hK; cases hK
 classical
 let h' : Hp := fun b => if v.ownBlock = some b then w.heap[b]? else h b
 let ρ' : Rho := fun i => if i ∈ K then ρ i else none
 have hρ : ∀ i, i ∈ K → ρ' i = ρ i := fun i hi => if_pos hi
 have hρ' : ∀ i li, ρ' i = some li → i ∈ K ∧ ρ i = some li := fun i li hi => by
   have : (if i ∈ K then ρ i else none) = some li := hi
   split at this
   · exact ⟨by assumption, this⟩
   · cases this
 have hin : ∀ b, v.ownBlock = some b → h' b = w.heap[b]? := fun b hb => if_pos hb
 have hle : ∀ b o, h b = some o → h' b = some o := by
   intro b o hb
   show (if v.ownBlock = some b then w.heap[b]? else h b) = some o
   split
   · exact I.hp b o hb
   · exact hb
 have hge : ∀ b, v.ownBlock = some b → C.w0.heap.size ≤ b := fun b hb => (I.own id _ b k1 hb).2.2.resolve_right (hbor b)
 have hnew : ∀ b o, h' b = some o → (v.ownBlock = some b ∧ w.heap[b]? = some o) ∨ h b = some o := by
   intro b o hb
   have : (if v.ownBlock = some b then w.heap[b]? else h b) = some o := hb
   split at this
   · exact .inl ⟨by assumption, this⟩
   · exact .inr this
 have hr : Rel h' ρ' (.ro sz n' e) v := (ro_of_own k2 (fun b hb => hin b hb) k3 k5 (fun i j c x a1 a2 a3 => (k4 i j c x a1 a2 a3).heap (Le.of hle))).closed
 refine Kk h' ρ' a w { I with slot := fun t => ?_, sav := ⟨I.sav.1, fun i c x h1 h2 => ((I.sav.2 i c x h1 h2).heap (Le.of hle)).forget hρ (onlyL_get hs h1)⟩, hp := fun b o hb => ?_, blk := fun i y hy => ?_, dom := fun i hi => ?_, own := fun i li b q1 q2 => ?_, inj := fun i i' li li' b q1 q1' q2 q2' => I.inj i i' li li' b (hρ' _ _ q1).2 (hρ' _ _ q1').2 q2 q2', ext := fun b o hb => hle b o (I.ext b o hb), old := fun b o hb hlt => ?_, gst := ?_, dfr := ?_ }
 · rcases fzS_spec hL t with e1 | ⟨q0, e1, e2⟩
   · rw [e1]; exact .any _ _
   · exact Rel.fz (Le.of hle) hρ k1 hr (I.slot t) e1 (fun q hq => hps q (e2 q hq))
 · rcases hnew b o hb with q | q
   · exact q.2
   · exact I.hp b o q
 · obtain ⟨hik, x, q0, e1, e2, e3⟩ := m2 i y hy
   have H := I.blk i x e1
   have other : ∀ z, onlyB K z = true → BlkOk h ρ i z w → BlkOk h' ρ' i z w := fun z ho Hz => ((Hz.keep (Le.of hle) rfl (hle_refl _) (fun _ _ _ _ => rfl)).forget hρ hik ho)
   cases x with
   | cells cs =>
     simp only [fzB] at e2
     split at e2
     · rename_i cs' q2 hcs
       cases e2
       obtain ⟨b, vs, ty', z1, z2, z3, z4⟩ := H
       obtain ⟨l1, l2⟩ := fzL_get hcs
       refine ⟨b, vs, ty', (hρ i hik).trans z1, z2, by rw [z3, l1], fun j c u hc hu => ?_⟩
       obtain ⟨c0, q3, y1, y2, y3⟩ := l2 j c hc
       exact Rel.fz (Le.of hle) hρ k1 hr (z4 j c0 u y1 hu) y2 (fun q hq => hqs q (e3 q (y3 q hq)))
     · cases e2
   | _ =>
     simp only [fzB] at e2
     split at e2
     · rename_i ho
       cases e2
       exact other _ ho H
     · cases e2
 · cases hq : ρ' i with
   | none => rfl
   | some li =>
     have := m1 i (hρ' i li hq).1
     rw [hi] at this; cases this
 · obtain ⟨q3, q4⟩ := hρ' i li q1
   obtain ⟨z1, z2, z3⟩ := I.own i li b q4 q2
   refine ⟨?_, z2, z3⟩
   show (if v.ownBlock = some b then w.heap[b]? else h b) = none
   rw [if_neg (fun hv : v.ownBlock = some b => hidK ((I.inj i id li _ b q4 k1 q2 hv) ▸ q3))]
   exact z1
 · rcases hnew b o hb with q | q
   · exact absurd hlt (Nat.not_lt.2 (hge b q.1))
   · exact I.old b o q hlt
 · obtain ⟨X, x1, x2, x3⟩ := I.gst
   refine ⟨X, fun b ⟨i, li, q1, q2⟩ => x1 b ⟨i, li, (hρ' i li q1).2, q2⟩, fun b o hb => ?_, x3⟩
   rcases hnew b o hb with q | q
   · exact .inr (x1 b ⟨id, _, k1, q.1⟩)
   · exact x2 b o q
 · obtain ⟨Ds, hd1, hd2, hd3⟩ := I.dfr
   exact ⟨Ds, hd1, hd2, fun D hD => ⟨hle _ _ (hd3 D hD).1, (hd3 D hD).2⟩⟩
end
end Go.Av
end
/- Rows that grow, at loops: no rows as rows that are owned; what rows hold. -/
section
set_option linter.all false
namespace Go.Av
open Go.Sp
def setNilG : List AV → Nat → Nat → Option (List AV)
 | .nilS :: r, 0, id => some (.gb id 0 :: r)
 | x :: r, j + 1, id => match setNilG r j id with
   | some r' => some (x :: r')
   | none => none
 | _, _, _ => none
theorem setNilG_spec {id : Nat} : ∀ {cs cs' : List AV} {j : Nat}, setNilG cs j id = some cs' → cs'.length = cs.length ∧ ∀ (i : Nat) (c : AV), cs'[i]? = some c → cs[i]? = some c ∨ (c = .gb id 0 ∧ cs[i]? = some .nilS) := by
 intro cs
 induction cs with
 | nil => intro cs' j h; cases j <;> simp [setNilG] at h
 | cons x r ih =>
   intro cs' j h
   cases j with
   | zero =>
     cases x <;> simp only [setNilG] at h <;> cases h
     refine ⟨rfl, fun i c hc => ?_⟩
     cases i with
     | zero => simp at hc; subst hc; exact .inr ⟨rfl, rfl⟩
     | succ i => exact .inl (by simpa using hc)
   | succ j =>
     simp only [setNilG] at h
     split at h
     · rename_i r' hr
       cases h
       obtain ⟨h1, h2⟩ := ih hr
       refine ⟨by simp [h1], fun i c hc => ?_⟩
       cases i with
       | zero => exact .inl (by simpa using hc)
       | succ i => simpa using h2 i c (by simpa using hc)
     · cases h
section
variable {N : Nat} {C : Ctx} {L : List (Nat × AV)} {M : List (Nat × Blk)} {g : Nat}
theorem At.nilOwnCellG {R : Act → World → Prop} (i0 j0 id tS ty sz : Nat) {e : Nat → Nat → List AV} {m : Nat → Nat} {cs cs' : List AV} (hc : mm M i0 = some (.cells cs)) (hs : setNilG cs j0 id = some cs') (hid : mm M id = none) (K : At N C L ((i0, .cells cs') :: (id, .grid tS ty sz 0 m e) :: M) g R) : At N C L M g R := by
 intro h ρ a w I
 have hρ := I.dom id hid
 have hne0 : i0 ≠ id := by rintro rfl; rw [hc] at hid; cases hid
 have hle : ∀ i l, ρ i = some l → ∃ l', upd ρ id (some (.grid (.slice none 0 0) sz [])) i = some l' ∧ l.le l' := by
   intro i l hi
   have hne : i ≠ id := by rintro rfl; rw [hρ] at hi; cases hi
   exact ⟨l, by rw [upd_other _ _ hne]; exact hi, .inl rfl⟩
 have I' : InvH N C h (upd ρ id (some (.grid (.slice none 0 0) sz []))) (fr L) (mm ((id, .grid tS ty sz 0 m e) :: M)) g a w := by
   refine I.step (S := fun i => i = id) rfl rfl rfl (Nat.le_refl _) (fun _ _ _ => rfl) (fun i hi => upd_other _ _ hi) hle (fun _ _ h => h) (fun _ _ h => .inl h) (fun i hi => upd_other _ _ hi) ?_ ?_ ?_ ?_
   · rintro i rfl hM; simp only [mm] at hM; rw [upd_same] at hM; cases hM
   · rintro i y rfl hM; simp only [mm] at hM; rw [upd_same] at hM; cases hM
     exact ⟨.slice none 0 0, [], upd_same _ _ _, rfl, ⟨by simp, .inl ⟨rfl, rfl⟩⟩, fun j x hx => by simp at hx, fun j j' x x' b hx => by simp at hx, fun j x b hx => by simp at hx⟩
   · rintro i l b rfl h1 h2; rw [upd_same] at h1; cases h1; simp [LI.owns, Value.ownBlock] at h2
   · rintro i i' l l' b rfl rfl _ _ _ _; rfl
 refine K h _ a w { I' with blk := fun i x hx => ?_, dom := fun i hi => I'.dom i ?_ }
 · simp only [mm] at hx
   by_cases hi : i = i0
   · subst hi
     rw [upd_same] at hx; cases hx
     have hold : mm ((id, .grid tS ty sz 0 m e) :: M) i = some (.cells cs) := by simp only [mm]; rw [upd_other _ _ hne0]; exact hc
     obtain ⟨b, vs, ty', q1, q2, q3, q4⟩ := I'.blk i _ hold
     obtain ⟨s1, s2⟩ := setNilG_spec hs
     refine ⟨b, vs, ty', q1, q2, by rw [q3, s1], fun j c v hj hv => ?_⟩
     rcases s2 j c hj with e1 | ⟨rfl, e1⟩
     · exact q4 j c v e1 hv
     · have := q4 j _ v e1 hv
       cases this
       exact .gb _ _ _ _ _ (upd_same _ _ _) (fun v1 sz1 rows1 ee => by cases ee; exact ⟨Nat.le_refl _, fun _ => rfl⟩) rfl
   · rw [upd_other _ _ hi] at hx
     exact I'.blk i x hx
 · simp only [mm] at hi ⊢
   by_cases hi0 : i = i0
   · subst hi0; rw [upd_same] at hi; cases hi
   · rw [upd_other _ _ hi0] at hi; exact hi
end
theorem GSeg.one {T : Type} [Inhabited T] {f : T → List AV} {k : Nat} {e2 : Nat → List AV} {row : List T} (h : Seg f k e2 row) : GSeg f 1 (fun _ => k) (fun _ => e2) [row] := by
 obtain ⟨rfl, h2⟩ := h
 refine ⟨rfl, fun i hi => ?_, fun i j hi hj => ?_⟩
 · obtain rfl : i = 0 := by omega
   rfl
 · obtain rfl : i = 0 := by omega
   exact h2 j hj
theorem GSeg.push {T : Type} [Inhabited T] {f : T → List AV} {n n2 : Nat} {m m2 : Nat → Nat} {e e2 : Nat → Nat → List AV} {l l2 : List (List T)} (h : GSeg f n m e l) (h2 : GSeg f n2 m2 e2 l2) :
   GSeg f (n + n2) (fun a => if a < n then m a else m2 (a - n)) (fun a => if a < n then e a else e2 (a - n)) (l ++ l2) := by
 obtain ⟨rfl, g1, g2⟩ := h
 obtain ⟨rfl, k1, k2⟩ := h2
 refine ⟨by simp, fun i hi => ?_, fun i j hi hj => ?_⟩
 · by_cases hl : i < l.length
   · simp only [hl, if_true]; rw [g1 i hl]; simp [List.getD_eq_getElem?_getD, List.getElem?_append_left hl]
   · simp only [hl, if_false]; rw [k1 _ (by omega)]; simp [List.getD_eq_getElem?_getD, List.getElem?_append_right (Nat.le_of_not_lt hl)]
 · by_cases hl : i < l.length
   · simp only [hl, if_true] at hj ⊢; rw [g2 i j hl hj]; simp [List.getD_eq_getElem?_getD, List.getElem?_append_left hl]
   · simp only [hl, if_false] at hj ⊢; rw [k2 _ j (by omega) hj]; simp [List.getD_eq_getElem?_getD, List.getElem?_append_right (Nat.le_of_not_lt hl)]
end Go.Av
end
/- slices.Insert of one element into an owned row, out of walks of its body (which a claim prints for its program). -/
section
set_option linter.all false
namespace Go.Av
open Go Go.Lib
structure InsW (P : Program) (f tS tI fo sz : Nat) : Prop where
 shift : ∀ (g n c i vb vc : Nat) (w W1 W2 : World), i < n → n + 1 ≤ c → c ≤ 9223372036854775807 →
   (∀ lb cb o, (callFunc fo #[.slice (some ⟨vb, 0, none⟩) 1 vc, .slice (some ⟨g, o, none⟩) lb cb]).run P w = .ok (.value (.bool false)) w) →
   (∀ ty dc sc, (Builtin.copy_ #[tS, tS] ty #[.slice (some ⟨g, (i + 1) * sz, none⟩) (n - i) dc, .slice (some ⟨g, i * sz, none⟩) (n + 1 - i) sc]).run P w.drew = .ok (goInt (n - i)) W1) →
   (∀ ty dc, (Builtin.copy_ #[tS, tS] ty #[.slice (some ⟨g, i * sz, none⟩) (n + 1 - i) dc, .slice (some ⟨vb, 0, none⟩) 1 vc]).run P W1 = .ok (goInt 1) W2) →
   Calls P f #[.slice (some ⟨g, 0, none⟩) n c, .int .i64 i, .slice (some ⟨vb, 0, none⟩) 1 vc] w fun e w' => e = .returned (.slice (some ⟨g, 0, none⟩) (n + 1) c) ∧ w' = W2
 end_ : ∀ (g n c vb vc : Nat) (w : World) (v' : Value) (w' : World), n ≤ c → c ≤ 9223372036854775807 →
   (∀ ty, (Builtin.append_ #[tS, tS] ty #[.slice (some ⟨g, 0, none⟩) n c, .slice (some ⟨vb, 0, none⟩) 1 vc]).run P w = .ok v' w') →
   Calls P f #[.slice (some ⟨g, 0, none⟩) n c, .int .i64 n, .slice (some ⟨vb, 0, none⟩) 1 vc] w fun e w2 => e = .returned v' ∧ w2 = w'
 nil_ : ∀ (vb vc : Nat) (w : World) (v' : Value) (w' : World),
   (∀ ty, (Builtin.append_ #[tS, tS] ty #[.slice none 0 0, .slice (some ⟨vb, 0, none⟩) 1 vc]).run P w = .ok v' w') →
   Calls P f #[.slice none 0 0, .int .i64 0, .slice (some ⟨vb, 0, none⟩) 1 vc] w fun e w2 => e = .returned v' ∧ w2 = w'
 grow : ∀ (g n c i vb vc g2 c2 : Nat) (w W1 W2 W3 : World), i < n → n ≤ c → c < n + 1 → n + 1 ≤ 9223372036854775807 → n + 1 ≤ c2 → c2 ≤ 9223372036854775807 →
   (∀ ty, (Builtin.append_ #[tS, tI] ty #[.slice (some ⟨g, 0, none⟩) i c, .int .i64 ((n : Int) + 1 - (i : Int))]).run P w = .ok (.slice (some ⟨g2, 0, none⟩) (n + 1) c2) W1) →
   (∀ ty dc, (Builtin.copy_ #[tS, tS] ty #[.slice (some ⟨g2, i * sz, none⟩) (n + 1 - i) dc, .slice (some ⟨vb, 0, none⟩) 1 vc]).run P W1 = .ok (goInt 1) W2) →
   (∀ ty dc sc, (Builtin.copy_ #[tS, tS] ty #[.slice (some ⟨g2, (i + 1) * sz, none⟩) (n - i) dc, .slice (some ⟨g, i * sz, none⟩) (n - i) sc]).run P W2.drew = .ok (goInt (n - i)) W3) →
   Calls P f #[.slice (some ⟨g, 0, none⟩) n c, .int .i64 i, .slice (some ⟨vb, 0, none⟩) 1 vc] w fun e w' => e = .returned (.slice (some ⟨g2, 0, none⟩) (n + 1) c2) ∧ w' = W3
end Go.Av
end
/- Cells that are only read from now on, wherever they are named. -/
section
set_option linter.all false
namespace Go.Av
section
variable {N : Nat} {C : Ctx} {L : List (Nat × AV)} {M : List (Nat × Blk)} {g : Nat} {R : Act → World → Prop}
end
end Go.Av
end
/- Ranges over maps: whichever entry comes next. -/
section
set_option linter.all false
namespace Go.Av
open Go.ChangeMaps (setBlock)
section
variable {P : Program} {N : Nat} {C : Ctx} {rr : Option Nat} {L : List (Nat × AV)} {M : List (Nat × Blk)} {g : Nat} {Q : Exit → Act → World → Prop}
theorem left_push {es : Array MapEntry} {seen : Array Nat} {x : MapEntry} {left : List Int} {k : Int} (hk : (leftOf es seen).toList.map (·.key) = left.map (fun k => Value.int .i64 k)) (hx : x ∈ (leftOf es seen).toList) (hn : (es.toList.map (·.born)).Nodup) (hkey : x.key = .int .i64 k) :
   ∃ left' : List Int, left.Perm (k :: left') ∧ (leftOf es (seen.push x.born)).toList.map (·.key) = left'.map (fun k => Value.int .i64 k) := by
 have h1 : (leftOf es (seen.push x.born)).toList = (leftOf es seen).toList.filter (fun e => e.born != x.born) := by
   unfold leftOf
   simp only [Array.toList_filter, List.filter_filter]
   congr 1
   funext e
   by_cases he : e.born = x.born
   · simp [he]
   · have : (seen.push x.born).contains e.born = seen.contains e.born := by
       rw [Bool.eq_iff_iff]; simp [he]
     rw [this]
     have hb : (e.born != x.born) = true := by simpa using he
     rw [hb, Bool.true_and]
 have hsub : (leftOf es seen).toList.Sublist es.toList := by
   unfold leftOf; simp only [Array.toList_filter]; exact List.filter_sublist
 have hnl : ((leftOf es seen).toList.map (·.born)).Nodup := (hsub.map _).nodup hn
 generalize (leftOf es seen).toList = l at hk hx h1 hnl
 rw [h1]
 clear h1 hsub
 induction l generalizing left with
 | nil => cases hx
 | cons y l ih =>
   cases left with
   | nil => simp at hk
   | cons k0 left =>
   simp only [List.map_cons, List.cons.injEq] at hk
   simp only [List.map_cons, List.nodup_cons] at hnl
   rcases List.mem_cons.1 hx with rfl | hx
   · have hkk : k0 = k := by have := hk.1; rw [hkey] at this; cases this; rfl
     subst hkk
     refine ⟨left, List.Perm.refl _, ?_⟩
     rw [List.filter_cons_of_neg (by simp)]
     rw [List.filter_eq_self.2 (fun z hz => by
       have : z.born ≠ x.born := fun e => hnl.1 (e ▸ List.mem_map_of_mem hz)
       simpa using this)]
     exact hk.2
   · obtain ⟨left', p1, p2⟩ := ih hk.2 hx hnl.2
     refine ⟨k0 :: left', (p1.cons k0).trans (List.Perm.swap _ _ _), ?_⟩
     have : y.born ≠ x.born := fun e => hnl.1 (e ▸ List.mem_map_of_mem hx)
     rw [List.filter_cons_of_pos (by simpa using this), List.map_cons, List.map_cons, p2, hk.1]
theorem W.next {rid : Nat} {o1 o2 : Oper} {it d1 d2 id : Nat} {e : Int → AV} {left : List Int} (h1 : o1.op = .next (.tmp it) false) (g1 : o1.guard = none) (hd1 : o1.dst = some d1) (h2 : o2.op = .extract (.tmp d1) 0) (g2 : o2.guard = none) (hd2 : o2.dst = some d2)
   (hl1 : Nat.blt d1 N = true) (hl2 : Nat.blt d2 N = true) (hne : Nat.beq d1 d2 = false) (hL : fr L it = .lp id 0) (hM : mm M id = some (.iter e none (fun l => l = left)))
   (K0 : left = [] → At N C ((d2, .bool false) :: (d1, .any) :: L) M g (Q .normal))
   (K1 : ∀ k left', left.Perm (k :: left') → At N C ((d2, .bool true) :: (d1, .any) :: L) ((id, .iter e (some k) (fun l => l = left')) :: M) g (Q .normal)) : W P N rr C (.region rid #[o1, o2] false) L M g Q := by
 intro h ρ a w I
 obtain ⟨b, bm, clock, c0, es, seen, left0, q1, q2, q3, q4, q5, q6, q7, rfl, q9, q10⟩ := I.blk id _ hM
 have hlt1 : d1 < N := Nat.le_of_ble_eq_true hl1
 have hlt2 : d2 < N := Nat.le_of_ble_eq_true hl2
 have hne' : d1 ≠ d2 := fun e => by subst e; simp at hne
 have hit : a.eval (.tmp it) = .pointer (some ⟨b, 0, none⟩) := by
   have := I.slot it
   rw [hL] at this
   show a.tmps.getD it undef = _
   generalize a.tmps.getD it undef = v at this
   cases this with
   | lp _ _ _ b' hb => rw [q1] at hb; cases hb; rfl
 refine wpIn_region ?_
 have hr2 : List.range #[o1, o2].size = [0, 1] := rfl
 rw [hr2, wpOpsIn_cons]
 unfold wpOpIn
 simp only [List.getElem?_toArray, List.getElem?_cons_zero]
 rw [if_pos (by simp [Region.wanted, g1])]
 have hd01 : ∀ c, o1.op ≠ .defer c := fun c e => by rw [h1] at e; cases e
 have hd02 : ∀ c, o2.op ≠ .defer c := fun c e => by rw [h2] at e; cases e
 have second : ∀ (v : Bool) (vs : List Value) (w' : World) (a' : Act), a'.tmps.getD d1 undef = .tuple (Value.bool v :: vs).toArray → Q .normal (a'.put (some d2) (.bool v)) w' → wpOpsIn (Fw rr) 1 P #[o1, o2] Q [1] a' w' := by
   intro v vs w' a' hv hq
   rw [wpOpsIn_cons]
   unfold wpOpIn
   simp only [List.getElem?_toArray, List.getElem?_cons_succ, List.getElem?_cons_zero]
   rw [if_pos (by simp [Region.wanted, g2])]
   refine ⟨fun _ _ => trivial, ?_⟩
   rw [Oper.semAt_eq _ _ _ hd02]
   have hrun : (execOp a'.eval o2).run P w' = .ok (.value (.bool v)) w' := by
     unfold execOp
     have : a'.eval (.tmp d1) = .tuple (Value.bool v :: vs).toArray := hv
     simp [h2, this, Instr.extract]
   rw [hrun, Oper.uponIn_value, hd2]
   exact hq
 refine ⟨fun _ _ => trivial, ?_⟩
 rw [Oper.semAt_eq _ _ _ hd01]
 have hex : ∀ (r : Result Value), (Instr.next (.pointer (some ⟨b, 0, none⟩)) false o1.type).run P w = r → (execOp a.eval o1).run P w = r.andThen fun v w => .ok (.value v) w := by
   intro r hr
   unfold execOp
   simp only [h1, hit, Sem.run_bind, hr, Sem.run_pure]
 have putL : ∀ {h' : Hp} {ρ' : Rho} {M' : Mm} {w' : World} (u : Value) (v : Bool), InvH N C h' ρ' (fr L) M' g a w' → InvH N C h' ρ' (fr ((d2, .bool v) :: (d1, .any) :: L)) M' g ((a.put (some d1) u).put (some d2) (.bool v)) w' := fun u v I0 =>
   (I0.put (d := some d1) (v := .any) (fun t ht => by cases ht; exact hlt1) (.any _ u)).put (d := some d2) (v := .bool v) (fun t ht => by cases ht; exact hlt2) (.bool _ v)
 have get1 : ∀ u, (a.put (some d1) u).tmps.getD d1 undef = u := fun u => by
   have : d1 < a.tmps.size := by rw [I.size]; exact hlt1
   simp [Act.put, this]
 rcases run_next_at (P := P) w o1.type b bm clock c0 seen es.toArray clock q2 (I.hp _ _ q3) (by simpa using q4) q6 with ⟨hz, hr⟩ | ⟨x, hx, w1, hw1, hr⟩
 · rw [hex _ hr]
   simp only [Result.andThen]
   rw [Oper.uponIn_value, hd1]
   refine second false [] w _ (get1 _) ?_
   have hnil : left0 = [] := by
     have h0 : (leftOf es.toArray seen).toList = [] := List.eq_nil_of_length_eq_zero (by simpa using hz)
     rw [h0] at q7
     cases left0 with
     | nil => rfl
     | cons => simp at q7
   exact K0 hnil h ρ _ w (putL _ false I)
 · rw [hex _ hr]
   simp only [Result.andThen]
   rw [Oper.uponIn_value, hd1]
   refine second true [x.key, x.val] _ _ (get1 _) ?_
   have hxe : x ∈ es := by
     unfold leftOf at hx
     simp at hx; exact hx.1
   obtain ⟨k, k1, k2⟩ := q9 x hxe
   obtain ⟨left', p1, p2⟩ := left_push q7 hx (by simpa using q5) k1
   have I1 : InvH N C h ρ (fr L) (mm M) g a w1 := by
     rcases hw1 with rfl | rfl
     · exact I
     · exact I.drew
   have hb1 : w1.heap[b]? = some (.mapIter (some bm) clock seen c0) := by rcases hw1 with rfl | rfl <;> exact q2
   have hblt : b < w1.heap.size := (Array.getElem?_eq_some_iff.1 hb1).1
   have hbm : bm ≠ b := by rintro rfl; have := I.hp _ _ q3; rw [q2] at this; cases this
   have I2 := I1.turn (w' := setBlock w1 b (.mapIter (some bm) clock (seen.push x.born) clock)) q1 (.iter e (some k) (fun l => l = left')) rfl rfl rfl (by simp [setBlock]) (fun j hj => by simp [setBlock, Array.getElem?_setIfInBounds_ne (Ne.symm hj)])
     ⟨b, bm, clock, clock, es, seen.push x.born, left', q1, by simp [setBlock, hblt], q3, q4, q5, Nat.le_refl _, p2, rfl, q9, fun k' hk' => by cases hk'; exact ⟨rfl, x, seen, hxe, k1, rfl⟩⟩
   exact K1 k left' p1 h ρ _ _ (putL _ true I2)
end
end Go.Av
end
/- slices.Sort at []int, whose contract the library has, as a function that a slice is lent to. -/
section
set_option linter.all false
namespace Go.Av
open Go Go.Sort Go.Proofs
theorem sort_ctr {P : Program} {f : FuncId} (hent : Enters P f)
   (hC : ∀ (blk off cap : Nat) (zs : List Int) (w : World), Holds (Value.int .i64) w blk off zs.toArray → blk < w.heap.size → zs.length < 4611686018427387904 →
     Calls P f #[.slice (some ⟨blk, off, none⟩) zs.length cap] w fun e w' => e = .returned (.tuple #[]) ∧ ∃ n os, w' = grow (putRow (Value.int .i64) (Sort.ahead w n) blk off (zs.mergeSort fun x y => decide (x ≤ y)).toArray) os)
   (hN : ∀ (p : Option Addr) (cap : Nat) (w : World), Calls P f #[.slice p 0 cap] w fun e w' => e = .returned (.tuple #[]) ∧ w' = w)
   (ty : Nat) (l : List Int) {r : List Int} (H : Sp.slices_Sort_int_l l = some r) :
   CtrO P f [.buf 90000 l.length] [(90000, bufL ty 1 (fun x => [.int .i64 x]) l)] (.tup []) [(90000, bufL ty 1 (fun x => [.int .i64 x]) r)] := by
 unfold Sp.slices_Sort_int_l at H
 obtain ⟨hlen, H⟩ := Sp.of_must H
 cases H
 refine ⟨hent, fun h w ρ vs hR hp O => ?_⟩
 obtain ⟨hl, hg⟩ := hR
 match vs, hl with
 | [v], _ =>
 have hv := hg 0 _ v rfl rfl
 obtain ⟨v0, xs, b1, b2, b3, b4, b5⟩ := O.blk 90000 _ rfl
 have : v = v0 := by
   generalize hn : l.length = n at hv
   cases hv with
   | buf _ _ _ n2 sz2 _ v' hb hle h1 he => rw [b1] at hb; cases hb; exact he hn.symm
 subst this
 have wide : ∀ {R : Ending → World → Prop} {args : Array Value}, Calls P f args w R → CallsIn (Fw none) 0 P f args w R := fun hc => callsIn_wide.2 hc
 have hxs : xs = l.map (Value.int .i64) := by
   have hlx : xs.length = l.length := by have := b2.1; omega
   refine List.ext_getElem (by simp [hlx]) (fun i h1 h2 => ?_)
   have := b5 i 0 (.int .i64 (l.getD i default)) xs[i] (by omega) rfl (by rw [Nat.mul_one, Nat.add_zero]; exact List.getElem?_eq_getElem h1)
   generalize xs[i] = v at this ⊢
   cases this
   rw [List.getElem_map, List.getD_eq_getElem?_getD, List.getElem?_eq_getElem (by omega)]; rfl
 rcases b2.2 with ⟨hnil, hl0⟩ | ⟨g, cap, cur, rfl, hg0, hcur, q1, q2, q3, q4⟩
 · subst hnil
   have e0 : l = [] := List.length_eq_zero_iff.1 hl0
   subst e0
   refine (wide (hN none 0 w)).mono (fun en w' he => ?_)
   obtain ⟨rfl, rfl⟩ := he
   exact ⟨h, ρ, rfl, rfl, rfl, Nat.le_refl _, fun k _ _ => rfl, fun b o hb => hb, fun b o hb => .inl hb, .tup _ _ [] rfl (fun i c v hc => by simp at hc), ⟨O.blk, O.dom, O.own, O.inj⟩, fun id li b q1 q2 => .inl ⟨id, li, q1, q2⟩, fun id li li' q1 q2 => by rw [q1] at q2; cases q2; exact LI.le_refl _⟩
 · have hgs : g < w.heap.size := heap_lt hcur
   rw [Nat.mul_one] at q3 q4
   have hold := holds_of_blockI (ss := l) hcur (by rw [q4, hxs])
   have hc := hC g 0 cap l w hold hgs hlen
   refine (wide hc).mono (fun en w' he => ?_)
   obtain ⟨rfl, n, os, rfl⟩ := he
   rw [Sp.merge_isort]
   obtain ⟨s1, s2, s3, s4, s5⟩ := grownBy_sortedI (w := w) (g := g) (n := n) (os := os) (Sp.isort l).toArray
   have hin : ownSet ρ g := ⟨90000, _, b1, rfl⟩
   refine ⟨h, ρ, s1, s2, s3, s4, fun k hk hn => s5 k hk (fun e => hn (by cases e; exact hin)), fun b o hb => hb, fun b o hb => .inl hb, .tup _ _ [] rfl (fun i c v hc => by simp at hc), ⟨fun id x hx => ?_, fun id hid => ?_, fun id li b q1 q2 => ⟨(O.own id li b q1 q2).1, Nat.lt_of_lt_of_le (O.own id li b q1 q2).2 s4⟩, O.inj⟩, fun id li b q1 q2 => .inl ⟨id, li, q1, q2⟩, fun id li li' q1 q2 => by rw [q1] at q2; cases q2; exact LI.le_refl _⟩
   · have hid : id = 90000 := by
       by_cases e : id = 90000
       · exact e
       · simp only [mm] at hx; rw [upd_other _ _ e] at hx; cases hx
     subst hid
     simp only [mm] at hx; rw [upd_same] at hx; cases hx
     have own := ownsRow_sortedI (w := w) (base := 0) (g := g) (cap := cap) (n := n) (os := os) (ss := l) (ts := Sp.isort l) (Sp.isort_length l) hg0 hcur q1 q2 (by rw [q3, Nat.mul_one])
     refine ⟨_, (Sp.isort l).map (Value.int .i64), by rw [Sp.isort_length]; exact b1, by rw [Sp.isort_length]; exact own, fun i _ => rfl, fun x hx => ?_, fun i j c x hi hc hx => ?_⟩
     · obtain ⟨z, _, rfl⟩ := List.mem_map.1 hx; rfl
     · cases j with
       | succ j => simp at hc
       | zero =>
         have hc : AV.int .i64 ((Sp.isort l).getD i default) = c := by simpa using hc
         subst hc
         rw [Nat.mul_one, Nat.add_zero, List.getElem?_map, List.getElem?_eq_getElem hi] at hx
         cases hx
         rw [List.getD_eq_getElem?_getD, List.getElem?_eq_getElem hi]
         exact .int _ _ _
   · refine O.dom id ?_
     by_cases e : id = 90000
     · subst e; simp only [mm] at hid; rw [upd_same] at hid; cases hid
     · simp only [mm]; rw [upd_other _ _ e]
end Go.Av
end
/- Steps in one: two commands of which the first is a region; what reads the same. -/
section
set_option linter.all false
namespace Go.Av
open Go
theorem Sim.q {x y : AV} (h : x = y := by first | rfl | (simp; done) | omega | (simp; omega)) : Sim x y := .of_eq h
theorem Sim.qi {x y : AV} (h : x = y := by first | rfl | (simp; done) | omega | (refine intEq ?_; first | omega | (simp; done) | (simp; omega)) | (simp; omega)) : Sim x y := .of_eq h
theorem Sim.qb {x y : AV} (h : x = y := by refine bufEq ?_; first | (simp [Sp.copyAt]; done) | omega | (simp [Sp.copyAt]; omega) | (simp only [List.length_set] at *; omega) | rfl) : Sim x y := .of_eq h
theorem Sim.qc {x y : AV} (h : x = y := by refine bufEq ?_; first | rfl | (simp; done) | omega | (simp; omega)) : Sim x y := .of_eq h
theorem BSim.q {x y : Blk} (h : x = y := by first | rfl | (simp; done) | omega | (simp; omega)) : BSim x y := .of_eq h
theorem BSim.pushS {T : Type} [Inhabited T] {ty sz n m : Nat} {f : T → List AV} {e1 : Nat → List AV} {l : List T} (h : Seg f n e1 l) {cs cs' : List AV} (t : List T) (hs : SimL cs cs') (hm : m = t.length) (hc : cs' = t.flatMap f) (hf : ∀ x, (f x).length = sz) :
   BSim (.buf ty sz (n + m) (fun k => if k < n then e1 k else elemAt sz cs (k - n))) (bufL ty sz f (l ++ t)) := by
 obtain ⟨rfl, h1⟩ := h
 subst hm hc
 obtain ⟨hl, hss⟩ := hs.spec
 have e : (l ++ t).length = l.length + t.length := List.length_append
 intro h ρ id w B
 obtain ⟨v, xs, q1, q2, q3, q4, q5⟩ := B
 refine ⟨v, xs, by rw [e]; exact q1, by rw [e]; exact q2, fun i hi => hf _, q4, fun i j c x hi hc hx => ?_⟩
 rw [e] at hi
 dsimp only at hc
 by_cases hlt : i < l.length
 · have hg : (l ++ t).getD i default = l.getD i default := by simp [List.getD_eq_getElem?_getD, List.getElem?_append_left hlt]
   rw [hg] at hc
   exact q5 i j c x hi (by simp only [hlt, if_true]; rw [h1 i hlt]; exact hc) hx
 · have hg : (l ++ t).getD i default = t.getD (i - l.length) default := by simp [List.getD_eq_getElem?_getD, List.getElem?_append_right (Nat.le_of_not_lt hlt)]
   rw [hg, ← elemAt_flat hf t (i - l.length) (by omega)] at hc
   obtain ⟨hj, hc⟩ := elemAt_get hc
   have hlt2 : (i - l.length) * sz + j < cs.length := by rw [hl]; exact (List.getElem?_eq_some_iff.1 hc).1
   have h3 : (elemAt sz cs (i - l.length))[j]? = some cs[(i - l.length) * sz + j] := by
     unfold elemAt
     rw [List.getElem?_take, if_pos hj, List.getElem?_drop]
     exact List.getElem?_eq_getElem hlt2
   exact hss _ _ _ (List.getElem?_eq_getElem hlt2) hc _ _ _ (q5 i j _ x hi (by simp only [hlt, if_false]; exact h3) hx)
variable {P : Program} {Γ : Tys} {N : Nat} {C : Ctx} {L : List (Nat × AV)} {M : List (Nat × Blk)} {g : Nat} {rr : Option Nat} {Q : Exit → Act → World → Prop}
theorem W.sr (E : Env P Γ) {id : Nat} {ops : Array Oper} {draw : Bool} {y : Code} (own : List Nat) (rvs : List RV) {A : Acc} (ts ids : List Nat) {L' : List (Nat × AV)} {M' : List (Nat × Blk)} (hr : runR Γ own ops.toList ops.toList rvs L M = some A) (hd : dstOk N ops.toList = true) (ho : drawOk draw ops A.ft = true) (hcs : AllP A.cs)
   (hrq : RqOk P A.rq) (K : W P N rr C y L' M' g Q) (hL : filtL ids A.L ts = some L' := by exact rfl) (hM : filtM ids A.M ids = some M' := by exact rfl) (hs : onlyL ids C.savA = true := by exact rfl) (hz : FzOk own C := by first | exact .inl rfl | exact .inr (fun _ h => h)) : W P N rr C (.seq (.region id ops draw) y) L M g Q :=
 W.seq (W.region E own rvs hr hd ho hcs hrq (At.keep hL hM (At.thenC K) hs) hz)
theorem W.rg (E : Env P Γ) {id : Nat} {ops : Array Oper} {draw : Bool} {y : Code} {A : Acc} (ts ids : List Nat) {L' : List (Nat × AV)} {M' : List (Nat × Blk)} (K : W P N rr C y L' M' g Q) (hr : runR Γ [] ops.toList ops.toList [] L M = some A := by exact rfl) (hd : dstOk N ops.toList = true := by exact rfl) (ho : drawOk draw ops A.ft = true := by exact rfl) (hcs : AllP A.cs := by exact .nil)
   (hrq : RqOk P A.rq := by exact .nil) (hL : filtL ids A.L ts = some L' := by exact rfl) (hM : filtM ids A.M ids = some M' := by exact rfl) (hs : onlyL ids C.savA = true := by exact rfl) : W P N rr C (.seq (.region id ops draw) y) L M g Q :=
 W.sr E [] [] ts ids hr hd ho hcs hrq K hL hM hs (.inl rfl)
end Go.Av
namespace Go.Av
section
variable {N : Nat} {C : Ctx} {L : List (Nat × AV)} {M : List (Nat × Blk)} {g : Nat} {R : Act → World → Prop}
end
theorem Seg.first {T : Type} [Inhabited T] {f : T → List AV} {n b : Nat} {e : Nat → List AV} {l : List T} (h : Seg f n e l) (hb : b ≤ n) : Seg f b e (l.take b) := by
 obtain ⟨rfl, g1⟩ := h
 refine ⟨by rw [List.length_take]; omega, fun k hk => ?_⟩
 rw [g1 k (by omega)]
 simp [List.getD_eq_getElem?_getD, List.getElem?_take, hk]
end Go.Av
end
/- The bridge: from what an argument reads as (a row's data) to the abstract value that it is; from a contract to a row's statement that a law returns true and leaves its arguments as they were. -/
section
set_option linter.all false
namespace Go.Av
open Go.RowKit Go.WideShapes Go.ChangeShapes
def Wt {H : Type} (P : Program) (t : TypeId) (d : DataW H) : Prop := ∀ q ∈ d.weights P t, q ≤ reachBytes
theorem wt_all {H : Type} {P : Program} {e : TypeId} : ∀ {ds : List (DataW H)} {d : DataW H}, d ∈ ds → ∀ q ∈ d.weights P e, q ∈ DataW.weightsAll P e ds
 | x :: ds, d, h, q, hq => by
   simp only [DataW.weightsAll, List.mem_append]
   rcases List.mem_cons.1 h with rfl | h
   · exact .inl hq
   · exact .inr (wt_all h q hq)
theorem wt_left {H : Type} {P : Program} : ∀ {ts us : List TypeId} {ds gs : List (DataW H)}, ∀ q ∈ DataW.weightsEach P ts ds, q ∈ DataW.weightsEach P (ts ++ us) (ds ++ gs)
 | [], us, ds, gs, q, h => by cases ds <;> simp [DataW.weightsEach] at h
 | t :: ts, us, [], gs, q, h => by simp [DataW.weightsEach] at h
 | t :: ts, us, d :: ds, gs, q, h => by
   simp only [DataW.weightsEach, List.cons_append, List.mem_append] at h ⊢
   rcases h with h | h
   · exact .inl h
   · exact .inr (wt_left q h)
structure Opn (P : Program) (t : TypeId) (sz : Nat) {X : Type} (e : X → List AV) (ok : X → Prop) : Prop where
 len : ∀ x, (e x).length = sz
 cells : P.cellsOf t = sz
 read : ∀ (H : Type) (enc : TypeId × Value → H) (W : World) (n : Nat) (cs : List Value) (r : DataW H × List MemPlace), DataW.trod enc P W 0 (fun _ => true) true n t cs = some r → Wt P t r.1 →
   ∃ x, RelL (fun b => W.heap[b]?) ρ0 (e x) cs ∧ ok x ∧ ∀ v ∈ cs, v.oneCell' = true
theorem Opn.int {P : Program} {t : TypeId} (ht : P.underlying t = some (.int .i64)) (hc : P.cellsOf t = 1) : Opn P t 1 (fun x : Int => [.int .i64 x]) inI :=
 ⟨fun _ => rfl, hc, fun H enc W n cs r h _ => by
   obtain ⟨x, rfl, rfl, hw⟩ := DataW.trod_int ht h
   refine ⟨x, RelL.cons (.int _ _ _) (RelL.nil _ _), ?_, fun v hv => ?_⟩
   · have := bounds_i64 hw
     exact this
   · simp at hv; subst hv; rfl⟩
theorem Opn.bool {P : Program} {t : TypeId} (ht : P.underlying t = some .bool) (hc : P.cellsOf t = 1) : Opn P t 1 (fun x : Bool => [.bool x]) (fun _ => True) :=
 ⟨fun _ => rfl, hc, fun H enc W n cs r h _ => by
   obtain ⟨x, rfl, rfl⟩ := DataW.trod_bool ht h
   refine ⟨x, RelL.cons (.bool _ _) (RelL.nil _ _), trivial, fun v hv => ?_⟩
   simp at hv; subst hv; rfl⟩
theorem Opn.map {P : Program} {t : TypeId} {sz : Nat} {X Y : Type} {e : X → List AV} {ok : X → Prop} (h : Opn P t sz e ok) (f : X → Y) {e' : Y → List AV} {ok' : Y → Prop}
   (hl : ∀ y, (e' y).length = sz) (he : ∀ x, e' (f x) = e x) (ho : ∀ x, ok x → ok' (f x)) : Opn P t sz e' ok' :=
 ⟨hl, h.cells, fun H enc W n cs r hr hz => by
   obtain ⟨x, h1, h2, h3⟩ := h.read H enc W n cs r hr hz
   exact ⟨f x, by rw [he]; exact h1, ho x h2, h3⟩⟩
structure OpnF (P : Program) (fs : List (Nat × TypeId)) (off sz : Nat) {X : Type} (e : X → List AV) (ok : X → Prop) : Prop where
 len : ∀ x, (e x).length = sz
 read : ∀ (H : Type) (enc : TypeId × Value → H) (W : World) (n : Nat) (cs : List Value), cs.length = off + sz →
   (∀ f ∈ fs, ∃ r, DataW.trod enc P W 0 (fun _ => true) true n f.2 ((cs.drop f.1).take (P.cellsOf f.2)) = some r ∧ Wt P f.2 r.1) →
   ∃ x, RelL (fun b => W.heap[b]?) ρ0 (e x) (cs.drop off) ∧ ok x ∧ ∀ v ∈ cs.drop off, v.oneCell' = true
theorem OpnF.nil {P : Program} {off : Nat} : OpnF P [] off 0 (fun _ : Unit => []) (fun _ => True) :=
 ⟨fun _ => rfl, fun H enc W n cs hl _ => ⟨(), by rw [List.drop_eq_nil_of_le (by omega)]; exact RelL.nil _ _, trivial, by rw [List.drop_eq_nil_of_le (by omega)]; simp⟩⟩
theorem OpnF.cons {P : Program} {t : TypeId} {fs : List (Nat × TypeId)} {off s sz : Nat} {X Y : Type} {e : X → List AV} {ok : X → Prop} {e' : Y → List AV} {ok' : Y → Prop}
   (h : Opn P t s e ok) (h' : OpnF P fs (off + s) sz e' ok') : OpnF P ((off, t) :: fs) off (s + sz) (fun x : X × Y => e x.1 ++ e' x.2) (fun x => ok x.1 ∧ ok' x.2) :=
 ⟨fun x => by rw [List.length_append, h.len, h'.len], fun H enc W n cs hl hr => by
   obtain ⟨r, hr1, hr2⟩ := hr (off, t) (List.mem_cons_self ..)
   obtain ⟨x, h1, h2, h3⟩ := h.read H enc W n _ r hr1 hr2
   obtain ⟨y, k1, k2, k3⟩ := h'.read H enc W n cs (by omega) (fun f hf => hr f (List.mem_cons_of_mem _ hf))
   have e1 : cs.drop off = (cs.drop off).take s ++ cs.drop (off + s) := by
     rw [← List.drop_drop, List.take_append_drop]
   rw [h.cells] at h1 h3
   refine ⟨(x, y), ?_, ⟨h2, k2⟩, fun v hv => ?_⟩
   · rw [e1]; exact RelL.append h1 k1
   · rw [e1, List.mem_append] at hv
     exact hv.elim (h3 v) (k3 v)⟩
theorem Opn.struct {P : Program} {t : TypeId} {fs : Array Field} {sz : Nat} {X Y : Type} {e : X → List AV} {ok : X → Prop} (ht : P.underlying t = some (.struct fs)) (hc : P.cellsOf t = sz)
   (h : OpnF P (fs.toList.map fun f => (f.offset, f.type)) 0 sz e ok) (f : X → Y) {e' : Y → List AV} {ok' : Y → Prop}
   (hl : ∀ y, (e' y).length = sz) (he : ∀ x, e' (f x) = e x) (ho : ∀ x, ok x → ok' (f x)) : Opn P t sz e' ok' :=
 ⟨hl, hc, fun H enc W n cs r hr hz => by
   obtain ⟨xs, m, rfl, rfl, hlen, hx, hi⟩ := DataW.trod_struct ht hr
   obtain ⟨x, h1, h2, h3⟩ := h.read H enc W m cs (by rw [hlen, hc]; omega) (fun g hg => by
     obtain ⟨f0, hf0, rfl⟩ := List.mem_map.1 hg
     obtain ⟨i, hi1, hi2⟩ := List.getElem_of_mem hf0
     have hh := hi i f0 (by rw [← hi2]; simp)
     have hxi : i < xs.length := by rw [hx]; simpa using hi1
     refine ⟨xs[i]'hxi, ?_, fun q hq => hz q ?_⟩
     · rw [hh, List.getElem?_eq_getElem]
     · simp only [DataW.weights, ht]
       exact DataW.weights_mem_each (j := i) (t := f0.type) (d := (xs[i]'hxi).1) (by rw [List.getElem?_map, List.getElem?_eq_getElem hi1, hi2]; rfl) (by rw [List.getElem?_map, List.getElem?_eq_getElem hxi]; rfl) q hq)
   rw [List.drop_zero] at h1 h3
   exact ⟨f x, by rw [he]; exact h1, ho x h2, h3⟩⟩
def arrF (s : Nat) (t : TypeId) (off : Nat) : Nat → List (Nat × TypeId)
 | 0 => []
 | n + 1 => (off, t) :: arrF s t (off + s) n
theorem mem_arrF {s : Nat} {t : TypeId} : ∀ {n off : Nat} {f : Nat × TypeId}, f ∈ arrF s t off n → ∃ i, i < n ∧ f = (off + i * s, t)
 | 0, _, _, h => by cases h
 | n + 1, off, f, h => by
   rcases List.mem_cons.1 h with rfl | h
   · exact ⟨0, by omega, by simp⟩
   · obtain ⟨i, hi, rfl⟩ := mem_arrF h
     exact ⟨i + 1, by omega, by rw [Nat.add_mul]; simp; omega⟩
theorem Opn.array {P : Program} {t u : TypeId} {n s sz : Nat} {X Y : Type} {e : X → List AV} {ok : X → Prop} (ht : P.underlying t = some (.array n u)) (hc : P.cellsOf t = sz) (hu : P.cellsOf u = s)
   (h : OpnF P (arrF s u 0 n) 0 sz e ok) (f : X → Y) {e' : Y → List AV} {ok' : Y → Prop}
   (hl : ∀ y, (e' y).length = sz) (he : ∀ x, e' (f x) = e x) (ho : ∀ x, ok x → ok' (f x)) : Opn P t sz e' ok' :=
 ⟨hl, hc, fun H enc W m cs r hr hz => by
   obtain ⟨xs, m, rfl, rfl, hlen, hx, hi⟩ := DataW.trod_array ht hr
   obtain ⟨x, h1, h2, h3⟩ := h.read H enc W m cs (by rw [hlen, hc]; omega) (fun g hg => by
     obtain ⟨i, hi1, rfl⟩ := mem_arrF hg
     have hh := hi i hi1
     have hxi : i < xs.length := by rw [hx]; exact hi1
     refine ⟨xs[i]'hxi, ?_, fun q hq => hz q ?_⟩
     · rw [hu] at hh ⊢
       simp only [Nat.zero_add]
       rw [hh, List.getElem?_eq_getElem]
     · simp only [DataW.weights, ht]
       exact wt_all (List.mem_map.2 ⟨_, List.getElem_mem hxi, rfl⟩) q hq)
   rw [List.drop_zero] at h1 h3
   exact ⟨f x, by rw [he]; exact h1, ho x h2, h3⟩⟩
theorem choose_list {X : Type} [Inhabited X] {p : Nat → X → Prop} : ∀ (n : Nat), (∀ i, i < n → ∃ x, p i x) → ∃ l : List X, l.length = n ∧ ∀ i, i < n → p i (l.getD i default)
 | 0, _ => ⟨[], rfl, fun i hi => by omega⟩
 | n + 1, h => by
   obtain ⟨l, h1, h2⟩ := choose_list n (fun i hi => h i (by omega))
   obtain ⟨x, hx⟩ := h n (by omega)
   refine ⟨l ++ [x], by simp [h1], fun i hi => ?_⟩
   by_cases hn : i < n
   · have : (l ++ [x]).getD i default = l.getD i default := by
       simp [List.getD_eq_getElem?_getD, List.getElem?_append_left (h1 ▸ hn)]
     rw [this]; exact h2 i hn
   · have hi' : i = n := by omega
     subst hi'
     have : (l ++ [x]).getD i default = x := by
       simp [List.getD_eq_getElem?_getD, List.getElem?_append_right (Nat.le_of_eq h1), h1]
     rw [this]; exact hx
theorem cells?_get {w : World} {a : Addr} {n : Nat} {cs : List Value} (h : w.cells? 0 a n = some cs) : cs.length = n ∧ ∀ j, j < n → w.cell? (a.add j) = cs[j]? := by
 unfold World.cells? at h
 rw [if_pos (Nat.zero_le _)] at h
 exact ⟨by rw [mapM_some_length h]; simp, fun j hj => mapM_some_get h j j (by simp [hj])⟩
theorem Opn.slice {P : Program} {t u : TypeId} {s : Nat} {X : Type} [Inhabited X] {e : X → List AV} {ok : X → Prop} {k : Nat} (ht : P.underlying t = some (.slice u)) (hc : P.cellsOf t = 1) (h : Opn P u s e ok) (hs : 0 < s) (hb : 1 ≤ k ∧ k ≤ P.bytesOf u) :
   Opn P t 1 (fun l : List X => [roL s e l]) (fun l => l.length * k ≤ 140737488351232 ∧ ∀ x ∈ l, ok x) :=
 ⟨fun _ => rfl, hc, fun H enc W m cs r hr hz => by
   rcases DataW.trod_slice ht hr with ⟨rfl, _⟩ | ⟨a, len, cap, elems, rest, n, rfl, rfl, rfl, -, hlc, hcm, hel, hi, -, -⟩
   · refine ⟨[], RelL.cons (.ro _ _ _ _ _ _ (fun _ => rfl) ⟨Nat.le_refl _, Nat.zero_le _⟩ (fun i hi => by cases hi) (fun i j hi => by cases hi) (fun k v hk => by simp at hk) (fun i j c v hi => by cases hi)) (RelL.nil _ _), ⟨by simp, by simp⟩, fun v hv => ?_⟩
     simp at hv; subst hv; rfl
   · have hz : ∀ q ∈ DataW.weights P t (.slice (elems.map (·.1)) (rest.map (·.1)) : DataW H), q ≤ reachBytes := hz
     have ew : DataW.weights P t (.slice (elems.map (·.1)) (rest.map (·.1)) : DataW H) = ((elems.map (·.1)).length + (rest.map (·.1)).length) * P.bytesOf u :: (DataW.weightsAll P u (elems.map (·.1)) ++ DataW.weightsAll P u (rest.map (·.1))) := by simp only [DataW.weights, ht]
     rw [ew] at hz
     obtain ⟨l, hl, hp⟩ := choose_list (X := X) (p := fun i x => ∃ ys : List Value, W.cells? 0 (a.add (i * s)) s = some ys ∧ RelL (fun b => W.heap[b]?) ρ0 (e x) ys ∧ ok x ∧ ∀ v ∈ ys, v.oneCell' = true) len (fun i hi' => by
       have := hi i hi'
       rw [h.cells, List.getElem?_eq_getElem (by omega)] at this
       obtain ⟨ys, h1, h2⟩ := Option.bind_eq_some_iff.1 this
       obtain ⟨x, k1, k2, k3⟩ := h.read H enc W n ys _ h2 (fun q hq => hz q (List.mem_cons_of_mem _ (List.mem_append_left _ (wt_all (List.mem_map.2 ⟨_, List.getElem_mem _, rfl⟩) q hq))))
       exact ⟨x, ys, h1, k1, k2, k3⟩)
     have hbig0 : len * k ≤ 140737488351232 := by
       have h1 := hz _ List.mem_cons_self
       rw [List.length_map, List.length_map] at h1
       have h2 : reachBytes = 140737488351232 := rfl
       have h3 : len * k ≤ (elems.length + rest.length) * P.bytesOf u := Nat.mul_le_mul (by omega) hb.2
       omega
     have hbig : len ≤ 140737488351232 := Nat.le_trans (Nat.le_mul_of_pos_right _ hb.1) hbig0
     subst hl
     have cell : ∀ i j, i < l.length → j < s → ∃ ys : List Value, ys.length = s ∧ RelL (fun b => W.heap[b]?) ρ0 (e (l.getD i default)) ys ∧ (∀ v ∈ ys, v.oneCell' = true) ∧ hcell (fun b => W.heap[b]?) (some a) (i * s + j) = ys[j]? := by
       intro i j hi' hj
       obtain ⟨ys, h1, h2, _, h4⟩ := hp i hi'
       obtain ⟨k1, k2⟩ := cells?_get h1
       refine ⟨ys, k1, h2, h4, ?_⟩
       rw [← k2 j hj, Addr.add_add]
       rfl
     refine ⟨l, RelL.cons (.ro _ _ _ _ _ _ (fun h => by cases h) ⟨hlc, by omega⟩ (fun i _ => h.len _) (fun i j hi' hj => ?_) (fun k v hk hv => ?_) (fun i j c v hi' hcj hv => ?_)) (RelL.nil _ _), ⟨hbig0, fun x hx => ?_⟩, fun v hv => ?_⟩
     · obtain ⟨ys, k1, _, _, k4⟩ := cell i j hi' hj
       rw [k4, List.getElem?_eq_getElem (by omega)]; rfl
     · obtain ⟨ys, k1, _, k3, k4⟩ := cell (k / s) (k % s) (by rw [Nat.div_lt_iff_lt_mul hs]; exact hk) (Nat.mod_lt _ hs)
       rw [Nat.mul_comm, Nat.div_add_mod] at k4
       rw [k4] at hv
       exact k3 v (List.mem_of_getElem? hv)
     · have hj : j < s := by
         have := (List.getElem?_eq_some_iff.1 hcj).1
         rwa [h.len] at this
       obtain ⟨ys, k1, k2, _, k4⟩ := cell i j hi' hj
       rw [k4] at hv
       exact k2.2 j c v hcj hv
     · obtain ⟨i, hi1, rfl⟩ := List.getElem_of_mem hx
       obtain ⟨_, _, _, h3, _⟩ := hp i (by omega)
       rw [List.getD_eq_getElem?_getD, List.getElem?_eq_getElem hi1] at h3
       exact h3
     · simp at hv; subst hv; rfl⟩
def OpnT (P : Program) (t : TypeId) {X : Type} (e : X → AV) (ok : X → Prop) : Prop :=
 ∀ (H : Type) (enc : TypeId × Value → H) (W : World) (base : Nat) (v : Value) (d : DataW H) (ps : List MemPlace), Value.okWide P W .any base t v → DataW.Trod enc P W 0 (fun _ => true) true t v d ps → Wt P t d →
   ∃ x, Rel (fun b => W.heap[b]?) ρ0 (e x) v ∧ ok x
theorem OpnT.struct {P : Program} {t : TypeId} {fs : Array Field} {sz : Nat} {X : Type} {e : X → List AV} {ok : X → Prop} (ht : P.underlying t = some (.struct fs)) (h : Opn P t sz e ok) : OpnT P t (fun x => .agg (e x)) ok := by
 intro H enc W base v d ps hv hd hz
 obtain ⟨cs, rfl, _⟩ := okWide_struct ht hv
 obtain ⟨n, hn⟩ := hd
 obtain ⟨x, h1, h2, _⟩ := h.read H enc W n _ _ hn hz
 refine ⟨x, ?_, h2⟩
 have : (Value.agg cs) = .agg (Value.agg cs).cells.toList.toArray := by simp [Value.cells]
 rw [this]
 exact .agg _ _ _ h1.1 h1.2
theorem OpnT.array {P : Program} {t u : TypeId} {n sz : Nat} {X : Type} {e : X → List AV} {ok : X → Prop} (ht : P.underlying t = some (.array n u)) (h : Opn P t sz e ok) : OpnT P t (fun x => .agg (e x)) ok := by
 intro H enc W base v d ps hv hd hz
 obtain ⟨cs, rfl⟩ : ∃ cs, v = .agg cs := by
   simp only [Value.okWide, ht] at hv
   obtain ⟨cs, h1, _⟩ := hv
   exact ⟨cs, h1⟩
 obtain ⟨n, hn⟩ := hd
 obtain ⟨x, h1, h2, _⟩ := h.read H enc W n _ _ hn hz
 refine ⟨x, ?_, h2⟩
 have : (Value.agg cs) = .agg (Value.agg cs).cells.toList.toArray := by simp [Value.cells]
 rw [this]
 exact .agg _ _ _ h1.1 h1.2
theorem OpnT.int {P : Program} {t : TypeId} (ht : P.underlying t = some (.int .i64)) : OpnT P t (fun x : Int => .int .i64 x) inI := by
 intro H enc W base v d ps hv hd hz
 obtain ⟨n, rfl⟩ := okWide_int ht hv
 obtain ⟨m, hn⟩ := hd
 obtain ⟨x, h1, _, hw⟩ := DataW.trod_int ht hn
 simp only [Value.cells, List.cons.injEq, Value.int.injEq, and_true, true_and] at h1
 subst h1
 exact ⟨n, .int _ _ _, bounds_i64 hw⟩
theorem OpnT.bool {P : Program} {t : TypeId} (ht : P.underlying t = some .bool) : OpnT P t (fun x : Bool => .bool x) (fun _ => True) := by
 intro H enc W base v d ps hv hd hz
 obtain ⟨n, rfl⟩ := okWide_bool ht hv
 exact ⟨n, .bool _ _, trivial⟩
theorem OpnT.slice {P : Program} {t u : TypeId} {s : Nat} {X : Type} [Inhabited X] {e : X → List AV} {ok : X → Prop} {k : Nat} (ht : P.underlying t = some (.slice u)) (hc : P.cellsOf t = 1) (h : Opn P u s e ok) (hs : 0 < s) (hb : 1 ≤ k ∧ k ≤ P.bytesOf u) :
   OpnT P t (fun l : List X => roL s e l) (fun l => l.length * k ≤ 140737488351232 ∧ ∀ x ∈ l, ok x) := by
 intro H enc W base v d ps hv hd hz
 obtain ⟨a, len, cap, rfl⟩ := okWide_slice ht hv
 obtain ⟨n, hn⟩ := hd
 obtain ⟨x, h1, h2, _⟩ := (Opn.slice ht hc h hs hb).read H enc W n _ _ hn hz
 exact ⟨x, h1.2 0 _ _ (by simp) (by simp [Value.cells]), h2⟩
def OpnA (P : Program) (ts : List TypeId) {X : Type} (e : X → List AV) (ok : X → Prop) : Prop :=
 ∀ (H : Type) (enc : TypeId × Value → H) (W : World) (base : Nat) (vs : List Value) (ds : List (DataW H)) (ps : List MemPlace), (∀ (j : Nat) t v, ts[j]? = some t → vs[j]? = some v → Value.okWide P W .any base t v) →
   DataW.TrodAll enc P W 0 (fun _ => true) true ts vs ds ps → (∀ q ∈ DataW.weightsEach P ts ds, q ≤ reachBytes) → ds.length = ts.length ∧ ∃ x, RelL (fun b => W.heap[b]?) ρ0 (e x) vs ∧ ok x
theorem OpnA.nil {P : Program} : OpnA P [] (fun _ : Unit => []) (fun _ => True) := by
 intro H enc W base vs ds ps _ h _
 obtain ⟨rfl, rfl, _⟩ := trodAll_nil h
 exact ⟨rfl, (), RelL.nil _ _, trivial⟩
theorem OpnA.cons {P : Program} {t : TypeId} {ts : List TypeId} {X Y : Type} {e : X → AV} {ok : X → Prop} {e' : Y → List AV} {ok' : Y → Prop} (h : OpnT P t e ok) (h' : OpnA P ts e' ok') :
   OpnA P (t :: ts) (fun x : X × Y => e x.1 :: e' x.2) (fun x => ok x.1 ∧ ok' x.2) := by
 intro H enc W base vs ds ps hv hA hz
 obtain ⟨v, vs', d, ds', p, q, rfl, rfl, rfl, h1, h2⟩ := trodAll_cons hA
 obtain ⟨x, k1, k2⟩ := h H enc W base v d p (hv 0 t v (by simp) (by simp)) h1 (fun q hq => hz q (by simp only [DataW.weightsEach, List.mem_append]; exact .inl hq))
 obtain ⟨hl, y, k3, k4⟩ := h' H enc W base vs' ds' q (fun j t' v' a b => hv (j + 1) t' v' (by simpa using a) (by simpa using b)) h2 (fun q hq => hz q (by simp only [DataW.weightsEach, List.mem_append]; exact .inr hq))
 exact ⟨by simp [hl], (x, y), RelL.cons k1 k3, k2, k4⟩
theorem post_fresh {H : Type} {enc : TypeId × Value → H} {P : Program} {f : Func} {s : ChangeSpec} {apart fresh handsOn again : Bool} {W W' : World} {args : Array Value} {v : Value} {ds gs : List (DataW H)} {before pa pv : List MemPlace}
   (hW : DataW.Whole enc P f.params.toList s.vars apart W args.toList ds gs before)
   (hres : ∀ (b : Nat) (sp : Nat → Bool) (hd : Bool), DataW.TrodAll enc P W' b sp hd f.resultTypes.toList (v.resultList f.resultTypes.size) (s.fn H (ds ++ gs)).results [])
   (hargs : ∀ sp : Nat → Bool, (∀ p ∈ before, sp p.block = true) → DataW.TrodAll enc P W' 0 sp true f.params.toList args.toList (s.fn H (ds ++ gs)).args pa)
   (hvars : ∀ sp : Nat → Bool, (∀ p ∈ before, sp p.block = true) → DataW.TrodVars enc P W' sp s.vars (s.fn H (ds ++ gs)).vars pv)
   (hps : before = pa ++ pv) (hb : Below W.heap.size W W')
   (hok : ∀ (j : Nat) (t : TypeId) (r : Value), f.resultTypes[j]? = some t → (v.resultList f.resultTypes.size)[j]? = some r → Value.okWide P W' .any 0 t r) :
   s.post enc P f apart fresh handsOn again W args v W' := by
 have hlt : ∀ p ∈ before, p.block < W.heap.size := fun p hp => hW.lt p hp
 have hold : ∀ p ∈ before, (fun b => decide (b < W.heap.size)) p.block = true := fun p hp => by simpa using hlt p hp
 refine ⟨ds, gs, before, [], pa, pv, hW, hres _ _ _, hargs _ hold, hvars _ hold, World.keptBut_mono (fun p hp => ⟨hp, ?_⟩) (hb.frame (· ∈ before)), fun _ => ?_⟩
 · rw [hps, List.mem_append] at hp
   exact Or.inr hp
 · obtain ⟨_, _, _, _, _, hz, hn⟩ := hW
   refine ⟨hok, _, _, ([] ++ pa) ++ pv, ⟨[] ++ pa, pv, trodAll_append (hargs _ (fun _ _ => rfl)) (hres _ _ _), hvars _ (fun _ _ => rfl), rfl, ?_, ?_⟩, ?_⟩
   · intro b off hp
     have hin : MemPlace.cell b off ∈ before := by rw [hps]; simpa using hp
     rw [hb.frozen (hlt _ hin)]
     exact hz b off hin
   · intro ha
     have := hn ha
     rw [hps] at this
     simpa using this
   · intro p hp _
     rw [hps]
     simpa using hp
theorem TrodAll_carry {H : Type} {enc : TypeId × Value → H} {P : Program} {w w' : World} {base : Nat} {spare : Nat → Bool} {held : Bool} : ∀ {ts : List TypeId} {vs : List Value} {ds : List (DataW H)} {ps : List MemPlace},
   DataW.TrodAll enc P w base spare held ts vs ds ps → (∀ p ∈ ps, w.sameAt w' p) → DataW.TrodAll enc P w' base spare held ts vs ds ps
 | [], [], [], _, h, _ => h
 | _ :: _, _ :: _, _ :: _, _, ⟨p, q, ⟨n, h1⟩, h2, e⟩, hs => ⟨p, q, ⟨n, DataW.trod_carry n _ _ _ h1 (fun x hx => hs x (by rw [e]; exact List.mem_append_left _ hx))⟩,
     TrodAll_carry h2 (fun x hx => hs x (by rw [e]; exact List.mem_append_right _ hx)), e⟩
theorem law_calls {P : Program} {f : FuncId} {fn : Func} {s : ChangeSpec} {apart fresh handsOn again : Bool} {X : Type} {e : X → List AV} {ok : X → Prop} {tb : TypeId}
   (hkids : Kids P (· < P.types.size)) (hfull : ∀ t e, t < P.types.size → P.underlying t = some (.slice e) → 0 < P.cellsOf e) (hp : fn.params.toList.all (· < P.types.size) = true)
   (hA : OpnA P fn.params.toList e ok) (hs : s.vars = []) (hfn : ∀ (H : Type) (ds : List (DataW H)), ds.length = fn.params.toList.length → s.fn H ds = ⟨[.lit (.bool true)], ds, []⟩)
   (hr : fn.resultTypes = #[tb]) (htb : P.underlying tb = some .bool) (hC : ∀ x, ok x → Ctr P f (e x) (.bool true))
   (H : Type) (enc : TypeId × Value → H) (W : World) (base : Nat) (args : Array Value) (ds gs : List (DataW H)) (before : List MemPlace)
   (hval : ∀ (j : Nat) t v, fn.params[j]? = some t → args[j]? = some v → Value.okWide P W .any base t v) (hW : DataW.Whole enc P fn.params.toList s.vars apart W args.toList ds gs before)
   (hbig : (DataW.weightsEach P (fn.params.toList ++ s.plain.varTypes P) (ds ++ gs)).all (· ≤ reachBytes) = true) :
   Calls P f args W fun e W' => ∃ v, e = .returned v ∧ s.post enc P fn apart fresh handsOn again W args v W' := by
 obtain ⟨p, q, hT, hV, hps, hz, hn⟩ := id hW
 have hV' := hV
 rw [hs] at hV'
 obtain ⟨rfl, rfl⟩ := trodVars_none hV'
 obtain ⟨hl, x, hx, hok⟩ := hA H enc W base args.toList ds p (fun j t v a b => hval j t v (by simpa using a) (by simpa using b)) hT (fun q hq => by have := List.all_eq_true.1 hbig q (wt_left q hq); simpa using this)
 have hc := ((hC x hok).2 (fun b => W.heap[b]?) W args.toList hx (fun b o h => h)).calls (fun k d hd => by cases hd)
 rw [Array.toArray_toList] at hc
 refine hc.mono fun en W' hpost => ?_
 cases en with
 | panicked c => exact hpost.elim
 | outgrown => exact hpost.elim
 | returned v =>
   obtain ⟨h', ρ', hb, _, _, hv, _⟩ := hpost
   cases hv
   refine ⟨_, rfl, post_fresh (pa := p) (pv := []) hW (fun b sp hd => ?_) (fun sp hsp => ?_) (fun sp hsp => ?_) hps hb (fun j t r h1 h2 => ?_)⟩
   · rw [List.append_nil, hfn H ds hl, hr]
     exact ⟨[], [], shut_bool htb true, rfl, rfl⟩
   · rw [List.append_nil, hfn H ds hl]
     have hlt : ∀ y ∈ p, y.block < W.heap.size := fun y hy => hW.lt y (by rw [hps]; exact List.mem_append_left _ hy)
     exact TrodAll_carry (DataW.TrodAll.respare hkids hfull (fun t ht => by simpa using List.all_eq_true.1 hp t ht) hT (fun y hy => hsp y (by rw [hps]; exact List.mem_append_left _ hy))) (fun y hy => hb.same (hlt y hy))
   · rw [List.append_nil, hfn H ds hl, hs]
     rfl
   · rw [hr] at h1 h2
     have hj : j = 0 := by
       have := (Array.getElem?_eq_some_iff.1 h1).1
       simpa using this
     subst hj
     simp [Value.resultList] at h1 h2
     subst h1 h2
     simp [Value.okWide, htb, Cell.okWide, Cell.ok]
end Go.Av
end
/- Printed by gen.py. -/
section
set_option linter.all false
set_option linter.unusedVariables false
namespace Go.Sp
open Go.Av
structure Task where
 Lamp : Int
 Place : Int
 At : Int
 Serve : Int
 deriving Inhabited, DecidableEq
structure Range where
 Lo : Int
 Hi : Int
 deriving Inhabited, DecidableEq
structure Hand where
 Id : Int
 From : Int
 To : Int
 deriving Inhabited, DecidableEq
structure Crew where
 Tasks : (List Task)
 Travel : (List (List Range))
 Hands : (List Hand)
 deriving Inhabited, DecidableEq
structure gasolierlaw04_Plan where
 Rounds : (List (List Int))
 Cut : (List Int)
 Size : Int
 Walks : (List (List Int))
 Hands : (List Int)
 deriving Inhabited, DecidableEq
structure crew_plan where
 Crew : Crew
 next : (List Int)
 deriving Inhabited, DecidableEq
structure crew_shift where
 plan : (Option crew_plan)
 rounds : (List (List Int))
 deriving Inhabited, DecidableEq
structure gasolierlaw04_One where
 Task : Task
 Hand : Hand
 Lamp : Int
 Minute : Int
 deriving Inhabited, DecidableEq
structure gasolierref04_Job where
 Crew : Crew
 Rounds : (List (List Int))
 Of : (List Int)
 Seen : (List Bool)
 deriving Inhabited, DecidableEq
def crew_in (p0 : Int) (p1 : Int) (p2 : Int) : Bool :=
 ((decide (p1 ≤ p0)) && (decide (p0 ≤ p2)))
def crew_isTravel (p0 : (List (List Range))) : Option Bool :=
 (bif (decide (12 < ((p0.length : Nat) : Int))) then some false else (rangeGo (fun i2 (s2 : Unit) k2 => must (((!(!decide ((((p0.getD i2 default).length : Nat) : Int) = ((p0.length : Nat) : Int)))) = true → (0 ≤ ((i2 : Int) : Int) ∧ ((i2 : Int) : Int) < (((p0.getD i2 default).length : Nat) : Int)))) <| (bif ((!decide ((((p0.getD i2 default).length : Nat) : Int) = ((p0.length : Nat) : Int))) || (!((decide (((p0.getD i2 default).getD i2 default).Lo = 0)) && (decide (((p0.getD i2 default).getD i2 default).Hi = 0))))) then some false else (rangeGo (fun i6 (s6 : Unit) k6 => (bif ((!(crew_in (((p0.getD i2 default).getD i6 default).Lo) 0 (((p0.getD i2 default).getD i6 default).Hi))) || (decide (600 < ((p0.getD i2 default).getD i6 default).Hi))) then some false else k6 ())) (fun (s6 : Unit) => k2 ()) ((p0.getD i2 default).length) 0 ()))) (fun (s2 : Unit) => (rangeGo (fun i9 (s9 : Unit) k9 => (rangeGo (fun i11 (s11 : Unit) k11 => (rangeGo (fun i13 (s13 : Unit) k13 => must (0 ≤ ((i13 : Int) : Int) ∧ ((i13 : Int) : Int) < (((p0.getD i9 default).length : Nat) : Int)) <| must (0 ≤ ((i11 : Int) : Int) ∧ ((i11 : Int) : Int) < (((p0.getD i9 default).length : Nat) : Int)) <| must (0 ≤ ((i13 : Int) : Int) ∧ ((i13 : Int) : Int) < (((p0.getD i11 default).length : Nat) : Int)) <| must (inI (((p0.getD i9 default).getD i11 default).Lo + ((p0.getD i11 default).getD i13 default).Lo)) <| must (((!(decide ((((p0.getD i9 default).getD i11 default).Lo + ((p0.getD i11 default).getD i13 default).Lo) < ((p0.getD i9 default).getD i13 default).Lo))) = true → (0 ≤ ((i13 : Int) : Int) ∧ ((i13 : Int) : Int) < (((p0.getD i9 default).length : Nat) : Int)))) <| must (((!(decide ((((p0.getD i9 default).getD i11 default).Lo + ((p0.getD i11 default).getD i13 default).Lo) < ((p0.getD i9 default).getD i13 default).Lo))) = true → (0 ≤ ((i11 : Int) : Int) ∧ ((i11 : Int) : Int) < (((p0.getD i9 default).length : Nat) : Int)))) <| must (((!(decide ((((p0.getD i9 default).getD i11 default).Lo + ((p0.getD i11 default).getD i13 default).Lo) < ((p0.getD i9 default).getD i13 default).Lo))) = true → (0 ≤ ((i13 : Int) : Int) ∧ ((i13 : Int) : Int) < (((p0.getD i11 default).length : Nat) : Int)))) <| must (((!(decide ((((p0.getD i9 default).getD i11 default).Lo + ((p0.getD i11 default).getD i13 default).Lo) < ((p0.getD i9 default).getD i13 default).Lo))) = true → (inI (((p0.getD i9 default).getD i11 default).Hi + ((p0.getD i11 default).getD i13 default).Hi)))) <| (bif ((decide ((((p0.getD i9 default).getD i11 default).Lo + ((p0.getD i11 default).getD i13 default).Lo) < ((p0.getD i9 default).getD i13 default).Lo)) || (decide ((((p0.getD i9 default).getD i11 default).Hi + ((p0.getD i11 default).getD i13 default).Hi) < ((p0.getD i9 default).getD i13 default).Hi))) then some false else k13 ())) (fun (s13 : Unit) => k11 ()) p0.length 0 ())) (fun (s11 : Unit) => k9 ()) p0.length 0 ())) (fun (s9 : Unit) => some true) p0.length 0 ())) p0.length 0 ()))
def crew_isMinute (p0 : Int) : Bool :=
 (crew_in p0 0 1439)
def crew_CheckTask (p0 : Task) : Int :=
 (bif ((((!(crew_in p0.Lamp 1 999)) || (!(crew_in p0.Place 0 11))) || (!(crew_isMinute p0.At))) || (!(crew_in p0.Serve 1 120))) then 40 else 0)
def crew_CheckHand (p0 : Hand) : Int :=
 (bif (((!(crew_in p0.Id 1 99)) || (!(crew_isMinute p0.From))) || (!(crew_in p0.To p0.From 1439))) then 41 else 0)
def crew_Check (p0 : Crew) : Option Int :=
 bindO ((bif (!((decide (24 < ((p0.Tasks.length : Nat) : Int))) || (decide (16 < ((p0.Hands.length : Nat) : Int))))) then crew_isTravel p0.Travel else some default)) fun y1 => (bif (((decide (24 < ((p0.Tasks.length : Nat) : Int))) || (decide (16 < ((p0.Hands.length : Nat) : Int)))) || (!y1)) then some 42 else (rangeGo (fun i4 (s4 : Unit) k4 => must ((((!((!decide ((crew_CheckTask (p0.Tasks.getD i4 default)) = 0)) || (decide (((p0.Travel.length : Nat) : Int) ≤ (p0.Tasks.getD i4 default).Place)))) && (decide (0 < (i4 : Int)))) = true → (inI ((i4 : Int) - 1)))) <| must ((((!((!decide ((crew_CheckTask (p0.Tasks.getD i4 default)) = 0)) || (decide (((p0.Travel.length : Nat) : Int) ≤ (p0.Tasks.getD i4 default).Place)))) && (decide (0 < (i4 : Int)))) = true → (0 ≤ (((i4 : Int) - 1) : Int) ∧ (((i4 : Int) - 1) : Int) < ((p0.Tasks.length : Nat) : Int)))) <| (bif (((!decide ((crew_CheckTask (p0.Tasks.getD i4 default)) = 0)) || (decide (((p0.Travel.length : Nat) : Int) ≤ (p0.Tasks.getD i4 default).Place))) || ((decide (0 < (i4 : Int))) && (decide ((p0.Tasks.getD i4 default).Lamp ≤ (p0.Tasks.getD (((i4 : Int) - 1)).toNat default).Lamp)))) then some 42 else k4 ())) (fun (s4 : Unit) => (rangeGo (fun i9 (s9 : Unit) k9 => must ((((!(!decide ((crew_CheckHand (p0.Hands.getD i9 default)) = 0))) && (decide (0 < (i9 : Int)))) = true → (inI ((i9 : Int) - 1)))) <| must ((((!(!decide ((crew_CheckHand (p0.Hands.getD i9 default)) = 0))) && (decide (0 < (i9 : Int)))) = true → (0 ≤ (((i9 : Int) - 1) : Int) ∧ (((i9 : Int) - 1) : Int) < ((p0.Hands.length : Nat) : Int)))) <| (bif ((!decide ((crew_CheckHand (p0.Hands.getD i9 default)) = 0)) || ((decide (0 < (i9 : Int))) && (decide ((p0.Hands.getD i9 default).Id ≤ (p0.Hands.getD (((i9 : Int) - 1)).toNat default).Id)))) then some 42 else k9 ())) (fun (s9 : Unit) => some 0) p0.Hands.length 0 ())) p0.Tasks.length 0 ()))
def crew_spare (p0 : Crew) (p1 : Int) (p2 : Int) (p3 : Range → Option Int) : Option Int :=
 must (0 ≤ (p1 : Int) ∧ (p1 : Int) < ((p0.Tasks.length : Nat) : Int)) <| must (0 ≤ (p2 : Int) ∧ (p2 : Int) < ((p0.Tasks.length : Nat) : Int)) <| must (inI ((p0.Tasks.getD (p2).toNat default).At - (p0.Tasks.getD (p1).toNat default).At)) <| must (inI (((p0.Tasks.getD (p2).toNat default).At - (p0.Tasks.getD (p1).toNat default).At) - (p0.Tasks.getD (p1).toNat default).Serve)) <| must (0 ≤ ((p0.Tasks.getD (p1).toNat default).Place : Int) ∧ ((p0.Tasks.getD (p1).toNat default).Place : Int) < ((p0.Travel.length : Nat) : Int)) <| must (0 ≤ ((p0.Tasks.getD (p2).toNat default).Place : Int) ∧ ((p0.Tasks.getD (p2).toNat default).Place : Int) < (((p0.Travel.getD ((p0.Tasks.getD (p1).toNat default).Place).toNat default).length : Nat) : Int)) <| bindO (p3 ((p0.Travel.getD ((p0.Tasks.getD (p1).toNat default).Place).toNat default).getD ((p0.Tasks.getD (p2).toNat default).Place).toNat default)) fun y7 => must (inI ((((p0.Tasks.getD (p2).toNat default).At - (p0.Tasks.getD (p1).toNat default).At) - (p0.Tasks.getD (p1).toNat default).Serve) - y7)) <| some ((((p0.Tasks.getD (p2).toNat default).At - (p0.Tasks.getD (p1).toNat default).At) - (p0.Tasks.getD (p1).toNat default).Serve) - y7)
def crew_newPlan (p0 : Crew) (p1 : Range → Option Int) : Option (Option crew_plan) :=
 must (0 ≤ (((p0.Tasks.length : Nat) : Int) : Int) ∧ (((p0.Tasks.length : Nat) : Int) : Int) ≤ ((p0.Tasks.length : Nat) : Int) ∧ room (((p0.Tasks.length : Nat) : Int) : Int).toNat 8) <| must (p0.Tasks.length ≤ 9223372036854775807) <| (rangeGo (fun i2 (s2 : (List Int)) k2 => must (p0.Tasks.length ≤ 9223372036854775807) <| (rangeGo (fun i4 (s4 : (List Int)) k4 => bindO ((bif (!decide ((i2 : Int) = (i4 : Int))) then crew_spare p0 (i2 : Int) (i4 : Int) p1 else some default)) fun y6 => (bif ((!decide ((i2 : Int) = (i4 : Int))) && (decide (0 ≤ y6))) then must (0 ≤ ((i2 : Int) : Int) ∧ ((i2 : Int) : Int) < ((s4.length : Nat) : Int)) <| must (0 ≤ ((i4 : Int) : Int) ∧ ((i4 : Int) : Int) < 64 ∧ inI ((1 : Int) * 2 ^ ((i4 : Int) : Int).toNat)) <| must (0 ≤ ((s4.getD i2 default) : Int) ∧ 0 ≤ (((1 : Int) * 2 ^ ((i4 : Int) : Int).toNat) : Int) ∧ inI (s4.getD i2 default) ∧ inI ((1 : Int) * 2 ^ ((i4 : Int) : Int).toNat)) <| must (0 ≤ ((i2 : Int) : Int) ∧ ((i2 : Int) : Int) < ((s4.length : Nat) : Int)) <| k4 (s4.set i2 ((((s4.getD i2 default) : Int).toNat ||| (((1 : Int) * 2 ^ ((i4 : Int) : Int).toNat) : Int).toNat : Nat) : Int)) else k4 s4)) (fun (s4 : (List Int)) => k2 s4) p0.Tasks.length 0 s2)) (fun (s2 : (List Int)) => some (some (⟨p0, s2⟩ : crew_plan))) p0.Tasks.length 0 (List.replicate (((p0.Tasks.length : Nat) : Int)).toNat (0 : Int)))
def crew_most (p0 : Range) : Int :=
 p0.Hi
def crew_plan__isRound (p0 : crew_plan) (p1 : (List Int)) : Option Bool :=
 (rangeGo (fun i1 (s1 : Unit) k1 => must (inI (((p0.next.length : Nat) : Int) - 1)) <| must ((((!(!(crew_in (p1.getD i1 default) 0 (((p0.next.length : Nat) : Int) - 1)))) && (decide (0 < (i1 : Int)))) = true → (inI ((i1 : Int) - 1)))) <| must ((((!(!(crew_in (p1.getD i1 default) 0 (((p0.next.length : Nat) : Int) - 1)))) && (decide (0 < (i1 : Int)))) = true → (0 ≤ (((i1 : Int) - 1) : Int) ∧ (((i1 : Int) - 1) : Int) < ((p1.length : Nat) : Int)))) <| must ((((!(!(crew_in (p1.getD i1 default) 0 (((p0.next.length : Nat) : Int) - 1)))) && (decide (0 < (i1 : Int)))) = true → (0 ≤ ((p1.getD (((i1 : Int) - 1)).toNat default) : Int) ∧ ((p1.getD (((i1 : Int) - 1)).toNat default) : Int) < ((p0.next.length : Nat) : Int)))) <| must ((((!(!(crew_in (p1.getD i1 default) 0 (((p0.next.length : Nat) : Int) - 1)))) && (decide (0 < (i1 : Int)))) = true → (0 ≤ ((p1.getD i1 default) : Int) ∧ ((p1.getD i1 default) : Int) < 64))) <| must ((((!(!(crew_in (p1.getD i1 default) 0 (((p0.next.length : Nat) : Int) - 1)))) && (decide (0 < (i1 : Int)))) = true → (0 ≤ ((Int.fdiv (p0.next.getD ((p1.getD (((i1 : Int) - 1)).toNat default)).toNat default) (2 ^ ((p1.getD i1 default) : Int).toNat)) : Int) ∧ 0 ≤ (1 : Int) ∧ inI (Int.fdiv (p0.next.getD ((p1.getD (((i1 : Int) - 1)).toNat default)).toNat default) (2 ^ ((p1.getD i1 default) : Int).toNat)) ∧ inI 1))) <| (bif ((!(crew_in (p1.getD i1 default) 0 (((p0.next.length : Nat) : Int) - 1))) || ((decide (0 < (i1 : Int))) && (decide (((((Int.fdiv (p0.next.getD ((p1.getD (((i1 : Int) - 1)).toNat default)).toNat default) (2 ^ ((p1.getD i1 default) : Int).toNat)) : Int).toNat &&& (1 : Int).toNat : Nat) : Int) = 0)))) then some false else k1 ())) (fun (s1 : Unit) => some (decide (0 < ((p1.length : Nat) : Int)))) p1.length 0 ())
def crew_plan__areRounds (p0 : crew_plan) (p1 : (List (List Int))) : Option Bool :=
 (rangeGo (fun i1 (s1 : Int) k1 => bindO (crew_plan__isRound p0 (p1.getD i1 default)) fun y3 => must ((((!(!y3)) && (decide (0 < (i1 : Int)))) = true → (inI ((i1 : Int) - 1)))) <| must ((((!(!y3)) && (decide (0 < (i1 : Int)))) = true → (0 ≤ (((i1 : Int) - 1) : Int) ∧ (((i1 : Int) - 1) : Int) < ((p1.length : Nat) : Int)))) <| must ((((!(!y3)) && (decide (0 < (i1 : Int)))) = true → (0 ≤ (0 : Int) ∧ (0 : Int) < (((p1.getD (((i1 : Int) - 1)).toNat default).length : Nat) : Int)))) <| must ((((!(!y3)) && (decide (0 < (i1 : Int)))) = true → (0 ≤ (0 : Int) ∧ (0 : Int) < (((p1.getD i1 default).length : Nat) : Int)))) <| (bif ((!y3) || ((decide (0 < (i1 : Int))) && (decide (((p1.getD i1 default).getD 0 default) ≤ ((p1.getD (((i1 : Int) - 1)).toNat default).getD 0 default))))) then some false else (rangeGo (fun i10 (s10 : Int) k10 => must (0 ≤ (((p1.getD i1 default).getD i10 default) : Int) ∧ (((p1.getD i1 default).getD i10 default) : Int) < 64) <| must (0 ≤ ((Int.fdiv s10 (2 ^ (((p1.getD i1 default).getD i10 default) : Int).toNat)) : Int) ∧ 0 ≤ (1 : Int) ∧ inI (Int.fdiv s10 (2 ^ (((p1.getD i1 default).getD i10 default) : Int).toNat)) ∧ inI 1) <| (bif (decide (((((Int.fdiv s10 (2 ^ (((p1.getD i1 default).getD i10 default) : Int).toNat)) : Int).toNat &&& (1 : Int).toNat : Nat) : Int) = 1)) then some false else must (0 ≤ (((p1.getD i1 default).getD i10 default) : Int) ∧ (((p1.getD i1 default).getD i10 default) : Int) < 64 ∧ inI ((1 : Int) * 2 ^ (((p1.getD i1 default).getD i10 default) : Int).toNat)) <| must (0 ≤ (s10 : Int) ∧ 0 ≤ (((1 : Int) * 2 ^ (((p1.getD i1 default).getD i10 default) : Int).toNat) : Int) ∧ inI s10 ∧ inI ((1 : Int) * 2 ^ (((p1.getD i1 default).getD i10 default) : Int).toNat)) <| k10 (((s10 : Int).toNat ||| (((1 : Int) * 2 ^ (((p1.getD i1 default).getD i10 default) : Int).toNat) : Int).toNat : Nat) : Int))) (fun (s10 : Int) => k1 s10) ((p1.getD i1 default).length) 0 s1))) (fun (s1 : Int) => must (0 ≤ (((p0.next.length : Nat) : Int) : Int) ∧ (((p0.next.length : Nat) : Int) : Int) < 64 ∧ inI ((1 : Int) * 2 ^ (((p0.next.length : Nat) : Int) : Int).toNat)) <| must (inI (((1 : Int) * 2 ^ (((p0.next.length : Nat) : Int) : Int).toNat) - 1)) <| some (decide (s1 = (((1 : Int) * 2 ^ (((p0.next.length : Nat) : Int) : Int).toNat) - 1)))) p1.length 0 0)
def crew_asked (p0 : Crew) (p1 : (List (List Int))) : Option ((Option crew_plan) × Int) :=
 bindO (crew_Check p0) fun y1 => (bif (!decide (y1 = 0)) then some ((none : (Option crew_plan)), y1) else bindO (crew_newPlan p0 (fun x0 => some (crew_most x0))) fun y4 => must (y4.isSome = true) <| bindO (crew_plan__areRounds (y4.getD default) p1) fun y7 => (bif (!y7) then some ((none : (Option crew_plan)), 43) else some (y4, 0)))
def crew_Slack (fuel : Nat) (p0 : Crew) (p1 : (List (List Int))) : Option (Int × Int) :=
 bindO (crew_asked p0 p1) fun y1 => (bif (!decide (y1.2 = 0)) then some (0, y1.2) else (rangeGo (fun i4 (s4 : Int) k4 => (loopGo (fun (s6 : Int × Int) k6 => (bif (decide (s6.1 < (((p1.getD i4 default).length : Nat) : Int))) then must (inI (s6.1 - 1)) <| must (0 ≤ ((s6.1 - 1) : Int) ∧ ((s6.1 - 1) : Int) < (((p1.getD i4 default).length : Nat) : Int)) <| must (0 ≤ (s6.1 : Int) ∧ (s6.1 : Int) < (((p1.getD i4 default).length : Nat) : Int)) <| bindO (crew_spare p0 ((p1.getD i4 default).getD ((s6.1 - 1)).toNat default) ((p1.getD i4 default).getD (s6.1).toNat default) (fun x0 => some (crew_most x0))) fun y11 => (bif ((decide (s6.2 < 0)) || (decide (y11 < s6.2))) then must (inI (s6.1 + 1)) <| k6 ((s6.1 + 1), y11) else must (inI (s6.1 + 1)) <| k6 ((s6.1 + 1), s6.2)) else k4 s6.2)) fuel (1, s4))) (fun (s4 : Int) => (bif (decide (s4 < 0)) then some (0, 3) else some (s4, 0))) p1.length 0 (-1)))
def gasolierref01_IsRange (p0 : Range) (p1 : Int) (p2 : Int) : Bool :=
 (((decide (p1 ≤ p0.Lo)) && (decide (p0.Lo ≤ p0.Hi))) && (decide (p0.Hi ≤ p2)))
def gasolierref04_isTravel (p0 : (List (List Range))) : Option Bool :=
 (bif (decide (12 < ((p0.length : Nat) : Int))) then some false else (rangeGo (fun i2 (s2 : Unit) k2 => must (((!(!decide ((((p0.getD i2 default).length : Nat) : Int) = ((p0.length : Nat) : Int)))) = true → (0 ≤ ((i2 : Int) : Int) ∧ ((i2 : Int) : Int) < (((p0.getD i2 default).length : Nat) : Int)))) <| (bif ((!decide ((((p0.getD i2 default).length : Nat) : Int) = ((p0.length : Nat) : Int))) || (!((decide (((p0.getD i2 default).getD i2 default).Lo = 0)) && (decide (((p0.getD i2 default).getD i2 default).Hi = 0))))) then some false else (rangeGo (fun i6 (s6 : Unit) k6 => (bif (!(gasolierref01_IsRange ((p0.getD i2 default).getD i6 default) 0 600)) then some false else k6 ())) (fun (s6 : Unit) => k2 ()) ((p0.getD i2 default).length) 0 ()))) (fun (s2 : Unit) => (rangeGo (fun i9 (s9 : Unit) k9 => (rangeGo (fun i11 (s11 : Unit) k11 => (rangeGo (fun i13 (s13 : Unit) k13 => must (0 ≤ ((i13 : Int) : Int) ∧ ((i13 : Int) : Int) < (((p0.getD i9 default).length : Nat) : Int)) <| must (0 ≤ ((i11 : Int) : Int) ∧ ((i11 : Int) : Int) < (((p0.getD i9 default).length : Nat) : Int)) <| must (0 ≤ ((i13 : Int) : Int) ∧ ((i13 : Int) : Int) < (((p0.getD i11 default).length : Nat) : Int)) <| must (inI (((p0.getD i9 default).getD i11 default).Lo + ((p0.getD i11 default).getD i13 default).Lo)) <| must (((!(decide ((((p0.getD i9 default).getD i11 default).Lo + ((p0.getD i11 default).getD i13 default).Lo) < ((p0.getD i9 default).getD i13 default).Lo))) = true → (0 ≤ ((i13 : Int) : Int) ∧ ((i13 : Int) : Int) < (((p0.getD i9 default).length : Nat) : Int)))) <| must (((!(decide ((((p0.getD i9 default).getD i11 default).Lo + ((p0.getD i11 default).getD i13 default).Lo) < ((p0.getD i9 default).getD i13 default).Lo))) = true → (0 ≤ ((i11 : Int) : Int) ∧ ((i11 : Int) : Int) < (((p0.getD i9 default).length : Nat) : Int)))) <| must (((!(decide ((((p0.getD i9 default).getD i11 default).Lo + ((p0.getD i11 default).getD i13 default).Lo) < ((p0.getD i9 default).getD i13 default).Lo))) = true → (0 ≤ ((i13 : Int) : Int) ∧ ((i13 : Int) : Int) < (((p0.getD i11 default).length : Nat) : Int)))) <| must (((!(decide ((((p0.getD i9 default).getD i11 default).Lo + ((p0.getD i11 default).getD i13 default).Lo) < ((p0.getD i9 default).getD i13 default).Lo))) = true → (inI (((p0.getD i9 default).getD i11 default).Hi + ((p0.getD i11 default).getD i13 default).Hi)))) <| (bif ((decide ((((p0.getD i9 default).getD i11 default).Lo + ((p0.getD i11 default).getD i13 default).Lo) < ((p0.getD i9 default).getD i13 default).Lo)) || (decide ((((p0.getD i9 default).getD i11 default).Hi + ((p0.getD i11 default).getD i13 default).Hi) < ((p0.getD i9 default).getD i13 default).Hi))) then some false else k13 ())) (fun (s13 : Unit) => k11 ()) p0.length 0 ())) (fun (s11 : Unit) => k9 ()) p0.length 0 ())) (fun (s9 : Unit) => some true) p0.length 0 ())) p0.length 0 ()))
def gasolierref01_Within (p0 : Int) (p1 : Int) (p2 : Int) : Bool :=
 ((decide (p1 ≤ p0)) && (decide (p0 ≤ p2)))
def gasolierref04_CheckTask (p0 : Task) : Int :=
 (bif ((((!(gasolierref01_Within p0.Lamp 1 999)) || (!(gasolierref01_Within p0.Place 0 11))) || (!(gasolierref01_Within p0.At 0 1439))) || (!(gasolierref01_Within p0.Serve 1 120))) then 40 else 0)
def gasolierref04_CheckHand (p0 : Hand) : Int :=
 (bif ((!(gasolierref01_Within p0.Id 1 99)) || (!(gasolierref01_IsRange (⟨p0.From, p0.To⟩ : Range) 0 1439))) then 41 else 0)
def gasolierref04_Check (p0 : Crew) : Option Int :=
 bindO ((bif (!((decide (24 < ((p0.Tasks.length : Nat) : Int))) || (decide (16 < ((p0.Hands.length : Nat) : Int))))) then gasolierref04_isTravel p0.Travel else some default)) fun y1 => (bif (((decide (24 < ((p0.Tasks.length : Nat) : Int))) || (decide (16 < ((p0.Hands.length : Nat) : Int)))) || (!y1)) then some 42 else (rangeGo (fun i4 (s4 : Unit) k4 => must ((((!((!decide ((gasolierref04_CheckTask (p0.Tasks.getD i4 default)) = 0)) || (decide (((p0.Travel.length : Nat) : Int) ≤ (p0.Tasks.getD i4 default).Place)))) && (decide (0 < (i4 : Int)))) = true → (inI ((i4 : Int) - 1)))) <| must ((((!((!decide ((gasolierref04_CheckTask (p0.Tasks.getD i4 default)) = 0)) || (decide (((p0.Travel.length : Nat) : Int) ≤ (p0.Tasks.getD i4 default).Place)))) && (decide (0 < (i4 : Int)))) = true → (0 ≤ (((i4 : Int) - 1) : Int) ∧ (((i4 : Int) - 1) : Int) < ((p0.Tasks.length : Nat) : Int)))) <| (bif (((!decide ((gasolierref04_CheckTask (p0.Tasks.getD i4 default)) = 0)) || (decide (((p0.Travel.length : Nat) : Int) ≤ (p0.Tasks.getD i4 default).Place))) || ((decide (0 < (i4 : Int))) && (decide ((p0.Tasks.getD i4 default).Lamp ≤ (p0.Tasks.getD (((i4 : Int) - 1)).toNat default).Lamp)))) then some 42 else k4 ())) (fun (s4 : Unit) => (rangeGo (fun i9 (s9 : Unit) k9 => must ((((!(!decide ((gasolierref04_CheckHand (p0.Hands.getD i9 default)) = 0))) && (decide (0 < (i9 : Int)))) = true → (inI ((i9 : Int) - 1)))) <| must ((((!(!decide ((gasolierref04_CheckHand (p0.Hands.getD i9 default)) = 0))) && (decide (0 < (i9 : Int)))) = true → (0 ≤ (((i9 : Int) - 1) : Int) ∧ (((i9 : Int) - 1) : Int) < ((p0.Hands.length : Nat) : Int)))) <| (bif ((!decide ((gasolierref04_CheckHand (p0.Hands.getD i9 default)) = 0)) || ((decide (0 < (i9 : Int))) && (decide ((p0.Hands.getD i9 default).Id ≤ (p0.Hands.getD (((i9 : Int) - 1)).toNat default).Id)))) then some 42 else k9 ())) (fun (s9 : Unit) => some 0) p0.Hands.length 0 ())) p0.Tasks.length 0 ()))
def gasolierref04_follows (p0 : Crew) (p1 : Int) (p2 : Int) : Option Int :=
 must (0 ≤ (p1 : Int) ∧ (p1 : Int) < ((p0.Tasks.length : Nat) : Int)) <| must (0 ≤ (p2 : Int) ∧ (p2 : Int) < ((p0.Tasks.length : Nat) : Int)) <| must (0 ≤ ((p0.Tasks.getD (p1).toNat default).Place : Int) ∧ ((p0.Tasks.getD (p1).toNat default).Place : Int) < ((p0.Travel.length : Nat) : Int)) <| must (0 ≤ ((p0.Tasks.getD (p2).toNat default).Place : Int) ∧ ((p0.Tasks.getD (p2).toNat default).Place : Int) < (((p0.Travel.getD ((p0.Tasks.getD (p1).toNat default).Place).toNat default).length : Nat) : Int)) <| must (inI ((p0.Tasks.getD (p1).toNat default).At + (p0.Tasks.getD (p1).toNat default).Serve)) <| must (inI (((p0.Tasks.getD (p1).toNat default).At + (p0.Tasks.getD (p1).toNat default).Serve) + ((p0.Travel.getD ((p0.Tasks.getD (p1).toNat default).Place).toNat default).getD ((p0.Tasks.getD (p2).toNat default).Place).toNat default).Hi)) <| (bif (decide ((((p0.Tasks.getD (p1).toNat default).At + (p0.Tasks.getD (p1).toNat default).Serve) + ((p0.Travel.getD ((p0.Tasks.getD (p1).toNat default).Place).toNat default).getD ((p0.Tasks.getD (p2).toNat default).Place).toNat default).Hi) ≤ (p0.Tasks.getD (p2).toNat default).At)) then some 1 else must (inI ((p0.Tasks.getD (p1).toNat default).At + (p0.Tasks.getD (p1).toNat default).Serve)) <| must (inI (((p0.Tasks.getD (p1).toNat default).At + (p0.Tasks.getD (p1).toNat default).Serve) + ((p0.Travel.getD ((p0.Tasks.getD (p1).toNat default).Place).toNat default).getD ((p0.Tasks.getD (p2).toNat default).Place).toNat default).Lo)) <| (bif (decide ((p0.Tasks.getD (p2).toNat default).At < (((p0.Tasks.getD (p1).toNat default).At + (p0.Tasks.getD (p1).toNat default).Serve) + ((p0.Travel.getD ((p0.Tasks.getD (p1).toNat default).Place).toNat default).getD ((p0.Tasks.getD (p2).toNat default).Place).toNat default).Lo))) then some 0 else some 2))
def gasolierref04_isRound (p0 : Crew) (p1 : (List Int)) : Option Bool :=
 (rangeGo (fun i1 (s1 : Unit) k1 => must (inI (((p0.Tasks.length : Nat) : Int) - 1)) <| must ((((!(!(gasolierref01_Within (p1.getD i1 default) 0 (((p0.Tasks.length : Nat) : Int) - 1)))) && (decide (0 < (i1 : Int)))) = true → (inI ((i1 : Int) - 1)))) <| must ((((!(!(gasolierref01_Within (p1.getD i1 default) 0 (((p0.Tasks.length : Nat) : Int) - 1)))) && (decide (0 < (i1 : Int)))) = true → (0 ≤ (((i1 : Int) - 1) : Int) ∧ (((i1 : Int) - 1) : Int) < ((p1.length : Nat) : Int)))) <| bindO ((bif ((!(!(gasolierref01_Within (p1.getD i1 default) 0 (((p0.Tasks.length : Nat) : Int) - 1)))) && (decide (0 < (i1 : Int)))) then gasolierref04_follows p0 (p1.getD (((i1 : Int) - 1)).toNat default) (p1.getD i1 default) else some default)) fun y6 => (bif ((!(gasolierref01_Within (p1.getD i1 default) 0 (((p0.Tasks.length : Nat) : Int) - 1))) || ((decide (0 < (i1 : Int))) && (!decide (y6 = 1)))) then some false else k1 ())) (fun (s1 : Unit) => some (decide (0 < ((p1.length : Nat) : Int)))) p1.length 0 ())
def gasolierref04_CheckRounds (p0 : Crew) (p1 : (List (List Int))) : Option Int :=
 bindO (gasolierref04_Check p0) fun y1 => (bif (!decide (y1 = 0)) then some y1 else must (0 ≤ (((p0.Tasks.length : Nat) : Int) : Int) ∧ (((p0.Tasks.length : Nat) : Int) : Int) ≤ ((p0.Tasks.length : Nat) : Int) ∧ room (((p0.Tasks.length : Nat) : Int) : Int).toNat 8) <| (rangeGo (fun i5 (s5 : (List Int)) k5 => bindO (gasolierref04_isRound p0 (p1.getD i5 default)) fun y7 => must ((((!(!y7)) && (decide (0 < (i5 : Int)))) = true → (inI ((i5 : Int) - 1)))) <| must ((((!(!y7)) && (decide (0 < (i5 : Int)))) = true → (0 ≤ (((i5 : Int) - 1) : Int) ∧ (((i5 : Int) - 1) : Int) < ((p1.length : Nat) : Int)))) <| must ((((!(!y7)) && (decide (0 < (i5 : Int)))) = true → (0 ≤ (0 : Int) ∧ (0 : Int) < (((p1.getD (((i5 : Int) - 1)).toNat default).length : Nat) : Int)))) <| must ((((!(!y7)) && (decide (0 < (i5 : Int)))) = true → (0 ≤ (0 : Int) ∧ (0 : Int) < (((p1.getD i5 default).length : Nat) : Int)))) <| (bif ((!y7) || ((decide (0 < (i5 : Int))) && (decide (((p1.getD i5 default).getD 0 default) ≤ ((p1.getD (((i5 : Int) - 1)).toNat default).getD 0 default))))) then some 43 else (rangeGo (fun i14 (s14 : (List Int)) k14 => must (0 ≤ (((p1.getD i5 default).getD i14 default) : Int) ∧ (((p1.getD i5 default).getD i14 default) : Int) < ((s14.length : Nat) : Int)) <| must (inI ((s14.getD (((p1.getD i5 default).getD i14 default)).toNat default) + 1)) <| must (0 ≤ (((p1.getD i5 default).getD i14 default) : Int) ∧ (((p1.getD i5 default).getD i14 default) : Int) < ((s14.length : Nat) : Int)) <| k14 (s14.set (((p1.getD i5 default).getD i14 default)).toNat ((s14.getD (((p1.getD i5 default).getD i14 default)).toNat default) + 1))) (fun (s14 : (List Int)) => k5 s14) ((p1.getD i5 default).length) 0 s5))) (fun (s5 : (List Int)) => must (s5.length ≤ 9223372036854775807) <| (rangeGo (fun i19 (s19 : Unit) k19 => (bif (!decide ((s5.getD i19 default) = 1)) then some 43 else k19 ())) (fun (s19 : Unit) => some 0) s5.length 0 ())) p1.length 0 (List.replicate (((p0.Tasks.length : Nat) : Int)).toNat (0 : Int))))
def slices_IndexFunc_int (p0 : (List Int)) (p1 : Int → Option Bool) : Option Int :=
 (rangeGo (fun i1 (s1 : Unit) k1 => bindO (p1 (p0.getD i1 default)) fun y3 => (bif y3 then some (i1 : Int) else k1 ())) (fun (s1 : Unit) => some (-1)) p0.length 0 ())
def slices_ContainsFunc_int (p0 : (List Int)) (p1 : Int → Option Bool) : Option Bool :=
 bindO (slices_IndexFunc_int p0 p1) fun y1 => some (decide (0 ≤ y1))
def crew_areWalks_1 (p0 : Int) : Bool :=
 (!(crew_in p0 0 600))
def crew_areWalks (p0 : (List (List Int))) (p1 : (List (List Int))) : Option Bool :=
 (bif (!decide (((p1.length : Nat) : Int) = ((p0.length : Nat) : Int))) then some false else (rangeGo (fun i2 (s2 : Unit) k2 => must (0 ≤ ((i2 : Int) : Int) ∧ ((i2 : Int) : Int) < ((p0.length : Nat) : Int)) <| must (inI ((((p0.getD i2 default).length : Nat) : Int) - 1)) <| bindO ((bif (!(!decide ((((p1.getD i2 default).length : Nat) : Int) = ((((p0.getD i2 default).length : Nat) : Int) - 1)))) then slices_ContainsFunc_int (p1.getD i2 default) (fun x0 => some (crew_areWalks_1 x0)) else some default)) fun y6 => (bif ((!decide ((((p1.getD i2 default).length : Nat) : Int) = ((((p0.getD i2 default).length : Nat) : Int) - 1))) || y6) then some false else k2 ())) (fun (s2 : Unit) => some true) p1.length 0 ()))
def crew_Late (p0 : Crew) (p1 : (List (List Int))) (p2 : (List (List Int))) : Option ((List Int) × Int) :=
 bindO (crew_asked p0 p1) fun y1 => (bif (!decide (y1.2 = 0)) then some ([], y1.2) else bindO (crew_areWalks p1 p2) fun y4 => (bif (!y4) then some ([], 48) else (rangeGo (fun i7 (s7 : (List Int)) k7 => must (0 ≤ (0 : Int) ∧ (0 : Int) < (((p1.getD i7 default).length : Nat) : Int)) <| must (0 ≤ (((p1.getD i7 default).getD 0 default) : Int) ∧ (((p1.getD i7 default).getD 0 default) : Int) < ((p0.Tasks.length : Nat) : Int)) <| must ((0 : Int) ≤ 1 ∧ (1 : Int) ≤ (((p1.getD i7 default).length : Nat) : Int)) <| (rangeGo (fun i12 (s12 : Int × (List Int)) k12 => must (0 ≤ ((i12 : Int) : Int) ∧ ((i12 : Int) : Int) < (((p1.getD i7 default).length : Nat) : Int)) <| must (0 ≤ (((p1.getD i7 default).getD i12 default) : Int) ∧ (((p1.getD i7 default).getD i12 default) : Int) < ((p0.Tasks.length : Nat) : Int)) <| must (0 ≤ ((i7 : Int) : Int) ∧ ((i7 : Int) : Int) < ((p2.length : Nat) : Int)) <| must (0 ≤ ((i12 : Int) : Int) ∧ ((i12 : Int) : Int) < (((p2.getD i7 default).length : Nat) : Int)) <| must (inI ((p0.Tasks.getD (((p1.getD i7 default).getD i12 default)).toNat default).Serve + ((p2.getD i7 default).getD i12 default))) <| must (inI (s12.1 + ((p0.Tasks.getD (((p1.getD i7 default).getD i12 default)).toNat default).Serve + ((p2.getD i7 default).getD i12 default)))) <| must (0 ≤ ((((p1.getD i7 default).drop 1).getD i12 default) : Int) ∧ ((((p1.getD i7 default).drop 1).getD i12 default) : Int) < ((p0.Tasks.length : Nat) : Int)) <| (joinK (fun (k21 : (List Int) → _) => (bif (decide ((p0.Tasks.getD ((((p1.getD i7 default).drop 1).getD i12 default)).toNat default).At < (s12.1 + ((p0.Tasks.getD (((p1.getD i7 default).getD i12 default)).toNat default).Serve + ((p2.getD i7 default).getD i12 default))))) then must (room (s12.2 ++ ([(((p1.getD i7 default).drop 1).getD i12 default)] : List Int)).length 8) <| k21 (s12.2 ++ ([(((p1.getD i7 default).drop 1).getD i12 default)] : List Int)) else k21 s12.2)) (fun (s21 : (List Int)) => must (0 ≤ ((((p1.getD i7 default).drop 1).getD i12 default) : Int) ∧ ((((p1.getD i7 default).drop 1).getD i12 default) : Int) < ((p0.Tasks.length : Nat) : Int)) <| k12 ((max (s12.1 + ((p0.Tasks.getD (((p1.getD i7 default).getD i12 default)).toNat default).Serve + ((p2.getD i7 default).getD i12 default))) ((p0.Tasks.getD ((((p1.getD i7 default).drop 1).getD i12 default)).toNat default).At)), s21)))) (fun (s12 : Int × (List Int)) => k7 s12.2) (((p1.getD i7 default).drop 1).length) 0 ((p0.Tasks.getD (((p1.getD i7 default).getD 0 default)).toNat default).At, s7))) (fun (s7 : (List Int)) => bindO (slices_Sort_int_l s7) fun y25 => must (y25.length = s7.length) <| some (y25, 0)) p1.length 0 ([] : List Int))))
def gasolierref01_Same (p0 : (List Int)) (p1 : (List Int)) : Option Bool :=
 (bif (!decide (((p0.length : Nat) : Int) = ((p1.length : Nat) : Int))) then some false else (rangeGo (fun i2 (s2 : Unit) k2 => must (0 ≤ ((i2 : Int) : Int) ∧ ((i2 : Int) : Int) < ((p1.length : Nat) : Int)) <| (bif (!decide ((p0.getD i2 default) = (p1.getD i2 default))) then some false else k2 ())) (fun (s2 : Unit) => some true) p0.length 0 ()))
def gasolierlaw04_team  : Crew :=
 (⟨([(⟨1, 0, 300, 2⟩ : Task), (⟨2, 1, 320, 2⟩ : Task), (⟨3, 0, 325, 2⟩ : Task), (⟨4, 1, 350, 2⟩ : Task)] : List Task), ([([(⟨0, 0⟩ : Range), (⟨10, 20⟩ : Range)] : List Range), ([(⟨10, 20⟩ : Range), (⟨0, 0⟩ : Range)] : List Range)] : List (List Range)), ([(⟨7, 290, 400⟩ : Hand), (⟨8, 310, 330⟩ : Hand)] : List Hand)⟩ : Crew)
def crew_least (p0 : Range) : Int :=
 p0.Lo
def crew_Follows (p0 : Crew) (p1 : Int) (p2 : Int) : Option (Int × Int) :=
 bindO (crew_Check p0) fun y1 => (bif (!decide (y1 = 0)) then some (0, y1) else must (inI (((p0.Tasks.length : Nat) : Int) - 1)) <| must (((!(!(crew_in p1 0 (((p0.Tasks.length : Nat) : Int) - 1)))) = true → (inI (((p0.Tasks.length : Nat) : Int) - 1)))) <| (bif ((!(crew_in p1 0 (((p0.Tasks.length : Nat) : Int) - 1))) || (!(crew_in p2 0 (((p0.Tasks.length : Nat) : Int) - 1)))) then some (0, 1) else bindO ((bif (!(decide (p1 = p2))) then crew_spare p0 p1 p2 (fun x0 => some (crew_least x0)) else some default)) fun y7 => (bif ((decide (p1 = p2)) || (decide (y7 < 0))) then some (0, 0) else bindO (crew_spare p0 p1 p2 (fun x0 => some (crew_most x0))) fun y10 => (bif (decide (0 ≤ y10)) then some (1, 0) else some (2, 0)))))
def crew_plan__followers_1 (c0 : crew_plan) (c1 : Int) : Option (List (Int)) :=
 must (c0.next.length ≤ 9223372036854775807) <| (rangeGo (fun i1 (s1 : Unit) k1 => must (0 ≤ (c1 : Int) ∧ (c1 : Int) < ((c0.next.length : Nat) : Int)) <| must (0 ≤ ((i1 : Int) : Int) ∧ ((i1 : Int) : Int) < 64) <| must (0 ≤ ((Int.fdiv (c0.next.getD (c1).toNat default) (2 ^ ((i1 : Int) : Int).toNat)) : Int) ∧ 0 ≤ (1 : Int) ∧ inI (Int.fdiv (c0.next.getD (c1).toNat default) (2 ^ ((i1 : Int) : Int).toNat)) ∧ inI 1) <| emitIf (decide (((((Int.fdiv (c0.next.getD (c1).toNat default) (2 ^ ((i1 : Int) : Int).toNat)) : Int).toNat &&& (1 : Int).toNat : Nat) : Int) = 1)) (i1 : Int) <| k1 ()) (fun (s1 : Unit) => some []) c0.next.length 0 ())
def crew_plan__pair_1_l_F (fuel : Nat) (rec : Int → crew_plan → Int → (List Int) → (List Int) → Option (Bool × Int × (List Int) × (List Int))) (p0 : Int) (c0 : crew_plan) (c1 : Int) (c2 : (List Int)) (c4 : (List Int)) : Option (Bool × Int × (List Int) × (List Int)) :=
 bindO (crew_plan__followers_1 c0 p0) fun it1 => (listGo (fun (x1 : Int) (s2 : (List Int) × (List Int) × Int) k2 => must (0 ≤ (x1 : Int) ∧ (x1 : Int) < 64) <| must (0 ≤ ((Int.fdiv s2.2.2 (2 ^ (x1 : Int).toNat)) : Int) ∧ 0 ≤ (1 : Int) ∧ inI (Int.fdiv s2.2.2 (2 ^ (x1 : Int).toNat)) ∧ inI 1) <| (bif (decide (((((Int.fdiv s2.2.2 (2 ^ (x1 : Int).toNat)) : Int).toNat &&& (1 : Int).toNat : Nat) : Int) = 1)) then k2 (s2.1, s2.2.1, s2.2.2) else must (0 ≤ (x1 : Int) ∧ (x1 : Int) < 64 ∧ inI ((1 : Int) * 2 ^ (x1 : Int).toNat)) <| must (0 ≤ (s2.2.2 : Int) ∧ 0 ≤ (((1 : Int) * 2 ^ (x1 : Int).toNat) : Int) ∧ inI s2.2.2 ∧ inI ((1 : Int) * 2 ^ (x1 : Int).toNat)) <| must (0 ≤ (x1 : Int) ∧ (x1 : Int) < ((s2.1.length : Nat) : Int)) <| must (((!(decide ((s2.1.getD (x1).toNat default) < 0))) = true → (0 ≤ (x1 : Int) ∧ (x1 : Int) < ((s2.1.length : Nat) : Int)))) <| bindO ((bif (!(decide ((s2.1.getD (x1).toNat default) < 0))) then rec (s2.1.getD (x1).toNat default) c0 (((s2.2.2 : Int).toNat ||| (((1 : Int) * 2 ^ (x1 : Int).toNat) : Int).toNat : Nat) : Int) s2.1 s2.2.1 else some (default, (((s2.2.2 : Int).toNat ||| (((1 : Int) * 2 ^ (x1 : Int).toNat) : Int).toNat : Nat) : Int), s2.1, s2.2.1))) fun y10 => (bif ((decide ((s2.1.getD (x1).toNat default) < 0)) || y10.1) then must (0 ≤ (x1 : Int) ∧ (x1 : Int) < ((y10.2.2.1.length : Nat) : Int)) <| must (0 ≤ (p0 : Int) ∧ (p0 : Int) < ((y10.2.2.2.length : Nat) : Int)) <| some (true, y10.2.1, (y10.2.2.1.set (x1).toNat p0), (y10.2.2.2.set (p0).toNat x1)) else k2 (y10.2.2.1, y10.2.2.2, y10.2.1)))) (fun (s2 : (List Int) × (List Int) × Int) => some (false, s2.2.2, s2.1, s2.2.1)) it1 (c2, c4, c1))
def crew_plan__pair_1_l (fuel : Nat) : Nat → Int → crew_plan → Int → (List Int) → (List Int) → Option (Bool × Int × (List Int) × (List Int))
 | 0 => fun _ _ _ _ _ => none
 | n + 1 => crew_plan__pair_1_l_F fuel (crew_plan__pair_1_l fuel n)
def crew_plan__pair (fuel : Nat) (p0 : crew_plan) : Option ((List Int) × (List Int)) :=
 must (0 ≤ (((p0.next.length : Nat) : Int) : Int) ∧ (((p0.next.length : Nat) : Int) : Int) ≤ ((p0.next.length : Nat) : Int) ∧ room (((p0.next.length : Nat) : Int) : Int).toNat 8) <| must (0 ≤ (((p0.next.length : Nat) : Int) : Int) ∧ (((p0.next.length : Nat) : Int) : Int) ≤ ((p0.next.length : Nat) : Int) ∧ room (((p0.next.length : Nat) : Int) : Int).toNat 8) <| must ((List.replicate (((p0.next.length : Nat) : Int)).toNat (0 : Int)).length ≤ 9223372036854775807) <| (rangeGo (fun i3 (s3 : (List Int) × (List Int)) k3 => must (0 ≤ ((i3 : Int) : Int) ∧ ((i3 : Int) : Int) < ((s3.1.length : Nat) : Int)) <| must (0 ≤ ((i3 : Int) : Int) ∧ ((i3 : Int) : Int) < ((s3.2.length : Nat) : Int)) <| k3 ((s3.1.set i3 (-1)), (s3.2.set i3 (-1)))) (fun (s3 : (List Int) × (List Int)) => must (p0.next.length ≤ 9223372036854775807) <| (rangeGo (fun i7 (s7 : (List Int) × (List Int)) k7 => bindO (crew_plan__pair_1_l fuel fuel (i7 : Int) p0 0 s7.1 s7.2) fun y9 => k7 (y9.2.2.1, y9.2.2.2)) (fun (s7 : (List Int) × (List Int)) => some (s7.1, s7.2)) p0.next.length 0 (s3.1, s3.2))) ((List.replicate (((p0.next.length : Nat) : Int)).toNat (0 : Int)).length) 0 ((List.replicate (((p0.next.length : Nat) : Int)).toNat (0 : Int)), (List.replicate (((p0.next.length : Nat) : Int)).toNat (0 : Int))))
def crew_plan__count (fuel : Nat) (p0 : crew_plan) : Option Int :=
 bindO (crew_plan__pair fuel p0) fun y1 => (rangeGo (fun i3 (s3 : Int) k3 => (bif (decide ((y1.1.getD i3 default) < 0)) then must (inI (s3 + 1)) <| k3 (s3 + 1) else k3 s3)) (fun (s3 : Int) => some s3) y1.1.length 0 0)
def crew_Count (fuel : Nat) (p0 : Crew) : Option (Int × Int) :=
 bindO (crew_Check p0) fun y1 => (bif (!decide (y1 = 0)) then some (0, y1) else bindO (crew_newPlan p0 (fun x0 => some (crew_most x0))) fun y4 => must (y4.isSome = true) <| bindO (crew_plan__count fuel (y4.getD default)) fun y7 => some (y7, 0))
def crew_Bounds (fuel : Nat) (p0 : Crew) : Option (Range × Int) :=
 bindO (crew_Check p0) fun y1 => (bif (!decide (y1 = 0)) then some ((⟨0, 0⟩ : Range), y1) else bindO (crew_newPlan p0 (fun x0 => some (crew_least x0))) fun y4 => must (y4.isSome = true) <| bindO (crew_plan__count fuel (y4.getD default)) fun y7 => bindO (crew_newPlan p0 (fun x0 => some (crew_most x0))) fun y9 => must (y9.isSome = true) <| bindO (crew_plan__count fuel (y9.getD default)) fun y12 => some ((⟨y7, y12⟩ : Range), 0))
def crew_shift__free (p0 : crew_shift) : Option (List Int) :=
 must (0 ≤ (((p0.rounds.length : Nat) : Int) : Int) ∧ (((p0.rounds.length : Nat) : Int) : Int) ≤ ((p0.rounds.length : Nat) : Int) ∧ room (((p0.rounds.length : Nat) : Int) : Int).toNat 8) <| must ((List.replicate (((p0.rounds.length : Nat) : Int)).toNat (0 : Int)).length ≤ 9223372036854775807) <| (rangeGo (fun i2 (s2 : (List Int)) k2 => must (0 ≤ ((i2 : Int) : Int) ∧ ((i2 : Int) : Int) < ((s2.length : Nat) : Int)) <| k2 (s2.set i2 (-1))) (fun (s2 : (List Int)) => some s2) ((List.replicate (((p0.rounds.length : Nat) : Int)).toNat (0 : Int)).length) 0 (List.replicate (((p0.rounds.length : Nat) : Int)).toNat (0 : Int)))
def crew_shift__indices (p0 : crew_shift) : Option (List Int) :=
 must (p0.rounds.length ≤ 9223372036854775807) <| (rangeGo (fun i1 (s1 : (List Int)) k1 => must (room (s1 ++ ([(i1 : Int)] : List Int)).length 8) <| k1 (s1 ++ ([(i1 : Int)] : List Int))) (fun (s1 : (List Int)) => some s1) p0.rounds.length 0 ([] : List Int))
def crew_plan__able (p0 : crew_plan) (p1 : Hand) (p2 : (List Int)) : Option Bool :=
 must (0 ≤ (0 : Int) ∧ (0 : Int) < ((p2.length : Nat) : Int)) <| must (0 ≤ ((p2.getD 0 default) : Int) ∧ ((p2.getD 0 default) : Int) < ((p0.Crew.Tasks.length : Nat) : Int)) <| must (inI (((p2.length : Nat) : Int) - 1)) <| must (0 ≤ ((((p2.length : Nat) : Int) - 1) : Int) ∧ ((((p2.length : Nat) : Int) - 1) : Int) < ((p2.length : Nat) : Int)) <| must (0 ≤ ((p2.getD ((((p2.length : Nat) : Int) - 1)).toNat default) : Int) ∧ ((p2.getD ((((p2.length : Nat) : Int) - 1)).toNat default) : Int) < ((p0.Crew.Tasks.length : Nat) : Int)) <| must (((decide (p1.From ≤ (p0.Crew.Tasks.getD ((p2.getD 0 default)).toNat default).At)) = true → (inI ((p0.Crew.Tasks.getD ((p2.getD ((((p2.length : Nat) : Int) - 1)).toNat default)).toNat default).At + (p0.Crew.Tasks.getD ((p2.getD ((((p2.length : Nat) : Int) - 1)).toNat default)).toNat default).Serve)))) <| some ((decide (p1.From ≤ (p0.Crew.Tasks.getD ((p2.getD 0 default)).toNat default).At)) && (decide (((p0.Crew.Tasks.getD ((p2.getD ((((p2.length : Nat) : Int) - 1)).toNat default)).toNat default).At + (p0.Crew.Tasks.getD ((p2.getD ((((p2.length : Nat) : Int) - 1)).toNat default)).toNat default).Serve) ≤ p1.To)))
def crew_shift__all_1_l_F (fuel : Nat) (rec : Int → crew_shift → Int → (List Int) → (List Int) → Option (Bool × Int × (List Int))) (p0 : Int) (c0 : crew_shift) (c1 : Int) (c2 : (List Int)) (c3 : (List Int)) : Option (Bool × Int × (List Int)) :=
 must (c0.plan.isSome = true) <| (rangeGo (fun i2 (s2 : (List Int) × Int) k2 => (joinK (fun (k4 : Int × (List Int) → _) => must (0 ≤ ((i2 : Int) : Int) ∧ ((i2 : Int) : Int) < 64) <| must (0 ≤ ((Int.fdiv s2.2 (2 ^ ((i2 : Int) : Int).toNat)) : Int) ∧ 0 ≤ (1 : Int) ∧ inI (Int.fdiv s2.2 (2 ^ ((i2 : Int) : Int).toNat)) ∧ inI 1) <| must (((!(decide (((((Int.fdiv s2.2 (2 ^ ((i2 : Int) : Int).toNat)) : Int).toNat &&& (1 : Int).toNat : Nat) : Int) = 1))) = true → (0 ≤ (p0 : Int) ∧ (p0 : Int) < ((c0.rounds.length : Nat) : Int)))) <| must (((!(decide (((((Int.fdiv s2.2 (2 ^ ((i2 : Int) : Int).toNat)) : Int).toNat &&& (1 : Int).toNat : Nat) : Int) = 1))) = true → (c0.plan.isSome = true))) <| bindO ((bif (!(decide (((((Int.fdiv s2.2 (2 ^ ((i2 : Int) : Int).toNat)) : Int).toNat &&& (1 : Int).toNat : Nat) : Int) = 1))) then crew_plan__able (c0.plan.getD default) (((c0.plan.getD default).Crew.Hands).getD i2 default) (c0.rounds.getD (p0).toNat default) else some default)) fun y9 => must (((!((decide (((((Int.fdiv s2.2 (2 ^ ((i2 : Int) : Int).toNat)) : Int).toNat &&& (1 : Int).toNat : Nat) : Int) = 1)) || (!y9))) = true → (0 ≤ ((i2 : Int) : Int) ∧ ((i2 : Int) : Int) < ((s2.1.length : Nat) : Int)))) <| must ((((!((decide (((((Int.fdiv s2.2 (2 ^ ((i2 : Int) : Int).toNat)) : Int).toNat &&& (1 : Int).toNat : Nat) : Int) = 1)) || (!y9))) && (decide (0 < (s2.1.getD i2 default)))) = true → (0 ≤ ((i2 : Int) : Int) ∧ ((i2 : Int) : Int) < ((s2.1.length : Nat) : Int)))) <| must ((((!((decide (((((Int.fdiv s2.2 (2 ^ ((i2 : Int) : Int).toNat)) : Int).toNat &&& (1 : Int).toNat : Nat) : Int) = 1)) || (!y9))) && (decide (0 < (s2.1.getD i2 default)))) = true → (inI ((s2.1.getD i2 default) - 1)))) <| must ((((!((decide (((((Int.fdiv s2.2 (2 ^ ((i2 : Int) : Int).toNat)) : Int).toNat &&& (1 : Int).toNat : Nat) : Int) = 1)) || (!y9))) && (decide (0 < (s2.1.getD i2 default)))) = true → (0 ≤ (((s2.1.getD i2 default) - 1) : Int) ∧ (((s2.1.getD i2 default) - 1) : Int) < ((c3.length : Nat) : Int)))) <| (bif (((decide (((((Int.fdiv s2.2 (2 ^ ((i2 : Int) : Int).toNat)) : Int).toNat &&& (1 : Int).toNat : Nat) : Int) = 1)) || (!y9)) || ((decide (0 < (s2.1.getD i2 default))) && (decide (0 ≤ (c3.getD (((s2.1.getD i2 default) - 1)).toNat default))))) then k4 (s2.2, s2.1) else must (0 ≤ ((i2 : Int) : Int) ∧ ((i2 : Int) : Int) < 64 ∧ inI ((1 : Int) * 2 ^ ((i2 : Int) : Int).toNat)) <| must (0 ≤ (s2.2 : Int) ∧ 0 ≤ (((1 : Int) * 2 ^ ((i2 : Int) : Int).toNat) : Int) ∧ inI s2.2 ∧ inI ((1 : Int) * 2 ^ ((i2 : Int) : Int).toNat)) <| must (0 ≤ ((i2 : Int) : Int) ∧ ((i2 : Int) : Int) < ((s2.1.length : Nat) : Int)) <| must (((!(decide ((s2.1.getD i2 default) = 0))) = true → (0 ≤ ((i2 : Int) : Int) ∧ ((i2 : Int) : Int) < ((s2.1.length : Nat) : Int)))) <| must (((!(decide ((s2.1.getD i2 default) = 0))) = true → (inI ((s2.1.getD i2 default) - 1)))) <| bindO ((bif (!(decide ((s2.1.getD i2 default) = 0))) then rec ((s2.1.getD i2 default) - 1) c0 (((s2.2 : Int).toNat ||| (((1 : Int) * 2 ^ ((i2 : Int) : Int).toNat) : Int).toNat : Nat) : Int) s2.1 c3 else some (default, (((s2.2 : Int).toNat ||| (((1 : Int) * 2 ^ ((i2 : Int) : Int).toNat) : Int).toNat : Nat) : Int), s2.1))) fun y21 => must (y21.2.2.length = s2.1.length) <| (bif ((decide ((s2.1.getD i2 default) = 0)) || y21.1) then must (inI (p0 + 1)) <| must (0 ≤ ((i2 : Int) : Int) ∧ ((i2 : Int) : Int) < ((y21.2.2.length : Nat) : Int)) <| some (true, y21.2.1, (y21.2.2.set i2 (p0 + 1))) else k4 (y21.2.1, y21.2.2)))) (fun (s4 : Int × (List Int)) => k2 (s4.2, s4.1)))) (fun (s2 : (List Int) × Int) => some (false, s2.2, s2.1)) (((c0.plan.getD default).Crew.Hands).length) 0 (c2, c1))
def crew_shift__all_1_l (fuel : Nat) : Nat → Int → crew_shift → Int → (List Int) → (List Int) → Option (Bool × Int × (List Int))
 | 0 => fun _ _ _ _ _ => none
 | n + 1 => crew_shift__all_1_l_F fuel (crew_shift__all_1_l fuel n)
def crew_shift__all (fuel : Nat) (p0 : crew_shift) (p1 : (List Int)) (p2 : (List Int)) : Option Bool :=
 must (p0.plan.isSome = true) <| must (0 ≤ (((((p0.plan.getD default).Crew.Hands).length : Nat) : Int) : Int) ∧ (((((p0.plan.getD default).Crew.Hands).length : Nat) : Int) : Int) ≤ ((((p0.plan.getD default).Crew.Hands).length : Nat) : Int) ∧ room (((((p0.plan.getD default).Crew.Hands).length : Nat) : Int) : Int).toNat 8) <| (rangeGo (fun i3 (s3 : (List Int)) k3 => must (0 ≤ ((p1.getD i3 default) : Int) ∧ ((p1.getD i3 default) : Int) < ((p2.length : Nat) : Int)) <| (bif (decide (0 ≤ (p2.getD ((p1.getD i3 default)).toNat default))) then must (0 ≤ ((p1.getD i3 default) : Int) ∧ ((p1.getD i3 default) : Int) < ((p2.length : Nat) : Int)) <| must (inI ((p1.getD i3 default) + 1)) <| must (0 ≤ ((p2.getD ((p1.getD i3 default)).toNat default) : Int) ∧ ((p2.getD ((p1.getD i3 default)).toNat default) : Int) < ((s3.length : Nat) : Int)) <| k3 (s3.set ((p2.getD ((p1.getD i3 default)).toNat default)).toNat ((p1.getD i3 default) + 1)) else k3 s3)) (fun (s3 : (List Int)) => (rangeGo (fun i10 (s10 : (List Int)) k10 => (joinK (fun (k12 : (List Int) → _) => must (0 ≤ ((p1.getD i10 default) : Int) ∧ ((p1.getD i10 default) : Int) < ((p2.length : Nat) : Int)) <| (bif (decide (0 ≤ (p2.getD ((p1.getD i10 default)).toNat default))) then k12 s10 else bindO (crew_shift__all_1_l fuel fuel (p1.getD i10 default) p0 0 s10 p2) fun y15 => (bif (!y15.1) then some false else k12 y15.2.2))) (fun (s12 : (List Int)) => k10 s12))) (fun (s10 : (List Int)) => some true) p1.length 0 s3)) p1.length 0 (List.replicate (((((p0.plan.getD default).Crew.Hands).length : Nat) : Int)).toNat (0 : Int)))
def slices_Index_int (p0 : (List Int)) (p1 : Int) : Option Int :=
 (rangeGo (fun i1 (s1 : Unit) k1 => (bif (decide (p1 = (p0.getD i1 default))) then some (i1 : Int) else k1 ())) (fun (s1 : Unit) => some (-1)) p0.length 0 ())
def slices_Contains_int (p0 : (List Int)) (p1 : Int) : Option Bool :=
 bindO (slices_Index_int p0 p1) fun y1 => some (decide (0 ≤ y1))
def crew_Assign (fuel : Nat) (p0 : Crew) (p1 : (List (List Int))) : Option ((List Int) × Int) :=
 bindO (crew_asked p0 p1) fun y1 => (bif (!decide (y1.2 = 0)) then some ([], y1.2) else bindO (crew_shift__free (⟨y1.1, p1⟩ : crew_shift)) fun y4 => bindO (crew_shift__indices (⟨y1.1, p1⟩ : crew_shift)) fun y6 => bindO (crew_shift__all fuel (⟨y1.1, p1⟩ : crew_shift) y6 y4) fun y8 => (bif (!y8) then some ([], 45) else (rangeGo (fun i11 (s11 : (List Int) × (List Int)) k11 => (rangeGo (fun i13 (s13 : (List Int)) k13 => must (y1.1.isSome = true) <| bindO (crew_plan__able (y1.1.getD default) (p0.Hands.getD i13 default) (p1.getD i11 default)) fun y16 => must (((!(!y16)) = true → (0 < s13.length ∧ 0 ≤ ((i11 : Int) : Int) ∧ ((i11 : Int) : Int) ≤ ((s13.length : Nat) : Int)))) <| bindO ((bif (!(!y16)) then slices_Contains_int ((s13.take i11).drop 0) (i13 : Int) else some default)) fun y19 => (bif ((!y16) || y19) then k13 s13 else must (0 ≤ ((i11 : Int) : Int) ∧ ((i11 : Int) : Int) < ((s13.length : Nat) : Int)) <| bindO (crew_shift__indices (⟨y1.1, p1⟩ : crew_shift)) fun y23 => bindO (crew_shift__all fuel (⟨y1.1, p1⟩ : crew_shift) y23 (s13.set i11 (i13 : Int))) fun y25 => (bif y25 then must (0 ≤ ((i11 : Int) : Int) ∧ ((i11 : Int) : Int) < (((s13.set i11 (i13 : Int)).length : Nat) : Int)) <| must (0 ≤ (((s13.set i11 (i13 : Int)).getD i11 default) : Int) ∧ (((s13.set i11 (i13 : Int)).getD i11 default) : Int) < ((p0.Hands.length : Nat) : Int)) <| must (room (s11.2 ++ ([(p0.Hands.getD (((s13.set i11 (i13 : Int)).getD i11 default)).toNat default).Id] : List Int)).length 8) <| k11 ((s13.set i11 (i13 : Int)), (s11.2 ++ ([(p0.Hands.getD (((s13.set i11 (i13 : Int)).getD i11 default)).toNat default).Id] : List Int))) else k13 (s13.set i11 (i13 : Int))))) (fun (s13 : (List Int)) => must (0 ≤ ((i11 : Int) : Int) ∧ ((i11 : Int) : Int) < ((s13.length : Nat) : Int)) <| must (0 ≤ ((s13.getD i11 default) : Int) ∧ ((s13.getD i11 default) : Int) < ((p0.Hands.length : Nat) : Int)) <| must (room (s11.2 ++ ([(p0.Hands.getD ((s13.getD i11 default)).toNat default).Id] : List Int)).length 8) <| k11 (s13, (s11.2 ++ ([(p0.Hands.getD ((s13.getD i11 default)).toNat default).Id] : List Int)))) p0.Hands.length 0 s11.1)) (fun (s11 : (List Int) × (List Int)) => some (s11.2, 0)) p1.length 0 (y4, ([] : List Int)))))
def slices_Clone_Task (p0 : (List Task)) : Option (List Task) :=
 must (room (([] : List Task) ++ p0).length 32) <| some (([] : List Task) ++ p0)
def slices_Clone_Hand (p0 : (List Hand)) : Option (List Hand) :=
 must (room (([] : List Hand) ++ p0).length 24) <| some (([] : List Hand) ++ p0)
def slices_Clone_Range (p0 : (List Range)) : Option (List Range) :=
 must (room (([] : List Range) ++ p0).length 16) <| some (([] : List Range) ++ p0)
def crew_copied (p0 : Crew) : Option Crew :=
 bindO (slices_Clone_Task p0.Tasks) fun y1 => bindO (slices_Clone_Hand p0.Hands) fun y3 => (rangeGo (fun i5 (s5 : (List (List Range))) k5 => bindO (slices_Clone_Range (p0.Travel.getD i5 default)) fun y7 => must (room (s5 ++ ([y7] : List (List Range))).length 24) <| k5 (s5 ++ ([y7] : List (List Range)))) (fun (s5 : (List (List Range))) => some (⟨y1, s5, y3⟩ : Crew)) p0.Travel.length 0 ([] : List (List Range)))
def slices_IndexFunc_Hand (p0 : (List Hand)) (p1 : Hand → Option Bool) : Option Int :=
 (rangeGo (fun i1 (s1 : Unit) k1 => bindO (p1 (p0.getD i1 default)) fun y3 => (bif y3 then some (i1 : Int) else k1 ())) (fun (s1 : Unit) => some (-1)) p0.length 0 ())
def crew_Ill_1 (p0 : Hand) (c0 : Int) : Bool :=
 (decide (p0.Id = c0))
def slices_Delete_Hand (p0 : (List Hand)) (p1 : Int) (p2 : Int) : Option (List Hand) :=
 must (0 ≤ (p1 : Int) ∧ (p1 : Int) ≤ p2 ∧ (p2 : Int) ≤ ((p0.length : Nat) : Int) ∧ (((p0.length : Nat) : Int) : Int) ≤ ((p0.length : Nat) : Int)) <| (bif (decide (p1 = p2)) then some p0 else must (0 < p0.length ∧ 0 ≤ (p1 : Int) ∧ (p1 : Int) ≤ ((p0.length : Nat) : Int)) <| must (0 < p0.length ∧ 0 ≤ (p2 : Int) ∧ (p2 : Int) ≤ ((p0.length : Nat) : Int)) <| must ((p1).toNat ≤ (p2).toNat) <| must (0 ≤ ((((p0.take ((p1).toNat) ++ p0.drop ((p2).toNat)).length : Nat) : Int) : Int) ∧ ((((p0.take ((p1).toNat) ++ p0.drop ((p2).toNat)).length : Nat) : Int) : Int) ≤ ((p0.length : Nat) : Int) ∧ (((p0.length : Nat) : Int) : Int) ≤ ((p0.length : Nat) : Int)) <| some (p0.take ((p1).toNat) ++ p0.drop ((p2).toNat)))
def crew_Ill (p0 : Crew) (p1 : Int) (p2 : Int) : Option (Crew × Int) :=
 bindO (crew_Check p0) fun y1 => (bif (!decide (y1 = 0)) then some ((⟨[], [], []⟩ : Crew), y1) else (bif (!(crew_isMinute p2)) then some ((⟨[], [], []⟩ : Crew), 1) else bindO (crew_copied p0) fun y5 => bindO (slices_IndexFunc_Hand y5.Hands (fun x0 => some (crew_Ill_1 x0 p1))) fun y7 => (bif (decide (y7 < 0)) then some ((⟨[], [], []⟩ : Crew), 3) else must (0 ≤ (y7 : Int) ∧ (y7 : Int) < ((y5.Hands.length : Nat) : Int)) <| (bif (decide (((y5.Hands.set (y7).toNat (⟨(y5.Hands.getD (y7).toNat default).Id, (y5.Hands.getD (y7).toNat default).From, (min ((y5.Hands.getD (y7).toNat default).To) p2)⟩ : Hand)).getD (y7).toNat default).To < ((y5.Hands.set (y7).toNat (⟨(y5.Hands.getD (y7).toNat default).Id, (y5.Hands.getD (y7).toNat default).From, (min ((y5.Hands.getD (y7).toNat default).To) p2)⟩ : Hand)).getD (y7).toNat default).From)) then must (inI (y7 + 1)) <| bindO (slices_Delete_Hand (y5.Hands.set (y7).toNat (⟨(y5.Hands.getD (y7).toNat default).Id, (y5.Hands.getD (y7).toNat default).From, (min ((y5.Hands.getD (y7).toNat default).To) p2)⟩ : Hand)) y7 (y7 + 1)) fun y13 => some ((⟨y5.Tasks, y5.Travel, y13⟩ : Crew), 0) else some ((⟨y5.Tasks, y5.Travel, (y5.Hands.set (y7).toNat (⟨(y5.Hands.getD (y7).toNat default).Id, (y5.Hands.getD (y7).toNat default).From, (min ((y5.Hands.getD (y7).toNat default).To) p2)⟩ : Hand))⟩ : Crew), 0)))))
def slices_Clone_int (p0 : (List Int)) : Option (List Int) :=
 must (room (([] : List Int) ++ p0).length 8) <| some (([] : List Int) ++ p0)
def slices_Delete_int (p0 : (List Int)) (p1 : Int) (p2 : Int) : Option (List Int) :=
 must (0 ≤ (p1 : Int) ∧ (p1 : Int) ≤ p2 ∧ (p2 : Int) ≤ ((p0.length : Nat) : Int) ∧ (((p0.length : Nat) : Int) : Int) ≤ ((p0.length : Nat) : Int)) <| (bif (decide (p1 = p2)) then some p0 else must (0 < p0.length ∧ 0 ≤ (p1 : Int) ∧ (p1 : Int) ≤ ((p0.length : Nat) : Int)) <| must (0 < p0.length ∧ 0 ≤ (p2 : Int) ∧ (p2 : Int) ≤ ((p0.length : Nat) : Int)) <| must ((p1).toNat ≤ (p2).toNat) <| must (0 ≤ ((((p0.take ((p1).toNat) ++ p0.drop ((p2).toNat)).length : Nat) : Int) : Int) ∧ ((((p0.take ((p1).toNat) ++ p0.drop ((p2).toNat)).length : Nat) : Int) : Int) ≤ ((p0.length : Nat) : Int) ∧ (((p0.length : Nat) : Int) : Int) ≤ ((p0.length : Nat) : Int)) <| some (p0.take ((p1).toNat) ++ p0.drop ((p2).toNat)))
def crew_Short (fuel : Nat) (p0 : Crew) (p1 : (List (List Int))) : Option ((List Int) × Int) :=
 bindO (crew_asked p0 p1) fun y1 => (bif (!decide (y1.2 = 0)) then some ([], y1.2) else bindO (crew_shift__indices (⟨y1.1, p1⟩ : crew_shift)) fun y4 => bindO (crew_shift__free (⟨y1.1, p1⟩ : crew_shift)) fun y6 => bindO (crew_shift__all fuel (⟨y1.1, p1⟩ : crew_shift) y4 y6) fun y8 => (bif y8 then some ([], 3) else must (inI (((y4.length : Nat) : Int) - 1)) <| (loopGo (fun (s12 : Int × (List Int)) k12 => (bif (decide (0 ≤ s12.1)) then bindO (slices_Clone_int s12.2) fun y14 => must (inI (s12.1 + 1)) <| bindO (slices_Delete_int y14 s12.1 (s12.1 + 1)) fun y17 => bindO (crew_shift__free (⟨y1.1, p1⟩ : crew_shift)) fun y19 => bindO (crew_shift__all fuel (⟨y1.1, p1⟩ : crew_shift) y17 y19) fun y21 => (bif (!y21) then must (inI (s12.1 - 1)) <| k12 ((s12.1 - 1), y17) else must (inI (s12.1 - 1)) <| k12 ((s12.1 - 1), s12.2)) else some (s12.2, 0))) fuel ((((y4.length : Nat) : Int) - 1), y4))))
def slices_Delete_Task (p0 : (List Task)) (p1 : Int) (p2 : Int) : Option (List Task) :=
 must (0 ≤ (p1 : Int) ∧ (p1 : Int) ≤ p2 ∧ (p2 : Int) ≤ ((p0.length : Nat) : Int) ∧ (((p0.length : Nat) : Int) : Int) ≤ ((p0.length : Nat) : Int)) <| (bif (decide (p1 = p2)) then some p0 else must (0 < p0.length ∧ 0 ≤ (p1 : Int) ∧ (p1 : Int) ≤ ((p0.length : Nat) : Int)) <| must (0 < p0.length ∧ 0 ≤ (p2 : Int) ∧ (p2 : Int) ≤ ((p0.length : Nat) : Int)) <| must ((p1).toNat ≤ (p2).toNat) <| must (0 ≤ ((((p0.take ((p1).toNat) ++ p0.drop ((p2).toNat)).length : Nat) : Int) : Int) ∧ ((((p0.take ((p1).toNat) ++ p0.drop ((p2).toNat)).length : Nat) : Int) : Int) ≤ ((p0.length : Nat) : Int) ∧ (((p0.length : Nat) : Int) : Int) ≤ ((p0.length : Nat) : Int)) <| some (p0.take ((p1).toNat) ++ p0.drop ((p2).toNat)))
def crew_Moved (fuel : Nat) (p0 : Crew) : Option ((List Int) × Int) :=
 bindO (crew_Count fuel p0) fun y1 => (bif (!decide (y1.2 = 0)) then some ([], y1.2) else (rangeGo (fun i4 (s4 : (List Int)) k4 => bindO (crew_copied p0) fun y6 => bindO (slices_Delete_Task y6.Tasks (i4 : Int) ((i4 : Int) + 1)) fun y8 => bindO (crew_Count fuel (⟨y8, y6.Travel, y6.Hands⟩ : Crew)) fun y10 => (bif (decide (y10.1 < y1.1)) then must (room (s4 ++ ([(p0.Tasks.getD i4 default).Lamp] : List Int)).length 8) <| k4 (s4 ++ ([(p0.Tasks.getD i4 default).Lamp] : List Int)) else k4 s4)) (fun (s4 : (List Int)) => some (s4, 0)) p0.Tasks.length 0 ([] : List Int)))
def crew_CheckRounds (p0 : Crew) (p1 : (List (List Int))) : Option Int :=
 bindO (crew_asked p0 p1) fun y1 => some y1.2
def crew_CheckCut (p0 : Crew) (p1 : (List Int)) (p2 : Int) : Option Int :=
 bindO (crew_Check p0) fun y1 => (bif (!decide (y1 = 0)) then some y1 else bindO (crew_newPlan p0 (fun x0 => some (crew_most x0))) fun y4 => (rangeGo (fun i6 (s6 : Unit) k6 => must (y4.isSome = true) <| must (inI (((((y4.getD default).next).length : Nat) : Int) - 1)) <| must ((((!(!(crew_in (p1.getD i6 default) 0 (((((y4.getD default).next).length : Nat) : Int) - 1)))) && (decide (0 < (i6 : Int)))) = true → (inI ((i6 : Int) - 1)))) <| must ((((!(!(crew_in (p1.getD i6 default) 0 (((((y4.getD default).next).length : Nat) : Int) - 1)))) && (decide (0 < (i6 : Int)))) = true → (0 ≤ (((i6 : Int) - 1) : Int) ∧ (((i6 : Int) - 1) : Int) < ((p1.length : Nat) : Int)))) <| (bif ((!(crew_in (p1.getD i6 default) 0 (((((y4.getD default).next).length : Nat) : Int) - 1))) || ((decide (0 < (i6 : Int))) && (decide ((p1.getD i6 default) ≤ (p1.getD (((i6 : Int) - 1)).toNat default))))) then some 44 else must ((0 : Int) ≤ (i6 : Int) ∧ ((i6 : Int) : Int) ≤ ((p1.length : Nat) : Int)) <| (rangeGo (fun i14 (s14 : Unit) k14 => must (y4.isSome = true) <| must (0 ≤ ((p1.getD i6 default) : Int) ∧ ((p1.getD i6 default) : Int) < ((((y4.getD default).next).length : Nat) : Int)) <| must (0 ≤ (((p1.take i6).getD i14 default) : Int) ∧ (((p1.take i6).getD i14 default) : Int) < 64) <| must (0 ≤ ((Int.fdiv (((y4.getD default).next).getD ((p1.getD i6 default)).toNat default) (2 ^ (((p1.take i6).getD i14 default) : Int).toNat)) : Int) ∧ 0 ≤ (1 : Int) ∧ inI (Int.fdiv (((y4.getD default).next).getD ((p1.getD i6 default)).toNat default) (2 ^ (((p1.take i6).getD i14 default) : Int).toNat)) ∧ inI 1) <| must (((!(decide (((((Int.fdiv (((y4.getD default).next).getD ((p1.getD i6 default)).toNat default) (2 ^ (((p1.take i6).getD i14 default) : Int).toNat)) : Int).toNat &&& (1 : Int).toNat : Nat) : Int) = 1))) = true → (y4.isSome = true))) <| must (((!(decide (((((Int.fdiv (((y4.getD default).next).getD ((p1.getD i6 default)).toNat default) (2 ^ (((p1.take i6).getD i14 default) : Int).toNat)) : Int).toNat &&& (1 : Int).toNat : Nat) : Int) = 1))) = true → (0 ≤ (((p1.take i6).getD i14 default) : Int) ∧ (((p1.take i6).getD i14 default) : Int) < ((((y4.getD default).next).length : Nat) : Int)))) <| must (((!(decide (((((Int.fdiv (((y4.getD default).next).getD ((p1.getD i6 default)).toNat default) (2 ^ (((p1.take i6).getD i14 default) : Int).toNat)) : Int).toNat &&& (1 : Int).toNat : Nat) : Int) = 1))) = true → (0 ≤ ((p1.getD i6 default) : Int) ∧ ((p1.getD i6 default) : Int) < 64))) <| must (((!(decide (((((Int.fdiv (((y4.getD default).next).getD ((p1.getD i6 default)).toNat default) (2 ^ (((p1.take i6).getD i14 default) : Int).toNat)) : Int).toNat &&& (1 : Int).toNat : Nat) : Int) = 1))) = true → (0 ≤ ((Int.fdiv (((y4.getD default).next).getD (((p1.take i6).getD i14 default)).toNat default) (2 ^ ((p1.getD i6 default) : Int).toNat)) : Int) ∧ 0 ≤ (1 : Int) ∧ inI (Int.fdiv (((y4.getD default).next).getD (((p1.take i6).getD i14 default)).toNat default) (2 ^ ((p1.getD i6 default) : Int).toNat)) ∧ inI 1))) <| (bif ((decide (((((Int.fdiv (((y4.getD default).next).getD ((p1.getD i6 default)).toNat default) (2 ^ (((p1.take i6).getD i14 default) : Int).toNat)) : Int).toNat &&& (1 : Int).toNat : Nat) : Int) = 1)) || (decide (((((Int.fdiv (((y4.getD default).next).getD (((p1.take i6).getD i14 default)).toNat default) (2 ^ ((p1.getD i6 default) : Int).toNat)) : Int).toNat &&& (1 : Int).toNat : Nat) : Int) = 1))) then some 44 else k14 ())) (fun (s14 : Unit) => k6 ()) ((p1.take i6).length) 0 ()))) (fun (s6 : Unit) => (bif (decide (((p1.length : Nat) : Int) < p2)) then some 44 else some 0)) p1.length 0 ()))
def gasolierlaw04_sane (fuel : Nat) : Option Bool :=
 bindO (crew_Follows (gasolierlaw04_team) 0 1) fun y1 => bindO (crew_Count fuel (gasolierlaw04_team)) fun y3 => bindO (crew_Bounds fuel (gasolierlaw04_team)) fun y5 => bindO (crew_Slack fuel (gasolierlaw04_team) ([([0, 2, 3] : List Int), ([1] : List Int)] : List (List Int))) fun y7 => bindO (crew_Late (gasolierlaw04_team) ([([0, 2, 3] : List Int), ([1] : List Int)] : List (List Int)) ([([0, 24] : List Int), ([] : List Int)] : List (List Int))) fun y9 => bindO (crew_Assign fuel (gasolierlaw04_team) ([([0, 2, 3] : List Int), ([1] : List Int)] : List (List Int))) fun y11 => bindO (crew_Ill (gasolierlaw04_team) 8 315) fun y13 => bindO (crew_Short fuel y13.1 ([([0, 2, 3] : List Int), ([1] : List Int)] : List (List Int))) fun y15 => bindO (crew_Moved fuel (gasolierlaw04_team)) fun y17 => bindO ((bif (((((((((((((decide (y1.2 = 0)) && (decide (y3.2 = 0))) && (decide (y5.2 = 0))) && (decide (y7.2 = 0))) && (decide (y9.2 = 0))) && (decide (y11.2 = 0))) && (decide (y13.2 = 0))) && (decide (y15.2 = 0))) && (decide (y17.2 = 0))) && (decide (y1.1 = 2))) && (decide (y3.1 = 2))) && ((decide (y5.1.Lo = 2)) && (decide (y5.1.Hi = 2)))) && (decide (y7.1 = 3))) then gasolierref01_Same y9.1 ([3] : List Int) else some default)) fun y19 => bindO ((bif ((((((((((((((decide (y1.2 = 0)) && (decide (y3.2 = 0))) && (decide (y5.2 = 0))) && (decide (y7.2 = 0))) && (decide (y9.2 = 0))) && (decide (y11.2 = 0))) && (decide (y13.2 = 0))) && (decide (y15.2 = 0))) && (decide (y17.2 = 0))) && (decide (y1.1 = 2))) && (decide (y3.1 = 2))) && ((decide (y5.1.Lo = 2)) && (decide (y5.1.Hi = 2)))) && (decide (y7.1 = 3))) && y19) then gasolierref01_Same y11.1 ([7, 8] : List Int) else some default)) fun y21 => bindO ((bif (((((((((((((((decide (y1.2 = 0)) && (decide (y3.2 = 0))) && (decide (y5.2 = 0))) && (decide (y7.2 = 0))) && (decide (y9.2 = 0))) && (decide (y11.2 = 0))) && (decide (y13.2 = 0))) && (decide (y15.2 = 0))) && (decide (y17.2 = 0))) && (decide (y1.1 = 2))) && (decide (y3.1 = 2))) && ((decide (y5.1.Lo = 2)) && (decide (y5.1.Hi = 2)))) && (decide (y7.1 = 3))) && y19) && y21) then gasolierref01_Same y15.1 ([0, 1] : List Int) else some default)) fun y23 => bindO ((bif ((((((((((((((((decide (y1.2 = 0)) && (decide (y3.2 = 0))) && (decide (y5.2 = 0))) && (decide (y7.2 = 0))) && (decide (y9.2 = 0))) && (decide (y11.2 = 0))) && (decide (y13.2 = 0))) && (decide (y15.2 = 0))) && (decide (y17.2 = 0))) && (decide (y1.1 = 2))) && (decide (y3.1 = 2))) && ((decide (y5.1.Lo = 2)) && (decide (y5.1.Hi = 2)))) && (decide (y7.1 = 3))) && y19) && y21) && y23) then gasolierref01_Same y17.1 ([2] : List Int) else some default)) fun y25 => bindO ((bif (((((((((((((((((decide (y1.2 = 0)) && (decide (y3.2 = 0))) && (decide (y5.2 = 0))) && (decide (y7.2 = 0))) && (decide (y9.2 = 0))) && (decide (y11.2 = 0))) && (decide (y13.2 = 0))) && (decide (y15.2 = 0))) && (decide (y17.2 = 0))) && (decide (y1.1 = 2))) && (decide (y3.1 = 2))) && ((decide (y5.1.Lo = 2)) && (decide (y5.1.Hi = 2)))) && (decide (y7.1 = 3))) && y19) && y21) && y23) && y25) then crew_CheckRounds (gasolierlaw04_team) ([([0, 1] : List Int), ([2, 3] : List Int)] : List (List Int)) else some default)) fun y27 => bindO ((bif ((((((((((((((((((decide (y1.2 = 0)) && (decide (y3.2 = 0))) && (decide (y5.2 = 0))) && (decide (y7.2 = 0))) && (decide (y9.2 = 0))) && (decide (y11.2 = 0))) && (decide (y13.2 = 0))) && (decide (y15.2 = 0))) && (decide (y17.2 = 0))) && (decide (y1.1 = 2))) && (decide (y3.1 = 2))) && ((decide (y5.1.Lo = 2)) && (decide (y5.1.Hi = 2)))) && (decide (y7.1 = 3))) && y19) && y21) && y23) && y25) && (decide (y27 = 43))) then crew_CheckCut (gasolierlaw04_team) ([0, 1] : List Int) 2 else some default)) fun y29 => some (((((((((((((((((((decide (y1.2 = 0)) && (decide (y3.2 = 0))) && (decide (y5.2 = 0))) && (decide (y7.2 = 0))) && (decide (y9.2 = 0))) && (decide (y11.2 = 0))) && (decide (y13.2 = 0))) && (decide (y15.2 = 0))) && (decide (y17.2 = 0))) && (decide (y1.1 = 2))) && (decide (y3.1 = 2))) && ((decide (y5.1.Lo = 2)) && (decide (y5.1.Hi = 2)))) && (decide (y7.1 = 3))) && y19) && y21) && y23) && y25) && (decide (y27 = 43))) && (decide (y29 = 0)))
def crew_Rounds (fuel : Nat) (p0 : Crew) : Option ((List (List Int)) × Int) :=
 bindO (crew_Check p0) fun y1 => (bif (!decide (y1 = 0)) then some ([], y1) else bindO (crew_newPlan p0 (fun x0 => some (crew_most x0))) fun y4 => must (y4.isSome = true) <| bindO (crew_plan__pair fuel (y4.getD default)) fun y7 => (rangeGo (fun i9 (s9 : (List (List Int))) k9 => (bif (decide (0 ≤ (y7.1.getD i9 default))) then k9 s9 else (loopGo (fun (s12 : Int × (List Int)) k12 => (bif (decide (0 ≤ s12.1)) then must (room (s12.2 ++ ([s12.1] : List Int)).length 8) <| must (0 ≤ (s12.1 : Int) ∧ (s12.1 : Int) < ((y7.2.length : Nat) : Int)) <| k12 ((y7.2.getD (s12.1).toNat default), (s12.2 ++ ([s12.1] : List Int))) else must (room (s9 ++ ([s12.2] : List (List Int))).length 24) <| k9 (s9 ++ ([s12.2] : List (List Int))))) fuel ((i9 : Int), ([] : List Int))))) (fun (s9 : (List (List Int))) => some (s9, 0)) y7.1.length 0 ([] : List (List Int))))
def gasolierref04_Follows (p0 : Crew) (p1 : Int) (p2 : Int) : Option (Int × Int) :=
 bindO (gasolierref04_Check p0) fun y1 => (bif (!decide (y1 = 0)) then some (0, y1) else must (inI (((p0.Tasks.length : Nat) : Int) - 1)) <| must (((!(!(gasolierref01_Within p1 0 (((p0.Tasks.length : Nat) : Int) - 1)))) = true → (inI (((p0.Tasks.length : Nat) : Int) - 1)))) <| (bif ((!(gasolierref01_Within p1 0 (((p0.Tasks.length : Nat) : Int) - 1))) || (!(gasolierref01_Within p2 0 (((p0.Tasks.length : Nat) : Int) - 1)))) then some (0, 1) else bindO (gasolierref04_follows p0 p1 p2) fun y7 => some (y7, 0)))
def gasolierref04_matched_l_F (fuel : Nat) (rec : Crew → Int → (List Int) → (List Bool) → Option (Bool × (List Int) × (List Bool))) (p0 : Crew) (p1 : Int) (p2 : (List Int)) (p3 : (List Bool)) : Option (Bool × (List Int) × (List Bool)) :=
 must (p0.Tasks.length ≤ 9223372036854775807) <| (rangeGo (fun i1 (s1 : (List Int) × (List Bool)) k1 => (joinK (fun (k3 : (List Int) × (List Bool) → _) => must (0 ≤ ((i1 : Int) : Int) ∧ ((i1 : Int) : Int) < ((s1.2.length : Nat) : Int)) <| bindO ((bif (!(s1.2.getD i1 default)) then gasolierref04_follows p0 p1 (i1 : Int) else some default)) fun y5 => (bif ((s1.2.getD i1 default) || (!decide (y5 = 1))) then k3 (s1.1, s1.2) else must (0 ≤ ((i1 : Int) : Int) ∧ ((i1 : Int) : Int) < ((s1.2.length : Nat) : Int)) <| must (0 ≤ ((i1 : Int) : Int) ∧ ((i1 : Int) : Int) < ((s1.1.length : Nat) : Int)) <| must (((!(decide ((s1.1.getD i1 default) < 0))) = true → (0 ≤ ((i1 : Int) : Int) ∧ ((i1 : Int) : Int) < ((s1.1.length : Nat) : Int)))) <| bindO ((bif (!(decide ((s1.1.getD i1 default) < 0))) then rec p0 (s1.1.getD i1 default) s1.1 (s1.2.set i1 true) else some (default, s1.1, (s1.2.set i1 true)))) fun y11 => must (y11.2.1.length = s1.1.length) <| must (y11.2.2.length = (s1.2.set i1 true).length) <| (bif ((decide ((s1.1.getD i1 default) < 0)) || y11.1) then must (0 ≤ ((i1 : Int) : Int) ∧ ((i1 : Int) : Int) < ((y11.2.1.length : Nat) : Int)) <| some (true, (y11.2.1.set i1 p1), y11.2.2) else k3 (y11.2.1, y11.2.2)))) (fun (s3 : (List Int) × (List Bool)) => k1 (s3.1, s3.2)))) (fun (s1 : (List Int) × (List Bool)) => some (false, s1.1, s1.2)) p0.Tasks.length 0 (p2, p3))
def gasolierref04_matched_l (fuel : Nat) : Nat → Crew → Int → (List Int) → (List Bool) → Option (Bool × (List Int) × (List Bool))
 | 0 => fun _ _ _ _ => none
 | n + 1 => gasolierref04_matched_l_F fuel (gasolierref04_matched_l fuel n)
def gasolierref04_count (fuel : Nat) (p0 : Crew) : Option Int :=
 must (0 ≤ (((p0.Tasks.length : Nat) : Int) : Int) ∧ (((p0.Tasks.length : Nat) : Int) : Int) ≤ ((p0.Tasks.length : Nat) : Int) ∧ room (((p0.Tasks.length : Nat) : Int) : Int).toNat 8) <| must ((List.replicate (((p0.Tasks.length : Nat) : Int)).toNat (0 : Int)).length ≤ 9223372036854775807) <| (rangeGo (fun i2 (s2 : (List Int)) k2 => must (0 ≤ ((i2 : Int) : Int) ∧ ((i2 : Int) : Int) < ((s2.length : Nat) : Int)) <| k2 (s2.set i2 (-1))) (fun (s2 : (List Int)) => must (p0.Tasks.length ≤ 9223372036854775807) <| (rangeGo (fun i5 (s5 : Int × (List Int)) k5 => must (0 ≤ (((p0.Tasks.length : Nat) : Int) : Int) ∧ (((p0.Tasks.length : Nat) : Int) : Int) ≤ ((p0.Tasks.length : Nat) : Int) ∧ room (((p0.Tasks.length : Nat) : Int) : Int).toNat 1) <| bindO (gasolierref04_matched_l fuel fuel p0 (i5 : Int) s5.2 (List.replicate (((p0.Tasks.length : Nat) : Int)).toNat (false : Bool))) fun y8 => must (y8.2.1.length = s5.2.length) <| (bif y8.1 then must (inI (s5.1 - 1)) <| k5 ((s5.1 - 1), y8.2.1) else k5 (s5.1, y8.2.1))) (fun (s5 : Int × (List Int)) => some s5.1) p0.Tasks.length 0 (((p0.Tasks.length : Nat) : Int), s2))) ((List.replicate (((p0.Tasks.length : Nat) : Int)).toNat (0 : Int)).length) 0 (List.replicate (((p0.Tasks.length : Nat) : Int)).toNat (0 : Int)))
def gasolierref04_Count (fuel : Nat) (p0 : Crew) : Option (Int × Int) :=
 bindO (gasolierref04_Check p0) fun y1 => (bif (!decide (y1 = 0)) then some (0, y1) else bindO (gasolierref04_count fuel p0) fun y4 => some (y4, 0))
def gasolierref04_Copy (p0 : Crew) : Option Crew :=
 must (room (([] : List Task) ++ p0.Tasks).length 32) <| must (room (([] : List Hand) ++ p0.Hands).length 24) <| (rangeGo (fun i3 (s3 : (List (List Range))) k3 => must (room (([] : List Range) ++ (p0.Travel.getD i3 default)).length 16) <| must (room (s3 ++ ([(([] : List Range) ++ (p0.Travel.getD i3 default))] : List (List Range))).length 24) <| k3 (s3 ++ ([(([] : List Range) ++ (p0.Travel.getD i3 default))] : List (List Range)))) (fun (s3 : (List (List Range))) => some (⟨(([] : List Task) ++ p0.Tasks), s3, (([] : List Hand) ++ p0.Hands)⟩ : Crew)) p0.Travel.length 0 ([] : List (List Range)))
def gasolierref04_Quick (p0 : Crew) : Option Crew :=
 bindO (gasolierref04_Copy p0) fun y1 => must (y1.Travel.length ≤ 9223372036854775807) <| (rangeGo (fun i3 (s3 : (List (List Range))) k3 => must (0 ≤ ((i3 : Int) : Int) ∧ ((i3 : Int) : Int) < ((s3.length : Nat) : Int)) <| must (((s3.getD i3 []).length) ≤ 9223372036854775807) <| (rangeGo (fun i6 (s6 : (List (List Range))) k6 => must (0 ≤ ((i3 : Int) : Int) ∧ ((i3 : Int) : Int) < ((s6.length : Nat) : Int)) <| must (0 ≤ ((i3 : Int) : Int) ∧ ((i3 : Int) : Int) < ((s6.length : Nat) : Int)) <| must (0 ≤ ((i6 : Int) : Int) ∧ ((i6 : Int) : Int) < (((s6.getD i3 []).length : Nat) : Int)) <| must (0 ≤ ((i6 : Int) : Int) ∧ ((i6 : Int) : Int) < (((s6.getD i3 []).length : Nat) : Int)) <| k6 (s6.set i3 ((s6.getD i3 []).set i6 (⟨((s6.getD i3 []).getD i6 default).Lo, ((s6.getD i3 []).getD i6 default).Lo⟩ : Range)))) (fun (s6 : (List (List Range))) => k3 s6) ((s3.getD i3 []).length) 0 s3)) (fun (s3 : (List (List Range))) => some (⟨y1.Tasks, s3, y1.Hands⟩ : Crew)) y1.Travel.length 0 y1.Travel)
def gasolierref04_Bounds (fuel : Nat) (p0 : Crew) : Option (Range × Int) :=
 bindO (gasolierref04_Check p0) fun y1 => (bif (!decide (y1 = 0)) then some ((⟨0, 0⟩ : Range), y1) else bindO (gasolierref04_Quick p0) fun y4 => bindO (gasolierref04_count fuel y4) fun y6 => bindO (gasolierref04_count fuel p0) fun y8 => some ((⟨y6, y8⟩ : Range), 0))
def gasolierref04_CheckCut (fuel : Nat) (p0 : Crew) (p1 : (List Int)) (p2 : Int) : Option Int :=
 bindO (gasolierref04_Check p0) fun y1 => (bif (!decide (y1 = 0)) then some y1 else (rangeGo (fun i4 (s4 : Unit) k4 => must (inI (((p0.Tasks.length : Nat) : Int) - 1)) <| must ((((!(!(gasolierref01_Within (p1.getD i4 default) 0 (((p0.Tasks.length : Nat) : Int) - 1)))) && (decide (0 < (i4 : Int)))) = true → (inI ((i4 : Int) - 1)))) <| must ((((!(!(gasolierref01_Within (p1.getD i4 default) 0 (((p0.Tasks.length : Nat) : Int) - 1)))) && (decide (0 < (i4 : Int)))) = true → (0 ≤ (((i4 : Int) - 1) : Int) ∧ (((i4 : Int) - 1) : Int) < ((p1.length : Nat) : Int)))) <| (bif ((!(gasolierref01_Within (p1.getD i4 default) 0 (((p0.Tasks.length : Nat) : Int) - 1))) || ((decide (0 < (i4 : Int))) && (decide ((p1.getD i4 default) ≤ (p1.getD (((i4 : Int) - 1)).toNat default))))) then some 44 else (loopGo (fun (s10 : Int) k10 => (bif (decide (s10 < (i4 : Int))) then must (0 ≤ (s10 : Int) ∧ (s10 : Int) < ((p1.length : Nat) : Int)) <| bindO (gasolierref04_follows p0 (p1.getD i4 default) (p1.getD (s10).toNat default)) fun y13 => must (((!(decide (y13 = 1))) = true → (0 ≤ (s10 : Int) ∧ (s10 : Int) < ((p1.length : Nat) : Int)))) <| bindO ((bif (!(decide (y13 = 1))) then gasolierref04_follows p0 (p1.getD (s10).toNat default) (p1.getD i4 default) else some default)) fun y16 => (bif ((decide (y13 = 1)) || (decide (y16 = 1))) then some 44 else must (inI (s10 + 1)) <| k10 (s10 + 1)) else k4 ())) fuel 0))) (fun (s4 : Unit) => (bif (decide (((p1.length : Nat) : Int) < p2)) then some 44 else some 0)) p1.length 0 ()))
def crew_Cut_1_l_F (fuel : Nat) (rec : Int → Int → (Option crew_plan) → Int → (List Int) → Option (Int × Int)) (p0 : Int) (c0 : Int) (c1 : (Option crew_plan)) (c2 : Int) (c3 : (List Int)) : Option (Int × Int) :=
 must (0 ≤ (p0 : Int) ∧ (p0 : Int) < 64) <| must (0 ≤ ((Int.fdiv c0 (2 ^ (p0 : Int).toNat)) : Int) ∧ 0 ≤ (1 : Int) ∧ inI (Int.fdiv c0 (2 ^ (p0 : Int).toNat)) ∧ inI 1) <| (bif (decide (((((Int.fdiv c0 (2 ^ (p0 : Int).toNat)) : Int).toNat &&& (1 : Int).toNat : Nat) : Int) = 1)) then some (c0, c2) else must (0 ≤ (p0 : Int) ∧ (p0 : Int) < 64 ∧ inI ((1 : Int) * 2 ^ (p0 : Int).toNat)) <| must (0 ≤ (c0 : Int) ∧ 0 ≤ (((1 : Int) * 2 ^ (p0 : Int).toNat) : Int) ∧ inI c0 ∧ inI ((1 : Int) * 2 ^ (p0 : Int).toNat)) <| must (c1.isSome = true) <| bindO (crew_plan__followers_1 (c1.getD default) p0) fun it7 => (listGo (fun (x7 : Int) (s8 : Int × Int) k8 => must (0 ≤ (x7 : Int) ∧ (x7 : Int) < 64 ∧ inI ((1 : Int) * 2 ^ (x7 : Int).toNat)) <| must (0 ≤ (s8.2 : Int) ∧ 0 ≤ (((1 : Int) * 2 ^ (x7 : Int).toNat) : Int) ∧ inI s8.2 ∧ inI ((1 : Int) * 2 ^ (x7 : Int).toNat)) <| must (0 ≤ (x7 : Int) ∧ (x7 : Int) < ((c3.length : Nat) : Int)) <| (bif (decide (0 ≤ (c3.getD (x7).toNat default))) then must (0 ≤ (x7 : Int) ∧ (x7 : Int) < ((c3.length : Nat) : Int)) <| bindO (rec (c3.getD (x7).toNat default) s8.1 c1 (((s8.2 : Int).toNat ||| (((1 : Int) * 2 ^ (x7 : Int).toNat) : Int).toNat : Nat) : Int) c3) fun y14 => k8 (y14.1, y14.2) else k8 (s8.1, (((s8.2 : Int).toNat ||| (((1 : Int) * 2 ^ (x7 : Int).toNat) : Int).toNat : Nat) : Int)))) (fun (s8 : Int × Int) => some (s8.1, s8.2)) it7 ((((c0 : Int).toNat ||| (((1 : Int) * 2 ^ (p0 : Int).toNat) : Int).toNat : Nat) : Int), c2)))
def crew_Cut_1_l (fuel : Nat) : Nat → Int → Int → (Option crew_plan) → Int → (List Int) → Option (Int × Int)
 | 0 => fun _ _ _ _ _ => none
 | n + 1 => crew_Cut_1_l_F fuel (crew_Cut_1_l fuel n)
def crew_Cut (fuel : Nat) (p0 : Crew) : Option ((List Int) × Int) :=
 bindO (crew_Check p0) fun y1 => (bif (!decide (y1 = 0)) then some ([], y1) else bindO (crew_newPlan p0 (fun x0 => some (crew_most x0))) fun y4 => must (y4.isSome = true) <| bindO (crew_plan__pair fuel (y4.getD default)) fun y7 => (rangeGo (fun i9 (s9 : Int × Int) k9 => (bif (decide ((y7.2.getD i9 default) < 0)) then bindO (crew_Cut_1_l fuel fuel (i9 : Int) s9.1 y4 s9.2 y7.1) fun y12 => k9 (y12.1, y12.2) else k9 (s9.1, s9.2))) (fun (s9 : Int × Int) => must (y7.2.length ≤ 9223372036854775807) <| (rangeGo (fun i14 (s14 : (List Int)) k14 => must (0 ≤ ((i14 : Int) : Int) ∧ ((i14 : Int) : Int) < 64) <| must (0 ≤ ((Int.fdiv s9.1 (2 ^ ((i14 : Int) : Int).toNat)) : Int) ∧ 0 ≤ (1 : Int) ∧ inI (Int.fdiv s9.1 (2 ^ ((i14 : Int) : Int).toNat)) ∧ inI 1) <| must (((decide (((((Int.fdiv s9.1 (2 ^ ((i14 : Int) : Int).toNat)) : Int).toNat &&& (1 : Int).toNat : Nat) : Int) = 1)) = true → (0 ≤ ((i14 : Int) : Int) ∧ ((i14 : Int) : Int) < 64))) <| must (((decide (((((Int.fdiv s9.1 (2 ^ ((i14 : Int) : Int).toNat)) : Int).toNat &&& (1 : Int).toNat : Nat) : Int) = 1)) = true → (0 ≤ ((Int.fdiv s9.2 (2 ^ ((i14 : Int) : Int).toNat)) : Int) ∧ 0 ≤ (1 : Int) ∧ inI (Int.fdiv s9.2 (2 ^ ((i14 : Int) : Int).toNat)) ∧ inI 1))) <| (bif ((decide (((((Int.fdiv s9.1 (2 ^ ((i14 : Int) : Int).toNat)) : Int).toNat &&& (1 : Int).toNat : Nat) : Int) = 1)) && (decide (((((Int.fdiv s9.2 (2 ^ ((i14 : Int) : Int).toNat)) : Int).toNat &&& (1 : Int).toNat : Nat) : Int) = 0))) then must (room (s14 ++ ([(i14 : Int)] : List Int)).length 8) <| k14 (s14 ++ ([(i14 : Int)] : List Int)) else k14 s14)) (fun (s14 : (List Int)) => some (s14, 0)) y7.2.length 0 ([] : List Int))) y7.2.length 0 (0, 0)))
def gasolierlaw04_CrewRounds (fuel : Nat) (p0 : Crew) (p1 : gasolierlaw04_Plan) (p2 : (Arr2 Int)) : Option Bool :=
 bindO (crew_Follows p0 p2.x0 p2.x1) fun y1 => bindO (gasolierref04_Follows p0 p2.x0 p2.x1) fun y3 => bindO (crew_Count fuel p0) fun y5 => bindO (gasolierref04_Count fuel p0) fun y7 => bindO (crew_Bounds fuel p0) fun y9 => bindO (gasolierref04_Bounds fuel p0) fun y11 => bindO ((bif (!((((((!decide (y1.1 = y3.1)) || (!decide (y1.2 = y3.2))) || (!decide (y5.1 = y7.1))) || (!decide (y5.2 = y7.2))) || (!((decide (y9.1.Lo = y11.1.Lo)) && (decide (y9.1.Hi = y11.1.Hi))))) || (!decide (y9.2 = y11.2)))) then crew_CheckRounds p0 p1.Rounds else some default)) fun y13 => bindO ((bif (!((((((!decide (y1.1 = y3.1)) || (!decide (y1.2 = y3.2))) || (!decide (y5.1 = y7.1))) || (!decide (y5.2 = y7.2))) || (!((decide (y9.1.Lo = y11.1.Lo)) && (decide (y9.1.Hi = y11.1.Hi))))) || (!decide (y9.2 = y11.2)))) then gasolierref04_CheckRounds p0 p1.Rounds else some default)) fun y15 => bindO ((bif (!(((((((!decide (y1.1 = y3.1)) || (!decide (y1.2 = y3.2))) || (!decide (y5.1 = y7.1))) || (!decide (y5.2 = y7.2))) || (!((decide (y9.1.Lo = y11.1.Lo)) && (decide (y9.1.Hi = y11.1.Hi))))) || (!decide (y9.2 = y11.2))) || (!decide (y13 = y15)))) then crew_CheckCut p0 p1.Cut p1.Size else some default)) fun y17 => bindO ((bif (!(((((((!decide (y1.1 = y3.1)) || (!decide (y1.2 = y3.2))) || (!decide (y5.1 = y7.1))) || (!decide (y5.2 = y7.2))) || (!((decide (y9.1.Lo = y11.1.Lo)) && (decide (y9.1.Hi = y11.1.Hi))))) || (!decide (y9.2 = y11.2))) || (!decide (y13 = y15)))) then gasolierref04_CheckCut fuel p0 p1.Cut p1.Size else some default)) fun y19 => (bif ((((((((!decide (y1.1 = y3.1)) || (!decide (y1.2 = y3.2))) || (!decide (y5.1 = y7.1))) || (!decide (y5.2 = y7.2))) || (!((decide (y9.1.Lo = y11.1.Lo)) && (decide (y9.1.Hi = y11.1.Hi))))) || (!decide (y9.2 = y11.2))) || (!decide (y13 = y15))) || (!decide (y17 = y19))) then some false else bindO (crew_Rounds fuel p0) fun y22 => bindO (crew_Cut fuel p0) fun y24 => (bif (!decide (y7.2 = 0)) then bindO ((bif ((((decide (y22.2 = y7.2)) && (decide (y24.2 = y7.2))) && (decide (((y22.1.length : Nat) : Int) = 0))) && (decide (((y24.1.length : Nat) : Int) = 0))) then gasolierlaw04_sane 20000 else some default)) fun y27 => some (((((decide (y22.2 = y7.2)) && (decide (y24.2 = y7.2))) && (decide (((y22.1.length : Nat) : Int) = 0))) && (decide (((y24.1.length : Nat) : Int) = 0))) && y27) else bindO ((bif ((((decide (y22.2 = 0)) && (decide (y24.2 = 0))) && (decide (((y22.1.length : Nat) : Int) = y7.1))) && (decide (((y24.1.length : Nat) : Int) = y7.1))) then gasolierref04_CheckRounds p0 y22.1 else some default)) fun y29 => bindO ((bif (((((decide (y22.2 = 0)) && (decide (y24.2 = 0))) && (decide (((y22.1.length : Nat) : Int) = y7.1))) && (decide (((y24.1.length : Nat) : Int) = y7.1))) && (decide (y29 = 0))) then gasolierref04_CheckCut fuel p0 y24.1 y7.1 else some default)) fun y31 => bindO ((bif ((((((decide (y22.2 = 0)) && (decide (y24.2 = 0))) && (decide (((y22.1.length : Nat) : Int) = y7.1))) && (decide (((y24.1.length : Nat) : Int) = y7.1))) && (decide (y29 = 0))) && (decide (y31 = 0))) then gasolierlaw04_sane 20000 else some default)) fun y33 => some (((((((decide (y22.2 = 0)) && (decide (y24.2 = 0))) && (decide (((y22.1.length : Nat) : Int) = y7.1))) && (decide (((y24.1.length : Nat) : Int) = y7.1))) && (decide (y29 = 0))) && (decide (y31 = 0))) && y33)))
end Go.Sp
end
