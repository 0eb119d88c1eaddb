/- Texts of the framework, or of the plain law, one behind another. -/
import Derived.Test.YtobffjoapdhioaaFr3
import Derived.Laws.CopyRow
import Derived.Lib.AppendZerosOnto
import Derived.Lib.Overlaps
import Derived.Test.YtobffjoapdhioaaFr1
import Derived.Shelf.Sort.Plain
import Derived.Shelf.Slices.In.SortNone
import Derived.Sort.OwnSortedInts
import Derived.ProofKit
import Derived.OpenShut
import Derived.ReadAgain
import Derived.ChangeStays
import Derived.SizedLaws
import Derived.Carry
import Derived.Below
import Derived.ChangeSame
/- Functions that blocks are lent to: these come back under their names. Names may be changed. -/
section
set_option linter.all false
namespace Go.Av
open Go.Sp
def ref : Nat × Blk → AV
 | (id, .cells _) => .lp id 0
 | (id, .buf _ _ n _) => .buf id n
 | (id, .map _ _ _ _) => .mp id
 | _ => .any
def refs : List (Nat × Blk) → List AV
 | [] => []
 | x :: r => ref x :: refs r
def refV (ρ : Rho) : Nat × Blk → Value
 | (id, .cells _) => match ρ id with
   | some (.blk b) => .pointer (some ⟨b, 0, none⟩)
   | _ => undef
 | (id, .buf _ _ _ _) => match ρ id with
   | some (.sl _ _ v) => v
   | _ => undef
 | (id, .map _ _ _ _) => match ρ id with
   | some (.blk b) => .map (some b)
   | _ => undef
 | _ => undef
def refVs (ρ : Rho) : List (Nat × Blk) → List Value
 | [] => []
 | x :: r => refV ρ x :: refVs ρ r
theorem refs_len {ρ : Rho} : ∀ {A : List (Nat × Blk)}, (refVs ρ A).length = (refs A).length
 | [] => rfl
 | y :: A => by simp [refs, refVs, refs_len (A := A)]
theorem refs_inv {ρ : Rho} : ∀ {A : List (Nat × Blk)} {i : Nat} {c : AV} {v : Value}, (refs A)[i]? = some c → (refVs ρ A)[i]? = some v → ∃ x, A[i]? = some x ∧ c = ref x ∧ v = refV ρ x
 | [], i, c, v, h, _ => by simp [refs] at h
 | y :: A, 0, c, v, h, k => by simp [refs] at h; simp [refVs] at k; exact ⟨y, rfl, h.symm, k.symm⟩
 | y :: A, i + 1, c, v, h, k => by
   simp only [refs, List.getElem?_cons_succ] at h
   simp only [refVs, List.getElem?_cons_succ] at k
   obtain ⟨x, q1, q2, q3⟩ := refs_inv h k
   exact ⟨x, by simpa using q1, q2, q3⟩
theorem get_mm : ∀ {A : List (Nat × Blk)} {i id : Nat} {x : Blk}, noDup (keysB A) = true → A[i]? = some (id, x) → mm A id = some x
 | [], i, id, x, _, h => by simp at h
 | (j, y) :: A, 0, id, x, _, h => by simp at h; obtain ⟨rfl, rfl⟩ := h; simp [mm, upd]
 | (j, y) :: A, i + 1, id, x, hn, h => by
   simp only [List.getElem?_cons_succ] at h
   obtain ⟨n1, n2⟩ := noDup_spec (i := j) (r := keysB A) hn
   have := get_mm n2 h
   have hne : id ≠ j := fun e => n1 (by subst e; exact keysB_mm.2 (by rw [this]; rfl))
   simp only [mm]
   rw [upd_other _ _ hne]
   exact this
theorem ref_rel {h : Hp} {ρ : Rho} {id : Nat} {x : Blk} (H : LiOk x (ρ id)) : Rel h ρ (ref (id, x)) (refV ρ (id, x)) := by
 cases x with
 | cells cs => obtain ⟨b, e⟩ := H; simp only [ref, refV, e]; exact .lp _ _ _ _ e
 | buf ty sz n f => obtain ⟨v, e, h1⟩ := H; simp only [ref, refV, e]; exact .buf _ _ _ _ _ _ _ e (Nat.le_refl _) h1 (fun _ => rfl)
 | map z d f n => obtain ⟨b, e⟩ := H; simp only [ref, refV, e]; exact .mp _ _ _ e
 | bufk | dead | grid | iter => exact .any _ _
section
variable {P : Program} {N : Nat}
theorem CtrL.of_body {f : FuncId} {fn : Func} {c : Code} {xs : List AV} {v : AV} {A B : List (Nat × Blk)} (hf : P.funcs[f]? = some fn) (hn : (fn.name == "runtime.NumGoroutine") = false) (hb : fn.body = some c) (hN : fn.ntmps = N) (hx : Nat.ble xs.length N = true) (hA : noDup (keysB A) = true)
   (H : ∀ w0 h0 ρb, (∀ b o, h0 b = some o → w0.heap[b]? = some o) → (∀ id, mm A id = none → ρb id = none) → (∀ id x, mm A id = some x → LiOk x (ρb id)) → W P N none (Cq w0 h0 (refs A) (refVs ρb A) (ownSet ρb)) c (argL 0 xs) A 0 (RetOQ P fn h0 w0 ρb v B)) : CtrO P f xs A v B := by
 refine ⟨enters_of hf hn hb, fun h w ρ vs hR hp O => ?_⟩
 refine callsIn_w (n := 1) (callsIn_of_wp_marks hf hb trivial ?_)
 refine H w h ρ hp O.dom (fun id x hx => (O.blk id x hx).li) h ρ _ w ?_
 have hlen : vs.length ≤ N := by rw [hR.1]; exact Nat.le_of_ble_eq_true hx
 refine ⟨fun t => ?_, ⟨refs_len, fun i c v h1 h2 => ?_⟩, ?_, hp, O.blk, O.dom, fun id li b q1 q2 => ⟨(O.own id li b q1 q2).1, (O.own id li b q1 q2).2, .inr ⟨id, li, q1, q2⟩⟩, O.inj, rfl, rfl, rfl, Nat.le_refl _, fun _ _ _ => rfl, fun b o hb => hb, fun b o hb _ => hb, ⟨fun _ => True, fun _ _ => trivial, fun _ _ _ => .inr trivial, trivial⟩, ⟨[], rfl, List.nodup_nil, fun D hD => (by cases hD)⟩⟩
 · rcases argL_rel (h := h) (ρ := ρ) 0 hR t with e | ⟨i, u, e1, e2, e3⟩
   · rw [e]; exact .any _ _
   · have e0 : t = i := by omega
     subst e0
     have hi : t < vs.length := (List.getElem?_eq_some_iff.1 e2).1
     have : (vs.toArray ++ Array.replicate (fn.ntmps - vs.toArray.size) undef).getD t undef = u := by
       have e4 : vs[t] = u := by have := List.getElem?_eq_getElem hi; rw [this] at e2; exact Option.some.inj e2
       simp [Array.getElem?_append, hi, e4]
     rw [this]
     exact e3
 · obtain ⟨⟨id, x⟩, q1, rfl, rfl⟩ := refs_inv h1 h2
   exact ref_rel (O.blk id x (get_mm hA q1)).li
 · simp [hN]; omega
end
section
variable {P : Program} {N : Nat} {Γ : Tys} {L : List (Nat × AV)} {M : List (Nat × Blk)} {g : Nat}
end
theorem CtrO.sim {P : Program} {f : FuncId} {args args' : List AV} {A A' B : List (Nat × Blk)} {v : AV} (H : CtrO P f args' A' v B) (hs : SimL args args') (hM : AgreeM A A') : CtrO P f args A v B := by
 refine ⟨H.1, fun h w ρ vs hR hp O => H.2 h w ρ vs ⟨by rw [hR.1, hs.spec.1], fun i c u hc hu => ?_⟩ hp ⟨fun id y hy => ?_, fun id hy => O.dom id (((hM.spec id).1).1 hy), O.own, O.inj⟩⟩
 · obtain ⟨l1, l2⟩ := hs.spec
   have hi : i < args.length := by rw [l1]; exact (List.getElem?_eq_some_iff.1 hc).1
   exact l2 i _ c (List.getElem?_eq_getElem hi) hc h ρ u (hR.2 i _ u (List.getElem?_eq_getElem hi) hu)
 · obtain ⟨x, q1, q2⟩ := (hM.spec id).2 y hy
   exact q2 h ρ id w (O.blk id x q1)
theorem Sim.po_rp {cs cs' : List AV} {b : Bool} (hb : b = true) (hs : SimL cs cs') : Sim (.rp cs) (.po b cs') := by
 intro h ρ v H
 subst hb
 refine .po _ _ _ _ (fun _ => ?_) (fun e => by cases e)
 cases H with
 | rp _ _ ad h1 h2 =>
   obtain ⟨l1, l2⟩ := hs.spec
   refine .rp _ _ _ (fun j hj => h1 j (by rw [l1]; exact hj)) (fun j c v hj hv => ?_)
   have hi : j < cs.length := by rw [l1]; exact (List.getElem?_eq_some_iff.1 hj).1
   exact l2 j _ c (List.getElem?_eq_getElem hi) hj h ρ0 v (h2 j _ v (List.getElem?_eq_getElem hi) hv)
theorem Sim.po_nil {cs : List AV} {b : Bool} (hb : b = false) : Sim .nilPtr (.po b cs) := by
 intro h ρ v H
 subst hb
 cases H
 exact .po _ _ _ _ (fun e => by cases e) (fun _ => rfl)
theorem Sim.po {cs cs' : List AV} {b : Bool} (hs : SimL cs cs') : Sim (.po b cs) (.po b cs') := by
 intro h ρ v H
 cases H with
 | po _ _ _ _ ht hf =>
 cases b with
 | false => exact .po _ _ _ _ (fun e => by cases e) hf
 | true => exact Sim.po_rp rfl hs h ρ v (ht rfl)
theorem Sim.rp_po {cs : List AV} {b : Bool} (hb : b = true) : Sim (.po b cs) (.rp cs) := by
 intro h ρ v H
 cases H with
 | po _ _ _ _ ht hf => exact ht hb
theorem Sim.rp {cs cs' : List AV} (hs : SimL cs cs') : Sim (.rp cs) (.rp cs') := by
 intro h ρ v H
 cases H with
 | rp _ _ ad h1 h2 =>
   obtain ⟨l1, l2⟩ := hs.spec
   refine .rp _ _ _ (fun j hj => h1 j (by rw [l1]; exact hj)) (fun j c v hj hv => ?_)
   have hi : j < cs.length := by rw [l1]; exact (List.getElem?_eq_some_iff.1 hj).1
   exact l2 j _ c (List.getElem?_eq_getElem hi) hj h ρ0 v (h2 j _ v (List.getElem?_eq_getElem hi) hv)
theorem BSim.cells {xs ys : List AV} (hs : SimL xs ys) : BSim (.cells xs) (.cells ys) := by
 intro h ρ id w H
 obtain ⟨b, vs, ty, q1, q2, q3, q4⟩ := H
 obtain ⟨l1, l2⟩ := hs.spec
 refine ⟨b, vs, ty, q1, q2, by rw [q3, l1], fun i c v hc hv => ?_⟩
 have hi : i < xs.length := by rw [l1]; exact (List.getElem?_eq_some_iff.1 hc).1
 exact l2 i _ c (List.getElem?_eq_getElem hi) hc h ρ v (q4 i _ v (List.getElem?_eq_getElem hi) hv)
end Go.Av
end
/- Owned results of several blocks: names changed at the return; empty slices within temporaries. -/
section
set_option linter.all false
namespace Go.Av
section
variable {N : Nat} {C : Ctx} {L : List (Nat × AV)} {M : List (Nat × Blk)} {g : Nat}
end
end Go.Av
end
/- An owned slice is only read from now on, wherever it is named. -/
section
set_option linter.all false
namespace Go.Av
section
variable {N : Nat} {C : Ctx} {L : List (Nat × AV)} {M : List (Nat × Blk)} {g : Nat} {R : Act → World → Prop}
end
end Go.Av
end
/- Rows that grow, at loops: no rows as rows that are owned; what rows hold. -/
section
set_option linter.all false
namespace Go.Av
open Go.Sp
section
variable {N : Nat} {C : Ctx} {L : List (Nat × AV)} {M : List (Nat × Blk)} {g : Nat}
end
theorem GSeg.one {T : Type} [Inhabited T] {f : T → List AV} {k : Nat} {e2 : Nat → List AV} {row : List T} (h : Seg f k e2 row) : GSeg f 1 (fun _ => k) (fun _ => e2) [row] := by
 obtain ⟨rfl, h2⟩ := h
 refine ⟨rfl, fun i hi => ?_, fun i j hi hj => ?_⟩
 · obtain rfl : i = 0 := by omega
   rfl
 · obtain rfl : i = 0 := by omega
   exact h2 j hj
theorem GSeg.push {T : Type} [Inhabited T] {f : T → List AV} {n n2 : Nat} {m m2 : Nat → Nat} {e e2 : Nat → Nat → List AV} {l l2 : List (List T)} (h : GSeg f n m e l) (h2 : GSeg f n2 m2 e2 l2) :
   GSeg f (n + n2) (fun a => if a < n then m a else m2 (a - n)) (fun a => if a < n then e a else e2 (a - n)) (l ++ l2) := by
 obtain ⟨rfl, g1, g2⟩ := h
 obtain ⟨rfl, k1, k2⟩ := h2
 refine ⟨by simp, fun i hi => ?_, fun i j hi hj => ?_⟩
 · by_cases hl : i < l.length
   · simp only [hl, if_true]; rw [g1 i hl]; simp [List.getD_eq_getElem?_getD, List.getElem?_append_left hl]
   · simp only [hl, if_false]; rw [k1 _ (by omega)]; simp [List.getD_eq_getElem?_getD, List.getElem?_append_right (Nat.le_of_not_lt hl)]
 · by_cases hl : i < l.length
   · simp only [hl, if_true] at hj ⊢; rw [g2 i j hl hj]; simp [List.getD_eq_getElem?_getD, List.getElem?_append_left hl]
   · simp only [hl, if_false] at hj ⊢; rw [k2 _ j (by omega) hj]; simp [List.getD_eq_getElem?_getD, List.getElem?_append_right (Nat.le_of_not_lt hl)]
end Go.Av
end
/- slices.Insert of one element into an owned row, out of walks of its body (which a claim prints for its program). -/
section
set_option linter.all false
namespace Go.Av
open Go Go.Lib
structure InsW (P : Program) (f tS tI fo sz : Nat) : Prop where
 shift : ∀ (g n c i vb vc : Nat) (w W1 W2 : World), i < n → n + 1 ≤ c → c ≤ 9223372036854775807 →
   (∀ lb cb o, (callFunc fo #[.slice (some ⟨vb, 0, none⟩) 1 vc, .slice (some ⟨g, o, none⟩) lb cb]).run P w = .ok (.value (.bool false)) w) →
   (∀ ty dc sc, (Builtin.copy_ #[tS, tS] ty #[.slice (some ⟨g, (i + 1) * sz, none⟩) (n - i) dc, .slice (some ⟨g, i * sz, none⟩) (n + 1 - i) sc]).run P w.drew = .ok (goInt (n - i)) W1) →
   (∀ ty dc, (Builtin.copy_ #[tS, tS] ty #[.slice (some ⟨g, i * sz, none⟩) (n + 1 - i) dc, .slice (some ⟨vb, 0, none⟩) 1 vc]).run P W1 = .ok (goInt 1) W2) →
   Calls P f #[.slice (some ⟨g, 0, none⟩) n c, .int .i64 i, .slice (some ⟨vb, 0, none⟩) 1 vc] w fun e w' => e = .returned (.slice (some ⟨g, 0, none⟩) (n + 1) c) ∧ w' = W2
 end_ : ∀ (g n c vb vc : Nat) (w : World) (v' : Value) (w' : World), n ≤ c → c ≤ 9223372036854775807 →
   (∀ ty, (Builtin.append_ #[tS, tS] ty #[.slice (some ⟨g, 0, none⟩) n c, .slice (some ⟨vb, 0, none⟩) 1 vc]).run P w = .ok v' w') →
   Calls P f #[.slice (some ⟨g, 0, none⟩) n c, .int .i64 n, .slice (some ⟨vb, 0, none⟩) 1 vc] w fun e w2 => e = .returned v' ∧ w2 = w'
 nil_ : ∀ (vb vc : Nat) (w : World) (v' : Value) (w' : World),
   (∀ ty, (Builtin.append_ #[tS, tS] ty #[.slice none 0 0, .slice (some ⟨vb, 0, none⟩) 1 vc]).run P w = .ok v' w') →
   Calls P f #[.slice none 0 0, .int .i64 0, .slice (some ⟨vb, 0, none⟩) 1 vc] w fun e w2 => e = .returned v' ∧ w2 = w'
 grow : ∀ (g n c i vb vc g2 c2 : Nat) (w W1 W2 W3 : World), i < n → n ≤ c → c < n + 1 → n + 1 ≤ 9223372036854775807 → n + 1 ≤ c2 → c2 ≤ 9223372036854775807 →
   (∀ ty, (Builtin.append_ #[tS, tI] ty #[.slice (some ⟨g, 0, none⟩) i c, .int .i64 ((n : Int) + 1 - (i : Int))]).run P w = .ok (.slice (some ⟨g2, 0, none⟩) (n + 1) c2) W1) →
   (∀ ty dc, (Builtin.copy_ #[tS, tS] ty #[.slice (some ⟨g2, i * sz, none⟩) (n + 1 - i) dc, .slice (some ⟨vb, 0, none⟩) 1 vc]).run P W1 = .ok (goInt 1) W2) →
   (∀ ty dc sc, (Builtin.copy_ #[tS, tS] ty #[.slice (some ⟨g2, (i + 1) * sz, none⟩) (n - i) dc, .slice (some ⟨g, i * sz, none⟩) (n - i) sc]).run P W2.drew = .ok (goInt (n - i)) W3) →
   Calls P f #[.slice (some ⟨g, 0, none⟩) n c, .int .i64 i, .slice (some ⟨vb, 0, none⟩) 1 vc] w fun e w' => e = .returned (.slice (some ⟨g2, 0, none⟩) (n + 1) c2) ∧ w' = W3
end Go.Av
end
/- Cells that are only read from now on, wherever they are named. -/
section
set_option linter.all false
namespace Go.Av
mutual
/-- A value in which a name of cells is read as what they are. -/
def fc (id : Nat) (cs0 : List AV) (K : List Nat) : AV → Option AV
 | .lp i off => match Nat.beq i id with
   | true => match dropN off cs0 with
     | some r => some (.rp r)
     | none => none
   | false => match inList K i with
     | true => some (.lp i off)
     | false => none
 | .agg cs => match fcL id cs0 K cs with
   | some cs' => some (.agg cs')
   | none => none
 | .tup cs => match fcL id cs0 K cs with
   | some cs' => some (.tup cs')
   | none => none
 | .fn f fs cs => match fcL id cs0 K fs with
   | some fs' => match fcL id cs0 K cs with
     | some cs' => some (.fn f fs' cs')
     | none => none
   | none => none
 | v => match onlyIds K v with
   | true => some v
   | false => none
def fcL (id : Nat) (cs0 : List AV) (K : List Nat) : List AV → Option (List AV)
 | [] => some []
 | c :: cs => match fc id cs0 K c with
   | some c' => match fcL id cs0 K cs with
     | some cs' => some (c' :: cs')
     | none => none
   | none => none
end
theorem fc_other {id : Nat} {cs0 : List AV} {K : List Nat} {x y : AV} (h : fc id cs0 K x = some y) (h1 : ∀ i n, x ≠ .lp i n) (h2 : ∀ cs, x ≠ .agg cs) (h3 : ∀ cs, x ≠ .tup cs) (h4 : ∀ f fs cs, x ≠ .fn f fs cs) : onlyIds K x = true ∧ y = x := by
 cases x <;> first | exact absurd rfl (h1 _ _) | exact absurd rfl (h2 _) | exact absurd rfl (h3 _) | exact absurd rfl (h4 _ _ _) | (simp only [fc] at h; split at h <;> cases h; exact ⟨by assumption, rfl⟩)
theorem fcL_get {id : Nat} {cs0 : List AV} {K : List Nat} : ∀ {cs cs' : List AV}, fcL id cs0 K cs = some cs' → cs'.length = cs.length ∧
   ∀ (i : Nat) (c' : AV), cs'[i]? = some c' → ∃ c, cs[i]? = some c ∧ fc id cs0 K c = some c'
 | [], cs', h => by
   simp only [fcL] at h; cases h
   exact ⟨rfl, fun i c' hc => (by simp at hc)⟩
 | c :: cs, cs', h => by
   simp only [fcL] at h
   split at h
   · rename_i d hd
     split at h
     · rename_i ds hds
       cases h
       obtain ⟨h1, h2⟩ := fcL_get hds
       refine ⟨by simp [h1], fun i c' hc => ?_⟩
       cases i with
       | zero => simp at hc; subst hc; exact ⟨c, rfl, hd⟩
       | succ i =>
         obtain ⟨c0, e1, e2⟩ := h2 i c' (by simpa using hc)
         exact ⟨c0, by simpa using e1, e2⟩
     · cases h
   · cases h
theorem Rel.fc {h h' : Hp} {ρ ρ' : Rho} {id b0 : Nat} {cs0 : List AV} {K : List Nat} (hle : Le h h') (hρ : ∀ i, i ∈ K → ρ' i = ρ i) (hid : ρ id = some (.blk b0))
   (hr : ∀ off r, dropN off cs0 = some r → Rel h' ρ' (.rp r) (.pointer (some ⟨b0, off, none⟩))) {x : AV} {v : Value} (H : Rel h ρ x v) :
   ∀ {y : AV}, Go.Av.fc id cs0 K x = some y → Rel h' ρ' y v := by
 induction H with
 | lp ρ i off b hb =>
   intro y hy
   simp only [Go.Av.fc] at hy
   split at hy
   · rename_i hi
     have := Nat.eq_of_beq_eq_true hi
     subst this
     rw [hid] at hb; cases hb
     split at hy
     · rename_i r hd
       cases hy
       exact hr off r hd
     · cases hy
   · split at hy
     · rename_i hk
       cases hy
       exact .lp _ _ _ _ ((hρ i (inList_mem hk)).trans hb)
     · cases hy
 | agg ρ cs vs hl hc ih =>
   intro y hy
   simp only [Go.Av.fc] at hy
   split at hy
   · rename_i cs' hcs
     cases hy
     obtain ⟨e1, e2⟩ := fcL_get hcs
     refine .agg _ _ _ (by rw [hl, e1]) fun i c v h1 h2 => ?_
     obtain ⟨c0, k1, k2⟩ := e2 i c h1
     exact ih i c0 v k1 h2 hρ hid k2
   · cases hy
 | tup ρ cs vs hl hc ih =>
   intro y hy
   simp only [Go.Av.fc] at hy
   split at hy
   · rename_i cs' hcs
     cases hy
     obtain ⟨e1, e2⟩ := fcL_get hcs
     refine .tup _ _ _ (by rw [hl, e1]) fun i c v h1 h2 => ?_
     obtain ⟨c0, k1, k2⟩ := e2 i c h1
     exact ih i c0 v k1 h2 hρ hid k2
   · cases hy
 | fn ρ f fs cs vs ws hl hm hc hd ih1 ih2 =>
   intro y hy
   simp only [Go.Av.fc] at hy
   split at hy
   · rename_i fs' hfs
     split at hy
     · rename_i cs' hcs
       cases hy
       obtain ⟨e1, e2⟩ := fcL_get hfs
       obtain ⟨e3, e4⟩ := fcL_get hcs
       refine .fn _ _ _ _ _ _ (by rw [hl, e1]) (by rw [hm, e3]) (fun i c v h1 h2 => ?_) (fun i c v h1 h2 => ?_)
       · obtain ⟨c0, k1, k2⟩ := e2 i c h1
         exact ih1 i c0 v k1 h2 hρ hid k2
       · obtain ⟨c0, k1, k2⟩ := e4 i c h1
         exact ih2 i c0 v k1 h2 hρ hid k2
     · cases hy
   · cases hy
 | _ =>
   intro y hy
   obtain ⟨ho, rfl⟩ := fc_other hy (fun _ _ e => by cases e) (fun _ e => by cases e) (fun _ e => by cases e) (fun _ _ _ e => by cases e)
   refine Rel.forget hρ (Rel.heap ?_ hle) ho
   first | (constructor <;> assumption) | (constructor; done)
def fcS (id : Nat) (cs0 : List AV) (K : List Nat) (L : List (Nat × AV)) : List Nat → Option (List (Nat × AV))
 | [] => some []
 | t :: ts => match findL L t with
   | some x => match fc id cs0 K x with
     | some y => match fcS id cs0 K L ts with
       | some L' => some ((t, y) :: L')
       | none => none
     | none => none
   | none => none
def fcB (id : Nat) (cs0 : List AV) (K : List Nat) : Blk → Option Blk
 | .cells cs => match fcL id cs0 K cs with
   | some cs' => some (.cells cs')
   | none => none
 | b => match onlyB K b with
   | true => some b
   | false => none
def fcM (id : Nat) (cs0 : List AV) (K : List Nat) (M : List (Nat × Blk)) : List Nat → Option (List (Nat × Blk))
 | [] => some []
 | t :: ts => match mm M t with
   | some x => match fcB id cs0 K x with
     | some y => match fcM id cs0 K M ts with
       | some M' => some ((t, y) :: M')
       | none => none
     | none => none
   | none => none
theorem fcS_spec {id : Nat} {cs0 : List AV} {K : List Nat} {L : List (Nat × AV)} : ∀ {ts : List Nat} {L' : List (Nat × AV)}, fcS id cs0 K L ts = some L' →
   ∀ t, fr L' t = .any ∨ fc id cs0 K (fr L t) = some (fr L' t)
 | [], L', h, t => by simp only [fcS] at h; cases h; exact .inl rfl
 | u :: ts, L', h, t => by
   simp only [fcS] at h
   split at h
   · rename_i x hx
     split at h
     · rename_i y hy
       split at h
       · rename_i L2 h2
         cases h
         simp only [fr, put]
         split
         · rename_i hb
           have := Nat.eq_of_beq_eq_true hb
           subst this
           rw [findL_fr hx]
           exact .inr hy
         · exact fcS_spec h2 t
       · cases h
     · cases h
   · cases h
theorem fcM_spec {id : Nat} {cs0 : List AV} {K : List Nat} {M : List (Nat × Blk)} : ∀ {ts : List Nat} {M' : List (Nat × Blk)}, fcM id cs0 K M ts = some M' →
   (∀ t, t ∈ ts → (mm M' t).isSome = true) ∧ ∀ t y, mm M' t = some y → t ∈ ts ∧ ∃ x, mm M t = some x ∧ fcB id cs0 K x = some y
 | [], M', h => by simp only [fcM] at h; cases h; exact ⟨fun t ht => (by cases ht), fun t y hy => (by cases hy)⟩
 | u :: ts, M', h => by
   simp only [fcM] at h
   split at h
   · rename_i x hx
     split at h
     · rename_i y hy
       split at h
       · rename_i L2 h2
         cases h
         obtain ⟨k1, k2⟩ := fcM_spec h2
         refine ⟨fun t ht => ?_, fun t z hz => ?_⟩
         · simp only [mm]
           by_cases e : t = u
           · subst e; rw [upd_same]; rfl
           · rw [upd_other _ _ e]
             exact k1 t ((List.mem_cons.1 ht).resolve_left e)
         · simp only [mm] at hz
           by_cases e : t = u
           · subst e; rw [upd_same] at hz; cases hz
             exact ⟨List.mem_cons_self .., x, hx, hy⟩
           · rw [upd_other _ _ e] at hz
             obtain ⟨e0, x2, e1, e2⟩ := k2 t z hz
             exact ⟨List.mem_cons_of_mem _ e0, x2, e1, e2⟩
       · cases h
     · cases h
   · cases h
section
variable {N : Nat} {C : Ctx} {L : List (Nat × AV)} {M : List (Nat × Blk)} {g : Nat} {R : Act → World → Prop}
theorem At.freezeC (id : Nat) {cs0 : List AV} {K ts : List Nat} {L' : List (Nat × AV)} {M' : List (Nat × Blk)} (hM : mm M id = some (.cells cs0)) (hcl : clL cs0 = true) (hK : inList K id = false)
   (hL : fcS id cs0 K L ts = some L') (hMK : fcM id cs0 K M K = some M')
   (hbor : ∀ b, ¬ C.bor b) (Kk : At N C L' M' g R) (hs : onlyL K C.savA = true := by rfl) : At N C L M g R := by
 intro h ρ a w I
 obtain ⟨b0, us, ty, k1, k2, k3, k4⟩ := I.blk id _ hM
 obtain ⟨m1, m2⟩ := fcM_spec hMK
 have hidK : id ∉ K := fun hk => by rw [inList_of hk] at hK; cases hK
 classical
 let h' : Hp := fun b => if b = b0 then w.heap[b]? else h b
 let ρ' : Rho := fun i => if i ∈ K then ρ i else none
 have hρ : ∀ i, i ∈ K → ρ' i = ρ i := fun i hi => if_pos hi
 have hρ' : ∀ i li, ρ' i = some li → i ∈ K ∧ ρ i = some li := fun i li hi => by
   have : (if i ∈ K then ρ i else none) = some li := hi
   split at this
   · exact ⟨by assumption, this⟩
   · cases this
 have hin : h' b0 = w.heap[b0]? := if_pos rfl
 have hle : ∀ b o, h b = some o → h' b = some o := by
   intro b o hb
   show (if b = b0 then w.heap[b]? else h b) = some o
   split
   · exact I.hp b o hb
   · exact hb
 have hge : C.w0.heap.size ≤ b0 := (I.own id _ b0 k1 rfl).2.2.resolve_right (hbor b0)
 have hnew : ∀ b o, h' b = some o → (b = b0 ∧ w.heap[b]? = some o) ∨ h b = some o := by
   intro b o hb
   have : (if b = b0 then w.heap[b]? else h b) = some o := hb
   split at this
   · exact .inl ⟨by assumption, this⟩
   · exact .inr this
 have key : ∀ off j, cellOf h' (Addr.add ⟨b0, off, none⟩ j) = us[off + j]? := by
   intro off j
   unfold cellOf
   rw [Addr.add_lit]
   simp only [hin, k2]
   simp
 have hr : ∀ off r, dropN off cs0 = some r → Rel h' ρ' (.rp r) (.pointer (some ⟨b0, off, none⟩)) := by
   intro off r hd
   obtain ⟨rfl, hlo⟩ := dropN_get hd
   refine .rp _ _ _ (fun j hj => ?_) (fun j y z hy hz => ?_)
   · rw [key]
     have : off + j < us.length := by rw [k3]; simp at hj; omega
     simp [this]
   · rw [key] at hz
     rw [List.getElem?_drop] at hy
     exact ((k4 _ y z hy hz).heap (Le.of hle)).of_cl (clL_get hcl hy)
 refine Kk h' ρ' a w { I with slot := fun t => ?_, sav := ⟨I.sav.1, fun i c x h1 h2 => ((I.sav.2 i c x h1 h2).heap (Le.of hle)).forget hρ (onlyL_get hs h1)⟩, hp := fun b o hb => ?_, blk := fun i y hy => ?_, dom := fun i hi => ?_, own := fun i li b q1 q2 => ?_, inj := fun i i' li li' b q1 q1' q2 q2' => I.inj i i' li li' b (hρ' _ _ q1).2 (hρ' _ _ q1').2 q2 q2', ext := fun b o hb => hle b o (I.ext b o hb), old := fun b o hb hlt => ?_, gst := ?_, dfr := ?_ }
 · rcases fcS_spec hL t with e1 | e1
   · rw [e1]; exact .any _ _
   · exact Rel.fc (Le.of hle) hρ k1 hr (I.slot t) e1
 · rcases hnew b o hb with q | q
   · exact q.2
   · exact I.hp b o q
 · obtain ⟨hik, x, e1, e2⟩ := m2 i y hy
   have H := I.blk i x e1
   have other : ∀ z, onlyB K z = true → BlkOk h ρ i z w → BlkOk h' ρ' i z w := fun z ho Hz => ((Hz.keep (Le.of hle) rfl (hle_refl _) (fun _ _ _ _ => rfl)).forget hρ hik ho)
   cases x with
   | cells cs =>
     simp only [fcB] at e2
     split at e2
     · rename_i cs' hcs
       cases e2
       obtain ⟨b, vs, ty', z1, z2, z3, z4⟩ := H
       obtain ⟨l1, l2⟩ := fcL_get hcs
       refine ⟨b, vs, ty', (hρ i hik).trans z1, z2, by rw [z3, l1], fun j c u hc hu => ?_⟩
       obtain ⟨c0, y1, y2⟩ := l2 j c hc
       exact Rel.fc (Le.of hle) hρ k1 hr (z4 j c0 u y1 hu) y2
     · cases e2
   | _ =>
     simp only [fcB] at e2
     split at e2
     · rename_i ho
       cases e2
       exact other _ ho H
     · cases e2
 · cases hq : ρ' i with
   | none => rfl
   | some li =>
     have := m1 i (hρ' i li hq).1
     rw [hi] at this; cases this
 · obtain ⟨q3, q4⟩ := hρ' i li q1
   obtain ⟨z1, z2, z3⟩ := I.own i li b q4 q2
   refine ⟨?_, z2, z3⟩
   show (if b = b0 then w.heap[b]? else h b) = none
   rw [if_neg (fun (hv : b = b0) => hidK ((I.inj i id li _ b q4 k1 q2 (hv ▸ (rfl : LI.owns (.blk b0) b0))) ▸ q3))]
   exact z1
 · rcases hnew b o hb with q | q
   · rw [q.1] at hlt; exact absurd hlt (Nat.not_lt.2 hge)
   · exact I.old b o q hlt
 · obtain ⟨X, x1, x2, x3⟩ := I.gst
   refine ⟨X, fun b ⟨i, li, q1, q2⟩ => x1 b ⟨i, li, (hρ' i li q1).2, q2⟩, fun b o hb => ?_, x3⟩
   rcases hnew b o hb with q | q
   · exact .inr (x1 b ⟨id, _, k1, q.1 ▸ rfl⟩)
   · exact x2 b o q
 · obtain ⟨Ds, hd1, hd2, hd3⟩ := I.dfr
   exact ⟨Ds, hd1, hd2, fun D hD => ⟨hle _ _ (hd3 D hD).1, (hd3 D hD).2⟩⟩
end
theorem Sim.fnClo {f : Fn} {fs cs : List AV} (h : (clL fs && clL cs) = true) : Sim (.fn f fs cs) (.clo f fs cs) := by
 intro h' ρ v H
 exact .clo _ _ _ _ _ (H.of_cl (by simpa [AV.cl] using h))
end Go.Av
end
/- Ranges over maps: whichever entry comes next. -/
section
set_option linter.all false
namespace Go.Av
open Go.ChangeMaps (setBlock)
section
variable {P : Program} {N : Nat} {C : Ctx} {rr : Option Nat} {L : List (Nat × AV)} {M : List (Nat × Blk)} {g : Nat} {Q : Exit → Act → World → Prop}
theorem left_push {es : Array MapEntry} {seen : Array Nat} {x : MapEntry} {left : List Int} {k : Int} (hk : (leftOf es seen).toList.map (·.key) = left.map (fun k => Value.int .i64 k)) (hx : x ∈ (leftOf es seen).toList) (hn : (es.toList.map (·.born)).Nodup) (hkey : x.key = .int .i64 k) :
   ∃ left' : List Int, left.Perm (k :: left') ∧ (leftOf es (seen.push x.born)).toList.map (·.key) = left'.map (fun k => Value.int .i64 k) := by
 have h1 : (leftOf es (seen.push x.born)).toList = (leftOf es seen).toList.filter (fun e => e.born != x.born) := by
   unfold leftOf
   simp only [Array.toList_filter, List.filter_filter]
   congr 1
   funext e
   by_cases he : e.born = x.born
   · simp [he]
   · have : (seen.push x.born).contains e.born = seen.contains e.born := by
       rw [Bool.eq_iff_iff]; simp [he]
     rw [this]
     have hb : (e.born != x.born) = true := by simpa using he
     rw [hb, Bool.true_and]
 have hsub : (leftOf es seen).toList.Sublist es.toList := by
   unfold leftOf; simp only [Array.toList_filter]; exact List.filter_sublist
 have hnl : ((leftOf es seen).toList.map (·.born)).Nodup := (hsub.map _).nodup hn
 generalize (leftOf es seen).toList = l at hk hx h1 hnl
 rw [h1]
 clear h1 hsub
 induction l generalizing left with
 | nil => cases hx
 | cons y l ih =>
   cases left with
   | nil => simp at hk
   | cons k0 left =>
   simp only [List.map_cons, List.cons.injEq] at hk
   simp only [List.map_cons, List.nodup_cons] at hnl
   rcases List.mem_cons.1 hx with rfl | hx
   · have hkk : k0 = k := by have := hk.1; rw [hkey] at this; cases this; rfl
     subst hkk
     refine ⟨left, List.Perm.refl _, ?_⟩
     rw [List.filter_cons_of_neg (by simp)]
     rw [List.filter_eq_self.2 (fun z hz => by
       have : z.born ≠ x.born := fun e => hnl.1 (e ▸ List.mem_map_of_mem hz)
       simpa using this)]
     exact hk.2
   · obtain ⟨left', p1, p2⟩ := ih hk.2 hx hnl.2
     refine ⟨k0 :: left', (p1.cons k0).trans (List.Perm.swap _ _ _), ?_⟩
     have : y.born ≠ x.born := fun e => hnl.1 (e ▸ List.mem_map_of_mem hx)
     rw [List.filter_cons_of_pos (by simpa using this), List.map_cons, List.map_cons, p2, hk.1]
theorem W.next {rid : Nat} {o1 o2 : Oper} {it d1 d2 id : Nat} {e : Int → AV} {left : List Int} (h1 : o1.op = .next (.tmp it) false) (g1 : o1.guard = none) (hd1 : o1.dst = some d1) (h2 : o2.op = .extract (.tmp d1) 0) (g2 : o2.guard = none) (hd2 : o2.dst = some d2)
   (hl1 : Nat.blt d1 N = true) (hl2 : Nat.blt d2 N = true) (hne : Nat.beq d1 d2 = false) (hL : fr L it = .lp id 0) (hM : mm M id = some (.iter e none (fun l => l = left)))
   (K0 : left = [] → At N C ((d2, .bool false) :: (d1, .any) :: L) M g (Q .normal))
   (K1 : ∀ k left', left.Perm (k :: left') → At N C ((d2, .bool true) :: (d1, .any) :: L) ((id, .iter e (some k) (fun l => l = left')) :: M) g (Q .normal)) : W P N rr C (.region rid #[o1, o2] false) L M g Q := by
 intro h ρ a w I
 obtain ⟨b, bm, clock, c0, es, seen, left0, q1, q2, q3, q4, q5, q6, q7, rfl, q9, q10⟩ := I.blk id _ hM
 have hlt1 : d1 < N := Nat.le_of_ble_eq_true hl1
 have hlt2 : d2 < N := Nat.le_of_ble_eq_true hl2
 have hne' : d1 ≠ d2 := fun e => by subst e; simp at hne
 have hit : a.eval (.tmp it) = .pointer (some ⟨b, 0, none⟩) := by
   have := I.slot it
   rw [hL] at this
   show a.tmps.getD it undef = _
   generalize a.tmps.getD it undef = v at this
   cases this with
   | lp _ _ _ b' hb => rw [q1] at hb; cases hb; rfl
 refine wpIn_region ?_
 have hr2 : List.range #[o1, o2].size = [0, 1] := rfl
 rw [hr2, wpOpsIn_cons]
 unfold wpOpIn
 simp only [List.getElem?_toArray, List.getElem?_cons_zero]
 rw [if_pos (by simp [Region.wanted, g1])]
 have hd01 : ∀ c, o1.op ≠ .defer c := fun c e => by rw [h1] at e; cases e
 have hd02 : ∀ c, o2.op ≠ .defer c := fun c e => by rw [h2] at e; cases e
 have second : ∀ (v : Bool) (vs : List Value) (w' : World) (a' : Act), a'.tmps.getD d1 undef = .tuple (Value.bool v :: vs).toArray → Q .normal (a'.put (some d2) (.bool v)) w' → wpOpsIn (Fw rr) 1 P #[o1, o2] Q [1] a' w' := by
   intro v vs w' a' hv hq
   rw [wpOpsIn_cons]
   unfold wpOpIn
   simp only [List.getElem?_toArray, List.getElem?_cons_succ, List.getElem?_cons_zero]
   rw [if_pos (by simp [Region.wanted, g2])]
   refine ⟨fun _ _ => trivial, ?_⟩
   rw [Oper.semAt_eq _ _ _ hd02]
   have hrun : (execOp a'.eval o2).run P w' = .ok (.value (.bool v)) w' := by
     unfold execOp
     have : a'.eval (.tmp d1) = .tuple (Value.bool v :: vs).toArray := hv
     simp [h2, this, Instr.extract]
   rw [hrun, Oper.uponIn_value, hd2]
   exact hq
 refine ⟨fun _ _ => trivial, ?_⟩
 rw [Oper.semAt_eq _ _ _ hd01]
 have hex : ∀ (r : Result Value), (Instr.next (.pointer (some ⟨b, 0, none⟩)) false o1.type).run P w = r → (execOp a.eval o1).run P w = r.andThen fun v w => .ok (.value v) w := by
   intro r hr
   unfold execOp
   simp only [h1, hit, Sem.run_bind, hr, Sem.run_pure]
 have putL : ∀ {h' : Hp} {ρ' : Rho} {M' : Mm} {w' : World} (u : Value) (v : Bool), InvH N C h' ρ' (fr L) M' g a w' → InvH N C h' ρ' (fr ((d2, .bool v) :: (d1, .any) :: L)) M' g ((a.put (some d1) u).put (some d2) (.bool v)) w' := fun u v I0 =>
   (I0.put (d := some d1) (v := .any) (fun t ht => by cases ht; exact hlt1) (.any _ u)).put (d := some d2) (v := .bool v) (fun t ht => by cases ht; exact hlt2) (.bool _ v)
 have get1 : ∀ u, (a.put (some d1) u).tmps.getD d1 undef = u := fun u => by
   have : d1 < a.tmps.size := by rw [I.size]; exact hlt1
   simp [Act.put, this]
 rcases run_next_at (P := P) w o1.type b bm clock c0 seen es.toArray clock q2 (I.hp _ _ q3) (by simpa using q4) q6 with ⟨hz, hr⟩ | ⟨x, hx, w1, hw1, hr⟩
 · rw [hex _ hr]
   simp only [Result.andThen]
   rw [Oper.uponIn_value, hd1]
   refine second false [] w _ (get1 _) ?_
   have hnil : left0 = [] := by
     have h0 : (leftOf es.toArray seen).toList = [] := List.eq_nil_of_length_eq_zero (by simpa using hz)
     rw [h0] at q7
     cases left0 with
     | nil => rfl
     | cons => simp at q7
   exact K0 hnil h ρ _ w (putL _ false I)
 · rw [hex _ hr]
   simp only [Result.andThen]
   rw [Oper.uponIn_value, hd1]
   refine second true [x.key, x.val] _ _ (get1 _) ?_
   have hxe : x ∈ es := by
     unfold leftOf at hx
     simp at hx; exact hx.1
   obtain ⟨k, k1, k2⟩ := q9 x hxe
   obtain ⟨left', p1, p2⟩ := left_push q7 hx (by simpa using q5) k1
   have I1 : InvH N C h ρ (fr L) (mm M) g a w1 := by
     rcases hw1 with rfl | rfl
     · exact I
     · exact I.drew
   have hb1 : w1.heap[b]? = some (.mapIter (some bm) clock seen c0) := by rcases hw1 with rfl | rfl <;> exact q2
   have hblt : b < w1.heap.size := (Array.getElem?_eq_some_iff.1 hb1).1
   have hbm : bm ≠ b := by rintro rfl; have := I.hp _ _ q3; rw [q2] at this; cases this
   have I2 := I1.turn (w' := setBlock w1 b (.mapIter (some bm) clock (seen.push x.born) clock)) q1 (.iter e (some k) (fun l => l = left')) rfl rfl rfl (by simp [setBlock]) (fun j hj => by simp [setBlock, Array.getElem?_setIfInBounds_ne (Ne.symm hj)])
     ⟨b, bm, clock, clock, es, seen.push x.born, left', q1, by simp [setBlock, hblt], q3, q4, q5, Nat.le_refl _, p2, rfl, q9, fun k' hk' => by cases hk'; exact ⟨rfl, x, seen, hxe, k1, rfl⟩⟩
   exact K1 k left' p1 h ρ _ _ (putL _ true I2)
end
end Go.Av
end
/- slices.Sort at []int, whose contract the library has, as a function that a slice is lent to. -/
section
set_option linter.all false
namespace Go.Av
open Go Go.Sort Go.Proofs
end Go.Av
end
/- Steps in one: two commands of which the first is a region; what reads the same. -/
section
set_option linter.all false
namespace Go.Av
open Go
theorem Sim.q {x y : AV} (h : x = y := by first | rfl | (simp; done) | omega | (simp; omega)) : Sim x y := .of_eq h
theorem Sim.qi {x y : AV} (h : x = y := by first | rfl | (simp; done) | omega | (refine intEq ?_; first | omega | (simp; done) | (simp; omega)) | (simp; omega)) : Sim x y := .of_eq h
theorem Sim.qb {x y : AV} (h : x = y := by refine bufEq ?_; first | (simp [Sp.copyAt]; done) | omega | (simp [Sp.copyAt]; omega) | (simp only [List.length_set] at *; omega) | rfl) : Sim x y := .of_eq h
theorem Sim.qc {x y : AV} (h : x = y := by refine bufEq ?_; first | rfl | (simp; done) | omega | (simp; omega)) : Sim x y := .of_eq h
theorem BSim.q {x y : Blk} (h : x = y := by first | rfl | (simp; done) | omega | (simp; omega)) : BSim x y := .of_eq h
variable {P : Program} {Γ : Tys} {N : Nat} {C : Ctx} {L : List (Nat × AV)} {M : List (Nat × Blk)} {g : Nat} {rr : Option Nat} {Q : Exit → Act → World → Prop}
theorem W.sr (E : Env P Γ) {id : Nat} {ops : Array Oper} {draw : Bool} {y : Code} (own : List Nat) (rvs : List RV) {A : Acc} (ts ids : List Nat) {L' : List (Nat × AV)} {M' : List (Nat × Blk)} (hr : runR Γ own ops.toList ops.toList rvs L M = some A) (hd : dstOk N ops.toList = true) (ho : drawOk draw ops A.ft = true) (hcs : AllP A.cs)
   (hrq : RqOk P A.rq) (K : W P N rr C y L' M' g Q) (hL : filtL ids A.L ts = some L' := by exact rfl) (hM : filtM ids A.M ids = some M' := by exact rfl) (hs : onlyL ids C.savA = true := by exact rfl) (hz : FzOk own C := by first | exact .inl rfl | exact .inr (fun _ h => h)) : W P N rr C (.seq (.region id ops draw) y) L M g Q :=
 W.seq (W.region E own rvs hr hd ho hcs hrq (At.keep hL hM (At.thenC K) hs) hz)
theorem W.rg (E : Env P Γ) {id : Nat} {ops : Array Oper} {draw : Bool} {y : Code} {A : Acc} (ts ids : List Nat) {L' : List (Nat × AV)} {M' : List (Nat × Blk)} (K : W P N rr C y L' M' g Q) (hr : runR Γ [] ops.toList ops.toList [] L M = some A := by exact rfl) (hd : dstOk N ops.toList = true := by exact rfl) (ho : drawOk draw ops A.ft = true := by exact rfl) (hcs : AllP A.cs := by exact .nil)
   (hrq : RqOk P A.rq := by exact .nil) (hL : filtL ids A.L ts = some L' := by exact rfl) (hM : filtM ids A.M ids = some M' := by exact rfl) (hs : onlyL ids C.savA = true := by exact rfl) : W P N rr C (.seq (.region id ops draw) y) L M g Q :=
 W.sr E [] [] ts ids hr hd ho hcs hrq K hL hM hs (.inl rfl)
end Go.Av
namespace Go.Av
section
variable {N : Nat} {C : Ctx} {L : List (Nat × AV)} {M : List (Nat × Blk)} {g : Nat} {R : Act → World → Prop}
theorem filtM_mem {K : List Nat} {M : List (Nat × Blk)} : ∀ {is : List Nat} {M'' : List (Nat × Blk)}, filtM K M is = some M'' → ∀ i b, mm M'' i = some b → i ∈ is := by
 intro is
 induction is with
 | nil => intro M'' h i b hb; simp only [filtM] at h; cases h; cases hb
 | cons s is ih =>
   intro M'' h i b hb
   simp only [filtM] at h
   split at h
   · cases h
   · split at h
     · split at h
       · rename_i r hr
         cases h
         simp only [mm, upd] at hb
         split at hb
         · rename_i hbe; have := Nat.eq_of_beq_eq_true hbe; subst this; exact List.mem_cons_self ..
         · exact List.mem_cons_of_mem _ (ih hr i b hb)
       · cases h
     · cases h
theorem At.shrink (t id d : Nat) {n b ty sz n' : Nat} {e : Nat → List AV} {K ts : List Nat} {L' : List (Nat × AV)} {M' : List (Nat × Blk)} (ht : fr L t = .sb id n 0 b) (hM : mm M id = some (.buf ty sz n' e)) (hn : n = n') (hbn : b ≤ n') (hK : inList K id = false) (hdK : inList K d = false) (hL : filtL K L ts = some L')
   (hMK : filtM K M K = some M') (Kk : At N C ((t, .buf d b) :: L') ((d, .buf ty sz b e) :: M') g R) (hs : onlyL K C.savA = true := by exact rfl) : At N C L M g R := by
 intro h ρ a w I
 subst hn
 obtain ⟨v0, us, k1, k2, k3, k5, k4⟩ := I.blk id _ hM
 obtain ⟨ρ', hρ, I'⟩ := I.forget hL hMK hs
 have hM2 := fun i z => filtM_mem hMK i z
 have hslot := I.slot t
 rw [ht] at hslot
 obtain ⟨gg, cap, hv0, hv⟩ : ∃ gg cap, v0 = .slice (some ⟨gg, 0, none⟩) n cap ∧ a.tmps.getD t undef = .slice (some ⟨gg, 0, none⟩) b cap := by
   generalize a.tmps.getD t undef = x at hslot
   cases hslot with
   | sb _ _ _ _ _ n1 sz1 _ v1 hb hle h1 he =>
     rw [k1] at hb; cases hb
     obtain ⟨gg, cap, q1, q2⟩ := he rfl
     refine ⟨gg, cap, q1, ?_⟩
     rw [q2]
     split <;> simp
 subst hv0
 have hidK : id ∉ K := fun hk => by rw [inList_of hk] at hK; cases hK
 have hdnK : d ∉ K := fun hk => by rw [inList_of hk] at hdK; cases hdK
 have hinK : ∀ i li, ρ' i = some li → i ∈ K ∧ ρ i = some li := fun i li hi => by
   have hk : i ∈ K := by
     cases hz : mm M' i with
     | none => rw [I'.dom i hz] at hi; cases hi
     | some z => exact hM2 i z hz
   exact ⟨hk, by rw [← hρ i hk]; exact hi⟩
 have hd0 : ρ' d = none := by
   cases hz : ρ' d with
   | none => rfl
   | some li => exact absurd (hinK d li hz).1 hdnK
 have hMd : mm M' d = none := by
   cases hz : mm M' d with
   | none => rfl
   | some y => exact absurd (hM2 d y hz) hdnK
 let ρ2 : Rho := upd ρ' d (some (.sl b sz (.slice (some ⟨gg, 0, none⟩) b cap)))
 have hd2 : ρ2 d = some (.sl b sz (.slice (some ⟨gg, 0, none⟩) b cap)) := upd_same _ _ _
 have hoth : ∀ j, j ≠ d → ρ2 j = ρ' j := fun j hj => upd_other _ _ hj
 have hrl : ∀ j l, ρ' j = some l → ∃ l', ρ2 j = some l' ∧ l.le l' := fun j l hj => by
   have hne : j ≠ d := fun e1 => by subst e1; rw [hd0] at hj; cases hj
   exact ⟨l, by rw [hoth j hne]; exact hj, .inl rfl⟩
 have hout : ∀ i li k, ρ' i = some li → li.owns k → k ≠ gg := fun i li k q1 q2 e1 => by
   subst e1
   obtain ⟨hk, q3⟩ := hinK i li q1
   have := I.inj i id li _ k q3 k1 q2 rfl
   subst this; exact hidK hk
 have hgo := I.own id _ gg k1 rfl
 have hmul : b * sz ≤ n * sz := Nat.mul_le_mul_right _ hbn
 have I2 : InvH N C h ρ2 (fr L') (mm ((d, .buf ty sz b e) :: M')) g a w := by
   refine { I' with slot := fun u => (I'.slot u).mono (Le.refl _) hrl, sav := ⟨I'.sav.1, fun i c x q1 q2 => (I'.sav.2 i c x q1 q2).mono (Le.refl _) hrl⟩, blk := fun i x hx => ?_, dom := fun i hi => ?_, own := fun i li k q1 q2 => ?_, inj := fun i i' li li' k q1 q1' q2 q2' => ?_, gst := ?_ }
   · simp only [mm] at hx
     by_cases e1 : i = d
     · subst e1
       rw [upd_same] at hx; cases hx
       rcases k2.2 with ⟨q, _⟩ | ⟨g1, cap1, cur, q, q0, q3, q4, q5, q6, q7⟩
       · cases q
       cases q
       refine ⟨_, us.take (b * sz), hd2, ⟨by rw [List.length_take, k2.1]; omega, .inr ⟨gg, cap, cur, rfl, q0, q3, Nat.le_trans hbn q4, q5, q6, ?_⟩⟩, fun j hj => k3 j (by omega), fun x hx => k5 x (List.mem_of_mem_take hx), fun j k c x hj hc hx => ?_⟩
       · rw [← q7, List.take_take, Nat.min_eq_left hmul]
       · rw [List.getElem?_take] at hx
         split at hx
         · exact k4 j k c x (by omega) hc hx
         · cases hx
     · rw [upd_other _ _ e1] at hx
       exact (I'.blk i x hx).keep (Le.refl _) (hoth i e1) hrl (fun _ _ _ _ => rfl)
   · simp only [mm] at hi
     by_cases e1 : i = d
     · subst e1; rw [upd_same] at hi; cases hi
     · rw [upd_other _ _ e1] at hi; rw [hoth i e1]; exact I'.dom i hi
   · by_cases e1 : i = d
     · subst e1
       rw [hd2] at q1; cases q1
       have e2 : gg = k := by have : some gg = some k := q2; exact Option.some.inj this
       subst e2; exact hgo
     · rw [hoth i e1] at q1; exact I'.own i li k q1 q2
   · have key : ∀ k, (LI.sl b sz (.slice (some ⟨gg, 0, none⟩) b cap)).owns k → gg = k := fun k q => Option.some.inj (show some gg = some k from q)
     by_cases e1 : i = d
     · by_cases e2 : i' = d
       · rw [e1, e2]
       · rw [e1, hd2] at q1; cases q1
         rw [hoth i' e2] at q1'
         exact absurd (key k q2).symm (hout i' li' k q1' q2')
     · by_cases e2 : i' = d
       · rw [e2, hd2] at q1'; cases q1'
         rw [hoth i e1] at q1
         exact absurd (key k q2').symm (hout i li k q1 q2)
       · rw [hoth i e1] at q1; rw [hoth i' e2] at q1'
         exact I'.inj i i' li li' k q1 q1' q2 q2'
   · obtain ⟨X, x1, x2, x3⟩ := I.gst
     refine ⟨X, fun k ⟨i, li, q1, q2⟩ => ?_, x2, x3⟩
     by_cases e1 : i = d
     · subst e1
       rw [hd2] at q1; cases q1
       exact x1 k ⟨id, _, k1, q2⟩
     · rw [hoth i e1] at q1
       exact x1 k ⟨i, li, (hinK i li q1).2, q2⟩
 refine Kk h ρ2 a w { I2 with slot := fun u => ?_ }
 simp only [fr, put]
 split
 · rename_i hb
   have := Nat.eq_of_beq_eq_true hb
   subst this
   rw [hv]
   exact .buf _ _ _ _ _ _ _ hd2 (Nat.le_refl _) rfl (fun _ => rfl)
 · exact I2.slot u
end
theorem Seg.cleared {T : Type} [Inhabited T] {f : T → List AV} {n a b : Nat} {e : Nat → List AV} {z : List AV} {l : List T} (h : Seg f n e l) (x : T) (hz : z = f x) (hb : b ≤ l.length) : Seg f n (fun q => if a ≤ q ∧ q < b then z else e q) (Sp.copyAt l a (b - a) (fun _ => x)) := by
 obtain ⟨rfl, g1⟩ := h
 subst hz
 refine ⟨by simp [Sp.copyAt], fun k hk => ?_⟩
 have : (Sp.copyAt l a (b - a) (fun _ => x)).getD k default = if a ≤ k ∧ k < a + (b - a) then x else l.getD k default := by
   simp only [Sp.copyAt, List.getD_eq_getElem?_getD, List.getElem?_map, List.getElem?_range hk, Option.map_some, Option.getD_some]
 rw [this]
 dsimp only
 by_cases h : a ≤ k ∧ k < b
 · rw [if_pos h, if_pos (by omega)]
 · rw [if_neg h, if_neg (by omega)]; exact g1 k hk
theorem Seg.first {T : Type} [Inhabited T] {f : T → List AV} {n b : Nat} {e : Nat → List AV} {l : List T} (h : Seg f n e l) (hb : b ≤ n) : Seg f b e (l.take b) := by
 obtain ⟨rfl, g1⟩ := h
 refine ⟨by rw [List.length_take]; omega, fun k hk => ?_⟩
 rw [g1 k (by omega)]
 simp [List.getD_eq_getElem?_getD, List.getElem?_take, hk]
end Go.Av
end
/- The bridge: from what an argument reads as (a row's data) to the abstract value that it is; from a contract to a row's statement that a law returns true and leaves its arguments as they were. -/
section
set_option linter.all false
namespace Go.Av
open Go.RowKit Go.WideShapes Go.ChangeShapes
def Wt {H : Type} (P : Program) (t : TypeId) (d : DataW H) : Prop := ∀ q ∈ d.weights P t, q ≤ reachBytes
theorem wt_all {H : Type} {P : Program} {e : TypeId} : ∀ {ds : List (DataW H)} {d : DataW H}, d ∈ ds → ∀ q ∈ d.weights P e, q ∈ DataW.weightsAll P e ds
 | x :: ds, d, h, q, hq => by
   simp only [DataW.weightsAll, List.mem_append]
   rcases List.mem_cons.1 h with rfl | h
   · exact .inl hq
   · exact .inr (wt_all h q hq)
theorem wt_left {H : Type} {P : Program} : ∀ {ts us : List TypeId} {ds gs : List (DataW H)}, ∀ q ∈ DataW.weightsEach P ts ds, q ∈ DataW.weightsEach P (ts ++ us) (ds ++ gs)
 | [], us, ds, gs, q, h => by cases ds <;> simp [DataW.weightsEach] at h
 | t :: ts, us, [], gs, q, h => by simp [DataW.weightsEach] at h
 | t :: ts, us, d :: ds, gs, q, h => by
   simp only [DataW.weightsEach, List.cons_append, List.mem_append] at h ⊢
   rcases h with h | h
   · exact .inl h
   · exact .inr (wt_left q h)
structure Opn (P : Program) (t : TypeId) (sz : Nat) {X : Type} (e : X → List AV) (ok : X → Prop) : Prop where
 len : ∀ x, (e x).length = sz
 cells : P.cellsOf t = sz
 read : ∀ (H : Type) (enc : TypeId × Value → H) (W : World) (n : Nat) (cs : List Value) (r : DataW H × List MemPlace), DataW.trod enc P W 0 (fun _ => true) true n t cs = some r → Wt P t r.1 →
   ∃ x, RelL (fun b => W.heap[b]?) ρ0 (e x) cs ∧ ok x ∧ ∀ v ∈ cs, v.oneCell' = true
theorem Opn.int {P : Program} {t : TypeId} (ht : P.underlying t = some (.int .i64)) (hc : P.cellsOf t = 1) : Opn P t 1 (fun x : Int => [.int .i64 x]) inI :=
 ⟨fun _ => rfl, hc, fun H enc W n cs r h _ => by
   obtain ⟨x, rfl, rfl, hw⟩ := DataW.trod_int ht h
   refine ⟨x, RelL.cons (.int _ _ _) (RelL.nil _ _), ?_, fun v hv => ?_⟩
   · have := bounds_i64 hw
     exact this
   · simp at hv; subst hv; rfl⟩
theorem Opn.bool {P : Program} {t : TypeId} (ht : P.underlying t = some .bool) (hc : P.cellsOf t = 1) : Opn P t 1 (fun x : Bool => [.bool x]) (fun _ => True) :=
 ⟨fun _ => rfl, hc, fun H enc W n cs r h _ => by
   obtain ⟨x, rfl, rfl⟩ := DataW.trod_bool ht h
   refine ⟨x, RelL.cons (.bool _ _) (RelL.nil _ _), trivial, fun v hv => ?_⟩
   simp at hv; subst hv; rfl⟩
theorem Opn.map {P : Program} {t : TypeId} {sz : Nat} {X Y : Type} {e : X → List AV} {ok : X → Prop} (h : Opn P t sz e ok) (f : X → Y) {e' : Y → List AV} {ok' : Y → Prop}
   (hl : ∀ y, (e' y).length = sz) (he : ∀ x, e' (f x) = e x) (ho : ∀ x, ok x → ok' (f x)) : Opn P t sz e' ok' :=
 ⟨hl, h.cells, fun H enc W n cs r hr hz => by
   obtain ⟨x, h1, h2, h3⟩ := h.read H enc W n cs r hr hz
   exact ⟨f x, by rw [he]; exact h1, ho x h2, h3⟩⟩
structure OpnF (P : Program) (fs : List (Nat × TypeId)) (off sz : Nat) {X : Type} (e : X → List AV) (ok : X → Prop) : Prop where
 len : ∀ x, (e x).length = sz
 read : ∀ (H : Type) (enc : TypeId × Value → H) (W : World) (n : Nat) (cs : List Value), cs.length = off + sz →
   (∀ f ∈ fs, ∃ r, DataW.trod enc P W 0 (fun _ => true) true n f.2 ((cs.drop f.1).take (P.cellsOf f.2)) = some r ∧ Wt P f.2 r.1) →
   ∃ x, RelL (fun b => W.heap[b]?) ρ0 (e x) (cs.drop off) ∧ ok x ∧ ∀ v ∈ cs.drop off, v.oneCell' = true
theorem OpnF.nil {P : Program} {off : Nat} : OpnF P [] off 0 (fun _ : Unit => []) (fun _ => True) :=
 ⟨fun _ => rfl, fun H enc W n cs hl _ => ⟨(), by rw [List.drop_eq_nil_of_le (by omega)]; exact RelL.nil _ _, trivial, by rw [List.drop_eq_nil_of_le (by omega)]; simp⟩⟩
theorem OpnF.cons {P : Program} {t : TypeId} {fs : List (Nat × TypeId)} {off s sz : Nat} {X Y : Type} {e : X → List AV} {ok : X → Prop} {e' : Y → List AV} {ok' : Y → Prop}
   (h : Opn P t s e ok) (h' : OpnF P fs (off + s) sz e' ok') : OpnF P ((off, t) :: fs) off (s + sz) (fun x : X × Y => e x.1 ++ e' x.2) (fun x => ok x.1 ∧ ok' x.2) :=
 ⟨fun x => by rw [List.length_append, h.len, h'.len], fun H enc W n cs hl hr => by
   obtain ⟨r, hr1, hr2⟩ := hr (off, t) (List.mem_cons_self ..)
   obtain ⟨x, h1, h2, h3⟩ := h.read H enc W n _ r hr1 hr2
   obtain ⟨y, k1, k2, k3⟩ := h'.read H enc W n cs (by omega) (fun f hf => hr f (List.mem_cons_of_mem _ hf))
   have e1 : cs.drop off = (cs.drop off).take s ++ cs.drop (off + s) := by
     rw [← List.drop_drop, List.take_append_drop]
   rw [h.cells] at h1 h3
   refine ⟨(x, y), ?_, ⟨h2, k2⟩, fun v hv => ?_⟩
   · rw [e1]; exact RelL.append h1 k1
   · rw [e1, List.mem_append] at hv
     exact hv.elim (h3 v) (k3 v)⟩
theorem Opn.struct {P : Program} {t : TypeId} {fs : Array Field} {sz : Nat} {X Y : Type} {e : X → List AV} {ok : X → Prop} (ht : P.underlying t = some (.struct fs)) (hc : P.cellsOf t = sz)
   (h : OpnF P (fs.toList.map fun f => (f.offset, f.type)) 0 sz e ok) (f : X → Y) {e' : Y → List AV} {ok' : Y → Prop}
   (hl : ∀ y, (e' y).length = sz) (he : ∀ x, e' (f x) = e x) (ho : ∀ x, ok x → ok' (f x)) : Opn P t sz e' ok' :=
 ⟨hl, hc, fun H enc W n cs r hr hz => by
   obtain ⟨xs, m, rfl, rfl, hlen, hx, hi⟩ := DataW.trod_struct ht hr
   obtain ⟨x, h1, h2, h3⟩ := h.read H enc W m cs (by rw [hlen, hc]; omega) (fun g hg => by
     obtain ⟨f0, hf0, rfl⟩ := List.mem_map.1 hg
     obtain ⟨i, hi1, hi2⟩ := List.getElem_of_mem hf0
     have hh := hi i f0 (by rw [← hi2]; simp)
     have hxi : i < xs.length := by rw [hx]; simpa using hi1
     refine ⟨xs[i]'hxi, ?_, fun q hq => hz q ?_⟩
     · rw [hh, List.getElem?_eq_getElem]
     · simp only [DataW.weights, ht]
       exact DataW.weights_mem_each (j := i) (t := f0.type) (d := (xs[i]'hxi).1) (by rw [List.getElem?_map, List.getElem?_eq_getElem hi1, hi2]; rfl) (by rw [List.getElem?_map, List.getElem?_eq_getElem hxi]; rfl) q hq)
   rw [List.drop_zero] at h1 h3
   exact ⟨f x, by rw [he]; exact h1, ho x h2, h3⟩⟩
def arrF (s : Nat) (t : TypeId) (off : Nat) : Nat → List (Nat × TypeId)
 | 0 => []
 | n + 1 => (off, t) :: arrF s t (off + s) n
theorem mem_arrF {s : Nat} {t : TypeId} : ∀ {n off : Nat} {f : Nat × TypeId}, f ∈ arrF s t off n → ∃ i, i < n ∧ f = (off + i * s, t)
 | 0, _, _, h => by cases h
 | n + 1, off, f, h => by
   rcases List.mem_cons.1 h with rfl | h
   · exact ⟨0, by omega, by simp⟩
   · obtain ⟨i, hi, rfl⟩ := mem_arrF h
     exact ⟨i + 1, by omega, by rw [Nat.add_mul]; simp; omega⟩
theorem Opn.array {P : Program} {t u : TypeId} {n s sz : Nat} {X Y : Type} {e : X → List AV} {ok : X → Prop} (ht : P.underlying t = some (.array n u)) (hc : P.cellsOf t = sz) (hu : P.cellsOf u = s)
   (h : OpnF P (arrF s u 0 n) 0 sz e ok) (f : X → Y) {e' : Y → List AV} {ok' : Y → Prop}
   (hl : ∀ y, (e' y).length = sz) (he : ∀ x, e' (f x) = e x) (ho : ∀ x, ok x → ok' (f x)) : Opn P t sz e' ok' :=
 ⟨hl, hc, fun H enc W m cs r hr hz => by
   obtain ⟨xs, m, rfl, rfl, hlen, hx, hi⟩ := DataW.trod_array ht hr
   obtain ⟨x, h1, h2, h3⟩ := h.read H enc W m cs (by rw [hlen, hc]; omega) (fun g hg => by
     obtain ⟨i, hi1, rfl⟩ := mem_arrF hg
     have hh := hi i hi1
     have hxi : i < xs.length := by rw [hx]; exact hi1
     refine ⟨xs[i]'hxi, ?_, fun q hq => hz q ?_⟩
     · rw [hu] at hh ⊢
       simp only [Nat.zero_add]
       rw [hh, List.getElem?_eq_getElem]
     · simp only [DataW.weights, ht]
       exact wt_all (List.mem_map.2 ⟨_, List.getElem_mem hxi, rfl⟩) q hq)
   rw [List.drop_zero] at h1 h3
   exact ⟨f x, by rw [he]; exact h1, ho x h2, h3⟩⟩
theorem choose_list {X : Type} [Inhabited X] {p : Nat → X → Prop} : ∀ (n : Nat), (∀ i, i < n → ∃ x, p i x) → ∃ l : List X, l.length = n ∧ ∀ i, i < n → p i (l.getD i default)
 | 0, _ => ⟨[], rfl, fun i hi => by omega⟩
 | n + 1, h => by
   obtain ⟨l, h1, h2⟩ := choose_list n (fun i hi => h i (by omega))
   obtain ⟨x, hx⟩ := h n (by omega)
   refine ⟨l ++ [x], by simp [h1], fun i hi => ?_⟩
   by_cases hn : i < n
   · have : (l ++ [x]).getD i default = l.getD i default := by
       simp [List.getD_eq_getElem?_getD, List.getElem?_append_left (h1 ▸ hn)]
     rw [this]; exact h2 i hn
   · have hi' : i = n := by omega
     subst hi'
     have : (l ++ [x]).getD i default = x := by
       simp [List.getD_eq_getElem?_getD, List.getElem?_append_right (Nat.le_of_eq h1), h1]
     rw [this]; exact hx
theorem cells?_get {w : World} {a : Addr} {n : Nat} {cs : List Value} (h : w.cells? 0 a n = some cs) : cs.length = n ∧ ∀ j, j < n → w.cell? (a.add j) = cs[j]? := by
 unfold World.cells? at h
 rw [if_pos (Nat.zero_le _)] at h
 exact ⟨by rw [mapM_some_length h]; simp, fun j hj => mapM_some_get h j j (by simp [hj])⟩
theorem Opn.slice {P : Program} {t u : TypeId} {s : Nat} {X : Type} [Inhabited X] {e : X → List AV} {ok : X → Prop} {k : Nat} (ht : P.underlying t = some (.slice u)) (hc : P.cellsOf t = 1) (h : Opn P u s e ok) (hs : 0 < s) (hb : 1 ≤ k ∧ k ≤ P.bytesOf u) :
   Opn P t 1 (fun l : List X => [roL s e l]) (fun l => l.length * k ≤ 140737488351232 ∧ ∀ x ∈ l, ok x) :=
 ⟨fun _ => rfl, hc, fun H enc W m cs r hr hz => by
   rcases DataW.trod_slice ht hr with ⟨rfl, _⟩ | ⟨a, len, cap, elems, rest, n, rfl, rfl, rfl, -, hlc, hcm, hel, hi, -, -⟩
   · refine ⟨[], RelL.cons (.ro _ _ _ _ _ _ (fun _ => rfl) ⟨Nat.le_refl _, Nat.zero_le _⟩ (fun i hi => by cases hi) (fun i j hi => by cases hi) (fun k v hk => by simp at hk) (fun i j c v hi => by cases hi)) (RelL.nil _ _), ⟨by simp, by simp⟩, fun v hv => ?_⟩
     simp at hv; subst hv; rfl
   · have hz : ∀ q ∈ DataW.weights P t (.slice (elems.map (·.1)) (rest.map (·.1)) : DataW H), q ≤ reachBytes := hz
     have ew : DataW.weights P t (.slice (elems.map (·.1)) (rest.map (·.1)) : DataW H) = ((elems.map (·.1)).length + (rest.map (·.1)).length) * P.bytesOf u :: (DataW.weightsAll P u (elems.map (·.1)) ++ DataW.weightsAll P u (rest.map (·.1))) := by simp only [DataW.weights, ht]
     rw [ew] at hz
     obtain ⟨l, hl, hp⟩ := choose_list (X := X) (p := fun i x => ∃ ys : List Value, W.cells? 0 (a.add (i * s)) s = some ys ∧ RelL (fun b => W.heap[b]?) ρ0 (e x) ys ∧ ok x ∧ ∀ v ∈ ys, v.oneCell' = true) len (fun i hi' => by
       have := hi i hi'
       rw [h.cells, List.getElem?_eq_getElem (by omega)] at this
       obtain ⟨ys, h1, h2⟩ := Option.bind_eq_some_iff.1 this
       obtain ⟨x, k1, k2, k3⟩ := h.read H enc W n ys _ h2 (fun q hq => hz q (List.mem_cons_of_mem _ (List.mem_append_left _ (wt_all (List.mem_map.2 ⟨_, List.getElem_mem _, rfl⟩) q hq))))
       exact ⟨x, ys, h1, k1, k2, k3⟩)
     have hbig0 : len * k ≤ 140737488351232 := by
       have h1 := hz _ List.mem_cons_self
       rw [List.length_map, List.length_map] at h1
       have h2 : reachBytes = 140737488351232 := rfl
       have h3 : len * k ≤ (elems.length + rest.length) * P.bytesOf u := Nat.mul_le_mul (by omega) hb.2
       omega
     have hbig : len ≤ 140737488351232 := Nat.le_trans (Nat.le_mul_of_pos_right _ hb.1) hbig0
     subst hl
     have cell : ∀ i j, i < l.length → j < s → ∃ ys : List Value, ys.length = s ∧ RelL (fun b => W.heap[b]?) ρ0 (e (l.getD i default)) ys ∧ (∀ v ∈ ys, v.oneCell' = true) ∧ hcell (fun b => W.heap[b]?) (some a) (i * s + j) = ys[j]? := by
       intro i j hi' hj
       obtain ⟨ys, h1, h2, _, h4⟩ := hp i hi'
       obtain ⟨k1, k2⟩ := cells?_get h1
       refine ⟨ys, k1, h2, h4, ?_⟩
       rw [← k2 j hj, Addr.add_add]
       rfl
     refine ⟨l, RelL.cons (.ro _ _ _ _ _ _ (fun h => by cases h) ⟨hlc, by omega⟩ (fun i _ => h.len _) (fun i j hi' hj => ?_) (fun k v hk hv => ?_) (fun i j c v hi' hcj hv => ?_)) (RelL.nil _ _), ⟨hbig0, fun x hx => ?_⟩, fun v hv => ?_⟩
     · obtain ⟨ys, k1, _, _, k4⟩ := cell i j hi' hj
       rw [k4, List.getElem?_eq_getElem (by omega)]; rfl
     · obtain ⟨ys, k1, _, k3, k4⟩ := cell (k / s) (k % s) (by rw [Nat.div_lt_iff_lt_mul hs]; exact hk) (Nat.mod_lt _ hs)
       rw [Nat.mul_comm, Nat.div_add_mod] at k4
       rw [k4] at hv
       exact k3 v (List.mem_of_getElem? hv)
     · have hj : j < s := by
         have := (List.getElem?_eq_some_iff.1 hcj).1
         rwa [h.len] at this
       obtain ⟨ys, k1, k2, _, k4⟩ := cell i j hi' hj
       rw [k4] at hv
       exact k2.2 j c v hcj hv
     · obtain ⟨i, hi1, rfl⟩ := List.getElem_of_mem hx
       obtain ⟨_, _, _, h3, _⟩ := hp i (by omega)
       rw [List.getD_eq_getElem?_getD, List.getElem?_eq_getElem hi1] at h3
       exact h3
     · simp at hv; subst hv; rfl⟩
def OpnT (P : Program) (t : TypeId) {X : Type} (e : X → AV) (ok : X → Prop) : Prop :=
 ∀ (H : Type) (enc : TypeId × Value → H) (W : World) (base : Nat) (v : Value) (d : DataW H) (ps : List MemPlace), Value.okWide P W .any base t v → DataW.Trod enc P W 0 (fun _ => true) true t v d ps → Wt P t d →
   ∃ x, Rel (fun b => W.heap[b]?) ρ0 (e x) v ∧ ok x
theorem OpnT.struct {P : Program} {t : TypeId} {fs : Array Field} {sz : Nat} {X : Type} {e : X → List AV} {ok : X → Prop} (ht : P.underlying t = some (.struct fs)) (h : Opn P t sz e ok) : OpnT P t (fun x => .agg (e x)) ok := by
 intro H enc W base v d ps hv hd hz
 obtain ⟨cs, rfl, _⟩ := okWide_struct ht hv
 obtain ⟨n, hn⟩ := hd
 obtain ⟨x, h1, h2, _⟩ := h.read H enc W n _ _ hn hz
 refine ⟨x, ?_, h2⟩
 have : (Value.agg cs) = .agg (Value.agg cs).cells.toList.toArray := by simp [Value.cells]
 rw [this]
 exact .agg _ _ _ h1.1 h1.2
theorem OpnT.array {P : Program} {t u : TypeId} {n sz : Nat} {X : Type} {e : X → List AV} {ok : X → Prop} (ht : P.underlying t = some (.array n u)) (h : Opn P t sz e ok) : OpnT P t (fun x => .agg (e x)) ok := by
 intro H enc W base v d ps hv hd hz
 obtain ⟨cs, rfl⟩ : ∃ cs, v = .agg cs := by
   simp only [Value.okWide, ht] at hv
   obtain ⟨cs, h1, _⟩ := hv
   exact ⟨cs, h1⟩
 obtain ⟨n, hn⟩ := hd
 obtain ⟨x, h1, h2, _⟩ := h.read H enc W n _ _ hn hz
 refine ⟨x, ?_, h2⟩
 have : (Value.agg cs) = .agg (Value.agg cs).cells.toList.toArray := by simp [Value.cells]
 rw [this]
 exact .agg _ _ _ h1.1 h1.2
theorem OpnT.int {P : Program} {t : TypeId} (ht : P.underlying t = some (.int .i64)) : OpnT P t (fun x : Int => .int .i64 x) inI := by
 intro H enc W base v d ps hv hd hz
 obtain ⟨n, rfl⟩ := okWide_int ht hv
 obtain ⟨m, hn⟩ := hd
 obtain ⟨x, h1, _, hw⟩ := DataW.trod_int ht hn
 simp only [Value.cells, List.cons.injEq, Value.int.injEq, and_true, true_and] at h1
 subst h1
 exact ⟨n, .int _ _ _, bounds_i64 hw⟩
theorem OpnT.bool {P : Program} {t : TypeId} (ht : P.underlying t = some .bool) : OpnT P t (fun x : Bool => .bool x) (fun _ => True) := by
 intro H enc W base v d ps hv hd hz
 obtain ⟨n, rfl⟩ := okWide_bool ht hv
 exact ⟨n, .bool _ _, trivial⟩
theorem OpnT.slice {P : Program} {t u : TypeId} {s : Nat} {X : Type} [Inhabited X] {e : X → List AV} {ok : X → Prop} {k : Nat} (ht : P.underlying t = some (.slice u)) (hc : P.cellsOf t = 1) (h : Opn P u s e ok) (hs : 0 < s) (hb : 1 ≤ k ∧ k ≤ P.bytesOf u) :
   OpnT P t (fun l : List X => roL s e l) (fun l => l.length * k ≤ 140737488351232 ∧ ∀ x ∈ l, ok x) := by
 intro H enc W base v d ps hv hd hz
 obtain ⟨a, len, cap, rfl⟩ := okWide_slice ht hv
 obtain ⟨n, hn⟩ := hd
 obtain ⟨x, h1, h2, _⟩ := (Opn.slice ht hc h hs hb).read H enc W n _ _ hn hz
 exact ⟨x, h1.2 0 _ _ (by simp) (by simp [Value.cells]), h2⟩
def OpnA (P : Program) (ts : List TypeId) {X : Type} (e : X → List AV) (ok : X → Prop) : Prop :=
 ∀ (H : Type) (enc : TypeId × Value → H) (W : World) (base : Nat) (vs : List Value) (ds : List (DataW H)) (ps : List MemPlace), (∀ (j : Nat) t v, ts[j]? = some t → vs[j]? = some v → Value.okWide P W .any base t v) →
   DataW.TrodAll enc P W 0 (fun _ => true) true ts vs ds ps → (∀ q ∈ DataW.weightsEach P ts ds, q ≤ reachBytes) → ds.length = ts.length ∧ ∃ x, RelL (fun b => W.heap[b]?) ρ0 (e x) vs ∧ ok x
theorem OpnA.nil {P : Program} : OpnA P [] (fun _ : Unit => []) (fun _ => True) := by
 intro H enc W base vs ds ps _ h _
 obtain ⟨rfl, rfl, _⟩ := trodAll_nil h
 exact ⟨rfl, (), RelL.nil _ _, trivial⟩
theorem OpnA.cons {P : Program} {t : TypeId} {ts : List TypeId} {X Y : Type} {e : X → AV} {ok : X → Prop} {e' : Y → List AV} {ok' : Y → Prop} (h : OpnT P t e ok) (h' : OpnA P ts e' ok') :
   OpnA P (t :: ts) (fun x : X × Y => e x.1 :: e' x.2) (fun x => ok x.1 ∧ ok' x.2) := by
 intro H enc W base vs ds ps hv hA hz
 obtain ⟨v, vs', d, ds', p, q, rfl, rfl, rfl, h1, h2⟩ := trodAll_cons hA
 obtain ⟨x, k1, k2⟩ := h H enc W base v d p (hv 0 t v (by simp) (by simp)) h1 (fun q hq => hz q (by simp only [DataW.weightsEach, List.mem_append]; exact .inl hq))
 obtain ⟨hl, y, k3, k4⟩ := h' H enc W base vs' ds' q (fun j t' v' a b => hv (j + 1) t' v' (by simpa using a) (by simpa using b)) h2 (fun q hq => hz q (by simp only [DataW.weightsEach, List.mem_append]; exact .inr hq))
 exact ⟨by simp [hl], (x, y), RelL.cons k1 k3, k2, k4⟩
theorem post_fresh {H : Type} {enc : TypeId × Value → H} {P : Program} {f : Func} {s : ChangeSpec} {apart fresh handsOn again : Bool} {W W' : World} {args : Array Value} {v : Value} {ds gs : List (DataW H)} {before pa pv : List MemPlace}
   (hW : DataW.Whole enc P f.params.toList s.vars apart W args.toList ds gs before)
   (hres : ∀ (b : Nat) (sp : Nat → Bool) (hd : Bool), DataW.TrodAll enc P W' b sp hd f.resultTypes.toList (v.resultList f.resultTypes.size) (s.fn H (ds ++ gs)).results [])
   (hargs : ∀ sp : Nat → Bool, (∀ p ∈ before, sp p.block = true) → DataW.TrodAll enc P W' 0 sp true f.params.toList args.toList (s.fn H (ds ++ gs)).args pa)
   (hvars : ∀ sp : Nat → Bool, (∀ p ∈ before, sp p.block = true) → DataW.TrodVars enc P W' sp s.vars (s.fn H (ds ++ gs)).vars pv)
   (hps : before = pa ++ pv) (hb : Below W.heap.size W W')
   (hok : ∀ (j : Nat) (t : TypeId) (r : Value), f.resultTypes[j]? = some t → (v.resultList f.resultTypes.size)[j]? = some r → Value.okWide P W' .any 0 t r) :
   s.post enc P f apart fresh handsOn again W args v W' := by
 have hlt : ∀ p ∈ before, p.block < W.heap.size := fun p hp => hW.lt p hp
 have hold : ∀ p ∈ before, (fun b => decide (b < W.heap.size)) p.block = true := fun p hp => by simpa using hlt p hp
 refine ⟨ds, gs, before, [], pa, pv, hW, hres _ _ _, hargs _ hold, hvars _ hold, World.keptBut_mono (fun p hp => ⟨hp, ?_⟩) (hb.frame (· ∈ before)), fun _ => ?_⟩
 · rw [hps, List.mem_append] at hp
   exact Or.inr hp
 · obtain ⟨_, _, _, _, _, hz, hn⟩ := hW
   refine ⟨hok, _, _, ([] ++ pa) ++ pv, ⟨[] ++ pa, pv, trodAll_append (hargs _ (fun _ _ => rfl)) (hres _ _ _), hvars _ (fun _ _ => rfl), rfl, ?_, ?_⟩, ?_⟩
   · intro b off hp
     have hin : MemPlace.cell b off ∈ before := by rw [hps]; simpa using hp
     rw [hb.frozen (hlt _ hin)]
     exact hz b off hin
   · intro ha
     have := hn ha
     rw [hps] at this
     simpa using this
   · intro p hp _
     rw [hps]
     simpa using hp
theorem TrodAll_carry {H : Type} {enc : TypeId × Value → H} {P : Program} {w w' : World} {base : Nat} {spare : Nat → Bool} {held : Bool} : ∀ {ts : List TypeId} {vs : List Value} {ds : List (DataW H)} {ps : List MemPlace},
   DataW.TrodAll enc P w base spare held ts vs ds ps → (∀ p ∈ ps, w.sameAt w' p) → DataW.TrodAll enc P w' base spare held ts vs ds ps
 | [], [], [], _, h, _ => h
 | _ :: _, _ :: _, _ :: _, _, ⟨p, q, ⟨n, h1⟩, h2, e⟩, hs => ⟨p, q, ⟨n, DataW.trod_carry n _ _ _ h1 (fun x hx => hs x (by rw [e]; exact List.mem_append_left _ hx))⟩,
     TrodAll_carry h2 (fun x hx => hs x (by rw [e]; exact List.mem_append_right _ hx)), e⟩
theorem law_calls {P : Program} {f : FuncId} {fn : Func} {s : ChangeSpec} {apart fresh handsOn again : Bool} {X : Type} {e : X → List AV} {ok : X → Prop} {tb : TypeId}
   (hkids : Kids P (· < P.types.size)) (hfull : ∀ t e, t < P.types.size → P.underlying t = some (.slice e) → 0 < P.cellsOf e) (hp : fn.params.toList.all (· < P.types.size) = true)
   (hA : OpnA P fn.params.toList e ok) (hs : s.vars = []) (hfn : ∀ (H : Type) (ds : List (DataW H)), ds.length = fn.params.toList.length → s.fn H ds = ⟨[.lit (.bool true)], ds, []⟩)
   (hr : fn.resultTypes = #[tb]) (htb : P.underlying tb = some .bool) (hC : ∀ x, ok x → Ctr P f (e x) (.bool true))
   (H : Type) (enc : TypeId × Value → H) (W : World) (base : Nat) (args : Array Value) (ds gs : List (DataW H)) (before : List MemPlace)
   (hval : ∀ (j : Nat) t v, fn.params[j]? = some t → args[j]? = some v → Value.okWide P W .any base t v) (hW : DataW.Whole enc P fn.params.toList s.vars apart W args.toList ds gs before)
   (hbig : (DataW.weightsEach P (fn.params.toList ++ s.plain.varTypes P) (ds ++ gs)).all (· ≤ reachBytes) = true) :
   Calls P f args W fun e W' => ∃ v, e = .returned v ∧ s.post enc P fn apart fresh handsOn again W args v W' := by
 obtain ⟨p, q, hT, hV, hps, hz, hn⟩ := id hW
 have hV' := hV
 rw [hs] at hV'
 obtain ⟨rfl, rfl⟩ := trodVars_none hV'
 obtain ⟨hl, x, hx, hok⟩ := hA H enc W base args.toList ds p (fun j t v a b => hval j t v (by simpa using a) (by simpa using b)) hT (fun q hq => by have := List.all_eq_true.1 hbig q (wt_left q hq); simpa using this)
 have hc := ((hC x hok).2 (fun b => W.heap[b]?) W args.toList hx (fun b o h => h)).calls (fun k d hd => by cases hd)
 rw [Array.toArray_toList] at hc
 refine hc.mono fun en W' hpost => ?_
 cases en with
 | panicked c => exact hpost.elim
 | outgrown => exact hpost.elim
 | returned v =>
   obtain ⟨h', ρ', hb, _, _, hv, _⟩ := hpost
   cases hv
   refine ⟨_, rfl, post_fresh (pa := p) (pv := []) hW (fun b sp hd => ?_) (fun sp hsp => ?_) (fun sp hsp => ?_) hps hb (fun j t r h1 h2 => ?_)⟩
   · rw [List.append_nil, hfn H ds hl, hr]
     exact ⟨[], [], shut_bool htb true, rfl, rfl⟩
   · rw [List.append_nil, hfn H ds hl]
     have hlt : ∀ y ∈ p, y.block < W.heap.size := fun y hy => hW.lt y (by rw [hps]; exact List.mem_append_left _ hy)
     exact TrodAll_carry (DataW.TrodAll.respare hkids hfull (fun t ht => by simpa using List.all_eq_true.1 hp t ht) hT (fun y hy => hsp y (by rw [hps]; exact List.mem_append_left _ hy))) (fun y hy => hb.same (hlt y hy))
   · rw [List.append_nil, hfn H ds hl, hs]
     rfl
   · rw [hr] at h1 h2
     have hj : j = 0 := by
       have := (Array.getElem?_eq_some_iff.1 h1).1
       simpa using this
     subst hj
     simp [Value.resultList] at h1 h2
     subst h1 h2
     simp [Value.okWide, htb, Cell.okWide, Cell.ok]
end Go.Av
end
/- Printed by gen.py. -/
section
set_option linter.all false
set_option linter.unusedVariables false
namespace Go.Sp
open Go.Av
structure gasoliertop_Heaven where
 Rows : (List (Arr3 Int))
 Off : (Arr2 Int)
 Roofs : (List (Arr3 Int))
 Looks : (List Int)
 Light : (Arr3 Int)
 Moon : Int
 deriving Inhabited, DecidableEq
structure Frac where
 Num : Int
 Den : Int
 deriving Inhabited, DecidableEq
structure Range where
 Lo : Int
 Hi : Int
 deriving Inhabited, DecidableEq
structure Row where
 Minute : Int
 Height : Frac
 Bearing : Frac
 deriving Inhabited, DecidableEq
structure Sheet where
 Source : Int
 Night : Int
 Known : Int
 Until : Int
 Rows : (List Row)
 Off : Frac
 Light : Range
 deriving Inhabited, DecidableEq
structure Roof where
 From : Int
 To : Int
 Top : Int
 deriving Inhabited, DecidableEq
structure Sighting where
 Source : Int
 Night : Int
 Minute : Int
 Above : Bool
 Known : Int
 Until : Int
 deriving Inhabited, DecidableEq
structure Sky where
 Sheets : (List Sheet)
 Roofs : (List Roof)
 Sightings : (List Sighting)
 deriving Inhabited, DecidableEq
structure Night where
 No : Int
 Set : Range
 Rise : Range
 Light : Range
 Fog : Int
 deriving Inhabited, DecidableEq
structure Version where
 Source : Int
 Class : Int
 From : Int
 On : Range
 Off : Range
 Moon : Int
 Fog : Int
 Known : Int
 Until : Int
 deriving Inhabited, DecidableEq
structure Street where
 Id : Int
 Class : Int
 District : Int
 First : Int
 Many : Int
 deriving Inhabited, DecidableEq
structure Bylaw where
 Versions : (List Version)
 Streets : (List Street)
 deriving Inhabited, DecidableEq
structure Truth where
 Set : Int
 Rise : Int
 Light : Int
 Fog : Bool
 deriving Inhabited, DecidableEq
structure Times where
 On : Int
 Off : Int
 deriving Inhabited, DecidableEq
structure Duty where
 Lit : Int
 On : Range
 Off : Range
 deriving Inhabited, DecidableEq
structure Slip where
 Lo : Frac
 Open : Bool
 Hi : Frac
 deriving Inhabited, DecidableEq
structure moon_known where
 Sheet : Sheet
 roofs : (List Roof)
 sightings : (List Sighting)
 slip : Slip
 deriving Inhabited, DecidableEq
structure bylaw_window where
 v : Version
 n : Night
 deriving Inhabited, DecidableEq
def moon_within (p0 : Int) (p1 : Int) (p2 : Int) : Bool :=
 ((decide (p1 ≤ p0)) && (decide (p0 ≤ p2)))
def moon_CheckRoof (p0 : Roof) : Int :=
 (bif ((((decide (p0.From < 0)) || (decide (p0.To ≤ p0.From))) || (decide (360 < p0.To))) || (!(moon_within p0.Top 0 90))) then 22 else 0)
def moon_areRoofs (p0 : (List Roof)) : Option Bool :=
 (rangeGo (fun i1 (s1 : Unit) k1 => (bif (!decide ((moon_CheckRoof (p0.getD i1 default)) = 0)) then some false else k1 ())) (fun (s1 : Unit) => some (decide (((p0.length : Nat) : Int) ≤ 12))) p0.length 0 ())
def moon_isNight (p0 : Int) : Bool :=
 (moon_within p0 0 100000)
def moon_lasts (p0 : Int) (p1 : Int) : Bool :=
 ((moon_isNight p0) && ((decide (p1 = 0)) || ((decide (p0 < p1)) && (moon_isNight p1))))
def moon_isFrac (p0 : Frac) (p1 : Int) : Option Bool :=
 must (((moon_within p0.Den 1 p1) = true → (inI ((-360) * p0.Den)))) <| must (((moon_within p0.Den 1 p1) = true → (inI (360 * p0.Den)))) <| some ((moon_within p0.Den 1 p1) && (moon_within p0.Num ((-360) * p0.Den) (360 * p0.Den)))
def moon_isRow (p0 : Row) : Option Bool :=
 bindO (moon_isFrac p0.Height 100) fun y1 => must ((y1 = true → (inI ((-90) * p0.Height.Den)))) <| must ((y1 = true → (inI (90 * p0.Height.Den)))) <| bindO ((bif (y1 && (moon_within p0.Height.Num ((-90) * p0.Height.Den) (90 * p0.Height.Den))) then moon_isFrac p0.Bearing 100 else some default)) fun y5 => must (((((y1 && (moon_within p0.Height.Num ((-90) * p0.Height.Den) (90 * p0.Height.Den))) && y5) && (decide (0 ≤ p0.Bearing.Num))) = true → (inI (360 * p0.Bearing.Den)))) <| some ((((y1 && (moon_within p0.Height.Num ((-90) * p0.Height.Den) (90 * p0.Height.Den))) && y5) && (decide (0 ≤ p0.Bearing.Num))) && (decide (p0.Bearing.Num < (360 * p0.Bearing.Den))))
def moon_gcd (fuel : Nat) (p0 : Int) (p1 : Int) : Option Int :=
 (loopGo (fun (s1 : Int × Int) k1 => (bif (!decide (s1.2 = 0)) then must ((s1.2 : Int) ≠ 0) <| k1 (s1.2, (Int.tmod s1.1 s1.2)) else must (inI (0 - s1.1)) <| some (max s1.1 (0 - s1.1)))) fuel (p0, p1))
def moon_least (fuel : Nat) (p0 : Int) (p1 : Int) : Option Frac :=
 bindO (moon_gcd fuel p0 p1) fun y1 => must ((y1 : Int) ≠ 0 ∧ inI (Int.tdiv p0 y1)) <| must ((y1 : Int) ≠ 0 ∧ inI (Int.tdiv p1 y1)) <| some (⟨(Int.tdiv p0 y1), (Int.tdiv p1 y1)⟩ : Frac)
def moon_reduced (fuel : Nat) (p0 : Frac) : Option Frac :=
 bindO (moon_least fuel p0.Num p0.Den) fun y1 => some y1
def cmp_isNaN_int (p0 : Int) : Bool :=
 (!decide (p0 = p0))
def cmp_Compare_int (p0 : Int) (p1 : Int) : Int :=
 (bif (cmp_isNaN_int p0) then (bif (cmp_isNaN_int p1) then 0 else (-1)) else (bif (cmp_isNaN_int p1) then 1 else (bif (decide (p0 < p1)) then (-1) else (bif (decide (p1 < p0)) then 1 else 0))))
def moon_compare (fuel : Nat) (p0 : Frac) (p1 : Frac) : Option Int :=
 bindO (moon_reduced fuel p0) fun y1 => bindO (moon_reduced fuel p1) fun y3 => (bif ((decide (y1.Num = y3.Num)) && (decide (y1.Den = y3.Den))) then some 0 else must (inI (p0.Num * p1.Den)) <| must (inI (p1.Num * p0.Den)) <| some (cmp_Compare_int (p0.Num * p1.Den) (p1.Num * p0.Den)))
def moon_CheckSheet (fuel : Nat) (p0 : Sheet) : Option Int :=
 bindO ((bif (!((((!(moon_within p0.Source 1 99999)) || (!(moon_isNight p0.Night))) || (!(moon_lasts p0.Known p0.Until))) || (!(moon_within ((p0.Rows.length : Nat) : Int) 2 12)))) then moon_isFrac p0.Off 100 else some default)) fun y1 => must (((!(((((!(moon_within p0.Source 1 99999)) || (!(moon_isNight p0.Night))) || (!(moon_lasts p0.Known p0.Until))) || (!(moon_within ((p0.Rows.length : Nat) : Int) 2 12))) || (!y1))) = true → (inI (90 * p0.Off.Den)))) <| (bif (((((((((!(moon_within p0.Source 1 99999)) || (!(moon_isNight p0.Night))) || (!(moon_lasts p0.Known p0.Until))) || (!(moon_within ((p0.Rows.length : Nat) : Int) 2 12))) || (!y1)) || (!(moon_within p0.Off.Num 0 (90 * p0.Off.Den)))) || (decide (p0.Light.Lo < 0))) || (decide (p0.Light.Hi < p0.Light.Lo))) || (decide (1000 < p0.Light.Hi))) then some 21 else (rangeGo (fun i5 (s5 : Unit) k5 => bindO (moon_isRow (p0.Rows.getD i5 default)) fun y7 => must ((((!(!y7)) && (decide (0 < (i5 : Int)))) = true → (inI ((i5 : Int) - 1)))) <| must ((((!(!y7)) && (decide (0 < (i5 : Int)))) = true → (0 ≤ (((i5 : Int) - 1) : Int) ∧ (((i5 : Int) - 1) : Int) < ((p0.Rows.length : Nat) : Int)))) <| must (((((!(!y7)) && (decide (0 < (i5 : Int)))) && !(decide ((p0.Rows.getD i5 default).Minute ≤ (p0.Rows.getD (((i5 : Int) - 1)).toNat default).Minute))) = true → (inI ((i5 : Int) - 1)))) <| must (((((!(!y7)) && (decide (0 < (i5 : Int)))) && !(decide ((p0.Rows.getD i5 default).Minute ≤ (p0.Rows.getD (((i5 : Int) - 1)).toNat default).Minute))) = true → (0 ≤ (((i5 : Int) - 1) : Int) ∧ (((i5 : Int) - 1) : Int) < ((p0.Rows.length : Nat) : Int)))) <| bindO ((bif (((!(!y7)) && (decide (0 < (i5 : Int)))) && !(decide ((p0.Rows.getD i5 default).Minute ≤ (p0.Rows.getD (((i5 : Int) - 1)).toNat default).Minute))) then moon_compare fuel ((p0.Rows.getD (((i5 : Int) - 1)).toNat default).Bearing) ((p0.Rows.getD i5 default).Bearing) else some default)) fun y13 => (bif ((!y7) || ((decide (0 < (i5 : Int))) && ((decide ((p0.Rows.getD i5 default).Minute ≤ (p0.Rows.getD (((i5 : Int) - 1)).toNat default).Minute)) || (decide (0 < y13))))) then some 21 else k5 ())) (fun (s5 : Unit) => must (0 ≤ (0 : Int) ∧ (0 : Int) < ((p0.Rows.length : Nat) : Int)) <| must (((!(!decide ((p0.Rows.getD 0 default).Minute = 0))) = true → (inI (((p0.Rows.length : Nat) : Int) - 1)))) <| must (((!(!decide ((p0.Rows.getD 0 default).Minute = 0))) = true → (0 ≤ ((((p0.Rows.length : Nat) : Int) - 1) : Int) ∧ ((((p0.Rows.length : Nat) : Int) - 1) : Int) < ((p0.Rows.length : Nat) : Int)))) <| (bif ((!decide ((p0.Rows.getD 0 default).Minute = 0)) || (!decide ((p0.Rows.getD ((((p0.Rows.length : Nat) : Int) - 1)).toNat default).Minute = 1439))) then some 21 else some 0)) p0.Rows.length 0 ()))
def moon_isMinute (p0 : Int) : Bool :=
 (moon_within p0 0 1439)
def moon_CheckSighting (p0 : Sighting) : Int :=
 (bif ((((!(moon_within p0.Source 1 99999)) || (!(moon_isNight p0.Night))) || (!(moon_isMinute p0.Minute))) || (!(moon_lasts p0.Known p0.Until))) then 23 else 0)
def moon_Check (fuel : Nat) (p0 : Sky) : Option Int :=
 bindO ((bif (!((decide (60 < ((p0.Sheets.length : Nat) : Int))) || (decide (60 < ((p0.Sightings.length : Nat) : Int))))) then moon_areRoofs p0.Roofs else some default)) fun y1 => (bif (((decide (60 < ((p0.Sheets.length : Nat) : Int))) || (decide (60 < ((p0.Sightings.length : Nat) : Int)))) || (!y1)) then some 24 else (rangeGo (fun i4 (s4 : Unit) k4 => bindO (moon_CheckSheet fuel (p0.Sheets.getD i4 default)) fun y6 => must ((((!(!decide (y6 = 0))) && (decide (0 < (i4 : Int)))) = true → (inI ((i4 : Int) - 1)))) <| must ((((!(!decide (y6 = 0))) && (decide (0 < (i4 : Int)))) = true → (0 ≤ (((i4 : Int) - 1) : Int) ∧ (((i4 : Int) - 1) : Int) < ((p0.Sheets.length : Nat) : Int)))) <| (bif ((!decide (y6 = 0)) || ((decide (0 < (i4 : Int))) && (decide ((p0.Sheets.getD i4 default).Source ≤ (p0.Sheets.getD (((i4 : Int) - 1)).toNat default).Source)))) then some 24 else k4 ())) (fun (s4 : Unit) => (rangeGo (fun i11 (s11 : Unit) k11 => must ((((!(!decide ((moon_CheckSighting (p0.Sightings.getD i11 default)) = 0))) && (decide (0 < (i11 : Int)))) = true → (inI ((i11 : Int) - 1)))) <| must ((((!(!decide ((moon_CheckSighting (p0.Sightings.getD i11 default)) = 0))) && (decide (0 < (i11 : Int)))) = true → (0 ≤ (((i11 : Int) - 1) : Int) ∧ (((i11 : Int) - 1) : Int) < ((p0.Sightings.length : Nat) : Int)))) <| (bif ((!decide ((moon_CheckSighting (p0.Sightings.getD i11 default)) = 0)) || ((decide (0 < (i11 : Int))) && (decide ((p0.Sightings.getD i11 default).Source ≤ (p0.Sightings.getD (((i11 : Int) - 1)).toNat default).Source)))) then some 24 else k11 ())) (fun (s11 : Unit) => some 0) p0.Sightings.length 0 ())) p0.Sheets.length 0 ()))
def moon_counts (p0 : Int) (p1 : Int) (p2 : Int) : Bool :=
 ((decide (p0 ≤ p2)) && ((decide (p1 = 0)) || (decide (p2 < p1))))
def moon_inForce (p0 : Sky) (p1 : Int) (p2 : Int) : Option (Sheet × Bool) :=
 (rangeGo (fun i1 (s1 : Bool × Sheet) k1 => (bif (((decide ((p0.Sheets.getD i1 default).Night = p1)) && (moon_counts ((p0.Sheets.getD i1 default).Known) ((p0.Sheets.getD i1 default).Until) p2)) && ((!s1.1) || (decide (s1.2.Known ≤ (p0.Sheets.getD i1 default).Known)))) then k1 (true, (p0.Sheets.getD i1 default)) else k1 (s1.1, s1.2))) (fun (s1 : Bool × Sheet) => some (s1.2, s1.1)) p0.Sheets.length 0 (false, (⟨0, 0, 0, 0, [], (⟨0, 0⟩ : Frac), (⟨0, 0⟩ : Range)⟩ : Sheet)))
def slices_Clone_Sighting (p0 : (List Sighting)) : Option (List Sighting) :=
 must (room (([] : List Sighting) ++ p0).length 48) <| some (([] : List Sighting) ++ p0)
def slices_IndexFunc_Sighting (p0 : (List Sighting)) (p1 : Sighting → Option Bool) : Option Int :=
 (rangeGo (fun i1 (s1 : Unit) k1 => bindO (p1 (p0.getD i1 default)) fun y3 => (bif y3 then some (i1 : Int) else k1 ())) (fun (s1 : Unit) => some (-1)) p0.length 0 ())
def slices_DeleteFunc_Sighting (fuel : Nat) (p0 : (List Sighting)) (p1 : Sighting → Option Bool) : Option (List Sighting) :=
 bindO (slices_IndexFunc_Sighting p0 p1) fun y1 => (bif (decide (y1 = (-1))) then some p0 else must (inI (y1 + 1)) <| (loopGo (fun (s5 : Int × Int × (List Sighting)) k5 => (bif (decide (s5.2.1 < ((s5.2.2.length : Nat) : Int))) then must (0 ≤ (s5.2.1 : Int) ∧ (s5.2.1 : Int) < ((s5.2.2.length : Nat) : Int)) <| bindO (p1 (s5.2.2.getD (s5.2.1).toNat default)) fun y8 => (bif (!y8) then must (0 ≤ (s5.1 : Int) ∧ (s5.1 : Int) < ((s5.2.2.length : Nat) : Int)) <| must (inI (s5.1 + 1)) <| must (inI (s5.2.1 + 1)) <| k5 ((s5.1 + 1), (s5.2.1 + 1), (s5.2.2.set (s5.1).toNat (s5.2.2.getD (s5.2.1).toNat default))) else must (inI (s5.2.1 + 1)) <| k5 (s5.1, (s5.2.1 + 1), s5.2.2)) else must (0 < s5.2.2.length ∧ 0 ≤ (s5.1 : Int) ∧ (s5.1 : Int) ≤ ((s5.2.2.length : Nat) : Int)) <| must (0 < (copyAt s5.2.2 ((s5.1).toNat) (s5.2.2.length - (s5.1).toNat) (fun _ => (⟨0, 0, 0, false, 0, 0⟩ : Sighting))).length ∧ 0 ≤ (s5.1 : Int) ∧ (s5.1 : Int) ≤ (((copyAt s5.2.2 ((s5.1).toNat) (s5.2.2.length - (s5.1).toNat) (fun _ => (⟨0, 0, 0, false, 0, 0⟩ : Sighting))).length : Nat) : Int)) <| some ((copyAt s5.2.2 ((s5.1).toNat) (s5.2.2.length - (s5.1).toNat) (fun _ => (⟨0, 0, 0, false, 0, 0⟩ : Sighting))).take ((s5.1).toNat)))) fuel (y1, (y1 + 1), p0)))
def moon_sighted_1 (p0 : Sighting) (c0 : Int) (c1 : Int) : Bool :=
 ((!decide (p0.Night = c0)) || (!(moon_counts p0.Known p0.Until c1)))
def moon_sighted (fuel : Nat) (p0 : Sky) (p1 : Int) (p2 : Int) : Option (List Sighting) :=
 bindO (slices_Clone_Sighting p0.Sightings) fun y1 => bindO (slices_DeleteFunc_Sighting fuel y1 (fun x0 => some (moon_sighted_1 x0 p1 p2))) fun y3 => some y3
def moon_minus (p0 : Frac) : Option Frac :=
 must (inI (0 - p0.Num)) <| some (⟨(0 - p0.Num), p0.Den⟩ : Frac)
def moon_between (fuel : Nat) (p0 : Frac) (p1 : Frac) (p2 : Int) (p3 : Int) : Option Frac :=
 must (inI (p0.Den * p1.Den)) <| must (inI ((p0.Den * p1.Den) * p3)) <| must (inI (p0.Num * p1.Den)) <| must (inI ((p0.Num * p1.Den) * p3)) <| must (inI (p1.Num * p0.Den)) <| must (inI (p0.Num * p1.Den)) <| must (inI ((p1.Num * p0.Den) - (p0.Num * p1.Den))) <| must (inI (((p1.Num * p0.Den) - (p0.Num * p1.Den)) * p2)) <| must (inI (((p0.Num * p1.Den) * p3) + (((p1.Num * p0.Den) - (p0.Num * p1.Den)) * p2))) <| bindO (moon_least fuel (((p0.Num * p1.Den) * p3) + (((p1.Num * p0.Den) - (p0.Num * p1.Den)) * p2)) ((p0.Den * p1.Den) * p3)) fun y10 => some y10
def moon_at (fuel : Nat) (p0 : Sheet) (p1 : Int) (p2 : Row → Option Frac) : Option Frac :=
 (loopGo (fun (s1 : Int) k1 => must (inI (s1 + 1)) <| must (0 ≤ ((s1 + 1) : Int) ∧ ((s1 + 1) : Int) < ((p0.Rows.length : Nat) : Int)) <| (bif (decide ((p0.Rows.getD ((s1 + 1)).toNat default).Minute < p1)) then must (inI (s1 + 1)) <| k1 (s1 + 1) else must (0 ≤ (s1 : Int) ∧ (s1 : Int) < ((p0.Rows.length : Nat) : Int)) <| must (inI (s1 + 1)) <| must (0 ≤ ((s1 + 1) : Int) ∧ ((s1 + 1) : Int) < ((p0.Rows.length : Nat) : Int)) <| bindO (p2 (p0.Rows.getD (s1).toNat default)) fun y9 => bindO (p2 (p0.Rows.getD ((s1 + 1)).toNat default)) fun y11 => must (inI (p1 - (p0.Rows.getD (s1).toNat default).Minute)) <| must (inI ((p0.Rows.getD ((s1 + 1)).toNat default).Minute - (p0.Rows.getD (s1).toNat default).Minute)) <| bindO (moon_between fuel y9 y11 (p1 - (p0.Rows.getD (s1).toNat default).Minute) ((p0.Rows.getD ((s1 + 1)).toNat default).Minute - (p0.Rows.getD (s1).toNat default).Minute)) fun y15 => some y15)) fuel 0)
def moon_heightOf (p0 : Row) : Frac :=
 p0.Height
def moon_bearingOf (p0 : Row) : Frac :=
 p0.Bearing
def moon_whole (p0 : Int) : Frac :=
 (⟨p0, 1⟩ : Frac)
def moon_horizon (fuel : Nat) (p0 : (List Roof)) (p1 : Frac) : Option Int :=
 (rangeGo (fun i1 (s1 : Int) k1 => bindO (moon_compare fuel (moon_whole ((p0.getD i1 default).From)) p1) fun y3 => bindO ((bif (decide (y3 ≤ 0)) then moon_compare fuel (moon_whole ((p0.getD i1 default).To)) p1 else some default)) fun y5 => (bif ((decide (y3 ≤ 0)) && (decide (0 < y5))) then k1 (max s1 ((p0.getD i1 default).Top)) else k1 s1)) (fun (s1 : Int) => some s1) p0.length 0 0)
def moon_margin (fuel : Nat) (p0 : Sheet) (p1 : (List Roof)) (p2 : Int) : Option Frac :=
 bindO (moon_at fuel p0 p2 (fun x0 => some (moon_heightOf x0))) fun y1 => bindO (moon_at fuel p0 p2 (fun x0 => some (moon_bearingOf x0))) fun y3 => bindO (moon_horizon fuel p1 y3) fun y5 => must (inI (y5 * y1.Den)) <| must (inI (y1.Num - (y5 * y1.Den))) <| bindO (moon_least fuel (y1.Num - (y5 * y1.Den)) y1.Den) fun y9 => some y9
def moon_known__slipOf (fuel : Nat) (p0 : moon_known) (p1 : (List Sighting)) : Option Slip :=
 bindO (moon_minus p0.Sheet.Off) fun y1 => bindO (moon_reduced fuel y1) fun y3 => bindO (moon_reduced fuel p0.Sheet.Off) fun y5 => (rangeGo (fun i7 (s7 : Slip) k7 => bindO (moon_margin fuel p0.Sheet p0.roofs ((p1.getD i7 default).Minute)) fun y9 => bindO (moon_minus y9) fun y11 => bindO (moon_reduced fuel y11) fun y13 => bindO ((bif (p1.getD i7 default).Above then moon_compare fuel y13 s7.Lo else some default)) fun y15 => (bif (((p1.getD i7 default).Above) && (decide (0 ≤ y15))) then k7 (⟨y13, true, s7.Hi⟩ : Slip) else bindO ((bif (!((p1.getD i7 default).Above)) then moon_compare fuel y13 s7.Hi else some default)) fun y18 => (bif ((!((p1.getD i7 default).Above)) && (decide (y18 < 0))) then k7 (⟨s7.Lo, s7.Open, y13⟩ : Slip) else k7 s7))) (fun (s7 : Slip) => some s7) p1.length 0 (⟨y3, false, y5⟩ : Slip))
def moon_look (fuel : Nat) (p0 : Sky) (p1 : Int) (p2 : Int) (p3 : (List Int)) : Option ((Option moon_known) × Int) :=
 bindO (moon_Check fuel p0) fun y1 => (bif (!decide (y1 = 0)) then some ((none : (Option moon_known)), y1) else (bif ((!(moon_isNight p1)) || (!(moon_isNight p2))) then some ((none : (Option moon_known)), 6) else (rangeGo (fun i5 (s5 : Unit) k5 => must ((((!(!(moon_isMinute (p3.getD i5 default)))) && (decide (0 < (i5 : Int)))) = true → (inI ((i5 : Int) - 1)))) <| must ((((!(!(moon_isMinute (p3.getD i5 default)))) && (decide (0 < (i5 : Int)))) = true → (0 ≤ (((i5 : Int) - 1) : Int) ∧ (((i5 : Int) - 1) : Int) < ((p3.length : Nat) : Int)))) <| (bif ((!(moon_isMinute (p3.getD i5 default))) || ((decide (0 < (i5 : Int))) && (decide ((p3.getD i5 default) < (p3.getD (((i5 : Int) - 1)).toNat default))))) then some ((none : (Option moon_known)), 1) else k5 ())) (fun (s5 : Unit) => bindO (moon_inForce p0 p1 p2) fun y10 => (bif (!y10.2) then some ((none : (Option moon_known)), 25) else bindO (moon_sighted fuel p0 p1 p2) fun y13 => bindO (moon_known__slipOf fuel (⟨y10.1, p0.Roofs, y13, (⟨(⟨0, 0⟩ : Frac), false, (⟨0, 0⟩ : Frac)⟩ : Slip)⟩ : moon_known) y13) fun y15 => some ((some (⟨y10.1, p0.Roofs, y13, y15⟩ : moon_known)), 0))) p3.length 0 ())))
def moon_isEmpty (fuel : Nat) (p0 : Slip) : Option Bool :=
 bindO (moon_compare fuel p0.Lo p0.Hi) fun y1 => some ((decide (0 < y1)) || ((decide (y1 = 0)) && p0.Open))
def moon_clearly (fuel : Nat) (p0 : Sky) (p1 : Int) (p2 : Int) (p3 : (List Int)) : Option ((Option moon_known) × Int) :=
 bindO (moon_look fuel p0 p1 p2 p3) fun y1 => (bif (!decide (y1.2 = 0)) then some ((none : (Option moon_known)), y1.2) else must (y1.1.isSome = true) <| bindO (moon_isEmpty fuel ((y1.1.getD default).slip)) fun y5 => (bif y5 then some ((none : (Option moon_known)), 26) else some (y1.1, 0)))
def moon_known__edge (fuel : Nat) (p0 : moon_known) (p1 : Int) : Option Frac :=
 bindO (moon_margin fuel p0.Sheet p0.roofs p1) fun y1 => bindO (moon_minus y1) fun y3 => bindO (moon_reduced fuel y3) fun y5 => some y5
def moon_known__above (fuel : Nat) (p0 : moon_known) (p1 : Int) : Option Int :=
 bindO (moon_known__edge fuel p0 p1) fun y1 => bindO (moon_compare fuel p0.slip.Lo y1) fun y3 => (bif ((decide (0 < y3)) || ((decide (y3 = 0)) && p0.slip.Open)) then some 1 else bindO (moon_compare fuel p0.slip.Hi y1) fun y6 => (bif (decide (y6 ≤ 0)) then some 0 else some 2))
def moon_Above (fuel : Nat) (p0 : Sky) (p1 : Int) (p2 : Int) (p3 : Int) : Option (Int × Int) :=
 bindO (moon_clearly fuel p0 p1 p2 ([p3] : List Int)) fun y1 => (bif (!decide (y1.2 = 0)) then some (0, y1.2) else must (y1.1.isSome = true) <| bindO (moon_known__above fuel (y1.1.getD default) p3) fun y5 => some (y5, 0))
def moon_known__answers_1 (c0 : Int) (c1 : Int) (c2 : Int → Option Int) : Option (List (Int × Int)) :=
 must (inI (c0 - c1)) <| must (inI ((c0 - c1) + 1)) <| must ((((c0 - c1) + 1)).toNat ≤ 9223372036854775807) <| (rangeGo (fun i3 (s3 : Unit) k3 => must (inI (c1 + (i3 : Int))) <| must (inI (c1 + (i3 : Int))) <| bindO (c2 (c1 + (i3 : Int))) fun y7 => emitIf true ((c1 + (i3 : Int)), y7) <| k3 ()) (fun (s3 : Unit) => some []) ((((c0 - c1) + 1)).toNat) 0 ())
def moon_known__light (p0 : moon_known) (p1 : Int) : Range :=
 (bif (decide (p1 = 1)) then p0.Sheet.Light else (bif (decide (p1 = 0)) then (⟨0, 0⟩ : Range) else (⟨0, p0.Sheet.Light.Hi⟩ : Range)))
def moon_Whole (fuel : Nat) (p0 : Sky) (p1 : Int) (p2 : Int) (p3 : Int) (p4 : Int) : Option (Range × Int) :=
 bindO (moon_clearly fuel p0 p1 p2 ([p3, p4] : List Int)) fun y1 => (bif (!decide (y1.2 = 0)) then some ((⟨0, 0⟩ : Range), y1.2) else must (y1.1.isSome = true) <| (joinK (fun (k5 : Int → _) => bindO (moon_known__answers_1 p4 p3 (fun x0 => moon_known__above fuel (y1.1.getD default) x0)) fun it7 => (listGo (fun (x7 : Int × Int) (s8 : Int) k8 => (bif (decide (x7.2 = 0)) then k5 0 else (bif (decide (x7.2 = 2)) then k8 2 else k8 s8))) (fun (s8 : Int) => k5 s8) it7 1)) (fun (s5 : Int) => must (y1.1.isSome = true) <| some ((moon_known__light (y1.1.getD default) s5), 0))))
def bylaw_areAll_Version (p0 : (List Version)) (p1 : Int) (p2 : Version → Option Int) (p3 : Version → Option Int) : Option Bool :=
 (rangeGo (fun i1 (s1 : Unit) k1 => bindO (p2 (p0.getD i1 default)) fun y3 => must ((((!(!decide (y3 = 0))) && (decide (0 < (i1 : Int)))) = true → (inI ((i1 : Int) - 1)))) <| must ((((!(!decide (y3 = 0))) && (decide (0 < (i1 : Int)))) = true → (0 ≤ (((i1 : Int) - 1) : Int) ∧ (((i1 : Int) - 1) : Int) < ((p0.length : Nat) : Int)))) <| bindO ((bif ((!(!decide (y3 = 0))) && (decide (0 < (i1 : Int)))) then p3 (p0.getD (((i1 : Int) - 1)).toNat default) else some default)) fun y7 => bindO ((bif ((!(!decide (y3 = 0))) && (decide (0 < (i1 : Int)))) then p3 (p0.getD i1 default) else some default)) fun y9 => (bif ((!decide (y3 = 0)) || ((decide (0 < (i1 : Int))) && (decide (y9 ≤ y7)))) then some false else k1 ())) (fun (s1 : Unit) => some (decide (((p0.length : Nat) : Int) ≤ p1))) p0.length 0 ())
def bylaw_in (p0 : Int) (p1 : Int) (p2 : Int) : Bool :=
 ((decide (p1 ≤ p0)) && (decide (p0 ≤ p2)))
def bylaw_isNight (p0 : Int) : Bool :=
 (bylaw_in p0 0 100000)
def bylaw_isRange (p0 : Range) (p1 : Int) : Bool :=
 (((decide (0 ≤ p0.Lo)) && (decide (p0.Lo ≤ p0.Hi))) && (decide (p0.Hi ≤ p1)))
def bylaw_CheckVersion (p0 : Version) : Option Int :=
 must ((((!((((((((!(bylaw_in p0.Source 1 99999)) || (!(bylaw_in p0.Class 1 9))) || (!(bylaw_isNight p0.From))) || (!(bylaw_isRange p0.On 600))) || (!(bylaw_isRange p0.Off 600))) || (!(bylaw_in p0.Moon 0 1001))) || (!(bylaw_in p0.Fog 0 600))) || (!(bylaw_isNight p0.Known)))) && (!decide (p0.Until = 0))) = true → (inI (p0.Known + 1)))) <| (bif (((((((((!(bylaw_in p0.Source 1 99999)) || (!(bylaw_in p0.Class 1 9))) || (!(bylaw_isNight p0.From))) || (!(bylaw_isRange p0.On 600))) || (!(bylaw_isRange p0.Off 600))) || (!(bylaw_in p0.Moon 0 1001))) || (!(bylaw_in p0.Fog 0 600))) || (!(bylaw_isNight p0.Known))) || ((!decide (p0.Until = 0)) && (!(bylaw_in p0.Until (p0.Known + 1) 100000)))) then some 10 else some 0)
def bylaw_sourceOf (p0 : Version) : Int :=
 p0.Source
def bylaw_areAll_Street (p0 : (List Street)) (p1 : Int) (p2 : Street → Option Int) (p3 : Street → Option Int) : Option Bool :=
 (rangeGo (fun i1 (s1 : Unit) k1 => bindO (p2 (p0.getD i1 default)) fun y3 => must ((((!(!decide (y3 = 0))) && (decide (0 < (i1 : Int)))) = true → (inI ((i1 : Int) - 1)))) <| must ((((!(!decide (y3 = 0))) && (decide (0 < (i1 : Int)))) = true → (0 ≤ (((i1 : Int) - 1) : Int) ∧ (((i1 : Int) - 1) : Int) < ((p0.length : Nat) : Int)))) <| bindO ((bif ((!(!decide (y3 = 0))) && (decide (0 < (i1 : Int)))) then p3 (p0.getD (((i1 : Int) - 1)).toNat default) else some default)) fun y7 => bindO ((bif ((!(!decide (y3 = 0))) && (decide (0 < (i1 : Int)))) then p3 (p0.getD i1 default) else some default)) fun y9 => (bif ((!decide (y3 = 0)) || ((decide (0 < (i1 : Int))) && (decide (y9 ≤ y7)))) then some false else k1 ())) (fun (s1 : Unit) => some (decide (((p0.length : Nat) : Int) ≤ p1))) p0.length 0 ())
def bylaw_CheckStreet (p0 : Street) : Option Int :=
 must (((!(((((!(bylaw_in p0.Id 1 99)) || (!(bylaw_in p0.Class 1 9))) || (!(bylaw_in p0.District 1 9))) || (!(bylaw_in p0.First 1 999))) || (!(bylaw_in p0.Many 1 200)))) = true → (inI (p0.First + p0.Many)))) <| must (((!(((((!(bylaw_in p0.Id 1 99)) || (!(bylaw_in p0.Class 1 9))) || (!(bylaw_in p0.District 1 9))) || (!(bylaw_in p0.First 1 999))) || (!(bylaw_in p0.Many 1 200)))) = true → (inI ((p0.First + p0.Many) - 1)))) <| (bif ((((((!(bylaw_in p0.Id 1 99)) || (!(bylaw_in p0.Class 1 9))) || (!(bylaw_in p0.District 1 9))) || (!(bylaw_in p0.First 1 999))) || (!(bylaw_in p0.Many 1 200))) || (decide (999 < ((p0.First + p0.Many) - 1)))) then some 11 else some 0)
def bylaw_idOf (p0 : Street) : Int :=
 p0.Id
def bylaw_has (p0 : Street) (p1 : Int) : Option Bool :=
 must (inI (p0.First + p0.Many)) <| must (inI ((p0.First + p0.Many) - 1)) <| some (bylaw_in p1 p0.First ((p0.First + p0.Many) - 1))
def bylaw_Check (p0 : Bylaw) : Option Int :=
 bindO (bylaw_areAll_Version p0.Versions 60 (fun x0 => bylaw_CheckVersion x0) (fun x0 => some (bylaw_sourceOf x0))) fun y1 => bindO ((bif (!(!y1)) then bylaw_areAll_Street p0.Streets 20 (fun x0 => bylaw_CheckStreet x0) (fun x0 => some (bylaw_idOf x0)) else some default)) fun y3 => (bif ((!y1) || (!y3)) then some 13 else (rangeGo (fun i6 (s6 : Unit) k6 => must ((0 : Int) ≤ (i6 : Int) ∧ ((i6 : Int) : Int) ≤ ((p0.Streets.length : Nat) : Int)) <| (rangeGo (fun i9 (s9 : Unit) k9 => bindO (bylaw_has (p0.Streets.getD i6 default) (((p0.Streets.take i6).getD i9 default).First)) fun y11 => bindO ((bif (!y11) then bylaw_has ((p0.Streets.take i6).getD i9 default) ((p0.Streets.getD i6 default).First) else some default)) fun y13 => (bif (y11 || y13) then some 13 else k9 ())) (fun (s9 : Unit) => k6 ()) ((p0.Streets.take i6).length) 0 ())) (fun (s6 : Unit) => some 0) p0.Streets.length 0 ()))
def bylaw_CheckNight (p0 : Night) : Int :=
 (bif ((((((!(bylaw_isNight p0.No)) || (!(bylaw_isRange p0.Set 1439))) || (!(bylaw_isRange p0.Rise 1439))) || (decide (p0.Rise.Lo < p0.Set.Hi))) || (!(bylaw_isRange p0.Light 1000))) || (!(bylaw_in p0.Fog 0 2))) then 12 else 0)
def slices_IndexFunc_Street (p0 : (List Street)) (p1 : Street → Option Bool) : Option Int :=
 (rangeGo (fun i1 (s1 : Unit) k1 => bindO (p1 (p0.getD i1 default)) fun y3 => (bif y3 then some (i1 : Int) else k1 ())) (fun (s1 : Unit) => some (-1)) p0.length 0 ())
def bylaw_streetOf_1 (p0 : Street) (c0 : Int) : Option Bool :=
 bindO (bylaw_has p0 c0) fun y1 => some y1
def bylaw_streetOf (p0 : Bylaw) (p1 : Int) : Option (Street × Int) :=
 bindO (slices_IndexFunc_Street p0.Streets (fun x0 => bylaw_streetOf_1 x0 p1)) fun y1 => (bif (decide (y1 < 0)) then some ((⟨0, 0, 0, 0, 0⟩ : Street), 15) else must (0 ≤ (y1 : Int) ∧ (y1 : Int) < ((p0.Streets.length : Nat) : Int)) <| some ((p0.Streets.getD (y1).toNat default), 0))
def bylaw_inForce (p0 : Bylaw) (p1 : Int) (p2 : Int) (p3 : Int) : Option (Version × Int) :=
 (rangeGo (fun i1 (s1 : Version) k1 => (bif (((((decide ((p0.Versions.getD i1 default).Class = p1)) && (decide ((p0.Versions.getD i1 default).From ≤ p2))) && (decide ((p0.Versions.getD i1 default).Known ≤ p3))) && ((decide ((p0.Versions.getD i1 default).Until = 0)) || (decide (p3 < (p0.Versions.getD i1 default).Until)))) && (decide (s1.From ≤ (p0.Versions.getD i1 default).From))) then k1 (p0.Versions.getD i1 default) else k1 s1)) (fun (s1 : Version) => (bif ((decide (s1.Source = 0)) && ((decide (s1.Class = 0)) && ((decide (s1.From = 0)) && (((decide (s1.On.Lo = 0)) && (decide (s1.On.Hi = 0))) && (((decide (s1.Off.Lo = 0)) && (decide (s1.Off.Hi = 0))) && ((decide (s1.Moon = 0)) && ((decide (s1.Fog = 0)) && ((decide (s1.Known = 0)) && (decide (s1.Until = 0)))))))))) then some (s1, 14) else some (s1, 0))) p0.Versions.length 0 (⟨0, 0, 0, (⟨0, 0⟩ : Range), (⟨0, 0⟩ : Range), 0, 0, 0, 0⟩ : Version))
def bylaw_known (p0 : Bylaw) (p1 : Int) (p2 : Night) (p3 : Int) : Option (bylaw_window × Int) :=
 bindO (bylaw_streetOf p0 p1) fun y1 => (bif (!decide (y1.2 = 0)) then some ((⟨(⟨0, 0, 0, (⟨0, 0⟩ : Range), (⟨0, 0⟩ : Range), 0, 0, 0, 0⟩ : Version), (⟨0, (⟨0, 0⟩ : Range), (⟨0, 0⟩ : Range), (⟨0, 0⟩ : Range), 0⟩ : Night)⟩ : bylaw_window), y1.2) else bindO (bylaw_inForce p0 y1.1.Class p2.No p3) fun y4 => some ((⟨y4.1, p2⟩ : bylaw_window), y4.2))
def bylaw_look (p0 : Bylaw) (p1 : Int) (p2 : Night) (p3 : Int) : Option (bylaw_window × Int) :=
 bindO (bylaw_Check p0) fun y1 => (bif (!decide (y1 = 0)) then some ((⟨(⟨0, 0, 0, (⟨0, 0⟩ : Range), (⟨0, 0⟩ : Range), 0, 0, 0, 0⟩ : Version), (⟨0, (⟨0, 0⟩ : Range), (⟨0, 0⟩ : Range), (⟨0, 0⟩ : Range), 0⟩ : Night)⟩ : bylaw_window), y1) else (bif (!decide ((bylaw_CheckNight p2) = 0)) then some ((⟨(⟨0, 0, 0, (⟨0, 0⟩ : Range), (⟨0, 0⟩ : Range), 0, 0, 0, 0⟩ : Version), (⟨0, (⟨0, 0⟩ : Range), (⟨0, 0⟩ : Range), (⟨0, 0⟩ : Range), 0⟩ : Night)⟩ : bylaw_window), (bylaw_CheckNight p2)) else (bif (!(bylaw_isNight p3)) then some ((⟨(⟨0, 0, 0, (⟨0, 0⟩ : Range), (⟨0, 0⟩ : Range), 0, 0, 0, 0⟩ : Version), (⟨0, (⟨0, 0⟩ : Range), (⟨0, 0⟩ : Range), (⟨0, 0⟩ : Range), 0⟩ : Night)⟩ : bylaw_window), 6) else bindO (bylaw_known p0 p1 p2 p3) fun y6 => some (y6.1, y6.2))))
def bylaw_window__lit (p0 : bylaw_window) : Int :=
 (bif ((decide (p0.n.Fog = 1)) || (decide (p0.n.Light.Hi < p0.v.Moon))) then 1 else (bif ((decide (p0.n.Fog = 0)) && (decide (p0.v.Moon ≤ p0.n.Light.Lo))) then 0 else 2))
def bylaw_Lit (p0 : Bylaw) (p1 : Int) (p2 : Night) (p3 : Int) : Option (Int × Int) :=
 bindO (bylaw_look p0 p1 p2 p3) fun y1 => (bif (!decide (y1.2 = 0)) then some (0, y1.2) else some ((bylaw_window__lit y1.1), 0))
def gasoliertop_gleams (fuel : Nat) : Option Bool :=
 bindO (moon_Above fuel (⟨([(⟨1, 5, 3, 0, ([(⟨0, (⟨(-20), 1⟩ : Frac), (⟨80, 1⟩ : Frac)⟩ : Row), (⟨1439, (⟨40, 1⟩ : Frac), (⟨300, 1⟩ : Frac)⟩ : Row)] : List Row), (⟨2, 1⟩ : Frac), (⟨400, 500⟩ : Range)⟩ : Sheet)] : List Sheet), [], []⟩ : Sky) 5 3 0) fun y1 => bindO (moon_Above fuel (⟨([(⟨1, 5, 3, 0, ([(⟨0, (⟨(-20), 1⟩ : Frac), (⟨80, 1⟩ : Frac)⟩ : Row), (⟨1439, (⟨40, 1⟩ : Frac), (⟨300, 1⟩ : Frac)⟩ : Row)] : List Row), (⟨2, 1⟩ : Frac), (⟨400, 500⟩ : Range)⟩ : Sheet)] : List Sheet), [], []⟩ : Sky) 5 3 1439) fun y3 => bindO (moon_Whole fuel (⟨([(⟨1, 5, 3, 0, ([(⟨0, (⟨(-20), 1⟩ : Frac), (⟨80, 1⟩ : Frac)⟩ : Row), (⟨1439, (⟨40, 1⟩ : Frac), (⟨300, 1⟩ : Frac)⟩ : Row)] : List Row), (⟨2, 1⟩ : Frac), (⟨400, 500⟩ : Range)⟩ : Sheet)] : List Sheet), [], []⟩ : Sky) 5 3 1400 1439) fun y5 => bindO (bylaw_Lit (⟨([(⟨1, 1, 0, (⟨0, 9⟩ : Range), (⟨0, 9⟩ : Range), 300, 0, 0, 0⟩ : Version)] : List Version), ([(⟨1, 1, 1, 1, 1⟩ : Street)] : List Street)⟩ : Bylaw) 1 (⟨5, (⟨0, 0⟩ : Range), (⟨9, 9⟩ : Range), y5.1, 0⟩ : Night) 3) fun y7 => some ((((((((decide (y1.2 = 0)) && (decide (y3.2 = 0))) && (decide (y5.2 = 0))) && (decide (y7.2 = 0))) && (decide (y1.1 = 0))) && (decide (y3.1 = 1))) && ((decide (y5.1.Lo = 400)) && (decide (y5.1.Hi = 500)))) && (decide (y7.1 = 0)))
def gasolierref01_Mod (p0 : Int) (p1 : Int) : Option Int :=
 must ((p1 : Int) ≠ 0) <| must (inI ((Int.tmod p0 p1) + p1)) <| must ((p1 : Int) ≠ 0) <| some (Int.tmod ((Int.tmod p0 p1) + p1) p1)
def gasoliertop_sheetOf (fuel : Nat) (p0 : gasoliertop_Heaven) : Option Sheet :=
 bindO (gasolierref01_Mod p0.Off.x0 60) fun y1 => bindO (gasolierref01_Mod p0.Light.x0 500) fun y3 => bindO (gasolierref01_Mod p0.Light.x1 400) fun y5 => must (inI (y3 + y5)) <| (loopGo (fun (s8 : Int × Int × Int × (List Row)) k8 => (bif (decide (s8.2.2.1 < 6)) then (joinK (fun (k10 : (Arr3 Int) → _) => (bif (decide (s8.2.2.1 < ((p0.Rows.length : Nat) : Int))) then must (0 ≤ (s8.2.2.1 : Int) ∧ (s8.2.2.1 : Int) < ((p0.Rows.length : Nat) : Int)) <| k10 (p0.Rows.getD (s8.2.2.1).toNat default) else k10 (⟨1, 5, 9⟩ : (Arr3 Int)))) (fun (s10 : (Arr3 Int)) => bindO (gasolierref01_Mod s10.x1 121) fun y11 => must (inI (y11 - 60)) <| (joinK (fun (k14 : Row → _) => (bif (decide (s8.2.2.1 = 5)) then k14 (⟨1439, (⟨(y11 - 60), 2⟩ : Frac), (⟨s8.2.1, 1⟩ : Frac)⟩ : Row) else k14 (⟨s8.1, (⟨(y11 - 60), 2⟩ : Frac), (⟨s8.2.1, 1⟩ : Frac)⟩ : Row))) (fun (s14 : Row) => must (room (s8.2.2.2 ++ ([s14] : List Row)).length 40) <| bindO (gasolierref01_Mod s10.x0 270) fun y16 => must (inI (1 + y16)) <| must (inI (s8.1 + (1 + y16))) <| bindO (gasolierref01_Mod s10.x2 60) fun y20 => must (inI (s8.2.1 + y20)) <| must (inI (s8.2.2.1 + 1)) <| k8 ((s8.1 + (1 + y16)), (s8.2.1 + y20), (s8.2.2.1 + 1), (s8.2.2.2 ++ ([s14] : List Row))))))) else some (⟨1, 5, 0, 0, s8.2.2.2, (⟨y1, 10⟩ : Frac), (⟨y3, (y3 + y5)⟩ : Range)⟩ : Sheet))) fuel (0, 0, 0, ([] : List Row)))
def moon_Margin (fuel : Nat) (p0 : Sheet) (p1 : (List Roof)) (p2 : Int) : Option (Frac × Int) :=
 bindO (moon_CheckSheet fuel p0) fun y1 => (bif (!decide (y1 = 0)) then some ((⟨0, 0⟩ : Frac), 21) else bindO (moon_areRoofs p1) fun y4 => (bif (!y4) then some ((⟨0, 0⟩ : Frac), 22) else (bif (!(moon_isMinute p2)) then some ((⟨0, 0⟩ : Frac), 1) else bindO (moon_margin fuel p0 p1 p2) fun y8 => some (y8, 0))))
def moon_Compare (fuel : Nat) (p0 : Frac) (p1 : Frac) : Option (Int × Int) :=
 bindO (moon_isFrac p0 20000000) fun y1 => bindO ((bif (!(!y1)) then moon_isFrac p1 20000000 else some default)) fun y3 => (bif ((!y1) || (!y3)) then some (0, 20) else bindO (moon_compare fuel p0 p1) fun y6 => some (y6, 0))
def gasoliertop_above (fuel : Nat) (p0 : Sheet) (p1 : (List Roof)) (p2 : Int) (p3 : Frac) : Option (Bool × Bool) :=
 bindO (moon_Margin fuel p0 p1 p2) fun y1 => must (inI (0 - p3.Num)) <| bindO (moon_Compare fuel y1.1 (⟨(0 - p3.Num), p3.Den⟩ : Frac)) fun y4 => some ((decide (0 < y4.1)), ((decide (y1.2 = 0)) && (decide (y4.2 = 0))))
def moon_has (fuel : Nat) (p0 : Slip) (p1 : Frac) : Option Bool :=
 bindO (moon_compare fuel p1 p0.Lo) fun y1 => bindO ((bif ((decide (0 < y1)) || ((decide (y1 = 0)) && (!p0.Open))) then moon_compare fuel p1 p0.Hi else some default)) fun y3 => some (((decide (0 < y1)) || ((decide (y1 = 0)) && (!p0.Open))) && (decide (y3 ≤ 0)))
def moon_CheckSlip (fuel : Nat) (p0 : Sky) (p1 : Int) (p2 : Int) (p3 : Frac) : Option Int :=
 bindO (moon_look fuel p0 p1 p2 []) fun y1 => (bif (!decide (y1.2 = 0)) then some y1.2 else bindO (moon_isFrac p3 20000000) fun y4 => (bif (!y4) then some 20 else must (y1.1.isSome = true) <| bindO (moon_has fuel ((y1.1.getD default).slip) p3) fun y8 => (bif (!y8) then some 28 else some 0)))
def bylaw_isTruth (p0 : Truth) : Bool :=
 ((((decide (0 ≤ p0.Set)) && (decide (p0.Set ≤ p0.Rise))) && (decide (p0.Rise ≤ 1439))) && (bylaw_in p0.Light 0 1000))
def bylaw_areTimes (p0 : Times) : Bool :=
 (((decide (p0.On = (-1))) && (decide (p0.Off = (-1)))) || (((decide (0 ≤ p0.On)) && (decide (p0.On ≤ p0.Off))) && (decide (p0.Off ≤ 1439))))
def bylaw_lawful (p0 : Version) (p1 : Truth) (p2 : Times) : Option Bool :=
 (bif ((!p1.Fog) && (decide (p0.Moon ≤ p1.Light))) then some true else (joinK (fun (k2 : Int → _) => (bif p1.Fog then k2 p0.Fog else k2 0)) (fun (s2 : Int) => must (((decide (0 ≤ p2.On)) = true → (inI (p1.Set + p0.On.Lo)))) <| must (((decide (0 ≤ p2.On)) = true → (inI ((p1.Set + p0.On.Lo) - s2)))) <| must (((decide (0 ≤ p2.On)) = true → (inI (p1.Set + p0.On.Hi)))) <| must (((decide (0 ≤ p2.On)) = true → (inI ((p1.Set + p0.On.Hi) - s2)))) <| must ((((decide (0 ≤ p2.On)) && (bylaw_in p2.On ((p1.Set + p0.On.Lo) - s2) ((p1.Set + p0.On.Hi) - s2))) = true → (inI (p1.Rise - p0.Off.Hi)))) <| must ((((decide (0 ≤ p2.On)) && (bylaw_in p2.On ((p1.Set + p0.On.Lo) - s2) ((p1.Set + p0.On.Hi) - s2))) = true → (inI (p1.Rise - p0.Off.Lo)))) <| some (((decide (0 ≤ p2.On)) && (bylaw_in p2.On ((p1.Set + p0.On.Lo) - s2) ((p1.Set + p0.On.Hi) - s2))) && (bylaw_in p2.Off (p1.Rise - p0.Off.Hi) (p1.Rise - p0.Off.Lo))))))
def bylaw_True (p0 : Bylaw) (p1 : Int) (p2 : Int) (p3 : Truth) (p4 : Times) (p5 : Int) : Option (Bool × Int) :=
 bindO (bylaw_Check p0) fun y1 => (bif (!decide (y1 = 0)) then some (false, y1) else (bif (!(bylaw_isTruth p3)) then some (false, 12) else (bif (!(bylaw_areTimes p4)) then some (false, 1) else (bif ((!(bylaw_isNight p2)) || (!(bylaw_isNight p5))) then some (false, 6) else bindO (bylaw_known p0 p1 (⟨p2, (⟨0, 0⟩ : Range), (⟨0, 0⟩ : Range), (⟨0, 0⟩ : Range), 0⟩ : Night) p5) fun y7 => (bif (!decide (y7.2 = 0)) then some (false, y7.2) else bindO (bylaw_lawful y7.1.v p3 p4) fun y10 => some (y10, 0))))))
def bylaw_window__minutes (p0 : bylaw_window) (p1 : Option Range) : Option (Range × Int) :=
 (bif (decide ((bylaw_window__lit p0) = 0)) then some ((⟨0, 0⟩ : Range), 18) else bindO (p1 ) fun y2 => (bif (decide (y2.Hi < y2.Lo)) then some ((⟨0, 0⟩ : Range), 16) else some (y2, 0)))
def bylaw_window__fog (p0 : bylaw_window) (p1 : (List Int)) : Option Int :=
 (rangeGo (fun i1 (s1 : Unit) k1 => (bif (decide (p0.n.Fog = (p1.getD i1 default))) then some p0.v.Fog else k1 ())) (fun (s1 : Unit) => some 0) p1.length 0 ())
def bylaw_clip (p0 : Int) (p1 : Int) : Range :=
 (⟨(max p0 0), (min p1 1439)⟩ : Range)
def bylaw_window__on (p0 : bylaw_window) : Option Range :=
 must (inI (p0.n.Set.Hi + p0.v.On.Lo)) <| bindO (bylaw_window__fog p0 ([1] : List Int)) fun y2 => must (inI ((p0.n.Set.Hi + p0.v.On.Lo) - y2)) <| must (inI (p0.n.Set.Lo + p0.v.On.Hi)) <| bindO (bylaw_window__fog p0 ([1, 2] : List Int)) fun y6 => must (inI ((p0.n.Set.Lo + p0.v.On.Hi) - y6)) <| some (bylaw_clip ((p0.n.Set.Hi + p0.v.On.Lo) - y2) ((p0.n.Set.Lo + p0.v.On.Hi) - y6))
def bylaw_window__off (p0 : bylaw_window) : Option Range :=
 must (inI (p0.n.Rise.Hi - p0.v.Off.Hi)) <| must (inI (p0.n.Rise.Lo - p0.v.Off.Lo)) <| some (bylaw_clip (p0.n.Rise.Hi - p0.v.Off.Hi) (p0.n.Rise.Lo - p0.v.Off.Lo))
def bylaw_window__duty (p0 : bylaw_window) : Option (Duty × Int) :=
 (bif (decide ((bylaw_window__lit p0) = 0)) then some ((⟨0, (⟨0, 0⟩ : Range), (⟨0, 0⟩ : Range)⟩ : Duty), 0) else bindO (bylaw_window__minutes p0 (bylaw_window__on p0)) fun y2 => (bif (!decide (y2.2 = 0)) then some ((⟨0, (⟨0, 0⟩ : Range), (⟨0, 0⟩ : Range)⟩ : Duty), y2.2) else bindO (bylaw_window__minutes p0 (bylaw_window__off p0)) fun y5 => (bif (!decide (y5.2 = 0)) then some ((⟨0, (⟨0, 0⟩ : Range), (⟨0, 0⟩ : Range)⟩ : Duty), y5.2) else some ((⟨(bylaw_window__lit p0), y2.1, y5.1⟩ : Duty), 0))))
def bylaw_Duty (p0 : Bylaw) (p1 : Int) (p2 : Night) (p3 : Int) : Option (Duty × Int) :=
 bindO (bylaw_look p0 p1 p2 p3) fun y1 => (bif (!decide (y1.2 = 0)) then some ((⟨0, (⟨0, 0⟩ : Range), (⟨0, 0⟩ : Range)⟩ : Duty), y1.2) else bindO (bylaw_window__duty y1.1) fun y4 => some (y4.1, y4.2))
def gasoliertop_TopMoon (fuel : Nat) (p0 : gasoliertop_Heaven) : Option Bool :=
 bindO (gasoliertop_gleams 20000) fun y1 => bindO (gasoliertop_sheetOf fuel p0) fun y3 => must (inI (2 * y3.Off.Num)) <| must (inI ((2 * y3.Off.Num) + 1)) <| bindO (gasolierref01_Mod p0.Off.x1 ((2 * y3.Off.Num) + 1)) fun y7 => must (inI (y7 - y3.Off.Num)) <| (loopGo (fun (s10 : Int × (List Roof)) k10 => (bif ((decide (s10.1 < ((p0.Roofs.length : Nat) : Int))) && (decide (s10.1 < 6))) then must (0 ≤ (s10.1 : Int) ∧ (s10.1 : Int) < ((p0.Roofs.length : Nat) : Int)) <| bindO (gasolierref01_Mod ((p0.Roofs.getD (s10.1).toNat default).x0) 300) fun y13 => must (inI (y13 + 1)) <| must (0 ≤ (s10.1 : Int) ∧ (s10.1 : Int) < ((p0.Roofs.length : Nat) : Int)) <| bindO (gasolierref01_Mod ((p0.Roofs.getD (s10.1).toNat default).x1) 60) fun y17 => must (inI ((y13 + 1) + y17)) <| must (0 ≤ (s10.1 : Int) ∧ (s10.1 : Int) < ((p0.Roofs.length : Nat) : Int)) <| bindO (gasolierref01_Mod ((p0.Roofs.getD (s10.1).toNat default).x2) 30) fun y21 => must (room (s10.2 ++ ([(⟨y13, ((y13 + 1) + y17), y21⟩ : Roof)] : List Roof)).length 24) <| must (inI (s10.1 + 1)) <| k10 ((s10.1 + 1), (s10.2 ++ ([(⟨y13, ((y13 + 1) + y17), y21⟩ : Roof)] : List Roof))) else (loopGo (fun (s25 : Int × (List Sighting)) k25 => (bif ((decide (s25.1 < ((p0.Looks.length : Nat) : Int))) && (decide (s25.1 < 8))) then must (0 ≤ (s25.1 : Int) ∧ (s25.1 : Int) < ((p0.Looks.length : Nat) : Int)) <| bindO (gasolierref01_Mod (p0.Looks.getD (s25.1).toNat default) 1440) fun y28 => bindO (gasoliertop_above fuel y3 s10.2 y28 (⟨(y7 - y3.Off.Num), 10⟩ : Frac)) fun y30 => (bif (!y30.2) then some false else must (inI (1 + s25.1)) <| must (room (s25.2 ++ ([(⟨(1 + s25.1), 5, y28, y30.1, 0, 0⟩ : Sighting)] : List Sighting)).length 48) <| must (inI (s25.1 + 1)) <| k25 ((s25.1 + 1), (s25.2 ++ ([(⟨(1 + s25.1), 5, y28, y30.1, 0, 0⟩ : Sighting)] : List Sighting)))) else bindO (moon_Whole fuel (⟨([y3] : List Sheet), s10.2, s25.2⟩ : Sky) 5 9 300 1090) fun y36 => bindO ((bif (!(!y1)) then moon_Check fuel (⟨([y3] : List Sheet), s10.2, s25.2⟩ : Sky) else some default)) fun y38 => bindO ((bif (!(((!y1) || (!decide (y38 = 0))) || (!decide (y36.2 = 0)))) then moon_CheckSlip fuel (⟨([y3] : List Sheet), s10.2, s25.2⟩ : Sky) 5 9 (⟨(y7 - y3.Off.Num), 10⟩ : Frac) else some default)) fun y40 => (bif ((((!y1) || (!decide (y38 = 0))) || (!decide (y36.2 = 0))) || (!decide (y40 = 0))) then some false else (loopGo (fun (s43 : Bool × Int) k43 => (bif (decide (s43.2 ≤ 1090)) then bindO (gasoliertop_above fuel y3 s10.2 s43.2 (⟨(y7 - y3.Off.Num), 10⟩ : Frac)) fun y45 => bindO (moon_Above fuel (⟨([y3] : List Sheet), s10.2, s25.2⟩ : Sky) 5 9 s43.2) fun y47 => (bif ((((!y45.2) || (!decide (y47.2 = 0))) || ((decide (y47.1 = 1)) && (!y45.1))) || ((decide (y47.1 = 0)) && y45.1)) then some false else must (inI (s43.2 + 1)) <| k43 ((s43.1 && y45.1), (s43.2 + 1))) else (joinK (fun (k51 : Int → _) => (bif s43.1 then must (inI (y3.Light.Hi - y3.Light.Lo)) <| must (inI ((y3.Light.Hi - y3.Light.Lo) + 1)) <| bindO (gasolierref01_Mod p0.Light.x2 ((y3.Light.Hi - y3.Light.Lo) + 1)) fun y73 => must (inI (y3.Light.Lo + y73)) <| k51 (y3.Light.Lo + y73) else k51 0)) (fun (s51 : Int) => bindO (gasolierref01_Mod p0.Moon 1002) fun y52 => bindO (bylaw_Lit (⟨([(⟨1, 1, 0, (⟨5, 40⟩ : Range), (⟨5, 50⟩ : Range), y52, 0, 0, 0⟩ : Version)] : List Version), ([(⟨1, 1, 1, 1, 1⟩ : Street)] : List Street)⟩ : Bylaw) 1 (⟨5, (⟨300, 310⟩ : Range), (⟨1080, 1090⟩ : Range), y36.1, 0⟩ : Night) 9) fun y54 => bindO (gasolierref01_Mod p0.Moon 11) fun y56 => must (inI (300 + y56)) <| bindO (gasolierref01_Mod p0.Light.x0 11) fun y59 => must (inI (1080 + y59)) <| bindO (bylaw_True (⟨([(⟨1, 1, 0, (⟨5, 40⟩ : Range), (⟨5, 50⟩ : Range), y52, 0, 0, 0⟩ : Version)] : List Version), ([(⟨1, 1, 1, 1, 1⟩ : Street)] : List Street)⟩ : Bylaw) 1 5 (⟨(300 + y56), (1080 + y59), s51, false⟩ : Truth) (⟨(-1), (-1)⟩ : Times) 9) fun y62 => (bif ((((((!decide (y54.2 = 0)) || (!decide (y62.2 = 0))) || (decide (s51 < y36.1.Lo))) || (decide (y36.1.Hi < s51))) || ((decide (y54.1 = 1)) && y62.1)) || ((decide (y54.1 = 0)) && (!y62.1))) then some false else (bif (decide (y54.1 = 0)) then some true else bindO (bylaw_Duty (⟨([(⟨1, 1, 0, (⟨5, 40⟩ : Range), (⟨5, 50⟩ : Range), y52, 0, 0, 0⟩ : Version)] : List Version), ([(⟨1, 1, 1, 1, 1⟩ : Street)] : List Street)⟩ : Bylaw) 1 (⟨5, (⟨300, 310⟩ : Range), (⟨1080, 1090⟩ : Range), y36.1, 0⟩ : Night) 9) fun y66 => bindO (bylaw_True (⟨([(⟨1, 1, 0, (⟨5, 40⟩ : Range), (⟨5, 50⟩ : Range), y52, 0, 0, 0⟩ : Version)] : List Version), ([(⟨1, 1, 1, 1, 1⟩ : Street)] : List Street)⟩ : Bylaw) 1 5 (⟨(300 + y56), (1080 + y59), s51, false⟩ : Truth) (⟨y66.1.On.Lo, y66.1.Off.Hi⟩ : Times) 9) fun y68 => some (((decide (y66.2 = 0)) && (decide (y68.2 = 0))) && y68.1))))))) fuel (true, 300))))) fuel (0, ([] : List Sighting))))) fuel (0, ([] : List Roof)))
end Go.Sp
end
