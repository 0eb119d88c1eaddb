/- Texts of the framework, or of the plain law, one behind another. -/
import Derived.Test.YtnaodipmfaglfaaGreatFr3
import Derived.Test.YtnaodipmfaglfaaGreatFr1
import Derived.Shelf.Sort.Plain
import Derived.Shelf.Slices.In.SortNone
import Derived.Sort.OwnSortedInts
import Derived.ProofKit
import Derived.OpenShut
import Derived.ReadAgain
import Derived.ChangeStays
import Derived.SizedLaws
import Derived.Carry
import Derived.Below
import Derived.ChangeSame
/- An owned slice is only read from now on, wherever it is named. -/
section
set_option linter.all false
namespace Go.Av
mutual
/-- A value in which a name is read as what it stands for; what must hold for it. -/
def fz (id n' : Nat) (r : AV) (K : List Nat) : AV → Option (AV × List Prop)
 | .buf i n => match Nat.beq i id with
   | true => some (r, [n = n'])
   | false => match inList K i with
     | true => some (.buf i n, [])
     | false => none
 | .agg cs => match fzL id n' r K cs with
   | some (cs', ps) => some (.agg cs', ps)
   | none => none
 | .tup cs => match fzL id n' r K cs with
   | some (cs', ps) => some (.tup cs', ps)
   | none => none
 | v => match onlyIds K v with
   | true => some (v, [])
   | false => none
def fzL (id n' : Nat) (r : AV) (K : List Nat) : List AV → Option (List AV × List Prop)
 | [] => some ([], [])
 | c :: cs => match fz id n' r K c with
   | some (c', ps) => match fzL id n' r K cs with
     | some (cs', qs) => some (c' :: cs', appP ps qs)
     | none => none
   | none => none
end
theorem fz_other {id n' : Nat} {r : AV} {K : List Nat} {x y : AV} {ps : List Prop} (h : fz id n' r K x = some (y, ps)) (h1 : ∀ i n, x ≠ .buf i n) (h2 : ∀ cs, x ≠ .agg cs) (h3 : ∀ cs, x ≠ .tup cs) : onlyIds K x = true ∧ y = x := by
 cases x <;> first | exact absurd rfl (h1 _ _) | exact absurd rfl (h2 _) | exact absurd rfl (h3 _) | (simp only [fz] at h; split at h <;> cases h; exact ⟨by assumption, rfl⟩)
theorem fzL_get {id n' : Nat} {r : AV} {K : List Nat} : ∀ {cs cs' : List AV} {ps : List Prop}, fzL id n' r K cs = some (cs', ps) → cs'.length = cs.length ∧
   ∀ (i : Nat) (c' : AV), cs'[i]? = some c' → ∃ c qs, cs[i]? = some c ∧ fz id n' r K c = some (c', qs) ∧ ∀ q, q ∈ qs → q ∈ ps
 | [], cs', ps, h => by
   simp only [fzL] at h; cases h
   exact ⟨rfl, fun i c' hc => (by simp at hc)⟩
 | c :: cs, cs', ps, h => by
   simp only [fzL] at h
   split at h
   · rename_i d qs hd
     split at h
     · rename_i ds rs hds
       cases h
       obtain ⟨h1, h2⟩ := fzL_get hds
       refine ⟨by simp [h1], fun i c' hc => ?_⟩
       cases i with
       | zero => simp at hc; subst hc; exact ⟨c, qs, rfl, hd, fun q hq => appP_mem.2 (.inl hq)⟩
       | succ i =>
         obtain ⟨c0, q0, e1, e2, e3⟩ := h2 i c' (by simpa using hc)
         exact ⟨c0, q0, by simpa using e1, e2, fun q hq => appP_mem.2 (.inr (e3 q hq))⟩
     · cases h
   · cases h
theorem Rel.fz {h h' : Hp} {ρ ρ' : Rho} {id n' sz : Nat} {v0 : Value} {r : AV} {K : List Nat} (hle : Le h h') (hρ : ∀ i, i ∈ K → ρ' i = ρ i) (hid : ρ id = some (.sl n' sz v0)) (hr : Rel h' ρ' r v0) {x : AV} {v : Value} (H : Rel h ρ x v) :
   ∀ {y : AV} {ps : List Prop}, Go.Av.fz id n' r K x = some (y, ps) → (∀ q, q ∈ ps → q) → Rel h' ρ' y v := by
 induction H with
 | buf ρ i n n2 sz2 v v' hb hl h1 he =>
   intro y ps hy hp
   simp only [Go.Av.fz] at hy
   split at hy
   · rename_i hi
     cases hy
     have := Nat.eq_of_beq_eq_true hi
     subst this
     have hn : n = n' := hp _ (List.mem_cons_self ..)
     rw [hid] at hb; cases hb
     rw [he hn]; exact hr
   · split at hy
     · rename_i hk
       cases hy
       exact .buf _ _ _ _ _ _ _ ((hρ i (inList_mem hk)).trans hb) hl h1 he
     · cases hy
 | agg ρ cs vs hl hc ih =>
   intro y ps hy hp
   simp only [Go.Av.fz] at hy
   split at hy
   · rename_i cs' qs hcs
     cases hy
     obtain ⟨e1, e2⟩ := fzL_get hcs
     refine .agg _ _ _ (by rw [hl, e1]) fun i c v h1 h2 => ?_
     obtain ⟨c0, q0, k1, k2, k3⟩ := e2 i c h1
     exact ih i c0 v k1 h2 hρ hid k2 (fun q hq => hp q (k3 q hq))
   · cases hy
 | tup ρ cs vs hl hc ih =>
   intro y ps hy hp
   simp only [Go.Av.fz] at hy
   split at hy
   · rename_i cs' qs hcs
     cases hy
     obtain ⟨e1, e2⟩ := fzL_get hcs
     refine .tup _ _ _ (by rw [hl, e1]) fun i c v h1 h2 => ?_
     obtain ⟨c0, q0, k1, k2, k3⟩ := e2 i c h1
     exact ih i c0 v k1 h2 hρ hid k2 (fun q hq => hp q (k3 q hq))
   · cases hy
 | _ =>
   intro y ps hy hp
   obtain ⟨ho, rfl⟩ := fz_other hy (fun _ _ e => by cases e) (fun _ e => by cases e) (fun _ e => by cases e)
   refine Rel.forget hρ (Rel.heap ?_ hle) ho
   first | (constructor <;> assumption) | (constructor; done)
def fzS (id n' : Nat) (r : AV) (K : List Nat) (L : List (Nat × AV)) : List Nat → Option (List (Nat × AV) × List Prop)
 | [] => some ([], [])
 | t :: ts => match findL L t with
   | some x => match fz id n' r K x with
     | some (y, ps) => match fzS id n' r K L ts with
       | some (L', qs) => some ((t, y) :: L', appP ps qs)
       | none => none
     | none => none
   | none => none
def fzB (id n' : Nat) (r : AV) (K : List Nat) : Blk → Option (Blk × List Prop)
 | .cells cs => match fzL id n' r K cs with
   | some (cs', ps) => some (.cells cs', ps)
   | none => none
 | b => match onlyB K b with
   | true => some (b, [])
   | false => none
def fzM (id n' : Nat) (r : AV) (K : List Nat) (M : List (Nat × Blk)) : List Nat → Option (List (Nat × Blk) × List Prop)
 | [] => some ([], [])
 | t :: ts => match mm M t with
   | some x => match fzB id n' r K x with
     | some (y, ps) => match fzM id n' r K M ts with
       | some (M', qs) => some ((t, y) :: M', appP ps qs)
       | none => none
     | none => none
   | none => none
theorem fzS_spec {id n' : Nat} {r : AV} {K : List Nat} {L : List (Nat × AV)} : ∀ {ts : List Nat} {L' : List (Nat × AV)} {ps : List Prop}, fzS id n' r K L ts = some (L', ps) →
   ∀ t, fr L' t = .any ∨ ∃ qs, fz id n' r K (fr L t) = some (fr L' t, qs) ∧ ∀ q, q ∈ qs → q ∈ ps
 | [], L', ps, h, t => by simp only [fzS] at h; cases h; exact .inl rfl
 | u :: ts, L', ps, h, t => by
   simp only [fzS] at h
   split at h
   · rename_i x hx
     split at h
     · rename_i y qs hy
       split at h
       · rename_i L2 rs h2
         cases h
         simp only [fr, put]
         split
         · rename_i hb
           have := Nat.eq_of_beq_eq_true hb
           subst this
           rw [findL_fr hx]
           exact .inr ⟨qs, hy, fun q hq => appP_mem.2 (.inl hq)⟩
         · rcases fzS_spec h2 t with e | ⟨q0, e1, e2⟩
           · exact .inl e
           · exact .inr ⟨q0, e1, fun q hq => appP_mem.2 (.inr (e2 q hq))⟩
       · cases h
     · cases h
   · cases h
theorem fzM_spec {id n' : Nat} {r : AV} {K : List Nat} {M : List (Nat × Blk)} : ∀ {ts : List Nat} {M' : List (Nat × Blk)} {ps : List Prop}, fzM id n' r K M ts = some (M', ps) →
   (∀ t, t ∈ ts → (mm M' t).isSome = true) ∧ ∀ t y, mm M' t = some y → t ∈ ts ∧ ∃ x qs, mm M t = some x ∧ fzB id n' r K x = some (y, qs) ∧ ∀ q, q ∈ qs → q ∈ ps
 | [], M', ps, h => by simp only [fzM] at h; cases h; exact ⟨fun t ht => (by cases ht), fun t y hy => (by cases hy)⟩
 | u :: ts, M', ps, h => by
   simp only [fzM] at h
   split at h
   · rename_i x hx
     split at h
     · rename_i y qs hy
       split at h
       · rename_i L2 rs h2
         cases h
         obtain ⟨k1, k2⟩ := fzM_spec h2
         refine ⟨fun t ht => ?_, fun t z hz => ?_⟩
         · simp only [mm]
           by_cases e : t = u
           · subst e; rw [upd_same]; rfl
           · rw [upd_other _ _ e]
             exact k1 t ((List.mem_cons.1 ht).resolve_left e)
         · simp only [mm] at hz
           by_cases e : t = u
           · subst e; rw [upd_same] at hz; cases hz
             exact ⟨List.mem_cons_self .., x, qs, hx, hy, fun q hq => appP_mem.2 (.inl hq)⟩
           · rw [upd_other _ _ e] at hz
             obtain ⟨e0, x2, q2, e1, e2, e3⟩ := k2 t z hz
             exact ⟨List.mem_cons_of_mem _ e0, x2, q2, e1, e2, fun q hq => appP_mem.2 (.inr (e3 q hq))⟩
       · cases h
     · cases h
   · cases h
section
variable {N : Nat} {C : Ctx} {L : List (Nat × AV)} {M : List (Nat × Blk)} {g : Nat} {R : Act → World → Prop}
theorem At.freezeA (id : Nat) {ty sz n' : Nat} {e : Nat → List AV} {K ts : List Nat} {L' : List (Nat × AV)} {M' : List (Nat × Blk)} {ps qs : List Prop} (hM : mm M id = some (.buf ty sz n' e)) (hK : inList K id = false)
   (hL : fzS id n' (.ro sz n' e) K L ts = some (L', ps)) (hMK : fzM id n' (.ro sz n' e) K M K = some (M', qs)) (hps : AllP ps) (hqs : AllP qs)
   (hbor : ∀ b, ¬ C.bor b) (Kk : At N C L' M' g R) (hs : onlyL K C.savA = true := by rfl) : At N C L M g R := by
 intro h ρ a w I
 have hps := hps.mem
 have hqs := hqs.mem
 obtain ⟨v, us, k1, k2, k3, k5, k4⟩ := I.blk id _ hM
 obtain ⟨m1, m2⟩ := fzM_spec hMK
 have hidK : id ∉ K := fun hk => by rw [inList_of hk] at hK; cases hK
 classical
 let h' : Hp := fun b => if v.ownBlock = some b then w.heap[b]? else h b
 let ρ' : Rho := fun i => if i ∈ K then ρ i else none
 have hρ : ∀ i, i ∈ K → ρ' i = ρ i := fun i hi => if_pos hi
 have hρ' : ∀ i li, ρ' i = some li → i ∈ K ∧ ρ i = some li := fun i li hi => by
   have : (if i ∈ K then ρ i else none) = some li := hi
   split at this
   · exact ⟨by assumption, this⟩
   · cases this
 have hin : ∀ b, v.ownBlock = some b → h' b = w.heap[b]? := fun b hb => if_pos hb
 have hle : ∀ b o, h b = some o → h' b = some o := by
   intro b o hb
   show (if v.ownBlock = some b then w.heap[b]? else h b) = some o
   split
   · exact I.hp b o hb
   · exact hb
 have hge : ∀ b, v.ownBlock = some b → C.w0.heap.size ≤ b := fun b hb => (I.own id _ b k1 hb).2.2.resolve_right (hbor b)
 have hnew : ∀ b o, h' b = some o → (v.ownBlock = some b ∧ w.heap[b]? = some o) ∨ h b = some o := by
   intro b o hb
   have : (if v.ownBlock = some b then w.heap[b]? else h b) = some o := hb
   split at this
   · exact .inl ⟨by assumption, this⟩
   · exact .inr this
 have hr : Rel h' ρ' (.ro sz n' e) v := (ro_of_own k2 (fun b hb => hin b hb) k3 k5 (fun i j c x a1 a2 a3 => (k4 i j c x a1 a2 a3).heap (Le.of hle))).closed
 refine Kk h' ρ' a w { I with slot := fun t => ?_, sav := ⟨I.sav.1, fun i c x h1 h2 => ((I.sav.2 i c x h1 h2).heap (Le.of hle)).forget hρ (onlyL_get hs h1)⟩, hp := fun b o hb => ?_, blk := fun i y hy => ?_, dom := fun i hi => ?_, own := fun i li b q1 q2 => ?_, inj := fun i i' li li' b q1 q1' q2 q2' => I.inj i i' li li' b (hρ' _ _ q1).2 (hρ' _ _ q1').2 q2 q2', ext := fun b o hb => hle b o (I.ext b o hb), old := fun b o hb hlt => ?_, gst := ?_, dfr := ?_ }
 · rcases fzS_spec hL t with e1 | ⟨q0, e1, e2⟩
   · rw [e1]; exact .any _ _
   · exact Rel.fz (Le.of hle) hρ k1 hr (I.slot t) e1 (fun q hq => hps q (e2 q hq))
 · rcases hnew b o hb with q | q
   · exact q.2
   · exact I.hp b o q
 · obtain ⟨hik, x, q0, e1, e2, e3⟩ := m2 i y hy
   have H := I.blk i x e1
   have other : ∀ z, onlyB K z = true → BlkOk h ρ i z w → BlkOk h' ρ' i z w := fun z ho Hz => ((Hz.keep (Le.of hle) rfl (hle_refl _) (fun _ _ _ _ => rfl)).forget hρ hik ho)
   cases x with
   | cells cs =>
     simp only [fzB] at e2
     split at e2
     · rename_i cs' q2 hcs
       cases e2
       obtain ⟨b, vs, ty', z1, z2, z3, z4⟩ := H
       obtain ⟨l1, l2⟩ := fzL_get hcs
       refine ⟨b, vs, ty', (hρ i hik).trans z1, z2, by rw [z3, l1], fun j c u hc hu => ?_⟩
       obtain ⟨c0, q3, y1, y2, y3⟩ := l2 j c hc
       exact Rel.fz (Le.of hle) hρ k1 hr (z4 j c0 u y1 hu) y2 (fun q hq => hqs q (e3 q (y3 q hq)))
     · cases e2
   | _ =>
     simp only [fzB] at e2
     split at e2
     · rename_i ho
       cases e2
       exact other _ ho H
     · cases e2
 · cases hq : ρ' i with
   | none => rfl
   | some li =>
     have := m1 i (hρ' i li hq).1
     rw [hi] at this; cases this
 · obtain ⟨q3, q4⟩ := hρ' i li q1
   obtain ⟨z1, z2, z3⟩ := I.own i li b q4 q2
   refine ⟨?_, z2, z3⟩
   show (if v.ownBlock = some b then w.heap[b]? else h b) = none
   rw [if_neg (fun hv : v.ownBlock = some b => hidK ((I.inj i id li _ b q4 k1 q2 hv) ▸ q3))]
   exact z1
 · rcases hnew b o hb with q | q
   · exact absurd hlt (Nat.not_lt.2 (hge b q.1))
   · exact I.old b o q hlt
 · obtain ⟨X, x1, x2, x3⟩ := I.gst
   refine ⟨X, fun b ⟨i, li, q1, q2⟩ => x1 b ⟨i, li, (hρ' i li q1).2, q2⟩, fun b o hb => ?_, x3⟩
   rcases hnew b o hb with q | q
   · exact .inr (x1 b ⟨id, _, k1, q.1⟩)
   · exact x2 b o q
 · obtain ⟨Ds, hd1, hd2, hd3⟩ := I.dfr
   exact ⟨Ds, hd1, hd2, fun D hD => ⟨hle _ _ (hd3 D hD).1, (hd3 D hD).2⟩⟩
end
end Go.Av
end
/- slices.Sort at []int, whose contract the library has, as a function that a slice is lent to. -/
section
set_option linter.all false
namespace Go.Av
open Go Go.Sort Go.Proofs
theorem sort_ctr {P : Program} {f : FuncId} (hent : Enters P f)
   (hC : ∀ (blk off cap : Nat) (zs : List Int) (w : World), Holds (Value.int .i64) w blk off zs.toArray → blk < w.heap.size → zs.length < 4611686018427387904 →
     Calls P f #[.slice (some ⟨blk, off, none⟩) zs.length cap] w fun e w' => e = .returned (.tuple #[]) ∧ ∃ n os, w' = grow (putRow (Value.int .i64) (Sort.ahead w n) blk off (zs.mergeSort fun x y => decide (x ≤ y)).toArray) os)
   (hN : ∀ (p : Option Addr) (cap : Nat) (w : World), Calls P f #[.slice p 0 cap] w fun e w' => e = .returned (.tuple #[]) ∧ w' = w)
   (ty : Nat) (l : List Int) {r : List Int} (H : Sp.slices_Sort_int_l l = some r) :
   CtrO P f [.buf 90000 l.length] [(90000, bufL ty 1 (fun x => [.int .i64 x]) l)] (.tup []) [(90000, bufL ty 1 (fun x => [.int .i64 x]) r)] := by
 unfold Sp.slices_Sort_int_l at H
 obtain ⟨hlen, H⟩ := Sp.of_must H
 cases H
 refine ⟨hent, fun h w ρ vs hR hp O => ?_⟩
 obtain ⟨hl, hg⟩ := hR
 match vs, hl with
 | [v], _ =>
 have hv := hg 0 _ v rfl rfl
 obtain ⟨v0, xs, b1, b2, b3, b4, b5⟩ := O.blk 90000 _ rfl
 have : v = v0 := by
   generalize hn : l.length = n at hv
   cases hv with
   | buf _ _ _ n2 sz2 _ v' hb hle h1 he => rw [b1] at hb; cases hb; exact he hn.symm
 subst this
 have wide : ∀ {R : Ending → World → Prop} {args : Array Value}, Calls P f args w R → CallsIn (Fw none) 0 P f args w R := fun hc => callsIn_wide.2 hc
 have hxs : xs = l.map (Value.int .i64) := by
   have hlx : xs.length = l.length := by have := b2.1; omega
   refine List.ext_getElem (by simp [hlx]) (fun i h1 h2 => ?_)
   have := b5 i 0 (.int .i64 (l.getD i default)) xs[i] (by omega) rfl (by rw [Nat.mul_one, Nat.add_zero]; exact List.getElem?_eq_getElem h1)
   generalize xs[i] = v at this ⊢
   cases this
   rw [List.getElem_map, List.getD_eq_getElem?_getD, List.getElem?_eq_getElem (by omega)]; rfl
 rcases b2.2 with ⟨hnil, hl0⟩ | ⟨g, cap, cur, rfl, hg0, hcur, q1, q2, q3, q4⟩
 · subst hnil
   have e0 : l = [] := List.length_eq_zero_iff.1 hl0
   subst e0
   refine (wide (hN none 0 w)).mono (fun en w' he => ?_)
   obtain ⟨rfl, rfl⟩ := he
   exact ⟨h, ρ, rfl, rfl, rfl, Nat.le_refl _, fun k _ _ => rfl, fun b o hb => hb, fun b o hb => .inl hb, .tup _ _ [] rfl (fun i c v hc => by simp at hc), ⟨O.blk, O.dom, O.own, O.inj⟩, fun id li b q1 q2 => .inl ⟨id, li, q1, q2⟩, fun id li li' q1 q2 => by rw [q1] at q2; cases q2; exact LI.le_refl _⟩
 · have hgs : g < w.heap.size := heap_lt hcur
   rw [Nat.mul_one] at q3 q4
   have hold := holds_of_blockI (ss := l) hcur (by rw [q4, hxs])
   have hc := hC g 0 cap l w hold hgs hlen
   refine (wide hc).mono (fun en w' he => ?_)
   obtain ⟨rfl, n, os, rfl⟩ := he
   rw [Sp.merge_isort]
   obtain ⟨s1, s2, s3, s4, s5⟩ := grownBy_sortedI (w := w) (g := g) (n := n) (os := os) (Sp.isort l).toArray
   have hin : ownSet ρ g := ⟨90000, _, b1, rfl⟩
   refine ⟨h, ρ, s1, s2, s3, s4, fun k hk hn => s5 k hk (fun e => hn (by cases e; exact hin)), fun b o hb => hb, fun b o hb => .inl hb, .tup _ _ [] rfl (fun i c v hc => by simp at hc), ⟨fun id x hx => ?_, fun id hid => ?_, fun id li b q1 q2 => ⟨(O.own id li b q1 q2).1, Nat.lt_of_lt_of_le (O.own id li b q1 q2).2 s4⟩, O.inj⟩, fun id li b q1 q2 => .inl ⟨id, li, q1, q2⟩, fun id li li' q1 q2 => by rw [q1] at q2; cases q2; exact LI.le_refl _⟩
   · have hid : id = 90000 := by
       by_cases e : id = 90000
       · exact e
       · simp only [mm] at hx; rw [upd_other _ _ e] at hx; cases hx
     subst hid
     simp only [mm] at hx; rw [upd_same] at hx; cases hx
     have own := ownsRow_sortedI (w := w) (base := 0) (g := g) (cap := cap) (n := n) (os := os) (ss := l) (ts := Sp.isort l) (Sp.isort_length l) hg0 hcur q1 q2 (by rw [q3, Nat.mul_one])
     refine ⟨_, (Sp.isort l).map (Value.int .i64), by rw [Sp.isort_length]; exact b1, by rw [Sp.isort_length]; exact own, fun i _ => rfl, fun x hx => ?_, fun i j c x hi hc hx => ?_⟩
     · obtain ⟨z, _, rfl⟩ := List.mem_map.1 hx; rfl
     · cases j with
       | succ j => simp at hc
       | zero =>
         have hc : AV.int .i64 ((Sp.isort l).getD i default) = c := by simpa using hc
         subst hc
         rw [Nat.mul_one, Nat.add_zero, List.getElem?_map, List.getElem?_eq_getElem hi] at hx
         cases hx
         rw [List.getD_eq_getElem?_getD, List.getElem?_eq_getElem hi]
         exact .int _ _ _
   · refine O.dom id ?_
     by_cases e : id = 90000
     · subst e; simp only [mm] at hid; rw [upd_same] at hid; cases hid
     · simp only [mm]; rw [upd_other _ _ e]
end Go.Av
end
/- Steps in one: two commands of which the first is a region; what reads the same. -/
section
set_option linter.all false
namespace Go.Av
open Go
theorem Sim.q {x y : AV} (h : x = y := by first | rfl | (simp; done) | omega | (simp; omega)) : Sim x y := .of_eq h
theorem Sim.qi {x y : AV} (h : x = y := by first | rfl | (simp; done) | omega | (refine intEq ?_; first | omega | (simp; done) | (simp; omega)) | (simp; omega)) : Sim x y := .of_eq h
theorem Sim.qb {x y : AV} (h : x = y := by refine bufEq ?_; first | (simp [copyAt]; done) | omega | (simp [copyAt]; omega) | (simp only [List.length_set] at *; omega) | rfl) : Sim x y := .of_eq h
theorem Sim.qc {x y : AV} (h : x = y := by refine bufEq ?_; first | rfl | (simp; done) | omega | (simp; omega)) : Sim x y := .of_eq h
theorem BSim.q {x y : Blk} (h : x = y := by first | rfl | (simp; done) | omega | (simp; omega)) : BSim x y := .of_eq h
theorem BSim.pushS {T : Type} [Inhabited T] {ty sz n m : Nat} {f : T → List AV} {e1 : Nat → List AV} {l : List T} (h : Seg f n e1 l) {cs cs' : List AV} (t : List T) (hs : SimL cs cs') (hm : m = t.length) (hc : cs' = t.flatMap f) (hf : ∀ x, (f x).length = sz) :
   BSim (.buf ty sz (n + m) (fun k => if k < n then e1 k else elemAt sz cs (k - n))) (bufL ty sz f (l ++ t)) := by
 obtain ⟨rfl, h1⟩ := h
 subst hm hc
 obtain ⟨hl, hss⟩ := hs.spec
 have e : (l ++ t).length = l.length + t.length := List.length_append
 intro h ρ id w B
 obtain ⟨v, xs, q1, q2, q3, q4, q5⟩ := B
 refine ⟨v, xs, by rw [e]; exact q1, by rw [e]; exact q2, fun i hi => hf _, q4, fun i j c x hi hc hx => ?_⟩
 rw [e] at hi
 dsimp only at hc
 by_cases hlt : i < l.length
 · have hg : (l ++ t).getD i default = l.getD i default := by simp [List.getD_eq_getElem?_getD, List.getElem?_append_left hlt]
   rw [hg] at hc
   exact q5 i j c x hi (by simp only [hlt, if_true]; rw [h1 i hlt]; exact hc) hx
 · have hg : (l ++ t).getD i default = t.getD (i - l.length) default := by simp [List.getD_eq_getElem?_getD, List.getElem?_append_right (Nat.le_of_not_lt hlt)]
   rw [hg, ← elemAt_flat hf t (i - l.length) (by omega)] at hc
   obtain ⟨hj, hc⟩ := elemAt_get hc
   have hlt2 : (i - l.length) * sz + j < cs.length := by rw [hl]; exact (List.getElem?_eq_some_iff.1 hc).1
   have h3 : (elemAt sz cs (i - l.length))[j]? = some cs[(i - l.length) * sz + j] := by
     unfold elemAt
     rw [List.getElem?_take, if_pos hj, List.getElem?_drop]
     exact List.getElem?_eq_getElem hlt2
   exact hss _ _ _ (List.getElem?_eq_getElem hlt2) hc _ _ _ (q5 i j _ x hi (by simp only [hlt, if_false]; exact h3) hx)
variable {P : Program} {Γ : Tys} {N : Nat} {C : Ctx} {L : List (Nat × AV)} {M : List (Nat × Blk)} {g : Nat} {rr : Option Nat} {Q : Exit → Act → World → Prop}
theorem W.sr (E : Env P Γ) {id : Nat} {ops : Array Oper} {draw : Bool} {y : Code} (own : List Nat) (rvs : List RV) {A : Acc} (ts ids : List Nat) {L' : List (Nat × AV)} {M' : List (Nat × Blk)} (hr : runR Γ own ops.toList ops.toList rvs L M = some A) (hd : dstOk N ops.toList = true) (ho : drawOk draw ops A.ft = true) (hcs : AllP A.cs)
   (hrq : RqOk P A.rq) (K : W P N rr C y L' M' g Q) (hL : filtL ids A.L ts = some L' := by exact rfl) (hM : filtM ids A.M ids = some M' := by exact rfl) (hs : onlyL ids C.savA = true := by exact rfl) (hz : FzOk own C := by first | exact .inl rfl | exact .inr (fun _ h => h)) : W P N rr C (.seq (.region id ops draw) y) L M g Q :=
 W.seq (W.region E own rvs hr hd ho hcs hrq (At.keep hL hM (At.thenC K) hs) hz)
theorem W.rg (E : Env P Γ) {id : Nat} {ops : Array Oper} {draw : Bool} {y : Code} {A : Acc} (ts ids : List Nat) {L' : List (Nat × AV)} {M' : List (Nat × Blk)} (K : W P N rr C y L' M' g Q) (hr : runR Γ [] ops.toList ops.toList [] L M = some A := by exact rfl) (hd : dstOk N ops.toList = true := by exact rfl) (ho : drawOk draw ops A.ft = true := by exact rfl) (hcs : AllP A.cs := by exact .nil)
   (hrq : RqOk P A.rq := by exact .nil) (hL : filtL ids A.L ts = some L' := by exact rfl) (hM : filtM ids A.M ids = some M' := by exact rfl) (hs : onlyL ids C.savA = true := by exact rfl) : W P N rr C (.seq (.region id ops draw) y) L M g Q :=
 W.sr E [] [] ts ids hr hd ho hcs hrq K hL hM hs (.inl rfl)
end Go.Av
end
/- The bridge: from what an argument reads as (a row's data) to the abstract value that it is; from a contract to a row's statement that a law returns true and leaves its arguments as they were. -/
section
set_option linter.all false
namespace Go.Av
open Go.RowKit Go.WideShapes Go.ChangeShapes
def Wt {H : Type} (P : Program) (t : TypeId) (d : DataW H) : Prop := ∀ q ∈ d.weights P t, q ≤ reachBytes
theorem wt_all {H : Type} {P : Program} {e : TypeId} : ∀ {ds : List (DataW H)} {d : DataW H}, d ∈ ds → ∀ q ∈ d.weights P e, q ∈ DataW.weightsAll P e ds
 | x :: ds, d, h, q, hq => by
   simp only [DataW.weightsAll, List.mem_append]
   rcases List.mem_cons.1 h with rfl | h
   · exact .inl hq
   · exact .inr (wt_all h q hq)
theorem wt_left {H : Type} {P : Program} : ∀ {ts us : List TypeId} {ds gs : List (DataW H)}, ∀ q ∈ DataW.weightsEach P ts ds, q ∈ DataW.weightsEach P (ts ++ us) (ds ++ gs)
 | [], us, ds, gs, q, h => by cases ds <;> simp [DataW.weightsEach] at h
 | t :: ts, us, [], gs, q, h => by simp [DataW.weightsEach] at h
 | t :: ts, us, d :: ds, gs, q, h => by
   simp only [DataW.weightsEach, List.cons_append, List.mem_append] at h ⊢
   rcases h with h | h
   · exact .inl h
   · exact .inr (wt_left q h)
structure Opn (P : Program) (t : TypeId) (sz : Nat) {X : Type} (e : X → List AV) (ok : X → Prop) : Prop where
 len : ∀ x, (e x).length = sz
 cells : P.cellsOf t = sz
 read : ∀ (H : Type) (enc : TypeId × Value → H) (W : World) (n : Nat) (cs : List Value) (r : DataW H × List MemPlace), DataW.trod enc P W 0 (fun _ => true) true n t cs = some r → Wt P t r.1 →
   ∃ x, RelL (fun b => W.heap[b]?) ρ0 (e x) cs ∧ ok x ∧ ∀ v ∈ cs, v.oneCell' = true
theorem Opn.int {P : Program} {t : TypeId} (ht : P.underlying t = some (.int .i64)) (hc : P.cellsOf t = 1) : Opn P t 1 (fun x : Int => [.int .i64 x]) inI :=
 ⟨fun _ => rfl, hc, fun H enc W n cs r h _ => by
   obtain ⟨x, rfl, rfl, hw⟩ := DataW.trod_int ht h
   refine ⟨x, RelL.cons (.int _ _ _) (RelL.nil _ _), ?_, fun v hv => ?_⟩
   · have := bounds_i64 hw
     exact this
   · simp at hv; subst hv; rfl⟩
theorem Opn.bool {P : Program} {t : TypeId} (ht : P.underlying t = some .bool) (hc : P.cellsOf t = 1) : Opn P t 1 (fun x : Bool => [.bool x]) (fun _ => True) :=
 ⟨fun _ => rfl, hc, fun H enc W n cs r h _ => by
   obtain ⟨x, rfl, rfl⟩ := DataW.trod_bool ht h
   refine ⟨x, RelL.cons (.bool _ _) (RelL.nil _ _), trivial, fun v hv => ?_⟩
   simp at hv; subst hv; rfl⟩
theorem Opn.map {P : Program} {t : TypeId} {sz : Nat} {X Y : Type} {e : X → List AV} {ok : X → Prop} (h : Opn P t sz e ok) (f : X → Y) {e' : Y → List AV} {ok' : Y → Prop}
   (hl : ∀ y, (e' y).length = sz) (he : ∀ x, e' (f x) = e x) (ho : ∀ x, ok x → ok' (f x)) : Opn P t sz e' ok' :=
 ⟨hl, h.cells, fun H enc W n cs r hr hz => by
   obtain ⟨x, h1, h2, h3⟩ := h.read H enc W n cs r hr hz
   exact ⟨f x, by rw [he]; exact h1, ho x h2, h3⟩⟩
structure OpnF (P : Program) (fs : List (Nat × TypeId)) (off sz : Nat) {X : Type} (e : X → List AV) (ok : X → Prop) : Prop where
 len : ∀ x, (e x).length = sz
 read : ∀ (H : Type) (enc : TypeId × Value → H) (W : World) (n : Nat) (cs : List Value), cs.length = off + sz →
   (∀ f ∈ fs, ∃ r, DataW.trod enc P W 0 (fun _ => true) true n f.2 ((cs.drop f.1).take (P.cellsOf f.2)) = some r ∧ Wt P f.2 r.1) →
   ∃ x, RelL (fun b => W.heap[b]?) ρ0 (e x) (cs.drop off) ∧ ok x ∧ ∀ v ∈ cs.drop off, v.oneCell' = true
theorem OpnF.nil {P : Program} {off : Nat} : OpnF P [] off 0 (fun _ : Unit => []) (fun _ => True) :=
 ⟨fun _ => rfl, fun H enc W n cs hl _ => ⟨(), by rw [List.drop_eq_nil_of_le (by omega)]; exact RelL.nil _ _, trivial, by rw [List.drop_eq_nil_of_le (by omega)]; simp⟩⟩
theorem OpnF.cons {P : Program} {t : TypeId} {fs : List (Nat × TypeId)} {off s sz : Nat} {X Y : Type} {e : X → List AV} {ok : X → Prop} {e' : Y → List AV} {ok' : Y → Prop}
   (h : Opn P t s e ok) (h' : OpnF P fs (off + s) sz e' ok') : OpnF P ((off, t) :: fs) off (s + sz) (fun x : X × Y => e x.1 ++ e' x.2) (fun x => ok x.1 ∧ ok' x.2) :=
 ⟨fun x => by rw [List.length_append, h.len, h'.len], fun H enc W n cs hl hr => by
   obtain ⟨r, hr1, hr2⟩ := hr (off, t) (List.mem_cons_self ..)
   obtain ⟨x, h1, h2, h3⟩ := h.read H enc W n _ r hr1 hr2
   obtain ⟨y, k1, k2, k3⟩ := h'.read H enc W n cs (by omega) (fun f hf => hr f (List.mem_cons_of_mem _ hf))
   have e1 : cs.drop off = (cs.drop off).take s ++ cs.drop (off + s) := by
     rw [← List.drop_drop, List.take_append_drop]
   rw [h.cells] at h1 h3
   refine ⟨(x, y), ?_, ⟨h2, k2⟩, fun v hv => ?_⟩
   · rw [e1]; exact RelL.append h1 k1
   · rw [e1, List.mem_append] at hv
     exact hv.elim (h3 v) (k3 v)⟩
theorem Opn.struct {P : Program} {t : TypeId} {fs : Array Field} {sz : Nat} {X Y : Type} {e : X → List AV} {ok : X → Prop} (ht : P.underlying t = some (.struct fs)) (hc : P.cellsOf t = sz)
   (h : OpnF P (fs.toList.map fun f => (f.offset, f.type)) 0 sz e ok) (f : X → Y) {e' : Y → List AV} {ok' : Y → Prop}
   (hl : ∀ y, (e' y).length = sz) (he : ∀ x, e' (f x) = e x) (ho : ∀ x, ok x → ok' (f x)) : Opn P t sz e' ok' :=
 ⟨hl, hc, fun H enc W n cs r hr hz => by
   obtain ⟨xs, m, rfl, rfl, hlen, hx, hi⟩ := DataW.trod_struct ht hr
   obtain ⟨x, h1, h2, h3⟩ := h.read H enc W m cs (by rw [hlen, hc]; omega) (fun g hg => by
     obtain ⟨f0, hf0, rfl⟩ := List.mem_map.1 hg
     obtain ⟨i, hi1, hi2⟩ := List.getElem_of_mem hf0
     have hh := hi i f0 (by rw [← hi2]; simp)
     have hxi : i < xs.length := by rw [hx]; simpa using hi1
     refine ⟨xs[i]'hxi, ?_, fun q hq => hz q ?_⟩
     · rw [hh, List.getElem?_eq_getElem]
     · simp only [DataW.weights, ht]
       exact DataW.weights_mem_each (j := i) (t := f0.type) (d := (xs[i]'hxi).1) (by rw [List.getElem?_map, List.getElem?_eq_getElem hi1, hi2]; rfl) (by rw [List.getElem?_map, List.getElem?_eq_getElem hxi]; rfl) q hq)
   rw [List.drop_zero] at h1 h3
   exact ⟨f x, by rw [he]; exact h1, ho x h2, h3⟩⟩
def arrF (s : Nat) (t : TypeId) (off : Nat) : Nat → List (Nat × TypeId)
 | 0 => []
 | n + 1 => (off, t) :: arrF s t (off + s) n
theorem mem_arrF {s : Nat} {t : TypeId} : ∀ {n off : Nat} {f : Nat × TypeId}, f ∈ arrF s t off n → ∃ i, i < n ∧ f = (off + i * s, t)
 | 0, _, _, h => by cases h
 | n + 1, off, f, h => by
   rcases List.mem_cons.1 h with rfl | h
   · exact ⟨0, by omega, by simp⟩
   · obtain ⟨i, hi, rfl⟩ := mem_arrF h
     exact ⟨i + 1, by omega, by rw [Nat.add_mul]; simp; omega⟩
theorem Opn.array {P : Program} {t u : TypeId} {n s sz : Nat} {X Y : Type} {e : X → List AV} {ok : X → Prop} (ht : P.underlying t = some (.array n u)) (hc : P.cellsOf t = sz) (hu : P.cellsOf u = s)
   (h : OpnF P (arrF s u 0 n) 0 sz e ok) (f : X → Y) {e' : Y → List AV} {ok' : Y → Prop}
   (hl : ∀ y, (e' y).length = sz) (he : ∀ x, e' (f x) = e x) (ho : ∀ x, ok x → ok' (f x)) : Opn P t sz e' ok' :=
 ⟨hl, hc, fun H enc W m cs r hr hz => by
   obtain ⟨xs, m, rfl, rfl, hlen, hx, hi⟩ := DataW.trod_array ht hr
   obtain ⟨x, h1, h2, h3⟩ := h.read H enc W m cs (by rw [hlen, hc]; omega) (fun g hg => by
     obtain ⟨i, hi1, rfl⟩ := mem_arrF hg
     have hh := hi i hi1
     have hxi : i < xs.length := by rw [hx]; exact hi1
     refine ⟨xs[i]'hxi, ?_, fun q hq => hz q ?_⟩
     · rw [hu] at hh ⊢
       simp only [Nat.zero_add]
       rw [hh, List.getElem?_eq_getElem]
     · simp only [DataW.weights, ht]
       exact wt_all (List.mem_map.2 ⟨_, List.getElem_mem hxi, rfl⟩) q hq)
   rw [List.drop_zero] at h1 h3
   exact ⟨f x, by rw [he]; exact h1, ho x h2, h3⟩⟩
theorem choose_list {X : Type} [Inhabited X] {p : Nat → X → Prop} : ∀ (n : Nat), (∀ i, i < n → ∃ x, p i x) → ∃ l : List X, l.length = n ∧ ∀ i, i < n → p i (l.getD i default)
 | 0, _ => ⟨[], rfl, fun i hi => by omega⟩
 | n + 1, h => by
   obtain ⟨l, h1, h2⟩ := choose_list n (fun i hi => h i (by omega))
   obtain ⟨x, hx⟩ := h n (by omega)
   refine ⟨l ++ [x], by simp [h1], fun i hi => ?_⟩
   by_cases hn : i < n
   · have : (l ++ [x]).getD i default = l.getD i default := by
       simp [List.getD_eq_getElem?_getD, List.getElem?_append_left (h1 ▸ hn)]
     rw [this]; exact h2 i hn
   · have hi' : i = n := by omega
     subst hi'
     have : (l ++ [x]).getD i default = x := by
       simp [List.getD_eq_getElem?_getD, List.getElem?_append_right (Nat.le_of_eq h1), h1]
     rw [this]; exact hx
theorem cells?_get {w : World} {a : Addr} {n : Nat} {cs : List Value} (h : w.cells? 0 a n = some cs) : cs.length = n ∧ ∀ j, j < n → w.cell? (a.add j) = cs[j]? := by
 unfold World.cells? at h
 rw [if_pos (Nat.zero_le _)] at h
 exact ⟨by rw [mapM_some_length h]; simp, fun j hj => mapM_some_get h j j (by simp [hj])⟩
theorem Opn.slice {P : Program} {t u : TypeId} {s : Nat} {X : Type} [Inhabited X] {e : X → List AV} {ok : X → Prop} (ht : P.underlying t = some (.slice u)) (hc : P.cellsOf t = 1) (h : Opn P u s e ok) (hs : 0 < s) (hb : 1 ≤ P.bytesOf u) :
   Opn P t 1 (fun l : List X => [roL s e l]) (fun l => l.length ≤ 140737488351232 ∧ ∀ x ∈ l, ok x) :=
 ⟨fun _ => rfl, hc, fun H enc W m cs r hr hz => by
   rcases DataW.trod_slice ht hr with ⟨rfl, _⟩ | ⟨a, len, cap, elems, rest, n, rfl, rfl, rfl, -, hlc, hcm, hel, hi, -, -⟩
   · refine ⟨[], RelL.cons (.ro _ _ _ _ _ _ (fun _ => rfl) ⟨Nat.le_refl _, Nat.zero_le _⟩ (fun i hi => by cases hi) (fun i j hi => by cases hi) (fun k v hk => by simp at hk) (fun i j c v hi => by cases hi)) (RelL.nil _ _), ⟨Nat.zero_le _, by simp⟩, fun v hv => ?_⟩
     simp at hv; subst hv; rfl
   · have hz : ∀ q ∈ DataW.weights P t (.slice (elems.map (·.1)) (rest.map (·.1)) : DataW H), q ≤ reachBytes := hz
     have ew : DataW.weights P t (.slice (elems.map (·.1)) (rest.map (·.1)) : DataW H) = ((elems.map (·.1)).length + (rest.map (·.1)).length) * P.bytesOf u :: (DataW.weightsAll P u (elems.map (·.1)) ++ DataW.weightsAll P u (rest.map (·.1))) := by simp only [DataW.weights, ht]
     rw [ew] at hz
     obtain ⟨l, hl, hp⟩ := choose_list (X := X) (p := fun i x => ∃ ys : List Value, W.cells? 0 (a.add (i * s)) s = some ys ∧ RelL (fun b => W.heap[b]?) ρ0 (e x) ys ∧ ok x ∧ ∀ v ∈ ys, v.oneCell' = true) len (fun i hi' => by
       have := hi i hi'
       rw [h.cells, List.getElem?_eq_getElem (by omega)] at this
       obtain ⟨ys, h1, h2⟩ := Option.bind_eq_some_iff.1 this
       obtain ⟨x, k1, k2, k3⟩ := h.read H enc W n ys _ h2 (fun q hq => hz q (List.mem_cons_of_mem _ (List.mem_append_left _ (wt_all (List.mem_map.2 ⟨_, List.getElem_mem _, rfl⟩) q hq))))
       exact ⟨x, ys, h1, k1, k2, k3⟩)
     have hbig : len ≤ 140737488351232 := by
       have h1 := hz _ List.mem_cons_self
       rw [List.length_map, List.length_map] at h1
       have h2 : reachBytes = 140737488351232 := rfl
       have h3 : elems.length + rest.length ≤ (elems.length + rest.length) * P.bytesOf u := Nat.le_mul_of_pos_right _ hb
       omega
     subst hl
     have cell : ∀ i j, i < l.length → j < s → ∃ ys : List Value, ys.length = s ∧ RelL (fun b => W.heap[b]?) ρ0 (e (l.getD i default)) ys ∧ (∀ v ∈ ys, v.oneCell' = true) ∧ hcell (fun b => W.heap[b]?) (some a) (i * s + j) = ys[j]? := by
       intro i j hi' hj
       obtain ⟨ys, h1, h2, _, h4⟩ := hp i hi'
       obtain ⟨k1, k2⟩ := cells?_get h1
       refine ⟨ys, k1, h2, h4, ?_⟩
       rw [← k2 j hj, Addr.add_add]
       rfl
     refine ⟨l, RelL.cons (.ro _ _ _ _ _ _ (fun h => by cases h) ⟨hlc, by omega⟩ (fun i _ => h.len _) (fun i j hi' hj => ?_) (fun k v hk hv => ?_) (fun i j c v hi' hcj hv => ?_)) (RelL.nil _ _), ⟨hbig, fun x hx => ?_⟩, fun v hv => ?_⟩
     · obtain ⟨ys, k1, _, _, k4⟩ := cell i j hi' hj
       rw [k4, List.getElem?_eq_getElem (by omega)]; rfl
     · obtain ⟨ys, k1, _, k3, k4⟩ := cell (k / s) (k % s) (by rw [Nat.div_lt_iff_lt_mul hs]; exact hk) (Nat.mod_lt _ hs)
       rw [Nat.mul_comm, Nat.div_add_mod] at k4
       rw [k4] at hv
       exact k3 v (List.mem_of_getElem? hv)
     · have hj : j < s := by
         have := (List.getElem?_eq_some_iff.1 hcj).1
         rwa [h.len] at this
       obtain ⟨ys, k1, k2, _, k4⟩ := cell i j hi' hj
       rw [k4] at hv
       exact k2.2 j c v hcj hv
     · obtain ⟨i, hi1, rfl⟩ := List.getElem_of_mem hx
       obtain ⟨_, _, _, h3, _⟩ := hp i (by omega)
       rw [List.getD_eq_getElem?_getD, List.getElem?_eq_getElem hi1] at h3
       exact h3
     · simp at hv; subst hv; rfl⟩
def OpnT (P : Program) (t : TypeId) {X : Type} (e : X → AV) (ok : X → Prop) : Prop :=
 ∀ (H : Type) (enc : TypeId × Value → H) (W : World) (base : Nat) (v : Value) (d : DataW H) (ps : List MemPlace), Value.okWide P W .any base t v → DataW.Trod enc P W 0 (fun _ => true) true t v d ps → Wt P t d →
   ∃ x, Rel (fun b => W.heap[b]?) ρ0 (e x) v ∧ ok x
theorem OpnT.struct {P : Program} {t : TypeId} {fs : Array Field} {sz : Nat} {X : Type} {e : X → List AV} {ok : X → Prop} (ht : P.underlying t = some (.struct fs)) (h : Opn P t sz e ok) : OpnT P t (fun x => .agg (e x)) ok := by
 intro H enc W base v d ps hv hd hz
 obtain ⟨cs, rfl, _⟩ := okWide_struct ht hv
 obtain ⟨n, hn⟩ := hd
 obtain ⟨x, h1, h2, _⟩ := h.read H enc W n _ _ hn hz
 refine ⟨x, ?_, h2⟩
 have : (Value.agg cs) = .agg (Value.agg cs).cells.toList.toArray := by simp [Value.cells]
 rw [this]
 exact .agg _ _ _ h1.1 h1.2
theorem OpnT.array {P : Program} {t u : TypeId} {n sz : Nat} {X : Type} {e : X → List AV} {ok : X → Prop} (ht : P.underlying t = some (.array n u)) (h : Opn P t sz e ok) : OpnT P t (fun x => .agg (e x)) ok := by
 intro H enc W base v d ps hv hd hz
 obtain ⟨cs, rfl⟩ : ∃ cs, v = .agg cs := by
   simp only [Value.okWide, ht] at hv
   obtain ⟨cs, h1, _⟩ := hv
   exact ⟨cs, h1⟩
 obtain ⟨n, hn⟩ := hd
 obtain ⟨x, h1, h2, _⟩ := h.read H enc W n _ _ hn hz
 refine ⟨x, ?_, h2⟩
 have : (Value.agg cs) = .agg (Value.agg cs).cells.toList.toArray := by simp [Value.cells]
 rw [this]
 exact .agg _ _ _ h1.1 h1.2
theorem OpnT.int {P : Program} {t : TypeId} (ht : P.underlying t = some (.int .i64)) : OpnT P t (fun x : Int => .int .i64 x) inI := by
 intro H enc W base v d ps hv hd hz
 obtain ⟨n, rfl⟩ := okWide_int ht hv
 obtain ⟨m, hn⟩ := hd
 obtain ⟨x, h1, _, hw⟩ := DataW.trod_int ht hn
 simp only [Value.cells, List.cons.injEq, Value.int.injEq, and_true, true_and] at h1
 subst h1
 exact ⟨n, .int _ _ _, bounds_i64 hw⟩
theorem OpnT.bool {P : Program} {t : TypeId} (ht : P.underlying t = some .bool) : OpnT P t (fun x : Bool => .bool x) (fun _ => True) := by
 intro H enc W base v d ps hv hd hz
 obtain ⟨n, rfl⟩ := okWide_bool ht hv
 exact ⟨n, .bool _ _, trivial⟩
theorem OpnT.slice {P : Program} {t u : TypeId} {s : Nat} {X : Type} [Inhabited X] {e : X → List AV} {ok : X → Prop} (ht : P.underlying t = some (.slice u)) (hc : P.cellsOf t = 1) (h : Opn P u s e ok) (hs : 0 < s) (hb : 1 ≤ P.bytesOf u) :
   OpnT P t (fun l : List X => roL s e l) (fun l => l.length ≤ 140737488351232 ∧ ∀ x ∈ l, ok x) := by
 intro H enc W base v d ps hv hd hz
 obtain ⟨a, len, cap, rfl⟩ := okWide_slice ht hv
 obtain ⟨n, hn⟩ := hd
 obtain ⟨x, h1, h2, _⟩ := (Opn.slice ht hc h hs hb).read H enc W n _ _ hn hz
 exact ⟨x, h1.2 0 _ _ (by simp) (by simp [Value.cells]), h2⟩
def OpnA (P : Program) (ts : List TypeId) {X : Type} (e : X → List AV) (ok : X → Prop) : Prop :=
 ∀ (H : Type) (enc : TypeId × Value → H) (W : World) (base : Nat) (vs : List Value) (ds : List (DataW H)) (ps : List MemPlace), (∀ (j : Nat) t v, ts[j]? = some t → vs[j]? = some v → Value.okWide P W .any base t v) →
   DataW.TrodAll enc P W 0 (fun _ => true) true ts vs ds ps → (∀ q ∈ DataW.weightsEach P ts ds, q ≤ reachBytes) → ds.length = ts.length ∧ ∃ x, RelL (fun b => W.heap[b]?) ρ0 (e x) vs ∧ ok x
theorem OpnA.nil {P : Program} : OpnA P [] (fun _ : Unit => []) (fun _ => True) := by
 intro H enc W base vs ds ps _ h _
 obtain ⟨rfl, rfl, _⟩ := trodAll_nil h
 exact ⟨rfl, (), RelL.nil _ _, trivial⟩
theorem OpnA.cons {P : Program} {t : TypeId} {ts : List TypeId} {X Y : Type} {e : X → AV} {ok : X → Prop} {e' : Y → List AV} {ok' : Y → Prop} (h : OpnT P t e ok) (h' : OpnA P ts e' ok') :
   OpnA P (t :: ts) (fun x : X × Y => e x.1 :: e' x.2) (fun x => ok x.1 ∧ ok' x.2) := by
 intro H enc W base vs ds ps hv hA hz
 obtain ⟨v, vs', d, ds', p, q, rfl, rfl, rfl, h1, h2⟩ := trodAll_cons hA
 obtain ⟨x, k1, k2⟩ := h H enc W base v d p (hv 0 t v (by simp) (by simp)) h1 (fun q hq => hz q (by simp only [DataW.weightsEach, List.mem_append]; exact .inl hq))
 obtain ⟨hl, y, k3, k4⟩ := h' H enc W base vs' ds' q (fun j t' v' a b => hv (j + 1) t' v' (by simpa using a) (by simpa using b)) h2 (fun q hq => hz q (by simp only [DataW.weightsEach, List.mem_append]; exact .inr hq))
 exact ⟨by simp [hl], (x, y), RelL.cons k1 k3, k2, k4⟩
theorem post_fresh {H : Type} {enc : TypeId × Value → H} {P : Program} {f : Func} {s : ChangeSpec} {apart fresh handsOn again : Bool} {W W' : World} {args : Array Value} {v : Value} {ds gs : List (DataW H)} {before pa pv : List MemPlace}
   (hW : DataW.Whole enc P f.params.toList s.vars apart W args.toList ds gs before)
   (hres : ∀ (b : Nat) (sp : Nat → Bool) (hd : Bool), DataW.TrodAll enc P W' b sp hd f.resultTypes.toList (v.resultList f.resultTypes.size) (s.fn H (ds ++ gs)).results [])
   (hargs : ∀ sp : Nat → Bool, (∀ p ∈ before, sp p.block = true) → DataW.TrodAll enc P W' 0 sp true f.params.toList args.toList (s.fn H (ds ++ gs)).args pa)
   (hvars : ∀ sp : Nat → Bool, (∀ p ∈ before, sp p.block = true) → DataW.TrodVars enc P W' sp s.vars (s.fn H (ds ++ gs)).vars pv)
   (hps : before = pa ++ pv) (hb : Below W.heap.size W W')
   (hok : ∀ (j : Nat) (t : TypeId) (r : Value), f.resultTypes[j]? = some t → (v.resultList f.resultTypes.size)[j]? = some r → Value.okWide P W' .any 0 t r) :
   s.post enc P f apart fresh handsOn again W args v W' := by
 have hlt : ∀ p ∈ before, p.block < W.heap.size := fun p hp => hW.lt p hp
 have hold : ∀ p ∈ before, (fun b => decide (b < W.heap.size)) p.block = true := fun p hp => by simpa using hlt p hp
 refine ⟨ds, gs, before, [], pa, pv, hW, hres _ _ _, hargs _ hold, hvars _ hold, World.keptBut_mono (fun p hp => ⟨hp, ?_⟩) (hb.frame (· ∈ before)), fun _ => ?_⟩
 · rw [hps, List.mem_append] at hp
   exact Or.inr hp
 · obtain ⟨_, _, _, _, _, hz, hn⟩ := hW
   refine ⟨hok, _, _, ([] ++ pa) ++ pv, ⟨[] ++ pa, pv, trodAll_append (hargs _ (fun _ _ => rfl)) (hres _ _ _), hvars _ (fun _ _ => rfl), rfl, ?_, ?_⟩, ?_⟩
   · intro b off hp
     have hin : MemPlace.cell b off ∈ before := by rw [hps]; simpa using hp
     rw [hb.frozen (hlt _ hin)]
     exact hz b off hin
   · intro ha
     have := hn ha
     rw [hps] at this
     simpa using this
   · intro p hp _
     rw [hps]
     simpa using hp
theorem TrodAll_carry {H : Type} {enc : TypeId × Value → H} {P : Program} {w w' : World} {base : Nat} {spare : Nat → Bool} {held : Bool} : ∀ {ts : List TypeId} {vs : List Value} {ds : List (DataW H)} {ps : List MemPlace},
   DataW.TrodAll enc P w base spare held ts vs ds ps → (∀ p ∈ ps, w.sameAt w' p) → DataW.TrodAll enc P w' base spare held ts vs ds ps
 | [], [], [], _, h, _ => h
 | _ :: _, _ :: _, _ :: _, _, ⟨p, q, ⟨n, h1⟩, h2, e⟩, hs => ⟨p, q, ⟨n, DataW.trod_carry n _ _ _ h1 (fun x hx => hs x (by rw [e]; exact List.mem_append_left _ hx))⟩,
     TrodAll_carry h2 (fun x hx => hs x (by rw [e]; exact List.mem_append_right _ hx)), e⟩
theorem law_calls {P : Program} {f : FuncId} {fn : Func} {s : ChangeSpec} {apart fresh handsOn again : Bool} {X : Type} {e : X → List AV} {ok : X → Prop} {tb : TypeId}
   (hkids : Kids P (· < P.types.size)) (hfull : ∀ t e, t < P.types.size → P.underlying t = some (.slice e) → 0 < P.cellsOf e) (hp : fn.params.toList.all (· < P.types.size) = true)
   (hA : OpnA P fn.params.toList e ok) (hs : s.vars = []) (hfn : ∀ (H : Type) (ds : List (DataW H)), ds.length = fn.params.toList.length → s.fn H ds = ⟨[.lit (.bool true)], ds, []⟩)
   (hr : fn.resultTypes = #[tb]) (htb : P.underlying tb = some .bool) (hC : ∀ x, ok x → Ctr P f (e x) (.bool true))
   (H : Type) (enc : TypeId × Value → H) (W : World) (base : Nat) (args : Array Value) (ds gs : List (DataW H)) (before : List MemPlace)
   (hval : ∀ (j : Nat) t v, fn.params[j]? = some t → args[j]? = some v → Value.okWide P W .any base t v) (hW : DataW.Whole enc P fn.params.toList s.vars apart W args.toList ds gs before)
   (hbig : (DataW.weightsEach P (fn.params.toList ++ s.plain.varTypes P) (ds ++ gs)).all (· ≤ reachBytes) = true) :
   Calls P f args W fun e W' => ∃ v, e = .returned v ∧ s.post enc P fn apart fresh handsOn again W args v W' := by
 obtain ⟨p, q, hT, hV, hps, hz, hn⟩ := id hW
 have hV' := hV
 rw [hs] at hV'
 obtain ⟨rfl, rfl⟩ := trodVars_none hV'
 obtain ⟨hl, x, hx, hok⟩ := hA H enc W base args.toList ds p (fun j t v a b => hval j t v (by simpa using a) (by simpa using b)) hT (fun q hq => by have := List.all_eq_true.1 hbig q (wt_left q hq); simpa using this)
 have hc := ((hC x hok).2 (fun b => W.heap[b]?) W args.toList hx (fun b o h => h)).calls (fun k d hd => by cases hd)
 rw [Array.toArray_toList] at hc
 refine hc.mono fun en W' hpost => ?_
 cases en with
 | panicked c => exact hpost.elim
 | outgrown => exact hpost.elim
 | returned v =>
   obtain ⟨h', ρ', hb, _, _, hv, _⟩ := hpost
   cases hv
   refine ⟨_, rfl, post_fresh (pa := p) (pv := []) hW (fun b sp hd => ?_) (fun sp hsp => ?_) (fun sp hsp => ?_) hps hb (fun j t r h1 h2 => ?_)⟩
   · rw [List.append_nil, hfn H ds hl, hr]
     exact ⟨[], [], shut_bool htb true, rfl, rfl⟩
   · rw [List.append_nil, hfn H ds hl]
     have hlt : ∀ y ∈ p, y.block < W.heap.size := fun y hy => hW.lt y (by rw [hps]; exact List.mem_append_left _ hy)
     exact TrodAll_carry (DataW.TrodAll.respare hkids hfull (fun t ht => by simpa using List.all_eq_true.1 hp t ht) hT (fun y hy => hsp y (by rw [hps]; exact List.mem_append_left _ hy))) (fun y hy => hb.same (hlt y hy))
   · rw [List.append_nil, hfn H ds hl, hs]
     rfl
   · rw [hr] at h1 h2
     have hj : j = 0 := by
       have := (Array.getElem?_eq_some_iff.1 h1).1
       simpa using this
     subst hj
     simp [Value.resultList] at h1 h2
     subst h1 h2
     simp [Value.okWide, htb, Cell.okWide, Cell.ok]
end Go.Av
end
/- Printed by gen.py. -/
section
set_option linter.all false
set_option linter.unusedVariables false
namespace Go.Sp
open Go.Av
structure Task where
 Lamp : Int
 Place : Int
 At : Int
 Serve : Int
 deriving Inhabited, DecidableEq
structure Range where
 Lo : Int
 Hi : Int
 deriving Inhabited, DecidableEq
structure Hand where
 Id : Int
 From : Int
 To : Int
 deriving Inhabited, DecidableEq
structure Crew where
 Tasks : (List Task)
 Travel : (List (List Range))
 Hands : (List Hand)
 deriving Inhabited, DecidableEq
structure gasolierlaw04_Plan where
 Rounds : (List (List Int))
 Cut : (List Int)
 Size : Int
 Walks : (List (List Int))
 Hands : (List Int)
 deriving Inhabited, DecidableEq
structure crew_plan where
 Crew : Crew
 next : (List Int)
 deriving Inhabited, DecidableEq
structure crew_shift where
 plan : (Option crew_plan)
 rounds : (List (List Int))
 deriving Inhabited, DecidableEq
structure gasolierref04_Job where
 Crew : Crew
 Rounds : (List (List Int))
 Of : (List Int)
 Seen : (List Bool)
 deriving Inhabited, DecidableEq
def crew_in (p0 : Int) (p1 : Int) (p2 : Int) : Bool :=
 ((decide (p1 ≤ p0)) && (decide (p0 ≤ p2)))
def crew_isTravel (p0 : (List (List Range))) : Option Bool :=
 (bif (decide (12 < ((p0.length : Nat) : Int))) then some false else (rangeGo (fun i2 (s2 : Unit) k2 => must (((!(!decide ((((p0.getD i2 default).length : Nat) : Int) = ((p0.length : Nat) : Int)))) = true → (0 ≤ ((i2 : Int) : Int) ∧ ((i2 : Int) : Int) < (((p0.getD i2 default).length : Nat) : Int)))) <| (bif ((!decide ((((p0.getD i2 default).length : Nat) : Int) = ((p0.length : Nat) : Int))) || (!((decide (((p0.getD i2 default).getD i2 default).Lo = 0)) && (decide (((p0.getD i2 default).getD i2 default).Hi = 0))))) then some false else (rangeGo (fun i6 (s6 : Unit) k6 => (bif ((!(crew_in (((p0.getD i2 default).getD i6 default).Lo) 0 (((p0.getD i2 default).getD i6 default).Hi))) || (decide (600 < ((p0.getD i2 default).getD i6 default).Hi))) then some false else k6 ())) (fun (s6 : Unit) => k2 ()) ((p0.getD i2 default).length) 0 ()))) (fun (s2 : Unit) => (rangeGo (fun i9 (s9 : Unit) k9 => (rangeGo (fun i11 (s11 : Unit) k11 => (rangeGo (fun i13 (s13 : Unit) k13 => must (0 ≤ ((i13 : Int) : Int) ∧ ((i13 : Int) : Int) < (((p0.getD i9 default).length : Nat) : Int)) <| must (0 ≤ ((i11 : Int) : Int) ∧ ((i11 : Int) : Int) < (((p0.getD i9 default).length : Nat) : Int)) <| must (0 ≤ ((i13 : Int) : Int) ∧ ((i13 : Int) : Int) < (((p0.getD i11 default).length : Nat) : Int)) <| must (inI (((p0.getD i9 default).getD i11 default).Lo + ((p0.getD i11 default).getD i13 default).Lo)) <| must (((!(decide ((((p0.getD i9 default).getD i11 default).Lo + ((p0.getD i11 default).getD i13 default).Lo) < ((p0.getD i9 default).getD i13 default).Lo))) = true → (0 ≤ ((i13 : Int) : Int) ∧ ((i13 : Int) : Int) < (((p0.getD i9 default).length : Nat) : Int)))) <| must (((!(decide ((((p0.getD i9 default).getD i11 default).Lo + ((p0.getD i11 default).getD i13 default).Lo) < ((p0.getD i9 default).getD i13 default).Lo))) = true → (0 ≤ ((i11 : Int) : Int) ∧ ((i11 : Int) : Int) < (((p0.getD i9 default).length : Nat) : Int)))) <| must (((!(decide ((((p0.getD i9 default).getD i11 default).Lo + ((p0.getD i11 default).getD i13 default).Lo) < ((p0.getD i9 default).getD i13 default).Lo))) = true → (0 ≤ ((i13 : Int) : Int) ∧ ((i13 : Int) : Int) < (((p0.getD i11 default).length : Nat) : Int)))) <| must (((!(decide ((((p0.getD i9 default).getD i11 default).Lo + ((p0.getD i11 default).getD i13 default).Lo) < ((p0.getD i9 default).getD i13 default).Lo))) = true → (inI (((p0.getD i9 default).getD i11 default).Hi + ((p0.getD i11 default).getD i13 default).Hi)))) <| (bif ((decide ((((p0.getD i9 default).getD i11 default).Lo + ((p0.getD i11 default).getD i13 default).Lo) < ((p0.getD i9 default).getD i13 default).Lo)) || (decide ((((p0.getD i9 default).getD i11 default).Hi + ((p0.getD i11 default).getD i13 default).Hi) < ((p0.getD i9 default).getD i13 default).Hi))) then some false else k13 ())) (fun (s13 : Unit) => k11 ()) p0.length 0 ())) (fun (s11 : Unit) => k9 ()) p0.length 0 ())) (fun (s9 : Unit) => some true) p0.length 0 ())) p0.length 0 ()))
def crew_isMinute (p0 : Int) : Bool :=
 (crew_in p0 0 1439)
def crew_CheckTask (p0 : Task) : Int :=
 (bif ((((!(crew_in p0.Lamp 1 999)) || (!(crew_in p0.Place 0 11))) || (!(crew_isMinute p0.At))) || (!(crew_in p0.Serve 1 120))) then 40 else 0)
def crew_CheckHand (p0 : Hand) : Int :=
 (bif (((!(crew_in p0.Id 1 99)) || (!(crew_isMinute p0.From))) || (!(crew_in p0.To p0.From 1439))) then 41 else 0)
def crew_Check (p0 : Crew) : Option Int :=
 bindO ((bif (!((decide (24 < ((p0.Tasks.length : Nat) : Int))) || (decide (16 < ((p0.Hands.length : Nat) : Int))))) then crew_isTravel p0.Travel else some default)) fun y1 => (bif (((decide (24 < ((p0.Tasks.length : Nat) : Int))) || (decide (16 < ((p0.Hands.length : Nat) : Int)))) || (!y1)) then some 42 else (rangeGo (fun i4 (s4 : Unit) k4 => must ((((!((!decide ((crew_CheckTask (p0.Tasks.getD i4 default)) = 0)) || (decide (((p0.Travel.length : Nat) : Int) ≤ (p0.Tasks.getD i4 default).Place)))) && (decide (0 < (i4 : Int)))) = true → (inI ((i4 : Int) - 1)))) <| must ((((!((!decide ((crew_CheckTask (p0.Tasks.getD i4 default)) = 0)) || (decide (((p0.Travel.length : Nat) : Int) ≤ (p0.Tasks.getD i4 default).Place)))) && (decide (0 < (i4 : Int)))) = true → (0 ≤ (((i4 : Int) - 1) : Int) ∧ (((i4 : Int) - 1) : Int) < ((p0.Tasks.length : Nat) : Int)))) <| (bif (((!decide ((crew_CheckTask (p0.Tasks.getD i4 default)) = 0)) || (decide (((p0.Travel.length : Nat) : Int) ≤ (p0.Tasks.getD i4 default).Place))) || ((decide (0 < (i4 : Int))) && (decide ((p0.Tasks.getD i4 default).Lamp ≤ (p0.Tasks.getD (((i4 : Int) - 1)).toNat default).Lamp)))) then some 42 else k4 ())) (fun (s4 : Unit) => (rangeGo (fun i9 (s9 : Unit) k9 => must ((((!(!decide ((crew_CheckHand (p0.Hands.getD i9 default)) = 0))) && (decide (0 < (i9 : Int)))) = true → (inI ((i9 : Int) - 1)))) <| must ((((!(!decide ((crew_CheckHand (p0.Hands.getD i9 default)) = 0))) && (decide (0 < (i9 : Int)))) = true → (0 ≤ (((i9 : Int) - 1) : Int) ∧ (((i9 : Int) - 1) : Int) < ((p0.Hands.length : Nat) : Int)))) <| (bif ((!decide ((crew_CheckHand (p0.Hands.getD i9 default)) = 0)) || ((decide (0 < (i9 : Int))) && (decide ((p0.Hands.getD i9 default).Id ≤ (p0.Hands.getD (((i9 : Int) - 1)).toNat default).Id)))) then some 42 else k9 ())) (fun (s9 : Unit) => some 0) p0.Hands.length 0 ())) p0.Tasks.length 0 ()))
def crew_spare (p0 : Crew) (p1 : Int) (p2 : Int) (p3 : Range → Option Int) : Option Int :=
 must (0 ≤ (p1 : Int) ∧ (p1 : Int) < ((p0.Tasks.length : Nat) : Int)) <| must (0 ≤ (p2 : Int) ∧ (p2 : Int) < ((p0.Tasks.length : Nat) : Int)) <| must (inI ((p0.Tasks.getD (p2).toNat default).At - (p0.Tasks.getD (p1).toNat default).At)) <| must (inI (((p0.Tasks.getD (p2).toNat default).At - (p0.Tasks.getD (p1).toNat default).At) - (p0.Tasks.getD (p1).toNat default).Serve)) <| must (0 ≤ ((p0.Tasks.getD (p1).toNat default).Place : Int) ∧ ((p0.Tasks.getD (p1).toNat default).Place : Int) < ((p0.Travel.length : Nat) : Int)) <| must (0 ≤ ((p0.Tasks.getD (p2).toNat default).Place : Int) ∧ ((p0.Tasks.getD (p2).toNat default).Place : Int) < (((p0.Travel.getD ((p0.Tasks.getD (p1).toNat default).Place).toNat default).length : Nat) : Int)) <| bindO (p3 ((p0.Travel.getD ((p0.Tasks.getD (p1).toNat default).Place).toNat default).getD ((p0.Tasks.getD (p2).toNat default).Place).toNat default)) fun y7 => must (inI ((((p0.Tasks.getD (p2).toNat default).At - (p0.Tasks.getD (p1).toNat default).At) - (p0.Tasks.getD (p1).toNat default).Serve) - y7)) <| some ((((p0.Tasks.getD (p2).toNat default).At - (p0.Tasks.getD (p1).toNat default).At) - (p0.Tasks.getD (p1).toNat default).Serve) - y7)
def crew_newPlan (p0 : Crew) (p1 : Range → Option Int) : Option (Option crew_plan) :=
 must (0 ≤ (((p0.Tasks.length : Nat) : Int) : Int) ∧ (((p0.Tasks.length : Nat) : Int) : Int) ≤ ((p0.Tasks.length : Nat) : Int) ∧ room (((p0.Tasks.length : Nat) : Int)).toNat 8) <| must (p0.Tasks.length ≤ 9223372036854775807) <| (rangeGo (fun i2 (s2 : (List Int)) k2 => must (p0.Tasks.length ≤ 9223372036854775807) <| (rangeGo (fun i4 (s4 : (List Int)) k4 => bindO ((bif (!decide ((i2 : Int) = (i4 : Int))) then crew_spare p0 (i2 : Int) (i4 : Int) p1 else some default)) fun y6 => (bif ((!decide ((i2 : Int) = (i4 : Int))) && (decide (0 ≤ y6))) then must (0 ≤ ((i2 : Int) : Int) ∧ ((i2 : Int) : Int) < ((s4.length : Nat) : Int)) <| must (0 ≤ ((i4 : Int) : Int) ∧ ((i4 : Int) : Int) < 64 ∧ inI ((1 : Int) * 2 ^ ((i4 : Int) : Int).toNat)) <| must (0 ≤ ((s4.getD i2 default) : Int) ∧ 0 ≤ (((1 : Int) * 2 ^ ((i4 : Int) : Int).toNat) : Int) ∧ inI (s4.getD i2 default) ∧ inI ((1 : Int) * 2 ^ ((i4 : Int) : Int).toNat)) <| must (0 ≤ ((i2 : Int) : Int) ∧ ((i2 : Int) : Int) < ((s4.length : Nat) : Int)) <| k4 (s4.set i2 ((((s4.getD i2 default) : Int).toNat ||| (((1 : Int) * 2 ^ ((i4 : Int) : Int).toNat) : Int).toNat : Nat) : Int)) else k4 s4)) (fun (s4 : (List Int)) => k2 s4) p0.Tasks.length 0 s2)) (fun (s2 : (List Int)) => some (some (⟨p0, s2⟩ : crew_plan))) p0.Tasks.length 0 (List.replicate (((p0.Tasks.length : Nat) : Int)).toNat (0 : Int)))
def crew_most (p0 : Range) : Int :=
 p0.Hi
def crew_plan__isRound (p0 : crew_plan) (p1 : (List Int)) : Option Bool :=
 (rangeGo (fun i1 (s1 : Unit) k1 => must (inI (((p0.next.length : Nat) : Int) - 1)) <| must ((((!(!(crew_in (p1.getD i1 default) 0 (((p0.next.length : Nat) : Int) - 1)))) && (decide (0 < (i1 : Int)))) = true → (inI ((i1 : Int) - 1)))) <| must ((((!(!(crew_in (p1.getD i1 default) 0 (((p0.next.length : Nat) : Int) - 1)))) && (decide (0 < (i1 : Int)))) = true → (0 ≤ (((i1 : Int) - 1) : Int) ∧ (((i1 : Int) - 1) : Int) < ((p1.length : Nat) : Int)))) <| must ((((!(!(crew_in (p1.getD i1 default) 0 (((p0.next.length : Nat) : Int) - 1)))) && (decide (0 < (i1 : Int)))) = true → (0 ≤ ((p1.getD (((i1 : Int) - 1)).toNat default) : Int) ∧ ((p1.getD (((i1 : Int) - 1)).toNat default) : Int) < ((p0.next.length : Nat) : Int)))) <| must ((((!(!(crew_in (p1.getD i1 default) 0 (((p0.next.length : Nat) : Int) - 1)))) && (decide (0 < (i1 : Int)))) = true → (0 ≤ ((p1.getD i1 default) : Int) ∧ ((p1.getD i1 default) : Int) < 64))) <| must ((((!(!(crew_in (p1.getD i1 default) 0 (((p0.next.length : Nat) : Int) - 1)))) && (decide (0 < (i1 : Int)))) = true → (0 ≤ ((Int.fdiv (p0.next.getD ((p1.getD (((i1 : Int) - 1)).toNat default)).toNat default) (2 ^ ((p1.getD i1 default) : Int).toNat)) : Int) ∧ 0 ≤ (1 : Int) ∧ inI (Int.fdiv (p0.next.getD ((p1.getD (((i1 : Int) - 1)).toNat default)).toNat default) (2 ^ ((p1.getD i1 default) : Int).toNat)) ∧ inI 1))) <| (bif ((!(crew_in (p1.getD i1 default) 0 (((p0.next.length : Nat) : Int) - 1))) || ((decide (0 < (i1 : Int))) && (decide (((((Int.fdiv (p0.next.getD ((p1.getD (((i1 : Int) - 1)).toNat default)).toNat default) (2 ^ ((p1.getD i1 default) : Int).toNat)) : Int).toNat &&& (1 : Int).toNat : Nat) : Int) = 0)))) then some false else k1 ())) (fun (s1 : Unit) => some (decide (0 < ((p1.length : Nat) : Int)))) p1.length 0 ())
def crew_plan__areRounds (p0 : crew_plan) (p1 : (List (List Int))) : Option Bool :=
 (rangeGo (fun i1 (s1 : Int) k1 => bindO (crew_plan__isRound p0 (p1.getD i1 default)) fun y3 => must ((((!(!y3)) && (decide (0 < (i1 : Int)))) = true → (inI ((i1 : Int) - 1)))) <| must ((((!(!y3)) && (decide (0 < (i1 : Int)))) = true → (0 ≤ (((i1 : Int) - 1) : Int) ∧ (((i1 : Int) - 1) : Int) < ((p1.length : Nat) : Int)))) <| must ((((!(!y3)) && (decide (0 < (i1 : Int)))) = true → (0 ≤ (0 : Int) ∧ (0 : Int) < (((p1.getD (((i1 : Int) - 1)).toNat default).length : Nat) : Int)))) <| must ((((!(!y3)) && (decide (0 < (i1 : Int)))) = true → (0 ≤ (0 : Int) ∧ (0 : Int) < (((p1.getD i1 default).length : Nat) : Int)))) <| (bif ((!y3) || ((decide (0 < (i1 : Int))) && (decide (((p1.getD i1 default).getD 0 default) ≤ ((p1.getD (((i1 : Int) - 1)).toNat default).getD 0 default))))) then some false else (rangeGo (fun i10 (s10 : Int) k10 => must (0 ≤ (((p1.getD i1 default).getD i10 default) : Int) ∧ (((p1.getD i1 default).getD i10 default) : Int) < 64) <| must (0 ≤ ((Int.fdiv s10 (2 ^ (((p1.getD i1 default).getD i10 default) : Int).toNat)) : Int) ∧ 0 ≤ (1 : Int) ∧ inI (Int.fdiv s10 (2 ^ (((p1.getD i1 default).getD i10 default) : Int).toNat)) ∧ inI 1) <| (bif (decide (((((Int.fdiv s10 (2 ^ (((p1.getD i1 default).getD i10 default) : Int).toNat)) : Int).toNat &&& (1 : Int).toNat : Nat) : Int) = 1)) then some false else must (0 ≤ (((p1.getD i1 default).getD i10 default) : Int) ∧ (((p1.getD i1 default).getD i10 default) : Int) < 64 ∧ inI ((1 : Int) * 2 ^ (((p1.getD i1 default).getD i10 default) : Int).toNat)) <| must (0 ≤ (s10 : Int) ∧ 0 ≤ (((1 : Int) * 2 ^ (((p1.getD i1 default).getD i10 default) : Int).toNat) : Int) ∧ inI s10 ∧ inI ((1 : Int) * 2 ^ (((p1.getD i1 default).getD i10 default) : Int).toNat)) <| k10 (((s10 : Int).toNat ||| (((1 : Int) * 2 ^ (((p1.getD i1 default).getD i10 default) : Int).toNat) : Int).toNat : Nat) : Int))) (fun (s10 : Int) => k1 s10) ((p1.getD i1 default).length) 0 s1))) (fun (s1 : Int) => must (0 ≤ (((p0.next.length : Nat) : Int) : Int) ∧ (((p0.next.length : Nat) : Int) : Int) < 64 ∧ inI ((1 : Int) * 2 ^ (((p0.next.length : Nat) : Int) : Int).toNat)) <| must (inI (((1 : Int) * 2 ^ (((p0.next.length : Nat) : Int) : Int).toNat) - 1)) <| some (decide (s1 = (((1 : Int) * 2 ^ (((p0.next.length : Nat) : Int) : Int).toNat) - 1)))) p1.length 0 0)
def crew_asked (p0 : Crew) (p1 : (List (List Int))) : Option ((Option crew_plan) × Int) :=
 bindO (crew_Check p0) fun y1 => (bif (!decide (y1 = 0)) then some ((none : (Option crew_plan)), y1) else bindO (crew_newPlan p0 (fun x0 => some (crew_most x0))) fun y4 => must (y4.isSome = true) <| bindO (crew_plan__areRounds (y4.getD default) p1) fun y7 => (bif (!y7) then some ((none : (Option crew_plan)), 43) else some (y4, 0)))
def crew_Slack (fuel : Nat) (p0 : Crew) (p1 : (List (List Int))) : Option (Int × Int) :=
 bindO (crew_asked p0 p1) fun y1 => (bif (!decide (y1.2 = 0)) then some (0, y1.2) else (rangeGo (fun i4 (s4 : Int) k4 => (loopGo (fun (s6 : Int × Int) k6 => (bif (decide (s6.1 < (((p1.getD i4 default).length : Nat) : Int))) then must (inI (s6.1 - 1)) <| must (0 ≤ ((s6.1 - 1) : Int) ∧ ((s6.1 - 1) : Int) < (((p1.getD i4 default).length : Nat) : Int)) <| must (0 ≤ (s6.1 : Int) ∧ (s6.1 : Int) < (((p1.getD i4 default).length : Nat) : Int)) <| bindO (crew_spare p0 ((p1.getD i4 default).getD ((s6.1 - 1)).toNat default) ((p1.getD i4 default).getD (s6.1).toNat default) (fun x0 => some (crew_most x0))) fun y11 => (bif ((decide (s6.2 < 0)) || (decide (y11 < s6.2))) then must (inI (s6.1 + 1)) <| k6 ((s6.1 + 1), y11) else must (inI (s6.1 + 1)) <| k6 ((s6.1 + 1), s6.2)) else k4 s6.2)) fuel (1, s4))) (fun (s4 : Int) => (bif (decide (s4 < 0)) then some (0, 3) else some (s4, 0))) p1.length 0 (-1)))
def gasolierref01_IsRange (p0 : Range) (p1 : Int) (p2 : Int) : Bool :=
 (((decide (p1 ≤ p0.Lo)) && (decide (p0.Lo ≤ p0.Hi))) && (decide (p0.Hi ≤ p2)))
def gasolierref04_isTravel (p0 : (List (List Range))) : Option Bool :=
 (bif (decide (12 < ((p0.length : Nat) : Int))) then some false else (rangeGo (fun i2 (s2 : Unit) k2 => must (((!(!decide ((((p0.getD i2 default).length : Nat) : Int) = ((p0.length : Nat) : Int)))) = true → (0 ≤ ((i2 : Int) : Int) ∧ ((i2 : Int) : Int) < (((p0.getD i2 default).length : Nat) : Int)))) <| (bif ((!decide ((((p0.getD i2 default).length : Nat) : Int) = ((p0.length : Nat) : Int))) || (!((decide (((p0.getD i2 default).getD i2 default).Lo = 0)) && (decide (((p0.getD i2 default).getD i2 default).Hi = 0))))) then some false else (rangeGo (fun i6 (s6 : Unit) k6 => (bif (!(gasolierref01_IsRange ((p0.getD i2 default).getD i6 default) 0 600)) then some false else k6 ())) (fun (s6 : Unit) => k2 ()) ((p0.getD i2 default).length) 0 ()))) (fun (s2 : Unit) => (rangeGo (fun i9 (s9 : Unit) k9 => (rangeGo (fun i11 (s11 : Unit) k11 => (rangeGo (fun i13 (s13 : Unit) k13 => must (0 ≤ ((i13 : Int) : Int) ∧ ((i13 : Int) : Int) < (((p0.getD i9 default).length : Nat) : Int)) <| must (0 ≤ ((i11 : Int) : Int) ∧ ((i11 : Int) : Int) < (((p0.getD i9 default).length : Nat) : Int)) <| must (0 ≤ ((i13 : Int) : Int) ∧ ((i13 : Int) : Int) < (((p0.getD i11 default).length : Nat) : Int)) <| must (inI (((p0.getD i9 default).getD i11 default).Lo + ((p0.getD i11 default).getD i13 default).Lo)) <| must (((!(decide ((((p0.getD i9 default).getD i11 default).Lo + ((p0.getD i11 default).getD i13 default).Lo) < ((p0.getD i9 default).getD i13 default).Lo))) = true → (0 ≤ ((i13 : Int) : Int) ∧ ((i13 : Int) : Int) < (((p0.getD i9 default).length : Nat) : Int)))) <| must (((!(decide ((((p0.getD i9 default).getD i11 default).Lo + ((p0.getD i11 default).getD i13 default).Lo) < ((p0.getD i9 default).getD i13 default).Lo))) = true → (0 ≤ ((i11 : Int) : Int) ∧ ((i11 : Int) : Int) < (((p0.getD i9 default).length : Nat) : Int)))) <| must (((!(decide ((((p0.getD i9 default).getD i11 default).Lo + ((p0.getD i11 default).getD i13 default).Lo) < ((p0.getD i9 default).getD i13 default).Lo))) = true → (0 ≤ ((i13 : Int) : Int) ∧ ((i13 : Int) : Int) < (((p0.getD i11 default).length : Nat) : Int)))) <| must (((!(decide ((((p0.getD i9 default).getD i11 default).Lo + ((p0.getD i11 default).getD i13 default).Lo) < ((p0.getD i9 default).getD i13 default).Lo))) = true → (inI (((p0.getD i9 default).getD i11 default).Hi + ((p0.getD i11 default).getD i13 default).Hi)))) <| (bif ((decide ((((p0.getD i9 default).getD i11 default).Lo + ((p0.getD i11 default).getD i13 default).Lo) < ((p0.getD i9 default).getD i13 default).Lo)) || (decide ((((p0.getD i9 default).getD i11 default).Hi + ((p0.getD i11 default).getD i13 default).Hi) < ((p0.getD i9 default).getD i13 default).Hi))) then some false else k13 ())) (fun (s13 : Unit) => k11 ()) p0.length 0 ())) (fun (s11 : Unit) => k9 ()) p0.length 0 ())) (fun (s9 : Unit) => some true) p0.length 0 ())) p0.length 0 ()))
def gasolierref01_Within (p0 : Int) (p1 : Int) (p2 : Int) : Bool :=
 ((decide (p1 ≤ p0)) && (decide (p0 ≤ p2)))
def gasolierref04_CheckTask (p0 : Task) : Int :=
 (bif ((((!(gasolierref01_Within p0.Lamp 1 999)) || (!(gasolierref01_Within p0.Place 0 11))) || (!(gasolierref01_Within p0.At 0 1439))) || (!(gasolierref01_Within p0.Serve 1 120))) then 40 else 0)
def gasolierref04_CheckHand (p0 : Hand) : Int :=
 (bif ((!(gasolierref01_Within p0.Id 1 99)) || (!(gasolierref01_IsRange (⟨p0.From, p0.To⟩ : Range) 0 1439))) then 41 else 0)
def gasolierref04_Check (p0 : Crew) : Option Int :=
 bindO ((bif (!((decide (24 < ((p0.Tasks.length : Nat) : Int))) || (decide (16 < ((p0.Hands.length : Nat) : Int))))) then gasolierref04_isTravel p0.Travel else some default)) fun y1 => (bif (((decide (24 < ((p0.Tasks.length : Nat) : Int))) || (decide (16 < ((p0.Hands.length : Nat) : Int)))) || (!y1)) then some 42 else (rangeGo (fun i4 (s4 : Unit) k4 => must ((((!((!decide ((gasolierref04_CheckTask (p0.Tasks.getD i4 default)) = 0)) || (decide (((p0.Travel.length : Nat) : Int) ≤ (p0.Tasks.getD i4 default).Place)))) && (decide (0 < (i4 : Int)))) = true → (inI ((i4 : Int) - 1)))) <| must ((((!((!decide ((gasolierref04_CheckTask (p0.Tasks.getD i4 default)) = 0)) || (decide (((p0.Travel.length : Nat) : Int) ≤ (p0.Tasks.getD i4 default).Place)))) && (decide (0 < (i4 : Int)))) = true → (0 ≤ (((i4 : Int) - 1) : Int) ∧ (((i4 : Int) - 1) : Int) < ((p0.Tasks.length : Nat) : Int)))) <| (bif (((!decide ((gasolierref04_CheckTask (p0.Tasks.getD i4 default)) = 0)) || (decide (((p0.Travel.length : Nat) : Int) ≤ (p0.Tasks.getD i4 default).Place))) || ((decide (0 < (i4 : Int))) && (decide ((p0.Tasks.getD i4 default).Lamp ≤ (p0.Tasks.getD (((i4 : Int) - 1)).toNat default).Lamp)))) then some 42 else k4 ())) (fun (s4 : Unit) => (rangeGo (fun i9 (s9 : Unit) k9 => must ((((!(!decide ((gasolierref04_CheckHand (p0.Hands.getD i9 default)) = 0))) && (decide (0 < (i9 : Int)))) = true → (inI ((i9 : Int) - 1)))) <| must ((((!(!decide ((gasolierref04_CheckHand (p0.Hands.getD i9 default)) = 0))) && (decide (0 < (i9 : Int)))) = true → (0 ≤ (((i9 : Int) - 1) : Int) ∧ (((i9 : Int) - 1) : Int) < ((p0.Hands.length : Nat) : Int)))) <| (bif ((!decide ((gasolierref04_CheckHand (p0.Hands.getD i9 default)) = 0)) || ((decide (0 < (i9 : Int))) && (decide ((p0.Hands.getD i9 default).Id ≤ (p0.Hands.getD (((i9 : Int) - 1)).toNat default).Id)))) then some 42 else k9 ())) (fun (s9 : Unit) => some 0) p0.Hands.length 0 ())) p0.Tasks.length 0 ()))
def gasolierref04_follows (p0 : Crew) (p1 : Int) (p2 : Int) : Option Int :=
 must (0 ≤ (p1 : Int) ∧ (p1 : Int) < ((p0.Tasks.length : Nat) : Int)) <| must (0 ≤ (p2 : Int) ∧ (p2 : Int) < ((p0.Tasks.length : Nat) : Int)) <| must (0 ≤ ((p0.Tasks.getD (p1).toNat default).Place : Int) ∧ ((p0.Tasks.getD (p1).toNat default).Place : Int) < ((p0.Travel.length : Nat) : Int)) <| must (0 ≤ ((p0.Tasks.getD (p2).toNat default).Place : Int) ∧ ((p0.Tasks.getD (p2).toNat default).Place : Int) < (((p0.Travel.getD ((p0.Tasks.getD (p1).toNat default).Place).toNat default).length : Nat) : Int)) <| must (inI ((p0.Tasks.getD (p1).toNat default).At + (p0.Tasks.getD (p1).toNat default).Serve)) <| must (inI (((p0.Tasks.getD (p1).toNat default).At + (p0.Tasks.getD (p1).toNat default).Serve) + ((p0.Travel.getD ((p0.Tasks.getD (p1).toNat default).Place).toNat default).getD ((p0.Tasks.getD (p2).toNat default).Place).toNat default).Hi)) <| (bif (decide ((((p0.Tasks.getD (p1).toNat default).At + (p0.Tasks.getD (p1).toNat default).Serve) + ((p0.Travel.getD ((p0.Tasks.getD (p1).toNat default).Place).toNat default).getD ((p0.Tasks.getD (p2).toNat default).Place).toNat default).Hi) ≤ (p0.Tasks.getD (p2).toNat default).At)) then some 1 else must (inI ((p0.Tasks.getD (p1).toNat default).At + (p0.Tasks.getD (p1).toNat default).Serve)) <| must (inI (((p0.Tasks.getD (p1).toNat default).At + (p0.Tasks.getD (p1).toNat default).Serve) + ((p0.Travel.getD ((p0.Tasks.getD (p1).toNat default).Place).toNat default).getD ((p0.Tasks.getD (p2).toNat default).Place).toNat default).Lo)) <| (bif (decide ((p0.Tasks.getD (p2).toNat default).At < (((p0.Tasks.getD (p1).toNat default).At + (p0.Tasks.getD (p1).toNat default).Serve) + ((p0.Travel.getD ((p0.Tasks.getD (p1).toNat default).Place).toNat default).getD ((p0.Tasks.getD (p2).toNat default).Place).toNat default).Lo))) then some 0 else some 2))
def gasolierref04_isRound (p0 : Crew) (p1 : (List Int)) : Option Bool :=
 (rangeGo (fun i1 (s1 : Unit) k1 => must (inI (((p0.Tasks.length : Nat) : Int) - 1)) <| must ((((!(!(gasolierref01_Within (p1.getD i1 default) 0 (((p0.Tasks.length : Nat) : Int) - 1)))) && (decide (0 < (i1 : Int)))) = true → (inI ((i1 : Int) - 1)))) <| must ((((!(!(gasolierref01_Within (p1.getD i1 default) 0 (((p0.Tasks.length : Nat) : Int) - 1)))) && (decide (0 < (i1 : Int)))) = true → (0 ≤ (((i1 : Int) - 1) : Int) ∧ (((i1 : Int) - 1) : Int) < ((p1.length : Nat) : Int)))) <| bindO ((bif ((!(!(gasolierref01_Within (p1.getD i1 default) 0 (((p0.Tasks.length : Nat) : Int) - 1)))) && (decide (0 < (i1 : Int)))) then gasolierref04_follows p0 (p1.getD (((i1 : Int) - 1)).toNat default) (p1.getD i1 default) else some default)) fun y6 => (bif ((!(gasolierref01_Within (p1.getD i1 default) 0 (((p0.Tasks.length : Nat) : Int) - 1))) || ((decide (0 < (i1 : Int))) && (!decide (y6 = 1)))) then some false else k1 ())) (fun (s1 : Unit) => some (decide (0 < ((p1.length : Nat) : Int)))) p1.length 0 ())
def gasolierref04_CheckRounds (p0 : Crew) (p1 : (List (List Int))) : Option Int :=
 bindO (gasolierref04_Check p0) fun y1 => (bif (!decide (y1 = 0)) then some y1 else must (0 ≤ (((p0.Tasks.length : Nat) : Int) : Int) ∧ (((p0.Tasks.length : Nat) : Int) : Int) ≤ ((p0.Tasks.length : Nat) : Int) ∧ room (((p0.Tasks.length : Nat) : Int)).toNat 8) <| (rangeGo (fun i5 (s5 : (List Int)) k5 => bindO (gasolierref04_isRound p0 (p1.getD i5 default)) fun y7 => must ((((!(!y7)) && (decide (0 < (i5 : Int)))) = true → (inI ((i5 : Int) - 1)))) <| must ((((!(!y7)) && (decide (0 < (i5 : Int)))) = true → (0 ≤ (((i5 : Int) - 1) : Int) ∧ (((i5 : Int) - 1) : Int) < ((p1.length : Nat) : Int)))) <| must ((((!(!y7)) && (decide (0 < (i5 : Int)))) = true → (0 ≤ (0 : Int) ∧ (0 : Int) < (((p1.getD (((i5 : Int) - 1)).toNat default).length : Nat) : Int)))) <| must ((((!(!y7)) && (decide (0 < (i5 : Int)))) = true → (0 ≤ (0 : Int) ∧ (0 : Int) < (((p1.getD i5 default).length : Nat) : Int)))) <| (bif ((!y7) || ((decide (0 < (i5 : Int))) && (decide (((p1.getD i5 default).getD 0 default) ≤ ((p1.getD (((i5 : Int) - 1)).toNat default).getD 0 default))))) then some 43 else (rangeGo (fun i14 (s14 : (List Int)) k14 => must (0 ≤ (((p1.getD i5 default).getD i14 default) : Int) ∧ (((p1.getD i5 default).getD i14 default) : Int) < ((s14.length : Nat) : Int)) <| must (inI ((s14.getD (((p1.getD i5 default).getD i14 default)).toNat default) + 1)) <| must (0 ≤ (((p1.getD i5 default).getD i14 default) : Int) ∧ (((p1.getD i5 default).getD i14 default) : Int) < ((s14.length : Nat) : Int)) <| k14 (s14.set (((p1.getD i5 default).getD i14 default)).toNat ((s14.getD (((p1.getD i5 default).getD i14 default)).toNat default) + 1))) (fun (s14 : (List Int)) => k5 s14) ((p1.getD i5 default).length) 0 s5))) (fun (s5 : (List Int)) => must (s5.length ≤ 9223372036854775807) <| (rangeGo (fun i19 (s19 : Unit) k19 => (bif (!decide ((s5.getD i19 default) = 1)) then some 43 else k19 ())) (fun (s19 : Unit) => some 0) s5.length 0 ())) p1.length 0 (List.replicate (((p0.Tasks.length : Nat) : Int)).toNat (0 : Int))))
def slices_IndexFunc_int (p0 : (List Int)) (p1 : Int → Option Bool) : Option Int :=
 (rangeGo (fun i1 (s1 : Unit) k1 => bindO (p1 (p0.getD i1 default)) fun y3 => (bif y3 then some (i1 : Int) else k1 ())) (fun (s1 : Unit) => some (-1)) p0.length 0 ())
def slices_ContainsFunc_int (p0 : (List Int)) (p1 : Int → Option Bool) : Option Bool :=
 bindO (slices_IndexFunc_int p0 p1) fun y1 => some (decide (0 ≤ y1))
def crew_areWalks_1 (p0 : Int) : Bool :=
 (!(crew_in p0 0 600))
def crew_areWalks (p0 : (List (List Int))) (p1 : (List (List Int))) : Option Bool :=
 (bif (!decide (((p1.length : Nat) : Int) = ((p0.length : Nat) : Int))) then some false else (rangeGo (fun i2 (s2 : Unit) k2 => must (0 ≤ ((i2 : Int) : Int) ∧ ((i2 : Int) : Int) < ((p0.length : Nat) : Int)) <| must (inI ((((p0.getD i2 default).length : Nat) : Int) - 1)) <| bindO ((bif (!(!decide ((((p1.getD i2 default).length : Nat) : Int) = ((((p0.getD i2 default).length : Nat) : Int) - 1)))) then slices_ContainsFunc_int (p1.getD i2 default) (fun x0 => some (crew_areWalks_1 x0)) else some default)) fun y6 => (bif ((!decide ((((p1.getD i2 default).length : Nat) : Int) = ((((p0.getD i2 default).length : Nat) : Int) - 1))) || y6) then some false else k2 ())) (fun (s2 : Unit) => some true) p1.length 0 ()))
def crew_Late (p0 : Crew) (p1 : (List (List Int))) (p2 : (List (List Int))) : Option ((List Int) × Int) :=
 bindO (crew_asked p0 p1) fun y1 => (bif (!decide (y1.2 = 0)) then some ([], y1.2) else bindO (crew_areWalks p1 p2) fun y4 => (bif (!y4) then some ([], 48) else (rangeGo (fun i7 (s7 : (List Int)) k7 => must (0 ≤ (0 : Int) ∧ (0 : Int) < (((p1.getD i7 default).length : Nat) : Int)) <| must (0 ≤ (((p1.getD i7 default).getD 0 default) : Int) ∧ (((p1.getD i7 default).getD 0 default) : Int) < ((p0.Tasks.length : Nat) : Int)) <| must ((0 : Int) ≤ 1 ∧ (1 : Int) ≤ (((p1.getD i7 default).length : Nat) : Int)) <| (rangeGo (fun i12 (s12 : Int × (List Int)) k12 => must (0 ≤ ((i12 : Int) : Int) ∧ ((i12 : Int) : Int) < (((p1.getD i7 default).length : Nat) : Int)) <| must (0 ≤ (((p1.getD i7 default).getD i12 default) : Int) ∧ (((p1.getD i7 default).getD i12 default) : Int) < ((p0.Tasks.length : Nat) : Int)) <| must (0 ≤ ((i7 : Int) : Int) ∧ ((i7 : Int) : Int) < ((p2.length : Nat) : Int)) <| must (0 ≤ ((i12 : Int) : Int) ∧ ((i12 : Int) : Int) < (((p2.getD i7 default).length : Nat) : Int)) <| must (inI ((p0.Tasks.getD (((p1.getD i7 default).getD i12 default)).toNat default).Serve + ((p2.getD i7 default).getD i12 default))) <| must (inI (s12.1 + ((p0.Tasks.getD (((p1.getD i7 default).getD i12 default)).toNat default).Serve + ((p2.getD i7 default).getD i12 default)))) <| must (0 ≤ ((((p1.getD i7 default).drop 1).getD i12 default) : Int) ∧ ((((p1.getD i7 default).drop 1).getD i12 default) : Int) < ((p0.Tasks.length : Nat) : Int)) <| (joinK (fun (k21 : (List Int) → _) => (bif (decide ((p0.Tasks.getD ((((p1.getD i7 default).drop 1).getD i12 default)).toNat default).At < (s12.1 + ((p0.Tasks.getD (((p1.getD i7 default).getD i12 default)).toNat default).Serve + ((p2.getD i7 default).getD i12 default))))) then must (room (s12.2 ++ ([(((p1.getD i7 default).drop 1).getD i12 default)] : List Int)).length 8) <| k21 (s12.2 ++ ([(((p1.getD i7 default).drop 1).getD i12 default)] : List Int)) else k21 s12.2)) (fun (s21 : (List Int)) => must (0 ≤ ((((p1.getD i7 default).drop 1).getD i12 default) : Int) ∧ ((((p1.getD i7 default).drop 1).getD i12 default) : Int) < ((p0.Tasks.length : Nat) : Int)) <| k12 ((max (s12.1 + ((p0.Tasks.getD (((p1.getD i7 default).getD i12 default)).toNat default).Serve + ((p2.getD i7 default).getD i12 default))) ((p0.Tasks.getD ((((p1.getD i7 default).drop 1).getD i12 default)).toNat default).At)), s21)))) (fun (s12 : Int × (List Int)) => k7 s12.2) (((p1.getD i7 default).drop 1).length) 0 ((p0.Tasks.getD (((p1.getD i7 default).getD 0 default)).toNat default).At, s7))) (fun (s7 : (List Int)) => bindO (slices_Sort_int_l s7) fun y25 => must (y25.length = s7.length) <| some (y25, 0)) p1.length 0 ([] : List Int))))
def gasolierref01_Same (p0 : (List Int)) (p1 : (List Int)) : Option Bool :=
 (bif (!decide (((p0.length : Nat) : Int) = ((p1.length : Nat) : Int))) then some false else (rangeGo (fun i2 (s2 : Unit) k2 => must (0 ≤ ((i2 : Int) : Int) ∧ ((i2 : Int) : Int) < ((p1.length : Nat) : Int)) <| (bif (!decide ((p0.getD i2 default) = (p1.getD i2 default))) then some false else k2 ())) (fun (s2 : Unit) => some true) p0.length 0 ()))
def gasolierlaw04_team  : Crew :=
 (⟨([(⟨1, 0, 300, 2⟩ : Task), (⟨2, 1, 320, 2⟩ : Task), (⟨3, 0, 325, 2⟩ : Task), (⟨4, 1, 350, 2⟩ : Task)] : List Task), ([([(⟨0, 0⟩ : Range), (⟨10, 20⟩ : Range)] : List Range), ([(⟨10, 20⟩ : Range), (⟨0, 0⟩ : Range)] : List Range)] : List (List Range)), ([(⟨7, 290, 400⟩ : Hand), (⟨8, 310, 330⟩ : Hand)] : List Hand)⟩ : Crew)
def crew_least (p0 : Range) : Int :=
 p0.Lo
def crew_Follows (p0 : Crew) (p1 : Int) (p2 : Int) : Option (Int × Int) :=
 bindO (crew_Check p0) fun y1 => (bif (!decide (y1 = 0)) then some (0, y1) else must (inI (((p0.Tasks.length : Nat) : Int) - 1)) <| must (((!(!(crew_in p1 0 (((p0.Tasks.length : Nat) : Int) - 1)))) = true → (inI (((p0.Tasks.length : Nat) : Int) - 1)))) <| (bif ((!(crew_in p1 0 (((p0.Tasks.length : Nat) : Int) - 1))) || (!(crew_in p2 0 (((p0.Tasks.length : Nat) : Int) - 1)))) then some (0, 1) else bindO ((bif (!(decide (p1 = p2))) then crew_spare p0 p1 p2 (fun x0 => some (crew_least x0)) else some default)) fun y7 => (bif ((decide (p1 = p2)) || (decide (y7 < 0))) then some (0, 0) else bindO (crew_spare p0 p1 p2 (fun x0 => some (crew_most x0))) fun y10 => (bif (decide (0 ≤ y10)) then some (1, 0) else some (2, 0)))))
def crew_plan__followers_1 (c0 : crew_plan) (c1 : Int) : Option (List (Int)) :=
 must (c0.next.length ≤ 9223372036854775807) <| (rangeGo (fun i1 (s1 : Unit) k1 => must (0 ≤ (c1 : Int) ∧ (c1 : Int) < ((c0.next.length : Nat) : Int)) <| must (0 ≤ ((i1 : Int) : Int) ∧ ((i1 : Int) : Int) < 64) <| must (0 ≤ ((Int.fdiv (c0.next.getD (c1).toNat default) (2 ^ ((i1 : Int) : Int).toNat)) : Int) ∧ 0 ≤ (1 : Int) ∧ inI (Int.fdiv (c0.next.getD (c1).toNat default) (2 ^ ((i1 : Int) : Int).toNat)) ∧ inI 1) <| emitIf (decide (((((Int.fdiv (c0.next.getD (c1).toNat default) (2 ^ ((i1 : Int) : Int).toNat)) : Int).toNat &&& (1 : Int).toNat : Nat) : Int) = 1)) (i1 : Int) <| k1 ()) (fun (s1 : Unit) => some []) c0.next.length 0 ())
def crew_plan__pair_1_l_F (fuel : Nat) (rec : Int → crew_plan → Int → (List Int) → (List Int) → Option (Bool × Int × (List Int) × (List Int))) (p0 : Int) (c0 : crew_plan) (c1 : Int) (c2 : (List Int)) (c4 : (List Int)) : Option (Bool × Int × (List Int) × (List Int)) :=
 bindO (crew_plan__followers_1 c0 p0) fun it1 => (listGo (fun (x1 : Int) (s2 : (List Int) × (List Int) × Int) k2 => must (0 ≤ (x1 : Int) ∧ (x1 : Int) < 64) <| must (0 ≤ ((Int.fdiv s2.2.2 (2 ^ (x1 : Int).toNat)) : Int) ∧ 0 ≤ (1 : Int) ∧ inI (Int.fdiv s2.2.2 (2 ^ (x1 : Int).toNat)) ∧ inI 1) <| (bif (decide (((((Int.fdiv s2.2.2 (2 ^ (x1 : Int).toNat)) : Int).toNat &&& (1 : Int).toNat : Nat) : Int) = 1)) then k2 (s2.1, s2.2.1, s2.2.2) else must (0 ≤ (x1 : Int) ∧ (x1 : Int) < 64 ∧ inI ((1 : Int) * 2 ^ (x1 : Int).toNat)) <| must (0 ≤ (s2.2.2 : Int) ∧ 0 ≤ (((1 : Int) * 2 ^ (x1 : Int).toNat) : Int) ∧ inI s2.2.2 ∧ inI ((1 : Int) * 2 ^ (x1 : Int).toNat)) <| must (0 ≤ (x1 : Int) ∧ (x1 : Int) < ((s2.1.length : Nat) : Int)) <| must (((!(decide ((s2.1.getD (x1).toNat default) < 0))) = true → (0 ≤ (x1 : Int) ∧ (x1 : Int) < ((s2.1.length : Nat) : Int)))) <| bindO ((bif (!(decide ((s2.1.getD (x1).toNat default) < 0))) then rec (s2.1.getD (x1).toNat default) c0 (((s2.2.2 : Int).toNat ||| (((1 : Int) * 2 ^ (x1 : Int).toNat) : Int).toNat : Nat) : Int) s2.1 s2.2.1 else some (default, (((s2.2.2 : Int).toNat ||| (((1 : Int) * 2 ^ (x1 : Int).toNat) : Int).toNat : Nat) : Int), s2.1, s2.2.1))) fun y10 => must (y10.2.2.1.length = s2.1.length) <| must (y10.2.2.2.length = s2.2.1.length) <| (bif ((decide ((s2.1.getD (x1).toNat default) < 0)) || y10.1) then must (0 ≤ (x1 : Int) ∧ (x1 : Int) < ((y10.2.2.1.length : Nat) : Int)) <| must (0 ≤ (p0 : Int) ∧ (p0 : Int) < ((y10.2.2.2.length : Nat) : Int)) <| some (true, y10.2.1, (y10.2.2.1.set (x1).toNat p0), (y10.2.2.2.set (p0).toNat x1)) else k2 (y10.2.2.1, y10.2.2.2, y10.2.1)))) (fun (s2 : (List Int) × (List Int) × Int) => some (false, s2.2.2, s2.1, s2.2.1)) it1 (c2, c4, c1))
def crew_plan__pair_1_l (fuel : Nat) : Nat → Int → crew_plan → Int → (List Int) → (List Int) → Option (Bool × Int × (List Int) × (List Int))
 | 0 => fun _ _ _ _ _ => none
 | n + 1 => crew_plan__pair_1_l_F fuel (crew_plan__pair_1_l fuel n)
def crew_plan__pair (fuel : Nat) (p0 : crew_plan) : Option ((List Int) × (List Int)) :=
 must (0 ≤ (((p0.next.length : Nat) : Int) : Int) ∧ (((p0.next.length : Nat) : Int) : Int) ≤ ((p0.next.length : Nat) : Int) ∧ room (((p0.next.length : Nat) : Int)).toNat 8) <| must (0 ≤ (((p0.next.length : Nat) : Int) : Int) ∧ (((p0.next.length : Nat) : Int) : Int) ≤ ((p0.next.length : Nat) : Int) ∧ room (((p0.next.length : Nat) : Int)).toNat 8) <| must ((List.replicate (((p0.next.length : Nat) : Int)).toNat (0 : Int)).length ≤ 9223372036854775807) <| (rangeGo (fun i3 (s3 : (List Int) × (List Int)) k3 => must (0 ≤ ((i3 : Int) : Int) ∧ ((i3 : Int) : Int) < ((s3.1.length : Nat) : Int)) <| must (0 ≤ ((i3 : Int) : Int) ∧ ((i3 : Int) : Int) < ((s3.2.length : Nat) : Int)) <| k3 ((s3.1.set i3 (-1)), (s3.2.set i3 (-1)))) (fun (s3 : (List Int) × (List Int)) => must (p0.next.length ≤ 9223372036854775807) <| (rangeGo (fun i7 (s7 : (List Int) × (List Int)) k7 => bindO (crew_plan__pair_1_l fuel fuel (i7 : Int) p0 0 s7.1 s7.2) fun y9 => must (y9.2.2.1.length = s7.1.length) <| must (y9.2.2.2.length = s7.2.length) <| k7 (y9.2.2.1, y9.2.2.2)) (fun (s7 : (List Int) × (List Int)) => some (s7.1, s7.2)) p0.next.length 0 (s3.1, s3.2))) ((List.replicate (((p0.next.length : Nat) : Int)).toNat (0 : Int)).length) 0 ((List.replicate (((p0.next.length : Nat) : Int)).toNat (0 : Int)), (List.replicate (((p0.next.length : Nat) : Int)).toNat (0 : Int))))
def crew_plan__count (fuel : Nat) (p0 : crew_plan) : Option Int :=
 bindO (crew_plan__pair fuel p0) fun y1 => (rangeGo (fun i3 (s3 : Int) k3 => (bif (decide ((y1.1.getD i3 default) < 0)) then must (inI (s3 + 1)) <| k3 (s3 + 1) else k3 s3)) (fun (s3 : Int) => some s3) y1.1.length 0 0)
def crew_Count (fuel : Nat) (p0 : Crew) : Option (Int × Int) :=
 bindO (crew_Check p0) fun y1 => (bif (!decide (y1 = 0)) then some (0, y1) else bindO (crew_newPlan p0 (fun x0 => some (crew_most x0))) fun y4 => must (y4.isSome = true) <| bindO (crew_plan__count fuel (y4.getD default)) fun y7 => some (y7, 0))
def crew_Bounds (fuel : Nat) (p0 : Crew) : Option (Range × Int) :=
 bindO (crew_Check p0) fun y1 => (bif (!decide (y1 = 0)) then some ((⟨0, 0⟩ : Range), y1) else bindO (crew_newPlan p0 (fun x0 => some (crew_least x0))) fun y4 => must (y4.isSome = true) <| bindO (crew_plan__count fuel (y4.getD default)) fun y7 => bindO (crew_newPlan p0 (fun x0 => some (crew_most x0))) fun y9 => must (y9.isSome = true) <| bindO (crew_plan__count fuel (y9.getD default)) fun y12 => some ((⟨y7, y12⟩ : Range), 0))
def crew_shift__free (p0 : crew_shift) : Option (List Int) :=
 must (0 ≤ (((p0.rounds.length : Nat) : Int) : Int) ∧ (((p0.rounds.length : Nat) : Int) : Int) ≤ ((p0.rounds.length : Nat) : Int) ∧ room (((p0.rounds.length : Nat) : Int)).toNat 8) <| must ((List.replicate (((p0.rounds.length : Nat) : Int)).toNat (0 : Int)).length ≤ 9223372036854775807) <| (rangeGo (fun i2 (s2 : (List Int)) k2 => must (0 ≤ ((i2 : Int) : Int) ∧ ((i2 : Int) : Int) < ((s2.length : Nat) : Int)) <| k2 (s2.set i2 (-1))) (fun (s2 : (List Int)) => some s2) ((List.replicate (((p0.rounds.length : Nat) : Int)).toNat (0 : Int)).length) 0 (List.replicate (((p0.rounds.length : Nat) : Int)).toNat (0 : Int)))
def crew_shift__indices (p0 : crew_shift) : Option (List Int) :=
 must (p0.rounds.length ≤ 9223372036854775807) <| (rangeGo (fun i1 (s1 : (List Int)) k1 => must (room (s1 ++ ([(i1 : Int)] : List Int)).length 8) <| k1 (s1 ++ ([(i1 : Int)] : List Int))) (fun (s1 : (List Int)) => some s1) p0.rounds.length 0 ([] : List Int))
def crew_plan__able (p0 : crew_plan) (p1 : Hand) (p2 : (List Int)) : Option Bool :=
 must (0 ≤ (0 : Int) ∧ (0 : Int) < ((p2.length : Nat) : Int)) <| must (0 ≤ ((p2.getD 0 default) : Int) ∧ ((p2.getD 0 default) : Int) < ((p0.Crew.Tasks.length : Nat) : Int)) <| must (inI (((p2.length : Nat) : Int) - 1)) <| must (0 ≤ ((((p2.length : Nat) : Int) - 1) : Int) ∧ ((((p2.length : Nat) : Int) - 1) : Int) < ((p2.length : Nat) : Int)) <| must (0 ≤ ((p2.getD ((((p2.length : Nat) : Int) - 1)).toNat default) : Int) ∧ ((p2.getD ((((p2.length : Nat) : Int) - 1)).toNat default) : Int) < ((p0.Crew.Tasks.length : Nat) : Int)) <| must (((decide (p1.From ≤ (p0.Crew.Tasks.getD ((p2.getD 0 default)).toNat default).At)) = true → (inI ((p0.Crew.Tasks.getD ((p2.getD ((((p2.length : Nat) : Int) - 1)).toNat default)).toNat default).At + (p0.Crew.Tasks.getD ((p2.getD ((((p2.length : Nat) : Int) - 1)).toNat default)).toNat default).Serve)))) <| some ((decide (p1.From ≤ (p0.Crew.Tasks.getD ((p2.getD 0 default)).toNat default).At)) && (decide (((p0.Crew.Tasks.getD ((p2.getD ((((p2.length : Nat) : Int) - 1)).toNat default)).toNat default).At + (p0.Crew.Tasks.getD ((p2.getD ((((p2.length : Nat) : Int) - 1)).toNat default)).toNat default).Serve) ≤ p1.To)))
def crew_shift__all_1_l_F (fuel : Nat) (rec : Int → crew_shift → Int → (List Int) → (List Int) → Option (Bool × Int × (List Int))) (p0 : Int) (c0 : crew_shift) (c1 : Int) (c2 : (List Int)) (c3 : (List Int)) : Option (Bool × Int × (List Int)) :=
 must (c0.plan.isSome = true) <| (rangeGo (fun i2 (s2 : (List Int) × Int) k2 => (joinK (fun (k4 : Int × (List Int) → _) => must (0 ≤ ((i2 : Int) : Int) ∧ ((i2 : Int) : Int) < 64) <| must (0 ≤ ((Int.fdiv s2.2 (2 ^ ((i2 : Int) : Int).toNat)) : Int) ∧ 0 ≤ (1 : Int) ∧ inI (Int.fdiv s2.2 (2 ^ ((i2 : Int) : Int).toNat)) ∧ inI 1) <| must (((!(decide (((((Int.fdiv s2.2 (2 ^ ((i2 : Int) : Int).toNat)) : Int).toNat &&& (1 : Int).toNat : Nat) : Int) = 1))) = true → (0 ≤ (p0 : Int) ∧ (p0 : Int) < ((c0.rounds.length : Nat) : Int)))) <| must (((!(decide (((((Int.fdiv s2.2 (2 ^ ((i2 : Int) : Int).toNat)) : Int).toNat &&& (1 : Int).toNat : Nat) : Int) = 1))) = true → (c0.plan.isSome = true))) <| bindO ((bif (!(decide (((((Int.fdiv s2.2 (2 ^ ((i2 : Int) : Int).toNat)) : Int).toNat &&& (1 : Int).toNat : Nat) : Int) = 1))) then crew_plan__able (c0.plan.getD default) (((c0.plan.getD default).Crew.Hands).getD i2 default) (c0.rounds.getD (p0).toNat default) else some default)) fun y9 => must (((!((decide (((((Int.fdiv s2.2 (2 ^ ((i2 : Int) : Int).toNat)) : Int).toNat &&& (1 : Int).toNat : Nat) : Int) = 1)) || (!y9))) = true → (0 ≤ ((i2 : Int) : Int) ∧ ((i2 : Int) : Int) < ((s2.1.length : Nat) : Int)))) <| must ((((!((decide (((((Int.fdiv s2.2 (2 ^ ((i2 : Int) : Int).toNat)) : Int).toNat &&& (1 : Int).toNat : Nat) : Int) = 1)) || (!y9))) && (decide (0 < (s2.1.getD i2 default)))) = true → (0 ≤ ((i2 : Int) : Int) ∧ ((i2 : Int) : Int) < ((s2.1.length : Nat) : Int)))) <| must ((((!((decide (((((Int.fdiv s2.2 (2 ^ ((i2 : Int) : Int).toNat)) : Int).toNat &&& (1 : Int).toNat : Nat) : Int) = 1)) || (!y9))) && (decide (0 < (s2.1.getD i2 default)))) = true → (inI ((s2.1.getD i2 default) - 1)))) <| must ((((!((decide (((((Int.fdiv s2.2 (2 ^ ((i2 : Int) : Int).toNat)) : Int).toNat &&& (1 : Int).toNat : Nat) : Int) = 1)) || (!y9))) && (decide (0 < (s2.1.getD i2 default)))) = true → (0 ≤ (((s2.1.getD i2 default) - 1) : Int) ∧ (((s2.1.getD i2 default) - 1) : Int) < ((c3.length : Nat) : Int)))) <| (bif (((decide (((((Int.fdiv s2.2 (2 ^ ((i2 : Int) : Int).toNat)) : Int).toNat &&& (1 : Int).toNat : Nat) : Int) = 1)) || (!y9)) || ((decide (0 < (s2.1.getD i2 default))) && (decide (0 ≤ (c3.getD (((s2.1.getD i2 default) - 1)).toNat default))))) then k4 (s2.2, s2.1) else must (0 ≤ ((i2 : Int) : Int) ∧ ((i2 : Int) : Int) < 64 ∧ inI ((1 : Int) * 2 ^ ((i2 : Int) : Int).toNat)) <| must (0 ≤ (s2.2 : Int) ∧ 0 ≤ (((1 : Int) * 2 ^ ((i2 : Int) : Int).toNat) : Int) ∧ inI s2.2 ∧ inI ((1 : Int) * 2 ^ ((i2 : Int) : Int).toNat)) <| must (0 ≤ ((i2 : Int) : Int) ∧ ((i2 : Int) : Int) < ((s2.1.length : Nat) : Int)) <| must (((!(decide ((s2.1.getD i2 default) = 0))) = true → (0 ≤ ((i2 : Int) : Int) ∧ ((i2 : Int) : Int) < ((s2.1.length : Nat) : Int)))) <| must (((!(decide ((s2.1.getD i2 default) = 0))) = true → (inI ((s2.1.getD i2 default) - 1)))) <| bindO ((bif (!(decide ((s2.1.getD i2 default) = 0))) then rec ((s2.1.getD i2 default) - 1) c0 (((s2.2 : Int).toNat ||| (((1 : Int) * 2 ^ ((i2 : Int) : Int).toNat) : Int).toNat : Nat) : Int) s2.1 c3 else some (default, (((s2.2 : Int).toNat ||| (((1 : Int) * 2 ^ ((i2 : Int) : Int).toNat) : Int).toNat : Nat) : Int), s2.1))) fun y21 => must (y21.2.2.length = s2.1.length) <| (bif ((decide ((s2.1.getD i2 default) = 0)) || y21.1) then must (inI (p0 + 1)) <| must (0 ≤ ((i2 : Int) : Int) ∧ ((i2 : Int) : Int) < ((y21.2.2.length : Nat) : Int)) <| some (true, y21.2.1, (y21.2.2.set i2 (p0 + 1))) else k4 (y21.2.1, y21.2.2)))) (fun (s4 : Int × (List Int)) => k2 (s4.2, s4.1)))) (fun (s2 : (List Int) × Int) => some (false, s2.2, s2.1)) (((c0.plan.getD default).Crew.Hands).length) 0 (c2, c1))
def crew_shift__all_1_l (fuel : Nat) : Nat → Int → crew_shift → Int → (List Int) → (List Int) → Option (Bool × Int × (List Int))
 | 0 => fun _ _ _ _ _ => none
 | n + 1 => crew_shift__all_1_l_F fuel (crew_shift__all_1_l fuel n)
def crew_shift__all (fuel : Nat) (p0 : crew_shift) (p1 : (List Int)) (p2 : (List Int)) : Option Bool :=
 must (p0.plan.isSome = true) <| must (0 ≤ (((((p0.plan.getD default).Crew.Hands).length : Nat) : Int) : Int) ∧ (((((p0.plan.getD default).Crew.Hands).length : Nat) : Int) : Int) ≤ ((((p0.plan.getD default).Crew.Hands).length : Nat) : Int) ∧ room (((((p0.plan.getD default).Crew.Hands).length : Nat) : Int)).toNat 8) <| (rangeGo (fun i3 (s3 : (List Int)) k3 => must (0 ≤ ((p1.getD i3 default) : Int) ∧ ((p1.getD i3 default) : Int) < ((p2.length : Nat) : Int)) <| (bif (decide (0 ≤ (p2.getD ((p1.getD i3 default)).toNat default))) then must (0 ≤ ((p1.getD i3 default) : Int) ∧ ((p1.getD i3 default) : Int) < ((p2.length : Nat) : Int)) <| must (inI ((p1.getD i3 default) + 1)) <| must (0 ≤ ((p2.getD ((p1.getD i3 default)).toNat default) : Int) ∧ ((p2.getD ((p1.getD i3 default)).toNat default) : Int) < ((s3.length : Nat) : Int)) <| k3 (s3.set ((p2.getD ((p1.getD i3 default)).toNat default)).toNat ((p1.getD i3 default) + 1)) else k3 s3)) (fun (s3 : (List Int)) => (rangeGo (fun i10 (s10 : (List Int)) k10 => (joinK (fun (k12 : (List Int) → _) => must (0 ≤ ((p1.getD i10 default) : Int) ∧ ((p1.getD i10 default) : Int) < ((p2.length : Nat) : Int)) <| (bif (decide (0 ≤ (p2.getD ((p1.getD i10 default)).toNat default))) then k12 s10 else bindO (crew_shift__all_1_l fuel fuel (p1.getD i10 default) p0 0 s10 p2) fun y15 => must (y15.2.2.length = s10.length) <| (bif (!y15.1) then some false else k12 y15.2.2))) (fun (s12 : (List Int)) => k10 s12))) (fun (s10 : (List Int)) => some true) p1.length 0 s3)) p1.length 0 (List.replicate (((((p0.plan.getD default).Crew.Hands).length : Nat) : Int)).toNat (0 : Int)))
def slices_Index_int (p0 : (List Int)) (p1 : Int) : Option Int :=
 (rangeGo (fun i1 (s1 : Unit) k1 => (bif (decide (p1 = (p0.getD i1 default))) then some (i1 : Int) else k1 ())) (fun (s1 : Unit) => some (-1)) p0.length 0 ())
def slices_Contains_int (p0 : (List Int)) (p1 : Int) : Option Bool :=
 bindO (slices_Index_int p0 p1) fun y1 => some (decide (0 ≤ y1))
def crew_Assign (fuel : Nat) (p0 : Crew) (p1 : (List (List Int))) : Option ((List Int) × Int) :=
 bindO (crew_asked p0 p1) fun y1 => (bif (!decide (y1.2 = 0)) then some ([], y1.2) else bindO (crew_shift__free (⟨y1.1, p1⟩ : crew_shift)) fun y4 => bindO (crew_shift__indices (⟨y1.1, p1⟩ : crew_shift)) fun y6 => bindO (crew_shift__all fuel (⟨y1.1, p1⟩ : crew_shift) y6 y4) fun y8 => (bif (!y8) then some ([], 45) else (rangeGo (fun i11 (s11 : (List Int) × (List Int)) k11 => (rangeGo (fun i13 (s13 : (List Int)) k13 => must (y1.1.isSome = true) <| bindO (crew_plan__able (y1.1.getD default) (p0.Hands.getD i13 default) (p1.getD i11 default)) fun y16 => must (((!(!y16)) = true → (0 < s13.length ∧ 0 ≤ ((i11 : Int) : Int) ∧ ((i11 : Int) : Int) ≤ ((s13.length : Nat) : Int)))) <| bindO ((bif (!(!y16)) then slices_Contains_int ((s13.take i11).drop 0) (i13 : Int) else some default)) fun y19 => (bif ((!y16) || y19) then k13 s13 else must (0 ≤ ((i11 : Int) : Int) ∧ ((i11 : Int) : Int) < ((s13.length : Nat) : Int)) <| bindO (crew_shift__indices (⟨y1.1, p1⟩ : crew_shift)) fun y23 => bindO (crew_shift__all fuel (⟨y1.1, p1⟩ : crew_shift) y23 (s13.set i11 (i13 : Int))) fun y25 => (bif y25 then must (0 ≤ ((i11 : Int) : Int) ∧ ((i11 : Int) : Int) < (((s13.set i11 (i13 : Int)).length : Nat) : Int)) <| must (0 ≤ (((s13.set i11 (i13 : Int)).getD i11 default) : Int) ∧ (((s13.set i11 (i13 : Int)).getD i11 default) : Int) < ((p0.Hands.length : Nat) : Int)) <| must (room (s11.2 ++ ([(p0.Hands.getD (((s13.set i11 (i13 : Int)).getD i11 default)).toNat default).Id] : List Int)).length 8) <| k11 ((s13.set i11 (i13 : Int)), (s11.2 ++ ([(p0.Hands.getD (((s13.set i11 (i13 : Int)).getD i11 default)).toNat default).Id] : List Int))) else k13 (s13.set i11 (i13 : Int))))) (fun (s13 : (List Int)) => must (0 ≤ ((i11 : Int) : Int) ∧ ((i11 : Int) : Int) < ((s13.length : Nat) : Int)) <| must (0 ≤ ((s13.getD i11 default) : Int) ∧ ((s13.getD i11 default) : Int) < ((p0.Hands.length : Nat) : Int)) <| must (room (s11.2 ++ ([(p0.Hands.getD ((s13.getD i11 default)).toNat default).Id] : List Int)).length 8) <| k11 (s13, (s11.2 ++ ([(p0.Hands.getD ((s13.getD i11 default)).toNat default).Id] : List Int)))) p0.Hands.length 0 s11.1)) (fun (s11 : (List Int) × (List Int)) => some (s11.2, 0)) p1.length 0 (y4, ([] : List Int)))))
def slices_Clone_Task (p0 : (List Task)) : Option (List Task) :=
 must (room (([] : List Task) ++ p0).length 32) <| some (([] : List Task) ++ p0)
def slices_Clone_Hand (p0 : (List Hand)) : Option (List Hand) :=
 must (room (([] : List Hand) ++ p0).length 24) <| some (([] : List Hand) ++ p0)
def slices_Clone_Range (p0 : (List Range)) : Option (List Range) :=
 must (room (([] : List Range) ++ p0).length 16) <| some (([] : List Range) ++ p0)
def crew_copied (p0 : Crew) : Option Crew :=
 bindO (slices_Clone_Task p0.Tasks) fun y1 => bindO (slices_Clone_Hand p0.Hands) fun y3 => (rangeGo (fun i5 (s5 : (List (List Range))) k5 => bindO (slices_Clone_Range (p0.Travel.getD i5 default)) fun y7 => must (room (s5 ++ ([y7] : List (List Range))).length 24) <| k5 (s5 ++ ([y7] : List (List Range)))) (fun (s5 : (List (List Range))) => some (⟨y1, s5, y3⟩ : Crew)) p0.Travel.length 0 ([] : List (List Range)))
def slices_IndexFunc_Hand (p0 : (List Hand)) (p1 : Hand → Option Bool) : Option Int :=
 (rangeGo (fun i1 (s1 : Unit) k1 => bindO (p1 (p0.getD i1 default)) fun y3 => (bif y3 then some (i1 : Int) else k1 ())) (fun (s1 : Unit) => some (-1)) p0.length 0 ())
def crew_Ill_1 (p0 : Hand) (c0 : Int) : Bool :=
 (decide (p0.Id = c0))
def slices_Delete_Hand (p0 : (List Hand)) (p1 : Int) (p2 : Int) : Option (List Hand) :=
 must (0 ≤ (p1 : Int) ∧ (p1 : Int) ≤ p2 ∧ (p2 : Int) ≤ ((p0.length : Nat) : Int) ∧ (((p0.length : Nat) : Int) : Int) ≤ ((p0.length : Nat) : Int)) <| (bif (decide (p1 = p2)) then some p0 else must (0 < p0.length ∧ 0 ≤ (p1 : Int) ∧ (p1 : Int) ≤ ((p0.length : Nat) : Int)) <| must (0 < p0.length ∧ 0 ≤ (p2 : Int) ∧ (p2 : Int) ≤ ((p0.length : Nat) : Int)) <| must ((p1).toNat ≤ (p2).toNat) <| must (0 ≤ ((((p0.take ((p1).toNat) ++ p0.drop ((p2).toNat)).length : Nat) : Int) : Int) ∧ ((((p0.take ((p1).toNat) ++ p0.drop ((p2).toNat)).length : Nat) : Int) : Int) ≤ ((p0.length : Nat) : Int) ∧ (((p0.length : Nat) : Int) : Int) ≤ ((p0.length : Nat) : Int)) <| some (p0.take ((p1).toNat) ++ p0.drop ((p2).toNat)))
def crew_Ill (p0 : Crew) (p1 : Int) (p2 : Int) : Option (Crew × Int) :=
 bindO (crew_Check p0) fun y1 => (bif (!decide (y1 = 0)) then some ((⟨[], [], []⟩ : Crew), y1) else (bif (!(crew_isMinute p2)) then some ((⟨[], [], []⟩ : Crew), 1) else bindO (crew_copied p0) fun y5 => bindO (slices_IndexFunc_Hand y5.Hands (fun x0 => some (crew_Ill_1 x0 p1))) fun y7 => (bif (decide (y7 < 0)) then some ((⟨[], [], []⟩ : Crew), 3) else must (0 ≤ (y7 : Int) ∧ (y7 : Int) < ((y5.Hands.length : Nat) : Int)) <| (bif (decide (((y5.Hands.set (y7).toNat (⟨(y5.Hands.getD (y7).toNat default).Id, (y5.Hands.getD (y7).toNat default).From, (min ((y5.Hands.getD (y7).toNat default).To) p2)⟩ : Hand)).getD (y7).toNat default).To < ((y5.Hands.set (y7).toNat (⟨(y5.Hands.getD (y7).toNat default).Id, (y5.Hands.getD (y7).toNat default).From, (min ((y5.Hands.getD (y7).toNat default).To) p2)⟩ : Hand)).getD (y7).toNat default).From)) then must (inI (y7 + 1)) <| bindO (slices_Delete_Hand (y5.Hands.set (y7).toNat (⟨(y5.Hands.getD (y7).toNat default).Id, (y5.Hands.getD (y7).toNat default).From, (min ((y5.Hands.getD (y7).toNat default).To) p2)⟩ : Hand)) y7 (y7 + 1)) fun y13 => some ((⟨y5.Tasks, y5.Travel, y13⟩ : Crew), 0) else some ((⟨y5.Tasks, y5.Travel, (y5.Hands.set (y7).toNat (⟨(y5.Hands.getD (y7).toNat default).Id, (y5.Hands.getD (y7).toNat default).From, (min ((y5.Hands.getD (y7).toNat default).To) p2)⟩ : Hand))⟩ : Crew), 0)))))
def slices_Clone_int (p0 : (List Int)) : Option (List Int) :=
 must (room (([] : List Int) ++ p0).length 8) <| some (([] : List Int) ++ p0)
def slices_Delete_int (p0 : (List Int)) (p1 : Int) (p2 : Int) : Option (List Int) :=
 must (0 ≤ (p1 : Int) ∧ (p1 : Int) ≤ p2 ∧ (p2 : Int) ≤ ((p0.length : Nat) : Int) ∧ (((p0.length : Nat) : Int) : Int) ≤ ((p0.length : Nat) : Int)) <| (bif (decide (p1 = p2)) then some p0 else must (0 < p0.length ∧ 0 ≤ (p1 : Int) ∧ (p1 : Int) ≤ ((p0.length : Nat) : Int)) <| must (0 < p0.length ∧ 0 ≤ (p2 : Int) ∧ (p2 : Int) ≤ ((p0.length : Nat) : Int)) <| must ((p1).toNat ≤ (p2).toNat) <| must (0 ≤ ((((p0.take ((p1).toNat) ++ p0.drop ((p2).toNat)).length : Nat) : Int) : Int) ∧ ((((p0.take ((p1).toNat) ++ p0.drop ((p2).toNat)).length : Nat) : Int) : Int) ≤ ((p0.length : Nat) : Int) ∧ (((p0.length : Nat) : Int) : Int) ≤ ((p0.length : Nat) : Int)) <| some (p0.take ((p1).toNat) ++ p0.drop ((p2).toNat)))
def crew_Short (fuel : Nat) (p0 : Crew) (p1 : (List (List Int))) : Option ((List Int) × Int) :=
 bindO (crew_asked p0 p1) fun y1 => (bif (!decide (y1.2 = 0)) then some ([], y1.2) else bindO (crew_shift__indices (⟨y1.1, p1⟩ : crew_shift)) fun y4 => bindO (crew_shift__free (⟨y1.1, p1⟩ : crew_shift)) fun y6 => bindO (crew_shift__all fuel (⟨y1.1, p1⟩ : crew_shift) y4 y6) fun y8 => (bif y8 then some ([], 3) else must (inI (((y4.length : Nat) : Int) - 1)) <| (loopGo (fun (s12 : Int × (List Int)) k12 => (bif (decide (0 ≤ s12.1)) then bindO (slices_Clone_int s12.2) fun y14 => must (inI (s12.1 + 1)) <| bindO (slices_Delete_int y14 s12.1 (s12.1 + 1)) fun y17 => bindO (crew_shift__free (⟨y1.1, p1⟩ : crew_shift)) fun y19 => bindO (crew_shift__all fuel (⟨y1.1, p1⟩ : crew_shift) y17 y19) fun y21 => (bif (!y21) then must (inI (s12.1 - 1)) <| k12 ((s12.1 - 1), y17) else must (inI (s12.1 - 1)) <| k12 ((s12.1 - 1), s12.2)) else some (s12.2, 0))) fuel ((((y4.length : Nat) : Int) - 1), y4))))
def slices_Delete_Task (p0 : (List Task)) (p1 : Int) (p2 : Int) : Option (List Task) :=
 must (0 ≤ (p1 : Int) ∧ (p1 : Int) ≤ p2 ∧ (p2 : Int) ≤ ((p0.length : Nat) : Int) ∧ (((p0.length : Nat) : Int) : Int) ≤ ((p0.length : Nat) : Int)) <| (bif (decide (p1 = p2)) then some p0 else must (0 < p0.length ∧ 0 ≤ (p1 : Int) ∧ (p1 : Int) ≤ ((p0.length : Nat) : Int)) <| must (0 < p0.length ∧ 0 ≤ (p2 : Int) ∧ (p2 : Int) ≤ ((p0.length : Nat) : Int)) <| must ((p1).toNat ≤ (p2).toNat) <| must (0 ≤ ((((p0.take ((p1).toNat) ++ p0.drop ((p2).toNat)).length : Nat) : Int) : Int) ∧ ((((p0.take ((p1).toNat) ++ p0.drop ((p2).toNat)).length : Nat) : Int) : Int) ≤ ((p0.length : Nat) : Int) ∧ (((p0.length : Nat) : Int) : Int) ≤ ((p0.length : Nat) : Int)) <| some (p0.take ((p1).toNat) ++ p0.drop ((p2).toNat)))
def crew_Moved (fuel : Nat) (p0 : Crew) : Option ((List Int) × Int) :=
 bindO (crew_Count fuel p0) fun y1 => (bif (!decide (y1.2 = 0)) then some ([], y1.2) else (rangeGo (fun i4 (s4 : (List Int)) k4 => bindO (crew_copied p0) fun y6 => bindO (slices_Delete_Task y6.Tasks (i4 : Int) ((i4 : Int) + 1)) fun y8 => bindO (crew_Count fuel (⟨y8, y6.Travel, y6.Hands⟩ : Crew)) fun y10 => (bif (decide (y10.1 < y1.1)) then must (room (s4 ++ ([(p0.Tasks.getD i4 default).Lamp] : List Int)).length 8) <| k4 (s4 ++ ([(p0.Tasks.getD i4 default).Lamp] : List Int)) else k4 s4)) (fun (s4 : (List Int)) => some (s4, 0)) p0.Tasks.length 0 ([] : List Int)))
def crew_CheckRounds (p0 : Crew) (p1 : (List (List Int))) : Option Int :=
 bindO (crew_asked p0 p1) fun y1 => some y1.2
def crew_CheckCut (p0 : Crew) (p1 : (List Int)) (p2 : Int) : Option Int :=
 bindO (crew_Check p0) fun y1 => (bif (!decide (y1 = 0)) then some y1 else bindO (crew_newPlan p0 (fun x0 => some (crew_most x0))) fun y4 => (rangeGo (fun i6 (s6 : Unit) k6 => must (y4.isSome = true) <| must (inI (((((y4.getD default).next).length : Nat) : Int) - 1)) <| must ((((!(!(crew_in (p1.getD i6 default) 0 (((((y4.getD default).next).length : Nat) : Int) - 1)))) && (decide (0 < (i6 : Int)))) = true → (inI ((i6 : Int) - 1)))) <| must ((((!(!(crew_in (p1.getD i6 default) 0 (((((y4.getD default).next).length : Nat) : Int) - 1)))) && (decide (0 < (i6 : Int)))) = true → (0 ≤ (((i6 : Int) - 1) : Int) ∧ (((i6 : Int) - 1) : Int) < ((p1.length : Nat) : Int)))) <| (bif ((!(crew_in (p1.getD i6 default) 0 (((((y4.getD default).next).length : Nat) : Int) - 1))) || ((decide (0 < (i6 : Int))) && (decide ((p1.getD i6 default) ≤ (p1.getD (((i6 : Int) - 1)).toNat default))))) then some 44 else must ((0 : Int) ≤ (i6 : Int) ∧ ((i6 : Int) : Int) ≤ ((p1.length : Nat) : Int)) <| (rangeGo (fun i14 (s14 : Unit) k14 => must (y4.isSome = true) <| must (0 ≤ ((p1.getD i6 default) : Int) ∧ ((p1.getD i6 default) : Int) < ((((y4.getD default).next).length : Nat) : Int)) <| must (0 ≤ (((p1.take i6).getD i14 default) : Int) ∧ (((p1.take i6).getD i14 default) : Int) < 64) <| must (0 ≤ ((Int.fdiv (((y4.getD default).next).getD ((p1.getD i6 default)).toNat default) (2 ^ (((p1.take i6).getD i14 default) : Int).toNat)) : Int) ∧ 0 ≤ (1 : Int) ∧ inI (Int.fdiv (((y4.getD default).next).getD ((p1.getD i6 default)).toNat default) (2 ^ (((p1.take i6).getD i14 default) : Int).toNat)) ∧ inI 1) <| must (((!(decide (((((Int.fdiv (((y4.getD default).next).getD ((p1.getD i6 default)).toNat default) (2 ^ (((p1.take i6).getD i14 default) : Int).toNat)) : Int).toNat &&& (1 : Int).toNat : Nat) : Int) = 1))) = true → (y4.isSome = true))) <| must (((!(decide (((((Int.fdiv (((y4.getD default).next).getD ((p1.getD i6 default)).toNat default) (2 ^ (((p1.take i6).getD i14 default) : Int).toNat)) : Int).toNat &&& (1 : Int).toNat : Nat) : Int) = 1))) = true → (0 ≤ (((p1.take i6).getD i14 default) : Int) ∧ (((p1.take i6).getD i14 default) : Int) < ((((y4.getD default).next).length : Nat) : Int)))) <| must (((!(decide (((((Int.fdiv (((y4.getD default).next).getD ((p1.getD i6 default)).toNat default) (2 ^ (((p1.take i6).getD i14 default) : Int).toNat)) : Int).toNat &&& (1 : Int).toNat : Nat) : Int) = 1))) = true → (0 ≤ ((p1.getD i6 default) : Int) ∧ ((p1.getD i6 default) : Int) < 64))) <| must (((!(decide (((((Int.fdiv (((y4.getD default).next).getD ((p1.getD i6 default)).toNat default) (2 ^ (((p1.take i6).getD i14 default) : Int).toNat)) : Int).toNat &&& (1 : Int).toNat : Nat) : Int) = 1))) = true → (0 ≤ ((Int.fdiv (((y4.getD default).next).getD (((p1.take i6).getD i14 default)).toNat default) (2 ^ ((p1.getD i6 default) : Int).toNat)) : Int) ∧ 0 ≤ (1 : Int) ∧ inI (Int.fdiv (((y4.getD default).next).getD (((p1.take i6).getD i14 default)).toNat default) (2 ^ ((p1.getD i6 default) : Int).toNat)) ∧ inI 1))) <| (bif ((decide (((((Int.fdiv (((y4.getD default).next).getD ((p1.getD i6 default)).toNat default) (2 ^ (((p1.take i6).getD i14 default) : Int).toNat)) : Int).toNat &&& (1 : Int).toNat : Nat) : Int) = 1)) || (decide (((((Int.fdiv (((y4.getD default).next).getD (((p1.take i6).getD i14 default)).toNat default) (2 ^ ((p1.getD i6 default) : Int).toNat)) : Int).toNat &&& (1 : Int).toNat : Nat) : Int) = 1))) then some 44 else k14 ())) (fun (s14 : Unit) => k6 ()) ((p1.take i6).length) 0 ()))) (fun (s6 : Unit) => (bif (decide (((p1.length : Nat) : Int) < p2)) then some 44 else some 0)) p1.length 0 ()))
def gasolierlaw04_sane (fuel : Nat) : Option Bool :=
 bindO (crew_Follows (gasolierlaw04_team) 0 1) fun y1 => bindO (crew_Count fuel (gasolierlaw04_team)) fun y3 => bindO (crew_Bounds fuel (gasolierlaw04_team)) fun y5 => bindO (crew_Slack fuel (gasolierlaw04_team) ([([0, 2, 3] : List Int), ([1] : List Int)] : List (List Int))) fun y7 => bindO (crew_Late (gasolierlaw04_team) ([([0, 2, 3] : List Int), ([1] : List Int)] : List (List Int)) ([([0, 24] : List Int), ([] : List Int)] : List (List Int))) fun y9 => bindO (crew_Assign fuel (gasolierlaw04_team) ([([0, 2, 3] : List Int), ([1] : List Int)] : List (List Int))) fun y11 => bindO (crew_Ill (gasolierlaw04_team) 8 315) fun y13 => bindO (crew_Short fuel y13.1 ([([0, 2, 3] : List Int), ([1] : List Int)] : List (List Int))) fun y15 => bindO (crew_Moved fuel (gasolierlaw04_team)) fun y17 => bindO ((bif (((((((((((((decide (y1.2 = 0)) && (decide (y3.2 = 0))) && (decide (y5.2 = 0))) && (decide (y7.2 = 0))) && (decide (y9.2 = 0))) && (decide (y11.2 = 0))) && (decide (y13.2 = 0))) && (decide (y15.2 = 0))) && (decide (y17.2 = 0))) && (decide (y1.1 = 2))) && (decide (y3.1 = 2))) && ((decide (y5.1.Lo = 2)) && (decide (y5.1.Hi = 2)))) && (decide (y7.1 = 3))) then gasolierref01_Same y9.1 ([3] : List Int) else some default)) fun y19 => bindO ((bif ((((((((((((((decide (y1.2 = 0)) && (decide (y3.2 = 0))) && (decide (y5.2 = 0))) && (decide (y7.2 = 0))) && (decide (y9.2 = 0))) && (decide (y11.2 = 0))) && (decide (y13.2 = 0))) && (decide (y15.2 = 0))) && (decide (y17.2 = 0))) && (decide (y1.1 = 2))) && (decide (y3.1 = 2))) && ((decide (y5.1.Lo = 2)) && (decide (y5.1.Hi = 2)))) && (decide (y7.1 = 3))) && y19) then gasolierref01_Same y11.1 ([7, 8] : List Int) else some default)) fun y21 => bindO ((bif (((((((((((((((decide (y1.2 = 0)) && (decide (y3.2 = 0))) && (decide (y5.2 = 0))) && (decide (y7.2 = 0))) && (decide (y9.2 = 0))) && (decide (y11.2 = 0))) && (decide (y13.2 = 0))) && (decide (y15.2 = 0))) && (decide (y17.2 = 0))) && (decide (y1.1 = 2))) && (decide (y3.1 = 2))) && ((decide (y5.1.Lo = 2)) && (decide (y5.1.Hi = 2)))) && (decide (y7.1 = 3))) && y19) && y21) then gasolierref01_Same y15.1 ([0, 1] : List Int) else some default)) fun y23 => bindO ((bif ((((((((((((((((decide (y1.2 = 0)) && (decide (y3.2 = 0))) && (decide (y5.2 = 0))) && (decide (y7.2 = 0))) && (decide (y9.2 = 0))) && (decide (y11.2 = 0))) && (decide (y13.2 = 0))) && (decide (y15.2 = 0))) && (decide (y17.2 = 0))) && (decide (y1.1 = 2))) && (decide (y3.1 = 2))) && ((decide (y5.1.Lo = 2)) && (decide (y5.1.Hi = 2)))) && (decide (y7.1 = 3))) && y19) && y21) && y23) then gasolierref01_Same y17.1 ([2] : List Int) else some default)) fun y25 => bindO ((bif (((((((((((((((((decide (y1.2 = 0)) && (decide (y3.2 = 0))) && (decide (y5.2 = 0))) && (decide (y7.2 = 0))) && (decide (y9.2 = 0))) && (decide (y11.2 = 0))) && (decide (y13.2 = 0))) && (decide (y15.2 = 0))) && (decide (y17.2 = 0))) && (decide (y1.1 = 2))) && (decide (y3.1 = 2))) && ((decide (y5.1.Lo = 2)) && (decide (y5.1.Hi = 2)))) && (decide (y7.1 = 3))) && y19) && y21) && y23) && y25) then crew_CheckRounds (gasolierlaw04_team) ([([0, 1] : List Int), ([2, 3] : List Int)] : List (List Int)) else some default)) fun y27 => bindO ((bif ((((((((((((((((((decide (y1.2 = 0)) && (decide (y3.2 = 0))) && (decide (y5.2 = 0))) && (decide (y7.2 = 0))) && (decide (y9.2 = 0))) && (decide (y11.2 = 0))) && (decide (y13.2 = 0))) && (decide (y15.2 = 0))) && (decide (y17.2 = 0))) && (decide (y1.1 = 2))) && (decide (y3.1 = 2))) && ((decide (y5.1.Lo = 2)) && (decide (y5.1.Hi = 2)))) && (decide (y7.1 = 3))) && y19) && y21) && y23) && y25) && (decide (y27 = 43))) then crew_CheckCut (gasolierlaw04_team) ([0, 1] : List Int) 2 else some default)) fun y29 => some (((((((((((((((((((decide (y1.2 = 0)) && (decide (y3.2 = 0))) && (decide (y5.2 = 0))) && (decide (y7.2 = 0))) && (decide (y9.2 = 0))) && (decide (y11.2 = 0))) && (decide (y13.2 = 0))) && (decide (y15.2 = 0))) && (decide (y17.2 = 0))) && (decide (y1.1 = 2))) && (decide (y3.1 = 2))) && ((decide (y5.1.Lo = 2)) && (decide (y5.1.Hi = 2)))) && (decide (y7.1 = 3))) && y19) && y21) && y23) && y25) && (decide (y27 = 43))) && (decide (y29 = 0)))
def gasolierref04_matched_l_F (fuel : Nat) (rec : Crew → Int → (List Int) → (List Bool) → Option (Bool × (List Int) × (List Bool))) (p0 : Crew) (p1 : Int) (p2 : (List Int)) (p3 : (List Bool)) : Option (Bool × (List Int) × (List Bool)) :=
 must (p0.Tasks.length ≤ 9223372036854775807) <| (rangeGo (fun i1 (s1 : (List Int) × (List Bool)) k1 => (joinK (fun (k3 : (List Int) × (List Bool) → _) => must (0 ≤ ((i1 : Int) : Int) ∧ ((i1 : Int) : Int) < ((s1.2.length : Nat) : Int)) <| bindO ((bif (!(s1.2.getD i1 default)) then gasolierref04_follows p0 p1 (i1 : Int) else some default)) fun y5 => (bif ((s1.2.getD i1 default) || (!decide (y5 = 1))) then k3 (s1.1, s1.2) else must (0 ≤ ((i1 : Int) : Int) ∧ ((i1 : Int) : Int) < ((s1.2.length : Nat) : Int)) <| must (0 ≤ ((i1 : Int) : Int) ∧ ((i1 : Int) : Int) < ((s1.1.length : Nat) : Int)) <| must (((!(decide ((s1.1.getD i1 default) < 0))) = true → (0 ≤ ((i1 : Int) : Int) ∧ ((i1 : Int) : Int) < ((s1.1.length : Nat) : Int)))) <| bindO ((bif (!(decide ((s1.1.getD i1 default) < 0))) then rec p0 (s1.1.getD i1 default) s1.1 (s1.2.set i1 true) else some (default, s1.1, (s1.2.set i1 true)))) fun y11 => must (y11.2.1.length = s1.1.length) <| must (y11.2.2.length = (s1.2.set i1 true).length) <| (bif ((decide ((s1.1.getD i1 default) < 0)) || y11.1) then must (0 ≤ ((i1 : Int) : Int) ∧ ((i1 : Int) : Int) < ((y11.2.1.length : Nat) : Int)) <| some (true, (y11.2.1.set i1 p1), y11.2.2) else k3 (y11.2.1, y11.2.2)))) (fun (s3 : (List Int) × (List Bool)) => k1 (s3.1, s3.2)))) (fun (s1 : (List Int) × (List Bool)) => some (false, s1.1, s1.2)) p0.Tasks.length 0 (p2, p3))
def gasolierref04_matched_l (fuel : Nat) : Nat → Crew → Int → (List Int) → (List Bool) → Option (Bool × (List Int) × (List Bool))
 | 0 => fun _ _ _ _ => none
 | n + 1 => gasolierref04_matched_l_F fuel (gasolierref04_matched_l fuel n)
def gasolierref04_count (fuel : Nat) (p0 : Crew) : Option Int :=
 must (0 ≤ (((p0.Tasks.length : Nat) : Int) : Int) ∧ (((p0.Tasks.length : Nat) : Int) : Int) ≤ ((p0.Tasks.length : Nat) : Int) ∧ room (((p0.Tasks.length : Nat) : Int)).toNat 8) <| must ((List.replicate (((p0.Tasks.length : Nat) : Int)).toNat (0 : Int)).length ≤ 9223372036854775807) <| (rangeGo (fun i2 (s2 : (List Int)) k2 => must (0 ≤ ((i2 : Int) : Int) ∧ ((i2 : Int) : Int) < ((s2.length : Nat) : Int)) <| k2 (s2.set i2 (-1))) (fun (s2 : (List Int)) => must (p0.Tasks.length ≤ 9223372036854775807) <| (rangeGo (fun i5 (s5 : Int × (List Int)) k5 => must (0 ≤ (((p0.Tasks.length : Nat) : Int) : Int) ∧ (((p0.Tasks.length : Nat) : Int) : Int) ≤ ((p0.Tasks.length : Nat) : Int) ∧ room (((p0.Tasks.length : Nat) : Int)).toNat 1) <| bindO (gasolierref04_matched_l fuel fuel p0 (i5 : Int) s5.2 (List.replicate (((p0.Tasks.length : Nat) : Int)).toNat (false : Bool))) fun y8 => must (y8.2.1.length = s5.2.length) <| must (y8.2.2.length = (List.replicate (((p0.Tasks.length : Nat) : Int)).toNat (false : Bool)).length) <| (bif y8.1 then must (inI (s5.1 - 1)) <| k5 ((s5.1 - 1), y8.2.1) else k5 (s5.1, y8.2.1))) (fun (s5 : Int × (List Int)) => some s5.1) p0.Tasks.length 0 (((p0.Tasks.length : Nat) : Int), s2))) ((List.replicate (((p0.Tasks.length : Nat) : Int)).toNat (0 : Int)).length) 0 (List.replicate (((p0.Tasks.length : Nat) : Int)).toNat (0 : Int)))
def gasolierref04_Copy (p0 : Crew) : Option Crew :=
 must (room (([] : List Task) ++ p0.Tasks).length 32) <| must (room (([] : List Hand) ++ p0.Hands).length 24) <| (rangeGo (fun i3 (s3 : (List (List Range))) k3 => must (room (([] : List Range) ++ (p0.Travel.getD i3 default)).length 16) <| must (room (s3 ++ ([(([] : List Range) ++ (p0.Travel.getD i3 default))] : List (List Range))).length 24) <| k3 (s3 ++ ([(([] : List Range) ++ (p0.Travel.getD i3 default))] : List (List Range)))) (fun (s3 : (List (List Range))) => some (⟨(([] : List Task) ++ p0.Tasks), s3, (([] : List Hand) ++ p0.Hands)⟩ : Crew)) p0.Travel.length 0 ([] : List (List Range)))
def crew_CheckShort_1 (p0 : Int) (c0 : crew_plan) (c1 : Hand) (c2 : (List (List Int))) : Option Bool :=
 must (0 ≤ (p0 : Int) ∧ (p0 : Int) < ((c2.length : Nat) : Int)) <| bindO (crew_plan__able c0 c1 (c2.getD (p0).toNat default)) fun y2 => some y2
def crew_CheckShort (p0 : Crew) (p1 : (List (List Int))) (p2 : (List Int)) : Option Int :=
 bindO (crew_asked p0 p1) fun y1 => (bif (!decide (y1.2 = 0)) then some y1.2 else (rangeGo (fun i4 (s4 : Unit) k4 => must (inI (((p1.length : Nat) : Int) - 1)) <| must ((((!(!(crew_in (p2.getD i4 default) 0 (((p1.length : Nat) : Int) - 1)))) && (decide (0 < (i4 : Int)))) = true → (inI ((i4 : Int) - 1)))) <| must ((((!(!(crew_in (p2.getD i4 default) 0 (((p1.length : Nat) : Int) - 1)))) && (decide (0 < (i4 : Int)))) = true → (0 ≤ (((i4 : Int) - 1) : Int) ∧ (((i4 : Int) - 1) : Int) < ((p2.length : Nat) : Int)))) <| (bif ((!(crew_in (p2.getD i4 default) 0 (((p1.length : Nat) : Int) - 1))) || ((decide (0 < (i4 : Int))) && (decide ((p2.getD i4 default) ≤ (p2.getD (((i4 : Int) - 1)).toNat default))))) then some 47 else k4 ())) (fun (s4 : Unit) => (rangeGo (fun i10 (s10 : Int) k10 => must (y1.1.isSome = true) <| bindO (slices_ContainsFunc_int p2 (fun x0 => crew_CheckShort_1 x0 (y1.1.getD default) (p0.Hands.getD i10 default) p1)) fun y13 => (bif y13 then must (inI (s10 + 1)) <| k10 (s10 + 1) else k10 s10)) (fun (s10 : Int) => (bif (decide (((p2.length : Nat) : Int) ≤ s10)) then some 47 else some 0)) p0.Hands.length 0 0)) p2.length 0 ()))
def crew_CheckAssign_1 (p0 : Hand) (c0 : Int) : Bool :=
 (decide (p0.Id = c0))
def crew_CheckAssign (p0 : Crew) (p1 : (List (List Int))) (p2 : (List Int)) : Option Int :=
 bindO (crew_asked p0 p1) fun y1 => (bif (!decide (y1.2 = 0)) then some y1.2 else (bif (!decide (((p2.length : Nat) : Int) = ((p1.length : Nat) : Int))) then some 46 else (rangeGo (fun i5 (s5 : Unit) k5 => bindO (slices_IndexFunc_Hand p0.Hands (fun x0 => some (crew_CheckAssign_1 x0 (p2.getD i5 default)))) fun y7 => must (((!(decide (y7 < 0))) = true → ((0 : Int) ≤ (i5 : Int) ∧ ((i5 : Int) : Int) ≤ ((p2.length : Nat) : Int)))) <| bindO ((bif (!(decide (y7 < 0))) then slices_Contains_int (p2.take i5) (p2.getD i5 default) else some default)) fun y10 => must (((!((decide (y7 < 0)) || y10)) = true → (0 ≤ (y7 : Int) ∧ (y7 : Int) < ((p0.Hands.length : Nat) : Int)))) <| must (((!((decide (y7 < 0)) || y10)) = true → (0 ≤ ((i5 : Int) : Int) ∧ ((i5 : Int) : Int) < ((p1.length : Nat) : Int)))) <| must (((!((decide (y7 < 0)) || y10)) = true → (y1.1.isSome = true))) <| bindO ((bif (!((decide (y7 < 0)) || y10)) then crew_plan__able (y1.1.getD default) (p0.Hands.getD (y7).toNat default) (p1.getD i5 default) else some default)) fun y15 => (bif (((decide (y7 < 0)) || y10) || (!y15)) then some 46 else k5 ())) (fun (s5 : Unit) => some 0) p2.length 0 ())))
def crew_Able (p0 : Crew) (p1 : (List Int)) : Option ((List Int) × Int) :=
 bindO (crew_Check p0) fun y1 => (bif (!decide (y1 = 0)) then some ([], y1) else bindO (crew_newPlan p0 (fun x0 => some (crew_most x0))) fun y4 => must (y4.isSome = true) <| bindO (crew_plan__isRound (y4.getD default) p1) fun y7 => (bif (!y7) then some ([], 43) else must (y4.isSome = true) <| (rangeGo (fun i11 (s11 : (List Int)) k11 => must (y4.isSome = true) <| bindO (crew_plan__able (y4.getD default) (((y4.getD default).Crew.Hands).getD i11 default) p1) fun y14 => (bif y14 then must (room (s11 ++ ([(((y4.getD default).Crew.Hands).getD i11 default).Id] : List Int)).length 8) <| k11 (s11 ++ ([(((y4.getD default).Crew.Hands).getD i11 default).Id] : List Int)) else k11 s11)) (fun (s11 : (List Int)) => some (s11, 0)) (((y4.getD default).Crew.Hands).length) 0 ([] : List Int))))
def gasolierref04_able (p0 : Crew) (p1 : Hand) (p2 : (List Int)) : Option Bool :=
 must (inI (((p2.length : Nat) : Int) - 1)) <| must (0 ≤ ((((p2.length : Nat) : Int) - 1) : Int) ∧ ((((p2.length : Nat) : Int) - 1) : Int) < ((p2.length : Nat) : Int)) <| must (0 ≤ ((p2.getD ((((p2.length : Nat) : Int) - 1)).toNat default) : Int) ∧ ((p2.getD ((((p2.length : Nat) : Int) - 1)).toNat default) : Int) < ((p0.Tasks.length : Nat) : Int)) <| must (0 ≤ (0 : Int) ∧ (0 : Int) < ((p2.length : Nat) : Int)) <| must (0 ≤ ((p2.getD 0 default) : Int) ∧ ((p2.getD 0 default) : Int) < ((p0.Tasks.length : Nat) : Int)) <| must (((decide (p1.From ≤ (p0.Tasks.getD ((p2.getD 0 default)).toNat default).At)) = true → (inI ((p0.Tasks.getD ((p2.getD ((((p2.length : Nat) : Int) - 1)).toNat default)).toNat default).At + (p0.Tasks.getD ((p2.getD ((((p2.length : Nat) : Int) - 1)).toNat default)).toNat default).Serve)))) <| some ((decide (p1.From ≤ (p0.Tasks.getD ((p2.getD 0 default)).toNat default).At)) && (decide (((p0.Tasks.getD ((p2.getD ((((p2.length : Nat) : Int) - 1)).toNat default)).toNat default).At + (p0.Tasks.getD ((p2.getD ((((p2.length : Nat) : Int) - 1)).toNat default)).toNat default).Serve) ≤ p1.To)))
def gasolierref04_Able (p0 : Crew) (p1 : (List Int)) : Option ((List Int) × Int) :=
 bindO (gasolierref04_Check p0) fun y1 => (bif (!decide (y1 = 0)) then some ([], y1) else bindO (gasolierref04_isRound p0 p1) fun y4 => (bif (!y4) then some ([], 43) else (rangeGo (fun i7 (s7 : (List Int)) k7 => bindO (gasolierref04_able p0 (p0.Hands.getD i7 default) p1) fun y9 => (bif y9 then must (room (s7 ++ ([(p0.Hands.getD i7 default).Id] : List Int)).length 8) <| k7 (s7 ++ ([(p0.Hands.getD i7 default).Id] : List Int)) else k7 s7)) (fun (s7 : (List Int)) => some (s7, 0)) p0.Hands.length 0 ([] : List Int))))
def gasolierref04_all (p0 : Crew) : Option (List Bool) :=
 must (0 ≤ (((p0.Hands.length : Nat) : Int) : Int) ∧ (((p0.Hands.length : Nat) : Int) : Int) ≤ ((p0.Hands.length : Nat) : Int) ∧ room (((p0.Hands.length : Nat) : Int)).toNat 1) <| must ((List.replicate (((p0.Hands.length : Nat) : Int)).toNat (false : Bool)).length ≤ 9223372036854775807) <| (rangeGo (fun i2 (s2 : (List Bool)) k2 => must (0 ≤ ((i2 : Int) : Int) ∧ ((i2 : Int) : Int) < ((s2.length : Nat) : Int)) <| k2 (s2.set i2 true)) (fun (s2 : (List Bool)) => some s2) ((List.replicate (((p0.Hands.length : Nat) : Int)).toNat (false : Bool)).length) 0 (List.replicate (((p0.Hands.length : Nat) : Int)).toNat (false : Bool)))
def gasolierref04_Job__given_l_F (fuel : Nat) (rec : gasolierref04_Job → Int → (List Bool) → Option (Bool × gasolierref04_Job)) (p0 : gasolierref04_Job) (p1 : Int) (p2 : (List Bool)) : Option (Bool × gasolierref04_Job) :=
 must (p0.Crew.Hands.length ≤ 9223372036854775807) <| (rangeGo (fun i1 (s1 : (List Int) × (List Bool) × (List Task) × (List (List Range)) × (List Hand) × (List (List Int))) k1 => (joinK (fun (k3 : (List Task) × (List (List Range)) × (List Hand) × (List (List Int)) × (List Int) × (List Bool) → _) => must (0 ≤ ((i1 : Int) : Int) ∧ ((i1 : Int) : Int) < ((p2.length : Nat) : Int)) <| must (((!(!(p2.getD i1 default))) = true → (0 ≤ ((i1 : Int) : Int) ∧ ((i1 : Int) : Int) < ((s1.2.1.length : Nat) : Int)))) <| must (((!((!(p2.getD i1 default)) || (s1.2.1.getD i1 default))) = true → (0 ≤ ((i1 : Int) : Int) ∧ ((i1 : Int) : Int) < ((s1.2.2.2.2.1.length : Nat) : Int)))) <| must (((!((!(p2.getD i1 default)) || (s1.2.1.getD i1 default))) = true → (0 ≤ (p1 : Int) ∧ (p1 : Int) < ((s1.2.2.2.2.2.length : Nat) : Int)))) <| bindO ((bif (!((!(p2.getD i1 default)) || (s1.2.1.getD i1 default))) then gasolierref04_able (⟨s1.2.2.1, s1.2.2.2.1, s1.2.2.2.2.1⟩ : Crew) (s1.2.2.2.2.1.getD i1 default) (s1.2.2.2.2.2.getD (p1).toNat default) else some default)) fun y8 => (bif (((!(p2.getD i1 default)) || (s1.2.1.getD i1 default)) || (!y8)) then k3 (s1.2.2.1, s1.2.2.2.1, s1.2.2.2.2.1, s1.2.2.2.2.2, s1.1, s1.2.1) else must (0 ≤ ((i1 : Int) : Int) ∧ ((i1 : Int) : Int) < ((s1.2.1.length : Nat) : Int)) <| must (0 ≤ ((i1 : Int) : Int) ∧ ((i1 : Int) : Int) < ((s1.1.length : Nat) : Int)) <| must (((!(decide ((s1.1.getD i1 default) < 0))) = true → (0 ≤ ((i1 : Int) : Int) ∧ ((i1 : Int) : Int) < ((s1.1.length : Nat) : Int)))) <| bindO ((bif (!(decide ((s1.1.getD i1 default) < 0))) then rec (⟨(⟨s1.2.2.1, s1.2.2.2.1, s1.2.2.2.2.1⟩ : Crew), s1.2.2.2.2.2, s1.1, (s1.2.1.set i1 true)⟩ : gasolierref04_Job) (s1.1.getD i1 default) p2 else some (default, (⟨(⟨s1.2.2.1, s1.2.2.2.1, s1.2.2.2.2.1⟩ : Crew), s1.2.2.2.2.2, s1.1, (s1.2.1.set i1 true)⟩ : gasolierref04_Job)))) fun y14 => must (y14.2.Of.length = s1.1.length) <| must (y14.2.Seen.length = (s1.2.1.set i1 true).length) <| (bif ((decide ((s1.1.getD i1 default) < 0)) || y14.1) then must (0 ≤ ((i1 : Int) : Int) ∧ ((i1 : Int) : Int) < ((y14.2.Of.length : Nat) : Int)) <| some (true, (⟨y14.2.Crew, y14.2.Rounds, (y14.2.Of.set i1 p1), y14.2.Seen⟩ : gasolierref04_Job)) else k3 (y14.2.Crew.Tasks, y14.2.Crew.Travel, y14.2.Crew.Hands, y14.2.Rounds, y14.2.Of, y14.2.Seen)))) (fun (s3 : (List Task) × (List (List Range)) × (List Hand) × (List (List Int)) × (List Int) × (List Bool)) => k1 (s3.2.2.2.2.1, s3.2.2.2.2.2, s3.1, s3.2.1, s3.2.2.1, s3.2.2.2.1)))) (fun (s1 : (List Int) × (List Bool) × (List Task) × (List (List Range)) × (List Hand) × (List (List Int))) => some (false, (⟨(⟨s1.2.2.1, s1.2.2.2.1, s1.2.2.2.2.1⟩ : Crew), s1.2.2.2.2.2, s1.1, s1.2.1⟩ : gasolierref04_Job))) p0.Crew.Hands.length 0 (p0.Of, p0.Seen, p0.Crew.Tasks, p0.Crew.Travel, p0.Crew.Hands, p0.Rounds))
def gasolierref04_Job__given_l (fuel : Nat) : Nat → gasolierref04_Job → Int → (List Bool) → Option (Bool × gasolierref04_Job)
 | 0 => fun _ _ _ => none
 | n + 1 => gasolierref04_Job__given_l_F fuel (gasolierref04_Job__given_l fuel n)
def gasolierref04_can (fuel : Nat) (p0 : Crew) (p1 : (List (List Int))) (p2 : (List Bool)) : Option Bool :=
 must (0 ≤ (((p0.Hands.length : Nat) : Int) : Int) ∧ (((p0.Hands.length : Nat) : Int) : Int) ≤ ((p0.Hands.length : Nat) : Int) ∧ room (((p0.Hands.length : Nat) : Int)).toNat 8) <| must ((List.replicate (((p0.Hands.length : Nat) : Int)).toNat (0 : Int)).length ≤ 9223372036854775807) <| (rangeGo (fun i2 (s2 : (List Int)) k2 => must (0 ≤ ((i2 : Int) : Int) ∧ ((i2 : Int) : Int) < ((s2.length : Nat) : Int)) <| k2 (s2.set i2 (-1))) (fun (s2 : (List Int)) => must (p1.length ≤ 9223372036854775807) <| (rangeGo (fun i5 (s5 : (List Int) × (List Task) × (List (List Range)) × (List Hand) × (List (List Int))) k5 => must (0 ≤ (((p0.Hands.length : Nat) : Int) : Int) ∧ (((p0.Hands.length : Nat) : Int) : Int) ≤ ((p0.Hands.length : Nat) : Int) ∧ room (((p0.Hands.length : Nat) : Int)).toNat 1) <| bindO (gasolierref04_Job__given_l fuel fuel (⟨(⟨s5.2.1, s5.2.2.1, s5.2.2.2.1⟩ : Crew), s5.2.2.2.2, s5.1, (List.replicate (((p0.Hands.length : Nat) : Int)).toNat (false : Bool))⟩ : gasolierref04_Job) (i5 : Int) p2) fun y8 => must (y8.2.Of.length = s5.1.length) <| must (y8.2.Seen.length = (List.replicate (((p0.Hands.length : Nat) : Int)).toNat (false : Bool)).length) <| (bif (!y8.1) then some false else k5 (y8.2.Of, y8.2.Crew.Tasks, y8.2.Crew.Travel, y8.2.Crew.Hands, y8.2.Rounds))) (fun (s5 : (List Int) × (List Task) × (List (List Range)) × (List Hand) × (List (List Int))) => some true) p1.length 0 (s2, p0.Tasks, p0.Travel, p0.Hands, p1))) ((List.replicate (((p0.Hands.length : Nat) : Int)).toNat (0 : Int)).length) 0 (List.replicate (((p0.Hands.length : Nat) : Int)).toNat (0 : Int)))
def gasolierref04_Assign (fuel : Nat) (p0 : Crew) (p1 : (List (List Int))) : Option ((List Int) × Int) :=
 bindO (gasolierref04_CheckRounds p0 p1) fun y1 => (bif (!decide (y1 = 0)) then some ([], y1) else bindO (gasolierref04_all p0) fun y4 => bindO (gasolierref04_can fuel p0 p1 y4) fun y6 => (bif (!y6) then some ([], 45) else (rangeGo (fun i9 (s9 : (List Bool) × (List Int)) k9 => must (p0.Hands.length ≤ 9223372036854775807) <| (rangeGo (fun i11 (s11 : Bool × (List Bool) × (List Int)) k11 => must (((!s11.1) = true → (0 ≤ ((i11 : Int) : Int) ∧ ((i11 : Int) : Int) < ((s11.2.1.length : Nat) : Int)))) <| bindO ((bif (!(s11.1 || (!(s11.2.1.getD i11 default)))) then gasolierref04_able p0 (p0.Hands.getD i11 default) (p1.getD i9 default) else some default)) fun y14 => (bif ((s11.1 || (!(s11.2.1.getD i11 default))) || (!y14)) then k11 (s11.1, s11.2.1, s11.2.2) else must (0 ≤ ((i11 : Int) : Int) ∧ ((i11 : Int) : Int) < ((s11.2.1.length : Nat) : Int)) <| must ((0 : Int) ≤ ((i9 : Int) + 1) ∧ (((i9 : Int) + 1) : Int) ≤ ((p1.length : Nat) : Int)) <| bindO (gasolierref04_can fuel p0 (p1.drop (((i9 : Int) + 1)).toNat) (s11.2.1.set i11 false)) fun y19 => (bif y19 then must (room (s11.2.2 ++ ([(p0.Hands.getD i11 default).Id] : List Int)).length 8) <| k11 (true, (s11.2.1.set i11 false), (s11.2.2 ++ ([(p0.Hands.getD i11 default).Id] : List Int))) else must (0 ≤ ((i11 : Int) : Int) ∧ ((i11 : Int) : Int) < (((s11.2.1.set i11 false).length : Nat) : Int)) <| k11 (s11.1, ((s11.2.1.set i11 false).set i11 true), s11.2.2)))) (fun (s11 : Bool × (List Bool) × (List Int)) => k9 (s11.2.1, s11.2.2)) p0.Hands.length 0 (false, s9.1, s9.2))) (fun (s9 : (List Bool) × (List Int)) => some (s9.2, 0)) p1.length 0 (y4, ([] : List Int)))))
def gasolierref04_less (p0 : (List Int)) (p1 : Int) : Option (List Int) :=
 must ((0 : Int) ≤ p1 ∧ (p1 : Int) ≤ ((p0.length : Nat) : Int)) <| must (room (([] : List Int) ++ (p0.take (p1).toNat)).length 8) <| must (inI (p1 + 1)) <| must ((0 : Int) ≤ (p1 + 1) ∧ ((p1 + 1) : Int) ≤ ((p0.length : Nat) : Int)) <| must (room ((([] : List Int) ++ (p0.take (p1).toNat)) ++ (p0.drop ((p1 + 1)).toNat)).length 8) <| some ((([] : List Int) ++ (p0.take (p1).toNat)) ++ (p0.drop ((p1 + 1)).toNat))
def gasolierref04_some (p0 : (List (List Int))) (p1 : (List Int)) : Option (List (List Int)) :=
 (rangeGo (fun i1 (s1 : (List (List Int))) k1 => must (0 ≤ ((p1.getD i1 default) : Int) ∧ ((p1.getD i1 default) : Int) < ((p0.length : Nat) : Int)) <| must (room (s1 ++ ([(p0.getD ((p1.getD i1 default)).toNat default)] : List (List Int))).length 24) <| k1 (s1 ++ ([(p0.getD ((p1.getD i1 default)).toNat default)] : List (List Int)))) (fun (s1 : (List (List Int))) => some s1) p1.length 0 ([] : List (List Int)))
def gasolierref04_Short (fuel : Nat) (p0 : Crew) (p1 : (List (List Int))) : Option ((List Int) × Int) :=
 bindO (gasolierref04_CheckRounds p0 p1) fun y1 => (bif (!decide (y1 = 0)) then some ([], y1) else bindO (gasolierref04_all p0) fun y4 => bindO (gasolierref04_can fuel p0 p1 y4) fun y6 => (bif y6 then some ([], 3) else (rangeGo (fun i9 (s9 : (List Int)) k9 => must (room (s9 ++ ([(i9 : Int)] : List Int)).length 8) <| k9 (s9 ++ ([(i9 : Int)] : List Int))) (fun (s9 : (List Int)) => must (inI (((p1.length : Nat) : Int) - 1)) <| (loopGo (fun (s13 : Int × (List Int)) k13 => (bif (decide (0 ≤ s13.1)) then bindO (gasolierref04_less s13.2 s13.1) fun y15 => bindO (gasolierref04_some p1 y15) fun y17 => bindO (gasolierref04_all p0) fun y19 => bindO (gasolierref04_can fuel p0 y17 y19) fun y21 => (bif (!y21) then must (inI (s13.1 - 1)) <| k13 ((s13.1 - 1), y15) else must (inI (s13.1 - 1)) <| k13 ((s13.1 - 1), s13.2)) else some (s13.2, 0))) fuel ((((p1.length : Nat) : Int) - 1), s9))) p1.length 0 ([] : List Int))))
def gasolierref04_Without (p0 : Crew) (p1 : Int) : Option (Crew × Int) :=
 bindO (gasolierref04_Check p0) fun y1 => (bif (!decide (y1 = 0)) then some ((⟨[], [], []⟩ : Crew), y1) else bindO (gasolierref04_Copy p0) fun y4 => (rangeGo (fun i6 (s6 : (List Task)) k6 => (bif (!decide ((p0.Tasks.getD i6 default).Lamp = p1)) then must (room (s6 ++ ([(p0.Tasks.getD i6 default)] : List Task)).length 32) <| k6 (s6 ++ ([(p0.Tasks.getD i6 default)] : List Task)) else k6 s6)) (fun (s6 : (List Task)) => (bif (decide (((s6.length : Nat) : Int) = ((p0.Tasks.length : Nat) : Int))) then some ((⟨[], [], []⟩ : Crew), 3) else some ((⟨s6, y4.Travel, y4.Hands⟩ : Crew), 0))) p0.Tasks.length 0 ([] : List Task)))
def gasolierref04_Moved (fuel : Nat) (p0 : Crew) : Option ((List Int) × Int) :=
 bindO (gasolierref04_Check p0) fun y1 => (bif (!decide (y1 = 0)) then some ([], y1) else bindO (gasolierref04_count fuel p0) fun y4 => (rangeGo (fun i6 (s6 : (List Int)) k6 => bindO (gasolierref04_Without p0 ((p0.Tasks.getD i6 default).Lamp)) fun y8 => bindO (gasolierref04_count fuel y8.1) fun y10 => (bif (decide (y10 < y4)) then must (room (s6 ++ ([(p0.Tasks.getD i6 default).Lamp] : List Int)).length 8) <| k6 (s6 ++ ([(p0.Tasks.getD i6 default).Lamp] : List Int)) else k6 s6)) (fun (s6 : (List Int)) => some (s6, 0)) p0.Tasks.length 0 ([] : List Int)))
def gasolierref04_hand (p0 : Crew) (p1 : Int) : Option (Hand × Bool) :=
 (rangeGo (fun i1 (s1 : Unit) k1 => (bif (decide ((p0.Hands.getD i1 default).Id = p1)) then some ((p0.Hands.getD i1 default), true) else k1 ())) (fun (s1 : Unit) => some ((⟨0, 0, 0⟩ : Hand), false)) p0.Hands.length 0 ())
def gasolierref04_CheckAssign (fuel : Nat) (p0 : Crew) (p1 : (List (List Int))) (p2 : (List Int)) : Option Int :=
 bindO (gasolierref04_CheckRounds p0 p1) fun y1 => (bif (!decide (y1 = 0)) then some y1 else (bif (!decide (((p2.length : Nat) : Int) = ((p1.length : Nat) : Int))) then some 46 else (rangeGo (fun i5 (s5 : Unit) k5 => bindO (gasolierref04_hand p0 (p2.getD i5 default)) fun y7 => must (((!(!y7.2)) = true → (0 ≤ ((i5 : Int) : Int) ∧ ((i5 : Int) : Int) < ((p1.length : Nat) : Int)))) <| bindO ((bif (!(!y7.2)) then gasolierref04_able p0 y7.1 (p1.getD i5 default) else some default)) fun y10 => (bif ((!y7.2) || (!y10)) then some 46 else (loopGo (fun (s13 : Int) k13 => (bif (decide (s13 < (i5 : Int))) then must (0 ≤ (s13 : Int) ∧ (s13 : Int) < ((p2.length : Nat) : Int)) <| (bif (decide ((p2.getD (s13).toNat default) = (p2.getD i5 default))) then some 46 else must (inI (s13 + 1)) <| k13 (s13 + 1)) else k5 ())) fuel 0))) (fun (s5 : Unit) => some 0) p2.length 0 ())))
def gasolierref04_CheckShort (p0 : Crew) (p1 : (List (List Int))) (p2 : (List Int)) : Option Int :=
 bindO (gasolierref04_CheckRounds p0 p1) fun y1 => (bif (!decide (y1 = 0)) then some y1 else (rangeGo (fun i4 (s4 : Unit) k4 => must (inI (((p1.length : Nat) : Int) - 1)) <| must ((((!(!(gasolierref01_Within (p2.getD i4 default) 0 (((p1.length : Nat) : Int) - 1)))) && (decide (0 < (i4 : Int)))) = true → (inI ((i4 : Int) - 1)))) <| must ((((!(!(gasolierref01_Within (p2.getD i4 default) 0 (((p1.length : Nat) : Int) - 1)))) && (decide (0 < (i4 : Int)))) = true → (0 ≤ (((i4 : Int) - 1) : Int) ∧ (((i4 : Int) - 1) : Int) < ((p2.length : Nat) : Int)))) <| (bif ((!(gasolierref01_Within (p2.getD i4 default) 0 (((p1.length : Nat) : Int) - 1))) || ((decide (0 < (i4 : Int))) && (decide ((p2.getD i4 default) ≤ (p2.getD (((i4 : Int) - 1)).toNat default))))) then some 47 else k4 ())) (fun (s4 : Unit) => (rangeGo (fun i10 (s10 : Int) k10 => bindO (gasolierref04_some p1 p2) fun y12 => (rangeGo (fun i14 (s14 : Bool) k14 => bindO ((bif (!s14) then gasolierref04_able p0 (p0.Hands.getD i10 default) (y12.getD i14 default) else some default)) fun y16 => k14 (s14 || y16)) (fun (s14 : Bool) => (bif s14 then must (inI (s10 + 1)) <| k10 (s10 + 1) else k10 s10)) y12.length 0 false)) (fun (s10 : Int) => (bif (decide (((p2.length : Nat) : Int) ≤ s10)) then some 47 else some 0)) p0.Hands.length 0 0)) p2.length 0 ()))
def gasolierlaw04_CrewHands (fuel : Nat) (p0 : Crew) (p1 : gasolierlaw04_Plan) (p2 : (List Int)) : Option Bool :=
 bindO (crew_Able p0 p2) fun y1 => bindO (gasolierref04_Able p0 p2) fun y3 => bindO (crew_Assign fuel p0 p1.Rounds) fun y5 => bindO (gasolierref04_Assign fuel p0 p1.Rounds) fun y7 => bindO (crew_Short fuel p0 p1.Rounds) fun y9 => bindO (gasolierref04_Short fuel p0 p1.Rounds) fun y11 => bindO (crew_Moved fuel p0) fun y13 => bindO (gasolierref04_Moved fuel p0) fun y15 => bindO (gasolierref01_Same y1.1 y3.1) fun y17 => bindO ((bif (!((!y17) || (!decide (y1.2 = y3.2)))) then gasolierref01_Same y5.1 y7.1 else some default)) fun y19 => bindO ((bif (!((((!y17) || (!decide (y1.2 = y3.2))) || (!y19)) || (!decide (y5.2 = y7.2)))) then gasolierref01_Same y9.1 y11.1 else some default)) fun y21 => bindO ((bif (!((((((!y17) || (!decide (y1.2 = y3.2))) || (!y19)) || (!decide (y5.2 = y7.2))) || (!y21)) || (!decide (y9.2 = y11.2)))) then gasolierref01_Same y13.1 y15.1 else some default)) fun y23 => (bif ((((((((!y17) || (!decide (y1.2 = y3.2))) || (!y19)) || (!decide (y5.2 = y7.2))) || (!y21)) || (!decide (y9.2 = y11.2))) || (!y23)) || (!decide (y13.2 = y15.2))) then some false else bindO (crew_CheckAssign p0 p1.Rounds p1.Hands) fun y26 => bindO (gasolierref04_CheckAssign fuel p0 p1.Rounds p1.Hands) fun y28 => bindO ((bif (decide (y26 = y28)) then crew_CheckShort p0 p1.Rounds p1.Cut else some default)) fun y30 => bindO ((bif (decide (y26 = y28)) then gasolierref04_CheckShort p0 p1.Rounds p1.Cut else some default)) fun y32 => bindO ((bif ((decide (y26 = y28)) && (decide (y30 = y32))) then gasolierlaw04_sane fuel else some default)) fun y34 => some (((decide (y26 = y28)) && (decide (y30 = y32))) && y34))
end Go.Sp
end
