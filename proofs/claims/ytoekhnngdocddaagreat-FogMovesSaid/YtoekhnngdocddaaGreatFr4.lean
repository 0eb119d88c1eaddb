/- Texts of the framework, or of the plain law, one behind another. -/
import Derived.Test.YtoekhnngdocddaaGreatFr3
import Derived.Test.YtoekhnngdocddaaGreatFr1
import Derived.Shelf.Sort.Plain
import Derived.Shelf.Slices.In.SortNone
import Derived.Sort.OwnSortedInts
import Derived.ProofKit
import Derived.OpenShut
import Derived.ReadAgain
import Derived.ChangeStays
import Derived.SizedLaws
import Derived.Carry
import Derived.Below
import Derived.ChangeSame
/- An owned slice is only read from now on, wherever it is named. -/
section
set_option linter.all false
namespace Go.Av
mutual
/-- A value in which a name is read as what it stands for; what must hold for it. -/
def fz (id n' : Nat) (r : AV) (K : List Nat) : AV → Option (AV × List Prop)
 | .buf i n => match Nat.beq i id with
   | true => some (r, [n = n'])
   | false => match inList K i with
     | true => some (.buf i n, [])
     | false => none
 | .agg cs => match fzL id n' r K cs with
   | some (cs', ps) => some (.agg cs', ps)
   | none => none
 | .tup cs => match fzL id n' r K cs with
   | some (cs', ps) => some (.tup cs', ps)
   | none => none
 | v => match onlyIds K v with
   | true => some (v, [])
   | false => none
def fzL (id n' : Nat) (r : AV) (K : List Nat) : List AV → Option (List AV × List Prop)
 | [] => some ([], [])
 | c :: cs => match fz id n' r K c with
   | some (c', ps) => match fzL id n' r K cs with
     | some (cs', qs) => some (c' :: cs', appP ps qs)
     | none => none
   | none => none
end
theorem fz_other {id n' : Nat} {r : AV} {K : List Nat} {x y : AV} {ps : List Prop} (h : fz id n' r K x = some (y, ps)) (h1 : ∀ i n, x ≠ .buf i n) (h2 : ∀ cs, x ≠ .agg cs) (h3 : ∀ cs, x ≠ .tup cs) : onlyIds K x = true ∧ y = x := by
 cases x <;> first | exact absurd rfl (h1 _ _) | exact absurd rfl (h2 _) | exact absurd rfl (h3 _) | (simp only [fz] at h; split at h <;> cases h; exact ⟨by assumption, rfl⟩)
theorem fzL_get {id n' : Nat} {r : AV} {K : List Nat} : ∀ {cs cs' : List AV} {ps : List Prop}, fzL id n' r K cs = some (cs', ps) → cs'.length = cs.length ∧
   ∀ (i : Nat) (c' : AV), cs'[i]? = some c' → ∃ c qs, cs[i]? = some c ∧ fz id n' r K c = some (c', qs) ∧ ∀ q, q ∈ qs → q ∈ ps
 | [], cs', ps, h => by
   simp only [fzL] at h; cases h
   exact ⟨rfl, fun i c' hc => (by simp at hc)⟩
 | c :: cs, cs', ps, h => by
   simp only [fzL] at h
   split at h
   · rename_i d qs hd
     split at h
     · rename_i ds rs hds
       cases h
       obtain ⟨h1, h2⟩ := fzL_get hds
       refine ⟨by simp [h1], fun i c' hc => ?_⟩
       cases i with
       | zero => simp at hc; subst hc; exact ⟨c, qs, rfl, hd, fun q hq => appP_mem.2 (.inl hq)⟩
       | succ i =>
         obtain ⟨c0, q0, e1, e2, e3⟩ := h2 i c' (by simpa using hc)
         exact ⟨c0, q0, by simpa using e1, e2, fun q hq => appP_mem.2 (.inr (e3 q hq))⟩
     · cases h
   · cases h
theorem Rel.fz {h h' : Hp} {ρ ρ' : Rho} {id n' sz : Nat} {v0 : Value} {r : AV} {K : List Nat} (hle : Le h h') (hρ : ∀ i, i ∈ K → ρ' i = ρ i) (hid : ρ id = some (.sl n' sz v0)) (hr : Rel h' ρ' r v0) {x : AV} {v : Value} (H : Rel h ρ x v) :
   ∀ {y : AV} {ps : List Prop}, Go.Av.fz id n' r K x = some (y, ps) → (∀ q, q ∈ ps → q) → Rel h' ρ' y v := by
 induction H with
 | buf ρ i n n2 sz2 v v' hb hl h1 he =>
   intro y ps hy hp
   simp only [Go.Av.fz] at hy
   split at hy
   · rename_i hi
     cases hy
     have := Nat.eq_of_beq_eq_true hi
     subst this
     have hn : n = n' := hp _ (List.mem_cons_self ..)
     rw [hid] at hb; cases hb
     rw [he hn]; exact hr
   · split at hy
     · rename_i hk
       cases hy
       exact .buf _ _ _ _ _ _ _ ((hρ i (inList_mem hk)).trans hb) hl h1 he
     · cases hy
 | agg ρ cs vs hl hc ih =>
   intro y ps hy hp
   simp only [Go.Av.fz] at hy
   split at hy
   · rename_i cs' qs hcs
     cases hy
     obtain ⟨e1, e2⟩ := fzL_get hcs
     refine .agg _ _ _ (by rw [hl, e1]) fun i c v h1 h2 => ?_
     obtain ⟨c0, q0, k1, k2, k3⟩ := e2 i c h1
     exact ih i c0 v k1 h2 hρ hid k2 (fun q hq => hp q (k3 q hq))
   · cases hy
 | tup ρ cs vs hl hc ih =>
   intro y ps hy hp
   simp only [Go.Av.fz] at hy
   split at hy
   · rename_i cs' qs hcs
     cases hy
     obtain ⟨e1, e2⟩ := fzL_get hcs
     refine .tup _ _ _ (by rw [hl, e1]) fun i c v h1 h2 => ?_
     obtain ⟨c0, q0, k1, k2, k3⟩ := e2 i c h1
     exact ih i c0 v k1 h2 hρ hid k2 (fun q hq => hp q (k3 q hq))
   · cases hy
 | _ =>
   intro y ps hy hp
   obtain ⟨ho, rfl⟩ := fz_other hy (fun _ _ e => by cases e) (fun _ e => by cases e) (fun _ e => by cases e)
   refine Rel.forget hρ (Rel.heap ?_ hle) ho
   first | (constructor <;> assumption) | (constructor; done)
def fzS (id n' : Nat) (r : AV) (K : List Nat) (L : List (Nat × AV)) : List Nat → Option (List (Nat × AV) × List Prop)
 | [] => some ([], [])
 | t :: ts => match findL L t with
   | some x => match fz id n' r K x with
     | some (y, ps) => match fzS id n' r K L ts with
       | some (L', qs) => some ((t, y) :: L', appP ps qs)
       | none => none
     | none => none
   | none => none
def fzB (id n' : Nat) (r : AV) (K : List Nat) : Blk → Option (Blk × List Prop)
 | .cells cs => match fzL id n' r K cs with
   | some (cs', ps) => some (.cells cs', ps)
   | none => none
 | b => match onlyB K b with
   | true => some (b, [])
   | false => none
def fzM (id n' : Nat) (r : AV) (K : List Nat) (M : List (Nat × Blk)) : List Nat → Option (List (Nat × Blk) × List Prop)
 | [] => some ([], [])
 | t :: ts => match mm M t with
   | some x => match fzB id n' r K x with
     | some (y, ps) => match fzM id n' r K M ts with
       | some (M', qs) => some ((t, y) :: M', appP ps qs)
       | none => none
     | none => none
   | none => none
theorem fzS_spec {id n' : Nat} {r : AV} {K : List Nat} {L : List (Nat × AV)} : ∀ {ts : List Nat} {L' : List (Nat × AV)} {ps : List Prop}, fzS id n' r K L ts = some (L', ps) →
   ∀ t, fr L' t = .any ∨ ∃ qs, fz id n' r K (fr L t) = some (fr L' t, qs) ∧ ∀ q, q ∈ qs → q ∈ ps
 | [], L', ps, h, t => by simp only [fzS] at h; cases h; exact .inl rfl
 | u :: ts, L', ps, h, t => by
   simp only [fzS] at h
   split at h
   · rename_i x hx
     split at h
     · rename_i y qs hy
       split at h
       · rename_i L2 rs h2
         cases h
         simp only [fr, put]
         split
         · rename_i hb
           have := Nat.eq_of_beq_eq_true hb
           subst this
           rw [findL_fr hx]
           exact .inr ⟨qs, hy, fun q hq => appP_mem.2 (.inl hq)⟩
         · rcases fzS_spec h2 t with e | ⟨q0, e1, e2⟩
           · exact .inl e
           · exact .inr ⟨q0, e1, fun q hq => appP_mem.2 (.inr (e2 q hq))⟩
       · cases h
     · cases h
   · cases h
theorem fzM_spec {id n' : Nat} {r : AV} {K : List Nat} {M : List (Nat × Blk)} : ∀ {ts : List Nat} {M' : List (Nat × Blk)} {ps : List Prop}, fzM id n' r K M ts = some (M', ps) →
   (∀ t, t ∈ ts → (mm M' t).isSome = true) ∧ ∀ t y, mm M' t = some y → t ∈ ts ∧ ∃ x qs, mm M t = some x ∧ fzB id n' r K x = some (y, qs) ∧ ∀ q, q ∈ qs → q ∈ ps
 | [], M', ps, h => by simp only [fzM] at h; cases h; exact ⟨fun t ht => (by cases ht), fun t y hy => (by cases hy)⟩
 | u :: ts, M', ps, h => by
   simp only [fzM] at h
   split at h
   · rename_i x hx
     split at h
     · rename_i y qs hy
       split at h
       · rename_i L2 rs h2
         cases h
         obtain ⟨k1, k2⟩ := fzM_spec h2
         refine ⟨fun t ht => ?_, fun t z hz => ?_⟩
         · simp only [mm]
           by_cases e : t = u
           · subst e; rw [upd_same]; rfl
           · rw [upd_other _ _ e]
             exact k1 t ((List.mem_cons.1 ht).resolve_left e)
         · simp only [mm] at hz
           by_cases e : t = u
           · subst e; rw [upd_same] at hz; cases hz
             exact ⟨List.mem_cons_self .., x, qs, hx, hy, fun q hq => appP_mem.2 (.inl hq)⟩
           · rw [upd_other _ _ e] at hz
             obtain ⟨e0, x2, q2, e1, e2, e3⟩ := k2 t z hz
             exact ⟨List.mem_cons_of_mem _ e0, x2, q2, e1, e2, fun q hq => appP_mem.2 (.inr (e3 q hq))⟩
       · cases h
     · cases h
   · cases h
section
variable {N : Nat} {C : Ctx} {L : List (Nat × AV)} {M : List (Nat × Blk)} {g : Nat} {R : Act → World → Prop}
theorem At.freezeA (id : Nat) {ty sz n' : Nat} {e : Nat → List AV} {K ts : List Nat} {L' : List (Nat × AV)} {M' : List (Nat × Blk)} {ps qs : List Prop} (hM : mm M id = some (.buf ty sz n' e)) (hK : inList K id = false)
   (hL : fzS id n' (.ro sz n' e) K L ts = some (L', ps)) (hMK : fzM id n' (.ro sz n' e) K M K = some (M', qs)) (hps : AllP ps) (hqs : AllP qs)
   (hbor : ∀ b, ¬ C.bor b) (Kk : At N C L' M' g R) (hs : onlyL K C.savA = true := by rfl) : At N C L M g R := by
 intro h ρ a w I
 have hps := hps.mem
 have hqs := hqs.mem
 obtain ⟨v, us, k1, k2, k3, k5, k4⟩ := I.blk id _ hM
 obtain ⟨m1, m2⟩ := fzM_spec hMK
 have hidK : id ∉ K := fun hk => by rw [inList_of hk] at hK; cases hK
 classical
 let h' : Hp := fun b => if v.ownBlock = some b then w.heap[b]? else h b
 let ρ' : Rho := fun i => if i ∈ K then ρ i else none
 have hρ : ∀ i, i ∈ K → ρ' i = ρ i := fun i hi => if_pos hi
 have hρ' : ∀ i li, ρ' i = some li → i ∈ K ∧ ρ i = some li := fun i li hi => by
   have : (if i ∈ K then ρ i else none) = some li := hi
   split at this
   · exact ⟨by assumption, this⟩
   · cases this
 have hin : ∀ b, v.ownBlock = some b → h' b = w.heap[b]? := fun b hb => if_pos hb
 have hle : ∀ b o, h b = some o → h' b = some o := by
   intro b o hb
   show (if v.ownBlock = some b then w.heap[b]? else h b) = some o
   split
   · exact I.hp b o hb
   · exact hb
 have hge : ∀ b, v.ownBlock = some b → C.w0.heap.size ≤ b := fun b hb => (I.own id _ b k1 hb).2.2.resolve_right (hbor b)
 have hnew : ∀ b o, h' b = some o → (v.ownBlock = some b ∧ w.heap[b]? = some o) ∨ h b = some o := by
   intro b o hb
   have : (if v.ownBlock = some b then w.heap[b]? else h b) = some o := hb
   split at this
   · exact .inl ⟨by assumption, this⟩
   · exact .inr this
 have hr : Rel h' ρ' (.ro sz n' e) v := (ro_of_own k2 (fun b hb => hin b hb) k3 k5 (fun i j c x a1 a2 a3 => (k4 i j c x a1 a2 a3).heap (Le.of hle))).closed
 refine Kk h' ρ' a w { I with slot := fun t => ?_, sav := ⟨I.sav.1, fun i c x h1 h2 => ((I.sav.2 i c x h1 h2).heap (Le.of hle)).forget hρ (onlyL_get hs h1)⟩, hp := fun b o hb => ?_, blk := fun i y hy => ?_, dom := fun i hi => ?_, own := fun i li b q1 q2 => ?_, inj := fun i i' li li' b q1 q1' q2 q2' => I.inj i i' li li' b (hρ' _ _ q1).2 (hρ' _ _ q1').2 q2 q2', ext := fun b o hb => hle b o (I.ext b o hb), old := fun b o hb hlt => ?_, gst := ?_, dfr := ?_ }
 · rcases fzS_spec hL t with e1 | ⟨q0, e1, e2⟩
   · rw [e1]; exact .any _ _
   · exact Rel.fz (Le.of hle) hρ k1 hr (I.slot t) e1 (fun q hq => hps q (e2 q hq))
 · rcases hnew b o hb with q | q
   · exact q.2
   · exact I.hp b o q
 · obtain ⟨hik, x, q0, e1, e2, e3⟩ := m2 i y hy
   have H := I.blk i x e1
   have other : ∀ z, onlyB K z = true → BlkOk h ρ i z w → BlkOk h' ρ' i z w := fun z ho Hz => ((Hz.keep (Le.of hle) rfl (hle_refl _) (fun _ _ _ _ => rfl)).forget hρ hik ho)
   cases x with
   | cells cs =>
     simp only [fzB] at e2
     split at e2
     · rename_i cs' q2 hcs
       cases e2
       obtain ⟨b, vs, ty', z1, z2, z3, z4⟩ := H
       obtain ⟨l1, l2⟩ := fzL_get hcs
       refine ⟨b, vs, ty', (hρ i hik).trans z1, z2, by rw [z3, l1], fun j c u hc hu => ?_⟩
       obtain ⟨c0, q3, y1, y2, y3⟩ := l2 j c hc
       exact Rel.fz (Le.of hle) hρ k1 hr (z4 j c0 u y1 hu) y2 (fun q hq => hqs q (e3 q (y3 q hq)))
     · cases e2
   | _ =>
     simp only [fzB] at e2
     split at e2
     · rename_i ho
       cases e2
       exact other _ ho H
     · cases e2
 · cases hq : ρ' i with
   | none => rfl
   | some li =>
     have := m1 i (hρ' i li hq).1
     rw [hi] at this; cases this
 · obtain ⟨q3, q4⟩ := hρ' i li q1
   obtain ⟨z1, z2, z3⟩ := I.own i li b q4 q2
   refine ⟨?_, z2, z3⟩
   show (if v.ownBlock = some b then w.heap[b]? else h b) = none
   rw [if_neg (fun hv : v.ownBlock = some b => hidK ((I.inj i id li _ b q4 k1 q2 hv) ▸ q3))]
   exact z1
 · rcases hnew b o hb with q | q
   · exact absurd hlt (Nat.not_lt.2 (hge b q.1))
   · exact I.old b o q hlt
 · obtain ⟨X, x1, x2, x3⟩ := I.gst
   refine ⟨X, fun b ⟨i, li, q1, q2⟩ => x1 b ⟨i, li, (hρ' i li q1).2, q2⟩, fun b o hb => ?_, x3⟩
   rcases hnew b o hb with q | q
   · exact .inr (x1 b ⟨id, _, k1, q.1⟩)
   · exact x2 b o q
 · obtain ⟨Ds, hd1, hd2, hd3⟩ := I.dfr
   exact ⟨Ds, hd1, hd2, fun D hD => ⟨hle _ _ (hd3 D hD).1, (hd3 D hD).2⟩⟩
end
end Go.Av
end
/- Cells that are only read from now on, wherever they are named. -/
section
set_option linter.all false
namespace Go.Av
mutual
/-- A value in which a name of cells is read as what they are. -/
def fc (id : Nat) (cs0 : List AV) (K : List Nat) : AV → Option AV
 | .lp i off => match Nat.beq i id with
   | true => match dropN off cs0 with
     | some r => some (.rp r)
     | none => none
   | false => match inList K i with
     | true => some (.lp i off)
     | false => none
 | .agg cs => match fcL id cs0 K cs with
   | some cs' => some (.agg cs')
   | none => none
 | .tup cs => match fcL id cs0 K cs with
   | some cs' => some (.tup cs')
   | none => none
 | .fn f fs cs => match fcL id cs0 K fs with
   | some fs' => match fcL id cs0 K cs with
     | some cs' => some (.fn f fs' cs')
     | none => none
   | none => none
 | v => match onlyIds K v with
   | true => some v
   | false => none
def fcL (id : Nat) (cs0 : List AV) (K : List Nat) : List AV → Option (List AV)
 | [] => some []
 | c :: cs => match fc id cs0 K c with
   | some c' => match fcL id cs0 K cs with
     | some cs' => some (c' :: cs')
     | none => none
   | none => none
end
theorem fc_other {id : Nat} {cs0 : List AV} {K : List Nat} {x y : AV} (h : fc id cs0 K x = some y) (h1 : ∀ i n, x ≠ .lp i n) (h2 : ∀ cs, x ≠ .agg cs) (h3 : ∀ cs, x ≠ .tup cs) (h4 : ∀ f fs cs, x ≠ .fn f fs cs) : onlyIds K x = true ∧ y = x := by
 cases x <;> first | exact absurd rfl (h1 _ _) | exact absurd rfl (h2 _) | exact absurd rfl (h3 _) | exact absurd rfl (h4 _ _ _) | (simp only [fc] at h; split at h <;> cases h; exact ⟨by assumption, rfl⟩)
theorem fcL_get {id : Nat} {cs0 : List AV} {K : List Nat} : ∀ {cs cs' : List AV}, fcL id cs0 K cs = some cs' → cs'.length = cs.length ∧
   ∀ (i : Nat) (c' : AV), cs'[i]? = some c' → ∃ c, cs[i]? = some c ∧ fc id cs0 K c = some c'
 | [], cs', h => by
   simp only [fcL] at h; cases h
   exact ⟨rfl, fun i c' hc => (by simp at hc)⟩
 | c :: cs, cs', h => by
   simp only [fcL] at h
   split at h
   · rename_i d hd
     split at h
     · rename_i ds hds
       cases h
       obtain ⟨h1, h2⟩ := fcL_get hds
       refine ⟨by simp [h1], fun i c' hc => ?_⟩
       cases i with
       | zero => simp at hc; subst hc; exact ⟨c, rfl, hd⟩
       | succ i =>
         obtain ⟨c0, e1, e2⟩ := h2 i c' (by simpa using hc)
         exact ⟨c0, by simpa using e1, e2⟩
     · cases h
   · cases h
theorem Rel.fc {h h' : Hp} {ρ ρ' : Rho} {id b0 : Nat} {cs0 : List AV} {K : List Nat} (hle : Le h h') (hρ : ∀ i, i ∈ K → ρ' i = ρ i) (hid : ρ id = some (.blk b0))
   (hr : ∀ off r, dropN off cs0 = some r → Rel h' ρ' (.rp r) (.pointer (some ⟨b0, off, none⟩))) {x : AV} {v : Value} (H : Rel h ρ x v) :
   ∀ {y : AV}, Go.Av.fc id cs0 K x = some y → Rel h' ρ' y v := by
 induction H with
 | lp ρ i off b hb =>
   intro y hy
   simp only [Go.Av.fc] at hy
   split at hy
   · rename_i hi
     have := Nat.eq_of_beq_eq_true hi
     subst this
     rw [hid] at hb; cases hb
     split at hy
     · rename_i r hd
       cases hy
       exact hr off r hd
     · cases hy
   · split at hy
     · rename_i hk
       cases hy
       exact .lp _ _ _ _ ((hρ i (inList_mem hk)).trans hb)
     · cases hy
 | agg ρ cs vs hl hc ih =>
   intro y hy
   simp only [Go.Av.fc] at hy
   split at hy
   · rename_i cs' hcs
     cases hy
     obtain ⟨e1, e2⟩ := fcL_get hcs
     refine .agg _ _ _ (by rw [hl, e1]) fun i c v h1 h2 => ?_
     obtain ⟨c0, k1, k2⟩ := e2 i c h1
     exact ih i c0 v k1 h2 hρ hid k2
   · cases hy
 | tup ρ cs vs hl hc ih =>
   intro y hy
   simp only [Go.Av.fc] at hy
   split at hy
   · rename_i cs' hcs
     cases hy
     obtain ⟨e1, e2⟩ := fcL_get hcs
     refine .tup _ _ _ (by rw [hl, e1]) fun i c v h1 h2 => ?_
     obtain ⟨c0, k1, k2⟩ := e2 i c h1
     exact ih i c0 v k1 h2 hρ hid k2
   · cases hy
 | fn ρ f fs cs vs ws hl hm hc hd ih1 ih2 =>
   intro y hy
   simp only [Go.Av.fc] at hy
   split at hy
   · rename_i fs' hfs
     split at hy
     · rename_i cs' hcs
       cases hy
       obtain ⟨e1, e2⟩ := fcL_get hfs
       obtain ⟨e3, e4⟩ := fcL_get hcs
       refine .fn _ _ _ _ _ _ (by rw [hl, e1]) (by rw [hm, e3]) (fun i c v h1 h2 => ?_) (fun i c v h1 h2 => ?_)
       · obtain ⟨c0, k1, k2⟩ := e2 i c h1
         exact ih1 i c0 v k1 h2 hρ hid k2
       · obtain ⟨c0, k1, k2⟩ := e4 i c h1
         exact ih2 i c0 v k1 h2 hρ hid k2
     · cases hy
   · cases hy
 | _ =>
   intro y hy
   obtain ⟨ho, rfl⟩ := fc_other hy (fun _ _ e => by cases e) (fun _ e => by cases e) (fun _ e => by cases e) (fun _ _ _ e => by cases e)
   refine Rel.forget hρ (Rel.heap ?_ hle) ho
   first | (constructor <;> assumption) | (constructor; done)
def fcS (id : Nat) (cs0 : List AV) (K : List Nat) (L : List (Nat × AV)) : List Nat → Option (List (Nat × AV))
 | [] => some []
 | t :: ts => match findL L t with
   | some x => match fc id cs0 K x with
     | some y => match fcS id cs0 K L ts with
       | some L' => some ((t, y) :: L')
       | none => none
     | none => none
   | none => none
def fcB (id : Nat) (cs0 : List AV) (K : List Nat) : Blk → Option Blk
 | .cells cs => match fcL id cs0 K cs with
   | some cs' => some (.cells cs')
   | none => none
 | b => match onlyB K b with
   | true => some b
   | false => none
def fcM (id : Nat) (cs0 : List AV) (K : List Nat) (M : List (Nat × Blk)) : List Nat → Option (List (Nat × Blk))
 | [] => some []
 | t :: ts => match mm M t with
   | some x => match fcB id cs0 K x with
     | some y => match fcM id cs0 K M ts with
       | some M' => some ((t, y) :: M')
       | none => none
     | none => none
   | none => none
theorem fcS_spec {id : Nat} {cs0 : List AV} {K : List Nat} {L : List (Nat × AV)} : ∀ {ts : List Nat} {L' : List (Nat × AV)}, fcS id cs0 K L ts = some L' →
   ∀ t, fr L' t = .any ∨ fc id cs0 K (fr L t) = some (fr L' t)
 | [], L', h, t => by simp only [fcS] at h; cases h; exact .inl rfl
 | u :: ts, L', h, t => by
   simp only [fcS] at h
   split at h
   · rename_i x hx
     split at h
     · rename_i y hy
       split at h
       · rename_i L2 h2
         cases h
         simp only [fr, put]
         split
         · rename_i hb
           have := Nat.eq_of_beq_eq_true hb
           subst this
           rw [findL_fr hx]
           exact .inr hy
         · exact fcS_spec h2 t
       · cases h
     · cases h
   · cases h
theorem fcM_spec {id : Nat} {cs0 : List AV} {K : List Nat} {M : List (Nat × Blk)} : ∀ {ts : List Nat} {M' : List (Nat × Blk)}, fcM id cs0 K M ts = some M' →
   (∀ t, t ∈ ts → (mm M' t).isSome = true) ∧ ∀ t y, mm M' t = some y → t ∈ ts ∧ ∃ x, mm M t = some x ∧ fcB id cs0 K x = some y
 | [], M', h => by simp only [fcM] at h; cases h; exact ⟨fun t ht => (by cases ht), fun t y hy => (by cases hy)⟩
 | u :: ts, M', h => by
   simp only [fcM] at h
   split at h
   · rename_i x hx
     split at h
     · rename_i y hy
       split at h
       · rename_i L2 h2
         cases h
         obtain ⟨k1, k2⟩ := fcM_spec h2
         refine ⟨fun t ht => ?_, fun t z hz => ?_⟩
         · simp only [mm]
           by_cases e : t = u
           · subst e; rw [upd_same]; rfl
           · rw [upd_other _ _ e]
             exact k1 t ((List.mem_cons.1 ht).resolve_left e)
         · simp only [mm] at hz
           by_cases e : t = u
           · subst e; rw [upd_same] at hz; cases hz
             exact ⟨List.mem_cons_self .., x, hx, hy⟩
           · rw [upd_other _ _ e] at hz
             obtain ⟨e0, x2, e1, e2⟩ := k2 t z hz
             exact ⟨List.mem_cons_of_mem _ e0, x2, e1, e2⟩
       · cases h
     · cases h
   · cases h
section
variable {N : Nat} {C : Ctx} {L : List (Nat × AV)} {M : List (Nat × Blk)} {g : Nat} {R : Act → World → Prop}
theorem At.freezeC (id : Nat) {cs0 : List AV} {K ts : List Nat} {L' : List (Nat × AV)} {M' : List (Nat × Blk)} (hM : mm M id = some (.cells cs0)) (hcl : clL cs0 = true) (hK : inList K id = false)
   (hL : fcS id cs0 K L ts = some L') (hMK : fcM id cs0 K M K = some M')
   (hbor : ∀ b, ¬ C.bor b) (Kk : At N C L' M' g R) (hs : onlyL K C.savA = true := by rfl) : At N C L M g R := by
 intro h ρ a w I
 obtain ⟨b0, us, ty, k1, k2, k3, k4⟩ := I.blk id _ hM
 obtain ⟨m1, m2⟩ := fcM_spec hMK
 have hidK : id ∉ K := fun hk => by rw [inList_of hk] at hK; cases hK
 classical
 let h' : Hp := fun b => if b = b0 then w.heap[b]? else h b
 let ρ' : Rho := fun i => if i ∈ K then ρ i else none
 have hρ : ∀ i, i ∈ K → ρ' i = ρ i := fun i hi => if_pos hi
 have hρ' : ∀ i li, ρ' i = some li → i ∈ K ∧ ρ i = some li := fun i li hi => by
   have : (if i ∈ K then ρ i else none) = some li := hi
   split at this
   · exact ⟨by assumption, this⟩
   · cases this
 have hin : h' b0 = w.heap[b0]? := if_pos rfl
 have hle : ∀ b o, h b = some o → h' b = some o := by
   intro b o hb
   show (if b = b0 then w.heap[b]? else h b) = some o
   split
   · exact I.hp b o hb
   · exact hb
 have hge : C.w0.heap.size ≤ b0 := (I.own id _ b0 k1 rfl).2.2.resolve_right (hbor b0)
 have hnew : ∀ b o, h' b = some o → (b = b0 ∧ w.heap[b]? = some o) ∨ h b = some o := by
   intro b o hb
   have : (if b = b0 then w.heap[b]? else h b) = some o := hb
   split at this
   · exact .inl ⟨by assumption, this⟩
   · exact .inr this
 have key : ∀ off j, cellOf h' (Addr.add ⟨b0, off, none⟩ j) = us[off + j]? := by
   intro off j
   unfold cellOf
   rw [Addr.add_lit]
   simp only [hin, k2]
   simp
 have hr : ∀ off r, dropN off cs0 = some r → Rel h' ρ' (.rp r) (.pointer (some ⟨b0, off, none⟩)) := by
   intro off r hd
   obtain ⟨rfl, hlo⟩ := dropN_get hd
   refine .rp _ _ _ (fun j hj => ?_) (fun j y z hy hz => ?_)
   · rw [key]
     have : off + j < us.length := by rw [k3]; simp at hj; omega
     simp [this]
   · rw [key] at hz
     rw [List.getElem?_drop] at hy
     exact ((k4 _ y z hy hz).heap (Le.of hle)).of_cl (clL_get hcl hy)
 refine Kk h' ρ' a w { I with slot := fun t => ?_, sav := ⟨I.sav.1, fun i c x h1 h2 => ((I.sav.2 i c x h1 h2).heap (Le.of hle)).forget hρ (onlyL_get hs h1)⟩, hp := fun b o hb => ?_, blk := fun i y hy => ?_, dom := fun i hi => ?_, own := fun i li b q1 q2 => ?_, inj := fun i i' li li' b q1 q1' q2 q2' => I.inj i i' li li' b (hρ' _ _ q1).2 (hρ' _ _ q1').2 q2 q2', ext := fun b o hb => hle b o (I.ext b o hb), old := fun b o hb hlt => ?_, gst := ?_, dfr := ?_ }
 · rcases fcS_spec hL t with e1 | e1
   · rw [e1]; exact .any _ _
   · exact Rel.fc (Le.of hle) hρ k1 hr (I.slot t) e1
 · rcases hnew b o hb with q | q
   · exact q.2
   · exact I.hp b o q
 · obtain ⟨hik, x, e1, e2⟩ := m2 i y hy
   have H := I.blk i x e1
   have other : ∀ z, onlyB K z = true → BlkOk h ρ i z w → BlkOk h' ρ' i z w := fun z ho Hz => ((Hz.keep (Le.of hle) rfl (hle_refl _) (fun _ _ _ _ => rfl)).forget hρ hik ho)
   cases x with
   | cells cs =>
     simp only [fcB] at e2
     split at e2
     · rename_i cs' hcs
       cases e2
       obtain ⟨b, vs, ty', z1, z2, z3, z4⟩ := H
       obtain ⟨l1, l2⟩ := fcL_get hcs
       refine ⟨b, vs, ty', (hρ i hik).trans z1, z2, by rw [z3, l1], fun j c u hc hu => ?_⟩
       obtain ⟨c0, y1, y2⟩ := l2 j c hc
       exact Rel.fc (Le.of hle) hρ k1 hr (z4 j c0 u y1 hu) y2
     · cases e2
   | _ =>
     simp only [fcB] at e2
     split at e2
     · rename_i ho
       cases e2
       exact other _ ho H
     · cases e2
 · cases hq : ρ' i with
   | none => rfl
   | some li =>
     have := m1 i (hρ' i li hq).1
     rw [hi] at this; cases this
 · obtain ⟨q3, q4⟩ := hρ' i li q1
   obtain ⟨z1, z2, z3⟩ := I.own i li b q4 q2
   refine ⟨?_, z2, z3⟩
   show (if b = b0 then w.heap[b]? else h b) = none
   rw [if_neg (fun (hv : b = b0) => hidK ((I.inj i id li _ b q4 k1 q2 (hv ▸ (rfl : LI.owns (.blk b0) b0))) ▸ q3))]
   exact z1
 · rcases hnew b o hb with q | q
   · rw [q.1] at hlt; exact absurd hlt (Nat.not_lt.2 hge)
   · exact I.old b o q hlt
 · obtain ⟨X, x1, x2, x3⟩ := I.gst
   refine ⟨X, fun b ⟨i, li, q1, q2⟩ => x1 b ⟨i, li, (hρ' i li q1).2, q2⟩, fun b o hb => ?_, x3⟩
   rcases hnew b o hb with q | q
   · exact .inr (x1 b ⟨id, _, k1, q.1 ▸ rfl⟩)
   · exact x2 b o q
 · obtain ⟨Ds, hd1, hd2, hd3⟩ := I.dfr
   exact ⟨Ds, hd1, hd2, fun D hD => ⟨hle _ _ (hd3 D hD).1, (hd3 D hD).2⟩⟩
end
theorem Sim.fnClo {f : Fn} {fs cs : List AV} (h : (clL fs && clL cs) = true) : Sim (.fn f fs cs) (.clo f fs cs) := by
 intro h' ρ v H
 exact .clo _ _ _ _ _ (H.of_cl (by simpa [AV.cl] using h))
end Go.Av
end
/- Ranges over maps: whichever entry comes next. -/
section
set_option linter.all false
namespace Go.Av
open Go.ChangeMaps (setBlock)
section
variable {P : Program} {N : Nat} {C : Ctx} {rr : Option Nat} {L : List (Nat × AV)} {M : List (Nat × Blk)} {g : Nat} {Q : Exit → Act → World → Prop}
theorem At.iterOpen (id : Nat) {e : Int → AV} {Pl : List Int → Prop} {R : Act → World → Prop} (hM : mm M id = some (.iter e none Pl)) (K : ∀ left, Pl left → At N C L ((id, .iter e none (fun l => l = left)) :: M) g R) : At N C L M g R := by
 intro h ρ a w I
 obtain ⟨b, bm, clock, c0, es, seen, left, q1, q2, q3, q4, q5, q6, q7, q8, q9, q10⟩ := I.blk id _ hM
 refine K left q8 h ρ a w { I with blk := fun i x hx => ?_, dom := fun i hi => ?_ }
 · simp only [mm] at hx
   by_cases e1 : i = id
   · subst e1; rw [upd_same] at hx; cases hx
     exact ⟨b, bm, clock, c0, es, seen, left, q1, q2, q3, q4, q5, q6, q7, rfl, q9, q10⟩
   · rw [upd_other _ _ e1] at hx; exact I.blk i x hx
 · simp only [mm] at hi
   by_cases e1 : i = id
   · subst e1; rw [upd_same] at hi; cases hi
   · rw [upd_other _ _ e1] at hi; exact I.dom i hi
theorem BSim.iterPast {e : Int → AV} {c : Option Int} {Pl Pl' : List Int → Prop} (h : ∀ l, Pl l → Pl' l) : BSim (.iter e c Pl) (.iter e none Pl') := by
 rintro h' ρ id w ⟨b, bm, clock, c0, es, seen, left, q1, q2, q3, q4, q5, q6, q7, q8, q9, _⟩
 exact ⟨b, bm, clock, c0, es, seen, left, q1, q2, q3, q4, q5, q6, q7, h left q8, q9, fun k hk => by cases hk⟩
theorem left_push {es : Array MapEntry} {seen : Array Nat} {x : MapEntry} {left : List Int} {k : Int} (hk : (leftOf es seen).toList.map (·.key) = left.map (fun k => Value.int .i64 k)) (hx : x ∈ (leftOf es seen).toList) (hn : (es.toList.map (·.born)).Nodup) (hkey : x.key = .int .i64 k) :
   ∃ left' : List Int, left.Perm (k :: left') ∧ (leftOf es (seen.push x.born)).toList.map (·.key) = left'.map (fun k => Value.int .i64 k) := by
 have h1 : (leftOf es (seen.push x.born)).toList = (leftOf es seen).toList.filter (fun e => e.born != x.born) := by
   unfold leftOf
   simp only [Array.toList_filter, List.filter_filter]
   congr 1
   funext e
   by_cases he : e.born = x.born
   · simp [he]
   · have : (seen.push x.born).contains e.born = seen.contains e.born := by
       rw [Bool.eq_iff_iff]; simp [he]
     rw [this]
     have hb : (e.born != x.born) = true := by simpa using he
     rw [hb, Bool.true_and]
 have hsub : (leftOf es seen).toList.Sublist es.toList := by
   unfold leftOf; simp only [Array.toList_filter]; exact List.filter_sublist
 have hnl : ((leftOf es seen).toList.map (·.born)).Nodup := (hsub.map _).nodup hn
 generalize (leftOf es seen).toList = l at hk hx h1 hnl
 rw [h1]
 clear h1 hsub
 induction l generalizing left with
 | nil => cases hx
 | cons y l ih =>
   cases left with
   | nil => simp at hk
   | cons k0 left =>
   simp only [List.map_cons, List.cons.injEq] at hk
   simp only [List.map_cons, List.nodup_cons] at hnl
   rcases List.mem_cons.1 hx with rfl | hx
   · have hkk : k0 = k := by have := hk.1; rw [hkey] at this; cases this; rfl
     subst hkk
     refine ⟨left, List.Perm.refl _, ?_⟩
     rw [List.filter_cons_of_neg (by simp)]
     rw [List.filter_eq_self.2 (fun z hz => by
       have : z.born ≠ x.born := fun e => hnl.1 (e ▸ List.mem_map_of_mem hz)
       simpa using this)]
     exact hk.2
   · obtain ⟨left', p1, p2⟩ := ih hk.2 hx hnl.2
     refine ⟨k0 :: left', (p1.cons k0).trans (List.Perm.swap _ _ _), ?_⟩
     have : y.born ≠ x.born := fun e => hnl.1 (e ▸ List.mem_map_of_mem hx)
     rw [List.filter_cons_of_pos (by simpa using this), List.map_cons, List.map_cons, p2, hk.1]
theorem W.next {rid : Nat} {o1 o2 : Oper} {it d1 d2 id : Nat} {e : Int → AV} {left : List Int} (h1 : o1.op = .next (.tmp it) false) (g1 : o1.guard = none) (hd1 : o1.dst = some d1) (h2 : o2.op = .extract (.tmp d1) 0) (g2 : o2.guard = none) (hd2 : o2.dst = some d2)
   (hl1 : Nat.blt d1 N = true) (hl2 : Nat.blt d2 N = true) (hne : Nat.beq d1 d2 = false) (hL : fr L it = .lp id 0) (hM : mm M id = some (.iter e none (fun l => l = left)))
   (K0 : left = [] → At N C ((d2, .bool false) :: (d1, .any) :: L) M g (Q .normal))
   (K1 : ∀ k left', left.Perm (k :: left') → At N C ((d2, .bool true) :: (d1, .any) :: L) ((id, .iter e (some k) (fun l => l = left')) :: M) g (Q .normal)) : W P N rr C (.region rid #[o1, o2] false) L M g Q := by
 intro h ρ a w I
 obtain ⟨b, bm, clock, c0, es, seen, left0, q1, q2, q3, q4, q5, q6, q7, rfl, q9, q10⟩ := I.blk id _ hM
 have hlt1 : d1 < N := Nat.le_of_ble_eq_true hl1
 have hlt2 : d2 < N := Nat.le_of_ble_eq_true hl2
 have hne' : d1 ≠ d2 := fun e => by subst e; simp at hne
 have hit : a.eval (.tmp it) = .pointer (some ⟨b, 0, none⟩) := by
   have := I.slot it
   rw [hL] at this
   show a.tmps.getD it undef = _
   generalize a.tmps.getD it undef = v at this
   cases this with
   | lp _ _ _ b' hb => rw [q1] at hb; cases hb; rfl
 refine wpIn_region ?_
 have hr2 : List.range #[o1, o2].size = [0, 1] := rfl
 rw [hr2, wpOpsIn_cons]
 unfold wpOpIn
 simp only [List.getElem?_toArray, List.getElem?_cons_zero]
 rw [if_pos (by simp [Region.wanted, g1])]
 have hd01 : ∀ c, o1.op ≠ .defer c := fun c e => by rw [h1] at e; cases e
 have hd02 : ∀ c, o2.op ≠ .defer c := fun c e => by rw [h2] at e; cases e
 have second : ∀ (v : Bool) (vs : List Value) (w' : World) (a' : Act), a'.tmps.getD d1 undef = .tuple (Value.bool v :: vs).toArray → Q .normal (a'.put (some d2) (.bool v)) w' → wpOpsIn (Fw rr) 1 P #[o1, o2] Q [1] a' w' := by
   intro v vs w' a' hv hq
   rw [wpOpsIn_cons]
   unfold wpOpIn
   simp only [List.getElem?_toArray, List.getElem?_cons_succ, List.getElem?_cons_zero]
   rw [if_pos (by simp [Region.wanted, g2])]
   refine ⟨fun _ _ => trivial, ?_⟩
   rw [Oper.semAt_eq _ _ _ hd02]
   have hrun : (execOp a'.eval o2).run P w' = .ok (.value (.bool v)) w' := by
     unfold execOp
     have : a'.eval (.tmp d1) = .tuple (Value.bool v :: vs).toArray := hv
     simp [h2, this, Instr.extract]
   rw [hrun, Oper.uponIn_value, hd2]
   exact hq
 refine ⟨fun _ _ => trivial, ?_⟩
 rw [Oper.semAt_eq _ _ _ hd01]
 have hex : ∀ (r : Result Value), (Instr.next (.pointer (some ⟨b, 0, none⟩)) false o1.type).run P w = r → (execOp a.eval o1).run P w = r.andThen fun v w => .ok (.value v) w := by
   intro r hr
   unfold execOp
   simp only [h1, hit, Sem.run_bind, hr, Sem.run_pure]
 have putL : ∀ {h' : Hp} {ρ' : Rho} {M' : Mm} {w' : World} (u : Value) (v : Bool), InvH N C h' ρ' (fr L) M' g a w' → InvH N C h' ρ' (fr ((d2, .bool v) :: (d1, .any) :: L)) M' g ((a.put (some d1) u).put (some d2) (.bool v)) w' := fun u v I0 =>
   (I0.put (d := some d1) (v := .any) (fun t ht => by cases ht; exact hlt1) (.any _ u)).put (d := some d2) (v := .bool v) (fun t ht => by cases ht; exact hlt2) (.bool _ v)
 have get1 : ∀ u, (a.put (some d1) u).tmps.getD d1 undef = u := fun u => by
   have : d1 < a.tmps.size := by rw [I.size]; exact hlt1
   simp [Act.put, this]
 rcases run_next_at (P := P) w o1.type b bm clock c0 seen es.toArray clock q2 (I.hp _ _ q3) (by simpa using q4) q6 with ⟨hz, hr⟩ | ⟨x, hx, w1, hw1, hr⟩
 · rw [hex _ hr]
   simp only [Result.andThen]
   rw [Oper.uponIn_value, hd1]
   refine second false [] w _ (get1 _) ?_
   have hnil : left0 = [] := by
     have h0 : (leftOf es.toArray seen).toList = [] := List.eq_nil_of_length_eq_zero (by simpa using hz)
     rw [h0] at q7
     cases left0 with
     | nil => rfl
     | cons => simp at q7
   exact K0 hnil h ρ _ w (putL _ false I)
 · rw [hex _ hr]
   simp only [Result.andThen]
   rw [Oper.uponIn_value, hd1]
   refine second true [x.key, x.val] _ _ (get1 _) ?_
   have hxe : x ∈ es := by
     unfold leftOf at hx
     simp at hx; exact hx.1
   obtain ⟨k, k1, k2⟩ := q9 x hxe
   obtain ⟨left', p1, p2⟩ := left_push q7 hx (by simpa using q5) k1
   have I1 : InvH N C h ρ (fr L) (mm M) g a w1 := by
     rcases hw1 with rfl | rfl
     · exact I
     · exact I.drew
   have hb1 : w1.heap[b]? = some (.mapIter (some bm) clock seen c0) := by rcases hw1 with rfl | rfl <;> exact q2
   have hblt : b < w1.heap.size := (Array.getElem?_eq_some_iff.1 hb1).1
   have hbm : bm ≠ b := by rintro rfl; have := I.hp _ _ q3; rw [q2] at this; cases this
   have I2 := I1.turn (w' := setBlock w1 b (.mapIter (some bm) clock (seen.push x.born) clock)) q1 (.iter e (some k) (fun l => l = left')) rfl rfl rfl (by simp [setBlock]) (fun j hj => by simp [setBlock, Array.getElem?_setIfInBounds_ne (Ne.symm hj)])
     ⟨b, bm, clock, clock, es, seen.push x.born, left', q1, by simp [setBlock, hblt], q3, q4, q5, Nat.le_refl _, p2, rfl, q9, fun k' hk' => by cases hk'; exact ⟨rfl, x, seen, hxe, k1, rfl⟩⟩
   exact K1 k left' p1 h ρ _ _ (putL _ true I2)
theorem W.iterLoop {S : Type} {c : Code} (id : Nat) (e : Int → AV) (J : List Int → S → Prop) (Ls : S → List (Nat × AV)) (Ms : S → List (Nat × Blk)) {left0 : List Int} {s0 : S} (h0 : J left0 s0) (hL : Agree (fr L) (Ls s0)) (hM : AgreeM M ((id, .iter e none (fun l => l = left0)) :: Ms s0))
   (round : ∀ left s, J left s → ∀ K : Act → World → Prop, (∀ k left' s', left.Perm (k :: left') → J left' s' → At N C (Ls s') ((id, .iter e (some k) (fun l => l = left')) :: Ms s') g K) →
     W P N rr C c (Ls s) ((id, .iter e none (fun l => l = left)) :: Ms s) g (Exit.then K Q)) : W P N rr C (.loop c) L M g Q := by
 refine W.loop (S := List Int × S) (fun n s => s.1.length = n ∧ J s.1 s.2) (fun s => Ls s.2) (fun s => (id, .iter e none (fun l => l = s.1)) :: Ms s.2) (n0 := left0.length) (s0 := (left0, s0)) ⟨rfl, h0⟩ hL hM (fun n s hJ K hK => ?_)
 obtain ⟨left, s⟩ := s
 obtain ⟨hn, hJ⟩ := hJ
 refine round left s hJ K (fun k left' s' hp hJ' => ?_)
 have hlen : left'.length < n := by have := hp.length_eq; simp at this hn; omega
 refine At.convM ?_ (hK left'.length (left', s') hlen ⟨rfl, hJ'⟩)
 exact .cons (BSim.iterPast (fun l h => h)) (AgreeM.refl _)
end
end Go.Av
end
/- slices.Sort at []int, whose contract the library has, as a function that a slice is lent to. -/
section
set_option linter.all false
namespace Go.Av
open Go Go.Sort Go.Proofs
theorem sort_ctr {P : Program} {f : FuncId} (hent : Enters P f)
   (hC : ∀ (blk off cap : Nat) (zs : List Int) (w : World), Holds (Value.int .i64) w blk off zs.toArray → blk < w.heap.size → zs.length < 4611686018427387904 →
     Calls P f #[.slice (some ⟨blk, off, none⟩) zs.length cap] w fun e w' => e = .returned (.tuple #[]) ∧ ∃ n os, w' = grow (putRow (Value.int .i64) (Sort.ahead w n) blk off (zs.mergeSort fun x y => decide (x ≤ y)).toArray) os)
   (hN : ∀ (p : Option Addr) (cap : Nat) (w : World), Calls P f #[.slice p 0 cap] w fun e w' => e = .returned (.tuple #[]) ∧ w' = w)
   (ty : Nat) (l : List Int) {r : List Int} (H : Sp.slices_Sort_int_l l = some r) :
   CtrO P f [.buf 90000 l.length] [(90000, bufL ty 1 (fun x => [.int .i64 x]) l)] (.tup []) [(90000, bufL ty 1 (fun x => [.int .i64 x]) r)] := by
 unfold Sp.slices_Sort_int_l at H
 obtain ⟨hlen, H⟩ := Sp.of_must H
 cases H
 refine ⟨hent, fun h w ρ vs hR hp O => ?_⟩
 obtain ⟨hl, hg⟩ := hR
 match vs, hl with
 | [v], _ =>
 have hv := hg 0 _ v rfl rfl
 obtain ⟨v0, xs, b1, b2, b3, b4, b5⟩ := O.blk 90000 _ rfl
 have : v = v0 := by
   generalize hn : l.length = n at hv
   cases hv with
   | buf _ _ _ n2 sz2 _ v' hb hle h1 he => rw [b1] at hb; cases hb; exact he hn.symm
 subst this
 have wide : ∀ {R : Ending → World → Prop} {args : Array Value}, Calls P f args w R → CallsIn (Fw none) 0 P f args w R := fun hc => callsIn_wide.2 hc
 have hxs : xs = l.map (Value.int .i64) := by
   have hlx : xs.length = l.length := by have := b2.1; omega
   refine List.ext_getElem (by simp [hlx]) (fun i h1 h2 => ?_)
   have := b5 i 0 (.int .i64 (l.getD i default)) xs[i] (by omega) rfl (by rw [Nat.mul_one, Nat.add_zero]; exact List.getElem?_eq_getElem h1)
   generalize xs[i] = v at this ⊢
   cases this
   rw [List.getElem_map, List.getD_eq_getElem?_getD, List.getElem?_eq_getElem (by omega)]; rfl
 rcases b2.2 with ⟨hnil, hl0⟩ | ⟨g, cap, cur, rfl, hg0, hcur, q1, q2, q3, q4⟩
 · subst hnil
   have e0 : l = [] := List.length_eq_zero_iff.1 hl0
   subst e0
   refine (wide (hN none 0 w)).mono (fun en w' he => ?_)
   obtain ⟨rfl, rfl⟩ := he
   exact ⟨h, ρ, rfl, rfl, rfl, Nat.le_refl _, fun k _ _ => rfl, fun b o hb => hb, fun b o hb => .inl hb, .tup _ _ [] rfl (fun i c v hc => by simp at hc), ⟨O.blk, O.dom, O.own, O.inj⟩, fun id li b q1 q2 => .inl ⟨id, li, q1, q2⟩, fun id li li' q1 q2 => by rw [q1] at q2; cases q2; exact LI.le_refl _⟩
 · have hgs : g < w.heap.size := heap_lt hcur
   rw [Nat.mul_one] at q3 q4
   have hold := holds_of_blockI (ss := l) hcur (by rw [q4, hxs])
   have hc := hC g 0 cap l w hold hgs hlen
   refine (wide hc).mono (fun en w' he => ?_)
   obtain ⟨rfl, n, os, rfl⟩ := he
   rw [Sp.merge_isort]
   obtain ⟨s1, s2, s3, s4, s5⟩ := grownBy_sortedI (w := w) (g := g) (n := n) (os := os) (Sp.isort l).toArray
   have hin : ownSet ρ g := ⟨90000, _, b1, rfl⟩
   refine ⟨h, ρ, s1, s2, s3, s4, fun k hk hn => s5 k hk (fun e => hn (by cases e; exact hin)), fun b o hb => hb, fun b o hb => .inl hb, .tup _ _ [] rfl (fun i c v hc => by simp at hc), ⟨fun id x hx => ?_, fun id hid => ?_, fun id li b q1 q2 => ⟨(O.own id li b q1 q2).1, Nat.lt_of_lt_of_le (O.own id li b q1 q2).2 s4⟩, O.inj⟩, fun id li b q1 q2 => .inl ⟨id, li, q1, q2⟩, fun id li li' q1 q2 => by rw [q1] at q2; cases q2; exact LI.le_refl _⟩
   · have hid : id = 90000 := by
       by_cases e : id = 90000
       · exact e
       · simp only [mm] at hx; rw [upd_other _ _ e] at hx; cases hx
     subst hid
     simp only [mm] at hx; rw [upd_same] at hx; cases hx
     have own := ownsRow_sortedI (w := w) (base := 0) (g := g) (cap := cap) (n := n) (os := os) (ss := l) (ts := Sp.isort l) (Sp.isort_length l) hg0 hcur q1 q2 (by rw [q3, Nat.mul_one])
     refine ⟨_, (Sp.isort l).map (Value.int .i64), by rw [Sp.isort_length]; exact b1, by rw [Sp.isort_length]; exact own, fun i _ => rfl, fun x hx => ?_, fun i j c x hi hc hx => ?_⟩
     · obtain ⟨z, _, rfl⟩ := List.mem_map.1 hx; rfl
     · cases j with
       | succ j => simp at hc
       | zero =>
         have hc : AV.int .i64 ((Sp.isort l).getD i default) = c := by simpa using hc
         subst hc
         rw [Nat.mul_one, Nat.add_zero, List.getElem?_map, List.getElem?_eq_getElem hi] at hx
         cases hx
         rw [List.getD_eq_getElem?_getD, List.getElem?_eq_getElem hi]
         exact .int _ _ _
   · refine O.dom id ?_
     by_cases e : id = 90000
     · subst e; simp only [mm] at hid; rw [upd_same] at hid; cases hid
     · simp only [mm]; rw [upd_other _ _ e]
end Go.Av
end
/- Steps in one: two commands of which the first is a region; what reads the same. -/
section
set_option linter.all false
namespace Go.Av
open Go
theorem Sim.q {x y : AV} (h : x = y := by first | rfl | (simp; done) | omega | (simp; omega)) : Sim x y := .of_eq h
theorem Sim.qi {x y : AV} (h : x = y := by first | rfl | (simp; done) | omega | (refine intEq ?_; first | omega | (simp; done) | (simp; omega)) | (simp; omega)) : Sim x y := .of_eq h
theorem Sim.qb {x y : AV} (h : x = y := by refine bufEq ?_; first | (simp [Sp.copyAt]; done) | omega | (simp [Sp.copyAt]; omega) | (simp only [List.length_set] at *; omega) | rfl) : Sim x y := .of_eq h
theorem Sim.qc {x y : AV} (h : x = y := by refine bufEq ?_; first | rfl | (simp; done) | omega | (simp; omega)) : Sim x y := .of_eq h
theorem BSim.q {x y : Blk} (h : x = y := by first | rfl | (simp; done) | omega | (simp; omega)) : BSim x y := .of_eq h
variable {P : Program} {Γ : Tys} {N : Nat} {C : Ctx} {L : List (Nat × AV)} {M : List (Nat × Blk)} {g : Nat} {rr : Option Nat} {Q : Exit → Act → World → Prop}
theorem W.sr (E : Env P Γ) {id : Nat} {ops : Array Oper} {draw : Bool} {y : Code} (own : List Nat) (rvs : List RV) {A : Acc} (ts ids : List Nat) {L' : List (Nat × AV)} {M' : List (Nat × Blk)} (hr : runR Γ own ops.toList ops.toList rvs L M = some A) (hd : dstOk N ops.toList = true) (ho : drawOk draw ops A.ft = true) (hcs : AllP A.cs)
   (hrq : RqOk P A.rq) (K : W P N rr C y L' M' g Q) (hL : filtL ids A.L ts = some L' := by exact rfl) (hM : filtM ids A.M ids = some M' := by exact rfl) (hs : onlyL ids C.savA = true := by exact rfl) (hz : FzOk own C := by first | exact .inl rfl | exact .inr (fun _ h => h)) : W P N rr C (.seq (.region id ops draw) y) L M g Q :=
 W.seq (W.region E own rvs hr hd ho hcs hrq (At.keep hL hM (At.thenC K) hs) hz)
theorem W.rg (E : Env P Γ) {id : Nat} {ops : Array Oper} {draw : Bool} {y : Code} {A : Acc} (ts ids : List Nat) {L' : List (Nat × AV)} {M' : List (Nat × Blk)} (K : W P N rr C y L' M' g Q) (hr : runR Γ [] ops.toList ops.toList [] L M = some A := by exact rfl) (hd : dstOk N ops.toList = true := by exact rfl) (ho : drawOk draw ops A.ft = true := by exact rfl) (hcs : AllP A.cs := by exact .nil)
   (hrq : RqOk P A.rq := by exact .nil) (hL : filtL ids A.L ts = some L' := by exact rfl) (hM : filtM ids A.M ids = some M' := by exact rfl) (hs : onlyL ids C.savA = true := by exact rfl) : W P N rr C (.seq (.region id ops draw) y) L M g Q :=
 W.sr E [] [] ts ids hr hd ho hcs hrq K hL hM hs (.inl rfl)
end Go.Av
namespace Go.Av
section
variable {N : Nat} {C : Ctx} {L : List (Nat × AV)} {M : List (Nat × Blk)} {g : Nat} {R : Act → World → Prop}
theorem filtM_mem {K : List Nat} {M : List (Nat × Blk)} : ∀ {is : List Nat} {M'' : List (Nat × Blk)}, filtM K M is = some M'' → ∀ i b, mm M'' i = some b → i ∈ is := by
 intro is
 induction is with
 | nil => intro M'' h i b hb; simp only [filtM] at h; cases h; cases hb
 | cons s is ih =>
   intro M'' h i b hb
   simp only [filtM] at h
   split at h
   · cases h
   · split at h
     · split at h
       · rename_i r hr
         cases h
         simp only [mm, upd] at hb
         split at hb
         · rename_i hbe; have := Nat.eq_of_beq_eq_true hbe; subst this; exact List.mem_cons_self ..
         · exact List.mem_cons_of_mem _ (ih hr i b hb)
       · cases h
     · cases h
theorem At.shrink (t id d : Nat) {n b ty sz n' : Nat} {e : Nat → List AV} {K ts : List Nat} {L' : List (Nat × AV)} {M' : List (Nat × Blk)} (ht : fr L t = .sb id n 0 b) (hM : mm M id = some (.buf ty sz n' e)) (hn : n = n') (hbn : b ≤ n') (hK : inList K id = false) (hdK : inList K d = false) (hL : filtL K L ts = some L')
   (hMK : filtM K M K = some M') (Kk : At N C ((t, .buf d b) :: L') ((d, .buf ty sz b e) :: M') g R) (hs : onlyL K C.savA = true := by exact rfl) : At N C L M g R := by
 intro h ρ a w I
 subst hn
 obtain ⟨v0, us, k1, k2, k3, k5, k4⟩ := I.blk id _ hM
 obtain ⟨ρ', hρ, I'⟩ := I.forget hL hMK hs
 have hM2 := fun i z => filtM_mem hMK i z
 have hslot := I.slot t
 rw [ht] at hslot
 obtain ⟨gg, cap, hv0, hv⟩ : ∃ gg cap, v0 = .slice (some ⟨gg, 0, none⟩) n cap ∧ a.tmps.getD t undef = .slice (some ⟨gg, 0, none⟩) b cap := by
   generalize a.tmps.getD t undef = x at hslot
   cases hslot with
   | sb _ _ _ _ _ n1 sz1 _ v1 hb hle h1 he =>
     rw [k1] at hb; cases hb
     obtain ⟨gg, cap, q1, q2⟩ := he rfl
     refine ⟨gg, cap, q1, ?_⟩
     rw [q2]
     split <;> simp
 subst hv0
 have hidK : id ∉ K := fun hk => by rw [inList_of hk] at hK; cases hK
 have hdnK : d ∉ K := fun hk => by rw [inList_of hk] at hdK; cases hdK
 have hinK : ∀ i li, ρ' i = some li → i ∈ K ∧ ρ i = some li := fun i li hi => by
   have hk : i ∈ K := by
     cases hz : mm M' i with
     | none => rw [I'.dom i hz] at hi; cases hi
     | some z => exact hM2 i z hz
   exact ⟨hk, by rw [← hρ i hk]; exact hi⟩
 have hd0 : ρ' d = none := by
   cases hz : ρ' d with
   | none => rfl
   | some li => exact absurd (hinK d li hz).1 hdnK
 have hMd : mm M' d = none := by
   cases hz : mm M' d with
   | none => rfl
   | some y => exact absurd (hM2 d y hz) hdnK
 let ρ2 : Rho := upd ρ' d (some (.sl b sz (.slice (some ⟨gg, 0, none⟩) b cap)))
 have hd2 : ρ2 d = some (.sl b sz (.slice (some ⟨gg, 0, none⟩) b cap)) := upd_same _ _ _
 have hoth : ∀ j, j ≠ d → ρ2 j = ρ' j := fun j hj => upd_other _ _ hj
 have hrl : ∀ j l, ρ' j = some l → ∃ l', ρ2 j = some l' ∧ l.le l' := fun j l hj => by
   have hne : j ≠ d := fun e1 => by subst e1; rw [hd0] at hj; cases hj
   exact ⟨l, by rw [hoth j hne]; exact hj, .inl rfl⟩
 have hout : ∀ i li k, ρ' i = some li → li.owns k → k ≠ gg := fun i li k q1 q2 e1 => by
   subst e1
   obtain ⟨hk, q3⟩ := hinK i li q1
   have := I.inj i id li _ k q3 k1 q2 rfl
   subst this; exact hidK hk
 have hgo := I.own id _ gg k1 rfl
 have hmul : b * sz ≤ n * sz := Nat.mul_le_mul_right _ hbn
 have I2 : InvH N C h ρ2 (fr L') (mm ((d, .buf ty sz b e) :: M')) g a w := by
   refine { I' with slot := fun u => (I'.slot u).mono (Le.refl _) hrl, sav := ⟨I'.sav.1, fun i c x q1 q2 => (I'.sav.2 i c x q1 q2).mono (Le.refl _) hrl⟩, blk := fun i x hx => ?_, dom := fun i hi => ?_, own := fun i li k q1 q2 => ?_, inj := fun i i' li li' k q1 q1' q2 q2' => ?_, gst := ?_ }
   · simp only [mm] at hx
     by_cases e1 : i = d
     · subst e1
       rw [upd_same] at hx; cases hx
       rcases k2.2 with ⟨q, _⟩ | ⟨g1, cap1, cur, q, q0, q3, q4, q5, q6, q7⟩
       · cases q
       cases q
       refine ⟨_, us.take (b * sz), hd2, ⟨by rw [List.length_take, k2.1]; omega, .inr ⟨gg, cap, cur, rfl, q0, q3, Nat.le_trans hbn q4, q5, q6, ?_⟩⟩, fun j hj => k3 j (by omega), fun x hx => k5 x (List.mem_of_mem_take hx), fun j k c x hj hc hx => ?_⟩
       · rw [← q7, List.take_take, Nat.min_eq_left hmul]
       · rw [List.getElem?_take] at hx
         split at hx
         · exact k4 j k c x (by omega) hc hx
         · cases hx
     · rw [upd_other _ _ e1] at hx
       exact (I'.blk i x hx).keep (Le.refl _) (hoth i e1) hrl (fun _ _ _ _ => rfl)
   · simp only [mm] at hi
     by_cases e1 : i = d
     · subst e1; rw [upd_same] at hi; cases hi
     · rw [upd_other _ _ e1] at hi; rw [hoth i e1]; exact I'.dom i hi
   · by_cases e1 : i = d
     · subst e1
       rw [hd2] at q1; cases q1
       have e2 : gg = k := by have : some gg = some k := q2; exact Option.some.inj this
       subst e2; exact hgo
     · rw [hoth i e1] at q1; exact I'.own i li k q1 q2
   · have key : ∀ k, (LI.sl b sz (.slice (some ⟨gg, 0, none⟩) b cap)).owns k → gg = k := fun k q => Option.some.inj (show some gg = some k from q)
     by_cases e1 : i = d
     · by_cases e2 : i' = d
       · rw [e1, e2]
       · rw [e1, hd2] at q1; cases q1
         rw [hoth i' e2] at q1'
         exact absurd (key k q2).symm (hout i' li' k q1' q2')
     · by_cases e2 : i' = d
       · rw [e2, hd2] at q1'; cases q1'
         rw [hoth i e1] at q1
         exact absurd (key k q2').symm (hout i li k q1 q2)
       · rw [hoth i e1] at q1; rw [hoth i' e2] at q1'
         exact I'.inj i i' li li' k q1 q1' q2 q2'
   · obtain ⟨X, x1, x2, x3⟩ := I.gst
     refine ⟨X, fun k ⟨i, li, q1, q2⟩ => ?_, x2, x3⟩
     by_cases e1 : i = d
     · subst e1
       rw [hd2] at q1; cases q1
       exact x1 k ⟨id, _, k1, q2⟩
     · rw [hoth i e1] at q1
       exact x1 k ⟨i, li, (hinK i li q1).2, q2⟩
 refine Kk h ρ2 a w { I2 with slot := fun u => ?_ }
 simp only [fr, put]
 split
 · rename_i hb
   have := Nat.eq_of_beq_eq_true hb
   subst this
   rw [hv]
   exact .buf _ _ _ _ _ _ _ hd2 (Nat.le_refl _) rfl (fun _ => rfl)
 · exact I2.slot u
end
theorem Seg.cleared {T : Type} [Inhabited T] {f : T → List AV} {n a b : Nat} {e : Nat → List AV} {z : List AV} {l : List T} (h : Seg f n e l) (x : T) (hz : z = f x) (hb : b ≤ l.length) : Seg f n (fun q => if a ≤ q ∧ q < b then z else e q) (Sp.copyAt l a (b - a) (fun _ => x)) := by
 obtain ⟨rfl, g1⟩ := h
 subst hz
 refine ⟨by simp [Sp.copyAt], fun k hk => ?_⟩
 have : (Sp.copyAt l a (b - a) (fun _ => x)).getD k default = if a ≤ k ∧ k < a + (b - a) then x else l.getD k default := by
   simp only [Sp.copyAt, List.getD_eq_getElem?_getD, List.getElem?_map, List.getElem?_range hk, Option.map_some, Option.getD_some]
 rw [this]
 dsimp only
 by_cases h : a ≤ k ∧ k < b
 · rw [if_pos h, if_pos (by omega)]
 · rw [if_neg h, if_neg (by omega)]; exact g1 k hk
theorem Seg.first {T : Type} [Inhabited T] {f : T → List AV} {n b : Nat} {e : Nat → List AV} {l : List T} (h : Seg f n e l) (hb : b ≤ n) : Seg f b e (l.take b) := by
 obtain ⟨rfl, g1⟩ := h
 refine ⟨by rw [List.length_take]; omega, fun k hk => ?_⟩
 rw [g1 k (by omega)]
 simp [List.getD_eq_getElem?_getD, List.getElem?_take, hk]
end Go.Av
end
/- The bridge: from what an argument reads as (a row's data) to the abstract value that it is; from a contract to a row's statement that a law returns true and leaves its arguments as they were. -/
section
set_option linter.all false
namespace Go.Av
open Go.RowKit Go.WideShapes Go.ChangeShapes
def Wt {H : Type} (P : Program) (t : TypeId) (d : DataW H) : Prop := ∀ q ∈ d.weights P t, q ≤ reachBytes
theorem wt_all {H : Type} {P : Program} {e : TypeId} : ∀ {ds : List (DataW H)} {d : DataW H}, d ∈ ds → ∀ q ∈ d.weights P e, q ∈ DataW.weightsAll P e ds
 | x :: ds, d, h, q, hq => by
   simp only [DataW.weightsAll, List.mem_append]
   rcases List.mem_cons.1 h with rfl | h
   · exact .inl hq
   · exact .inr (wt_all h q hq)
theorem wt_left {H : Type} {P : Program} : ∀ {ts us : List TypeId} {ds gs : List (DataW H)}, ∀ q ∈ DataW.weightsEach P ts ds, q ∈ DataW.weightsEach P (ts ++ us) (ds ++ gs)
 | [], us, ds, gs, q, h => by cases ds <;> simp [DataW.weightsEach] at h
 | t :: ts, us, [], gs, q, h => by simp [DataW.weightsEach] at h
 | t :: ts, us, d :: ds, gs, q, h => by
   simp only [DataW.weightsEach, List.cons_append, List.mem_append] at h ⊢
   rcases h with h | h
   · exact .inl h
   · exact .inr (wt_left q h)
structure Opn (P : Program) (t : TypeId) (sz : Nat) {X : Type} (e : X → List AV) (ok : X → Prop) : Prop where
 len : ∀ x, (e x).length = sz
 cells : P.cellsOf t = sz
 read : ∀ (H : Type) (enc : TypeId × Value → H) (W : World) (n : Nat) (cs : List Value) (r : DataW H × List MemPlace), DataW.trod enc P W 0 (fun _ => true) true n t cs = some r → Wt P t r.1 →
   ∃ x, RelL (fun b => W.heap[b]?) ρ0 (e x) cs ∧ ok x ∧ ∀ v ∈ cs, v.oneCell' = true
theorem Opn.int {P : Program} {t : TypeId} (ht : P.underlying t = some (.int .i64)) (hc : P.cellsOf t = 1) : Opn P t 1 (fun x : Int => [.int .i64 x]) inI :=
 ⟨fun _ => rfl, hc, fun H enc W n cs r h _ => by
   obtain ⟨x, rfl, rfl, hw⟩ := DataW.trod_int ht h
   refine ⟨x, RelL.cons (.int _ _ _) (RelL.nil _ _), ?_, fun v hv => ?_⟩
   · have := bounds_i64 hw
     exact this
   · simp at hv; subst hv; rfl⟩
theorem Opn.bool {P : Program} {t : TypeId} (ht : P.underlying t = some .bool) (hc : P.cellsOf t = 1) : Opn P t 1 (fun x : Bool => [.bool x]) (fun _ => True) :=
 ⟨fun _ => rfl, hc, fun H enc W n cs r h _ => by
   obtain ⟨x, rfl, rfl⟩ := DataW.trod_bool ht h
   refine ⟨x, RelL.cons (.bool _ _) (RelL.nil _ _), trivial, fun v hv => ?_⟩
   simp at hv; subst hv; rfl⟩
theorem Opn.map {P : Program} {t : TypeId} {sz : Nat} {X Y : Type} {e : X → List AV} {ok : X → Prop} (h : Opn P t sz e ok) (f : X → Y) {e' : Y → List AV} {ok' : Y → Prop}
   (hl : ∀ y, (e' y).length = sz) (he : ∀ x, e' (f x) = e x) (ho : ∀ x, ok x → ok' (f x)) : Opn P t sz e' ok' :=
 ⟨hl, h.cells, fun H enc W n cs r hr hz => by
   obtain ⟨x, h1, h2, h3⟩ := h.read H enc W n cs r hr hz
   exact ⟨f x, by rw [he]; exact h1, ho x h2, h3⟩⟩
structure OpnF (P : Program) (fs : List (Nat × TypeId)) (off sz : Nat) {X : Type} (e : X → List AV) (ok : X → Prop) : Prop where
 len : ∀ x, (e x).length = sz
 read : ∀ (H : Type) (enc : TypeId × Value → H) (W : World) (n : Nat) (cs : List Value), cs.length = off + sz →
   (∀ f ∈ fs, ∃ r, DataW.trod enc P W 0 (fun _ => true) true n f.2 ((cs.drop f.1).take (P.cellsOf f.2)) = some r ∧ Wt P f.2 r.1) →
   ∃ x, RelL (fun b => W.heap[b]?) ρ0 (e x) (cs.drop off) ∧ ok x ∧ ∀ v ∈ cs.drop off, v.oneCell' = true
theorem OpnF.nil {P : Program} {off : Nat} : OpnF P [] off 0 (fun _ : Unit => []) (fun _ => True) :=
 ⟨fun _ => rfl, fun H enc W n cs hl _ => ⟨(), by rw [List.drop_eq_nil_of_le (by omega)]; exact RelL.nil _ _, trivial, by rw [List.drop_eq_nil_of_le (by omega)]; simp⟩⟩
theorem OpnF.cons {P : Program} {t : TypeId} {fs : List (Nat × TypeId)} {off s sz : Nat} {X Y : Type} {e : X → List AV} {ok : X → Prop} {e' : Y → List AV} {ok' : Y → Prop}
   (h : Opn P t s e ok) (h' : OpnF P fs (off + s) sz e' ok') : OpnF P ((off, t) :: fs) off (s + sz) (fun x : X × Y => e x.1 ++ e' x.2) (fun x => ok x.1 ∧ ok' x.2) :=
 ⟨fun x => by rw [List.length_append, h.len, h'.len], fun H enc W n cs hl hr => by
   obtain ⟨r, hr1, hr2⟩ := hr (off, t) (List.mem_cons_self ..)
   obtain ⟨x, h1, h2, h3⟩ := h.read H enc W n _ r hr1 hr2
   obtain ⟨y, k1, k2, k3⟩ := h'.read H enc W n cs (by omega) (fun f hf => hr f (List.mem_cons_of_mem _ hf))
   have e1 : cs.drop off = (cs.drop off).take s ++ cs.drop (off + s) := by
     rw [← List.drop_drop, List.take_append_drop]
   rw [h.cells] at h1 h3
   refine ⟨(x, y), ?_, ⟨h2, k2⟩, fun v hv => ?_⟩
   · rw [e1]; exact RelL.append h1 k1
   · rw [e1, List.mem_append] at hv
     exact hv.elim (h3 v) (k3 v)⟩
theorem Opn.struct {P : Program} {t : TypeId} {fs : Array Field} {sz : Nat} {X Y : Type} {e : X → List AV} {ok : X → Prop} (ht : P.underlying t = some (.struct fs)) (hc : P.cellsOf t = sz)
   (h : OpnF P (fs.toList.map fun f => (f.offset, f.type)) 0 sz e ok) (f : X → Y) {e' : Y → List AV} {ok' : Y → Prop}
   (hl : ∀ y, (e' y).length = sz) (he : ∀ x, e' (f x) = e x) (ho : ∀ x, ok x → ok' (f x)) : Opn P t sz e' ok' :=
 ⟨hl, hc, fun H enc W n cs r hr hz => by
   obtain ⟨xs, m, rfl, rfl, hlen, hx, hi⟩ := DataW.trod_struct ht hr
   obtain ⟨x, h1, h2, h3⟩ := h.read H enc W m cs (by rw [hlen, hc]; omega) (fun g hg => by
     obtain ⟨f0, hf0, rfl⟩ := List.mem_map.1 hg
     obtain ⟨i, hi1, hi2⟩ := List.getElem_of_mem hf0
     have hh := hi i f0 (by rw [← hi2]; simp)
     have hxi : i < xs.length := by rw [hx]; simpa using hi1
     refine ⟨xs[i]'hxi, ?_, fun q hq => hz q ?_⟩
     · rw [hh, List.getElem?_eq_getElem]
     · simp only [DataW.weights, ht]
       exact DataW.weights_mem_each (j := i) (t := f0.type) (d := (xs[i]'hxi).1) (by rw [List.getElem?_map, List.getElem?_eq_getElem hi1, hi2]; rfl) (by rw [List.getElem?_map, List.getElem?_eq_getElem hxi]; rfl) q hq)
   rw [List.drop_zero] at h1 h3
   exact ⟨f x, by rw [he]; exact h1, ho x h2, h3⟩⟩
def arrF (s : Nat) (t : TypeId) (off : Nat) : Nat → List (Nat × TypeId)
 | 0 => []
 | n + 1 => (off, t) :: arrF s t (off + s) n
theorem mem_arrF {s : Nat} {t : TypeId} : ∀ {n off : Nat} {f : Nat × TypeId}, f ∈ arrF s t off n → ∃ i, i < n ∧ f = (off + i * s, t)
 | 0, _, _, h => by cases h
 | n + 1, off, f, h => by
   rcases List.mem_cons.1 h with rfl | h
   · exact ⟨0, by omega, by simp⟩
   · obtain ⟨i, hi, rfl⟩ := mem_arrF h
     exact ⟨i + 1, by omega, by rw [Nat.add_mul]; simp; omega⟩
theorem Opn.array {P : Program} {t u : TypeId} {n s sz : Nat} {X Y : Type} {e : X → List AV} {ok : X → Prop} (ht : P.underlying t = some (.array n u)) (hc : P.cellsOf t = sz) (hu : P.cellsOf u = s)
   (h : OpnF P (arrF s u 0 n) 0 sz e ok) (f : X → Y) {e' : Y → List AV} {ok' : Y → Prop}
   (hl : ∀ y, (e' y).length = sz) (he : ∀ x, e' (f x) = e x) (ho : ∀ x, ok x → ok' (f x)) : Opn P t sz e' ok' :=
 ⟨hl, hc, fun H enc W m cs r hr hz => by
   obtain ⟨xs, m, rfl, rfl, hlen, hx, hi⟩ := DataW.trod_array ht hr
   obtain ⟨x, h1, h2, h3⟩ := h.read H enc W m cs (by rw [hlen, hc]; omega) (fun g hg => by
     obtain ⟨i, hi1, rfl⟩ := mem_arrF hg
     have hh := hi i hi1
     have hxi : i < xs.length := by rw [hx]; exact hi1
     refine ⟨xs[i]'hxi, ?_, fun q hq => hz q ?_⟩
     · rw [hu] at hh ⊢
       simp only [Nat.zero_add]
       rw [hh, List.getElem?_eq_getElem]
     · simp only [DataW.weights, ht]
       exact wt_all (List.mem_map.2 ⟨_, List.getElem_mem hxi, rfl⟩) q hq)
   rw [List.drop_zero] at h1 h3
   exact ⟨f x, by rw [he]; exact h1, ho x h2, h3⟩⟩
theorem choose_list {X : Type} [Inhabited X] {p : Nat → X → Prop} : ∀ (n : Nat), (∀ i, i < n → ∃ x, p i x) → ∃ l : List X, l.length = n ∧ ∀ i, i < n → p i (l.getD i default)
 | 0, _ => ⟨[], rfl, fun i hi => by omega⟩
 | n + 1, h => by
   obtain ⟨l, h1, h2⟩ := choose_list n (fun i hi => h i (by omega))
   obtain ⟨x, hx⟩ := h n (by omega)
   refine ⟨l ++ [x], by simp [h1], fun i hi => ?_⟩
   by_cases hn : i < n
   · have : (l ++ [x]).getD i default = l.getD i default := by
       simp [List.getD_eq_getElem?_getD, List.getElem?_append_left (h1 ▸ hn)]
     rw [this]; exact h2 i hn
   · have hi' : i = n := by omega
     subst hi'
     have : (l ++ [x]).getD i default = x := by
       simp [List.getD_eq_getElem?_getD, List.getElem?_append_right (Nat.le_of_eq h1), h1]
     rw [this]; exact hx
theorem cells?_get {w : World} {a : Addr} {n : Nat} {cs : List Value} (h : w.cells? 0 a n = some cs) : cs.length = n ∧ ∀ j, j < n → w.cell? (a.add j) = cs[j]? := by
 unfold World.cells? at h
 rw [if_pos (Nat.zero_le _)] at h
 exact ⟨by rw [mapM_some_length h]; simp, fun j hj => mapM_some_get h j j (by simp [hj])⟩
theorem Opn.slice {P : Program} {t u : TypeId} {s : Nat} {X : Type} [Inhabited X] {e : X → List AV} {ok : X → Prop} {k : Nat} (ht : P.underlying t = some (.slice u)) (hc : P.cellsOf t = 1) (h : Opn P u s e ok) (hs : 0 < s) (hb : 1 ≤ k ∧ k ≤ P.bytesOf u) :
   Opn P t 1 (fun l : List X => [roL s e l]) (fun l => l.length * k ≤ 140737488351232 ∧ ∀ x ∈ l, ok x) :=
 ⟨fun _ => rfl, hc, fun H enc W m cs r hr hz => by
   rcases DataW.trod_slice ht hr with ⟨rfl, _⟩ | ⟨a, len, cap, elems, rest, n, rfl, rfl, rfl, -, hlc, hcm, hel, hi, -, -⟩
   · refine ⟨[], RelL.cons (.ro _ _ _ _ _ _ (fun _ => rfl) ⟨Nat.le_refl _, Nat.zero_le _⟩ (fun i hi => by cases hi) (fun i j hi => by cases hi) (fun k v hk => by simp at hk) (fun i j c v hi => by cases hi)) (RelL.nil _ _), ⟨by simp, by simp⟩, fun v hv => ?_⟩
     simp at hv; subst hv; rfl
   · have hz : ∀ q ∈ DataW.weights P t (.slice (elems.map (·.1)) (rest.map (·.1)) : DataW H), q ≤ reachBytes := hz
     have ew : DataW.weights P t (.slice (elems.map (·.1)) (rest.map (·.1)) : DataW H) = ((elems.map (·.1)).length + (rest.map (·.1)).length) * P.bytesOf u :: (DataW.weightsAll P u (elems.map (·.1)) ++ DataW.weightsAll P u (rest.map (·.1))) := by simp only [DataW.weights, ht]
     rw [ew] at hz
     obtain ⟨l, hl, hp⟩ := choose_list (X := X) (p := fun i x => ∃ ys : List Value, W.cells? 0 (a.add (i * s)) s = some ys ∧ RelL (fun b => W.heap[b]?) ρ0 (e x) ys ∧ ok x ∧ ∀ v ∈ ys, v.oneCell' = true) len (fun i hi' => by
       have := hi i hi'
       rw [h.cells, List.getElem?_eq_getElem (by omega)] at this
       obtain ⟨ys, h1, h2⟩ := Option.bind_eq_some_iff.1 this
       obtain ⟨x, k1, k2, k3⟩ := h.read H enc W n ys _ h2 (fun q hq => hz q (List.mem_cons_of_mem _ (List.mem_append_left _ (wt_all (List.mem_map.2 ⟨_, List.getElem_mem _, rfl⟩) q hq))))
       exact ⟨x, ys, h1, k1, k2, k3⟩)
     have hbig0 : len * k ≤ 140737488351232 := by
       have h1 := hz _ List.mem_cons_self
       rw [List.length_map, List.length_map] at h1
       have h2 : reachBytes = 140737488351232 := rfl
       have h3 : len * k ≤ (elems.length + rest.length) * P.bytesOf u := Nat.mul_le_mul (by omega) hb.2
       omega
     have hbig : len ≤ 140737488351232 := Nat.le_trans (Nat.le_mul_of_pos_right _ hb.1) hbig0
     subst hl
     have cell : ∀ i j, i < l.length → j < s → ∃ ys : List Value, ys.length = s ∧ RelL (fun b => W.heap[b]?) ρ0 (e (l.getD i default)) ys ∧ (∀ v ∈ ys, v.oneCell' = true) ∧ hcell (fun b => W.heap[b]?) (some a) (i * s + j) = ys[j]? := by
       intro i j hi' hj
       obtain ⟨ys, h1, h2, _, h4⟩ := hp i hi'
       obtain ⟨k1, k2⟩ := cells?_get h1
       refine ⟨ys, k1, h2, h4, ?_⟩
       rw [← k2 j hj, Addr.add_add]
       rfl
     refine ⟨l, RelL.cons (.ro _ _ _ _ _ _ (fun h => by cases h) ⟨hlc, by omega⟩ (fun i _ => h.len _) (fun i j hi' hj => ?_) (fun k v hk hv => ?_) (fun i j c v hi' hcj hv => ?_)) (RelL.nil _ _), ⟨hbig0, fun x hx => ?_⟩, fun v hv => ?_⟩
     · obtain ⟨ys, k1, _, _, k4⟩ := cell i j hi' hj
       rw [k4, List.getElem?_eq_getElem (by omega)]; rfl
     · obtain ⟨ys, k1, _, k3, k4⟩ := cell (k / s) (k % s) (by rw [Nat.div_lt_iff_lt_mul hs]; exact hk) (Nat.mod_lt _ hs)
       rw [Nat.mul_comm, Nat.div_add_mod] at k4
       rw [k4] at hv
       exact k3 v (List.mem_of_getElem? hv)
     · have hj : j < s := by
         have := (List.getElem?_eq_some_iff.1 hcj).1
         rwa [h.len] at this
       obtain ⟨ys, k1, k2, _, k4⟩ := cell i j hi' hj
       rw [k4] at hv
       exact k2.2 j c v hcj hv
     · obtain ⟨i, hi1, rfl⟩ := List.getElem_of_mem hx
       obtain ⟨_, _, _, h3, _⟩ := hp i (by omega)
       rw [List.getD_eq_getElem?_getD, List.getElem?_eq_getElem hi1] at h3
       exact h3
     · simp at hv; subst hv; rfl⟩
def OpnT (P : Program) (t : TypeId) {X : Type} (e : X → AV) (ok : X → Prop) : Prop :=
 ∀ (H : Type) (enc : TypeId × Value → H) (W : World) (base : Nat) (v : Value) (d : DataW H) (ps : List MemPlace), Value.okWide P W .any base t v → DataW.Trod enc P W 0 (fun _ => true) true t v d ps → Wt P t d →
   ∃ x, Rel (fun b => W.heap[b]?) ρ0 (e x) v ∧ ok x
theorem OpnT.struct {P : Program} {t : TypeId} {fs : Array Field} {sz : Nat} {X : Type} {e : X → List AV} {ok : X → Prop} (ht : P.underlying t = some (.struct fs)) (h : Opn P t sz e ok) : OpnT P t (fun x => .agg (e x)) ok := by
 intro H enc W base v d ps hv hd hz
 obtain ⟨cs, rfl, _⟩ := okWide_struct ht hv
 obtain ⟨n, hn⟩ := hd
 obtain ⟨x, h1, h2, _⟩ := h.read H enc W n _ _ hn hz
 refine ⟨x, ?_, h2⟩
 have : (Value.agg cs) = .agg (Value.agg cs).cells.toList.toArray := by simp [Value.cells]
 rw [this]
 exact .agg _ _ _ h1.1 h1.2
theorem OpnT.array {P : Program} {t u : TypeId} {n sz : Nat} {X : Type} {e : X → List AV} {ok : X → Prop} (ht : P.underlying t = some (.array n u)) (h : Opn P t sz e ok) : OpnT P t (fun x => .agg (e x)) ok := by
 intro H enc W base v d ps hv hd hz
 obtain ⟨cs, rfl⟩ : ∃ cs, v = .agg cs := by
   simp only [Value.okWide, ht] at hv
   obtain ⟨cs, h1, _⟩ := hv
   exact ⟨cs, h1⟩
 obtain ⟨n, hn⟩ := hd
 obtain ⟨x, h1, h2, _⟩ := h.read H enc W n _ _ hn hz
 refine ⟨x, ?_, h2⟩
 have : (Value.agg cs) = .agg (Value.agg cs).cells.toList.toArray := by simp [Value.cells]
 rw [this]
 exact .agg _ _ _ h1.1 h1.2
theorem OpnT.int {P : Program} {t : TypeId} (ht : P.underlying t = some (.int .i64)) : OpnT P t (fun x : Int => .int .i64 x) inI := by
 intro H enc W base v d ps hv hd hz
 obtain ⟨n, rfl⟩ := okWide_int ht hv
 obtain ⟨m, hn⟩ := hd
 obtain ⟨x, h1, _, hw⟩ := DataW.trod_int ht hn
 simp only [Value.cells, List.cons.injEq, Value.int.injEq, and_true, true_and] at h1
 subst h1
 exact ⟨n, .int _ _ _, bounds_i64 hw⟩
theorem OpnT.bool {P : Program} {t : TypeId} (ht : P.underlying t = some .bool) : OpnT P t (fun x : Bool => .bool x) (fun _ => True) := by
 intro H enc W base v d ps hv hd hz
 obtain ⟨n, rfl⟩ := okWide_bool ht hv
 exact ⟨n, .bool _ _, trivial⟩
theorem OpnT.slice {P : Program} {t u : TypeId} {s : Nat} {X : Type} [Inhabited X] {e : X → List AV} {ok : X → Prop} {k : Nat} (ht : P.underlying t = some (.slice u)) (hc : P.cellsOf t = 1) (h : Opn P u s e ok) (hs : 0 < s) (hb : 1 ≤ k ∧ k ≤ P.bytesOf u) :
   OpnT P t (fun l : List X => roL s e l) (fun l => l.length * k ≤ 140737488351232 ∧ ∀ x ∈ l, ok x) := by
 intro H enc W base v d ps hv hd hz
 obtain ⟨a, len, cap, rfl⟩ := okWide_slice ht hv
 obtain ⟨n, hn⟩ := hd
 obtain ⟨x, h1, h2, _⟩ := (Opn.slice ht hc h hs hb).read H enc W n _ _ hn hz
 exact ⟨x, h1.2 0 _ _ (by simp) (by simp [Value.cells]), h2⟩
def OpnA (P : Program) (ts : List TypeId) {X : Type} (e : X → List AV) (ok : X → Prop) : Prop :=
 ∀ (H : Type) (enc : TypeId × Value → H) (W : World) (base : Nat) (vs : List Value) (ds : List (DataW H)) (ps : List MemPlace), (∀ (j : Nat) t v, ts[j]? = some t → vs[j]? = some v → Value.okWide P W .any base t v) →
   DataW.TrodAll enc P W 0 (fun _ => true) true ts vs ds ps → (∀ q ∈ DataW.weightsEach P ts ds, q ≤ reachBytes) → ds.length = ts.length ∧ ∃ x, RelL (fun b => W.heap[b]?) ρ0 (e x) vs ∧ ok x
theorem OpnA.nil {P : Program} : OpnA P [] (fun _ : Unit => []) (fun _ => True) := by
 intro H enc W base vs ds ps _ h _
 obtain ⟨rfl, rfl, _⟩ := trodAll_nil h
 exact ⟨rfl, (), RelL.nil _ _, trivial⟩
theorem OpnA.cons {P : Program} {t : TypeId} {ts : List TypeId} {X Y : Type} {e : X → AV} {ok : X → Prop} {e' : Y → List AV} {ok' : Y → Prop} (h : OpnT P t e ok) (h' : OpnA P ts e' ok') :
   OpnA P (t :: ts) (fun x : X × Y => e x.1 :: e' x.2) (fun x => ok x.1 ∧ ok' x.2) := by
 intro H enc W base vs ds ps hv hA hz
 obtain ⟨v, vs', d, ds', p, q, rfl, rfl, rfl, h1, h2⟩ := trodAll_cons hA
 obtain ⟨x, k1, k2⟩ := h H enc W base v d p (hv 0 t v (by simp) (by simp)) h1 (fun q hq => hz q (by simp only [DataW.weightsEach, List.mem_append]; exact .inl hq))
 obtain ⟨hl, y, k3, k4⟩ := h' H enc W base vs' ds' q (fun j t' v' a b => hv (j + 1) t' v' (by simpa using a) (by simpa using b)) h2 (fun q hq => hz q (by simp only [DataW.weightsEach, List.mem_append]; exact .inr hq))
 exact ⟨by simp [hl], (x, y), RelL.cons k1 k3, k2, k4⟩
theorem post_fresh {H : Type} {enc : TypeId × Value → H} {P : Program} {f : Func} {s : ChangeSpec} {apart fresh handsOn again : Bool} {W W' : World} {args : Array Value} {v : Value} {ds gs : List (DataW H)} {before pa pv : List MemPlace}
   (hW : DataW.Whole enc P f.params.toList s.vars apart W args.toList ds gs before)
   (hres : ∀ (b : Nat) (sp : Nat → Bool) (hd : Bool), DataW.TrodAll enc P W' b sp hd f.resultTypes.toList (v.resultList f.resultTypes.size) (s.fn H (ds ++ gs)).results [])
   (hargs : ∀ sp : Nat → Bool, (∀ p ∈ before, sp p.block = true) → DataW.TrodAll enc P W' 0 sp true f.params.toList args.toList (s.fn H (ds ++ gs)).args pa)
   (hvars : ∀ sp : Nat → Bool, (∀ p ∈ before, sp p.block = true) → DataW.TrodVars enc P W' sp s.vars (s.fn H (ds ++ gs)).vars pv)
   (hps : before = pa ++ pv) (hb : Below W.heap.size W W')
   (hok : ∀ (j : Nat) (t : TypeId) (r : Value), f.resultTypes[j]? = some t → (v.resultList f.resultTypes.size)[j]? = some r → Value.okWide P W' .any 0 t r) :
   s.post enc P f apart fresh handsOn again W args v W' := by
 have hlt : ∀ p ∈ before, p.block < W.heap.size := fun p hp => hW.lt p hp
 have hold : ∀ p ∈ before, (fun b => decide (b < W.heap.size)) p.block = true := fun p hp => by simpa using hlt p hp
 refine ⟨ds, gs, before, [], pa, pv, hW, hres _ _ _, hargs _ hold, hvars _ hold, World.keptBut_mono (fun p hp => ⟨hp, ?_⟩) (hb.frame (· ∈ before)), fun _ => ?_⟩
 · rw [hps, List.mem_append] at hp
   exact Or.inr hp
 · obtain ⟨_, _, _, _, _, hz, hn⟩ := hW
   refine ⟨hok, _, _, ([] ++ pa) ++ pv, ⟨[] ++ pa, pv, trodAll_append (hargs _ (fun _ _ => rfl)) (hres _ _ _), hvars _ (fun _ _ => rfl), rfl, ?_, ?_⟩, ?_⟩
   · intro b off hp
     have hin : MemPlace.cell b off ∈ before := by rw [hps]; simpa using hp
     rw [hb.frozen (hlt _ hin)]
     exact hz b off hin
   · intro ha
     have := hn ha
     rw [hps] at this
     simpa using this
   · intro p hp _
     rw [hps]
     simpa using hp
theorem TrodAll_carry {H : Type} {enc : TypeId × Value → H} {P : Program} {w w' : World} {base : Nat} {spare : Nat → Bool} {held : Bool} : ∀ {ts : List TypeId} {vs : List Value} {ds : List (DataW H)} {ps : List MemPlace},
   DataW.TrodAll enc P w base spare held ts vs ds ps → (∀ p ∈ ps, w.sameAt w' p) → DataW.TrodAll enc P w' base spare held ts vs ds ps
 | [], [], [], _, h, _ => h
 | _ :: _, _ :: _, _ :: _, _, ⟨p, q, ⟨n, h1⟩, h2, e⟩, hs => ⟨p, q, ⟨n, DataW.trod_carry n _ _ _ h1 (fun x hx => hs x (by rw [e]; exact List.mem_append_left _ hx))⟩,
     TrodAll_carry h2 (fun x hx => hs x (by rw [e]; exact List.mem_append_right _ hx)), e⟩
theorem law_calls {P : Program} {f : FuncId} {fn : Func} {s : ChangeSpec} {apart fresh handsOn again : Bool} {X : Type} {e : X → List AV} {ok : X → Prop} {tb : TypeId}
   (hkids : Kids P (· < P.types.size)) (hfull : ∀ t e, t < P.types.size → P.underlying t = some (.slice e) → 0 < P.cellsOf e) (hp : fn.params.toList.all (· < P.types.size) = true)
   (hA : OpnA P fn.params.toList e ok) (hs : s.vars = []) (hfn : ∀ (H : Type) (ds : List (DataW H)), ds.length = fn.params.toList.length → s.fn H ds = ⟨[.lit (.bool true)], ds, []⟩)
   (hr : fn.resultTypes = #[tb]) (htb : P.underlying tb = some .bool) (hC : ∀ x, ok x → Ctr P f (e x) (.bool true))
   (H : Type) (enc : TypeId × Value → H) (W : World) (base : Nat) (args : Array Value) (ds gs : List (DataW H)) (before : List MemPlace)
   (hval : ∀ (j : Nat) t v, fn.params[j]? = some t → args[j]? = some v → Value.okWide P W .any base t v) (hW : DataW.Whole enc P fn.params.toList s.vars apart W args.toList ds gs before)
   (hbig : (DataW.weightsEach P (fn.params.toList ++ s.plain.varTypes P) (ds ++ gs)).all (· ≤ reachBytes) = true) :
   Calls P f args W fun e W' => ∃ v, e = .returned v ∧ s.post enc P fn apart fresh handsOn again W args v W' := by
 obtain ⟨p, q, hT, hV, hps, hz, hn⟩ := id hW
 have hV' := hV
 rw [hs] at hV'
 obtain ⟨rfl, rfl⟩ := trodVars_none hV'
 obtain ⟨hl, x, hx, hok⟩ := hA H enc W base args.toList ds p (fun j t v a b => hval j t v (by simpa using a) (by simpa using b)) hT (fun q hq => by have := List.all_eq_true.1 hbig q (wt_left q hq); simpa using this)
 have hc := ((hC x hok).2 (fun b => W.heap[b]?) W args.toList hx (fun b o h => h)).calls (fun k d hd => by cases hd)
 rw [Array.toArray_toList] at hc
 refine hc.mono fun en W' hpost => ?_
 cases en with
 | panicked c => exact hpost.elim
 | outgrown => exact hpost.elim
 | returned v =>
   obtain ⟨h', ρ', hb, _, _, hv, _⟩ := hpost
   cases hv
   refine ⟨_, rfl, post_fresh (pa := p) (pv := []) hW (fun b sp hd => ?_) (fun sp hsp => ?_) (fun sp hsp => ?_) hps hb (fun j t r h1 h2 => ?_)⟩
   · rw [List.append_nil, hfn H ds hl, hr]
     exact ⟨[], [], shut_bool htb true, rfl, rfl⟩
   · rw [List.append_nil, hfn H ds hl]
     have hlt : ∀ y ∈ p, y.block < W.heap.size := fun y hy => hW.lt y (by rw [hps]; exact List.mem_append_left _ hy)
     exact TrodAll_carry (DataW.TrodAll.respare hkids hfull (fun t ht => by simpa using List.all_eq_true.1 hp t ht) hT (fun y hy => hsp y (by rw [hps]; exact List.mem_append_left _ hy))) (fun y hy => hb.same (hlt y hy))
   · rw [List.append_nil, hfn H ds hl, hs]
     rfl
   · rw [hr] at h1 h2
     have hj : j = 0 := by
       have := (Array.getElem?_eq_some_iff.1 h1).1
       simpa using this
     subst hj
     simp [Value.resultList] at h1 h2
     subst h1 h2
     simp [Value.okWide, htb, Cell.okWide, Cell.ok]
end Go.Av
end
/- Printed by gen.py. -/
section
set_option linter.all false
set_option linter.unusedVariables false
namespace Go.Sp
open Go.Av
structure Send where
 District : Int
 Many : Int
 deriving Inhabited, DecidableEq
structure Node where
 Test : Bool
 District : Int
 Minute : Int
 Limit : Int
 Yes : Int
 No : Int
 Maybe : Int
 Sends : (List Send)
 deriving Inhabited, DecidableEq
structure Range where
 Lo : Int
 Hi : Int
 deriving Inhabited, DecidableEq
structure Report where
 Source : Int
 District : Int
 Night : Int
 From : Int
 To : Int
 Sight : Range
 Known : Int
 Until : Int
 deriving Inhabited, DecidableEq
structure gasolierref05_At where
 District : Int
 Night : Int
 Moment : Int
 deriving Inhabited, DecidableEq
structure gasolierlaw05_Given where
 Leaf : Int
 Ids : (List Int)
 Districts : (List Int)
 deriving Inhabited, DecidableEq
structure Runner where
 Id : Int
 Districts : (List Int)
 deriving Inhabited, DecidableEq
structure fog_query where
 district : Int
 night : Int
 moment : Int
 minute : Int
 time : Range
 limit : Int
 deriving Inhabited, DecidableEq
structure gasolierref05_Time where
 Lo : Int
 Hi : Int
 Limit : Int
 deriving Inhabited, DecidableEq
structure fog_giver where
 runners : (List Runner)
 places : (List Int)
 of : (List Int)
 barred : (List Bool)
 deriving Inhabited, DecidableEq
structure gasolierref05_Town where
 Policy : (List Node)
 Runners : (List Runner)
 deriving Inhabited, DecidableEq
structure gasolierref05_Source where
 Source : Int
 Night : Int
 Moment : Int
 deriving Inhabited, DecidableEq
structure gasoliertop_Mist where
 Sights : (List Int)
 Reports : (List (Arr4 Int))
 Law : (Arr3 Int)
 Limit : Int
 deriving Inhabited, DecidableEq
structure Night where
 No : Int
 Set : Range
 Rise : Range
 Light : Range
 Fog : Int
 deriving Inhabited, DecidableEq
structure Version where
 Source : Int
 Class : Int
 From : Int
 On : Range
 Off : Range
 Moon : Int
 Fog : Int
 Known : Int
 Until : Int
 deriving Inhabited, DecidableEq
structure Street where
 Id : Int
 Class : Int
 District : Int
 First : Int
 Many : Int
 deriving Inhabited, DecidableEq
structure Bylaw where
 Versions : (List Version)
 Streets : (List Street)
 deriving Inhabited, DecidableEq
structure Truth where
 Set : Int
 Rise : Int
 Light : Int
 Fog : Bool
 deriving Inhabited, DecidableEq
structure Times where
 On : Int
 Off : Int
 deriving Inhabited, DecidableEq
structure Duty where
 Lit : Int
 On : Range
 Off : Range
 deriving Inhabited, DecidableEq
structure bylaw_window where
 v : Version
 n : Night
 deriving Inhabited, DecidableEq
def fog_within (p0 : Int) (p1 : Int) (p2 : Int) : Bool :=
 ((decide (p1 ≤ p0)) && (decide (p0 ≤ p2)))
def fog_isDistrict (p0 : Int) : Bool :=
 (fog_within p0 1 9)
def fog_areSends (p0 : (List Send)) : Option Bool :=
 (rangeGo (fun i1 (s1 : Unit) k1 => must ((((!((!(fog_isDistrict ((p0.getD i1 default).District))) || (!(fog_within ((p0.getD i1 default).Many) 1 20)))) && (decide (0 < (i1 : Int)))) = true → (inI ((i1 : Int) - 1)))) <| must ((((!((!(fog_isDistrict ((p0.getD i1 default).District))) || (!(fog_within ((p0.getD i1 default).Many) 1 20)))) && (decide (0 < (i1 : Int)))) = true → (0 ≤ (((i1 : Int) - 1) : Int) ∧ (((i1 : Int) - 1) : Int) < ((p0.length : Nat) : Int)))) <| (bif (((!(fog_isDistrict ((p0.getD i1 default).District))) || (!(fog_within ((p0.getD i1 default).Many) 1 20))) || ((decide (0 < (i1 : Int))) && (decide ((p0.getD i1 default).District ≤ (p0.getD (((i1 : Int) - 1)).toNat default).District)))) then some false else k1 ())) (fun (s1 : Unit) => some (decide (((p0.length : Nat) : Int) ≤ 9))) p0.length 0 ())
def fog_isMinute (p0 : Int) : Bool :=
 (fog_within p0 0 1439)
def fog_next (p0 : Node) : (Mp Int) :=
 ((((Mp.empty : Mp Int).set 1 p0.Yes).set 0 p0.No).set 2 p0.Maybe)
def fog_isNode (p0 : (List Node)) (p1 : Int) : Option Bool :=
 must (0 ≤ (p1 : Int) ∧ (p1 : Int) < ((p0.length : Nat) : Int)) <| (bif (!((p0.getD (p1).toNat default).Test)) then bindO ((bif ((((((decide ((p0.getD (p1).toNat default).District = 0)) && (decide ((p0.getD (p1).toNat default).Minute = 0))) && (decide ((p0.getD (p1).toNat default).Limit = 0))) && (decide ((p0.getD (p1).toNat default).Yes = 0))) && (decide ((p0.getD (p1).toNat default).No = 0))) && (decide ((p0.getD (p1).toNat default).Maybe = 0))) then fog_areSends ((p0.getD (p1).toNat default).Sends) else some default)) fun y3 => some (((((((decide ((p0.getD (p1).toNat default).District = 0)) && (decide ((p0.getD (p1).toNat default).Minute = 0))) && (decide ((p0.getD (p1).toNat default).Limit = 0))) && (decide ((p0.getD (p1).toNat default).Yes = 0))) && (decide ((p0.getD (p1).toNat default).No = 0))) && (decide ((p0.getD (p1).toNat default).Maybe = 0))) && y3) else (bif ((((!(fog_isDistrict ((p0.getD (p1).toNat default).District))) || (!(fog_isMinute ((p0.getD (p1).toNat default).Minute)))) || (!(fog_within ((p0.getD (p1).toNat default).Limit) 1 5000))) || (decide (0 < ((((p0.getD (p1).toNat default).Sends).length : Nat) : Int)))) then some false else must ((fog_next (p0.getD (p1).toNat default)).ok) <| bindO (mapAny (fun (q6 : Int) => must (inI (p1 + 1)) <| must (inI (((p0.length : Nat) : Int) - 1)) <| must (((!(!(fog_within (((fog_next (p0.getD (p1).toNat default)).get q6).getD default) (p1 + 1) (((p0.length : Nat) : Int) - 1)))) = true → (0 ≤ ((((fog_next (p0.getD (p1).toNat default)).get q6).getD default) : Int) ∧ ((((fog_next (p0.getD (p1).toNat default)).get q6).getD default) : Int) < ((p0.length : Nat) : Int)))) <| must ((((!(!(fog_within (((fog_next (p0.getD (p1).toNat default)).get q6).getD default) (p1 + 1) (((p0.length : Nat) : Int) - 1)))) && ((p0.getD ((((fog_next (p0.getD (p1).toNat default)).get q6).getD default)).toNat default).Test)) = true → (0 ≤ ((((fog_next (p0.getD (p1).toNat default)).get q6).getD default) : Int) ∧ ((((fog_next (p0.getD (p1).toNat default)).get q6).getD default) : Int) < ((p0.length : Nat) : Int)))) <| (bif ((!(fog_within (((fog_next (p0.getD (p1).toNat default)).get q6).getD default) (p1 + 1) (((p0.length : Nat) : Int) - 1))) || (((p0.getD ((((fog_next (p0.getD (p1).toNat default)).get q6).getD default)).toNat default).Test) && (decide ((p0.getD ((((fog_next (p0.getD (p1).toNat default)).get q6).getD default)).toNat default).Minute < (p0.getD (p1).toNat default).Minute)))) then some true else some false)) (fog_next (p0.getD (p1).toNat default)).keys) fun y6 => (bif y6 then some false else some true)))
def fog_CheckPolicy (p0 : (List Node)) : Option Int :=
 (bif (!(fog_within ((p0.length : Nat) : Int) 1 31)) then some 53 else (rangeGo (fun i2 (s2 : (Mp Bool)) k2 => (joinK (fun (k4 : (Mp Bool) → _) => bindO (fog_isNode p0 (i2 : Int)) fun y5 => (bif (!y5) then some 53 else (bif (!((p0.getD i2 default).Test)) then k4 s2 else (rangeGo (fun i9 (s9 : (Mp Bool)) k9 => (bif ((s9.get (([(p0.getD i2 default).Yes, (p0.getD i2 default).No, (p0.getD i2 default).Maybe] : List Int).getD i9 default)).getD default) then some 53 else k9 (s9.set (([(p0.getD i2 default).Yes, (p0.getD i2 default).No, (p0.getD i2 default).Maybe] : List Int).getD i9 default) true))) (fun (s9 : (Mp Bool)) => k4 s9) (([(p0.getD i2 default).Yes, (p0.getD i2 default).No, (p0.getD i2 default).Maybe] : List Int).length) 0 s2)))) (fun (s4 : (Mp Bool)) => k2 s4))) (fun (s2 : (Mp Bool)) => must (inI (((p0.length : Nat) : Int) - 1)) <| (bif (!decide (((s2.card : Nat) : Int) = (((p0.length : Nat) : Int) - 1))) then some 53 else some 0)) p0.length 0 (Mp.empty : Mp Bool)))
def fog_isNight (p0 : Int) : Bool :=
 (fog_within p0 0 100000)
def fog_isRange (p0 : Range) (p1 : Int) : Bool :=
 (((decide (0 ≤ p0.Lo)) && (decide (p0.Lo ≤ p0.Hi))) && (decide (p0.Hi ≤ p1)))
def fog_isMoment (p0 : Int) : Bool :=
 (fog_within p0 0 144001439)
def fog_CheckReport (p0 : Report) : Int :=
 (bif (((((((!(fog_within p0.Source 1 99999)) || (!(fog_isDistrict p0.District))) || (!(fog_isNight p0.Night))) || (!(fog_isRange (⟨p0.From, p0.To⟩ : Range) 1439))) || (!(fog_isRange p0.Sight 5000))) || (!(fog_isMoment p0.Known))) || ((!decide (p0.Until = 0)) && ((decide (p0.Until ≤ p0.Known)) || (!(fog_isMoment p0.Until))))) then 50 else 0)
def cmp_isNaN_int (p0 : Int) : Bool :=
 (!decide (p0 = p0))
def cmp_Compare_int (p0 : Int) (p1 : Int) : Int :=
 (bif (cmp_isNaN_int p0) then (bif (cmp_isNaN_int p1) then 0 else (-1)) else (bif (cmp_isNaN_int p1) then 1 else (bif (decide (p0 < p1)) then (-1) else (bif (decide (p1 < p0)) then 1 else 0))))
def fog_compare (p0 : Report) (p1 : Report) : Int :=
 (cmp_Compare_int p0.Source p1.Source)
def fog_Check (p0 : (List Report)) : Option Int :=
 (bif (decide (60 < ((p0.length : Nat) : Int))) then some 51 else (rangeGo (fun i2 (s2 : Unit) k2 => must ((((!(!decide ((fog_CheckReport (p0.getD i2 default)) = 0))) && (decide (0 < (i2 : Int)))) = true → (inI ((i2 : Int) - 1)))) <| must ((((!(!decide ((fog_CheckReport (p0.getD i2 default)) = 0))) && (decide (0 < (i2 : Int)))) = true → (0 ≤ (((i2 : Int) - 1) : Int) ∧ (((i2 : Int) - 1) : Int) < ((p0.length : Nat) : Int)))) <| (bif ((!decide ((fog_CheckReport (p0.getD i2 default)) = 0)) || ((decide (0 < (i2 : Int))) && (decide (0 ≤ (fog_compare (p0.getD (((i2 : Int) - 1)).toNat default) (p0.getD i2 default)))))) then some 51 else k2 ())) (fun (s2 : Unit) => some 0) p0.length 0 ()))
def fog_asked (p0 : (List Node)) (p1 : (List Report)) (p2 : Int) (p3 : Int) : Option Int :=
 bindO (fog_CheckPolicy p0) fun y1 => (bif (!decide (y1 = 0)) then some 53 else bindO (fog_Check p1) fun y4 => (bif (!decide (y4 = 0)) then some 51 else (bif ((!(fog_isNight p2)) || (!(fog_isMoment p3))) then some 6 else some 0)))
def fog_moment (p0 : Int) (p1 : Int) : Option Int :=
 must (inI (p0 * 1440)) <| must (inI ((p0 * 1440) + p1)) <| some ((p0 * 1440) + p1)
def slices_Clone_Report (p0 : (List Report)) : Option (List Report) :=
 must (room (([] : List Report) ++ p0).length 72) <| some (([] : List Report) ++ p0)
def slices_IndexFunc_Report (p0 : (List Report)) (p1 : Report → Option Bool) : Option Int :=
 (rangeGo (fun i1 (s1 : Unit) k1 => bindO (p1 (p0.getD i1 default)) fun y3 => (bif y3 then some (i1 : Int) else k1 ())) (fun (s1 : Unit) => some (-1)) p0.length 0 ())
def slices_DeleteFunc_Report (fuel : Nat) (p0 : (List Report)) (p1 : Report → Option Bool) : Option (List Report) :=
 bindO (slices_IndexFunc_Report p0 p1) fun y1 => (bif (decide (y1 = (-1))) then some p0 else must (inI (y1 + 1)) <| (loopGo (fun (s5 : Int × Int × (List Report)) k5 => (bif (decide (s5.2.1 < ((s5.2.2.length : Nat) : Int))) then must (0 ≤ (s5.2.1 : Int) ∧ (s5.2.1 : Int) < ((s5.2.2.length : Nat) : Int)) <| bindO (p1 (s5.2.2.getD (s5.2.1).toNat default)) fun y8 => (bif (!y8) then must (0 ≤ (s5.1 : Int) ∧ (s5.1 : Int) < ((s5.2.2.length : Nat) : Int)) <| must (inI (s5.1 + 1)) <| must (inI (s5.2.1 + 1)) <| k5 ((s5.1 + 1), (s5.2.1 + 1), (s5.2.2.set (s5.1).toNat (s5.2.2.getD (s5.2.1).toNat default))) else must (inI (s5.2.1 + 1)) <| k5 (s5.1, (s5.2.1 + 1), s5.2.2)) else must (0 < s5.2.2.length ∧ 0 ≤ (s5.1 : Int) ∧ (s5.1 : Int) ≤ ((s5.2.2.length : Nat) : Int)) <| must (0 < (copyAt s5.2.2 ((s5.1).toNat) (s5.2.2.length - (s5.1).toNat) (fun _ => (⟨0, 0, 0, 0, 0, (⟨0, 0⟩ : Range), 0, 0⟩ : Report))).length ∧ 0 ≤ (s5.1 : Int) ∧ (s5.1 : Int) ≤ (((copyAt s5.2.2 ((s5.1).toNat) (s5.2.2.length - (s5.1).toNat) (fun _ => (⟨0, 0, 0, 0, 0, (⟨0, 0⟩ : Range), 0, 0⟩ : Report))).length : Nat) : Int)) <| some ((copyAt s5.2.2 ((s5.1).toNat) (s5.2.2.length - (s5.1).toNat) (fun _ => (⟨0, 0, 0, 0, 0, (⟨0, 0⟩ : Range), 0, 0⟩ : Report))).take ((s5.1).toNat)))) fuel (y1, (y1 + 1), p0)))
def fog_counts (p0 : Report) (p1 : Int) : Bool :=
 ((decide (p0.Known ≤ p1)) && ((decide (p0.Until = 0)) || (decide (p1 < p0.Until))))
def fog_see_1 (p0 : Report) (c0 : Int) (c1 : Int) (c2 : Int) : Bool :=
 (((!decide (p0.District = c0)) || (!decide (p0.Night = c1))) || (!(fog_counts p0 c2)))
def fog_see (fuel : Nat) (p0 : (List Report)) (p1 : Int) (p2 : Int) (p3 : Int) : Option (List Report) :=
 bindO (slices_Clone_Report p0) fun y1 => bindO (slices_DeleteFunc_Report fuel y1 (fun x0 => some (fog_see_1 x0 p1 p2 p3))) fun y3 => some y3
def fog_clash (p0 : Report) (p1 : Report) : Bool :=
 (((decide (p0.From ≤ p1.To)) && (decide (p1.From ≤ p0.To))) && ((decide (p1.Sight.Hi < p0.Sight.Lo)) || (decide (p0.Sight.Hi < p1.Sight.Lo))))
def fog_view__pair (p0 : (List Report)) : Option ((List Int) × Bool) :=
 (rangeGo (fun i1 (s1 : Unit) k1 => must ((0 : Int) ≤ ((i1 : Int) + 1) ∧ (((i1 : Int) + 1) : Int) ≤ ((p0.length : Nat) : Int)) <| (rangeGo (fun i4 (s4 : Unit) k4 => (bif (fog_clash (p0.getD i1 default) ((p0.drop (((i1 : Int) + 1)).toNat).getD i4 default)) then some (([(p0.getD i1 default).Source, ((p0.drop (((i1 : Int) + 1)).toNat).getD i4 default).Source] : List Int), true) else k4 ())) (fun (s4 : Unit) => k1 ()) ((p0.drop (((i1 : Int) + 1)).toNat).length) 0 ())) (fun (s1 : Unit) => some ([], false)) p0.length 0 ())
def fog_view__of_1 (c0 : (List Report)) (c1 : Int) : Option (List (Report)) :=
 (rangeGo (fun i1 (s1 : Unit) k1 => emitIf (fog_within c1 ((c0.getD i1 default).From) ((c0.getD i1 default).To)) (c0.getD i1 default) <| k1 ()) (fun (s1 : Unit) => some []) c0.length 0 ())
def fog_view__sight (p0 : (List Report)) (p1 : Int) : Option Range :=
 bindO (fog_view__of_1 p0 p1) fun it1 => (listGo (fun (x1 : Report) (s2 : Range) k2 => k2 (⟨(max s2.Lo x1.Sight.Lo), (min s2.Hi x1.Sight.Hi)⟩ : Range)) (fun (s2 : Range) => some s2) it1 (⟨0, 5000⟩ : Range))
def fog_below (p0 : Range) (p1 : Int) : Int :=
 (bif (decide (p0.Hi < p1)) then 1 else (bif (decide (p1 ≤ p0.Lo)) then 0 else 2))
def fog_tell (fuel : Nat) (p0 : Node) (p1 : (List Report)) (p2 : Int) (p3 : Int) : Option Int :=
 bindO (fog_see fuel p1 p0.District p2 p3) fun y1 => bindO (fog_view__pair y1) fun y3 => (bif y3.2 then some 2 else bindO (fog_view__sight y1 p0.Minute) fun y6 => some (fog_below y6 p0.Limit))
def fog_path (fuel : Nat) (p0 : (List Node)) (p1 : (List Report)) (p2 : Int) : Option (List Int) :=
 (loopGo (fun (s1 : Int × (List Int)) k1 => must (0 ≤ (s1.1 : Int) ∧ (s1.1 : Int) < ((p0.length : Nat) : Int)) <| (bif (p0.getD (s1.1).toNat default).Test then must (0 ≤ (s1.1 : Int) ∧ (s1.1 : Int) < ((p0.length : Nat) : Int)) <| must (0 ≤ (s1.1 : Int) ∧ (s1.1 : Int) < ((p0.length : Nat) : Int)) <| must (0 ≤ (s1.1 : Int) ∧ (s1.1 : Int) < ((p0.length : Nat) : Int)) <| bindO (fog_moment p2 ((p0.getD (s1.1).toNat default).Minute)) fun y7 => bindO (fog_tell fuel (p0.getD (s1.1).toNat default) p1 p2 y7) fun y9 => must (room (s1.2 ++ ([(((fog_next (p0.getD (s1.1).toNat default)).get y9).getD default)] : List Int)).length 8) <| k1 ((((fog_next (p0.getD (s1.1).toNat default)).get y9).getD default), (s1.2 ++ ([(((fog_next (p0.getD (s1.1).toNat default)).get y9).getD default)] : List Int))) else some s1.2)) fuel (0, ([0] : List Int)))
def fog_Path (fuel : Nat) (p0 : (List Node)) (p1 : (List Report)) (p2 : Int) : Option ((List Int) × Int) :=
 bindO (fog_asked p0 p1 p2 0) fun y1 => (bif (!decide (y1 = 0)) then some ([], y1) else bindO (fog_path fuel p0 p1 p2) fun y4 => some (y4, 0))
def gasolierlaw05_reports  : (List Report) :=
 ([(⟨1, 1, 2, 300, 500, (⟨100, 400⟩ : Range), 3180, 0⟩ : Report), (⟨2, 1, 2, 400, 600, (⟨50, 150⟩ : Range), 3350, 0⟩ : Report), (⟨3, 1, 2, 450, 450, (⟨200, 300⟩ : Range), 3480, 0⟩ : Report)] : List Report)
def gasolierlaw05_policy  : (List Node) :=
 ([(⟨true, 1, 480, 200, 1, 2, 3, []⟩ : Node), (⟨false, 0, 0, 0, 0, 0, 0, ([(⟨1, 2⟩ : Send), (⟨2, 1⟩ : Send)] : List Send)⟩ : Node), (⟨false, 0, 0, 0, 0, 0, 0, []⟩ : Node), (⟨false, 0, 0, 0, 0, 0, 0, ([(⟨1, 1⟩ : Send)] : List Send)⟩ : Node)] : List Node)
def gasolierlaw05_runners  : (List Runner) :=
 ([(⟨10, ([1] : List Int)⟩ : Runner), (⟨11, ([1, 2] : List Int)⟩ : Runner), (⟨12, ([2] : List Int)⟩ : Runner)] : List Runner)
def fog_query__view (fuel : Nat) (p0 : fog_query) (p1 : (List Report)) : Option ((List Report) × Int) :=
 bindO (fog_Check p1) fun y1 => (bif (!decide (y1 = 0)) then some ([], 51) else (bif ((((!(fog_isDistrict p0.district)) || (!(fog_isMinute p0.minute))) || (!(fog_isRange p0.time 1439))) || (!(fog_within p0.limit 1 5000))) then some ([], 1) else (bif ((!(fog_isNight p0.night)) || (!(fog_isMoment p0.moment))) then some ([], 6) else bindO (fog_see fuel p1 p0.district p0.night p0.moment) fun y6 => some (y6, 0))))
def fog_query__clear (fuel : Nat) (p0 : fog_query) (p1 : (List Report)) : Option ((List Report) × Int) :=
 bindO (fog_query__view fuel p0 p1) fun y1 => (bif (!decide (y1.2 = 0)) then some ([], y1.2) else bindO (fog_view__pair y1.1) fun y4 => (bif y4.2 then some ([], 52) else some (y1.1, 0)))
def fog_Sight (fuel : Nat) (p0 : (List Report)) (p1 : Int) (p2 : Int) (p3 : Int) (p4 : Int) : Option (Range × Int) :=
 bindO (fog_query__clear fuel (⟨p1, p2, p4, p3, (⟨0, 0⟩ : Range), 1⟩ : fog_query) p0) fun y1 => (bif (!decide (y1.2 = 0)) then some ((⟨0, 0⟩ : Range), y1.2) else bindO (fog_view__sight y1.1 p3) fun y4 => some (y4, 0))
def fog_Below (fuel : Nat) (p0 : (List Report)) (p1 : Int) (p2 : Int) (p3 : Int) (p4 : Int) (p5 : Int) : Option (Int × Int) :=
 bindO (fog_query__clear fuel (⟨p1, p2, p5, p3, (⟨0, 0⟩ : Range), p4⟩ : fog_query) p0) fun y1 => (bif (!decide (y1.2 = 0)) then some (0, y1.2) else bindO (fog_view__sight y1.1 p3) fun y4 => some ((fog_below y4 p4), 0))
def fog_Clash (fuel : Nat) (p0 : (List Report)) (p1 : Int) (p2 : Int) (p3 : Int) : Option ((List Int) × Int) :=
 bindO (fog_query__view fuel (⟨p1, p2, p3, 0, (⟨0, 0⟩ : Range), 1⟩ : fog_query) p0) fun y1 => (bif (!decide (y1.2 = 0)) then some ([], y1.2) else bindO (fog_view__pair y1.1) fun y4 => (bif (!y4.2) then some ([], 3) else some (y4.1, 0)))
def fog_Worst (fuel : Nat) (p0 : (List Report)) (p1 : Int) (p2 : Int) (p3 : Range) (p4 : Int) : Option (Range × Int) :=
 bindO (fog_query__clear fuel (⟨p1, p2, p4, 0, p3, 1⟩ : fog_query) p0) fun y1 => (bif (!decide (y1.2 = 0)) then some ((⟨0, 0⟩ : Range), y1.2) else bindO (fog_view__sight y1.1 p3.Lo) fun y4 => must (inI (p3.Lo + 1)) <| (loopGo (fun (s7 : Int × Range) k7 => (bif (decide (s7.1 ≤ p3.Hi)) then bindO (fog_view__sight y1.1 s7.1) fun y9 => must (inI (s7.1 + 1)) <| k7 ((s7.1 + 1), (⟨(min s7.2.Lo y9.Lo), (min s7.2.Hi y9.Hi)⟩ : Range)) else some (s7.2, 0))) fuel ((p3.Lo + 1), y4)))
def fog_possible_1_l_F (fuel : Nat) (rec : Int → (List Node) → (List Int) → Int → (List Report) → Int → Option (List Int)) (p0 : Int) (c0 : (List Node)) (c1 : (List Int)) (c2 : Int) (c3 : (List Report)) (c4 : Int) : Option (List Int) :=
 must (0 ≤ (p0 : Int) ∧ (p0 : Int) < ((c0.length : Nat) : Int)) <| (bif (!((c0.getD (p0).toNat default).Test)) then must (room (c1 ++ ([p0] : List Int)).length 8) <| some (c1 ++ ([p0] : List Int)) else bindO (fog_moment c2 ((c0.getD (p0).toNat default).Minute)) fun y4 => bindO (fog_tell fuel (c0.getD (p0).toNat default) c3 c2 (min y4 c4)) fun y6 => (bif ((decide (c4 < y4)) && (decide (y6 = 2))) then (rangeGo (fun i9 (s9 : (List Int)) k9 => bindO (rec (([(c0.getD (p0).toNat default).Yes, (c0.getD (p0).toNat default).No, (c0.getD (p0).toNat default).Maybe] : List Int).getD i9 default) c0 s9 c2 c3 c4) fun y11 => k9 y11) (fun (s9 : (List Int)) => some s9) (([(c0.getD (p0).toNat default).Yes, (c0.getD (p0).toNat default).No, (c0.getD (p0).toNat default).Maybe] : List Int).length) 0 c1) else bindO (rec (((fog_next (c0.getD (p0).toNat default)).get y6).getD default) c0 c1 c2 c3 c4) fun y13 => some y13))
def fog_possible_1_l (fuel : Nat) : Nat → Int → (List Node) → (List Int) → Int → (List Report) → Int → Option (List Int)
 | 0 => fun _ _ _ _ _ _ => none
 | n + 1 => fog_possible_1_l_F fuel (fog_possible_1_l fuel n)
def fog_possible (fuel : Nat) (p0 : (List Node)) (p1 : (List Report)) (p2 : Int) (p3 : Int) : Option (List Int) :=
 bindO (fog_possible_1_l fuel fuel 0 p0 ([] : List Int) p2 p1 p3) fun y1 => bindO (slices_Sort_int_l y1) fun y3 => must (y3.length = y1.length) <| some y3
def fog_Possible (fuel : Nat) (p0 : (List Node)) (p1 : (List Report)) (p2 : Int) (p3 : Int) : Option ((List Int) × Int) :=
 bindO (fog_asked p0 p1 p2 p3) fun y1 => (bif (!decide (y1 = 0)) then some ([], y1) else bindO (fog_possible fuel p0 p1 p2 p3) fun y4 => some (y4, 0))
def fog_CheckRunners (p0 : (List Runner)) : Option Int :=
 (bif (decide (20 < ((p0.length : Nat) : Int))) then some 54 else (rangeGo (fun i2 (s2 : Unit) k2 => must ((((!(!(fog_within ((p0.getD i2 default).Id) 1 99))) && (decide (0 < (i2 : Int)))) = true → (inI ((i2 : Int) - 1)))) <| must ((((!(!(fog_within ((p0.getD i2 default).Id) 1 99))) && (decide (0 < (i2 : Int)))) = true → (0 ≤ (((i2 : Int) - 1) : Int) ∧ (((i2 : Int) - 1) : Int) < ((p0.length : Nat) : Int)))) <| (bif (((!(fog_within ((p0.getD i2 default).Id) 1 99)) || ((decide (0 < (i2 : Int))) && (decide ((p0.getD i2 default).Id ≤ (p0.getD (((i2 : Int) - 1)).toNat default).Id)))) || (!(fog_within ((((p0.getD i2 default).Districts).length : Nat) : Int) 1 9))) then some 54 else (rangeGo (fun i7 (s7 : Unit) k7 => must ((((!(!(fog_isDistrict (((p0.getD i2 default).Districts).getD i7 default)))) && (decide (0 < (i7 : Int)))) = true → (inI ((i7 : Int) - 1)))) <| must ((((!(!(fog_isDistrict (((p0.getD i2 default).Districts).getD i7 default)))) && (decide (0 < (i7 : Int)))) = true → (0 ≤ (((i7 : Int) - 1) : Int) ∧ (((i7 : Int) - 1) : Int) < ((((p0.getD i2 default).Districts).length : Nat) : Int)))) <| (bif ((!(fog_isDistrict (((p0.getD i2 default).Districts).getD i7 default))) || ((decide (0 < (i7 : Int))) && (decide ((((p0.getD i2 default).Districts).getD i7 default) ≤ (((p0.getD i2 default).Districts).getD (((i7 : Int) - 1)).toNat default))))) then some 54 else k7 ())) (fun (s7 : Unit) => k2 ()) (((p0.getD i2 default).Districts).length) 0 ()))) (fun (s2 : Unit) => some 0) p0.length 0 ()))
def fog_leaf (p0 : (List Node)) (p1 : (List Runner)) (p2 : Int) : Option (Node × Int) :=
 bindO (fog_CheckPolicy p0) fun y1 => (bif (!decide (y1 = 0)) then some ((⟨false, 0, 0, 0, 0, 0, 0, []⟩ : Node), 53) else bindO (fog_CheckRunners p1) fun y4 => (bif (!decide (y4 = 0)) then some ((⟨false, 0, 0, 0, 0, 0, 0, []⟩ : Node), 54) else must (inI (((p0.length : Nat) : Int) - 1)) <| must (((!(!(fog_within p2 0 (((p0.length : Nat) : Int) - 1)))) = true → (0 ≤ (p2 : Int) ∧ (p2 : Int) < ((p0.length : Nat) : Int)))) <| (bif ((!(fog_within p2 0 (((p0.length : Nat) : Int) - 1))) || ((p0.getD (p2).toNat default).Test)) then some ((⟨false, 0, 0, 0, 0, 0, 0, []⟩ : Node), 55) else must (0 ≤ (p2 : Int) ∧ (p2 : Int) < ((p0.length : Nat) : Int)) <| some ((p0.getD (p2).toNat default), 0))))
def fog_places (p0 : Node) : Option (List Int) :=
 (rangeGo (fun i1 (s1 : (List Int)) k1 => must (((p0.Sends.getD i1 default).Many).toNat ≤ 9223372036854775807) <| (rangeGo (fun i3 (s3 : (List Int)) k3 => must (room (s3 ++ ([(p0.Sends.getD i1 default).District] : List Int)).length 8) <| k3 (s3 ++ ([(p0.Sends.getD i1 default).District] : List Int))) (fun (s3 : (List Int)) => k1 s3) (((p0.Sends.getD i1 default).Many).toNat) 0 s1)) (fun (s1 : (List Int)) => some s1) p0.Sends.length 0 ([] : List Int))
def slices_Index_int (p0 : (List Int)) (p1 : Int) : Option Int :=
 (rangeGo (fun i1 (s1 : Unit) k1 => (bif (decide (p1 = (p0.getD i1 default))) then some (i1 : Int) else k1 ())) (fun (s1 : Unit) => some (-1)) p0.length 0 ())
def slices_Contains_int (p0 : (List Int)) (p1 : Int) : Option Bool :=
 bindO (slices_Index_int p0 p1) fun y1 => some (decide (0 ≤ y1))
def fog_giver__may (p0 : fog_giver) (p1 : Int) (p2 : Int) : Option Bool :=
 must (0 ≤ (p1 : Int) ∧ (p1 : Int) < ((p0.barred.length : Nat) : Int)) <| must (((!(p0.barred.getD (p1).toNat default)) = true → (0 ≤ (p1 : Int) ∧ (p1 : Int) < ((p0.runners.length : Nat) : Int)))) <| must (((!(p0.barred.getD (p1).toNat default)) = true → (0 ≤ (p2 : Int) ∧ (p2 : Int) < ((p0.places.length : Nat) : Int)))) <| bindO ((bif (!(p0.barred.getD (p1).toNat default)) then slices_Contains_int ((p0.runners.getD (p1).toNat default).Districts) (p0.places.getD (p2).toNat default) else some default)) fun y4 => some ((!(p0.barred.getD (p1).toNat default)) && y4)
def fog_giver__step_l_F (fuel : Nat) (rec : fog_giver → Int → (List Bool) → Option (Bool × fog_giver × (List Bool))) (p0 : fog_giver) (p1 : Int) (p2 : (List Bool)) : Option (Bool × fog_giver × (List Bool)) :=
 must (p0.runners.length ≤ 9223372036854775807) <| (rangeGo (fun i1 (s1 : (List Int) × (List Bool) × (List Bool) × (List Runner) × (List Int)) k1 => (joinK (fun (k3 : (List Runner) × (List Int) × (List Int) × (List Bool) × (List Bool) → _) => must (0 ≤ ((i1 : Int) : Int) ∧ ((i1 : Int) : Int) < ((s1.2.2.1.length : Nat) : Int)) <| bindO ((bif (!(s1.2.2.1.getD i1 default)) then fog_giver__may (⟨s1.2.2.2.1, s1.2.2.2.2, s1.1, s1.2.1⟩ : fog_giver) (i1 : Int) p1 else some default)) fun y5 => (bif ((s1.2.2.1.getD i1 default) || (!y5)) then k3 (s1.2.2.2.1, s1.2.2.2.2, s1.1, s1.2.1, s1.2.2.1) else must (0 ≤ ((i1 : Int) : Int) ∧ ((i1 : Int) : Int) < ((s1.2.2.1.length : Nat) : Int)) <| must (0 ≤ ((i1 : Int) : Int) ∧ ((i1 : Int) : Int) < ((s1.1.length : Nat) : Int)) <| must (((!(decide ((s1.1.getD i1 default) < 0))) = true → (0 ≤ ((i1 : Int) : Int) ∧ ((i1 : Int) : Int) < ((s1.1.length : Nat) : Int)))) <| bindO ((bif (!(decide ((s1.1.getD i1 default) < 0))) then rec (⟨s1.2.2.2.1, s1.2.2.2.2, s1.1, s1.2.1⟩ : fog_giver) (s1.1.getD i1 default) (s1.2.2.1.set i1 true) else some (default, (⟨s1.2.2.2.1, s1.2.2.2.2, s1.1, s1.2.1⟩ : fog_giver), (s1.2.2.1.set i1 true)))) fun y11 => must (y11.2.1.of.length = s1.1.length) <| must (y11.2.2.length = (s1.2.2.1.set i1 true).length) <| (bif ((decide ((s1.1.getD i1 default) < 0)) || y11.1) then must (0 ≤ ((i1 : Int) : Int) ∧ ((i1 : Int) : Int) < ((y11.2.1.of.length : Nat) : Int)) <| some (true, (⟨y11.2.1.runners, y11.2.1.places, (y11.2.1.of.set i1 p1), y11.2.1.barred⟩ : fog_giver), y11.2.2) else k3 (y11.2.1.runners, y11.2.1.places, y11.2.1.of, y11.2.1.barred, y11.2.2)))) (fun (s3 : (List Runner) × (List Int) × (List Int) × (List Bool) × (List Bool)) => k1 (s3.2.2.1, s3.2.2.2.1, s3.2.2.2.2, s3.1, s3.2.1)))) (fun (s1 : (List Int) × (List Bool) × (List Bool) × (List Runner) × (List Int)) => some (false, (⟨s1.2.2.2.1, s1.2.2.2.2, s1.1, s1.2.1⟩ : fog_giver), s1.2.2.1)) p0.runners.length 0 (p0.of, p0.barred, p2, p0.runners, p0.places))
def fog_giver__step_l (fuel : Nat) : Nat → fog_giver → Int → (List Bool) → Option (Bool × fog_giver × (List Bool))
 | 0 => fun _ _ _ => none
 | n + 1 => fog_giver__step_l_F fuel (fog_giver__step_l fuel n)
def fog_giver__full_l (fuel : Nat) (p0 : fog_giver) (p1 : Int) : Option (Bool × fog_giver) :=
 must (p0.of.length ≤ 9223372036854775807) <| (rangeGo (fun i1 (s1 : (List Int)) k1 => must (0 ≤ ((i1 : Int) : Int) ∧ ((i1 : Int) : Int) < ((s1.length : Nat) : Int)) <| k1 (s1.set i1 (-1))) (fun (s1 : (List Int)) => (loopGo (fun (s4 : Int × (List Int) × (List Bool) × (List Runner) × (List Int)) k4 => (bif (decide (s4.1 < ((s4.2.2.2.2.length : Nat) : Int))) then must (0 ≤ (((s4.2.2.2.1.length : Nat) : Int) : Int) ∧ (((s4.2.2.2.1.length : Nat) : Int) : Int) ≤ ((s4.2.2.2.1.length : Nat) : Int) ∧ room (((s4.2.2.2.1.length : Nat) : Int) : Int).toNat 1) <| bindO (fog_giver__step_l fuel fuel (⟨s4.2.2.2.1, s4.2.2.2.2, s4.2.1, s4.2.2.1⟩ : fog_giver) s4.1 (List.replicate (((s4.2.2.2.1.length : Nat) : Int)).toNat (false : Bool))) fun y7 => (bif (!y7.1) then some (false, y7.2.1) else must (inI (s4.1 + 1)) <| k4 ((s4.1 + 1), y7.2.1.of, y7.2.1.barred, y7.2.1.runners, y7.2.1.places)) else some (true, (⟨s4.2.2.2.1, s4.2.2.2.2, s4.2.1, s4.2.2.1⟩ : fog_giver)))) fuel (p1, s1, p0.barred, p0.runners, p0.places))) p0.of.length 0 p0.of)
def fog_give (fuel : Nat) (p0 : Node) (p1 : (List Runner)) : Option ((List Int) × Bool) :=
 bindO (fog_places p0) fun y1 => must (0 ≤ (((p1.length : Nat) : Int) : Int) ∧ (((p1.length : Nat) : Int) : Int) ≤ ((p1.length : Nat) : Int) ∧ room (((p1.length : Nat) : Int) : Int).toNat 8) <| must (0 ≤ (((p1.length : Nat) : Int) : Int) ∧ (((p1.length : Nat) : Int) : Int) ≤ ((p1.length : Nat) : Int) ∧ room (((p1.length : Nat) : Int) : Int).toNat 1) <| bindO (fog_giver__full_l fuel (⟨p1, y1, (List.replicate (((p1.length : Nat) : Int)).toNat (0 : Int)), (List.replicate (((p1.length : Nat) : Int)).toNat (false : Bool))⟩ : fog_giver) 0) fun y5 => (bif (!y5.1) then some ([], false) else must (y5.2.places.length ≤ 9223372036854775807) <| (rangeGo (fun i8 (s8 : (List Int) × (List Bool) × (List Int) × (List Runner) × (List Int)) k8 => (joinK (fun (k10 : (List Int) × (List Bool) × (List Runner) × (List Int) × (List Int) → _) => (rangeGo (fun i11 (s11 : (List Int) × (List Bool) × (List Runner) × (List Int)) k11 => (joinK (fun (k13 : (List Int) × (List Bool) × (List Runner) × (List Int) → _) => bindO (fog_giver__may (⟨s11.2.2.1, s11.2.2.2, s11.1, s11.2.1⟩ : fog_giver) (i11 : Int) (i8 : Int)) fun y14 => (bif (!y14) then k13 (s11.1, s11.2.1, s11.2.2.1, s11.2.2.2) else must (0 ≤ ((i11 : Int) : Int) ∧ ((i11 : Int) : Int) < ((s11.2.1.length : Nat) : Int)) <| bindO (fog_giver__full_l fuel (⟨s11.2.2.1, s11.2.2.2, s11.1, (s11.2.1.set i11 true)⟩ : fog_giver) ((i8 : Int) + 1)) fun y18 => (bif y18.1 then must (room (s8.2.2.1 ++ ([(p1.getD i11 default).Id] : List Int)).length 8) <| k10 (y18.2.of, y18.2.barred, y18.2.runners, y18.2.places, (s8.2.2.1 ++ ([(p1.getD i11 default).Id] : List Int))) else must (0 ≤ ((i11 : Int) : Int) ∧ ((i11 : Int) : Int) < ((y18.2.barred.length : Nat) : Int)) <| k13 (y18.2.of, (y18.2.barred.set i11 false), y18.2.runners, y18.2.places)))) (fun (s13 : (List Int) × (List Bool) × (List Runner) × (List Int)) => k11 (s13.1, s13.2.1, s13.2.2.1, s13.2.2.2)))) (fun (s11 : (List Int) × (List Bool) × (List Runner) × (List Int)) => k10 (s11.1, s11.2.1, s11.2.2.1, s11.2.2.2, s8.2.2.1)) p1.length 0 (s8.1, s8.2.1, s8.2.2.2.1, s8.2.2.2.2))) (fun (s10 : (List Int) × (List Bool) × (List Runner) × (List Int) × (List Int)) => k8 (s10.1, s10.2.1, s10.2.2.2.2, s10.2.2.1, s10.2.2.2.1)))) (fun (s8 : (List Int) × (List Bool) × (List Int) × (List Runner) × (List Int)) => some (s8.2.2.1, true)) y5.2.places.length 0 (y5.2.of, y5.2.barred, ([] : List Int), y5.2.runners, y5.2.places)))
def fog_Assign (fuel : Nat) (p0 : (List Node)) (p1 : (List Runner)) (p2 : Int) : Option ((List Int) × Int) :=
 bindO (fog_leaf p0 p1 p2) fun y1 => (bif (!decide (y1.2 = 0)) then some ([], y1.2) else bindO (fog_give fuel y1.1 p1) fun y4 => (bif (!y4.2) then some ([], 57) else some (y4.1, 0)))
def fog_sum (p0 : (List Int)) : Option Int :=
 (rangeGo (fun i1 (s1 : Int) k1 => must (inI (s1 + (p0.getD i1 default))) <| k1 (s1 + (p0.getD i1 default))) (fun (s1 : Int) => some s1) p0.length 0 0)
def slices_IndexFunc_int (p0 : (List Int)) (p1 : Int → Option Bool) : Option Int :=
 (rangeGo (fun i1 (s1 : Unit) k1 => bindO (p1 (p0.getD i1 default)) fun y3 => (bif y3 then some (i1 : Int) else k1 ())) (fun (s1 : Unit) => some (-1)) p0.length 0 ())
def slices_ContainsFunc_int (p0 : (List Int)) (p1 : Int → Option Bool) : Option Bool :=
 bindO (slices_IndexFunc_int p0 p1) fun y1 => some (decide (0 ≤ y1))
def fog_few_1 (p0 : Int) (c0 : (List Int)) : Option Bool :=
 bindO (slices_Contains_int c0 p0) fun y1 => some y1
def fog_few (p0 : Node) (p1 : (List Runner)) (p2 : (List Int)) : Option Bool :=
 (rangeGo (fun i1 (s1 : Int) k1 => bindO (slices_Contains_int p2 ((p0.Sends.getD i1 default).District)) fun y3 => (bif y3 then bindO (fog_sum ([s1, (p0.Sends.getD i1 default).Many] : List Int)) fun y6 => k1 y6 else k1 s1)) (fun (s1 : Int) => (rangeGo (fun i8 (s8 : Int) k8 => bindO (slices_ContainsFunc_int ((p1.getD i8 default).Districts) (fun x0 => fog_few_1 x0 p2)) fun y10 => (bif y10 then must (inI (s8 + 1)) <| k8 (s8 + 1) else k8 s8)) (fun (s8 : Int) => some (decide (s8 < s1))) p1.length 0 0)) p0.Sends.length 0 0)
def fog_some (p0 : Node) (p1 : (List Runner)) (p2 : (List Int)) : Option Bool :=
 must (0 ≤ (((p2.length : Nat) : Int) : Int) ∧ (((p2.length : Nat) : Int) : Int) < 64 ∧ inI ((1 : Int) * 2 ^ (((p2.length : Nat) : Int) : Int).toNat)) <| must ((((1 : Int) * 2 ^ (((p2.length : Nat) : Int) : Int).toNat)).toNat ≤ 9223372036854775807) <| (rangeGo (fun i2 (s2 : Unit) k2 => (rangeGo (fun i4 (s4 : (List Int)) k4 => must (0 ≤ ((i4 : Int) : Int) ∧ ((i4 : Int) : Int) < 64) <| must (0 ≤ ((Int.fdiv (i2 : Int) (2 ^ ((i4 : Int) : Int).toNat)) : Int) ∧ 0 ≤ (1 : Int) ∧ inI (Int.fdiv (i2 : Int) (2 ^ ((i4 : Int) : Int).toNat)) ∧ inI 1) <| (bif (decide (((((Int.fdiv (i2 : Int) (2 ^ ((i4 : Int) : Int).toNat)) : Int).toNat &&& (1 : Int).toNat : Nat) : Int) = 1)) then must (room (s4 ++ ([(p2.getD i4 default)] : List Int)).length 8) <| k4 (s4 ++ ([(p2.getD i4 default)] : List Int)) else k4 s4)) (fun (s4 : (List Int)) => bindO (fog_few p0 p1 s4) fun y10 => (bif y10 then some true else k2 ())) p2.length 0 ([] : List Int))) (fun (s2 : Unit) => some false) ((((1 : Int) * 2 ^ (((p2.length : Nat) : Int) : Int).toNat)).toNat) 0 ())
def slices_Clone_int (p0 : (List Int)) : Option (List Int) :=
 must (room (([] : List Int) ++ p0).length 8) <| some (([] : List Int) ++ p0)
def slices_Delete_int (p0 : (List Int)) (p1 : Int) (p2 : Int) : Option (List Int) :=
 must (0 ≤ (p1 : Int) ∧ (p1 : Int) ≤ p2 ∧ (p2 : Int) ≤ ((p0.length : Nat) : Int) ∧ (((p0.length : Nat) : Int) : Int) ≤ ((p0.length : Nat) : Int)) <| (bif (decide (p1 = p2)) then some p0 else must (0 < p0.length ∧ 0 ≤ (p1 : Int) ∧ (p1 : Int) ≤ ((p0.length : Nat) : Int)) <| must (0 < p0.length ∧ 0 ≤ (p2 : Int) ∧ (p2 : Int) ≤ ((p0.length : Nat) : Int)) <| must ((p1).toNat ≤ (p2).toNat) <| must (0 ≤ ((((p0.take ((p1).toNat) ++ p0.drop ((p2).toNat)).length : Nat) : Int) : Int) ∧ ((((p0.take ((p1).toNat) ++ p0.drop ((p2).toNat)).length : Nat) : Int) : Int) ≤ ((p0.length : Nat) : Int) ∧ (((p0.length : Nat) : Int) : Int) ≤ ((p0.length : Nat) : Int)) <| some (p0.take ((p1).toNat) ++ p0.drop ((p2).toNat)))
def fog_Short (fuel : Nat) (p0 : (List Node)) (p1 : (List Runner)) (p2 : Int) : Option ((List Int) × Int) :=
 bindO (fog_leaf p0 p1 p2) fun y1 => (bif (!decide (y1.2 = 0)) then some ([], y1.2) else (rangeGo (fun i4 (s4 : (List Int)) k4 => must (room (s4 ++ ([(y1.1.Sends.getD i4 default).District] : List Int)).length 8) <| k4 (s4 ++ ([(y1.1.Sends.getD i4 default).District] : List Int))) (fun (s4 : (List Int)) => bindO (fog_some y1.1 p1 s4) fun y7 => (bif (!y7) then some ([], 58) else must (inI (((s4.length : Nat) : Int) - 1)) <| (loopGo (fun (s11 : Int × (List Int)) k11 => (bif (decide (0 ≤ s11.1)) then bindO (slices_Clone_int s11.2) fun y13 => must (inI (s11.1 + 1)) <| bindO (slices_Delete_int y13 s11.1 (s11.1 + 1)) fun y16 => bindO (fog_some y1.1 p1 y16) fun y18 => (bif y18 then must (inI (s11.1 - 1)) <| k11 ((s11.1 - 1), y16) else must (inI (s11.1 - 1)) <| k11 ((s11.1 - 1), s11.2)) else some (s11.2, 0))) fuel ((((s4.length : Nat) : Int) - 1), s4)))) y1.1.Sends.length 0 ([] : List Int)))
def fog_Moved_1 (p0 : Report) (c0 : Int) : Bool :=
 (decide (p0.Source = c0))
def slices_Delete_Report (p0 : (List Report)) (p1 : Int) (p2 : Int) : Option (List Report) :=
 must (0 ≤ (p1 : Int) ∧ (p1 : Int) ≤ p2 ∧ (p2 : Int) ≤ ((p0.length : Nat) : Int) ∧ (((p0.length : Nat) : Int) : Int) ≤ ((p0.length : Nat) : Int)) <| (bif (decide (p1 = p2)) then some p0 else must (0 < p0.length ∧ 0 ≤ (p1 : Int) ∧ (p1 : Int) ≤ ((p0.length : Nat) : Int)) <| must (0 < p0.length ∧ 0 ≤ (p2 : Int) ∧ (p2 : Int) ≤ ((p0.length : Nat) : Int)) <| must ((p1).toNat ≤ (p2).toNat) <| must (0 ≤ ((((p0.take ((p1).toNat) ++ p0.drop ((p2).toNat)).length : Nat) : Int) : Int) ∧ ((((p0.take ((p1).toNat) ++ p0.drop ((p2).toNat)).length : Nat) : Int) : Int) ≤ ((p0.length : Nat) : Int) ∧ (((p0.length : Nat) : Int) : Int) ≤ ((p0.length : Nat) : Int)) <| some (p0.take ((p1).toNat) ++ p0.drop ((p2).toNat)))
def fog_Moved (fuel : Nat) (p0 : (List Node)) (p1 : (List Report)) (p2 : Int) (p3 : Int) (p4 : Int) : Option (Bool × (List Int) × Int) :=
 bindO (fog_asked p0 p1 p3 p4) fun y1 => (bif (!decide (y1 = 0)) then some (false, [], y1) else bindO (slices_IndexFunc_Report p1 (fun x0 => some (fog_Moved_1 x0 p2))) fun y4 => (bif (decide (y4 < 0)) then some (false, [], 3) else bindO (slices_Clone_Report p1) fun y7 => must (inI (y4 + 1)) <| bindO (slices_Delete_Report y7 y4 (y4 + 1)) fun y10 => bindO (fog_path fuel p0 p1 p3) fun y12 => bindO (fog_path fuel p0 y10 p3) fun y14 => must (0 ≤ (y4 : Int) ∧ (y4 : Int) < ((p1.length : Nat) : Int)) <| bindO (fog_see fuel p1 ((p1.getD (y4).toNat default).District) p3 p4) fun y17 => must (0 ≤ (y4 : Int) ∧ (y4 : Int) < ((p1.length : Nat) : Int)) <| bindO (fog_see fuel y10 ((p1.getD (y4).toNat default).District) p3 p4) fun y20 => bindO (fog_view__pair y17) fun y22 => bindO (fog_view__pair y20) fun y24 => (rangeGo (fun i26 (s26 : (List Int)) k26 => bindO ((bif ((!(!(y22.2 == y24.2))) && (!y22.2)) then fog_view__sight y17 (i26 : Int) else some default)) fun y28 => bindO ((bif ((!(!(y22.2 == y24.2))) && (!y22.2)) then fog_view__sight y20 (i26 : Int) else some default)) fun y30 => (bif ((!(y22.2 == y24.2)) || ((!y22.2) && (!((decide (y28.Lo = y30.Lo)) && (decide (y28.Hi = y30.Hi)))))) then must (room (s26 ++ ([(i26 : Int)] : List Int)).length 8) <| k26 (s26 ++ ([(i26 : Int)] : List Int)) else k26 s26)) (fun (s26 : (List Int)) => must (inI (((y12.length : Nat) : Int) - 1)) <| must (0 ≤ ((((y12.length : Nat) : Int) - 1) : Int) ∧ ((((y12.length : Nat) : Int) - 1) : Int) < ((y12.length : Nat) : Int)) <| must (inI (((y14.length : Nat) : Int) - 1)) <| must (0 ≤ ((((y14.length : Nat) : Int) - 1) : Int) ∧ ((((y14.length : Nat) : Int) - 1) : Int) < ((y14.length : Nat) : Int)) <| some ((!decide ((y12.getD ((((y12.length : Nat) : Int) - 1)).toNat default) = (y14.getD ((((y14.length : Nat) : Int) - 1)).toNat default))), s26, 0)) 1440 0 ([] : List Int))))
def gasolierref05_Same (fuel : Nat) (p0 : (List Int)) (p1 : (List Int)) : Option Bool :=
 (bif (!decide (((p0.length : Nat) : Int) = ((p1.length : Nat) : Int))) then some false else (loopGo (fun (s2 : Int) k2 => (bif (decide (s2 < ((p0.length : Nat) : Int))) then must (0 ≤ (s2 : Int) ∧ (s2 : Int) < ((p0.length : Nat) : Int)) <| must (0 ≤ (s2 : Int) ∧ (s2 : Int) < ((p1.length : Nat) : Int)) <| (bif (!decide ((p0.getD (s2).toNat default) = (p1.getD (s2).toNat default))) then some false else must (inI (s2 + 1)) <| k2 (s2 + 1)) else some true)) fuel 0))
def gasolierlaw05_sane (fuel : Nat) : Option Bool :=
 must (0 ≤ (0 : Int) ∧ (0 : Int) < (((gasolierlaw05_runners).length : Nat) : Int)) <| must (0 ≤ (2 : Int) ∧ (2 : Int) < (((gasolierlaw05_runners).length : Nat) : Int)) <| bindO (fog_Sight fuel (gasolierlaw05_reports) 1 2 450 3400) fun y3 => bindO (fog_Below fuel (gasolierlaw05_reports) 1 2 450 200 3300) fun y5 => bindO (fog_Clash fuel (gasolierlaw05_reports) 1 2 3500) fun y7 => bindO (fog_Worst fuel (gasolierlaw05_reports) 1 2 (⟨300, 600⟩ : Range) 3400) fun y9 => bindO (fog_Path fuel (gasolierlaw05_policy) (gasolierlaw05_reports) 2) fun y11 => bindO (fog_Possible fuel (gasolierlaw05_policy) (gasolierlaw05_reports) 2 3300) fun y13 => bindO (fog_Assign fuel (gasolierlaw05_policy) (gasolierlaw05_runners) 1) fun y15 => bindO (fog_Short fuel (gasolierlaw05_policy) ([((gasolierlaw05_runners).getD 0 default), ((gasolierlaw05_runners).getD 2 default)] : List Runner) 1) fun y17 => bindO (fog_Moved fuel (gasolierlaw05_policy) (gasolierlaw05_reports) 2 2 3400) fun y19 => bindO ((bif (((decide (y3.1.Lo = 100)) && (decide (y3.1.Hi = 150))) && (decide (y5.1 = 2))) then gasolierref05_Same fuel y7.1 ([2, 3] : List Int) else some default)) fun y21 => bindO ((bif (((((decide (y3.1.Lo = 100)) && (decide (y3.1.Hi = 150))) && (decide (y5.1 = 2))) && y21) && ((decide (y9.1.Lo = 50)) && (decide (y9.1.Hi = 150)))) then gasolierref05_Same fuel y11.1 ([0, 1] : List Int) else some default)) fun y23 => bindO ((bif ((((((((((decide (y3.2 = 0)) && (decide (y5.2 = 0))) && (decide (y7.2 = 0))) && (decide (y9.2 = 0))) && (decide (y11.2 = 0))) && (decide (y13.2 = 0))) && (decide (y15.2 = 0))) && (decide (y17.2 = 0))) && (decide (y19.2.2 = 0))) && ((((((decide (y3.1.Lo = 100)) && (decide (y3.1.Hi = 150))) && (decide (y5.1 = 2))) && y21) && ((decide (y9.1.Lo = 50)) && (decide (y9.1.Hi = 150)))) && y23)) then gasolierref05_Same fuel y13.1 ([1, 2, 3] : List Int) else some default)) fun y25 => bindO ((bif (((((((((((decide (y3.2 = 0)) && (decide (y5.2 = 0))) && (decide (y7.2 = 0))) && (decide (y9.2 = 0))) && (decide (y11.2 = 0))) && (decide (y13.2 = 0))) && (decide (y15.2 = 0))) && (decide (y17.2 = 0))) && (decide (y19.2.2 = 0))) && ((((((decide (y3.1.Lo = 100)) && (decide (y3.1.Hi = 150))) && (decide (y5.1 = 2))) && y21) && ((decide (y9.1.Lo = 50)) && (decide (y9.1.Hi = 150)))) && y23)) && y25) then gasolierref05_Same fuel y15.1 ([10, 11, 12] : List Int) else some default)) fun y27 => bindO ((bif ((((((((((((decide (y3.2 = 0)) && (decide (y5.2 = 0))) && (decide (y7.2 = 0))) && (decide (y9.2 = 0))) && (decide (y11.2 = 0))) && (decide (y13.2 = 0))) && (decide (y15.2 = 0))) && (decide (y17.2 = 0))) && (decide (y19.2.2 = 0))) && ((((((decide (y3.1.Lo = 100)) && (decide (y3.1.Hi = 150))) && (decide (y5.1 = 2))) && y21) && ((decide (y9.1.Lo = 50)) && (decide (y9.1.Hi = 150)))) && y23)) && y25) && y27) then gasolierref05_Same fuel y17.1 ([1] : List Int) else some default)) fun y29 => must (((((((((((((((((decide (y3.2 = 0)) && (decide (y5.2 = 0))) && (decide (y7.2 = 0))) && (decide (y9.2 = 0))) && (decide (y11.2 = 0))) && (decide (y13.2 = 0))) && (decide (y15.2 = 0))) && (decide (y17.2 = 0))) && (decide (y19.2.2 = 0))) && ((((((decide (y3.1.Lo = 100)) && (decide (y3.1.Hi = 150))) && (decide (y5.1 = 2))) && y21) && ((decide (y9.1.Lo = 50)) && (decide (y9.1.Hi = 150)))) && y23)) && y25) && y27) && y29) && y19.1) && (decide (((y19.2.1.length : Nat) : Int) = 201))) = true → (0 ≤ (0 : Int) ∧ (0 : Int) < ((y19.2.1.length : Nat) : Int)))) <| some ((((((((((((((((decide (y3.2 = 0)) && (decide (y5.2 = 0))) && (decide (y7.2 = 0))) && (decide (y9.2 = 0))) && (decide (y11.2 = 0))) && (decide (y13.2 = 0))) && (decide (y15.2 = 0))) && (decide (y17.2 = 0))) && (decide (y19.2.2 = 0))) && ((((((decide (y3.1.Lo = 100)) && (decide (y3.1.Hi = 150))) && (decide (y5.1 = 2))) && y21) && ((decide (y9.1.Lo = 50)) && (decide (y9.1.Hi = 150)))) && y23)) && y25) && y27) && y29) && y19.1) && (decide (((y19.2.1.length : Nat) : Int) = 201))) && (decide ((y19.2.1.getD 0 default) = 400)))
def gasolierref05_Has (fuel : Nat) (p0 : (List Int)) (p1 : Int) : Option Bool :=
 (loopGo (fun (s1 : Int) k1 => (bif (decide (s1 < ((p0.length : Nat) : Int))) then must (0 ≤ (s1 : Int) ∧ (s1 : Int) < ((p0.length : Nat) : Int)) <| (bif (decide ((p0.getD (s1).toNat default) = p1)) then some true else must (inI (s1 + 1)) <| k1 (s1 + 1)) else some false)) fuel 0)
def fog_Kept (fuel : Nat) (p0 : (List Node)) (p1 : (List Runner)) (p2 : (List Report)) (p3 : Int) (p4 : Int) : Option (Bool × Int) :=
 bindO (fog_CheckPolicy p0) fun y1 => (bif (!decide (y1 = 0)) then some (false, 53) else bindO (fog_CheckRunners p1) fun y4 => (bif (!decide (y4 = 0)) then some (false, 54) else bindO (fog_asked p0 p2 p3 p4) fun y7 => (bif (!decide (y7 = 0)) then some (false, y7) else bindO (fog_possible fuel p0 p2 p3 p4) fun y10 => (rangeGo (fun i12 (s12 : Unit) k12 => must (0 ≤ ((y10.getD i12 default) : Int) ∧ ((y10.getD i12 default) : Int) < ((p0.length : Nat) : Int)) <| bindO (fog_give fuel (p0.getD ((y10.getD i12 default)).toNat default) p1) fun y15 => (bif (!y15.2) then some (false, 0) else k12 ())) (fun (s12 : Unit) => some (true, 0)) y10.length 0 ()))))
def gasolierref05_In (p0 : Int) (p1 : Int) (p2 : Int) : Bool :=
 ((decide (p1 ≤ p0)) && (decide (p0 ≤ p2)))
def gasolierref05_isMoment (p0 : Int) : Bool :=
 (gasolierref05_In p0 0 144001439)
def gasolierref05_CheckReport (p0 : Report) : Int :=
 (bif (((((!(((gasolierref05_In p0.Source 1 99999) && (gasolierref05_In p0.District 1 9)) && (gasolierref05_In p0.Night 0 100000))) || (!(((decide (0 ≤ p0.From)) && (decide (p0.From ≤ p0.To))) && (decide (p0.To ≤ 1439))))) || (!(((decide (0 ≤ p0.Sight.Lo)) && (decide (p0.Sight.Lo ≤ p0.Sight.Hi))) && (decide (p0.Sight.Hi ≤ 5000))))) || (!(gasolierref05_isMoment p0.Known))) || ((!decide (p0.Until = 0)) && ((decide (p0.Until ≤ p0.Known)) || (!(gasolierref05_isMoment p0.Until))))) then 50 else 0)
def gasolierref05_Check (fuel : Nat) (p0 : (List Report)) : Option Int :=
 (bif (decide (60 < ((p0.length : Nat) : Int))) then some 51 else (loopGo (fun (s2 : Int) k2 => (bif (decide (s2 < ((p0.length : Nat) : Int))) then must (0 ≤ (s2 : Int) ∧ (s2 : Int) < ((p0.length : Nat) : Int)) <| must ((((!(!decide ((gasolierref05_CheckReport (p0.getD (s2).toNat default)) = 0))) && (decide (0 < s2))) = true → (inI (s2 - 1)))) <| must ((((!(!decide ((gasolierref05_CheckReport (p0.getD (s2).toNat default)) = 0))) && (decide (0 < s2))) = true → (0 ≤ ((s2 - 1) : Int) ∧ ((s2 - 1) : Int) < ((p0.length : Nat) : Int)))) <| must ((((!(!decide ((gasolierref05_CheckReport (p0.getD (s2).toNat default)) = 0))) && (decide (0 < s2))) = true → (0 ≤ (s2 : Int) ∧ (s2 : Int) < ((p0.length : Nat) : Int)))) <| (bif ((!decide ((gasolierref05_CheckReport (p0.getD (s2).toNat default)) = 0)) || ((decide (0 < s2)) && (decide ((p0.getD (s2).toNat default).Source ≤ (p0.getD ((s2 - 1)).toNat default).Source)))) then some 51 else must (inI (s2 + 1)) <| k2 (s2 + 1)) else some 0)) fuel 0))
def gasolierref05_counts (p0 : Report) (p1 : Int) : Bool :=
 ((decide (p0.Known ≤ p1)) && ((decide (p0.Until = 0)) || (decide (p1 < p0.Until))))
def gasolierref05_of (fuel : Nat) (p0 : (List Report)) (p1 : gasolierref05_At) : Option (List Report) :=
 (loopGo (fun (s1 : Int × (List Report)) k1 => (bif (decide (s1.1 < ((p0.length : Nat) : Int))) then must (0 ≤ (s1.1 : Int) ∧ (s1.1 : Int) < ((p0.length : Nat) : Int)) <| must (((decide ((p0.getD (s1.1).toNat default).District = p1.District)) = true → (0 ≤ (s1.1 : Int) ∧ (s1.1 : Int) < ((p0.length : Nat) : Int)))) <| must ((((decide ((p0.getD (s1.1).toNat default).District = p1.District)) && (decide ((p0.getD (s1.1).toNat default).Night = p1.Night))) = true → (0 ≤ (s1.1 : Int) ∧ (s1.1 : Int) < ((p0.length : Nat) : Int)))) <| (bif (((decide ((p0.getD (s1.1).toNat default).District = p1.District)) && (decide ((p0.getD (s1.1).toNat default).Night = p1.Night))) && (gasolierref05_counts (p0.getD (s1.1).toNat default) p1.Moment)) then must (0 ≤ (s1.1 : Int) ∧ (s1.1 : Int) < ((p0.length : Nat) : Int)) <| must (room (s1.2 ++ ([(p0.getD (s1.1).toNat default)] : List Report)).length 72) <| must (inI (s1.1 + 1)) <| k1 ((s1.1 + 1), (s1.2 ++ ([(p0.getD (s1.1).toNat default)] : List Report))) else must (inI (s1.1 + 1)) <| k1 ((s1.1 + 1), s1.2)) else some s1.2)) fuel (0, ([] : List Report)))
def gasolierref05_oppose (p0 : Report) (p1 : Report) : Bool :=
 (((decide (p0.From ≤ p1.To)) && (decide (p1.From ≤ p0.To))) && ((decide (p1.Sight.Hi < p0.Sight.Lo)) || (decide (p0.Sight.Hi < p1.Sight.Lo))))
def gasolierref05_clash (fuel : Nat) (p0 : (List Report)) : Option (List Int) :=
 (loopGo (fun (s1 : Int) k1 => (bif (decide (s1 < ((p0.length : Nat) : Int))) then must (inI (s1 + 1)) <| (loopGo (fun (s4 : Int) k4 => (bif (decide (s4 < ((p0.length : Nat) : Int))) then must (0 ≤ (s1 : Int) ∧ (s1 : Int) < ((p0.length : Nat) : Int)) <| must (0 ≤ (s4 : Int) ∧ (s4 : Int) < ((p0.length : Nat) : Int)) <| (bif (gasolierref05_oppose (p0.getD (s1).toNat default) (p0.getD (s4).toNat default)) then must (0 ≤ (s1 : Int) ∧ (s1 : Int) < ((p0.length : Nat) : Int)) <| must (0 ≤ (s4 : Int) ∧ (s4 : Int) < ((p0.length : Nat) : Int)) <| some ([(p0.getD (s1).toNat default).Source, (p0.getD (s4).toNat default).Source] : List Int) else must (inI (s4 + 1)) <| k4 (s4 + 1)) else must (inI (s1 + 1)) <| k1 (s1 + 1))) fuel (s1 + 1)) else some [])) fuel 0)
def gasolierref05_isLeaf (fuel : Nat) (p0 : Node) : Option Bool :=
 (bif (((((((!decide (p0.District = 0)) || (!decide (p0.Minute = 0))) || (!decide (p0.Limit = 0))) || (!decide (p0.Yes = 0))) || (!decide (p0.No = 0))) || (!decide (p0.Maybe = 0))) || (decide (9 < ((p0.Sends.length : Nat) : Int)))) then some false else (loopGo (fun (s2 : Int) k2 => (bif (decide (s2 < ((p0.Sends.length : Nat) : Int))) then must (0 ≤ (s2 : Int) ∧ (s2 : Int) < ((p0.Sends.length : Nat) : Int)) <| must ((((!((!(gasolierref05_In ((p0.Sends.getD (s2).toNat default).District) 1 9)) || (!(gasolierref05_In ((p0.Sends.getD (s2).toNat default).Many) 1 20)))) && (decide (0 < s2))) = true → (inI (s2 - 1)))) <| must ((((!((!(gasolierref05_In ((p0.Sends.getD (s2).toNat default).District) 1 9)) || (!(gasolierref05_In ((p0.Sends.getD (s2).toNat default).Many) 1 20)))) && (decide (0 < s2))) = true → (0 ≤ ((s2 - 1) : Int) ∧ ((s2 - 1) : Int) < ((p0.Sends.length : Nat) : Int)))) <| (bif (((!(gasolierref05_In ((p0.Sends.getD (s2).toNat default).District) 1 9)) || (!(gasolierref05_In ((p0.Sends.getD (s2).toNat default).Many) 1 20))) || ((decide (0 < s2)) && (decide ((p0.Sends.getD (s2).toNat default).District ≤ (p0.Sends.getD ((s2 - 1)).toNat default).District)))) then some false else must (inI (s2 + 1)) <| k2 (s2 + 1)) else some true)) fuel 0))
def gasolierref05_follows (p0 : Node) : (Arr3 Int) :=
 (⟨p0.Yes, p0.No, p0.Maybe⟩ : (Arr3 Int))
def gasolierref05_CheckPolicy (fuel : Nat) (p0 : (List Node)) : Option Int :=
 (bif (!(gasolierref05_In ((p0.length : Nat) : Int) 1 31)) then some 53 else must (0 ≤ (((p0.length : Nat) : Int) : Int) ∧ (((p0.length : Nat) : Int) : Int) ≤ ((p0.length : Nat) : Int) ∧ room (((p0.length : Nat) : Int) : Int).toNat 8) <| (loopGo (fun (s3 : Int × (List Int)) k3 => (bif (decide (s3.1 < ((p0.length : Nat) : Int))) then (joinK (fun (k5 : (List Int) → _) => must (0 ≤ (s3.1 : Int) ∧ (s3.1 : Int) < ((p0.length : Nat) : Int)) <| (bif (!((p0.getD (s3.1).toNat default).Test)) then bindO (gasolierref05_isLeaf fuel (p0.getD (s3.1).toNat default)) fun y9 => (bif (!y9) then some 53 else k5 s3.2) else (bif ((((!(gasolierref05_In ((p0.getD (s3.1).toNat default).District) 1 9)) || (!(gasolierref05_In ((p0.getD (s3.1).toNat default).Minute) 0 1439))) || (!(gasolierref05_In ((p0.getD (s3.1).toNat default).Limit) 1 5000))) || (decide (0 < ((((p0.getD (s3.1).toNat default).Sends).length : Nat) : Int)))) then some 53 else (loopGo (fun (s13 : Int × (List Int)) k13 => (bif (decide (s13.1 < 3)) then must (0 ≤ (s13.1 : Int) ∧ (s13.1 : Int) < ((3 : Nat) : Int)) <| must (inI (s3.1 + 1)) <| must (inI (((p0.length : Nat) : Int) - 1)) <| must (((!(!(gasolierref05_In (([(gasolierref05_follows (p0.getD (s3.1).toNat default)).x0, (gasolierref05_follows (p0.getD (s3.1).toNat default)).x1, (gasolierref05_follows (p0.getD (s3.1).toNat default)).x2] : List Int).getD (0 + (s13.1).toNat * 1) 0) (s3.1 + 1) (((p0.length : Nat) : Int) - 1)))) = true → (0 ≤ (s13.1 : Int) ∧ (s13.1 : Int) < ((3 : Nat) : Int)))) <| must (((!(!(gasolierref05_In (([(gasolierref05_follows (p0.getD (s3.1).toNat default)).x0, (gasolierref05_follows (p0.getD (s3.1).toNat default)).x1, (gasolierref05_follows (p0.getD (s3.1).toNat default)).x2] : List Int).getD (0 + (s13.1).toNat * 1) 0) (s3.1 + 1) (((p0.length : Nat) : Int) - 1)))) = true → (0 ≤ ((([(gasolierref05_follows (p0.getD (s3.1).toNat default)).x0, (gasolierref05_follows (p0.getD (s3.1).toNat default)).x1, (gasolierref05_follows (p0.getD (s3.1).toNat default)).x2] : List Int).getD (0 + (s13.1).toNat * 1) 0) : Int) ∧ ((([(gasolierref05_follows (p0.getD (s3.1).toNat default)).x0, (gasolierref05_follows (p0.getD (s3.1).toNat default)).x1, (gasolierref05_follows (p0.getD (s3.1).toNat default)).x2] : List Int).getD (0 + (s13.1).toNat * 1) 0) : Int) < ((p0.length : Nat) : Int)))) <| must ((((!(!(gasolierref05_In (([(gasolierref05_follows (p0.getD (s3.1).toNat default)).x0, (gasolierref05_follows (p0.getD (s3.1).toNat default)).x1, (gasolierref05_follows (p0.getD (s3.1).toNat default)).x2] : List Int).getD (0 + (s13.1).toNat * 1) 0) (s3.1 + 1) (((p0.length : Nat) : Int) - 1)))) && ((p0.getD ((([(gasolierref05_follows (p0.getD (s3.1).toNat default)).x0, (gasolierref05_follows (p0.getD (s3.1).toNat default)).x1, (gasolierref05_follows (p0.getD (s3.1).toNat default)).x2] : List Int).getD (0 + (s13.1).toNat * 1) 0)).toNat default).Test)) = true → (0 ≤ (s13.1 : Int) ∧ (s13.1 : Int) < ((3 : Nat) : Int)))) <| must ((((!(!(gasolierref05_In (([(gasolierref05_follows (p0.getD (s3.1).toNat default)).x0, (gasolierref05_follows (p0.getD (s3.1).toNat default)).x1, (gasolierref05_follows (p0.getD (s3.1).toNat default)).x2] : List Int).getD (0 + (s13.1).toNat * 1) 0) (s3.1 + 1) (((p0.length : Nat) : Int) - 1)))) && ((p0.getD ((([(gasolierref05_follows (p0.getD (s3.1).toNat default)).x0, (gasolierref05_follows (p0.getD (s3.1).toNat default)).x1, (gasolierref05_follows (p0.getD (s3.1).toNat default)).x2] : List Int).getD (0 + (s13.1).toNat * 1) 0)).toNat default).Test)) = true → (0 ≤ ((([(gasolierref05_follows (p0.getD (s3.1).toNat default)).x0, (gasolierref05_follows (p0.getD (s3.1).toNat default)).x1, (gasolierref05_follows (p0.getD (s3.1).toNat default)).x2] : List Int).getD (0 + (s13.1).toNat * 1) 0) : Int) ∧ ((([(gasolierref05_follows (p0.getD (s3.1).toNat default)).x0, (gasolierref05_follows (p0.getD (s3.1).toNat default)).x1, (gasolierref05_follows (p0.getD (s3.1).toNat default)).x2] : List Int).getD (0 + (s13.1).toNat * 1) 0) : Int) < ((p0.length : Nat) : Int)))) <| (bif ((!(gasolierref05_In (([(gasolierref05_follows (p0.getD (s3.1).toNat default)).x0, (gasolierref05_follows (p0.getD (s3.1).toNat default)).x1, (gasolierref05_follows (p0.getD (s3.1).toNat default)).x2] : List Int).getD (0 + (s13.1).toNat * 1) 0) (s3.1 + 1) (((p0.length : Nat) : Int) - 1))) || (((p0.getD ((([(gasolierref05_follows (p0.getD (s3.1).toNat default)).x0, (gasolierref05_follows (p0.getD (s3.1).toNat default)).x1, (gasolierref05_follows (p0.getD (s3.1).toNat default)).x2] : List Int).getD (0 + (s13.1).toNat * 1) 0)).toNat default).Test) && (decide ((p0.getD ((([(gasolierref05_follows (p0.getD (s3.1).toNat default)).x0, (gasolierref05_follows (p0.getD (s3.1).toNat default)).x1, (gasolierref05_follows (p0.getD (s3.1).toNat default)).x2] : List Int).getD (0 + (s13.1).toNat * 1) 0)).toNat default).Minute < (p0.getD (s3.1).toNat default).Minute)))) then some 53 else must (0 ≤ (s13.1 : Int) ∧ (s13.1 : Int) < ((3 : Nat) : Int)) <| must (0 ≤ ((([(gasolierref05_follows (p0.getD (s3.1).toNat default)).x0, (gasolierref05_follows (p0.getD (s3.1).toNat default)).x1, (gasolierref05_follows (p0.getD (s3.1).toNat default)).x2] : List Int).getD (0 + (s13.1).toNat * 1) 0) : Int) ∧ ((([(gasolierref05_follows (p0.getD (s3.1).toNat default)).x0, (gasolierref05_follows (p0.getD (s3.1).toNat default)).x1, (gasolierref05_follows (p0.getD (s3.1).toNat default)).x2] : List Int).getD (0 + (s13.1).toNat * 1) 0) : Int) < ((s13.2.length : Nat) : Int)) <| must (inI ((s13.2.getD ((([(gasolierref05_follows (p0.getD (s3.1).toNat default)).x0, (gasolierref05_follows (p0.getD (s3.1).toNat default)).x1, (gasolierref05_follows (p0.getD (s3.1).toNat default)).x2] : List Int).getD (0 + (s13.1).toNat * 1) 0)).toNat default) + 1)) <| must (0 ≤ ((([(gasolierref05_follows (p0.getD (s3.1).toNat default)).x0, (gasolierref05_follows (p0.getD (s3.1).toNat default)).x1, (gasolierref05_follows (p0.getD (s3.1).toNat default)).x2] : List Int).getD (0 + (s13.1).toNat * 1) 0) : Int) ∧ ((([(gasolierref05_follows (p0.getD (s3.1).toNat default)).x0, (gasolierref05_follows (p0.getD (s3.1).toNat default)).x1, (gasolierref05_follows (p0.getD (s3.1).toNat default)).x2] : List Int).getD (0 + (s13.1).toNat * 1) 0) : Int) < ((s13.2.length : Nat) : Int)) <| must (inI (s13.1 + 1)) <| k13 ((s13.1 + 1), (s13.2.set ((([(gasolierref05_follows (p0.getD (s3.1).toNat default)).x0, (gasolierref05_follows (p0.getD (s3.1).toNat default)).x1, (gasolierref05_follows (p0.getD (s3.1).toNat default)).x2] : List Int).getD (0 + (s13.1).toNat * 1) 0)).toNat ((s13.2.getD ((([(gasolierref05_follows (p0.getD (s3.1).toNat default)).x0, (gasolierref05_follows (p0.getD (s3.1).toNat default)).x1, (gasolierref05_follows (p0.getD (s3.1).toNat default)).x2] : List Int).getD (0 + (s13.1).toNat * 1) 0)).toNat default) + 1)))) else k5 s13.2)) fuel (0, s3.2))))) (fun (s5 : (List Int)) => must (inI (s3.1 + 1)) <| k3 ((s3.1 + 1), s5))) else (loopGo (fun (s28 : Int) k28 => (bif (decide (s28 < ((p0.length : Nat) : Int))) then must (0 ≤ (s28 : Int) ∧ (s28 : Int) < ((s3.2.length : Nat) : Int)) <| (bif (!decide ((s3.2.getD (s28).toNat default) = 1)) then some 53 else must (inI (s28 + 1)) <| k28 (s28 + 1)) else some 0)) fuel 1))) fuel (0, (List.replicate (((p0.length : Nat) : Int)).toNat (0 : Int)))))
def gasolierref05_rising (fuel : Nat) (p0 : (List Int)) (p1 : Int) (p2 : Int) : Option Bool :=
 (loopGo (fun (s1 : Int) k1 => (bif (decide (s1 < ((p0.length : Nat) : Int))) then must (0 ≤ (s1 : Int) ∧ (s1 : Int) < ((p0.length : Nat) : Int)) <| must ((((!(!(gasolierref05_In (p0.getD (s1).toNat default) p1 p2))) && (decide (0 < s1))) = true → (inI (s1 - 1)))) <| must ((((!(!(gasolierref05_In (p0.getD (s1).toNat default) p1 p2))) && (decide (0 < s1))) = true → (0 ≤ ((s1 - 1) : Int) ∧ ((s1 - 1) : Int) < ((p0.length : Nat) : Int)))) <| must ((((!(!(gasolierref05_In (p0.getD (s1).toNat default) p1 p2))) && (decide (0 < s1))) = true → (0 ≤ (s1 : Int) ∧ (s1 : Int) < ((p0.length : Nat) : Int)))) <| (bif ((!(gasolierref05_In (p0.getD (s1).toNat default) p1 p2)) || ((decide (0 < s1)) && (decide ((p0.getD (s1).toNat default) ≤ (p0.getD ((s1 - 1)).toNat default))))) then some false else must (inI (s1 + 1)) <| k1 (s1 + 1)) else some true)) fuel 0)
def gasolierref05_CheckRunners (fuel : Nat) (p0 : (List Runner)) : Option Int :=
 (bif (decide (20 < ((p0.length : Nat) : Int))) then some 54 else (loopGo (fun (s2 : Int) k2 => (bif (decide (s2 < ((p0.length : Nat) : Int))) then must (0 ≤ (s2 : Int) ∧ (s2 : Int) < ((p0.length : Nat) : Int)) <| must ((((!(!(gasolierref05_In ((p0.getD (s2).toNat default).Id) 1 99))) && (decide (0 < s2))) = true → (inI (s2 - 1)))) <| must ((((!(!(gasolierref05_In ((p0.getD (s2).toNat default).Id) 1 99))) && (decide (0 < s2))) = true → (0 ≤ ((s2 - 1) : Int) ∧ ((s2 - 1) : Int) < ((p0.length : Nat) : Int)))) <| must ((((!(!(gasolierref05_In ((p0.getD (s2).toNat default).Id) 1 99))) && (decide (0 < s2))) = true → (0 ≤ (s2 : Int) ∧ (s2 : Int) < ((p0.length : Nat) : Int)))) <| must (((!((!(gasolierref05_In ((p0.getD (s2).toNat default).Id) 1 99)) || ((decide (0 < s2)) && (decide ((p0.getD (s2).toNat default).Id ≤ (p0.getD ((s2 - 1)).toNat default).Id))))) = true → (0 ≤ (s2 : Int) ∧ (s2 : Int) < ((p0.length : Nat) : Int)))) <| must (((!(((!(gasolierref05_In ((p0.getD (s2).toNat default).Id) 1 99)) || ((decide (0 < s2)) && (decide ((p0.getD (s2).toNat default).Id ≤ (p0.getD ((s2 - 1)).toNat default).Id)))) || (decide (((((p0.getD (s2).toNat default).Districts).length : Nat) : Int) = 0)))) = true → (0 ≤ (s2 : Int) ∧ (s2 : Int) < ((p0.length : Nat) : Int)))) <| bindO ((bif (!(((!(gasolierref05_In ((p0.getD (s2).toNat default).Id) 1 99)) || ((decide (0 < s2)) && (decide ((p0.getD (s2).toNat default).Id ≤ (p0.getD ((s2 - 1)).toNat default).Id)))) || (decide (((((p0.getD (s2).toNat default).Districts).length : Nat) : Int) = 0)))) then gasolierref05_rising fuel ((p0.getD (s2).toNat default).Districts) 1 9 else some default)) fun y10 => (bif ((((!(gasolierref05_In ((p0.getD (s2).toNat default).Id) 1 99)) || ((decide (0 < s2)) && (decide ((p0.getD (s2).toNat default).Id ≤ (p0.getD ((s2 - 1)).toNat default).Id)))) || (decide (((((p0.getD (s2).toNat default).Districts).length : Nat) : Int) = 0))) || (!y10)) then some 54 else must (inI (s2 + 1)) <| k2 (s2 + 1)) else some 0)) fuel 0))
def gasolierref05_valid (fuel : Nat) (p0 : (List Node)) (p1 : (List Report)) (p2 : gasolierref05_At) : Option Int :=
 bindO (gasolierref05_CheckPolicy fuel p0) fun y1 => (bif (!decide (y1 = 0)) then some 53 else bindO (gasolierref05_Check fuel p1) fun y4 => (bif (!decide (y4 = 0)) then some 51 else (bif ((!(gasolierref05_In p2.Night 0 100000)) || (!(gasolierref05_isMoment p2.Moment))) then some 6 else some 0)))
def gasolierref05_momentOf (p0 : Node) (p1 : Int) : Option Int :=
 must (inI (p1 * 1440)) <| must (inI ((p1 * 1440) + p0.Minute)) <| some ((p1 * 1440) + p0.Minute)
def gasolierref05_sight (fuel : Nat) (p0 : (List Report)) (p1 : Int) : Option Range :=
 (loopGo (fun (s1 : Int × Range) k1 => (bif (decide (s1.1 < ((p0.length : Nat) : Int))) then must (0 ≤ (s1.1 : Int) ∧ (s1.1 : Int) < ((p0.length : Nat) : Int)) <| must (0 ≤ (s1.1 : Int) ∧ (s1.1 : Int) < ((p0.length : Nat) : Int)) <| (bif (gasolierref05_In p1 ((p0.getD (s1.1).toNat default).From) ((p0.getD (s1.1).toNat default).To)) then must (0 ≤ (s1.1 : Int) ∧ (s1.1 : Int) < ((p0.length : Nat) : Int)) <| must (0 ≤ (s1.1 : Int) ∧ (s1.1 : Int) < ((p0.length : Nat) : Int)) <| must (inI (s1.1 + 1)) <| k1 ((s1.1 + 1), (⟨(max s1.2.Lo ((p0.getD (s1.1).toNat default).Sight.Lo)), (min s1.2.Hi ((p0.getD (s1.1).toNat default).Sight.Hi))⟩ : Range)) else must (inI (s1.1 + 1)) <| k1 ((s1.1 + 1), s1.2)) else some s1.2)) fuel (0, (⟨0, 5000⟩ : Range)))
def gasolierref05_below (p0 : Range) (p1 : Int) : Int :=
 (bif (decide (p0.Hi < p1)) then 1 else (bif (decide (p1 ≤ p0.Lo)) then 0 else 2))
def gasolierref05_tells (fuel : Nat) (p0 : Node) (p1 : (List Report)) (p2 : gasolierref05_At) : Option Int :=
 bindO (gasolierref05_of fuel p1 (⟨p0.District, p2.Night, p2.Moment⟩ : gasolierref05_At)) fun y1 => bindO (gasolierref05_clash fuel y1) fun y3 => (bif (decide (0 < ((y3.length : Nat) : Int))) then some 2 else bindO (gasolierref05_sight fuel y1 p0.Minute) fun y6 => some (gasolierref05_below y6 p0.Limit))
def gasolierref05_next (p0 : Node) (p1 : Int) : Int :=
 (bif (decide (p1 = 1)) then p0.Yes else (bif (decide (p1 = 0)) then p0.No else p0.Maybe))
def gasolierref05_possible (fuel : Nat) (p0 : (List Node)) (p1 : (List Report)) (p2 : gasolierref05_At) : Option (List Bool) :=
 must (0 ≤ (((p0.length : Nat) : Int) : Int) ∧ (((p0.length : Nat) : Int) : Int) ≤ ((p0.length : Nat) : Int) ∧ room (((p0.length : Nat) : Int) : Int).toNat 1) <| must (0 ≤ (0 : Int) ∧ (0 : Int) < (((List.replicate (((p0.length : Nat) : Int)).toNat (false : Bool)).length : Nat) : Int)) <| (loopGo (fun (s3 : Int × (List Bool)) k3 => (bif (decide (s3.1 < ((p0.length : Nat) : Int))) then (joinK (fun (k5 : (List Bool) → _) => must (0 ≤ (s3.1 : Int) ∧ (s3.1 : Int) < ((s3.2.length : Nat) : Int)) <| must (((!(!(s3.2.getD (s3.1).toNat default))) = true → (0 ≤ (s3.1 : Int) ∧ (s3.1 : Int) < ((p0.length : Nat) : Int)))) <| (bif ((!(s3.2.getD (s3.1).toNat default)) || (!((p0.getD (s3.1).toNat default).Test))) then k5 s3.2 else must (0 ≤ (s3.1 : Int) ∧ (s3.1 : Int) < ((p0.length : Nat) : Int)) <| bindO (gasolierref05_momentOf (p0.getD (s3.1).toNat default) p2.Night) fun y11 => (bif (decide (y11 ≤ p2.Moment)) then must (0 ≤ (s3.1 : Int) ∧ (s3.1 : Int) < ((p0.length : Nat) : Int)) <| must (0 ≤ (s3.1 : Int) ∧ (s3.1 : Int) < ((p0.length : Nat) : Int)) <| bindO (gasolierref05_tells fuel (p0.getD (s3.1).toNat default) p1 (⟨0, p2.Night, y11⟩ : gasolierref05_At)) fun y16 => must (0 ≤ ((gasolierref05_next (p0.getD (s3.1).toNat default) y16) : Int) ∧ ((gasolierref05_next (p0.getD (s3.1).toNat default) y16) : Int) < ((s3.2.length : Nat) : Int)) <| k5 (s3.2.set ((gasolierref05_next (p0.getD (s3.1).toNat default) y16)).toNat true) else must (0 ≤ (s3.1 : Int) ∧ (s3.1 : Int) < ((p0.length : Nat) : Int)) <| bindO (gasolierref05_tells fuel (p0.getD (s3.1).toNat default) p1 p2) fun y20 => (bif (!decide (y20 = 2)) then must (0 ≤ (s3.1 : Int) ∧ (s3.1 : Int) < ((p0.length : Nat) : Int)) <| must (0 ≤ ((gasolierref05_next (p0.getD (s3.1).toNat default) y20) : Int) ∧ ((gasolierref05_next (p0.getD (s3.1).toNat default) y20) : Int) < ((s3.2.length : Nat) : Int)) <| k5 (s3.2.set ((gasolierref05_next (p0.getD (s3.1).toNat default) y20)).toNat true) else must (0 ≤ (s3.1 : Int) ∧ (s3.1 : Int) < ((p0.length : Nat) : Int)) <| (loopGo (fun (s26 : Int × (List Bool)) k26 => (bif (decide (s26.1 < 3)) then must (0 ≤ (s26.1 : Int) ∧ (s26.1 : Int) < ((3 : Nat) : Int)) <| must (0 ≤ ((([(gasolierref05_follows (p0.getD (s3.1).toNat default)).x0, (gasolierref05_follows (p0.getD (s3.1).toNat default)).x1, (gasolierref05_follows (p0.getD (s3.1).toNat default)).x2] : List Int).getD (0 + (s26.1).toNat * 1) 0) : Int) ∧ ((([(gasolierref05_follows (p0.getD (s3.1).toNat default)).x0, (gasolierref05_follows (p0.getD (s3.1).toNat default)).x1, (gasolierref05_follows (p0.getD (s3.1).toNat default)).x2] : List Int).getD (0 + (s26.1).toNat * 1) 0) : Int) < ((s26.2.length : Nat) : Int)) <| must (inI (s26.1 + 1)) <| k26 ((s26.1 + 1), (s26.2.set ((([(gasolierref05_follows (p0.getD (s3.1).toNat default)).x0, (gasolierref05_follows (p0.getD (s3.1).toNat default)).x1, (gasolierref05_follows (p0.getD (s3.1).toNat default)).x2] : List Int).getD (0 + (s26.1).toNat * 1) 0)).toNat true)) else k5 s26.2)) fuel (0, s3.2)))))) (fun (s5 : (List Bool)) => must (inI (s3.1 + 1)) <| k3 ((s3.1 + 1), s5))) else some s3.2)) fuel (0, ((List.replicate (((p0.length : Nat) : Int)).toNat (false : Bool)).set 0 true)))
def gasolierref05_Possible (fuel : Nat) (p0 : (List Node)) (p1 : (List Report)) (p2 : gasolierref05_At) : Option ((List Int) × Int) :=
 bindO (gasolierref05_valid fuel p0 p1 p2) fun y1 => (bif (!decide (y1 = 0)) then some ([], y1) else bindO (gasolierref05_possible fuel p0 p1 p2) fun y4 => (loopGo (fun (s6 : Int × (List Int)) k6 => (bif (decide (s6.1 < ((p0.length : Nat) : Int))) then must (0 ≤ (s6.1 : Int) ∧ (s6.1 : Int) < ((y4.length : Nat) : Int)) <| must (((y4.getD (s6.1).toNat default) = true → (0 ≤ (s6.1 : Int) ∧ (s6.1 : Int) < ((p0.length : Nat) : Int)))) <| (bif ((y4.getD (s6.1).toNat default) && (!((p0.getD (s6.1).toNat default).Test))) then must (room (s6.2 ++ ([s6.1] : List Int)).length 8) <| must (inI (s6.1 + 1)) <| k6 ((s6.1 + 1), (s6.2 ++ ([s6.1] : List Int))) else must (inI (s6.1 + 1)) <| k6 ((s6.1 + 1), s6.2)) else some (s6.2, 0))) fuel (0, ([] : List Int))))
def gasolierref05_few (fuel : Nat) (p0 : (List Runner)) (p1 : (List Send)) : Option Bool :=
 (loopGo (fun (s1 : Int) k1 => must (0 ≤ (((p1.length : Nat) : Int) : Int) ∧ (((p1.length : Nat) : Int) : Int) < 64 ∧ inI ((1 : Int) * 2 ^ (((p1.length : Nat) : Int) : Int).toNat)) <| (bif (decide (s1 < ((1 : Int) * 2 ^ (((p1.length : Nat) : Int) : Int).toNat))) then (loopGo (fun (s4 : Int × Int) k4 => (bif (decide (s4.2 < ((p1.length : Nat) : Int))) then must (0 ≤ (s4.2 : Int) ∧ (s4.2 : Int) < 64 ∧ inI ((1 : Int) * 2 ^ (s4.2 : Int).toNat)) <| must (0 ≤ (s1 : Int) ∧ 0 ≤ (((1 : Int) * 2 ^ (s4.2 : Int).toNat) : Int) ∧ inI s1 ∧ inI ((1 : Int) * 2 ^ (s4.2 : Int).toNat)) <| (bif (!decide ((((s1 : Int).toNat &&& (((1 : Int) * 2 ^ (s4.2 : Int).toNat) : Int).toNat : Nat) : Int) = 0)) then must (0 ≤ (s4.2 : Int) ∧ (s4.2 : Int) < ((p1.length : Nat) : Int)) <| must (inI (s4.1 + (p1.getD (s4.2).toNat default).Many)) <| must (inI (s4.2 + 1)) <| k4 ((s4.1 + (p1.getD (s4.2).toNat default).Many), (s4.2 + 1)) else must (inI (s4.2 + 1)) <| k4 (s4.1, (s4.2 + 1))) else (loopGo (fun (s13 : Int × Int) k13 => (bif (decide (s13.2 < ((p0.length : Nat) : Int))) then (loopGo (fun (s15 : Bool × Int) k15 => (bif (decide (s15.2 < ((p1.length : Nat) : Int))) then must (((!s15.1) = true → (0 ≤ (s15.2 : Int) ∧ (s15.2 : Int) < 64 ∧ inI ((1 : Int) * 2 ^ (s15.2 : Int).toNat)))) <| must (((!s15.1) = true → (0 ≤ (s1 : Int) ∧ 0 ≤ (((1 : Int) * 2 ^ (s15.2 : Int).toNat) : Int) ∧ inI s1 ∧ inI ((1 : Int) * 2 ^ (s15.2 : Int).toNat)))) <| must ((((!s15.1) && (!decide ((((s1 : Int).toNat &&& (((1 : Int) * 2 ^ (s15.2 : Int).toNat) : Int).toNat : Nat) : Int) = 0))) = true → (0 ≤ (s13.2 : Int) ∧ (s13.2 : Int) < ((p0.length : Nat) : Int)))) <| must ((((!s15.1) && (!decide ((((s1 : Int).toNat &&& (((1 : Int) * 2 ^ (s15.2 : Int).toNat) : Int).toNat : Nat) : Int) = 0))) = true → (0 ≤ (s15.2 : Int) ∧ (s15.2 : Int) < ((p1.length : Nat) : Int)))) <| bindO ((bif ((!s15.1) && (!decide ((((s1 : Int).toNat &&& (((1 : Int) * 2 ^ (s15.2 : Int).toNat) : Int).toNat : Nat) : Int) = 0))) then gasolierref05_Has fuel ((p0.getD (s13.2).toNat default).Districts) ((p1.getD (s15.2).toNat default).District) else some default)) fun y21 => must (inI (s15.2 + 1)) <| k15 ((s15.1 || ((!decide ((((s1 : Int).toNat &&& (((1 : Int) * 2 ^ (s15.2 : Int).toNat) : Int).toNat : Nat) : Int) = 0)) && y21)), (s15.2 + 1)) else (bif s15.1 then must (inI (s13.1 + 1)) <| must (inI (s13.2 + 1)) <| k13 ((s13.1 + 1), (s13.2 + 1)) else must (inI (s13.2 + 1)) <| k13 (s13.1, (s13.2 + 1))))) fuel (false, 0)) else (bif (decide (s13.1 < s4.1)) then some true else must (inI (s1 + 1)) <| k1 (s1 + 1)))) fuel (0, 0)))) fuel (0, 0)) else some false)) fuel 0)
def gasolierref05_Kept (fuel : Nat) (p0 : gasolierref05_Town) (p1 : (List Report)) (p2 : gasolierref05_At) : Option (Bool × Int) :=
 bindO (gasolierref05_CheckPolicy fuel p0.Policy) fun y1 => (bif (!decide (y1 = 0)) then some (false, 53) else bindO (gasolierref05_CheckRunners fuel p0.Runners) fun y4 => (bif (!decide (y4 = 0)) then some (false, 54) else bindO (gasolierref05_Possible fuel p0.Policy p1 p2) fun y7 => (bif (!decide (y7.2 = 0)) then some (false, y7.2) else (loopGo (fun (s10 : Int) k10 => (bif (decide (s10 < ((y7.1.length : Nat) : Int))) then must (0 ≤ (s10 : Int) ∧ (s10 : Int) < ((y7.1.length : Nat) : Int)) <| must (0 ≤ ((y7.1.getD (s10).toNat default) : Int) ∧ ((y7.1.getD (s10).toNat default) : Int) < ((p0.Policy.length : Nat) : Int)) <| bindO (gasolierref05_few fuel p0.Runners ((p0.Policy.getD ((y7.1.getD (s10).toNat default)).toNat default).Sends)) fun y14 => (bif y14 then some (false, 0) else must (inI (s10 + 1)) <| k10 (s10 + 1)) else some (true, 0))) fuel 0))))
def gasolierref05_path (fuel : Nat) (p0 : (List Node)) (p1 : (List Report)) (p2 : Int) : Option (List Int) :=
 (loopGo (fun (s1 : Int × (List Int)) k1 => must (0 ≤ (s1.1 : Int) ∧ (s1.1 : Int) < ((p0.length : Nat) : Int)) <| (bif (p0.getD (s1.1).toNat default).Test then must (0 ≤ (s1.1 : Int) ∧ (s1.1 : Int) < ((p0.length : Nat) : Int)) <| must (0 ≤ (s1.1 : Int) ∧ (s1.1 : Int) < ((p0.length : Nat) : Int)) <| must (0 ≤ (s1.1 : Int) ∧ (s1.1 : Int) < ((p0.length : Nat) : Int)) <| bindO (gasolierref05_momentOf (p0.getD (s1.1).toNat default) p2) fun y7 => bindO (gasolierref05_tells fuel (p0.getD (s1.1).toNat default) p1 (⟨0, p2, y7⟩ : gasolierref05_At)) fun y9 => must (room (s1.2 ++ ([(gasolierref05_next (p0.getD (s1.1).toNat default) y9)] : List Int)).length 8) <| k1 ((gasolierref05_next (p0.getD (s1.1).toNat default) y9), (s1.2 ++ ([(gasolierref05_next (p0.getD (s1.1).toNat default) y9)] : List Int))) else some s1.2)) fuel (0, ([0] : List Int)))
def gasolierref05_told (fuel : Nat) (p0 : (List Report)) (p1 : gasolierref05_At) : Option (List Range) :=
 must (0 ≤ (1440 : Int) ∧ (1440 : Int) ≤ 1440 ∧ room (1440 : Int).toNat 16) <| bindO (gasolierref05_of fuel p0 p1) fun y2 => bindO (gasolierref05_clash fuel y2) fun y4 => (loopGo (fun (s6 : Int × (List Range)) k6 => (bif (decide (s6.1 < ((s6.2.length : Nat) : Int))) then must (0 ≤ (s6.1 : Int) ∧ (s6.1 : Int) < ((s6.2.length : Nat) : Int)) <| (bif (!(decide (0 < ((y4.length : Nat) : Int)))) then bindO (gasolierref05_sight fuel y2 s6.1) fun y10 => must (0 ≤ (s6.1 : Int) ∧ (s6.1 : Int) < (((s6.2.set (s6.1).toNat (⟨(-1), (-1)⟩ : Range)).length : Nat) : Int)) <| must (inI (s6.1 + 1)) <| k6 ((s6.1 + 1), ((s6.2.set (s6.1).toNat (⟨(-1), (-1)⟩ : Range)).set (s6.1).toNat y10)) else must (inI (s6.1 + 1)) <| k6 ((s6.1 + 1), (s6.2.set (s6.1).toNat (⟨(-1), (-1)⟩ : Range)))) else some s6.2)) fuel (0, (List.replicate 1440 ((⟨0, 0⟩ : Range) : Range))))
def gasolierref05_Moved (fuel : Nat) (p0 : (List Node)) (p1 : (List Report)) (p2 : gasolierref05_Source) : Option (Bool × (List Int) × Int) :=
 bindO (gasolierref05_valid fuel p0 p1 (⟨0, p2.Night, p2.Moment⟩ : gasolierref05_At)) fun y1 => (bif (!decide (y1 = 0)) then some (false, [], y1) else (loopGo (fun (s4 : Int × Int × (List Report)) k4 => (bif (decide (s4.2.1 < ((p1.length : Nat) : Int))) then must (0 ≤ (s4.2.1 : Int) ∧ (s4.2.1 : Int) < ((p1.length : Nat) : Int)) <| (bif (decide ((p1.getD (s4.2.1).toNat default).Source = p2.Source)) then must (0 ≤ (s4.2.1 : Int) ∧ (s4.2.1 : Int) < ((p1.length : Nat) : Int)) <| must (inI (s4.2.1 + 1)) <| k4 ((p1.getD (s4.2.1).toNat default).District, (s4.2.1 + 1), s4.2.2) else must (0 ≤ (s4.2.1 : Int) ∧ (s4.2.1 : Int) < ((p1.length : Nat) : Int)) <| must (room (s4.2.2 ++ ([(p1.getD (s4.2.1).toNat default)] : List Report)).length 72) <| must (inI (s4.2.1 + 1)) <| k4 (s4.1, (s4.2.1 + 1), (s4.2.2 ++ ([(p1.getD (s4.2.1).toNat default)] : List Report)))) else (bif (decide (s4.1 = 0)) then some (false, [], 3) else bindO (gasolierref05_path fuel p0 p1 p2.Night) fun y14 => bindO (gasolierref05_path fuel p0 s4.2.2 p2.Night) fun y16 => bindO (gasolierref05_told fuel p1 (⟨s4.1, p2.Night, p2.Moment⟩ : gasolierref05_At)) fun y18 => bindO (gasolierref05_told fuel s4.2.2 (⟨s4.1, p2.Night, p2.Moment⟩ : gasolierref05_At)) fun y20 => (loopGo (fun (s22 : Int × (List Int)) k22 => (bif (decide (s22.1 < ((y18.length : Nat) : Int))) then must (0 ≤ (s22.1 : Int) ∧ (s22.1 : Int) < ((y18.length : Nat) : Int)) <| must (0 ≤ (s22.1 : Int) ∧ (s22.1 : Int) < ((y20.length : Nat) : Int)) <| (bif (!((decide ((y18.getD (s22.1).toNat default).Lo = (y20.getD (s22.1).toNat default).Lo)) && (decide ((y18.getD (s22.1).toNat default).Hi = (y20.getD (s22.1).toNat default).Hi)))) then must (room (s22.2 ++ ([s22.1] : List Int)).length 8) <| must (inI (s22.1 + 1)) <| k22 ((s22.1 + 1), (s22.2 ++ ([s22.1] : List Int))) else must (inI (s22.1 + 1)) <| k22 ((s22.1 + 1), s22.2)) else must (inI (((y14.length : Nat) : Int) - 1)) <| must (0 ≤ ((((y14.length : Nat) : Int) - 1) : Int) ∧ ((((y14.length : Nat) : Int) - 1) : Int) < ((y14.length : Nat) : Int)) <| must (inI (((y16.length : Nat) : Int) - 1)) <| must (0 ≤ ((((y16.length : Nat) : Int) - 1) : Int) ∧ ((((y16.length : Nat) : Int) - 1) : Int) < ((y16.length : Nat) : Int)) <| some ((!decide ((y14.getD ((((y14.length : Nat) : Int) - 1)).toNat default) = (y16.getD ((((y16.length : Nat) : Int) - 1)).toNat default))), s22.2, 0))) fuel (0, ([] : List Int)))))) fuel (0, 0, ([] : List Report))))
def gasolierlaw05_FogMoves (fuel : Nat) (p0 : gasolierref05_Town) (p1 : (List Report)) (p2 : gasolierref05_Source) : Option Bool :=
 bindO (fog_Kept fuel p0.Policy p0.Runners p1 p2.Night p2.Moment) fun y1 => bindO (gasolierref05_Kept fuel p0 p1 (⟨0, p2.Night, p2.Moment⟩ : gasolierref05_At)) fun y3 => bindO (fog_Moved fuel p0.Policy p1 p2.Source p2.Night p2.Moment) fun y5 => bindO (gasolierref05_Moved fuel p0.Policy p1 p2) fun y7 => bindO ((bif (((y1.1 == y3.1) && (decide (y1.2 = y3.2))) && (y5.1 == y7.1)) then gasolierref05_Same fuel y5.2.1 y7.2.1 else some default)) fun y9 => bindO ((bif (((((y1.1 == y3.1) && (decide (y1.2 = y3.2))) && (y5.1 == y7.1)) && y9) && (decide (y5.2.2 = y7.2.2))) then gasolierlaw05_sane 20000 else some default)) fun y11 => some ((((((y1.1 == y3.1) && (decide (y1.2 = y3.2))) && (y5.1 == y7.1)) && y9) && (decide (y5.2.2 = y7.2.2))) && y11)
end Go.Sp
end
