/- The statement that ranges over a function. -/
import Derived.Test.YtnaodipmfaglfaaAvW
set_option linter.all false
namespace Go.Av
open Go.Sp
def Cr (w0 : World) (h0 : Hp) (br : Nat → Prop) (avs : List AV) (vs : List Value) (gh : (Nat → Prop) → World → Prop) (st : Stab gh) : Ctx := { w0 := w0, h0 := h0, savA := avs, savV := vs, bor := br, gh := fun _ => gh, gh_step := fun _ X X' w w' => st X X' w w' }
def Still (Z : Nat → Prop) (V : Nat → Option Obj) (n : Nat) (Y : Nat → Prop) (w : World) : Prop := (∀ b, Z b → b < n ∧ ¬ Y b ∧ w.heap[b]? = V b) ∧ n ≤ w.heap.size
theorem Still.stab (Z : Nat → Prop) (V : Nat → Option Obj) (n : Nat) : Stab (Still Z V n) := by
  intro X X' w w' H _ _ _ hsz hk hX
  refine ⟨fun b hb => ?_, Nat.le_trans H.2 hsz⟩
  obtain ⟨h1, h2, h3⟩ := H.1 b hb
  have hlt : b < w.heap.size := Nat.lt_of_lt_of_le h1 H.2
  refine ⟨h1, fun h => ?_, by rw [hk b hlt h2]; exact h3⟩
  rcases hX b h with h4 | h4
  · exact h2 h4
  · omega
def zipT : List Nat → List AV → List (Nat × AV)
  | t :: ts, v :: vs => (t, v) :: zipT ts vs
  | _, _ => []
def allLt (N : Nat) : List Nat → Bool
  | [] => true
  | t :: ts => match Nat.blt t N with
    | true => allLt N ts
    | false => false
theorem allLt_spec {N : Nat} : ∀ {ts : List Nat}, allLt N ts = true → ∀ t, t ∈ ts → t < N
  | [], _, t, ht => by cases ht
  | x :: ts, h, t, ht => by
    unfold allLt at h
    split at h
    · rename_i hb
      rcases List.mem_cons.1 ht with rfl | ht
      · exact Nat.le_of_ble_eq_true hb
      · exact allLt_spec h t ht
    · cases h
def avsOf : List (Nat × AV) → List AV
  | [] => []
  | (_, v) :: r => v :: avsOf r
theorem avsOf_fr (f : Nat → Value) : ∀ (L : List (Nat × AV)), (L.map (fun p => f p.1)).length = (avsOf L).length ∧ ∀ t : Nat, fr L t = .any ∨ ∃ i : Nat, (avsOf L)[i]? = some (fr L t) ∧ (L.map (fun p => f p.1))[i]? = some (f t)
  | [] => ⟨rfl, fun t => .inl rfl⟩
  | (d, v) :: r => by
    obtain ⟨h1, h2⟩ := avsOf_fr f r
    refine ⟨by simp [avsOf] at h1 ⊢; exact h1, fun t => ?_⟩
    simp only [fr, put, avsOf]
    split
    · rename_i hb
      have := Nat.eq_of_beq_eq_true hb
      subst this
      exact .inr ⟨0, rfl, rfl⟩
    · rcases h2 t with h | ⟨i, q1, q2⟩
      · exact .inl h
      · exact .inr ⟨i + 1, by simpa using q1, by simpa using q2⟩
theorem zip_slots {N : Nat} {h : Hp} {ρ : Rho} : ∀ (ps : List Nat) (it : List AV) (us : List Value) (tm : Array Value) (F : Fr), RelL h ρ it us → it.length = ps.length → (∀ t, t ∈ ps → t < N) → tm.size = N → ps.Nodup → (∀ t, Rel h ρ (F t) (tm.getD t undef)) →
    ((ps.zip us).foldl (fun (tm : Array Value) (x : Nat × Value) => tm.setIfInBounds x.1 x.2) tm).size = N ∧ ∀ t, Rel h ρ (match findL (zipT ps it) t with | some v => v | none => F t) (((ps.zip us).foldl (fun (tm : Array Value) (x : Nat × Value) => tm.setIfInBounds x.1 x.2) tm).getD t undef)
  | [], it, us, tm, F, hR, hl, _, hs, _, hF => by
    have : it = [] := by simpa using hl
    subst this
    exact ⟨by simpa using hs, fun t => by simpa [zipT, findL] using hF t⟩
  | p :: ps, it, us, tm, F, hR, hl, hN, hs, hnd, hF => by
    cases it with
    | nil => simp at hl
    | cons v it =>
    obtain ⟨u, r, rfl, h1, h2⟩ := hR.inv_cons
    have hp : p < N := hN p (by simp)
    have key := zip_slots ps it r (tm.setIfInBounds p u) (put F p v) h2 (by simpa using hl) (fun t ht => hN t (by simp [ht])) (by simpa using hs) (List.nodup_cons.1 hnd).2 (fun t => by
      by_cases ht : t = p
      · subst ht
        rw [put_same]
        simpa [hs, hp] using h1
      · rw [put_other F v ht]
        have := hF t
        simpa [Array.getElem?_setIfInBounds_ne (Ne.symm ht)] using this)
    refine ⟨by simpa using key.1, fun t => ?_⟩
    have k2 := key.2 t
    simp only [List.zip_cons_cons, List.foldl_cons, zipT, findL]
    cases hb : Nat.beq t p with
    | true =>
      have e := Nat.eq_of_beq_eq_true hb
      subst e
      have hno : findL (zipT ps it) t = none := by
        have hnp := (List.nodup_cons.1 hnd).1
        clear key k2 hl h2 hN hs hF hR h1 hnd
        induction ps generalizing it with
        | nil => cases it <;> rfl
        | cons q qs ih =>
          cases it with
          | nil => rfl
          | cons x xs =>
            simp only [zipT, findL]
            have : Nat.beq t q = false := by
              cases hq : Nat.beq t q with
              | false => rfl
              | true => exact absurd (Nat.eq_of_beq_eq_true hq) (fun e => hnp (by simp [e]))
            rw [this]
            exact ih xs (fun h => hnp (by simp [h]))
      rw [hno] at k2
      simpa [put_same] using k2
    | false =>
      have hne : t ≠ p := by rintro rfl; simp at hb
      simp only [put_other F v hne] at k2
      exact k2
theorem fr_zip : ∀ (ps : List Nat) (it : List AV) (L : List (Nat × AV)) (t : Nat), fr (zipT ps it ++ L) t = match findL (zipT ps it) t with | some v => v | none => fr L t
  | [], it, L, t => by simp [zipT, findL]
  | p :: ps, [], L, t => by simp [zipT, findL]
  | p :: ps, v :: it, L, t => by
    simp only [zipT, List.cons_append, fr, put, findL]
    cases hb : Nat.beq t p with
    | true => rfl
    | false => simp only []; exact fr_zip ps it L t
def noDupN : List Nat → Bool
  | [] => true
  | t :: ts => match inList ts t with
    | true => false
    | false => noDupN ts
theorem inList_of {t : Nat} : ∀ {ts : List Nat}, t ∈ ts → inList ts t = true
  | x :: ts, h => by
    unfold inList
    rcases List.mem_cons.1 h with rfl | h
    · simp
    · split
      · rfl
      · exact inList_of h
theorem noDupN_spec : ∀ {ts : List Nat}, noDupN ts = true → ts.Nodup
  | [], _ => List.nodup_nil
  | t :: ts, h => by
    unfold noDupN at h
    split at h
    · cases h
    · rename_i hb
      refine List.nodup_cons.2 ⟨fun hm => ?_, noDupN_spec h⟩
      rw [inList_of hm] at hb; cases hb
def jumpOf : Exit → Code
  | .exit i => .exit i
  | _ => .ret
section
variable {P : Program} {N : Nat} {Γ : Tys} {L : List (Nat × AV)} {M : List (Nat × Blk)} {g : Nat} {Q : Exit → Act → World → Prop} {w0 : World} {h0 : Hp} {SA : List AV} {SV : List Value} {br : Nat → Prop}
theorem InvH.reframe {br : Nat → Prop} {avs : List AV} {vs : List Value} {gh gh' : (Nat → Prop) → World → Prop} {st : Stab gh} {st' : Stab gh'} {h1 h : Hp} {ρ : Rho} {F F' : Fr} {Mx : Mm} {a a' : Act} {w w' : World} (I : InvH N (Cr w0 h1 br avs vs gh st) h ρ F Mx g a w) (hs : ∀ t, Rel h ρ (F' t) (a'.tmps.getD t undef)) (hN : a'.tmps.size = N) (hd : ∃ Ds : List Nat, a'.defers = Ds.map (fun D => { target := .collected D, args := #[] }) ∧ Ds.Nodup ∧ ∀ D, D ∈ Ds → h D = some (.deferred (some [])) ∧ w0.heap.size ≤ D)
    {Z : Nat → Prop} (hZ : ∀ b, Z b → h b = none ∧ ¬ ownSet ρ b ∧ w0.heap.size ≤ b) (hos : w'.os = w.os) (htape : w'.tape = w.tape) (hout : w'.output = w.output) (hsz : w.heap.size ≤ w'.heap.size) (hk : ∀ k, k < w.heap.size → ¬ Z k → w'.heap[k]? = w.heap[k]?)
    (hg : ∃ X : Nat → Prop, (∀ b, ownSet ρ b → X b) ∧ (∀ b o, h b = some o → h1 b = some o ∨ X b) ∧ gh' X w') : InvH N (Cr w0 h1 br avs vs gh' st') h ρ F' Mx g a' w' := by
  refine ⟨hs, I.sav, hN, fun b o hb => ?_, fun id x hx => ?_, I.dom, fun id li b q1 q2 => ?_, I.inj, hos.trans I.os, htape.trans I.tape, hout.trans I.out, Nat.le_trans I.sz hsz, fun k hk0 hb => ?_, I.ext, I.old, hg, hd⟩
  · rw [hk b (I.hlt hb) (fun hz => by rw [(hZ b hz).1] at hb; cases hb)]; exact I.hp b o hb
  · exact (I.blk id x hx).keep (Le.refl h) rfl (hle_refl _) (fun li b q1 q2 => hk b (I.own id li b q1 q2).2.1 (fun hz => (hZ b hz).2.1 ⟨id, li, q1, q2⟩))
  · obtain ⟨q3, q4, q5⟩ := I.own id li b q1 q2
    exact ⟨q3, Nat.lt_of_lt_of_le q4 hsz, q5⟩
  · rw [hk k (Nat.lt_of_lt_of_le hk0 I.sz) (fun hz => by have := (hZ k hz).2.2; exact absurd hk0 (Nat.not_lt.2 this))]
    exact I.kept k hk0 hb
theorem W.rangeFunc {fop : Operand} {ps : Array Tmp} {assign body : Code} {gf : FuncId} {caps : List AV} {items : List (List AV)}
    (hf : evO (fr L) fop = .clo (.func gf) [] caps) (hI : Iter P gf caps items) (hit : ∀ it, it ∈ items → it.length = ps.size ∧ grL it = true) (hpN : allLt N ps.toList = true) (hpd : noDupN ps.toList = true) (hLd : noDupN (L.map (·.1)) = true)
    {S : Type} (J : Nat → S → Prop) (Ms : S → List (Nat × Blk)) (s0 : S) (hJ0 : J 0 s0) (hM : AgreeM M (Ms s0)) (La : Nat → List (Nat × AV))
    {SX : Type} (JX : Exit → SX → Prop) (MX : Exit → SX → List (Nat × Blk)) (hX : ∀ e s, JX e s → e = .ret ∨ ∃ i, e = .exit i) (hval : ∀ b o, h0 b = some o → w0.heap[b]? = some o)
    (asg : ∀ (h1 : Hp) (vs : List Value) (gh : (Nat → Prop) → World → Prop) (st : Stab gh) (l : Nat) (k : Nat) (it : List AV) (s : S), items[k]? = some it → ∀ K : Act → World → Prop, At N (Cr w0 h1 br (avsOf L ++ SA) vs gh st) (La k) (Ms s) g K →
      W P N (some l) (Cr w0 h1 br (avsOf L ++ SA) vs gh st) assign (zipT ps.toList it ++ L) (Ms s) g (Exit.then K (fun _ _ _ => False)))
    (round : ∀ (h1 : Hp) (vs : List Value) (gh : (Nat → Prop) → World → Prop) (st : Stab gh) (l : Nat) (k : Nat) (it : List AV) (s : S), items[k]? = some it → J k s → ∀ Qr : Exit → Act → World → Prop,
      (∀ s', J (k + 1) s' → At N (Cr w0 h1 br (avsOf L ++ SA) vs gh st) [] (Ms s') g (Qr .normal)) → (∀ e s', JX e s' → At N (Cr w0 h1 br (avsOf L ++ SA) vs gh st) [] (MX e s') g (Qr e)) →
      W P N (some l) (Cr w0 h1 br (avsOf L ++ SA) vs gh st) body (La k) (Ms s) g Qr)
    (done : ∀ s, J items.length s → At N (Cq w0 h0 SA SV br) L (Ms s) g (Q .normal)) (left : ∀ e s, JX e s → At N (Cq w0 h0 SA SV br) L (MX e s) g (Q e)) : W P N none (Cq w0 h0 SA SV br) (.rangeFunc fop ps assign body) L M g Q := by
  refine At.convM hM ?_
  intro h ρ a w I
  refine wpIn_rangeFunc ?_
  intro fn hfn
  -- the function, and its contract
  have hfv : ∃ ws : List Value, a.eval fop = .func (.func gf) #[] ws.toArray ∧ RelL h ρ0 caps ws := by
    have h1 : Rel h ρ (evO (fr L) fop) (a.eval fop) := by
      cases fop with
      | tmp t => exact I.slot t
      | const v => exact Rel.ofVal h ρ v
      | func f => exact .fn _ _ _ _ [] [] rfl rfl (fun i c v hc => by simp at hc) (fun i c v hc => by simp at hc)
      | global g => exact .any _ _
    rw [hf] at h1
    generalize a.eval fop = z at h1
    cases h1 with
    | clo _ _ _ _ _ h2 =>
    cases h2 with
    | fn _ _ _ _ us ws hl hm _ hd =>
      have e1 : us = [] := by simpa using hl
      subst e1
      exact ⟨ws, rfl, hm, hd⟩
  obtain ⟨ws, hev, hws⟩ := hfv
  obtain ⟨rec, hrec⟩ : ∃ rec : LoopState → Option Code → Loop, rec = fun st pe => { state := st, pending := pe, fn, tmps := a.tmps, params := ps, assign, body, defers := w.heap.size } := ⟨_, rfl⟩
  obtain ⟨W1, hW1⟩ : ∃ W1, (w.alloc (.deferred (some []))).alloc (.loop (rec .ready none)) = W1 := ⟨_, rfl⟩
  have hL1 : W1.heap[w.heap.size + 1]? = some (.loop (rec .ready none)) := by
    rw [← hW1]; have := World.alloc_heap_new (w.alloc (.deferred (some []))) (.loop (rec .ready none)); rwa [World.size_alloc] at this
  have hK1 : W1.heap[w.heap.size]? = some (.deferred (some [])) := by
    rw [← hW1]; exact (RowKit.Below.heap_alloc _ _ _ (by simp)).trans (World.alloc_heap_new w _)
  have hS1 : W1.heap.size = w.heap.size + 2 := by rw [← hW1]; simp
  have hB1 : RowKit.Below w.heap.size w W1 := by
    rw [← hW1]; exact ((((RowKit.Below.refl _ w).alloc (Nat.le_refl _) _).alloc (by simp) _))
  obtain ⟨D, hD⟩ : ∃ D, w.heap.size = D := ⟨_, rfl⟩
  have hnod : ∀ {h' : Hp}, ∃ Ds : List Nat, ([] : List Deferred) = Ds.map (fun D => { target := .collected D, args := #[] }) ∧ Ds.Nodup ∧ ∀ D, D ∈ Ds → h' D = some (.deferred (some [])) ∧ w0.heap.size ≤ D := fun {h'} => ⟨[], rfl, List.nodup_nil, fun D hD => (by cases hD)⟩
  have hlt0 : ∀ b o, h b = some o → b < D := fun b o hb => by rw [← hD]; exact I.hlt hb
  obtain ⟨vs0, hvs⟩ : ∃ vs, L.map (fun p => a.tmps.getD p.1 undef) = vs := ⟨_, rfl⟩
  obtain ⟨hav1, hav2⟩ := avsOf_fr (fun t => a.tmps.getD t undef) L
  rw [hvs] at hav1 hav2
  obtain ⟨vs, hvs2⟩ : ∃ vs, vs0 ++ SV = vs := ⟨_, rfl⟩
  have hsv : SV.length = SA.length := I.sav.1
  have hsz0 : w0.heap.size ≤ D := by rw [← hD]; exact I.sz
  have slotL : ∀ {h' : Hp} {ρ' : Rho}, (vs.length = (avsOf L ++ SA).length ∧ ∀ (i : Nat) (c : AV) (v : Value), (avsOf L ++ SA)[i]? = some c → vs[i]? = some v → Rel h' ρ' c v) → ∀ t, Rel h' ρ' (fr L t) (a.tmps.getD t undef) := fun hs t => by
    rcases hav2 t with e | ⟨i, q1, q2⟩
    · rw [e]; exact .any _ _
    · refine hs.2 i _ _ ?_ ?_
      · rw [List.getElem?_append_left (List.getElem?_eq_some_iff.1 q1).1]; exact q1
      · rw [← hvs2, List.getElem?_append_left (List.getElem?_eq_some_iff.1 q2).1]; exact q2
  have slotS : ∀ {h' : Hp} {ρ' : Rho}, (vs.length = (avsOf L ++ SA).length ∧ ∀ (i : Nat) (c : AV) (v : Value), (avsOf L ++ SA)[i]? = some c → vs[i]? = some v → Rel h' ρ' c v) → ∀ (i : Nat) (c : AV) (v : Value), SA[i]? = some c → SV[i]? = some v → Rel h' ρ' c v := fun hs i c v h1 h2 => by
    refine hs.2 ((avsOf L).length + i) _ _ ?_ ?_
    · rw [List.getElem?_append_right (Nat.le_add_right _ _), Nat.add_sub_cancel_left]; exact h1
    · rw [← hvs2, ← hav1, List.getElem?_append_right (Nat.le_add_right _ _), Nat.add_sub_cancel_left]; exact h2
  let T : (Nat → Prop) → World → Prop := fun _ _ => True
  have sT : Stab T := fun _ _ _ _ _ _ _ _ _ _ _ => trivial
  -- the caller between two rounds, while the iterator holds X
  let MidP : List (Nat × Blk) → (Nat → Prop) → World → Prop := fun Mx X Wd => (∃ h' ρ' a0, a0.defers = [] ∧ InvH N (Cr w0 h br (avsOf L ++ SA) vs T sT) h' ρ' (fr []) (mm Mx) g a0 Wd ∧ ∀ b, (X b ∨ b = D ∨ b = D + 1) → h' b = none ∧ ¬ ownSet ρ' b) ∧ Wd.heap[D]? = some (.deferred (some [])) ∧ W1.heap.size ≤ Wd.heap.size ∧ ∀ b, X b → W1.heap.size ≤ b
  let Jf : Nat → (Nat → Prop) → World → Prop := fun k X Wd => match k with
    | 0 => ∃ e s, JX e s ∧ MidP (MX e s) X Wd ∧ Wd.heap[D + 1]? = some (.loop (rec .done (some (jumpOf e))))
    | k + 1 => ∃ s, J k s ∧ MidP (Ms s) X Wd ∧ Wd.heap[D + 1]? = some (.loop (rec .ready none))
  have midStab : ∀ Mx (o : Obj), Stab (fun X Wd => MidP Mx X Wd ∧ Wd.heap[D + 1]? = some o) := by
    rintro Mx o X X' wd wd' ⟨⟨⟨h', ρ', a0, hd0, I0, hZ⟩, m1, m2, m3⟩, m4⟩ hos htape hout hsz hk hX'
    have hDX : ¬ X D := fun hx => by have := m3 D hx; omega
    have hDX' : ¬ X (D + 1) := fun hx => by have := m3 _ hx; omega
    refine ⟨⟨⟨h', ρ', a0, hd0, I0.reframe (Z := X) I0.slot I0.size (by rw [hd0]; exact hnod) (fun b hb => ⟨(hZ b (.inl hb)).1, (hZ b (.inl hb)).2, by have := m3 b hb; omega⟩) hos htape hout hsz hk ⟨fun _ => True, fun _ _ => trivial, fun _ _ _ => .inr trivial, trivial⟩, fun b hb => ?_⟩, ?_, Nat.le_trans m2 hsz, fun b hb => ?_⟩, ?_⟩
    · rcases hb with hb | hb
      · rcases hX' b hb with h2 | h2
        · exact hZ b (.inl h2)
        · refine ⟨?_, fun ⟨id, li, q1, q2⟩ => ?_⟩
          · cases ho : h' b with
            | none => rfl
            | some o => have := I0.hlt ho; omega
          · have := (I0.own id li b q1 q2).2.1; omega
      · exact hZ b (.inr hb)
    · rw [hk D (by omega) hDX]; exact m1
    · rcases hX' b hb with h2 | h2
      · exact m3 b h2
      · omega
    · rw [hk _ (by omega) hDX']; exact m4
  have hstab : ∀ k, Stab (Jf k) := by
    intro k X X' wd wd' H hos htape hout hsz hk hX'
    cases k with
    | zero =>
      obtain ⟨e, s, q1, q2⟩ := H
      exact ⟨e, s, q1, midStab _ _ X X' wd wd' q2 hos htape hout hsz hk hX'⟩
    | succ k =>
      obtain ⟨s, q1, q2⟩ := H
      exact ⟨s, q1, midStab _ _ X X' wd wd' q2 hos htape hout hsz hk hX'⟩
  have hyld : Yld P h (D + 1) Jf items := by
    rintro k X W it us ⟨s, hJ, ⟨⟨h', ρ', a0, hd0, I0, hZ⟩, m1, m2, m3⟩, hl⟩ hitk hus
    obtain ⟨hitl, hitg⟩ := hit it (List.mem_of_getElem? hitk)
    have hsz2 : us.toArray.size = ps.size := by simp only [List.size_toArray]; rw [hus.1, hitl]
    have hy := run_yield (P := P) (args := us.toArray) hl (by rw [hrec]; exact hsz2)
    rw [hrec] at hy
    refine ⟨fn, _, assign, body, hy, roundIn_of_wpIn (F := Fw none) (n := 1) trivial ?_⟩
    have hfold : (ps.zip us.toArray).foldl (fun tmps (x : Nat × Value) => tmps.setIfInBounds x.1 x.2) a.tmps = ((ps.toList.zip us).foldl (fun (tm : Array Value) (x : Nat × Value) => tm.setIfInBounds x.1 x.2) a.tmps) := by
      rw [← Array.foldl_toList, Array.toList_zip]
    obtain ⟨z1, z2⟩ := zip_slots ps.toList it us a.tmps (fr L) (hus.of_gr (h' := h') (ρ' := ρ') hitg) (by simpa using hitl) (fun t ht => allLt_spec hpN t ht) I.size (noDupN_spec hpd) (slotL I0.sav)
    rw [← hfold] at z1 z2
    obtain ⟨Z, hZd⟩ : ∃ Z : Nat → Prop, Z = fun b => (X b ∧ b < W.heap.size) ∨ b = D ∨ b = D + 1 := ⟨_, rfl⟩
    have hZlt : ∀ b, Z b → b < W.heap.size ∧ D ≤ b := fun b hb => by
      rw [hZd] at hb
      rcases hb with hb | hb
      · exact ⟨hb.2, by have := m3 b hb.1; omega⟩
      · exact ⟨by omega, by omega⟩
    have hZ' : ∀ b, Z b → h' b = none ∧ ¬ ownSet ρ' b := fun b hb => by
      rw [hZd] at hb
      exact hZ b (hb.imp (fun h => h.1) (fun h => h))
    have still0 : ∀ (h2 : Hp) (ρ2 : Rho), (∀ b, Z b → h2 b = none ∧ ¬ ownSet ρ2 b) → ∀ (V : Nat → Option Obj) (w2 : World), W.heap.size ≤ w2.heap.size → (∀ b, Z b → w2.heap[b]? = V b) → ∃ Y : Nat → Prop, (∀ b, ownSet ρ2 b → Y b) ∧ (∀ b o, h2 b = some o → h b = some o ∨ Y b) ∧ Still Z V W.heap.size Y w2 :=
      fun h2 ρ2 hz V w2 hsz hv => ⟨fun b => ¬ Z b, fun b hb hzb => (hz b hzb).2 hb, fun b o hb => .inr (fun hzb => by rw [(hz b hzb).1] at hb; cases hb), fun b hb => ⟨(hZlt b hb).1, fun hn => hn hb, hv b hb⟩, hsz⟩
    have free : ∀ {gh : (Nat → Prop) → World → Prop} {st : Stab gh} {V : Nat → Option Obj} {h2 : Hp} {ρ2 : Rho} {F2 : Fr} {M2 : Mm} {a2 : Act} {w2 : World}, InvH N (Cr w0 h br (avsOf L ++ SA) vs (Still Z V W.heap.size) (Still.stab _ _ _)) h2 ρ2 F2 M2 g a2 w2 → (∀ b, Z b → h2 b = none ∧ ¬ ownSet ρ2 b) ∧ (∀ b, Z b → w2.heap[b]? = V b) ∧ W.heap.size ≤ w2.heap.size :=
      fun {gh st V h2 ρ2 F2 M2 a2 w2} I2 => by
        obtain ⟨Y, y1, y2, y3⟩ := I2.gst
        refine ⟨fun b hb => ⟨?_, fun ho => (y3.1 b hb).2.1 (y1 b ho)⟩, fun b hb => (y3.1 b hb).2.2, y3.2⟩
        cases ho : h2 b with
        | none => rfl
        | some o =>
          rcases y2 b o ho with h3 | h3
          · have := hlt0 b o h3; have := (hZlt b hb).2; omega
          · exact absurd h3 (y3.1 b hb).2.1
    have hlast : ∀ b, Z b → b ≠ D + 1 → (X b ∧ b < W.heap.size) ∨ b = D := fun b hb hne => by
      rw [hZd] at hb
      rcases hb with hb | hb | hb
      · exact .inl hb
      · exact .inr hb
      · exact absurd hb hne
    have zD : Z D := by rw [hZd]; exact .inr (.inl rfl)
    have zD1 : Z (D + 1) := by rw [hZd]; exact .inr (.inr rfl)
    refine asg h vs (Still Z (fun b => W.heap[b]?) W.heap.size) (Still.stab _ _ _) (D + 1) k it s hitk _ (fun h2 ρ2 a1 w1 I2 => ?_) h' ρ' _ W
      (I0.reframe (Z := fun _ => False) (a' := { tmps := (ps.zip us.toArray).foldl (fun tmps (x : Nat × Value) => tmps.setIfInBounds x.1 x.2) a.tmps, defers := [] }) (fun t => by rw [fr_zip]; exact z2 t) z1 hnod (fun b hb => hb.elim) rfl rfl rfl (Nat.le_refl _) (fun _ _ _ => rfl) (still0 h' ρ' hZ' _ W (Nat.le_refl _) (fun b hb => rfl)))
    obtain ⟨f1, f2, f3⟩ := free (gh := T) (st := sT) I2
    have hl1 : w1.heap[D + 1]? = some (.loop (rec .ready none)) := (f2 _ zD1).trans hl
    have hbr := run_beginRound (P := P) hl1 (by rw [hrec])
    refine ⟨_, hbr, ?_⟩
    have hlt1 : D + 1 < w1.heap.size := (Array.getElem?_eq_some_iff.1 hl1).1
    have hl2 : (w1.putObj (D + 1) (.loop { rec .ready none with state := .busy })).heap[D + 1]? = some (.loop { rec .ready none with state := .busy }) := World.putObj_heap_same hlt1
    refine round h vs (Still Z (fun b => if b = D + 1 then some (.loop { rec .ready none with state := .busy }) else W.heap[b]?) W.heap.size) (Still.stab _ _ _) (D + 1) k it s hitk hJ _ (fun s' hJ' h3 ρ3 a3 w3 I3 => ?_) (fun e s' hJX h3 ρ3 a3 w3 I3 => ?_) h2 ρ2 a1 _
      (I2.reframe (Z := fun b => b = D + 1) I2.slot I2.size I2.dfr (fun b hb => by subst hb; exact ⟨(f1 _ zD1).1, (f1 _ zD1).2, by omega⟩) rfl rfl rfl (by simp) (fun kk _ hkk => World.putObj_heap_other hkk) (still0 h2 ρ2 f1 _ _ (by simpa using f3) (fun b hb => by
        by_cases hbe : b = D + 1
        · subst hbe; rw [if_pos rfl]; exact hl2
        · rw [if_neg hbe, World.putObj_heap_other hbe]; exact f2 b hb)))
    all_goals
      obtain ⟨p1, p2, p3⟩ := free (gh := T) (st := sT) I3
      have hl3 : w3.heap[D + 1]? = some (.loop { rec .ready none with state := .busy }) := by have := p2 _ zD1; rw [if_pos rfl] at this; exact this
      have hlt3 : D + 1 < w3.heap.size := (Array.getElem?_eq_some_iff.1 hl3).1
      have mid : ∀ (Mx : List (Nat × Blk)), InvH N (Cr w0 h br (avsOf L ++ SA) vs (Still Z (fun b => if b = D + 1 then some (.loop { rec .ready none with state := .busy }) else W.heap[b]?) W.heap.size) (Still.stab _ _ _)) h3 ρ3 (fr []) (mm Mx) g a3 w3 → ∀ o, MidP Mx (fun b => X b ∧ b < W.heap.size) (w3.putObj (D + 1) o) := fun Mx I3 o =>
        ⟨⟨h3, ρ3, { a3 with defers := [] }, rfl, I3.reframe (Z := fun b => b = D + 1) (fun t => .any _ _) I3.size hnod (fun b hb => by subst hb; exact ⟨(p1 _ zD1).1, (p1 _ zD1).2, by omega⟩) rfl rfl rfl (by simp) (fun kk _ hkk => World.putObj_heap_other hkk) ⟨fun _ => True, fun _ _ => trivial, fun _ _ _ => .inr trivial, trivial⟩,
          fun b hb => p1 b (by rw [hZd]; exact hb)⟩, by
            rw [World.putObj_heap_other (by omega)]
            have := p2 _ zD; rw [if_neg (by omega)] at this
            exact this.trans m1, by simp; omega, fun b hb => m3 b hb.1⟩
      have kept : ∀ o, RoundPost h X W (fun _ _ => True) (.returned (.bool true)) (w3.putObj (D + 1) o) := fun o =>
        ⟨true, rfl, trivial, I3.os.trans I0.os.symm, I3.tape.trans I0.tape.symm, I3.out.trans I0.out.symm, by simpa using p3, fun kk hkk hX => by
          have hne : kk ≠ D + 1 := fun e => by have := m3 kk hX; omega
          rw [World.putObj_heap_other hne]
          have := p2 kk (by rw [hZd]; exact .inl ⟨hX, hkk⟩)
          rw [if_neg hne] at this
          exact this, fun kk o' hk' => by
          have := hlt0 kk o' hk'
          rw [World.putObj_heap_other (by omega)]
          exact I3.hp kk o' (I3.ext kk o' hk')⟩
    · have hr := run_endRound (P := P) none hl3
      refine ⟨_, _, hr, ?_⟩
      obtain ⟨_, _, _, k1, k2, k3, k4, k5, k6⟩ := kept (.loop { ({ rec .ready none with state := .busy } : Loop) with state := .ready, pending := none })
      refine ⟨true, rfl, ⟨s', hJ', mid _ I3 _, ?_⟩, k1, k2, k3, k4, k5, k6⟩
      rw [World.putObj_heap_same hlt3, hrec]; rfl
    · rcases hX e s' hJX with rfl | ⟨i, rfl⟩
      · have hr := run_endRound (P := P) (some .ret) hl3
        refine ⟨_, _, hr, ?_⟩
        obtain ⟨_, _, _, k1, k2, k3, k4, k5, k6⟩ := kept (.loop { ({ rec .ready none with state := .busy } : Loop) with state := .done, pending := some .ret })
        refine ⟨false, rfl, ⟨.ret, s', hJX, mid _ I3 _, ?_⟩, k1, k2, k3, k4, k5, k6⟩
        rw [World.putObj_heap_same hlt3, hrec]; rfl
      · have hr := run_endRound (P := P) (some (.exit i)) hl3
        refine ⟨_, _, hr, ?_⟩
        obtain ⟨_, _, _, k1, k2, k3, k4, k5, k6⟩ := kept (.loop { ({ rec .ready none with state := .busy } : Loop) with state := .done, pending := some (.exit i) })
        refine ⟨false, rfl, ⟨.exit i, s', hJX, mid _ I3 _, ?_⟩, k1, k2, k3, k4, k5, k6⟩
        rw [World.putObj_heap_same hlt3, hrec]; rfl
  -- the way back
  have back : ∀ (Mx : List (Nat × Blk)) (X : Nat → Prop) (W : World) (o0 o1 : Obj), MidP Mx X W → W.heap[D + 1]? = some o0 → ∃ h' ρ', InvH N (Cq w0 h0 SA SV br) h' ρ' (fr L) (mm Mx) g { a with defers := [{ target := .collected D, args := #[] }] ++ a.defers } (W.putObj (D + 1) o1) := by
    rintro Mx X W o0 o1 ⟨⟨h', ρ', a0, hd0, I0, hZ⟩, m1, m2, m3⟩ hl
    have hlt : D + 1 < W.heap.size := (Array.getElem?_eq_some_iff.1 hl).1
    obtain ⟨hz1, hz2⟩ := hZ D (.inr (.inl rfl))
    obtain ⟨hy1, hy2⟩ := hZ (D + 1) (.inr (.inr rfl))
    have hle : ∀ b o, h' b = some o → upd h' D (some (.deferred (some []))) b = some o := fun b o hb => by
      rw [upd_other _ _ (fun e => by subst e; rw [hz1] at hb; cases hb)]; exact hb
    refine ⟨upd h' D (some (.deferred (some []))), ρ', ⟨fun t => (slotL I0.sav t).heap (Le.of hle), ⟨hsv, fun i c v h1 h2 => (slotS I0.sav i c v h1 h2).heap (Le.of hle)⟩, I.size, fun b o hb => ?_, fun id x hx => ?_, I0.dom, fun id li b q1 q2 => ?_, I0.inj, I0.os, I0.tape, I0.out, by have := I0.sz; rw [World.putObj_size]; exact this, fun kk hk0 hb => ?_, fun b o hb => hle b o (I0.ext b o (I.ext b o hb)), fun b o hb hlt' => ?_, ⟨fun _ => True, fun _ _ => trivial, fun _ _ _ => .inr trivial, trivial⟩, ?_⟩⟩
    · by_cases hbD : b = D
      · subst hbD
        rw [upd_same] at hb; cases hb
        rw [World.putObj_heap_other (by omega)]; exact m1
      · rw [upd_other _ _ hbD] at hb
        rw [World.putObj_heap_other (fun e => by subst e; rw [hy1] at hb; cases hb)]; exact I0.hp b o hb
    · exact (I0.blk id x hx).keep (Le.of hle) rfl (hle_refl _) (fun li b q1 q2 => World.putObj_heap_other (fun e => by subst e; exact hy2 ⟨id, li, q1, q2⟩))
    · obtain ⟨q3, q4, q5⟩ := I0.own id li b q1 q2
      refine ⟨?_, by simpa using q4, ?_⟩
      · rw [upd_other _ _ (fun e => by subst e; exact hz2 ⟨id, li, q1, q2⟩)]; exact q3
      · exact q5
    · rw [World.putObj_heap_other (by have : kk < w0.heap.size := hk0; omega)]; exact I0.kept kk hk0 hb
    · have hne : b ≠ D := by have : b < w0.heap.size := hlt'; omega
      rw [upd_other _ _ hne] at hb
      exact I.old b o (I0.old b o hb hlt') hlt'
    · obtain ⟨Ds, hd1, hd2, hd3⟩ := I.dfr
      refine ⟨D :: Ds, by simp [hd1], List.nodup_cons.2 ⟨fun hm => ?_, hd2⟩, fun D' hD' => ?_⟩
      · have := hlt0 D _ (hd3 D hm).1; omega
      · rcases List.mem_cons.1 hD' with rfl | hm
        · exact ⟨upd_same _ _ _, hsz0⟩
        · exact ⟨hle _ _ (I0.ext _ _ (hd3 D' hm).1), (hd3 D' hm).2⟩
  have hj1 : Jf 1 (fun _ => False) W1 := by
    refine ⟨s0, hJ0, ⟨⟨h, ρ, { a with defers := [] }, rfl, ?_, fun b hb => ?_⟩, hD ▸ hK1, Nat.le_refl _, fun b hb => hb.elim⟩, hD ▸ hL1⟩
    · refine ⟨fun t => .any _ _, ⟨by show vs.length = (avsOf L ++ SA).length; rw [← hvs2, List.length_append, List.length_append, hav1, hsv], fun i c v q1 q2 => ?_⟩, I.size, fun b o hb => ?_, fun id x hx => ?_, I.dom, fun id li b q1 q2 => ?_, I.inj, hB1.os.trans I.os, hB1.tape.trans I.tape, hB1.output.trans I.out, Nat.le_trans I.sz hB1.size, fun kk hk0 hb => ?_, fun b o hb => hb, fun b o hb _ => hb, ⟨fun _ => True, fun _ _ => trivial, fun _ _ _ => .inr trivial, trivial⟩, hnod⟩
      · replace q1 : (avsOf L ++ SA)[i]? = some c := q1
        replace q2 : vs[i]? = some v := q2
        rcases Nat.lt_or_ge i (avsOf L).length with hi | hi
        rotate_left
        · rw [List.getElem?_append_right hi] at q1
          rw [← hvs2, List.getElem?_append_right (by rw [hav1]; exact hi), hav1] at q2
          exact I.sav.2 _ c v q1 q2
        rw [List.getElem?_append_left hi] at q1
        rw [← hvs2, List.getElem?_append_left (by rw [hav1]; exact hi)] at q2
        obtain ⟨t, q3⟩ : ∃ t, L[i]? = some (t, c) := by
          have : ∀ (L : List (Nat × AV)) (i : Nat), (avsOf L)[i]? = some c → ∃ t, L[i]? = some (t, c) := by
            intro L
            induction L with
            | nil => intro i h; simp [avsOf] at h
            | cons x r ih =>
              obtain ⟨d, v⟩ := x
              intro i h
              cases i with
              | zero => simp [avsOf] at h; subst h; exact ⟨d, rfl⟩
              | succ i => simpa [avsOf] using ih i (by simpa [avsOf] using h)
          exact this L i q1
        have q4 : fr L t = c := by
          have : ∀ (L : List (Nat × AV)), noDupN (L.map (·.1)) = true → ∀ i : Nat, L[i]? = some (t, c) → fr L t = c := by
            intro L
            induction L with
            | nil => intro _ i h; simp at h
            | cons x r ih =>
              obtain ⟨d, v⟩ := x
              intro hn i h
              have hn' := noDupN_spec hn
              simp only [List.map_cons] at hn'
              cases i with
              | zero =>
                simp at h; obtain ⟨rfl, rfl⟩ := h
                exact put_same _ _ _
              | succ i =>
                have hi : r[i]? = some (t, c) := by simpa using h
                have hne : t ≠ d := by
                  rintro rfl
                  exact (List.nodup_cons.1 hn').1 (List.mem_map.2 ⟨(t, c), List.mem_of_getElem? hi, rfl⟩)
                simp only [fr]
                rw [put_other _ _ hne]
                refine ih ?_ i hi
                simp only [List.map_cons] at hn
                unfold noDupN at hn
                split at hn
                · cases hn
                · exact hn
          exact this L hLd i q3
        have q5 : v = a.tmps.getD t undef := by
          replace q2 : (L.map (fun p => a.tmps.getD p.1 undef))[i]? = some v := by rw [hvs]; exact q2
          rw [List.getElem?_map, q3] at q2
          simpa using q2.symm
        rw [q5, ← q4]
        exact I.slot t
      · rw [hB1.block b (I.hlt hb)]; exact I.hp b o hb
      · exact (I.blk id x hx).keep (Le.refl h) rfl (hle_refl _) (fun li b q1 q2 => hB1.block b (I.own id li b q1 q2).2.1)
      · obtain ⟨q3, q4, q5⟩ := I.own id li b q1 q2
        exact ⟨q3, Nat.lt_of_lt_of_le q4 hB1.size, q5⟩
      · rw [hB1.block kk (Nat.lt_of_lt_of_le hk0 I.sz)]; exact I.kept kk hk0 hb
    · have hge : D ≤ b := by rcases hb with hb | hb | hb
                             · exact hb.elim
                             · omega
                             · omega
      refine ⟨?_, fun ⟨id, li, q1, q2⟩ => ?_⟩
      · cases ho : h b with
        | none => rfl
        | some o => have := hlt0 b o ho; omega
      · have := (I.own id li b q1 q2).2.1; omega
  refine ⟨w.heap.size + 1, [{ target := .collected w.heap.size, args := #[] }], W1, { target := .fn (.func gf) ws.toArray, args := #[.func (.yield (w.heap.size + 1)) #[] #[]] }, W1, gf,
    #[.func (.yield (w.heap.size + 1)) #[] #[]] ++ ws.toArray, W1, ?_, ?_, fun f' hf' => trivial, ?_, fun _ => Nat.le_refl _, ?_⟩
  · rw [← hW1, hrec]; exact run_enterLoop_outer _ _ _ _ _
  · simp only [resolve, hev]
    simp [go_sem]
  · have eg : ∀ args w, (callFunc gf args).run P w = .ok (.enter gf args) w := hI.1
    simp [invoke, go_sem, eg]
  · have harr : #[Value.func (.yield (w.heap.size + 1)) #[] #[]] ++ ws.toArray = (Value.func (.yield (D + 1)) #[] #[] :: ws).toArray := by rw [hD]; simp
    rw [harr, hD]
    refine callsIn_w ((hI.2 h W1 ws hws (fun b o hb => by rw [hB1.block b (I.hlt hb)]; exact I.hp b o hb) (D + 1) Jf hstab hyld hj1).mono ?_)
    rintro e W2 ⟨⟨v, rfl⟩, X, hJe⟩
    rcases hJe with ⟨s, hJ, hmid, hl⟩ | ⟨e', s, hJX, hmid, hl⟩
    · have h5 := run_endLoop (P := P) hl (by rw [hrec]; simp)
      have h6 : (rec .ready none).pending = none := by rw [hrec]
      rw [h6] at h5
      obtain ⟨h', ρ', I'⟩ := back _ X W2 _ _ hmid hl
      exact ⟨none, _, h5, done s hJ h' ρ' _ _ I'⟩
    · have h5 := run_endLoop (P := P) hl (by rw [hrec]; simp)
      have h6 : (rec .done (some (jumpOf e'))).pending = some (jumpOf e') := by rw [hrec]
      rw [h6] at h5
      refine ⟨some (jumpOf e'), _, h5, ?_⟩
      rcases hX e' s hJX with rfl | ⟨i, rfl⟩
      · obtain ⟨h', ρ', I'⟩ := back _ X W2 _ _ hmid hl
        exact wpIn_ret (left _ s hJX h' ρ' _ _ I')
      · obtain ⟨h', ρ', I'⟩ := back _ X W2 _ _ hmid hl
        exact wpIn_exit (left _ s hJX h' ρ' _ _ I')
theorem W.listGo {fop : Operand} {ps : Array Tmp} {assign body : Code} {gf : FuncId} {caps : List AV} {A S R : Type} {bd : A → S → (S → R) → R} {exit : S → R} {l : List A} {s0 : S} {r : R} (H : Sp.listGo bd exit l s0 = r) (enc : A → List AV)
    (hI : Iter P gf caps (l.map enc)) (hf : evO (fr L) fop = .clo (.func gf) [] caps) (henc : ∀ x, (enc x).length = ps.size ∧ grL (enc x) = true) (hpN : allLt N ps.toList = true) (hpd : noDupN ps.toList = true) (hLd : noDupN (L.map (·.1)) = true)
    (Ms : S → List (Nat × Blk)) (hM : AgreeM M (Ms s0)) (La : A → List (Nat × AV))
    {SX : Type} (JX : Exit → SX → Prop) (MX : Exit → SX → List (Nat × Blk)) (hX : ∀ e s, JX e s → e = .ret ∨ ∃ i, e = .exit i) (hval : ∀ b o, h0 b = some o → w0.heap[b]? = some o)
    (asg : ∀ (h1 : Hp) (vs : List Value) (gh : (Nat → Prop) → World → Prop) (st : Stab gh) (lp : Nat) (x : A) (s : S) (K : Act → World → Prop), At N (Cr w0 h1 br (avsOf L ++ SA) vs gh st) (La x) (Ms s) g K →
      W P N (some lp) (Cr w0 h1 br (avsOf L ++ SA) vs gh st) assign (zipT ps.toList (enc x) ++ L) (Ms s) g (Exit.then K (fun _ _ _ => False)))
    (round : ∀ (κ : S → R) (h1 : Hp) (vs : List Value) (gh : (Nat → Prop) → World → Prop) (st : Stab gh) (lp : Nat) (x : A) (s : S), bd x s κ = r → ∀ Qr : Exit → Act → World → Prop,
      (∀ s', κ s' = r → At N (Cr w0 h1 br (avsOf L ++ SA) vs gh st) [] (Ms s') g (Qr .normal)) → (∀ e s', JX e s' → At N (Cr w0 h1 br (avsOf L ++ SA) vs gh st) [] (MX e s') g (Qr e)) →
      W P N (some lp) (Cr w0 h1 br (avsOf L ++ SA) vs gh st) body (La x) (Ms s) g Qr)
    (done : ∀ s, exit s = r → At N (Cq w0 h0 SA SV br) L (Ms s) g (Q .normal)) (left : ∀ e s, JX e s → At N (Cq w0 h0 SA SV br) L (MX e s) g (Q e)) : W P N none (Cq w0 h0 SA SV br) (.rangeFunc fop ps assign body) L M g Q := by
  have key : ∀ (k : Nat) (it : List AV), (l.map enc)[k]? = some it → ∃ x, l[k]? = some x ∧ it = enc x ∧ l.drop k = x :: l.drop (k + 1) := by
    intro k it h
    rw [List.getElem?_map] at h
    cases hx : l[k]? with
    | none => simp [hx] at h
    | some x =>
      simp [hx] at h
      obtain ⟨hlt, rfl⟩ := List.getElem?_eq_some_iff.1 hx
      exact ⟨_, rfl, h.symm, List.drop_eq_getElem_cons hlt⟩
  refine W.rangeFunc hf hI (fun it hit => ?_) hpN hpd hLd (S := S) (fun k s => Sp.listGo bd exit (l.drop k) s = r) Ms s0 (by simpa using H) hM (fun k => match l[k]? with | some x => La x | none => []) JX MX hX hval
    (fun h1 vs gh st lp k it s hit K hK => ?_) (fun h1 vs gh st lp k it s hit hJ Qr hQ hQx => ?_) (fun s hJ => ?_) left
  · obtain ⟨x, _, rfl⟩ := List.mem_map.1 hit
    exact henc x
  · obtain ⟨x, hx, rfl, _⟩ := key k it hit
    simp only [hx] at hK
    exact asg h1 vs gh st lp x s K hK
  · obtain ⟨x, hx, rfl, hd⟩ := key k it hit
    simp only [hx]
    rw [hd] at hJ
    exact round _ h1 vs gh st lp x s hJ Qr hQ hQx
  · refine done s ?_
    rw [List.length_map, List.drop_length] at hJ
    exact hJ
end
def Yl {A : Type} (items : List A) (g : Nat) (r : List A) : Prop := ∃ d, items = d ++ r ∧ g = d.length + 1
theorem Yl.start {A : Type} (items : List A) : Yl items 1 items := ⟨[], rfl, rfl⟩
theorem Yl.item {A : Type} {items r : List A} {g : Nat} {Wb : Bool} {x : A} {rest : Option (List A)} (enc : A → List AV) (H : emitIf Wb x rest = some r) (hY : Yl items g r) (hW : Wb = true) : ∃ q, g = q + 1 ∧ (items.map enc)[q]? = some (enc x) := by
  subst hW
  obtain ⟨d, rfl, rfl⟩ := hY
  unfold emitIf at H
  cases rest with
  | none => simp at H
  | some l =>
    simp at H; subst H
    exact ⟨d.length, rfl, by simp⟩
theorem Yl.next {A : Type} {items r : List A} {g g' : Nat} {Wb : Bool} {x : A} {rest : Option (List A)} (H : emitIf Wb x rest = some r) (hY : Yl items g r) (h1 : Wb = false → g' = g) (h2 : Wb = true → g' = g + 1) : ∃ r', rest = some r' ∧ Yl items g' r' := by
  obtain ⟨d, rfl, rfl⟩ := hY
  unfold emitIf at H
  cases Wb with
  | false => rw [h1 rfl]; exact ⟨r, H, d, rfl, rfl⟩
  | true =>
    rw [h2 rfl]
    cases rest with
    | none => simp at H
    | some l =>
      simp at H; subst H
      exact ⟨l, rfl, d ++ [x], by simp, by simp⟩
theorem Yl.fin {A : Type} {items r : List A} {g : Nat} (enc : A → List AV) (H : some [] = some r) (hY : Yl items g r) : g = (items.map enc).length + 1 := by
  cases H
  obtain ⟨d, rfl, rfl⟩ := hY
  simp
theorem Yl.split {g g' : Nat} {Wb b : Bool} (h1 : Wb = false → g' = g) (h2 : Wb = true → g' = bif b then g + 1 else 0) : (Wb = true ∧ b = false ∧ g' = 0) ∨ ((Wb = true → b = true) ∧ (Wb = false → g' = g) ∧ (Wb = true → g' = g + 1)) := by
  cases Wb with
  | false => exact .inr ⟨fun h => (by cases h), fun _ => h1 rfl, fun h => (by cases h)⟩
  | true =>
    cases b with
    | false => exact .inl ⟨rfl, rfl, h2 rfl⟩
    | true => exact .inr ⟨fun _ => rfl, fun h => (by cases h), fun _ => h2 rfl⟩
section
variable {P : Program} {N : Nat} {C : Ctx} {rr : Option Nat} {L : List (Nat × AV)} {M : List (Nat × Blk)} {g : Nat} {Q : Exit → Act → World → Prop}
theorem W.loopG {S : Type} {c : Code} (J : Nat → S → Prop) (Ls : S → List (Nat × AV)) (Ms : S → List (Nat × Blk)) (gs : S → Nat) {n0 : Nat} {s0 : S} (h0 : J n0 s0) (hL : Agree (fr L) (Ls s0)) (hM : AgreeM M (Ms s0)) (hg : gs s0 = g)
    (round : ∀ n s, J n s → ∀ K : Act → World → Prop, (∀ n' s', n' < n → J n' s' → At N C (Ls s') (Ms s') (gs s') K) → W P N rr C c (Ls s) (Ms s) (gs s) (Exit.then K Q)) : W P N rr C (.loop c) L M g Q := by
  refine At.conv hL hM ?_
  subst hg
  intro h ρ a w I
  let J' : Nat → Act → World → Prop := fun n a w => ∃ s h ρ, J n s ∧ InvH N C h ρ (fr (Ls s)) (mm (Ms s)) (gs s) a w
  have hex : ∃ n, J' n a w := ⟨n0, s0, h, ρ, h0, I⟩
  classical
  let μ : Act → World → Nat := fun a w => if hh : ∃ n, J' n a w then Classical.choose (exists_least hh) else 0
  have hμ : ∀ a w, (hh : ∃ n, J' n a w) → J' (μ a w) a w ∧ ∀ m, J' m a w → μ a w ≤ m := fun a w hh => by
    have : μ a w = Classical.choose (exists_least hh) := dif_pos hh
    rw [this]
    exact Classical.choose_spec (exists_least hh)
  refine wpIn_loop (fun a w => ∃ n, J' n a w) μ hex ?_
  intro a w ha
  obtain ⟨⟨s, h, ρ, hJ, I⟩, _⟩ := hμ a w ha
  refine round _ s hJ _ (fun n' s' hlt hJ' h' ρ' a' w' I' => ?_) h ρ a w I
  have hex' : ∃ n, J' n a' w' := ⟨n', s', h', ρ', hJ', I'⟩
  exact ⟨hex', Nat.lt_of_le_of_lt ((hμ a' w' hex').2 n' ⟨s', h', ρ', hJ', I'⟩) hlt⟩
theorem W.rangeGoI {A S : Type} {items : List A} {body : Nat → S → (S → Option (List A)) → Option (List A)} {exit : S → Option (List A)} {b : Nat} {s0 : S} {r : List A} {c : Code} (H : Sp.rangeGo body exit b 0 s0 = some r) (hY : Yl items g r)
    (Ls : Nat → S → List (Nat × AV)) (Ms : Nat → S → List (Nat × Blk)) (hL : Agree (fr L) (Ls 0 s0)) (hM : AgreeM M (Ms 0 s0))
    (round : ∀ (κ : S → Option (List A)) (i : Nat) (s : S) (g : Nat) (r : List A), i ≤ b → Yl items g r → (i < b → body i s κ = some r) → (b ≤ i → exit s = some r) → ∀ K : Act → World → Prop, (i < b → ∀ s' g' r', Yl items g' r' → κ s' = some r' → At N C (Ls (i + 1) s') (Ms (i + 1) s') g' K) → W P N rr C c (Ls i s) (Ms i s) g (Exit.then K Q)) :
    W P N rr C (.loop c) L M g Q := by
  refine W.loopG (S := Nat × S × Nat × List A) (n0 := b) (s0 := (0, s0, g, r)) (fun n s => s.1 + n = b ∧ Yl items s.2.2.1 s.2.2.2 ∧ Sp.rangeGo body exit n s.1 s.2.1 = some s.2.2.2) (fun s => Ls s.1 s.2.1) (fun s => Ms s.1 s.2.1) (fun s => s.2.2.1) ⟨Nat.zero_add _, hY, H⟩ hL hM rfl (fun n s hJ K hK => ?_)
  obtain ⟨i, s, g, r⟩ := s
  obtain ⟨h1, hy, h2⟩ := hJ
  simp only at h1 h2 hK hy ⊢
  cases n with
  | zero => exact round (fun s => exit s) i s g r (by omega) hy (fun hlt => by omega) (fun _ => h2) K (fun hlt => by omega)
  | succ n => exact round (Sp.rangeGo body exit n (i + 1)) i s g r (by omega) hy (fun _ => h2) (fun hge => by omega) K (fun _ s' g' r' hy' hs' => hK n (i + 1, s', g', r') (Nat.lt_succ_self n) ⟨by simp only; omega, hy', hs'⟩)
theorem At.iofNormal {w0 : World} {h0 : Hp} {J : Nat → (Nat → Prop) → World → Prop} {hJ : ∀ k, Stab (J k)} {fn : Func} {n : Nat} (H : At N (Ci w0 h0 J hJ) L M g (IRetQ P fn J n .ret)) : At N (Ci w0 h0 J hJ) L M g (IRetQ P fn J n .normal) := H
theorem W.condNz {op : Operand} {x y : Code} {n : Nat} (hb : evO (fr L) op = .nz n) (ht : n = 0 → W P N rr C x L M g Q) (hf : W P N rr C y L M g Q) : W P N rr C (.cond op x y) L M g Q := by
  intro h ρ a w I
  have hr : Rel h ρ (.nz n) (a.eval op) := by
    rw [← hb]
    cases op with
    | tmp t => exact I.slot t
    | const v => exact Rel.ofVal h ρ v
    | func f => exact .fn _ _ _ _ [] [] rfl rfl (fun i c v hc => by simp at hc) (fun i c v hc => by simp at hc)
    | global g => exact .any _ _
  obtain ⟨b, he, hn⟩ : ∃ b, a.eval op = .bool b ∧ (b = true → n = 0) := by generalize a.eval op = z at hr; cases hr with | nz _ _ b hb => exact ⟨b, rfl, hb⟩
  exact wpIn_cond_split he (fun h1 => ht (hn h1) h ρ a w I) (fun _ => hf h ρ a w I)
end
theorem BSim.grid {tS ty sz n n' : Nat} {m m' : Nat → Nat} {e e' : Nat → Nat → List AV} (hn : n = n') (hm : ∀ i, i < n → m i = m' i) (he : ∀ i j, i < n → j < m i → e i j = e' i j) : BSim (.grid tS ty sz n m e) (.grid tS ty sz n' m' e') := by
  subst hn
  intro h ρ id w H
  obtain ⟨v, rows, q1, q2, q3, q4, q5⟩ := H
  refine ⟨v, rows, q1, q2, q3, fun i x hx => ?_, q5⟩
  have hi : i < n := by rw [← q2]; exact (List.getElem?_eq_some_iff.1 hx).1
  obtain ⟨r0, r1, xs, r2, r3, r4, r5⟩ := q4 i x hx
  refine ⟨r0.trans (hm i hi), r1, xs, r2, fun j hj => ?_, r4, fun j k c y hj hc hy => ?_⟩
  · rw [← hm i hi] at hj
    rw [← he i j hi hj]; exact r3 j hj
  · rw [← hm i hi] at hj
    rw [← he i j hi hj] at hc
    exact r5 j k c y hj hc hy
def GSeg {T : Type} [Inhabited T] (f : T → List AV) (n : Nat) (m : Nat → Nat) (e : Nat → Nat → List AV) (l : List (List T)) : Prop := n = l.length ∧ (∀ i, i < n → m i = (l.getD i []).length) ∧ ∀ i j, i < n → j < m i → e i j = f ((l.getD i []).getD j default)
theorem GSeg.refl {T : Type} [Inhabited T] (f : T → List AV) (l : List (List T)) : GSeg f l.length (fun i => (l.getD i []).length) (fun i j => f ((l.getD i []).getD j default)) l := ⟨rfl, fun _ _ => rfl, fun _ _ _ _ => rfl⟩
theorem GSeg.made {T : Type} [Inhabited T] (f : T → List AV) (n : Nat) : GSeg f n (fun _ => 0) (fun _ _ => []) (List.replicate n ([] : List T)) := by
  refine ⟨by simp, fun i hi => ?_, fun i j hi hj => absurd hj (Nat.not_lt_zero _)⟩
  simp [List.getD_eq_getElem?_getD, hi]
theorem GSeg.setRow {T : Type} [Inhabited T] {f : T → List AV} {n k i : Nat} {m : Nat → Nat} {e : Nat → Nat → List AV} {e2 : Nat → List AV} {l : List (List T)} {row : List T} (h : GSeg f n m e l) (h2 : Seg f k e2 row) :
    GSeg f n (fun a => if a = i then k else m a) (fun a => if a = i then e2 else e a) (l.set i row) := by
  obtain ⟨rfl, g1, g2⟩ := h
  obtain ⟨rfl, g3⟩ := h2
  refine ⟨by simp, fun a ha => ?_, fun a j ha hj => ?_⟩
  · by_cases hai : a = i
    · subst hai; simp [List.getD_eq_getElem?_getD, ha]
    · simp only [hai, if_false]; rw [g1 a ha]; simp [List.getD_eq_getElem?_getD, List.getElem?_set_ne (Ne.symm hai)]
  · by_cases hai : a = i
    · subst hai
      simp only [if_true] at hj ⊢
      rw [g3 j hj]
      simp [List.getD_eq_getElem?_getD, ha]
    · simp only [hai, if_false] at hj ⊢
      rw [g2 a j ha hj]
      simp [List.getD_eq_getElem?_getD, List.getElem?_set_ne (Ne.symm hai)]
end Go.Av
