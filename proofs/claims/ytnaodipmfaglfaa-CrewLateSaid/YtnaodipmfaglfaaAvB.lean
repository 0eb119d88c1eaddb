/- The state of an activation: temporaries and owned blocks as abstract values; the one law by which a state turns. -/
import Derived.Test.YtnaodipmfaglfaaAvA
set_option linter.all false
namespace Go.Av
inductive Blk where
  | cells (cs : List AV)
  | buf (ty sz n : Nat) (e : Nat → List AV)
  | map (z : Value) (dom : Int → Bool) (e : Int → AV) (n : Nat)
  | dead
  | grid (tS ty sz n : Nat) (m : Nat → Nat) (e : Nat → Nat → List AV)
  | bufk (ty sz n c : Nat) (e : Nat → List AV)
structure Ctx where
  w0 : World
  h0 : Hp
  bor : Nat → Prop
  gh : Nat → (Nat → Prop) → World → Prop
  savA : List AV
  savV : List Value
  gh_step : ∀ g (X X' : Nat → Prop) (w w' : World), gh g X w → w'.os = w.os → w'.tape = w.tape → w'.output = w.output → w.heap.size ≤ w'.heap.size → (∀ k, k < w.heap.size → ¬ X k → w'.heap[k]? = w.heap[k]?) →
    (∀ b, X' b → X b ∨ w.heap.size ≤ b) → gh g X' w'
def BlkOk (h : Hp) (ρ : Rho) (id : Nat) : Blk → World → Prop
  | .cells cs, w => ∃ (b : Nat) (vs : List Value) (ty : TypeId), ρ id = some (.blk b) ∧ w.heap[b]? = some (.cells vs.toArray ty (0, 0)) ∧ vs.length = cs.length ∧
      ∀ (i : Nat) (c : AV) (v : Value), cs[i]? = some c → vs[i]? = some v → Rel h ρ c v
  | .buf ty sz n e, w => ∃ (v : Value) (xs : List Value), ρ id = some (.sl n sz v) ∧ w.ownsRow 0 ty sz v n xs ∧ (∀ i, i < n → (e i).length = sz) ∧ (∀ x, x ∈ xs → x.oneCell' = true) ∧
      ∀ (i j : Nat) (c : AV) (x : Value), i < n → (e i)[j]? = some c → xs[i * sz + j]? = some x → Rel h ρ0 c x
  | .map z dom e n, w => ∃ (b : Nat) (es : List MapEntry) (clock : Nat) (ks : List Int), ρ id = some (.blk b) ∧ w.heap[b]? = some (.map es.toArray clock) ∧ ks.Nodup ∧ ks.length = n ∧ es.length = n ∧
      (∀ (i : Nat) (k : Int) (x : MapEntry), ks[i]? = some k → es[i]? = some x → x.key = .int .i64 k) ∧ (∀ x ∈ es, x.born < clock) ∧ (es.map (·.born)).Nodup ∧ (∀ k, dom k = true ↔ k ∈ ks) ∧ (∀ k, dom k = false → Rel h ρ0 (e k) z) ∧
      ∀ (i : Nat) (k : Int) (x : MapEntry), ks[i]? = some k → es[i]? = some x → Rel h ρ0 (e k) x.val
  | .bufk ty sz n c e, w => ∃ (v : Value) (xs : List Value), ρ id = some (.sl n sz v) ∧ w.ownsRow 0 ty sz v n xs ∧ (∃ g cap, v = .slice (some ⟨g, 0, none⟩) n cap ∧ c ≤ cap) ∧ (∀ i, i < n → (e i).length = sz) ∧ (∀ x, x ∈ xs → x.oneCell' = true) ∧
      ∀ (i j : Nat) (c : AV) (x : Value), i < n → (e i)[j]? = some c → xs[i * sz + j]? = some x → Rel h ρ0 c x
  | .dead, _ => ∃ n sz, ρ id = some (.sl n sz (.slice none 0 0))
  | .grid tS ty sz n m e, w => ∃ (v : Value) (rows : List (Nat × Value)), ρ id = some (.grid v sz rows) ∧ rows.length = n ∧ w.ownsRow 0 tS 1 v n (rows.map (·.2)) ∧
      (∀ (i : Nat) (x : Nat × Value), rows[i]? = some x → x.1 = m i ∧ x.2.oneCell' = true ∧ ∃ xs : List Value, w.ownsRow 0 ty sz x.2 x.1 xs ∧ (∀ j, j < m i → (e i j).length = sz) ∧ (∀ y, y ∈ xs → y.oneCell' = true) ∧
        ∀ (j k : Nat) (c : AV) (y : Value), j < m i → (e i j)[k]? = some c → xs[j * sz + k]? = some y → Rel h ρ0 c y) ∧
      (∀ (i i' : Nat) (x x' : Nat × Value) (b : Nat), rows[i]? = some x → rows[i']? = some x' → x.2.ownBlock = some b → x'.2.ownBlock = some b → i = i') ∧
      ∀ (i : Nat) (x : Nat × Value) (b : Nat), rows[i]? = some x → x.2.ownBlock = some b → v.ownBlock ≠ some b
def ownSet (ρ : Rho) (b : Nat) : Prop := ∃ id li, ρ id = some li ∧ li.owns b
abbrev Fr := Nat → AV
abbrev Mm := Nat → Option Blk
structure InvH (N : Nat) (C : Ctx) (h : Hp) (ρ : Rho) (F : Fr) (M : Mm) (g : Nat) (a : Act) (w : World) : Prop where
  slot : ∀ t, Rel h ρ (F t) (a.tmps.getD t undef)
  sav : C.savV.length = C.savA.length ∧ ∀ (i : Nat) (c : AV) (v : Value), C.savA[i]? = some c → C.savV[i]? = some v → Rel h ρ c v
  size : a.tmps.size = N
  hp : ∀ b o, h b = some o → w.heap[b]? = some o
  blk : ∀ id x, M id = some x → BlkOk h ρ id x w
  dom : ∀ id, M id = none → ρ id = none
  own : ∀ id li b, ρ id = some li → li.owns b → h b = none ∧ b < w.heap.size ∧ (C.w0.heap.size ≤ b ∨ C.bor b)
  inj : ∀ id id' li li' b, ρ id = some li → ρ id' = some li' → li.owns b → li'.owns b → id = id'
  os : w.os = C.w0.os
  tape : w.tape = C.w0.tape
  out : w.output = C.w0.output
  sz : C.w0.heap.size ≤ w.heap.size
  kept : ∀ k, k < C.w0.heap.size → ¬ C.bor k → w.heap[k]? = C.w0.heap[k]?
  ext : ∀ b o, C.h0 b = some o → h b = some o
  old : ∀ b o, h b = some o → b < C.w0.heap.size → C.h0 b = some o
  gst : ∃ X : Nat → Prop, (∀ b, ownSet ρ b → X b) ∧ (∀ b o, h b = some o → C.h0 b = some o ∨ X b) ∧ C.gh g X w
  dfr : ∃ Ds : List Nat, a.defers = Ds.map (fun D => { target := .collected D, args := #[] }) ∧ Ds.Nodup ∧ ∀ D, D ∈ Ds → h D = some (.deferred (some [])) ∧ C.w0.heap.size ≤ D
theorem heap_lt {w : World} {b : Nat} {o : Obj} (h : w.heap[b]? = some o) : b < w.heap.size := (Array.getElem?_eq_some_iff.1 h).1
theorem InvH.hlt {N : Nat} {C : Ctx} {h : Hp} {ρ : Rho} {F : Fr} {M : Mm} {g : Nat} {a : Act} {w : World} (I : InvH N C h ρ F M g a w) {b : Nat} {o : Obj} (hb : h b = some o) : b < w.heap.size := heap_lt (I.hp b o hb)
theorem ownsRow_same {w w' : World} {base : Nat} {e : TypeId} {size : Nat} {v : Value} {n : Nat} {xs : List Value} (H : w.ownsRow base e size v n xs) (hk : ∀ b, v.ownBlock = some b → w'.heap[b]? = w.heap[b]?) : w'.ownsRow base e size v n xs := by
  refine ⟨H.1, ?_⟩
  rcases H.2 with hn | ⟨g, cap, cur, rfl, hb, hgg, rest⟩
  · exact .inl hn
  · refine .inr ⟨g, cap, cur, rfl, hb, ?_, rest⟩
    rw [hk g (by simp [Value.ownBlock])]; exact hgg
theorem BlkOk.keep {h h' : Hp} {ρ ρ' : Rho} {id : Nat} {x : Blk} {w w' : World} (H : BlkOk h ρ id x w) (hh : Le h h') (hid : ρ' id = ρ id)
    (hr : ∀ id li, ρ id = some li → ∃ li', ρ' id = some li' ∧ li.le li') (hk : ∀ li b, ρ id = some li → li.owns b → w'.heap[b]? = w.heap[b]?) : BlkOk h' ρ' id x w' := by
  cases x with
  | cells cs =>
    obtain ⟨b, vs, ty, h1, h2, h3, h4⟩ := H
    exact ⟨b, vs, ty, hid.trans h1, (hk _ b h1 rfl).trans h2, h3, fun i c v hc hv => (h4 i c v hc hv).mono hh hr⟩
  | buf ty sz n e =>
    obtain ⟨v, xs, h1, h2, h3, h5, h4⟩ := H
    exact ⟨v, xs, hid.trans h1, ownsRow_same h2 (fun b hb => hk _ b h1 hb), h3, h5, fun i j c x hi hc hx => (h4 i j c x hi hc hx).heap hh⟩
  | map z dom e n =>
    obtain ⟨b, es, clock, ks, h1, h2, h3, h4, h5, h6, h7, h8, h9, hz, h10⟩ := H
    exact ⟨b, es, clock, ks, hid.trans h1, (hk _ b h1 rfl).trans h2, h3, h4, h5, h6, h7, h8, h9, fun k hd => (hz k hd).heap hh, fun i k x hk' hx => (h10 i k x hk' hx).heap hh⟩
  | bufk ty sz n c e =>
    obtain ⟨v, xs, h1, h2, h6, h3, h5, h4⟩ := H
    exact ⟨v, xs, hid.trans h1, ownsRow_same h2 (fun b hb => hk _ b h1 hb), h6, h3, h5, fun i j c x hi hc hx => (h4 i j c x hi hc hx).heap hh⟩
  | dead =>
    obtain ⟨n, sz, h1⟩ := H
    exact ⟨n, sz, hid.trans h1⟩
  | grid tS ty sz n m e =>
    obtain ⟨v, rows, h1, h2, h3, h4, h5, h6⟩ := H
    refine ⟨v, rows, hid.trans h1, h2, ownsRow_same h3 (fun b hb => hk _ b h1 (.inl hb)), fun i x hx => ?_, h5, h6⟩
    obtain ⟨q0, q1, xs, q2, q3, q4, q5⟩ := h4 i x hx
    exact ⟨q0, q1, xs, ownsRow_same q2 (fun b hb => hk _ b h1 (.inr ⟨x, List.mem_of_getElem? hx, hb⟩)), q3, q4, fun j k c y a1 a2 a3 => (q5 j k c y a1 a2 a3).heap hh⟩
theorem InvH.step {N : Nat} {C : Ctx} {h h' : Hp} {ρ ρ' : Rho} {F : Fr} {M M' : Mm} {g : Nat} {a : Act} {w w' : World} {S : Nat → Prop} (I : InvH N C h ρ F M g a w)
    (hos : w'.os = w.os) (htape : w'.tape = w.tape) (hout : w'.output = w.output) (hsz : w.heap.size ≤ w'.heap.size)
    (hk : ∀ k, k < w.heap.size → (∀ id li, S id → ρ id = some li → ¬ li.owns k) → w'.heap[k]? = w.heap[k]?)
    (hρ : ∀ id, ¬ S id → ρ' id = ρ id) (hle : ∀ id li, ρ id = some li → ∃ li', ρ' id = some li' ∧ li.le li')
    (hh : ∀ b o, h b = some o → h' b = some o) (hnew : ∀ b o, h' b = some o → h b = some o ∨ (w.heap.size ≤ b ∧ w'.heap[b]? = some o))
    (hM : ∀ id, ¬ S id → M' id = M id) (hMn : ∀ id, S id → M' id = none → ρ' id = none) (hMs : ∀ id x, S id → M' id = some x → BlkOk h' ρ' id x w')
    (hown : ∀ id li b, S id → ρ' id = some li → li.owns b → (∃ id0 li0, S id0 ∧ ρ id0 = some li0 ∧ li0.owns b) ∨ (w.heap.size ≤ b ∧ b < w'.heap.size ∧ h' b = none))
    (hinj : ∀ id id' li li' b, S id → S id' → ρ' id = some li → ρ' id' = some li' → li.owns b → li'.owns b → id = id') : InvH N C h' ρ' F M' g a w' := by
  have hLe : Le h h' := Le.of hh
  -- each owned block of ρ' is an old one of the same name, or a new one
  have old : ∀ id li b, ρ' id = some li → li.owns b → (∃ id0 li0, (S id → S id0) ∧ (¬ S id → id0 = id) ∧ ρ id0 = some li0 ∧ li0.owns b) ∨ (S id ∧ w.heap.size ≤ b ∧ b < w'.heap.size ∧ h' b = none) := by
    intro id li b h1 h2
    by_cases hs : S id
    · rcases hown id li b hs h1 h2 with ⟨id0, li0, h3, h4⟩ | h3
      · exact .inl ⟨id0, li0, fun _ => h3, fun h => absurd hs h, h4⟩
      · exact .inr ⟨hs, h3⟩
    · exact .inl ⟨id, li, fun h => absurd h hs, fun _ => rfl, (hρ id hs) ▸ h1, h2⟩
  have kept' : ∀ b, h b ≠ none → w'.heap[b]? = w.heap[b]? := by
    intro b hb
    cases ho : h b with
    | none => exact absurd ho hb
    | some o =>
      refine hk b (I.hlt ho) fun id li _ h1 h2 => ?_
      have := (I.own id li b h1 h2).1
      rw [ho] at this; cases this
  refine ⟨fun t => (I.slot t).mono hLe hle, ⟨I.sav.1, fun i c v h1 h2 => (I.sav.2 i c v h1 h2).mono hLe hle⟩, I.size, ?_, ?_, ?_, ?_, ?_, hos.trans I.os, htape.trans I.tape, hout.trans I.out, Nat.le_trans I.sz hsz, ?_, fun b o hb => hh b o (I.ext b o hb), fun b o hb hlt => ?_, ?_, ?_⟩
  · intro b o hb
    rcases hnew b o hb with h1 | ⟨_, h1⟩
    · rw [kept' b (by rw [h1]; simp)]; exact I.hp b o h1
    · exact h1
  · intro id x hx
    by_cases hs : S id
    · exact hMs id x hs hx
    · rw [hM id hs] at hx
      refine (I.blk id x hx).keep hLe (hρ id hs) hle fun li b h1 h2 => ?_
      refine hk b (I.own id li b h1 h2).2.1 fun id' li' hs' h1' h2' => ?_
      exact hs (I.inj id id' li li' b h1 h1' h2 h2' ▸ hs')
  · intro id hid
    by_cases hs : S id
    · exact hMn id hs hid
    · rw [hM id hs] at hid; rw [hρ id hs]; exact I.dom id hid
  · intro id li b h1 h2
    rcases old id li b h1 h2 with ⟨id0, li0, _, _, h3, h4⟩ | ⟨_, h3, h4, h5⟩
    · obtain ⟨p, q, r⟩ := I.own id0 li0 b h3 h4
      refine ⟨?_, Nat.lt_of_lt_of_le q hsz, r⟩
      cases ho : h' b with
      | none => rfl
      | some o =>
        rcases hnew b o ho with h5 | ⟨h5, _⟩
        · rw [p] at h5; cases h5
        · omega
    · exact ⟨h5, h4, .inl (Nat.le_trans I.sz h3)⟩
  · intro id id' li li' b h1 h1' h2 h2'
    by_cases hs : S id
    · by_cases hs' : S id'
      · exact hinj id id' li li' b hs hs' h1 h1' h2 h2'
      · rcases old id li b h1 h2 with ⟨id0, li0, k1, _, h3, h4⟩ | ⟨_, h3, _, _⟩
        · have e := I.inj id0 id' li0 li' b h3 (by rw [← hρ id' hs']; exact h1') h4 h2'
          exact absurd (e ▸ k1 hs) hs'
        · have := (I.own id' li' b (by rw [← hρ id' hs']; exact h1') h2').2.1; omega
    · by_cases hs' : S id'
      · rcases old id' li' b h1' h2' with ⟨id0, li0, k1, _, h3, h4⟩ | ⟨_, h3, _, _⟩
        · have e := I.inj id0 id li0 li b h3 (by rw [← hρ id hs]; exact h1) h4 h2
          exact absurd (e ▸ k1 hs') hs
        · have := (I.own id li b (by rw [← hρ id hs]; exact h1) h2).2.1; omega
      · exact I.inj id id' li li' b (by rw [← hρ id hs]; exact h1) (by rw [← hρ id' hs']; exact h1') h2 h2'
  · intro k hk0 hb
    rw [← I.kept k hk0 hb]
    refine hk k (Nat.lt_of_lt_of_le hk0 I.sz) fun id li _ h1 h2 => ?_
    rcases (I.own id li k h1 h2).2.2 with h3 | h3
    · omega
    · exact hb h3
  · rcases hnew b o hb with h1 | ⟨h1, _⟩
    · exact I.old b o h1 hlt
    · have := I.sz; omega
  · obtain ⟨X, x1, x2, x3⟩ := I.gst
    refine ⟨fun b => X b ∨ w.heap.size ≤ b, ?_, fun b o hb => ?_, C.gh_step g X _ w w' x3 hos htape hout hsz (fun k hlt hX => hk k hlt fun id li _ h1 h2 => hX (x1 _ ⟨id, li, h1, h2⟩)) (fun b hb => hb)⟩
    · rintro b ⟨id, li, h1, h2⟩
      rcases old id li b h1 h2 with ⟨id0, li0, _, _, h3, h4⟩ | ⟨_, h3, _, _⟩
      · exact .inl (x1 b ⟨id0, li0, h3, h4⟩)
      · exact .inr h3
    · rcases hnew b o hb with h1 | ⟨h1, _⟩
      · rcases x2 b o h1 with h2 | h2
        · exact .inl h2
        · exact .inr (.inl h2)
      · exact .inr (.inr h1)
  · obtain ⟨Ds, h1, h2, h3⟩ := I.dfr
    exact ⟨Ds, h1, h2, fun D hD => ⟨hh _ _ (h3 D hD).1, (h3 D hD).2⟩⟩
def put (F : Fr) (d : Nat) (v : AV) : Fr := fun t => match Nat.beq t d with | true => v | false => F t
def putO (F : Fr) : Option Tmp → AV → Fr
  | some d, v => put F d v
  | none, _ => F
theorem put_same (F : Fr) (d : Nat) (v : AV) : put F d v d = v := by simp [put]
theorem put_other (F : Fr) {d t : Nat} (v : AV) (h : t ≠ d) : put F d v t = F t := by
  have : Nat.beq t d = false := by
    cases hb : Nat.beq t d with
    | false => rfl
    | true => exact absurd (Nat.eq_of_beq_eq_true hb) h
  simp [put, this]
theorem InvH.put {N : Nat} {C : Ctx} {h : Hp} {ρ : Rho} {F : Fr} {M : Mm} {g : Nat} {a : Act} {w : World} (I : InvH N C h ρ F M g a w) {d : Option Tmp} {v : AV} {x : Value} (hd : ∀ t, d = some t → t < N)
    (hv : Rel h ρ v x) : InvH N C h ρ (putO F d v) M g (a.put d x) w := by
  cases d with
  | none => exact I
  | some d =>
    refine { I with slot := fun t => ?_, size := by simp [Act.put, I.size], dfr := I.dfr }
    have hlt := hd d rfl
    rw [← I.size] at hlt
    by_cases ht : t = d
    · subst ht
      simp only [putO, put_same, Act.put]
      simpa [hlt] using hv
    · simp only [putO, put_other F v ht, Act.put]
      have := I.slot t
      simpa [Array.getElem?_setIfInBounds_ne (Ne.symm ht)] using this
theorem InvH.frame {N : Nat} {C : Ctx} {h : Hp} {ρ : Rho} {F F' : Fr} {M : Mm} {g : Nat} {a : Act} {w : World} (I : InvH N C h ρ F M g a w) (hF : ∀ t, F' t = .any ∨ F' t = F t) : InvH N C h ρ F' M g a w := by
  refine { I with slot := fun t => ?_ }
  rcases hF t with e | e
  · rw [e]; exact .any _ _
  · rw [e]; exact I.slot t
def upd {α : Type} (f : Nat → α) (i : Nat) (x : α) : Nat → α := fun k => match Nat.beq k i with | true => x | false => f k
theorem upd_same {α : Type} (f : Nat → α) (i : Nat) (x : α) : upd f i x i = x := by simp [upd]
theorem upd_other {α : Type} (f : Nat → α) {i k : Nat} (x : α) (h : k ≠ i) : upd f i x k = f k := by
  have : Nat.beq k i = false := by
    cases hb : Nat.beq k i with
    | false => rfl
    | true => exact absurd (Nat.eq_of_beq_eq_true hb) h
  simp [upd, this]
section
variable {N : Nat} {C : Ctx} {h : Hp} {ρ : Rho} {F : Fr} {M : Mm} {g : Nat} {a : Act} {w : World}
theorem hle_refl (ρ : Rho) : ∀ id li, ρ id = some li → ∃ li', ρ id = some li' ∧ li.le li' := fun _ li h => ⟨li, h, .inl rfl⟩
theorem InvH.drew (I : InvH N C h ρ F M g a w) : InvH N C h ρ F M g a w.drew :=
  I.step (S := fun _ => False) rfl rfl rfl (Nat.le_refl _) (fun _ _ _ => rfl) (fun _ _ => rfl) (hle_refl ρ) (fun _ _ h => h) (fun _ _ h => .inl h) (fun _ _ => rfl) (fun _ h => h.elim) (fun _ _ h => h.elim)
    (fun _ _ _ h => h.elim) (fun _ _ _ _ _ h => h.elim)
theorem InvH.allocOwn (I : InvH N C h ρ F M g a w) {id : Nat} (hid : M id = none) (o : Obj) (li : LI) (x : Blk) (hb : ∀ b, li.owns b → b = w.heap.size) (hx : BlkOk h (upd ρ id (some li)) id x (w.alloc o)) :
    InvH N C h (upd ρ id (some li)) F (upd M id (some x)) g a (w.alloc o) := by
  have hρ := I.dom id hid
  have hle : ∀ i l, ρ i = some l → ∃ l', upd ρ id (some li) i = some l' ∧ l.le l' := by
    intro i l hi
    have hne : i ≠ id := by rintro rfl; rw [hρ] at hi; cases hi
    exact ⟨l, by rw [upd_other _ _ hne]; exact hi, .inl rfl⟩
  refine I.step (S := fun i => i = id) rfl rfl rfl (by simp) (fun k hk _ => RowKit.Below.heap_alloc w o k hk) (fun i hi => upd_other _ _ hi) hle (fun _ _ h => h) (fun _ _ h => .inl h) (fun i hi => upd_other _ _ hi) ?_ ?_ ?_ ?_
  · rintro i rfl hM; rw [upd_same] at hM; cases hM
  · rintro i y rfl hM; rw [upd_same] at hM; cases hM; exact hx
  · rintro i l b rfl h1 h2
    rw [upd_same] at h1; cases h1
    have := hb b h2; subst this
    refine .inr ⟨Nat.le_refl _, by simp, ?_⟩
    cases ho : h w.heap.size with
    | none => rfl
    | some o' => have := I.hlt ho; omega
  · rintro i i' l l' b rfl rfl _ _ _ _; rfl
theorem InvH.allocRo (I : InvH N C h ρ F M g a w) (o : Obj) : InvH N C (upd h w.heap.size (some o)) ρ F M g a (w.alloc o) := by
  have hn : h w.heap.size = none := by
    cases ho : h w.heap.size with
    | none => rfl
    | some o' => have := I.hlt ho; omega
  refine I.step (S := fun _ => False) rfl rfl rfl (by simp) (fun k hk _ => RowKit.Below.heap_alloc w o k hk) (fun _ _ => rfl) (hle_refl ρ) ?_ ?_ (fun _ _ => rfl) (fun _ h => h.elim) (fun _ _ h => h.elim) (fun _ _ _ h => h.elim) (fun _ _ _ _ _ h => h.elim)
  · intro b o' hb
    have hne : b ≠ w.heap.size := by rintro rfl; rw [hn] at hb; cases hb
    rw [upd_other _ _ hne]; exact hb
  · intro b o' hb
    by_cases hne : b = w.heap.size
    · subst hne
      rw [upd_same] at hb; cases hb
      exact .inr ⟨Nat.le_refl _, heap_alloc_new w _⟩
    · rw [upd_other _ _ hne] at hb; exact .inl hb
theorem InvH.turn (I : InvH N C h ρ F M g a w) {id b : Nat} {w' : World} (hb : ρ id = some (.blk b)) (x : Blk) (hos : w'.os = w.os) (htape : w'.tape = w.tape) (hout : w'.output = w.output) (hsz : w'.heap.size = w.heap.size)
    (hk : ∀ k, k ≠ b → w'.heap[k]? = w.heap[k]?) (hx : BlkOk h ρ id x w') : InvH N C h ρ F (upd M id (some x)) g a w' := by
  refine I.step (S := fun i => i = id) hos htape hout (by omega) (fun k _ hne => hk k (fun e => hne id _ rfl hb (by rw [e]; exact (rfl : some b = some b)))) (fun _ _ => rfl) (hle_refl ρ) (fun _ _ h => h) (fun _ _ h => .inl h)
    (fun i hi => upd_other _ _ hi) ?_ ?_ ?_ ?_
  · rintro i rfl hM; rw [upd_same] at hM; cases hM
  · rintro i y rfl hM; rw [upd_same] at hM; cases hM; exact hx
  · rintro i l c rfl h1 h2; exact .inl ⟨i, l, rfl, h1, h2⟩
  · rintro i i' l l' c rfl rfl _ _ _ _; rfl
theorem InvH.turnBuf (I : InvH N C h ρ F M g a w) {id n n' sz : Nat} {v v' : Value} {w' : World} (hb : ρ id = some (.sl n sz v)) (x : Blk) (hle : (n = n' ∧ v = v') ∨ n < n')
    (hg : w.grownBy w' v.ownBlock) (hnb : ∀ b, v'.ownBlock = some b → v.ownBlock = some b ∨ (w.heap.size ≤ b ∧ b < w'.heap.size))
    (hx : BlkOk h (upd ρ id (some (.sl n' sz v'))) id x w') : InvH N C h (upd ρ id (some (.sl n' sz v'))) F (upd M id (some x)) g a w' := by
  have hle' : ∀ i l, ρ i = some l → ∃ l', upd ρ id (some (.sl n' sz v')) i = some l' ∧ l.le l' := by
    intro i l hi
    by_cases hne : i = id
    · subst hne
      rw [hb] at hi; cases hi
      refine ⟨_, upd_same _ _ _, ?_⟩
      rcases hle with ⟨rfl, rfl⟩ | hlt
      · exact .inl rfl
      · exact .inr (.inl ⟨_, _, _, _, _, rfl, rfl, hlt⟩)
    · exact ⟨l, by rw [upd_other _ _ hne]; exact hi, .inl rfl⟩
  refine I.step (S := fun i => i = id) hg.os hg.tape hg.output hg.size (fun k hk hne => hg.block k hk (fun e => hne id _ rfl hb e.symm)) (fun i hi => upd_other _ _ hi) hle' (fun _ _ h => h) (fun _ _ h => .inl h)
    (fun i hi => upd_other _ _ hi) ?_ ?_ ?_ ?_
  · rintro i rfl hM; rw [upd_same] at hM; cases hM
  · rintro i y rfl hM; rw [upd_same] at hM; cases hM; exact hx
  · rintro i l b rfl h1 h2
    rw [upd_same] at h1; cases h1
    rcases hnb b h2 with h3 | ⟨h3, h4⟩
    · exact .inl ⟨_, _, rfl, hb, h3⟩
    · refine .inr ⟨h3, h4, ?_⟩
      cases ho : h b with
      | none => rfl
      | some o' => have := I.hlt ho; omega
  · rintro i i' l l' b rfl rfl _ _ _ _; rfl
theorem InvH.below (I : InvH N C h ρ F M g a w) {w' : World} {h' : Hp} (hB : RowKit.Below w.heap.size w w') (hh : ∀ b o, h b = some o → h' b = some o)
    (hnew : ∀ b o, h' b = some o → h b = some o ∨ (w.heap.size ≤ b ∧ w'.heap[b]? = some o)) : InvH N C h' ρ F M g a w' :=
  I.step (S := fun _ => False) hB.os hB.tape hB.output hB.size (fun k hk _ => hB.block k hk) (fun _ _ => rfl) (hle_refl ρ) hh hnew (fun _ _ => rfl) (fun _ h => h.elim) (fun _ _ h => h.elim)
    (fun _ _ _ h => h.elim) (fun _ _ _ _ _ h => h.elim)
end
end Go.Av
