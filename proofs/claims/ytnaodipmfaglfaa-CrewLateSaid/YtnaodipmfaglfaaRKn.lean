/- Matchings: a search for a free partner, where others step aside; what it leaves. No program in sight. -/
import Derived.Test.YtnaodipmfaglfaaRWr
set_option linter.all false
namespace Go.Sp
structure Ks where
  seen : Nat → Bool
  own : Nat → Int
  back : Nat → Int
def Ks.see (s : Ks) (j : Nat) : Ks := ⟨fun k => s.seen k || decide (k = j), s.own, s.back⟩
def Ks.give (s : Ks) (j i : Nat) : Ks := ⟨s.seen, fun k => if k = j then (i : Int) else s.own k, fun k => if k = i then (j : Int) else s.back k⟩
inductive Srch (adj : Nat → Nat → Prop) (m : Nat) : Nat → Nat → Ks → Bool → Ks → Prop
  | done {i j : Nat} {s : Ks} : m ≤ j → Srch adj m i j s false s
  | skip {i j : Nat} {s s' : Ks} {b : Bool} : j < m → (adj i j → s.seen j = true) → Srch adj m i (j + 1) s b s' → Srch adj m i j s b s'
  | free {i j : Nat} {s : Ks} : j < m → adj i j → s.seen j = false → s.own j < 0 → Srch adj m i j s true ((s.see j).give j i)
  | aug {i j o : Nat} {s s' : Ks} : j < m → adj i j → s.seen j = false → s.own j = (o : Int) → Srch adj m o 0 (s.see j) true s' → Srch adj m i j s true (s'.give j i)
  | fail {i j o : Nat} {s s1 s' : Ks} {b : Bool} : j < m → adj i j → s.seen j = false → s.own j = (o : Int) → Srch adj m o 0 (s.see j) false s1 → Srch adj m i (j + 1) s1 b s' → Srch adj m i j s b s'
variable {adj : Nat → Nat → Prop} {m : Nat}
theorem Srch.mono {i j : Nat} {s s' : Ks} {b : Bool} (H : Srch adj m i j s b s') : ∀ k, s.seen k = true → s'.seen k = true := by
  induction H with
  | done _ => exact fun k h => h
  | skip _ _ _ ih => exact ih
  | free => intro k h; show (_ || _) = true; rw [h]; rfl
  | aug _ _ _ _ _ ih => intro k h; exact ih k (by show (_ || _) = true; rw [h]; rfl)
  | fail _ _ _ _ _ _ ih1 ih2 => intro k h; exact ih2 k (ih1 k (by show (_ || _) = true; rw [h]; rfl))
theorem Srch.own_seen {i j : Nat} {s s' : Ks} {b : Bool} (H : Srch adj m i j s b s') : ∀ k, s.seen k = true → s'.own k = s.own k := by
  induction H with
  | done _ => exact fun k _ => rfl
  | skip _ _ _ ih => exact ih
  | @free i j s hj ha hs ho => intro k h; show (if k = j then _ else _) = _; rw [if_neg (fun e => by subst e; rw [hs] at h; cases h)]; rfl
  | @aug i j o s s' hj ha hs ho hr ih =>
    intro k h
    show (if k = j then _ else _) = _
    rw [if_neg (fun e => by subst e; rw [hs] at h; cases h)]
    exact ih k (by show (_ || _) = true; rw [h]; rfl)
  | @fail i j o s s1 s' b _ _ _ _ h1 _ ih1 ih2 =>
    intro k h
    have h' : (s.see j).seen k = true := by show (_ || _) = true; rw [h]; rfl
    rw [ih2 k (h1.mono k h'), ih1 k h']; rfl
theorem Srch.same {i j : Nat} {s s' : Ks} {b : Bool} (H : Srch adj m i j s b s') : b = false → s'.own = s.own ∧ s'.back = s.back := by
  induction H with
  | done _ => exact fun _ => ⟨rfl, rfl⟩
  | skip _ _ _ ih => exact ih
  | free => intro h; cases h
  | aug => intro h; cases h
  | fail _ _ _ _ _ _ ih1 ih2 => intro h; obtain ⟨a, b⟩ := ih2 h; obtain ⟨c, d⟩ := ih1 rfl; exact ⟨a.trans c, b.trans d⟩
theorem Srch.shut {i j : Nat} {s s' : Ks} {b : Bool} (H : Srch adj m i j s b s') : b = false → (∀ k, j ≤ k → k < m → adj i k → s'.seen k = true) ∧
    ∀ k, s'.seen k = true → s.seen k = false → k < m ∧ ∃ o : Nat, s.own k = (o : Int) ∧ ∀ q, q < m → adj o q → s'.seen q = true := by
  induction H with
  | done h => intro _; exact ⟨fun k h1 h2 => by omega, fun k h1 h2 => by rw [h1] at h2; cases h2⟩
  | @skip i j s s' b hj ha hr ih =>
    intro hb
    obtain ⟨h1, h2⟩ := ih hb
    refine ⟨fun k hk hm hadj => ?_, h2⟩
    by_cases e : k = j
    · subst e; exact hr.mono k (ha hadj)
    · exact h1 k (by omega) hm hadj
  | free => intro h; cases h
  | aug => intro h; cases h
  | @fail i j o s s1 s' b hj ha hs ho hr1 hr2 ih1 ih2 =>
    intro hb
    obtain ⟨a1, a2⟩ := ih1 rfl
    obtain ⟨b1, b2⟩ := ih2 hb
    have hsee : (s.see j).seen j = true := by show (_ || _) = true; simp
    have hown := (hr1.same rfl).1
    refine ⟨fun k hk hm hadj => ?_, fun k h1 h2 => ?_⟩
    · by_cases e : k = j
      · subst e; exact hr2.mono k (hr1.mono k hsee)
      · exact b1 k (by omega) hm hadj
    · by_cases e1 : s1.seen k = true
      · by_cases e : k = j
        · subst e
          exact ⟨hj, o, ho, fun q hq hadj => hr2.mono q (a1 q (Nat.zero_le _) hq hadj)⟩
        · obtain ⟨c0, o', c1, c2⟩ := a2 k e1 (by show (_ || _) = false; rw [h2]; simp [e])
          exact ⟨c0, o', c1, fun q hq hadj => hr2.mono q (c2 q hq hadj)⟩
      · obtain ⟨c0, o', c1, c2⟩ := b2 k h1 (by simpa using e1)
        rw [hown] at c1
        exact ⟨c0, o', c1, c2⟩
structure Mat (adj : Nat → Nat → Prop) (m : Nat) (s : Ks) : Prop where
  back : ∀ x : Nat, 0 ≤ s.back x → ∃ k : Nat, s.back x = (k : Int) ∧ k < m ∧ s.own k = (x : Int) ∧ adj x k
  own : ∀ k : Nat, k < m → 0 ≤ s.own k → ∃ x : Nat, s.own k = (x : Int) ∧ s.back x = (k : Int)
structure Done (adj : Nat → Nat → Prop) (m : Nat) (i : Nat) (s s' : Ks) : Prop where
  back : ∀ x : Nat, 0 ≤ s'.back x → ∃ k : Nat, s'.back x = (k : Int) ∧ k < m ∧ s'.own k = (x : Int) ∧ adj x k
  own : ∀ k : Nat, k < m → 0 ≤ s'.own k → ∃ x : Nat, s'.own k = (x : Int) ∧ (s'.back x = (k : Int) ∨ (x = i ∧ s.back i = (k : Int)))
  new : ∃ k : Nat, s'.back i = (k : Int) ∧ s.seen k = false
  rest : ∀ x : Nat, x ≠ i → (0 ≤ s'.back x ↔ 0 ≤ s.back x) ∧ (s'.back x = s.back x ∨ ∃ k : Nat, s.back x = (k : Int) ∧ s.seen k = false)
theorem Srch.win {i j : Nat} {s s' : Ks} {b : Bool} (H : Srch adj m i j s b s') : b = true → Mat adj m s → (∀ k : Nat, s.back i = (k : Int) → s.seen k = true) → Done adj m i s s' := by
  induction H with
  | done _ => intro h; cases h
  | skip _ _ _ ih => exact ih
  | @free i j s hj ha hs ho =>
    intro _ M hi
    refine ⟨fun x hx => ?_, fun k hk hx => ?_, ⟨j, by show (if i = i then _ else _) = _; rw [if_pos rfl], hs⟩, fun x hx => ?_⟩
    · by_cases e : x = i
      · subst e
        refine ⟨j, by show (if x = x then _ else _) = _; rw [if_pos rfl], hj, by show (if j = j then _ else _) = _; rw [if_pos rfl], ha⟩
      · have eb : ((s.see j).give j i).back x = s.back x := by show (if x = i then _ else _) = _; rw [if_neg e]; rfl
        rw [eb] at hx ⊢
        obtain ⟨k, h1, h2, h3, h4⟩ := M.back x hx
        refine ⟨k, h1, h2, ?_, h4⟩
        show (if k = j then _ else _) = _
        rw [if_neg (fun e => by subst e; omega)]; exact h3
    · by_cases e : k = j
      · subst e
        exact ⟨i, by show (if k = k then _ else _) = _; rw [if_pos rfl], .inl (by show (if i = i then _ else _) = _; rw [if_pos rfl])⟩
      · have eo : ((s.see j).give j i).own k = s.own k := by show (if k = j then _ else _) = _; rw [if_neg e]; rfl
        rw [eo] at hx ⊢
        obtain ⟨x, h1, h2⟩ := M.own k hk hx
        refine ⟨x, h1, ?_⟩
        by_cases e2 : x = i
        · subst e2; exact .inr ⟨rfl, h2⟩
        · left; show (if x = i then _ else _) = _; rw [if_neg e2]; exact h2
    · have eb : ((s.see j).give j i).back x = s.back x := by show (if x = i then _ else _) = _; rw [if_neg hx]; rfl
      rw [eb]
      exact ⟨Iff.rfl, .inl rfl⟩
  | @aug i j o s s' hj ha hs ho hr ih =>
    intro _ M hi
    have hbo : s.back o = (j : Int) := by
      obtain ⟨x, h1, h2⟩ := M.own j hj (by omega)
      have : x = o := by omega
      subst this; exact h2
    have hio : i ≠ o := fun e => by subst e; have := hi j hbo; rw [hs] at this; cases this
    have M2 : Mat adj m (s.see j) := ⟨M.back, M.own⟩
    have D := ih rfl M2 (fun k hk => by
      have : k = j := by have : (s.see j).back o = s.back o := rfl; omega
      subst this; show (_ || _) = true; simp)
    have hownj : s'.own j = (o : Int) := by rw [hr.own_seen j (by show (_ || _) = true; simp)]; exact ho
    obtain ⟨j', hj', hns⟩ := D.new
    have hjj : j' ≠ j := fun e => by subst e; have : (s.see j').seen j' = true := by show (_ || _) = true; simp
                                     rw [this] at hns; cases hns
    have hbi : s'.back i = s.back i := by
      rcases (D.rest i hio).2 with h | ⟨k, h1, h2⟩
      · exact h
      · have h3 := hi k h1
        have : (s.see j).seen k = true := by show (_ || _) = true; rw [h3]; rfl
        rw [this] at h2; cases h2
    refine ⟨fun x hx => ?_, fun k hk hx => ?_, ⟨j, by show (if i = i then _ else _) = _; rw [if_pos rfl], hs⟩, fun x hx => ?_⟩
    · by_cases e : x = i
      · subst e
        exact ⟨j, by show (if x = x then _ else _) = _; rw [if_pos rfl], hj, by show (if j = j then _ else _) = _; rw [if_pos rfl], ha⟩
      · have eb : (s'.give j i).back x = s'.back x := by show (if x = i then _ else _) = _; rw [if_neg e]
        rw [eb] at hx ⊢
        obtain ⟨k, h1, h2, h3, h4⟩ := D.back x hx
        refine ⟨k, h1, h2, ?_, h4⟩
        show (if k = j then _ else _) = _
        rw [if_neg (fun e => by
          subst e
          have : x = o := by omega
          subst this; omega)]
        exact h3
    · by_cases e : k = j
      · subst e
        exact ⟨i, by show (if k = k then _ else _) = _; rw [if_pos rfl], .inl (by show (if i = i then _ else _) = _; rw [if_pos rfl])⟩
      · have eo : (s'.give j i).own k = s'.own k := by show (if k = j then _ else _) = _; rw [if_neg e]
        rw [eo] at hx ⊢
        obtain ⟨x, h1, h2⟩ := D.own k hk hx
        refine ⟨x, h1, ?_⟩
        rcases h2 with h2 | ⟨h2, h3⟩
        · by_cases e2 : x = i
          · subst e2; exact .inr ⟨rfl, by rw [← hbi]; exact h2⟩
          · left; show (if x = i then _ else _) = _; rw [if_neg e2]; exact h2
        · exfalso
          have : (s.see j).back o = s.back o := rfl
          omega
    · have eb : (s'.give j i).back x = s'.back x := by show (if x = i then _ else _) = _; rw [if_neg hx]
      rw [eb]
      by_cases e : x = o
      · subst e
        exact ⟨⟨fun _ => by omega, fun _ => by omega⟩, .inr ⟨j, hbo, hs⟩⟩
      · obtain ⟨h1, h2⟩ := D.rest x e
        refine ⟨h1, ?_⟩
        rcases h2 with h2 | ⟨k, h2, h3⟩
        · exact .inl h2
        · exact .inr ⟨k, h2, by have : (s.seen k || decide (k = j)) = false := h3; simp at this; exact this.1⟩
  | @fail i j o s s1 s' b hj ha hs ho hr1 hr2 ih1 ih2 =>
    intro hb M hi
    obtain ⟨e1, e2⟩ := hr1.same rfl
    have e1 : s1.own = s.own := e1
    have e2 : s1.back = s.back := e2
    have hm : ∀ k, s.seen k = true → s1.seen k = true := fun k h => hr1.mono k (by show (_ || _) = true; rw [h]; rfl)
    have D := ih2 hb ⟨by rw [e1, e2]; exact M.back, by rw [e1, e2]; exact M.own⟩ (fun k hk => hm k (hi k (by rw [← e2]; exact hk)))
    have hf : ∀ k, s1.seen k = false → s.seen k = false := fun k h => by
      cases h' : s.seen k with
      | false => rfl
      | true => rw [hm k h'] at h; cases h
    refine ⟨D.back, by have := D.own; rwa [e2] at this, ?_, fun x hx => ?_⟩
    · obtain ⟨k, h1, h2⟩ := D.new; exact ⟨k, h1, hf k h2⟩
    · obtain ⟨h1, h2⟩ := D.rest x hx
      rw [e2] at h1 h2
      refine ⟨h1, ?_⟩
      rcases h2 with h2 | ⟨k, h2, h3⟩
      · exact .inl h2
      · exact .inr ⟨k, h2, hf k h3⟩
def Dead (adj : Nat → Nat → Prop) (m : Nat) (own : Nat → Int) (D : Nat → Prop) : Prop := ∀ k, k < m → D k → ∃ o : Nat, own k = (o : Int) ∧ ∀ q, q < m → adj o q → D q
theorem Srch.lost {i j : Nat} {s s' : Ks} {b : Bool} (H : Srch adj m i j s b s') {D : Nat → Prop} : Dead adj m s.own D → (∀ q, q < m → adj i q → D q) → b = false := by
  induction H with
  | done _ => intro _ _; rfl
  | skip _ _ _ ih => exact ih
  | @free i j s hj ha hs ho => intro hD hi; obtain ⟨o, h, _⟩ := hD j hj (hi j hj ha); omega
  | @aug i j o s s' hj ha hs ho hr ih =>
    intro hD hi
    obtain ⟨o', h, h2⟩ := hD j hj (hi j hj ha)
    have : o' = o := by omega
    subst this
    exact ih hD h2
  | @fail i j o s s1 s' b hj ha hs ho hr1 hr2 ih1 ih2 =>
    intro hD hi
    have e1 : s1.own = s.own := (hr1.same rfl).1
    exact ih2 (by rw [e1]; exact hD) hi
theorem Srch.kept {i j : Nat} {s s' : Ks} {b : Bool} (H : Srch adj m i j s b s') {D : Nat → Prop} : Dead adj m s.own D → ∀ k, k < m → D k → s'.own k = s.own k := by
  induction H with
  | done _ => intro _ k _ _; rfl
  | skip _ _ _ ih => exact ih
  | @free i j s hj ha hs ho =>
    intro hD k hk hd
    obtain ⟨o, h, _⟩ := hD k hk hd
    show (if k = j then _ else _) = _
    rw [if_neg (fun e => by subst e; omega)]; rfl
  | @aug i j o s s' hj ha hs ho hr ih =>
    intro hD k hk hd
    show (if k = j then _ else _) = _
    rw [if_neg (fun e => by
      subst e
      obtain ⟨o', h, h2⟩ := hD k hk hd
      have : o' = o := by omega
      subst this
      have := hr.lost hD h2
      cases this)]
    exact ih hD k hk hd
  | @fail i j o s s1 s' b hj ha hs ho hr1 hr2 ih1 ih2 =>
    intro hD k hk hd
    have e1 : s1.own = s.own := (hr1.same rfl).1
    rw [ih2 (by rw [e1]; exact hD) k hk hd, e1]
structure Kuhn (adj : Nat → Nat → Prop) (m : Nat) (n : Nat) (s : Ks) (D : Nat → Prop) : Prop where
  mat : Mat adj m s
  dead : Dead adj m s.own D
  lost : ∀ x : Nat, x < n → s.back x < 0 → ∀ q, q < m → adj x q → D q
  rest : ∀ x : Nat, n ≤ x → s.back x < 0
  lt : ∀ k, D k → k < m
theorem Kuhn.start {s : Ks} (h1 : ∀ k, s.own k < 0) (h2 : ∀ x, s.back x < 0) : Kuhn adj m 0 s (fun _ => False) :=
  ⟨⟨fun x hx => by have := h2 x; omega, fun k _ hx => by have := h1 k; omega⟩, fun k _ h => h.elim, fun x hx => by omega, fun x _ => h2 x, fun k h => h.elim⟩
theorem Kuhn.step {n : Nat} {s s' : Ks} {D : Nat → Prop} {b : Bool} (K : Kuhn adj m n s D) (hs : ∀ k, s.seen k = false) (H : Srch adj m n 0 s b s') : ∃ D', Kuhn adj m (n + 1) s' D' ∧ (b = true ↔ 0 ≤ s'.back n) ∧ ∀ x : Nat, x ≠ n → (0 ≤ s'.back x ↔ 0 ≤ s.back x) := by
  have hn := K.rest n (Nat.le_refl _)
  cases hb : b with
  | false =>
    obtain ⟨e1, e2⟩ := H.same hb
    obtain ⟨a1, a2⟩ := H.shut hb
    refine ⟨fun k => D k ∨ s'.seen k = true, ⟨⟨by rw [e1, e2]; exact K.mat.back, by rw [e1, e2]; exact K.mat.own⟩, fun k hk hd => ?_, fun x hx hbx q hq hadj => ?_, fun x hx => ?_, fun k hd => ?_⟩, ?_, fun x _ => by rw [e2]⟩
    · rw [e1]
      rcases hd with hd | hd
      · obtain ⟨o, h1, h2⟩ := K.dead k hk hd; exact ⟨o, h1, fun q hq ha => .inl (h2 q hq ha)⟩
      · obtain ⟨_, o, h1, h2⟩ := a2 k hd (hs k); exact ⟨o, h1, fun q hq ha => .inr (h2 q hq ha)⟩
    · by_cases e : x = n
      · subst e; exact .inr (a1 q (Nat.zero_le _) hq hadj)
      · rw [e2] at hbx; exact .inl (K.lost x (by omega) hbx q hq hadj)
    · rw [e2]; exact K.rest x (by omega)
    · rcases hd with hd | hd
      · exact K.lt k hd
      · exact (a2 k hd (hs k)).1
    · rw [e2]; constructor
      · intro h; cases h
      · intro h; omega
  | true =>
    have W := H.win hb K.mat (fun k hk => by omega)
    have hk := H.kept K.dead
    obtain ⟨k0, h0, _⟩ := W.new
    refine ⟨D, ⟨⟨W.back, fun k hkm hx => ?_⟩, fun k hkm hd => ?_, fun x hx hbx => ?_, fun x hx => ?_, K.lt⟩, ⟨fun _ => by omega, fun _ => rfl⟩, fun x hx => (W.rest x hx).1⟩
    · obtain ⟨x, h1, h2⟩ := W.own k hkm hx
      rcases h2 with h2 | ⟨rfl, h2⟩
      · exact ⟨x, h1, h2⟩
      · omega
    · rw [hk k hkm hd]; exact K.dead k hkm hd
    · have hxn : x ≠ n := fun e => by subst e; omega
      have := (W.rest x hxn).1
      exact K.lost x (by omega) (by omega)
    · have := (W.rest x (by omega)).1
      have := K.rest x (by omega)
      omega
end Go.Sp
