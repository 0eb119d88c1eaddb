/- Plain laws: the least minutes, as the program finds them. No program in sight. -/
import Derived.Test.YtjeolkdhicmhgaaRPlC
set_option linter.all false
namespace Go.Sp
open Go.Av
set_option maxRecDepth 100000
theorem rangeGo_succ {S R : Type} (body : Nat → S → (S → R) → R) (ex : S → R) (n i : Nat) (s : S) : rangeGo body ex (n + 1) i s = body i s (rangeGo body ex n (i + 1)) := rfl
theorem listGo_cons {A S R : Type} (body : A → S → (S → R) → R) (ex : S → R) (x : A) (l : List A) (s : S) : listGo body ex (x :: l) s = body x s (listGo body ex l) := rfl
abbrev Rm := Mp round_reached
def item (c : Chart) (T : Nat → Int) (p a : Int) (i : Nat) : Option (Int × Int) := if (way c i).From = p then (fin (way c i) (T i) a).map fun b => ((i : Int), b) else none
theorem from_go {c : Chart} {T : Nat → Int} (N : Net c T) {p a : Int} (ha : 0 ≤ a ∧ a ≤ 1439) (tk : Int → Option Int) (hk : ∀ i : Nat, i < c.Ways.length → tk i = some (T i)) : ∀ n i : Nat, i + n = c.Ways.length →
    rangeGo (fun i1 (s1 : Unit) k1 => (joinK (fun (k3 : Unit → _) => (bif (!decide ((c.Ways.getD i1 default).From = p)) then k3 () else bindO (round_leave (c.Ways.getD i1 default) a) fun y5 => bindO ((bif y5.2 then tk (i1 : Int) else some default)) fun y7 => must ((y5.2 = true → (inI (y5.1 + y7)))) <| bindO ((bif (y5.2 && (decide ((y5.1 + y7) ≤ 1439))) then tk (i1 : Int) else some default)) fun y10 => must (((y5.2 && (decide ((y5.1 + y7) ≤ 1439))) = true → (inI (y5.1 + y10)))) <| emitIf (y5.2 && (decide ((y5.1 + y7) ≤ 1439))) ((i1 : Int), (y5.1 + y10)) <| k3 ())) (fun (s3 : Unit) => k1 ()))) (fun (s1 : Unit) => some []) n i () = some ((List.range' i n).filterMap (item c T p a)) := by
  intro n
  induction n with
  | zero => intro i _; rfl
  | succ n ih =>
    intro i hi
    have hlt : i < c.Ways.length := by omega
    have hw := fit_of (joins_of N.val hlt)
    have g := bgn_ge hw a
    have g1 := hw.lo; have g2 := hw.hi; have g3 := hw.top
    have hTi := N.len i hlt
    have IH := ih (i + 1) (by omega)
    rw [List.range'_succ, List.filterMap_cons]
    rw [rangeGo_succ]
    generalize rangeGo _ _ n (i + 1) () = Z at IH ⊢
    have ew : c.Ways.getD i default = way c i := rfl
    rw [ew]
    unfold joinK
    dsimp only
    unfold item
    by_cases hp : (way c i).From = p
    · rw [if_pos hp, decide_eq_true hp, Bool.not_true, cond_false, leave_eq hw (by omega) (by omega), bindO_some]
      unfold fin
      by_cases h1 : bgn (way c i) a ≤ (way c i).Open.Hi
      · rw [decide_eq_true h1]
        rw [cond_true, hk i hlt, bindO_some, must_pos (fun _ => by unfold inI; omega)]
        by_cases h2 : bgn (way c i) a + T i ≤ 1439
        · rw [decide_eq_true h2, Bool.true_and, cond_true, bindO_some, must_pos (fun _ => by unfold inI; omega), if_pos ⟨h1, h2⟩, IH]
          rfl
        · rw [decide_eq_false h2, Bool.true_and, cond_false, bindO_some, must_pos (fun x => by cases x), if_neg (fun x => h2 x.2), IH]
          rfl
      · rw [decide_eq_false h1]
        rw [cond_false, bindO_some, must_pos (fun x => by cases x), Bool.false_and, cond_false, bindO_some, must_pos (fun x => by cases x), if_neg (fun x => h1 x.1), IH]
        rfl
    · rw [if_neg hp, decide_eq_false hp, Bool.not_false, cond_true, IH]
      rfl
theorem from_eq {c : Chart} {T : Nat → Int} (N : Net c T) {p a : Int} (ha : 0 ≤ a ∧ a ≤ 1439) (tk : Int → Option Int) (hk : ∀ i : Nat, i < c.Ways.length → tk i = some (T i)) :
    round_from_1 c p a tk = some ((List.range' 0 c.Ways.length).filterMap (item c T p a)) := from_go N ha tk hk c.Ways.length 0 (by omega)
theorem mem_items {c : Chart} {T : Nat → Int} {p a : Int} {x : Int × Int} : x ∈ (List.range' 0 c.Ways.length).filterMap (item c T p a) ↔ ∃ i : Nat, i < c.Ways.length ∧ (way c i).From = p ∧ fin (way c i) (T i) a = some x.2 ∧ x.1 = i := by
  rw [List.mem_filterMap]
  constructor
  · rintro ⟨i, hi, h⟩
    unfold item at h
    split at h
    · rename_i hp
      cases hf : fin (way c i) (T i) a with
      | none => rw [hf] at h; cases h
      | some b =>
        rw [hf] at h
        cases h
        exact ⟨i, by simpa using hi, hp, hf, rfl⟩
    · cases h
  · rintro ⟨i, hi, hp, hf, hx⟩
    refine ⟨i, by simpa using hi, ?_⟩
    unfold item
    rw [if_pos hp, hf]
    cases x
    simp only at hx
    subst hx
    rfl
def upd1 (c : Chart) (out : Rm) (m : Rm) (x : Int × Int) : Rm :=
  let to := (way c x.1.toNat).To
  if (out.get to).isSome = false ∧ ((m.get to).isSome = false ∨ x.2 < ((m.get to).getD default).at_) then m.set to ⟨x.2, x.1⟩ else m
theorem list_go (c : Chart) (out : Rm) {R : Type} (k : Rm → Option R) : ∀ (l : List (Int × Int)) (m : Rm), (∀ x ∈ l, 0 ≤ x.1 ∧ x.1 < c.Ways.length) →
    listGo (fun (x6 : Int × Int) (s7 : (Mp round_reached)) k7 => must (0 ≤ (x6.1 : Int) ∧ (x6.1 : Int) < ((c.Ways.length : Nat) : Int)) <| (bif ((!((out.get ((c.Ways.getD (x6.1).toNat default).To)).isSome)) && ((!((s7.get ((c.Ways.getD (x6.1).toNat default).To)).isSome)) || (decide (x6.2 < ((s7.get ((c.Ways.getD (x6.1).toNat default).To)).getD default).at_)))) then k7 (s7.set ((c.Ways.getD (x6.1).toNat default).To) (⟨x6.2, x6.1⟩ : round_reached)) else k7 s7)) k l m = k (l.foldl (upd1 c out) m) := by
  intro l
  induction l with
  | nil => intro m _; rfl
  | cons x l ih =>
    intro m h
    have hx := h x (List.mem_cons_self ..)
    rw [List.foldl_cons, ← ih (upd1 c out m x) (fun y hy => h y (List.mem_cons_of_mem _ hy)), listGo_cons]
    have ew : c.Ways.getD x.1.toNat default = way c x.1.toNat := rfl
    rw [ew, must_pos hx]
    unfold upd1
    dsimp only
    cases (out.get (way c x.1.toNat).To).isSome <;> cases (m.get (way c x.1.toNat).To).isSome <;> by_cases hd : x.2 < ((m.get (way c x.1.toNat).To).getD default).at_ <;> simp [hd]
structure Dij (c : Chart) (T : Nat → Int) (s a0 : Int) (out op : Rm) : Prop where
  rng : ∀ k x, (out.get k = some x ∨ op.get k = some x) → 0 ≤ k ∧ k < c.Places
  snd : ∀ k x, (out.get k = some x ∨ op.get k = some x) → Arr c T s a0 k x.at_ ∧ ((x.way = -1 ∧ k = s ∧ x.at_ = a0) ∨ ∃ i : Nat, x.way = i ∧ i < c.Ways.length ∧ (way c i).To = k ∧ ∃ y, out.get (way c i).From = some y ∧ fin (way c i) (T i) y.at_ = some x.at_)
  dis : ∀ k x, out.get k = some x → op.get k = none
  ord : ∀ k x j y, out.get k = some x → op.get j = some y → x.at_ ≤ y.at_
  cls : ∀ k x, out.get k = some x → ∀ i, i < c.Ways.length → (way c i).From = k → ∀ b, fin (way c i) (T i) x.at_ = some b → (∃ y, out.get (way c i).To = some y ∧ y.at_ ≤ b) ∨ ∃ y, op.get (way c i).To = some y ∧ y.at_ ≤ b
  st : ∃ x, (out.get s = some x ∨ op.get s = some x) ∧ x.at_ ≤ a0
theorem get_set (m : Rm) (k : Int) (x : round_reached) (j : Int) : (m.set k x).get j = if j = k then some x else m.get j := rfl
theorem get_del (m : Rm) (k : Int) (j : Int) : (m.del k).get j = if j = k then none else m.get j := rfl
structure Run (c : Chart) (T : Nat → Int) (s a0 : Int) (out : Rm) (top : Int) (m0 m : Rm) : Prop where
  rng : ∀ k x, m.get k = some x → 0 ≤ k ∧ k < c.Places
  snd : ∀ k x, m.get k = some x → Arr c T s a0 k x.at_ ∧ ((x.way = -1 ∧ k = s ∧ x.at_ = a0) ∨ ∃ i : Nat, x.way = i ∧ i < c.Ways.length ∧ (way c i).To = k ∧ ∃ y, out.get (way c i).From = some y ∧ fin (way c i) (T i) y.at_ = some x.at_)
  dis : ∀ k x, out.get k = some x → m.get k = none
  ord : ∀ j y, m.get j = some y → top ≤ y.at_
  less : ∀ j y, m0.get j = some y → ∃ z, m.get j = some z ∧ z.at_ ≤ y.at_
theorem run_one {c : Chart} {T : Nat → Int} (N : Net c T) {s a0 : Int} {out m0 m : Rm} {p : Int} {x : round_reached} (hx : out.get p = some x) (hA : Arr c T s a0 p x.at_) (H : Run c T s a0 out x.at_ m0 m) (i : Nat) (hi : i < c.Ways.length) (hp : (way c i).From = p) (b : Int) (hf : fin (way c i) (T i) x.at_ = some b) :
    Run c T s a0 out x.at_ m0 (upd1 c out m ((i : Int), b)) ∧ (((out.get (way c i).To).isSome = true) ∨ ∃ y, (upd1 c out m ((i : Int), b)).get (way c i).To = some y ∧ y.at_ ≤ b) ∧ ∀ j y, m.get j = some y → ∃ z, (upd1 c out m ((i : Int), b)).get j = some z ∧ z.at_ ≤ y.at_ := by
  have J := joins_iff.1 (joins_of N.val hi)
  have g := fin_gt (fit_of (joins_of N.val hi)) (N.len i hi).1 hf
  unfold upd1
  simp only [Int.toNat_natCast]
  split
  · rename_i hc
    have hle : ∀ j y, m.get j = some y → ∃ z, (m.set (way c i).To ⟨b, (i : Int)⟩).get j = some z ∧ z.at_ ≤ y.at_ := by
      intro j y hj
      rw [get_set]
      split
      · rename_i e; subst e
        refine ⟨_, rfl, ?_⟩
        rcases hc.2 with h | h
        · rw [hj] at h; cases h
        · rw [hj] at h; simp at h; simp; omega
      · exact ⟨y, hj, Int.le_refl _⟩
    refine ⟨⟨fun k z hz => ?_, fun k z hz => ?_, fun k z hz => ?_, fun j y hj => ?_, fun j y hj => ?_⟩, .inr ⟨_, by rw [get_set, if_pos rfl], Int.le_refl _⟩, hle⟩
    · rw [get_set] at hz
      split at hz
      · rename_i e; subst e; omega
      · exact H.rng k z hz
    · rw [get_set] at hz
      split at hz
      · rename_i e; subst e
        cases hz
        exact ⟨.step p _ i b hA hi hp hf, .inr ⟨i, rfl, hi, rfl, x, by rw [hp]; exact hx, hf⟩⟩
      · exact H.snd k z hz
    · rw [get_set]
      split
      · rename_i e; subst e
        rw [hz] at hc; simp at hc
      · exact H.dis k z hz
    · rw [get_set] at hj
      split at hj
      · cases hj; simp only; omega
      · exact H.ord j y hj
    · obtain ⟨z, h1, h2⟩ := H.less j y hj
      obtain ⟨z', h3, h4⟩ := hle j z h1
      exact ⟨z', h3, by omega⟩
  · rename_i hc
    refine ⟨H, ?_, fun j y hj => ⟨y, hj, Int.le_refl _⟩⟩
    cases ho : (out.get (way c i).To).isSome with
    | true => exact .inl rfl
    | false =>
      right
      cases hm : m.get (way c i).To with
      | none => exact absurd ⟨ho, .inl (by rw [hm]; rfl)⟩ hc
      | some y =>
        refine ⟨y, rfl, ?_⟩
        have : ¬ b < y.at_ := fun h => hc ⟨ho, .inr (by rw [hm]; exact h)⟩
        omega
theorem run_all {c : Chart} {T : Nat → Int} (N : Net c T) {s a0 : Int} {out m0 : Rm} {p : Int} {x : round_reached} (hx : out.get p = some x) (hA : Arr c T s a0 p x.at_) :
    ∀ (l : List (Int × Int)) (m : Rm), (∀ y ∈ l, ∃ i : Nat, i < c.Ways.length ∧ (way c i).From = p ∧ fin (way c i) (T i) x.at_ = some y.2 ∧ y.1 = i) → Run c T s a0 out x.at_ m0 m →
    Run c T s a0 out x.at_ m0 (l.foldl (upd1 c out) m) ∧ (∀ y ∈ l, ((out.get (way c y.1.toNat).To).isSome = true) ∨ ∃ z, (l.foldl (upd1 c out) m).get (way c y.1.toNat).To = some z ∧ z.at_ ≤ y.2) ∧ ∀ j y, m.get j = some y → ∃ z, (l.foldl (upd1 c out) m).get j = some z ∧ z.at_ ≤ y.at_ := by
  intro l
  induction l with
  | nil => intro m _ H; exact ⟨H, by simp, fun j y hj => ⟨y, hj, Int.le_refl _⟩⟩
  | cons y l ih =>
    intro m hl H
    obtain ⟨i, hi, hp, hf, hy⟩ := hl y (List.mem_cons_self ..)
    obtain ⟨H1, h1, h2⟩ := run_one N hx hA H i hi hp y.2 hf
    have ey : y = ((i : Int), y.2) := by rw [← hy]
    rw [List.foldl_cons]
    rw [← ey] at H1 h1 h2
    obtain ⟨H2, k1, k2⟩ := ih (upd1 c out m y) (fun z hz => hl z (List.mem_cons_of_mem _ hz)) H1
    refine ⟨H2, fun z hz => ?_, fun j z hj => ?_⟩
    · rcases List.mem_cons.1 hz with rfl | hz
      · rw [hy, Int.toNat_natCast]
        rcases h1 with h1 | ⟨w, h1, h3⟩
        · exact .inl h1
        · obtain ⟨w', h4, h5⟩ := k2 _ w h1
          exact .inr ⟨w', h4, by omega⟩
      · exact k1 z hz
    · obtain ⟨w, h3, h4⟩ := h2 j z hj
      obtain ⟨w', h5, h6⟩ := k2 j w h3
      exact ⟨w', h5, by omega⟩
def Nxt (op : Rm) (i : Nat) (s : Int) : Prop := (s = -1 ∧ ∀ j : Nat, j < i → op.get j = none) ∨ ((0 ≤ s ∧ s < i) ∧ ∃ x, op.get s = some x ∧ ∀ (j : Nat) y, j < i → op.get j = some y → x.at_ ≤ y.at_)
theorem nxt_go (op : Rm) {R : Type} (k : Int → Option R) : ∀ (n i : Nat) (s : Int), Nxt op i s → ∃ s', Nxt op (i + n) s' ∧
    rangeGo (fun i2 (s2 : Int) k2 => (bif (((op.get (i2 : Int)).isSome) && ((decide (s2 < 0)) || (decide (((op.get (i2 : Int)).getD default).at_ < ((op.get s2).getD default).at_)))) then k2 (i2 : Int) else k2 s2)) k n i s = k s' := by
  intro n
  induction n with
  | zero => intro i s h; exact ⟨s, h, rfl⟩
  | succ n ih =>
    intro i s h
    have key : ∃ s', Nxt op (i + 1) s' ∧ ∀ {R : Type} (k2 : Int → Option R), (bif (((op.get (i : Int)).isSome) && ((decide (s < 0)) || (decide (((op.get (i : Int)).getD default).at_ < ((op.get s).getD default).at_)))) then k2 (i : Int) else k2 s) = k2 s' := by
      cases ho : op.get (i : Int) with
      | none =>
        refine ⟨s, ?_, fun k2 => rfl⟩
        rcases h with ⟨h1, h2⟩ | ⟨h1, x, h2, h3⟩
        · refine .inl ⟨h1, fun j hj => ?_⟩
          by_cases e : j = i
          · subst e; exact ho
          · exact h2 j (by omega)
        · refine .inr ⟨by omega, x, h2, fun j y hj hy => ?_⟩
          by_cases e : j = i
          · subst e; rw [ho] at hy; cases hy
          · exact h3 j y (by omega) hy
      | some w =>
        simp only [Option.isSome_some, Bool.true_and, Option.getD_some]
        rcases h with ⟨h1, h2⟩ | ⟨h1, x, h2, h3⟩
        · subst h1
          refine ⟨i, .inr ⟨by omega, w, ho, fun j y hj hy => ?_⟩, fun k2 => rfl⟩
          by_cases e : j = i
          · subst e; rw [ho] at hy; cases hy; exact Int.le_refl _
          · rw [h2 j (by omega)] at hy; cases hy
        · rw [h2, decide_eq_false (by omega : ¬ s < 0), Bool.false_or, Option.getD_some]
          by_cases hl : w.at_ < x.at_
          · rw [decide_eq_true hl]
            refine ⟨i, .inr ⟨by omega, w, ho, fun j y hj hy => ?_⟩, fun k2 => rfl⟩
            by_cases e : j = i
            · subst e; rw [ho] at hy; cases hy; exact Int.le_refl _
            · have := h3 j y (by omega) hy; omega
          · rw [decide_eq_false hl]
            refine ⟨s, .inr ⟨by omega, x, h2, fun j y hj hy => ?_⟩, fun k2 => rfl⟩
            by_cases e : j = i
            · subst e; rw [ho] at hy; cases hy; omega
            · exact h3 j y (by omega) hy
    obtain ⟨s1, h1, h2⟩ := key
    obtain ⟨s2, h3, h4⟩ := ih (i + 1) s1 h1
    refine ⟨s2, by rw [Nat.add_assoc, Nat.add_comm 1 n] at h3; exact h3, ?_⟩
    rw [rangeGo_succ]
    exact (h2 _).trans h4
def todo (c : Chart) (out : Rm) : Nat := ((List.range c.Places.toNat).filter fun (p : Nat) => (out.get (p : Int)).isNone).length
theorem todo_set {c : Chart} {out : Rm} {k : Int} {x : round_reached} (hk : 0 ≤ k ∧ k < c.Places) (hn : out.get k = none) : todo c (out.set k x) < todo c out := by
  unfold todo
  have hsub : ∀ (l : List Nat), ((l.filter fun (p : Nat) => ((out.set k x).get (p : Int)).isNone).length ≤ (l.filter fun (p : Nat) => (out.get (p : Int)).isNone).length) ∧ (k.toNat ∈ l → (l.filter fun (p : Nat) => ((out.set k x).get (p : Int)).isNone).length < (l.filter fun (p : Nat) => (out.get (p : Int)).isNone).length) := by
    intro l
    induction l with
    | nil => simp
    | cons q l ih =>
      obtain ⟨h1, h2⟩ := ih
      by_cases e : (q : Int) = k
      · have a1 : ((out.set k x).get (q : Int)).isNone = false := by rw [get_set, if_pos e]; rfl
        have a2 : (out.get (q : Int)).isNone = true := by rw [e, hn]; rfl
        simp only [List.filter_cons, a1, a2, if_true]
        simp
        omega
      · have a1 : ((out.set k x).get (q : Int)) = out.get (q : Int) := by rw [get_set, if_neg e]
        have a3 : k.toNat ≠ q := by omega
        simp only [List.filter_cons, a1]
        split
        · simp only [List.length_cons, List.mem_cons]
          exact ⟨by omega, fun h => by rcases h with h | h; exact absurd h a3; have := h2 h; omega⟩
        · simp only [List.mem_cons]
          exact ⟨h1, fun h => by rcases h with h | h; exact absurd h a3; exact h2 h⟩
  exact (hsub _).2 (by simp; omega)
def djOut (p0 : Chart) (p3 : Int → Option Int) : (Rm × Rm) → ((Rm × Rm) → Option Rm) → Option Rm := (fun (s1 : (Mp round_reached) × (Mp round_reached)) k1 => must ((p0.Places).toNat ≤ 9223372036854775807) <| (rangeGo (fun i2 (s2 : Int) k2 => (bif (((s1.2.get (i2 : Int)).isSome) && ((decide (s2 < 0)) || (decide (((s1.2.get (i2 : Int)).getD default).at_ < ((s1.2.get s2).getD default).at_)))) then k2 (i2 : Int) else k2 s2)) (fun (s2 : Int) => (bif (decide (s2 < 0)) then some s1.1 else bindO (round_from_1 p0 s2 (((s1.2.get s2).getD default).at_) p3) fun it6 => (listGo (fun (x6 : Int × Int) (s7 : (Mp round_reached)) k7 => must (0 ≤ (x6.1 : Int) ∧ (x6.1 : Int) < ((p0.Ways.length : Nat) : Int)) <| (bif ((!(((s1.1.set s2 ((s1.2.get s2).getD default)).get ((p0.Ways.getD (x6.1).toNat default).To)).isSome)) && ((!((s7.get ((p0.Ways.getD (x6.1).toNat default).To)).isSome)) || (decide (x6.2 < ((s7.get ((p0.Ways.getD (x6.1).toNat default).To)).getD default).at_)))) then k7 (s7.set ((p0.Ways.getD (x6.1).toNat default).To) (⟨x6.2, x6.1⟩ : round_reached)) else k7 s7)) (fun (s7 : (Mp round_reached)) => k1 ((s1.1.set s2 ((s1.2.get s2).getD default)), s7)) it6 (s1.2.del s2)))) ((p0.Places).toNat) 0 (-1)))
theorem reach_unfold (fuel : Nat) (p0 : Chart) (p1 p2 : Int) (p3 : Int → Option Int) : round_reach fuel p0 p1 p2 p3 = loopGo (djOut p0 p3) fuel ((Mp.empty : Mp round_reached), ((Mp.empty : Mp round_reached).set p1 (⟨p2, (-1)⟩ : round_reached))) := rfl
theorem dj_step {c : Chart} {T : Nat → Int} (N : Net c T) {s a0 : Int} (hs : 0 ≤ s ∧ s < c.Places) (h0 : 0 ≤ a0 ∧ a0 ≤ 1439) (tk : Int → Option Int) (hk : ∀ i : Nat, i < c.Ways.length → tk i = some (T i)) (out op : Rm) (D : Dij c T s a0 out op) (k : Rm × Rm → Option Rm) :
    (djOut c tk (out, op) k = some out ∧ ∀ j, op.get j = none) ∨ ∃ out' op', djOut c tk (out, op) k = k (out', op') ∧ Dij c T s a0 out' op' ∧ todo c out' < todo c out := by
  have hv := valid_iff.1 N.val
  unfold djOut
  dsimp only
  rw [must_pos (by omega)]
  obtain ⟨q, hq, e⟩ := nxt_go op (R := Rm) (fun (s2 : Int) => (bif (decide (s2 < 0)) then some out else bindO (round_from_1 c s2 (((op.get s2).getD default).at_) tk) fun it6 => (listGo (fun (x6 : Int × Int) (s7 : (Mp round_reached)) k7 => must (0 ≤ (x6.1 : Int) ∧ (x6.1 : Int) < ((c.Ways.length : Nat) : Int)) <| (bif ((!(((out.set s2 ((op.get s2).getD default)).get ((c.Ways.getD (x6.1).toNat default).To)).isSome)) && ((!((s7.get ((c.Ways.getD (x6.1).toNat default).To)).isSome)) || (decide (x6.2 < ((s7.get ((c.Ways.getD (x6.1).toNat default).To)).getD default).at_)))) then k7 (s7.set ((c.Ways.getD (x6.1).toNat default).To) (⟨x6.2, x6.1⟩ : round_reached)) else k7 s7)) (fun (s7 : (Mp round_reached)) => k ((out.set s2 ((op.get s2).getD default)), s7)) it6 (op.del s2)))) c.Places.toNat 0 (-1) (.inl ⟨rfl, fun j hj => by omega⟩)
  rw [e]
  rw [Nat.zero_add] at hq
  rcases hq with ⟨h1, h2⟩ | ⟨h1, x, h2, h3⟩
  · left
    subst h1
    refine ⟨rfl, fun j => ?_⟩
    cases hj : op.get j with
    | none => rfl
    | some y =>
      have := D.rng j y (.inr hj)
      have h4 := h2 j.toNat (by omega)
      rw [show ((j.toNat : Nat) : Int) = j by omega, hj] at h4
      cases h4
  · right
    rw [decide_eq_false (by omega : ¬ q < 0), cond_false, h2, Option.getD_some]
    obtain ⟨hA, hW⟩ := D.snd q x (.inr h2)
    have bd := hA.bounds N hs h0
    rw [from_eq N (by omega) tk hk, bindO_some]
    have hno : out.get q = none := by
      cases ho : out.get q with
      | none => rfl
      | some y => have := D.dis q y ho; rw [h2] at this; cases this
    have hmin : ∀ j y, op.get j = some y → x.at_ ≤ y.at_ := fun j y hj => by
      have := D.rng j y (.inr hj)
      exact h3 j.toNat y (by omega) (by rw [show ((j.toNat : Nat) : Int) = j by omega]; exact hj)
    have hx : (out.set q x).get q = some x := by rw [get_set, if_pos rfl]
    have R0 : Run c T s a0 (out.set q x) x.at_ (op.del q) (op.del q) := by
      refine ⟨fun k z hz => ?_, fun k z hz => ?_, fun k z hz => ?_, fun j y hj => ?_, fun j y hj => ⟨y, hj, Int.le_refl _⟩⟩
      · rw [get_del] at hz
        split at hz
        · cases hz
        · exact D.rng k z (.inr hz)
      · rw [get_del] at hz
        split at hz
        · cases hz
        · obtain ⟨a1, a2⟩ := D.snd k z (.inr hz)
          refine ⟨a1, ?_⟩
          rcases a2 with a2 | ⟨i, b1, b2, b3, y, b4, b5⟩
          · exact .inl a2
          · refine .inr ⟨i, b1, b2, b3, y, ?_, b5⟩
            rw [get_set, if_neg (fun e => by rw [e, hno] at b4; cases b4)]
            exact b4
      · rw [get_del]
        split
        · rfl
        · rename_i hne
          rw [get_set, if_neg hne] at hz
          exact D.dis k z hz
      · rw [get_del] at hj
        split at hj
        · cases hj
        · exact hmin j y hj
    obtain ⟨RF, hall, hless⟩ := run_all N hx hA ((List.range' 0 c.Ways.length).filterMap (item c T q x.at_)) (op.del q) (fun y hy => mem_items.1 hy) R0
    refine ⟨_, _, list_go c (out.set q x) _ _ (op.del q) (fun y hy => ?_), ?_, todo_set (D.rng q x (.inr h2)) hno⟩
    · obtain ⟨i, hi, _, _, e2⟩ := mem_items.1 hy
      omega
    · refine ⟨fun k z hz => ?_, fun k z hz => ?_, RF.dis, fun k z j y hz hj => ?_, fun k z hz i hi hfr b hb => ?_, ?_⟩
      · rcases hz with hz | hz
        · rw [get_set] at hz
          split at hz
          · rename_i e1; subst e1; exact D.rng _ x (.inr h2)
          · exact D.rng k z (.inl hz)
        · exact RF.rng k z hz
      · rcases hz with hz | hz
        · have mono : ∀ z : round_reached, ((z.way = -1 ∧ k = s ∧ z.at_ = a0) ∨ ∃ i : Nat, z.way = i ∧ i < c.Ways.length ∧ (way c i).To = k ∧ ∃ y, out.get (way c i).From = some y ∧ fin (way c i) (T i) y.at_ = some z.at_) → ((z.way = -1 ∧ k = s ∧ z.at_ = a0) ∨ ∃ i : Nat, z.way = i ∧ i < c.Ways.length ∧ (way c i).To = k ∧ ∃ y, (out.set q x).get (way c i).From = some y ∧ fin (way c i) (T i) y.at_ = some z.at_) := by
            rintro z (a2 | ⟨i, b1, b2, b3, y, b4, b5⟩)
            · exact .inl a2
            · refine .inr ⟨i, b1, b2, b3, y, ?_, b5⟩
              rw [get_set, if_neg (fun e => by rw [e, hno] at b4; cases b4)]
              exact b4
          rw [get_set] at hz
          split at hz
          · rename_i e1; subst e1; cases hz; exact ⟨hA, mono _ hW⟩
          · obtain ⟨a1, a2⟩ := D.snd k z (.inl hz)
            exact ⟨a1, mono _ a2⟩
        · exact RF.snd k z hz
      · have hj2 := RF.ord j y hj
        rw [get_set] at hz
        split at hz
        · cases hz; exact hj2
        · have := D.ord k z q x hz h2; omega
      · rw [get_set] at hz
        split at hz
        · rename_i e1; subst e1; cases hz
          have hm := hall ((i : Int), b) (mem_items.2 ⟨i, hi, hfr, hb, rfl⟩)
          simp only [Int.toNat_natCast] at hm
          rcases hm with hm | hm
          · left
            have g := fin_gt (fit_of (joins_of N.val hi)) (N.len i hi).1 hb
            obtain ⟨y, hy⟩ := Option.isSome_iff_exists.1 hm
            refine ⟨y, hy, ?_⟩
            rw [get_set] at hy
            split at hy
            · cases hy; omega
            · have := D.ord _ y _ x hy h2; omega
          · exact .inr hm
        · rcases D.cls k z hz i hi hfr b hb with ⟨y, hy1, hy2⟩ | ⟨y, hy1, hy2⟩
          · left
            refine ⟨y, ?_, hy2⟩
            rw [get_set, if_neg (fun e => by rw [e, hno] at hy1; cases hy1)]
            exact hy1
          · by_cases e1 : (way c i).To = q
            · left
              rw [e1, h2] at hy1
              cases hy1
              exact ⟨x, by rw [e1]; exact hx, hy2⟩
            · right
              obtain ⟨w, hw1, hw2⟩ := hless (way c i).To y (by rw [get_del, if_neg e1]; exact hy1)
              exact ⟨w, hw1, by omega⟩
      · obtain ⟨y, hy1, hy2⟩ := D.st
        by_cases e1 : s = q
        · subst e1
          rcases hy1 with hy1 | hy1
          · rw [hno] at hy1; cases hy1
          · rw [h2] at hy1; cases hy1
            exact ⟨x, .inl hx, hy2⟩
        · rcases hy1 with hy1 | hy1
          · exact ⟨y, .inl (by rw [get_set, if_neg e1]; exact hy1), hy2⟩
          · obtain ⟨w, hw1, hw2⟩ := hless s y (by rw [get_del, if_neg e1]; exact hy1)
            exact ⟨w, .inr hw1, by omega⟩
theorem dj_go {c : Chart} {T : Nat → Int} (N : Net c T) {s a0 : Int} (hs : 0 ≤ s ∧ s < c.Places) (h0 : 0 ≤ a0 ∧ a0 ≤ 1439) (tk : Int → Option Int) (hk : ∀ i : Nat, i < c.Ways.length → tk i = some (T i)) :
    ∀ (m n : Nat) (out op : Rm), Dij c T s a0 out op → todo c out ≤ m → m < n → ∃ out' op', loopGo (djOut c tk) n (out, op) = some out' ∧ Dij c T s a0 out' op' ∧ ∀ j, op'.get j = none := by
  intro m
  induction m with
  | zero =>
    intro n out op D hm hn
    obtain ⟨n, rfl⟩ : ∃ k, n = k + 1 := ⟨n - 1, by omega⟩
    rcases dj_step N hs h0 tk hk out op D (loopGo (djOut c tk) n) with ⟨h1, h2⟩ | ⟨out', op', h1, h2, h3⟩
    · exact ⟨out, op, h1, D, h2⟩
    · omega
  | succ m ih =>
    intro n out op D hm hn
    obtain ⟨n, rfl⟩ : ∃ k, n = k + 1 := ⟨n - 1, by omega⟩
    rcases dj_step N hs h0 tk hk out op D (loopGo (djOut c tk) n) with ⟨h1, h2⟩ | ⟨out', op', h1, h2, h3⟩
    · exact ⟨out, op, h1, D, h2⟩
    · obtain ⟨o2, p2, k1, k2, k3⟩ := ih n out' op' h2 (by omega) (by omega)
      exact ⟨o2, p2, h1.trans k1, k2, k3⟩
structure Done (c : Chart) (T : Nat → Int) (s a0 : Int) (out : Rm) : Prop where
  lst : ∀ p, Lst c T s a0 p ((out.get p).map (·.at_))
  rng : ∀ k x, out.get k = some x → 0 ≤ k ∧ k < c.Places
  how : ∀ k x, out.get k = some x → (x.way = -1 ∧ k = s ∧ x.at_ = a0) ∨ ∃ i : Nat, x.way = i ∧ i < c.Ways.length ∧ (way c i).To = k ∧ ∃ y, out.get (way c i).From = some y ∧ fin (way c i) (T i) y.at_ = some x.at_
theorem reach_done {c : Chart} {T : Nat → Int} (N : Net c T) {s a0 : Int} (hs : 0 ≤ s ∧ s < c.Places) (h0 : 0 ≤ a0 ∧ a0 ≤ 1439) (tk : Int → Option Int) (hk : ∀ i : Nat, i < c.Ways.length → tk i = some (T i)) {fuel : Nat} (hf : 14 ≤ fuel) :
    ∃ out, round_reach fuel c s a0 tk = some out ∧ Done c T s a0 out := by
  have hv := valid_iff.1 N.val
  rw [reach_unfold]
  have e0 : ∀ k, (Mp.empty : Rm).get k = none := fun _ => rfl
  have ht : todo c (Mp.empty : Rm) ≤ 12 := by
    unfold todo
    refine Nat.le_trans (List.length_filter_le _ _) ?_
    rw [List.length_range]; omega
  have gs : ∀ k x, ((Mp.empty : Rm).get k = some x ∨ ((Mp.empty : Rm).set s ⟨a0, -1⟩).get k = some x) → k = s ∧ x = ⟨a0, -1⟩ := by
    rintro k x (h | h)
    · rw [e0] at h; cases h
    · rw [get_set] at h
      split at h
      · cases h; exact ⟨by assumption, rfl⟩
      · rw [e0] at h; cases h
  obtain ⟨out, op, h1, D, h2⟩ := dj_go N hs h0 tk hk 12 fuel (Mp.empty : Rm) ((Mp.empty : Rm).set s ⟨a0, -1⟩)
    ⟨fun k x h => (gs k x h).1 ▸ hs, fun k x h => (by obtain ⟨rfl, rfl⟩ := gs k x h; exact ⟨.start, .inl ⟨rfl, rfl, rfl⟩⟩), fun k x h => (by rw [e0] at h; cases h), fun k x j y h => (by rw [e0] at h; cases h),
      fun k x h => (by rw [e0] at h; cases h), ⟨⟨a0, -1⟩, .inr (by rw [get_set, if_pos rfl]), Int.le_refl _⟩⟩ ht (by omega)
  refine ⟨out, h1, fun p => ?_, fun k x h => D.rng k x (.inl h), fun k x h => (D.snd k x (.inl h)).2⟩
  refine cert N (fun p => (out.get p).map (·.at_)) (fun p a h => ?_) ?_ (fun i hi a b h3 h4 => ?_) p
  · obtain ⟨x, e1, e2⟩ := Option.map_eq_some_iff.1 h
    subst e2
    exact (D.snd p x (.inl e1)).1
  · obtain ⟨x, e1, e2⟩ := D.st
    rcases e1 with e1 | e1
    · exact ⟨x.at_, by rw [e1]; rfl, e2⟩
    · rw [h2] at e1; cases e1
  · obtain ⟨x, e1, e2⟩ := Option.map_eq_some_iff.1 h3
    subst e2
    rcases D.cls _ x e1 i hi rfl b h4 with ⟨y, k1, k2⟩ | ⟨y, k1, k2⟩
    · exact ⟨y.at_, by rw [k1]; rfl, k2⟩
    · rw [h2] at k1; cases k1
theorem minutes_go (c : Chart) (m : Rm) : ∀ (n i : Nat), i + n = c.Places.toNat → ∀ L : List Int, L.length = c.Places.toNat → (∀ j, j < i → L.getD j default = match m.get (j : Int) with | some x => x.at_ | none => -1) →
    ∃ L' : List Int, rangeGo (fun i2 (s2 : (List Int)) k2 => must (0 ≤ ((i2 : Int) : Int) ∧ ((i2 : Int) : Int) < ((s2.length : Nat) : Int)) <| (bif (m.get (i2 : Int)).isSome then must (0 ≤ ((i2 : Int) : Int) ∧ ((i2 : Int) : Int) < (((s2.set i2 (-1)).length : Nat) : Int)) <| k2 ((s2.set i2 (-1)).set i2 (((m.get (i2 : Int)).getD default).at_)) else k2 (s2.set i2 (-1)))) (fun (s2 : (List Int)) => some s2) n i L = some L' ∧ L'.length = c.Places.toNat ∧ ∀ j, j < c.Places.toNat → L'.getD j default = match m.get (j : Int) with | some x => x.at_ | none => -1 := by
  intro n
  induction n with
  | zero => intro i hi L hl h; exact ⟨L, rfl, hl, fun j hj => h j (by omega)⟩
  | succ n ih =>
    intro i hi L hl h
    rw [rangeGo_succ, must_pos (by omega)]
    cases hm : m.get (i : Int) with
    | none =>
      rw [Option.isSome_none, cond_false]
      exact ih (i + 1) (by omega) (L.set i (-1)) (by rw [List.length_set]; exact hl) (fun j hj => by
        rw [getD_set _ _ _ _ (by omega)]
        split
        · rename_i e; subst e; rw [hm]
        · exact h j (by omega))
    | some x =>
      rw [Option.isSome_some, cond_true, must_pos (by rw [List.length_set]; omega), Option.getD_some]
      exact ih (i + 1) (by omega) ((L.set i (-1)).set i x.at_) (by rw [List.length_set, List.length_set]; exact hl) (fun j hj => by
        rw [getD_set _ _ _ _ (by rw [List.length_set]; omega), getD_set _ _ _ _ (by omega)]
        split
        · rename_i e; subst e; rw [hm]
        · exact h j (by omega))
theorem minutes_mins {c : Chart} {T : Nat → Int} (N : Net c T) {s a0 : Int} (hs : 0 ≤ s ∧ s < c.Places) (h0 : 0 ≤ a0 ∧ a0 ≤ 1439) {out : Rm} (D : Done c T s a0 out) : ∃ L, round_minutes c out = some L ∧ Mins c T s a0 L := by
  have hv := valid_iff.1 N.val
  unfold round_minutes
  rw [must_pos ⟨by omega, by omega, room_small (by omega) (by omega)⟩, must_pos (by omega)]
  obtain ⟨L, h1, h2, h3⟩ := minutes_go c out c.Places.toNat 0 (by omega) (List.replicate c.Places.toNat 0) (by simp) (fun j hj => by omega)
  refine ⟨L, h1, h2, fun p hp => ?_⟩
  rw [h3 p hp]
  have hl := D.lst p
  cases hg : out.get (p : Int) with
  | none => rw [hg] at hl; exact ⟨by simp, by simpa [mrk] using hl⟩
  | some x =>
    rw [hg] at hl
    have := hl.1.bounds N hs h0
    dsimp only at this
    refine ⟨by simp only; omega, ?_⟩
    simp only
    rw [mrk_pos (by omega)]
    exact hl
end Go.Sp
