/- Plain laws: the least minutes, as the reference finds them. No program in sight. -/
import Derived.Test.YtjeolkdhicmhgaaRPlB
set_option linter.all false
namespace Go.Sp
open Go.Av
set_option maxRecDepth 100000

theorem loopGo_succ {S R : Type} (body : S → (S → Option R) → Option R) (n : Nat) (s : S) : loopGo body (n + 1) s = body s (loopGo body n) := rfl

def mrk (n : Int) : Option Int := if n < 0 then none else some n
theorem mrk_neg {n : Int} (h : n < 0) : mrk n = none := if_pos h
theorem mrk_pos {n : Int} (h : 0 ≤ n) : mrk n = some n := if_neg (by omega)
theorem mrk_some {n a : Int} (h : mrk n = some a) : n = a ∧ 0 ≤ a := by
  unfold mrk at h
  split at h
  · cases h
  · cases h; omega

/-- The list of the least minutes. -/
structure Mins (c : Chart) (T : Nat → Int) (s a0 : Int) (L : List Int) : Prop where
  len : L.length = c.Places.toNat
  lst : ∀ p : Nat, p < c.Places.toNat → -1 ≤ L.getD p default ∧ Lst c T s a0 p (mrk (L.getD p default))

theorem Mins.unique {c : Chart} {T : Nat → Int} {s a0 : Int} {L L' : List Int} (h : Mins c T s a0 L) (h' : Mins c T s a0 L') : L = L' := by
  apply List.ext_getElem (h.len.trans h'.len.symm)
  intro p h1 h2
  have hp : p < c.Places.toNat := by rw [← h.len]; exact h1
  obtain ⟨a1, a2⟩ := h.lst p hp
  obtain ⟨b1, b2⟩ := h'.lst p hp
  rw [List.getD_eq_getElem?_getD, List.getElem?_eq_getElem h1, Option.getD_some] at a1 a2
  rw [List.getD_eq_getElem?_getD, List.getElem?_eq_getElem h2, Option.getD_some] at b1 b2
  have := a2.unique b2
  unfold mrk at this
  split at this <;> split at this
  · omega
  · cases this
  · cases this
  · exact Option.some.inj this

theorem getD_set {T : Type} [Inhabited T] (l : List T) (i j : Nat) (x : T) (hi : i < l.length) : (l.set i x).getD j default = if j = i then x else l.getD j default := by
  rw [List.getD_eq_getElem?_getD, List.getElem?_set, List.getD_eq_getElem?_getD]
  by_cases h : i = j
  · subst h; simp [hi]
  · rw [if_neg h, if_neg (fun e => h e.symm)]

def wt (n : Int) : Nat := if n < 0 then 1440 else n.toNat
def wts (L : List Int) : Nat := (L.map wt).sum

theorem wts_set : ∀ (L : List Int) (i : Nat) (v : Int), i < L.length → wt v < wt (L.getD i default) → wts (L.set i v) < wts L
  | [], _, _, h, _ => by cases h
  | x :: L, 0, v, _, h => by simpa [wts] using h
  | x :: L, i + 1, v, hi, h => by
    have := wts_set L i v (by simpa using hi) (by simpa using h)
    simp only [wts] at this ⊢
    simpa using this

theorem wts_le (L : List Int) (h : ∀ x ∈ L, x ≤ 1439) : wts L ≤ L.length * 1440 := by
  induction L with
  | nil => simp [wts]
  | cons x L ih =>
    have h1 := ih (fun y hy => h y (List.mem_cons_of_mem _ hy))
    have h2 := h x (List.mem_cons_self ..)
    have h3 : wt x ≤ 1440 := by unfold wt; split <;> omega
    simp only [wts, List.map_cons, List.sum_cons, List.length_cons] at h1 ⊢
    omega

def bfIn (p0 : Chart) (p1 : List Int) (k7 : Bool × List Int → Option (List Int)) : (Int × Bool × (List Int)) → ((Int × Bool × (List Int)) → Option (List Int)) → Option (List Int) := (fun (s9 : Int × Bool × (List Int)) k9 => (bif (decide (s9.1 < ((p0.Ways.length : Nat) : Int))) then (joinK (fun (k11 : Bool × (List Int) → _) => must (0 ≤ (s9.1 : Int) ∧ (s9.1 : Int) < ((p0.Ways.length : Nat) : Int)) <| must (0 ≤ ((p0.Ways.getD (s9.1).toNat default).From : Int) ∧ ((p0.Ways.getD (s9.1).toNat default).From : Int) < ((s9.2.2.length : Nat) : Int)) <| (bif (decide ((s9.2.2.getD ((p0.Ways.getD (s9.1).toNat default).From).toNat default) < 0)) then k11 (s9.2.1, s9.2.2) else must (0 ≤ (s9.1 : Int) ∧ (s9.1 : Int) < ((p1.length : Nat) : Int)) <| must (0 ≤ ((p0.Ways.getD (s9.1).toNat default).From : Int) ∧ ((p0.Ways.getD (s9.1).toNat default).From : Int) < ((s9.2.2.length : Nat) : Int)) <| bindO (gasolierref03_Ends (p0.Ways.getD (s9.1).toNat default) (p1.getD (s9.1).toNat default) (s9.2.2.getD ((p0.Ways.getD (s9.1).toNat default).From).toNat default)) fun y18 => must (((decide (0 ≤ y18)) = true → (0 ≤ ((p0.Ways.getD (s9.1).toNat default).To : Int) ∧ ((p0.Ways.getD (s9.1).toNat default).To : Int) < ((s9.2.2.length : Nat) : Int)))) <| must ((((decide (0 ≤ y18)) && !(decide ((s9.2.2.getD ((p0.Ways.getD (s9.1).toNat default).To).toNat default) < 0))) = true → (0 ≤ ((p0.Ways.getD (s9.1).toNat default).To : Int) ∧ ((p0.Ways.getD (s9.1).toNat default).To : Int) < ((s9.2.2.length : Nat) : Int)))) <| (bif ((decide (0 ≤ y18)) && ((decide ((s9.2.2.getD ((p0.Ways.getD (s9.1).toNat default).To).toNat default) < 0)) || (decide (y18 < (s9.2.2.getD ((p0.Ways.getD (s9.1).toNat default).To).toNat default))))) then must (0 ≤ ((p0.Ways.getD (s9.1).toNat default).To : Int) ∧ ((p0.Ways.getD (s9.1).toNat default).To : Int) < ((s9.2.2.length : Nat) : Int)) <| k11 (true, (s9.2.2.set ((p0.Ways.getD (s9.1).toNat default).To).toNat y18)) else k11 (s9.2.1, s9.2.2)))) (fun (s11 : Bool × (List Int)) => must (inI (s9.1 + 1)) <| k9 ((s9.1 + 1), s11.1, s11.2))) else k7 (s9.2.1, s9.2.2)))
def bfOut (fuel : Nat) (p0 : Chart) (p1 : List Int) : (Bool × (List Int)) → ((Bool × (List Int)) → Option (List Int)) → Option (List Int) := (fun (s7 : Bool × (List Int)) k7 => (bif s7.1 then (loopGo (bfIn p0 p1 k7) fuel (0, false, s7.2)) else some s7.2))
def bfInit (fuel : Nat) (p0 : Chart) (p1 : List Int) (p2 : Trip) : (Int × (List Int)) → ((Int × (List Int)) → Option (List Int)) → Option (List Int) := (fun (s2 : Int × (List Int)) k2 => (bif (decide (s2.1 < p0.Places)) then must (0 ≤ (s2.1 : Int) ∧ (s2.1 : Int) < ((s2.2.length : Nat) : Int)) <| must (inI (s2.1 + 1)) <| k2 ((s2.1 + 1), (s2.2.set (s2.1).toNat (-1))) else must (0 ≤ (p2.From : Int) ∧ (p2.From : Int) < ((s2.2.length : Nat) : Int)) <| (loopGo (bfOut fuel p0 p1) fuel (true, (s2.2.set (p2.From).toNat p2.At)))))
theorem reached_unfold (fuel : Nat) (p0 : Chart) (p1 : List Int) (p2 : Trip) : gasolierref03_reached fuel p0 p1 p2 = must (0 ≤ (p0.Places : Int) ∧ (p0.Places : Int) ≤ p0.Places ∧ room (p0.Places).toNat 8) (loopGo (bfInit fuel p0 p1 p2) fuel (0, (List.replicate (p0.Places).toNat (0 : Int)))) := rfl

def Tl (l : List Int) (i : Nat) : Int := l.getD i default

/-- What is true of the marks all along. -/
structure Good (c : Chart) (T : List Int) (s a0 : Int) (L : List Int) : Prop where
  len : L.length = c.Places.toNat
  ok : ∀ p : Nat, p < c.Places.toNat → -1 ≤ L.getD p default ∧ (0 ≤ L.getD p default → Arr c (Tl T) s a0 p (L.getD p default))
  st : 0 ≤ L.getD s.toNat default ∧ L.getD s.toNat default ≤ a0

/-- A way that lessens nothing. -/
def Closed (c : Chart) (T : List Int) (L : List Int) (i : Nat) : Prop :=
  ∀ a b, mrk (L.getD (way c i).From.toNat default) = some a → fin (way c i) (Tl T i) a = some b → ∃ x, mrk (L.getD (way c i).To.toNat default) = some x ∧ x ≤ b

theorem bfIn_step {c : Chart} {T : List Int} (N : Net c (Tl T)) (hT : T.length = c.Ways.length) {s a0 : Int} (hs : 0 ≤ s ∧ s < c.Places) (h0 : 0 ≤ a0 ∧ a0 ≤ 1439) (k7 : Bool × List Int → Option (List Int))
    (i : Nat) (hi : i < c.Ways.length) (again : Bool) (L : List Int) (G : Good c T s a0 L) (k : Int × Bool × List Int → Option (List Int)) :
    ∃ ag L', bfIn c T k7 ((i : Int), again, L) k = k (((i + 1 : Nat) : Int), ag, L') ∧ Good c T s a0 L' ∧ ((ag = again ∧ L' = L ∧ Closed c T L i) ∨ (ag = true ∧ wts L' < wts L)) := by
  have J := joins_iff.1 (joins_of N.val hi)
  have hw := fit_of (joins_of N.val hi)
  have hv := valid_iff.1 N.val
  have hl := G.len
  have hTi := N.len i hi
  obtain ⟨f1, f2⟩ := G.ok (way c i).From.toNat (by omega)
  obtain ⟨t1, t2⟩ := G.ok (way c i).To.toNat (by omega)
  have ef : (((way c i).From.toNat : Nat) : Int) = (way c i).From := by omega
  have et : (((way c i).To.toNat : Nat) : Int) = (way c i).To := by omega
  rw [ef] at f2; rw [et] at t2
  unfold bfIn joinK
  simp only [Int.toNat_natCast]
  rw [decide_eq_true (by omega : ((i : Nat) : Int) < c.Ways.length), cond_true]
  have ew : c.Ways.getD i default = way c i := rfl
  have eT : T.getD i default = Tl T i := rfl
  simp only [ew, eT]
  rw [must_pos (by omega), must_pos (by omega)]
  by_cases hfr : L.getD (way c i).From.toNat default < 0
  · rw [decide_eq_true hfr, cond_true, must_pos (by unfold inI; omega)]
    refine ⟨again, L, rfl, G, .inl ⟨rfl, rfl, fun a b h1 _ => ?_⟩⟩
    rw [mrk_neg hfr] at h1; cases h1
  · rw [decide_eq_false hfr, cond_false, must_pos (by omega)]
    have bd := (f2 (by omega)).bounds N hs h0
    rw [must_pos (by omega), ends_eq hw (by omega) (by omega) (by omega), bindO_some]
    cases hfin : fin (way c i) (Tl T i) (L.getD (way c i).From.toNat default) with
    | none =>
      have e0 : decide ((0 : Int) ≤ -1) = false := decide_eq_false (by omega)
      rw [Option.getD_none, must_pos (fun x => by rw [e0] at x; cases x), must_pos (fun x => by rw [e0] at x; cases x), e0, Bool.false_and, cond_false, must_pos (by unfold inI; omega)]
      refine ⟨again, L, rfl, G, .inl ⟨rfl, rfl, fun a b h1 h2 => ?_⟩⟩
      obtain ⟨e, _⟩ := mrk_some h1
      rw [e] at hfin; rw [hfin] at h2; cases h2
    | some b =>
      have gb := fin_gt hw hTi.1 hfin
      rw [Option.getD_some, must_pos (fun _ => by omega), must_pos (fun _ => by omega), decide_eq_true (by omega : 0 ≤ b), Bool.true_and]
      cases hc : (decide (L.getD (way c i).To.toNat default < 0) || decide (b < L.getD (way c i).To.toNat default)) with
      | true =>
        rw [cond_true]
        rw [must_pos (by omega), must_pos (by unfold inI; omega)]
        simp only [Bool.or_eq_true, decide_eq_true_eq] at hc
        have hti : (way c i).To.toNat < L.length := by omega
        refine ⟨true, L.set (way c i).To.toNat b, rfl, ⟨by rw [List.length_set]; exact hl, fun p hp => ?_, ?_⟩, .inr ⟨rfl, wts_set _ _ _ hti ?_⟩⟩
        · rw [getD_set _ _ _ _ hti]
          split
          · rename_i e; subst e
            refine ⟨by omega, fun _ => ?_⟩
            rw [et]
            exact .step _ _ i b (f2 (by omega)) hi rfl hfin
          · exact G.ok p hp
        · rw [getD_set _ _ _ _ hti]
          split
          · rename_i e
            have := G.st
            have e2 : (way c i).To.toNat = s.toNat := e.symm
            rw [e2] at hc
            omega
          · exact G.st
        · unfold wt
          split
          · omega
          · split <;> omega
      | false =>
        rw [cond_false, must_pos (by unfold inI; omega)]
        refine ⟨again, L, rfl, G, .inl ⟨rfl, rfl, fun a b' h1 h2 => ?_⟩⟩
        obtain ⟨e, _⟩ := mrk_some h1
        rw [← e, hfin] at h2; cases h2
        simp only [Bool.or_eq_false_iff, decide_eq_false_iff_not] at hc
        exact ⟨_, mrk_pos (by omega), by omega⟩

theorem bfIn_go {c : Chart} {T : List Int} (N : Net c (Tl T)) (hT : T.length = c.Ways.length) {s a0 : Int} (hs : 0 ≤ s ∧ s < c.Places) (h0 : 0 ≤ a0 ∧ a0 ≤ 1439) (k7 : Bool × List Int → Option (List Int)) :
    ∀ (n i : Nat), i ≤ c.Ways.length → c.Ways.length - i < n → ∀ (again : Bool) (L : List Int), Good c T s a0 L →
    ∃ ag L', loopGo (bfIn c T k7) n ((i : Int), again, L) = k7 (ag, L') ∧ Good c T s a0 L' ∧ ((ag = again ∧ L' = L ∧ ∀ j, i ≤ j → j < c.Ways.length → Closed c T L j) ∨ (ag = true ∧ wts L' < wts L)) := by
  intro n
  induction n with
  | zero => intro i _ h; omega
  | succ n ih =>
    intro i hi hn again L G
    rw [loopGo_succ]
    by_cases hlt : i < c.Ways.length
    · obtain ⟨ag, L1, e1, G1, h1⟩ := bfIn_step N hT hs h0 k7 i hlt again L G (loopGo (bfIn c T k7) n)
      obtain ⟨ag2, L2, e2, G2, h2⟩ := ih (i + 1) (by omega) (by omega) ag L1 G1
      refine ⟨ag2, L2, e1.trans e2, G2, ?_⟩
      rcases h1 with ⟨rfl, rfl, hc⟩ | ⟨rfl, hm⟩
      · rcases h2 with ⟨rfl, rfl, hd⟩ | ⟨rfl, hm⟩
        · exact .inl ⟨rfl, rfl, fun j hj1 hj2 => if h : j = i then h ▸ hc else hd j (by omega) hj2⟩
        · exact .inr ⟨rfl, hm⟩
      · rcases h2 with ⟨rfl, rfl, hd⟩ | ⟨rfl, hm2⟩
        · exact .inr ⟨rfl, hm⟩
        · exact .inr ⟨rfl, by omega⟩
    · refine ⟨again, L, ?_, G, .inl ⟨rfl, rfl, fun j h1 h2 => by omega⟩⟩
      unfold bfIn
      simp only [decide_eq_false (by omega : ¬ ((i : Nat) : Int) < c.Ways.length), cond_false]

theorem bfOut_go {c : Chart} {T : List Int} (N : Net c (Tl T)) (hT : T.length = c.Ways.length) {s a0 : Int} (hs : 0 ≤ s ∧ s < c.Places) (h0 : 0 ≤ a0 ∧ a0 ≤ 1439) (fuel : Nat) (hf : 41 ≤ fuel) :
    ∀ (m n : Nat) (L : List Int), Good c T s a0 L → wts L ≤ m → m + 2 ≤ n → ∃ L', loopGo (bfOut fuel c T) n (true, L) = some L' ∧ Good c T s a0 L' ∧ ∀ j, j < c.Ways.length → Closed c T L' j := by
  have hlen := (valid_iff.1 N.val).2.1
  have one : ∀ (n : Nat) (L : List Int), Good c T s a0 L → ∃ ag L', loopGo (bfOut fuel c T) (n + 1) (true, L) = loopGo (bfOut fuel c T) n (ag, L') ∧ Good c T s a0 L' ∧ ((ag = false ∧ L' = L ∧ ∀ j, j < c.Ways.length → Closed c T L j) ∨ (ag = true ∧ wts L' < wts L)) := by
    intro n L G
    obtain ⟨ag, L', e, G', h⟩ := bfIn_go N hT hs h0 (loopGo (bfOut fuel c T) n) fuel 0 (by omega) (by omega) false L G
    refine ⟨ag, L', e, G', ?_⟩
    rcases h with ⟨h1, h2, h3⟩ | h
    · exact .inl ⟨h1, h2, fun j hj => h3 j (by omega) hj⟩
    · exact .inr h
  intro m
  induction m with
  | zero =>
    intro n L G hm hn
    obtain ⟨n, rfl⟩ : ∃ k, n = k + 2 := ⟨n - 2, by omega⟩
    obtain ⟨ag, L', e, G', h⟩ := one (n + 1) L G
    rcases h with ⟨rfl, rfl, h3⟩ | ⟨_, h⟩
    · exact ⟨L', e, G', h3⟩
    · omega
  | succ m ih =>
    intro n L G hm hn
    obtain ⟨n, rfl⟩ : ∃ k, n = k + 2 := ⟨n - 2, by omega⟩
    obtain ⟨ag, L', e, G', h⟩ := one (n + 1) L G
    rcases h with ⟨rfl, rfl, h3⟩ | ⟨rfl, h⟩
    · exact ⟨L', e, G', h3⟩
    · obtain ⟨L2, e2, G2, h2⟩ := ih (n + 1) L' G' (by omega) (by omega)
      exact ⟨L2, e.trans e2, G2, h2⟩

theorem bfInit_go {c : Chart} {T : List Int} (fuel : Nat) (t : Trip) (h0 : 0 ≤ c.Places ∧ c.Places ≤ 12) (ht : 0 ≤ t.From ∧ t.From < c.Places) : ∀ (n i : Nat), i ≤ c.Places.toNat → c.Places.toNat - i < n → ∀ L : List Int, L.length = c.Places.toNat →
    (∀ j, j < i → L.getD j default = -1) → ∃ L' : List Int, L'.length = c.Places.toNat ∧ (∀ j, j < c.Places.toNat → L'.getD j default = -1) ∧ loopGo (bfInit fuel c T t) n ((i : Int), L) = loopGo (bfOut fuel c T) fuel (true, L'.set t.From.toNat t.At) := by
  intro n
  induction n with
  | zero => intro i _ h; omega
  | succ n ih =>
    intro i hi hn L hl hL
    rw [loopGo_succ]
    by_cases hlt : i < c.Places.toNat
    · obtain ⟨L', h1, h2, h3⟩ := ih (i + 1) (by omega) (by omega) (L.set i (-1)) (by rw [List.length_set]; exact hl) (fun j hj => by
        rw [getD_set _ _ _ _ (by omega)]
        split
        · rfl
        · exact hL j (by omega))
      refine ⟨L', h1, h2, Eq.trans ?_ h3⟩
      unfold bfInit
      simp only [decide_eq_true (by omega : ((i : Nat) : Int) < c.Places), cond_true, Int.toNat_natCast]
      rw [must_pos (by omega), must_pos (by unfold inI; omega)]
      rfl
    · refine ⟨L, hl, fun j hj => hL j (by omega), ?_⟩
      unfold bfInit
      simp only [decide_eq_false (by omega : ¬ ((i : Nat) : Int) < c.Places), cond_false]
      rw [must_pos (by omega)]

/-- The reference finds the least minutes. -/
theorem reached_mins {c : Chart} {T : List Int} (N : Net c (Tl T)) (hT : T.length = c.Ways.length) (t : Trip) (hs : 0 ≤ t.From ∧ t.From < c.Places) (h0 : 0 ≤ t.At ∧ t.At ≤ 1439) {fuel : Nat} (hf : 20000 ≤ fuel) :
    ∃ L, gasolierref03_reached fuel c T t = some L ∧ Mins c (Tl T) t.From t.At L := by
  have hv := valid_iff.1 N.val
  rw [reached_unfold, must_pos ⟨by omega, by omega, room_small (by omega) (by omega)⟩]
  obtain ⟨L', h1, h2, h3⟩ := bfInit_go (c := c) (T := T) fuel t (by omega) hs fuel 0 (by omega) (by omega) (List.replicate c.Places.toNat 0) (by simp) (fun j hj => by omega)
  have hfr : t.From.toNat < L'.length := by omega
  have es : ((t.From.toNat : Nat) : Int) = t.From := by omega
  have G : Good c T t.From t.At (L'.set t.From.toNat t.At) := by
    refine ⟨by rw [List.length_set]; exact h1, fun p hp => ?_, ?_⟩
    · rw [getD_set _ _ _ _ hfr]
      split
      · rename_i e; subst e
        rw [es]
        exact ⟨by omega, fun _ => .start⟩
      · rw [h2 p hp]; exact ⟨by omega, fun h => by omega⟩
    · rw [getD_set _ _ _ _ hfr, if_pos rfl]; omega
  have hw := wts_le (L'.set t.From.toNat t.At) (fun x hx => by
    obtain ⟨p, hp, rfl⟩ := List.getElem_of_mem hx
    have hp' : p < c.Places.toNat := by rw [List.length_set] at hp; omega
    have e : (L'.set t.From.toNat t.At).getD p default = (L'.set t.From.toNat t.At)[p] := by rw [List.getD_eq_getElem?_getD, List.getElem?_eq_getElem hp]; rfl
    rw [← e, getD_set _ _ _ _ hfr]
    split
    · omega
    · rw [h2 p hp']; omega)
  rw [List.length_set, h1] at hw
  obtain ⟨L, e, GL, hc⟩ := bfOut_go N hT hs h0 fuel (by omega) (wts (L'.set t.From.toNat t.At)) fuel _ G (Nat.le_refl _) (by omega)
  refine ⟨L, h3.trans e, GL.len, fun p hp => ⟨(GL.ok p hp).1, ?_⟩⟩
  have := cert N (s := t.From) (a0 := t.At) (fun q => if 0 ≤ q ∧ q < c.Places then mrk (L.getD q.toNat default) else none) (fun q a h => ?_) ?_ (fun i hi a b h1 h2 => ?_) p
  · rw [if_pos (by omega)] at this
    exact this
  · split at h
    · rename_i hq
      obtain ⟨e1, e2⟩ := mrk_some h
      have := (GL.ok q.toNat (by omega)).2 (by omega)
      rw [show ((q.toNat : Nat) : Int) = q by omega, e1] at this
      exact this
    · cases h
  · rw [if_pos hs]
    exact ⟨_, mrk_pos GL.st.1, GL.st.2⟩
  · have J := joins_iff.1 (joins_of N.val hi)
    rw [if_pos (by omega)] at h1 ⊢
    exact hc i hi a b h1 h2

end Go.Sp
