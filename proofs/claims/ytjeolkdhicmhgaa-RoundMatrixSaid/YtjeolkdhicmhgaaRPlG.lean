/- Plain laws: rounds that are in time, slack, rounds without a way. No program in sight. -/
import Derived.Test.YtjeolkdhicmhgaaRPlF
set_option linter.all false
namespace Go.Sp
open Go.Av
set_option maxRecDepth 100000
def isTk (c : Chart) (T : List Int) : Bool := decide (T.length = c.Ways.length) && (List.range' 0 T.length).all fun i => decide ((way c i).Takes.Lo ≤ Tl T i) && decide (Tl T i ≤ (way c i).Takes.Hi)
def WalkP (c : Chart) (T : List Int) (p a : Int) (r : List Int × Int) : Prop :=
  (askE c p a ≠ 0 ∧ r = ([], askE c p a)) ∨ (askE c p a = 0 ∧ isTk c T = false ∧ r = ([], 38)) ∨ (askE c p a = 0 ∧ isTk c T = true ∧ r.2 = 0 ∧ Mins c (Tl T) p a r.1)
theorem WalkP.unique {c : Chart} {T : List Int} {p a : Int} {r r' : List Int × Int} (h : WalkP c T p a r) (h' : WalkP c T p a r') : r = r' := by
  rcases h with ⟨h1, h2⟩ | ⟨h1, h2, h3⟩ | ⟨h1, h2, h3, h4⟩ <;> rcases h' with ⟨k1, k2⟩ | ⟨k1, k2, k3⟩ | ⟨k1, k2, k3, k4⟩
  · rw [h2, k2]
  · exact absurd k1 h1
  · exact absurd k1 h1
  · exact absurd h1 k1
  · rw [h3, k3]
  · rw [h2] at k2; cases k2
  · exact absurd h1 k1
  · rw [h2] at k2; cases k2
  · exact Prod.ext (h4.unique k4) (h3.trans k3.symm)
def BegP (c : Chart) (T : Nat → Int) (r : Round) (e : Int) (x : List Int × Int) : Prop := (e ≠ 0 ∧ x = ([], e)) ∨ (e = 0 ∧ x.2 = 0 ∧ r.Stops.length ≤ 16 ∧ Bgs c T r.Stops r.Place r.At x.1)
theorem BegP.unique {c : Chart} {T : Nat → Int} {r : Round} {e : Int} {x x' : List Int × Int} (h : BegP c T r e x) (h' : BegP c T r e x') : x = x' := by
  rcases h with ⟨h1, h2⟩ | ⟨h1, h2, _, h3⟩ <;> rcases h' with ⟨k1, k2⟩ | ⟨k1, k2, _, k3⟩
  · rw [h2, k2]
  · exact absurd k1 h1
  · exact absurd h1 k1
  · exact Prod.ext (h3.unique k3) (h2.trans k2.symm)
def allB (L : List Int) : Bool := L.all fun x => decide (0 ≤ x)
theorem Bgs.ge {c : Chart} {T : Nat → Int} : ∀ {l : List Stop} (_ : ∀ s ∈ l, okStop c s = true) {p a : Int} {L : List Int}, Bgs c T l p a L → ∀ x ∈ L, -1 ≤ x
  | [], _, _, _, _, h, x, hx => by rw [h] at hx; cases hx
  | s :: r, hl, p, a, L, h, x, hx => by
    have rep : L = List.replicate (r.length + 1) (-1) → -1 ≤ x := fun e => by
      rw [e] at hx
      have := List.eq_of_mem_replicate hx
      omega
    rcases h with ⟨_, h2⟩ | ⟨_, ⟨_, h2⟩ | ⟨m, _, ⟨_, h2⟩ | ⟨_, L', h2, h3⟩⟩⟩
    · exact rep h2
    · exact rep h2
    · exact rep h2
    · rw [h2] at hx
      have hs := okStop_iff.1 (hl s (List.mem_cons_self ..))
      rcases List.mem_cons.1 hx with e | hx
      · omega
      · exact Bgs.ge (fun s hs => hl s (List.mem_cons_of_mem _ hs)) h3 x hx
def Itm (c : Chart) (r : Round) (v : Int) : Prop := ∃ L1 L2, Bgs c (boT c true) r.Stops r.Place r.At L1 ∧ Bgs c (boT c false) r.Stops r.Place r.At L2 ∧ v = (bif allB L1 then 1 else (bif allB L2 then 2 else 0))
theorem Itm.unique {c : Chart} {r : Round} {v w : Int} (h : Itm c r v) (h' : Itm c r w) : v = w := by
  obtain ⟨L1, L2, h1, h2, h3⟩ := h
  obtain ⟨M1, M2, k1, k2, k3⟩ := h'
  rw [h3, k3, h1.unique k1, h2.unique k2]
structure RdOk (c : Chart) (r : Round) : Prop where
  pl : 0 ≤ r.Place ∧ r.Place < c.Places
  at_ : 0 ≤ r.At ∧ r.At ≤ 100000
  len : r.Stops.length ≤ 16
  ok : ∀ s ∈ r.Stops, okStop c s = true
theorem begins_bo {fuel : Nat} (hf : 41 ≤ fuel) {c : Chart} (hv : valid c = true) {r : Round} (hr : RdOk c r) : (∃ L, round_begins fuel c r (fun x0 => round_most_1 x0 c) = some L ∧ Bgs c (boT c true) r.Stops r.Place r.At L) ∧ ∃ L, round_begins fuel c r (fun x0 => round_least_1 x0 c) = some L ∧ Bgs c (boT c false) r.Stops r.Place r.At L :=
  ⟨begins_eq (net_bo hv true) _ (fun i hi => most_eq c i hi) hf hr.pl hr.at_ hr.len hr.ok, begins_eq (net_bo hv false) _ (fun i hi => leastT_eq c i hi) hf hr.pl hr.at_ hr.len hr.ok⟩
theorem Arr.later {c : Chart} {T : Nat → Int} (N : Net c T) {s a a' p b' : Int} (h : a ≤ a') (H : Arr c T s a' p b') : ∃ b, Arr c T s a p b ∧ b ≤ b' := by
  induction H with
  | start => exact ⟨a, .start, h⟩
  | step p x i y h hi hf hb ih =>
    obtain ⟨x', h1, h2⟩ := ih
    obtain ⟨y', h3, h4⟩ := fin_mono (fit_of (joins_of N.val hi)) h2 hb
    exact ⟨y', .step p x' i y' h1 hi hf h3, h4⟩
theorem Arr.less {c : Chart} {T U : Nat → Int} (N : Net c T) (hTU : ∀ i, i < c.Ways.length → T i ≤ U i) {s a p b' : Int} (H : Arr c U s a p b') : ∃ b, Arr c T s a p b ∧ b ≤ b' := by
  induction H with
  | start => exact ⟨a, .start, Int.le_refl _⟩
  | step p x i y h hi hf hb ih =>
    obtain ⟨x', h1, h2⟩ := ih
    obtain ⟨y1, h3, h4⟩ := fin_less (hTU i hi) hb
    obtain ⟨y', h5, h6⟩ := fin_mono (fit_of (joins_of N.val hi)) h2 h3
    exact ⟨y', .step p x' i y' h1 hi hf h5, by omega⟩
theorem Lst.better {c : Chart} {T U : Nat → Int} {s a a' p m' : Int} (hb : ∀ b', Arr c U s a' p b' → ∃ b, Arr c T s a p b ∧ b ≤ b') (h : Lst c U s a' p (some m')) {d : Option Int} (hd : Lst c T s a p d) : ∃ m, d = some m ∧ m ≤ m' := by
  obtain ⟨b, h1, h2⟩ := hb m' h.1
  cases d with
  | none => exact absurd h1 (hd b)
  | some m => exact ⟨m, rfl, Int.le_trans (hd.2 b h1) h2⟩
theorem allB_rep (n : Nat) : allB (List.replicate (n + 1) (-1)) = false := rfl
theorem Bgs.better {c : Chart} {T U : Nat → Int} (N : Net c T) (NU : Net c U) (hTU : ∀ i, i < c.Ways.length → T i ≤ U i) : ∀ {l : List Stop} (_ : ∀ s ∈ l, okStop c s = true) {p a a' : Int} {L L' : List Int}, a ≤ a' → Bgs c U l p a' L' → Bgs c T l p a L → allB L' = true → allB L = true
  | [], _, _, _, _, L, _, _, _, h, _ => by rw [h]; rfl
  | s :: r, hl, p, a, a', L, L', hle, h', h, hall => by
    have no : L' ≠ List.replicate (r.length + 1) (-1) := fun e => by rw [e, allB_rep] at hall; cases hall
    rcases h' with ⟨_, k2⟩ | ⟨k1, ⟨_, k2⟩ | ⟨m', k2, ⟨_, k3⟩ | ⟨k3, M', k4, k5⟩⟩⟩
    · exact absurd k2 no
    · exact absurd k2 no
    · exact absurd k3 no
    · have hb : ∀ b', Arr c U p a' s.Place b' → ∃ b, Arr c T p a s.Place b ∧ b ≤ b' := fun b' hb' => by
        obtain ⟨b1, h1, h2⟩ := hb'.later NU hle
        obtain ⟨b2, h3, h4⟩ := h1.less N hTU
        exact ⟨b2, h3, by omega⟩
      rw [k4] at hall
      simp only [allB, List.all_cons, Bool.and_eq_true, decide_eq_true_eq] at hall
      have hs := okStop_iff.1 (hl s (List.mem_cons_self ..))
      rcases h with ⟨h1, _⟩ | ⟨h1, ⟨h2, _⟩ | ⟨m, h2, h3⟩⟩
      · omega
      · obtain ⟨m, e, _⟩ := k2.better hb h2
        cases e
      · obtain ⟨m2, e, hm⟩ := k2.better hb h2
        cases e
        rcases h3 with ⟨h3, _⟩ | ⟨h3, M, h4, h5⟩
        · omega
        · have := Bgs.better N NU hTU (fun s hs => hl s (List.mem_cons_of_mem _ hs)) (by omega) k5 h5 hall.2
          rw [h4]
          simp only [allB, List.all_cons, Bool.and_eq_true, decide_eq_true_eq]
          exact ⟨by omega, this⟩
def Still (c : Chart) (r : Round) (d : Int) : Prop := r.At + d ≤ 1439 ∧ ∃ L, Bgs c (boT c true) r.Stops r.Place (r.At + d) L ∧ allB L = true
theorem Still.less {c : Chart} (hv : valid c = true) {r : Round} (hr : RdOk c r) {d d' : Int} (h0 : 0 ≤ d) (h : d ≤ d') (H : Still c r d') : Still c r d := by
  obtain ⟨h1, L, h2, h3⟩ := H
  refine ⟨by omega, ?_⟩
  have at0 := hr.at_.1
  obtain ⟨⟨M, _, B⟩, _⟩ := begins_bo (fuel := 41) (Nat.le_refl _) hv (r := ⟨r.Place, r.At + d, r.Stops⟩) ⟨hr.pl, ⟨by show 0 ≤ r.At + d; omega, by show r.At + d ≤ 100000; omega⟩, hr.len, hr.ok⟩
  exact ⟨M, B, Bgs.better (net_bo hv true) (net_bo hv true) (fun i _ => Int.le_refl _) hr.ok (by show r.At + d ≤ r.At + d'; omega) h2 B h3⟩
def Slk (c : Chart) (r : Round) (m : Int) : Prop := 0 ≤ m ∧ Still c r m ∧ ∀ d, m < d → ¬ Still c r d
theorem Slk.unique {c : Chart} {r : Round} {m m' : Int} (h : Slk c r m) (h' : Slk c r m') : m = m' := by
  have h1 := h.2.2 m'
  have h2 := h'.2.2 m
  by_cases e : m < m'
  · exact absurd h'.2.1 (h1 e)
  · by_cases e2 : m' < m
    · exact absurd h.2.1 (h2 e2)
    · omega
def SlkP (c : Chart) (r : Round) (x : Int × Int) : Prop := (rdE c r ≠ 0 ∧ x = (0, rdE c r)) ∨ (rdE c r = 0 ∧ ¬ Still c r 0 ∧ x = (0, 36)) ∨ (rdE c r = 0 ∧ Still c r 0 ∧ x.2 = 0 ∧ Slk c r x.1)
theorem SlkP.unique {c : Chart} {r : Round} {x x' : Int × Int} (h : SlkP c r x) (h' : SlkP c r x') : x = x' := by
  rcases h with ⟨h1, h2⟩ | ⟨h1, h2, h3⟩ | ⟨h1, h2, h3, h4⟩ <;> rcases h' with ⟨k1, k2⟩ | ⟨k1, k2, k3⟩ | ⟨k1, k2, k3, k4⟩
  · rw [h2, k2]
  · exact absurd k1 h1
  · exact absurd k1 h1
  · exact absurd h1 k1
  · rw [h3, k3]
  · exact absurd k2 h2
  · exact absurd h1 k1
  · exact absurd h2 k2
  · exact Prod.ext (h4.unique k4) (h3.trans k3.symm)
def Mvd (c c' : Chart) : List Round → Nat → List Int → Prop
  | [], _, R => R = []
  | r :: l, i, R => ∃ v w R', Itm c r v ∧ Itm c' r w ∧ Mvd c c' l (i + 1) R' ∧ R = if v = w then R' else (i : Int) :: R'
theorem Mvd.unique {c c' : Chart} : ∀ {l : List Round} {i : Nat} {R R' : List Int}, Mvd c c' l i R → Mvd c c' l i R' → R = R'
  | [], _, _, _, h, h' => h.trans h'.symm
  | r :: l, i, R, R', ⟨v, w, Q, h1, h2, h3, h4⟩, ⟨v', w', Q', k1, k2, k3, k4⟩ => by
    rw [h4, k4, h1.unique k1, h2.unique k2, Mvd.unique h3 k3]
theorem Mvd.len {c c' : Chart} : ∀ {l : List Round} {i : Nat} {R : List Int}, Mvd c c' l i R → R.length ≤ l.length
  | [], _, _, h => by rw [h]; simp
  | r :: l, i, R, ⟨v, w, Q, _, _, h3, h4⟩ => by
    have := h3.len
    rw [h4]
    split
    · simp; omega
    · simp; omega
def MvdP (c : Chart) (i : Int) (l : List Round) (x : List Int × Int) : Prop :=
  (valid c = false ∧ x = ([], 31)) ∨ (valid c = true ∧ ¬ (0 ≤ i ∧ i < c.Ways.length) ∧ x = ([], 1)) ∨ (valid c = true ∧ (0 ≤ i ∧ i < c.Ways.length) ∧
    ((12 < l.length ∧ x = ([], 2)) ∨ (l.length ≤ 12 ∧ ((l.all (isRd c) = false ∧ x = ([], 33)) ∨ (l.all (isRd c) = true ∧ x.2 = 0 ∧ Mvd c (less c i.toNat) l 0 x.1)))))
theorem MvdP.unique {c : Chart} {i : Int} {l : List Round} {x x' : List Int × Int} (h : MvdP c i l x) (h' : MvdP c i l x') : x = x' := by
  rcases h with ⟨h1, h2⟩ | ⟨h1, h2, h3⟩ | ⟨h1, h2, h3⟩ <;> rcases h' with ⟨k1, k2⟩ | ⟨k1, k2, k3⟩ | ⟨k1, k2, k3⟩
  · rw [h2, k2]
  · rw [h1] at k1; cases k1
  · rw [h1] at k1; cases k1
  · rw [h1] at k1; cases k1
  · rw [h3, k3]
  · exact absurd k2 h2
  · rw [h1] at k1; cases k1
  · exact absurd h2 k2
  · rcases h3 with ⟨h3, h4⟩ | ⟨h3, h4⟩ <;> rcases k3 with ⟨k3, k4⟩ | ⟨k3, k4⟩
    · rw [h4, k4]
    · omega
    · omega
    · rcases h4 with ⟨h4, h5⟩ | ⟨h4, h5, h6⟩ <;> rcases k4 with ⟨k4, k5⟩ | ⟨k4, k5, k6⟩
      · rw [h5, k5]
      · rw [h4] at k4; cases k4
      · rw [h4] at k4; cases k4
      · exact Prod.ext (h6.unique k6) (h5.trans k5.symm)
end Go.Sp
