/- Plain laws: RoundWays, RoundTrue. No program in sight. -/
import Derived.Test.YtjeolkdhicmhgaaRPlH
set_option linter.all false
namespace Go.Sp
open Go.Av
set_option maxRecDepth 100000

theorem Lst.better2 {c c' : Chart} {T U : Nat → Int} {s a a' p m' : Int} (hb : ∀ b', Arr c' U s a' p b' → ∃ b, Arr c T s a p b ∧ b ≤ b') (h : Lst c' U s a' p (some m')) {d : Option Int} (hd : Lst c T s a p d) : ∃ m, d = some m ∧ m ≤ m' := by
  obtain ⟨b, h1, h2⟩ := hb m' h.1
  cases d with
  | none => exact absurd h1 (hd b)
  | some m => exact ⟨m, rfl, Int.le_trans (hd.2 b h1) h2⟩

/-- Who sets out earlier, with less minutes or more ways, begins all that another one begins, and no later. -/
theorem Bgs.better2 {c c' : Chart} {T U : Nat → Int} (hb : ∀ p a a' q b', a ≤ a' → Arr c' U p a' q b' → ∃ b, Arr c T p a q b ∧ b ≤ b') : ∀ {l : List Stop} (_ : ∀ s ∈ l, okStop c s = true) {p a a' : Int} {L L' : List Int}, a ≤ a' → Bgs c' U l p a' L' → Bgs c T l p a L →
    ∀ i, i < l.length → 0 ≤ L'.getD i default → 0 ≤ L.getD i default ∧ L.getD i default ≤ L'.getD i default
  | [], _, _, _, _, _, _, _, _, _, i, hi, _ => by cases hi
  | s :: r, hl, p, a, a', L, L', hle, h', h, i, hi, h0 => by
    have no : L' ≠ List.replicate (r.length + 1) (-1) := fun e => by
      rw [e, List.getD_eq_getElem?_getD, List.getElem?_replicate, if_pos (by simpa using hi)] at h0
      simp at h0
    have hs := okStop_iff.1 (hl s (List.mem_cons_self ..))
    rcases h' with ⟨_, k2⟩ | ⟨k1, ⟨_, k2⟩ | ⟨m', k2, ⟨_, k3⟩ | ⟨k3, M', k4, k5⟩⟩⟩
    · exact absurd k2 no
    · exact absurd k2 no
    · exact absurd k3 no
    · rcases h with ⟨h1, _⟩ | ⟨h1, ⟨h2, _⟩ | ⟨m, h2, h3⟩⟩
      · omega
      · obtain ⟨m, e, _⟩ := k2.better2 (fun b' hb' => hb _ _ _ _ b' hle hb') h2
        cases e
      · obtain ⟨m2, e, hm⟩ := k2.better2 (fun b' hb' => hb _ _ _ _ b' hle hb') h2
        cases e
        rcases h3 with ⟨h3, _⟩ | ⟨h3, M, h4, h5⟩
        · omega
        · subst k4 h4
          cases i with
          | zero => simp; omega
          | succ i =>
            simp only [List.getD_cons_succ] at h0 ⊢
            exact Bgs.better2 hb (fun s hs => hl s (List.mem_cons_of_mem _ hs)) (by omega) k5 h5 i (by simpa using hi) h0

theorem allB_iff {L : List Int} : allB L = true ↔ ∀ i, i < L.length → 0 ≤ L.getD i default := by
  unfold allB
  rw [List.all_eq_true]
  constructor
  · intro h i hi
    rw [List.getD_eq_getElem?_getD, List.getElem?_eq_getElem hi]
    simpa using h _ (List.getElem_mem hi)
  · intro h x hx
    obtain ⟨i, hi, rfl⟩ := List.getElem_of_mem hx
    have := h i hi
    rw [List.getD_eq_getElem?_getD, List.getElem?_eq_getElem hi] at this
    simpa using this

theorem Bgs.all2 {c c' : Chart} {T U : Nat → Int} (hb : ∀ p a a' q b', a ≤ a' → Arr c' U p a' q b' → ∃ b, Arr c T p a q b ∧ b ≤ b') {l : List Stop} (hl : ∀ s ∈ l, okStop c s = true) {p a a' : Int} {L L' : List Int} (hle : a ≤ a') (h' : Bgs c' U l p a' L') (h : Bgs c T l p a L) (hall : allB L' = true) : allB L = true := by
  rw [allB_iff] at hall ⊢
  intro i hi
  rw [h.len] at hi
  exact (Bgs.better2 hb hl hle h' h i hi (hall i (by rw [h'.len]; exact hi))).1

theorem Bgs.window {c : Chart} {T : Nat → Int} : ∀ {l : List Stop} {p a : Int} {L : List Int}, Bgs c T l p a L → ∀ i, i < l.length → 0 ≤ L.getD i default → (l.getD i default).Window.Lo ≤ L.getD i default ∧ L.getD i default ≤ (l.getD i default).Window.Hi
  | [], _, _, _, _, i, hi, _ => by cases hi
  | s :: r, p, a, L, h, i, hi, h0 => by
    have no : L ≠ List.replicate (r.length + 1) (-1) := fun e => by
      rw [e, List.getD_eq_getElem?_getD, List.getElem?_replicate, if_pos (by simpa using hi)] at h0
      simp at h0
    rcases h with ⟨_, k2⟩ | ⟨k1, ⟨_, k2⟩ | ⟨m', k2, ⟨_, k3⟩ | ⟨k3, M', k4, k5⟩⟩⟩
    · exact absurd k2 no
    · exact absurd k2 no
    · exact absurd k3 no
    · subst k4
      cases i with
      | zero => simp; omega
      | succ i =>
        simp only [List.getD_cons_succ] at h0 ⊢
        exact k5.window i (by simpa using hi) h0

/-! ### More ways -/
theorem Arr.sub {c c' : Chart} {high : Bool} (hw : ∀ w ∈ c'.Ways, w ∈ c.Ways) {s a p b : Int} (h : Arr c' (boT c' high) s a p b) : Arr c (boT c high) s a p b := by
  induction h with
  | start => exact .start
  | step p x i y h hi hf hb ih =>
    obtain ⟨j, hj, e⟩ := List.getElem_of_mem (hw _ (way_mem hi))
    have e2 : way c j = way c' i := by
      unfold way at e ⊢
      rw [List.getD_eq_getElem?_getD, List.getElem?_eq_getElem hj, Option.getD_some]
      exact e
    have := Arr.step p x j y ih hj (by rw [e2]; exact hf) (by unfold boT at hb ⊢; rw [e2]; exact hb)
    rwa [e2] at this

theorem Arr.sub_later {c c' : Chart} (hv : valid c = true) {high : Bool} (hw : ∀ w ∈ c'.Ways, w ∈ c.Ways) {s a a' p b' : Int} (hle : a ≤ a') (h : Arr c' (boT c' high) s a' p b') : ∃ b, Arr c (boT c high) s a p b ∧ b ≤ b' := (h.sub hw).later (net_bo hv high) hle

theorem Mins.cmp2 {c c' : Chart} {T U : Nat → Int} (hP : c'.Places = c.Places) {s a a' : Int} {A B : List Int} (hb : ∀ q b', Arr c' U s a' q b' → ∃ b, Arr c T s a q b ∧ b ≤ b') (hA : Mins c T s a A) (hB : Mins c' U s a' B) (k : Nat) (hk : k < c.Places.toNat) :
    (decide (0 ≤ B.getD k default) && (decide (A.getD k default < 0) || decide (B.getD k default < A.getD k default))) = false := by
  obtain ⟨a1, a2⟩ := hA.lst k hk
  obtain ⟨b1, b2⟩ := hB.lst k (by rw [hP]; exact hk)
  by_cases h : 0 ≤ B.getD k default
  · rw [mrk_pos h] at b2
    obtain ⟨m, e, hm⟩ := b2.better2 (fun b' => hb k b') a2
    obtain ⟨e1, e2⟩ := mrk_some e
    rw [decide_eq_true h, Bool.true_and, decide_eq_false (by omega), decide_eq_false (by omega)]; rfl
  · rw [decide_eq_false h]; rfl

theorem Mins.same {c c' : Chart} {high : Bool} (hP : c'.Places = c.Places) (h1 : ∀ w ∈ c'.Ways, w ∈ c.Ways) (h2 : ∀ w ∈ c.Ways, w ∈ c'.Ways) {s a : Int} {A B : List Int} (hA : Mins c (boT c high) s a A) (hB : Mins c' (boT c' high) s a B) : A = B := by
  apply List.ext_getElem (by rw [hA.len, hB.len, hP])
  intro k k1 k2
  have hk : k < c.Places.toNat := by rw [← hA.len]; exact k1
  obtain ⟨a1, a2⟩ := hA.lst k hk
  obtain ⟨b1, b2⟩ := hB.lst k (by rw [hP]; exact hk)
  have e : mrk (B.getD k default) = mrk (A.getD k default) := by
    refine Lst.unique (c := c) (T := boT c high) (s := s) (a0 := a) (p := k) ?_ a2
    cases hm : mrk (B.getD k default) with
    | none => rw [hm] at b2; exact fun b hb => b2 b (hb.sub h2)
    | some m => rw [hm] at b2; exact ⟨b2.1.sub h1, fun b hb => b2.2 b (hb.sub h2)⟩
  have ea : A.getD k default = A[k] := by rw [List.getD_eq_getElem?_getD, List.getElem?_eq_getElem k1]; rfl
  have eb : B.getD k default = B[k] := by rw [List.getD_eq_getElem?_getD, List.getElem?_eq_getElem k2]; rfl
  rw [ea] at e a1
  rw [eb] at e b1
  unfold mrk at e
  split at e <;> split at e
  · omega
  · cases e
  · cases e
  · exact (Option.some.inj e).symm

theorem Itm.better {c c' : Chart} (hv : valid c = true) (hw : ∀ w ∈ c'.Ways, w ∈ c.Ways) {r : Round} (hl : ∀ s ∈ r.Stops, okStop c s = true) {v w : Int} (h : Itm c r v) (h' : Itm c' r w) : (w = 1 → v = 1) ∧ (v = 0 → w = 0) := by
  obtain ⟨L1, L2, b1, b2, e⟩ := h
  obtain ⟨M1, M2, d1, d2, e'⟩ := h'
  have g1 := Bgs.all2 (fun p a a' q b' hle h => h.sub_later hv hw hle) hl (Int.le_refl _) d1 b1
  have g2 := Bgs.all2 (fun p a a' q b' hle h => h.sub_later hv hw hle) hl (Int.le_refl _) d2 b2
  subst e e'
  cases m1 : allB M1 <;> cases m2 : allB M2 <;> cases n1 : allB L1 <;> cases n2 : allB L2 <;> simp_all

theorem waysL_go (y3 : Chart × Round) (y13 y15 y23 : List Int × Int) (y19 y21 : Int × Int) (hP : 0 ≤ y3.1.Places ∧ y3.1.Places ≤ 1000) (l1 : y13.1.length = y3.1.Places.toNat) (l2 : y15.1.length = y3.1.Places.toNat)
    (c1 : ∀ k, k < y3.1.Places.toNat → (decide (0 ≤ y15.1.getD k default) && (decide (y13.1.getD k default < 0) || decide (y15.1.getD k default < y13.1.getD k default))) = false)
    (d1 : (y21.1 = 1 → y19.1 = 1) ∧ (y19.1 = 0 → y21.1 = 0)) (d2 : y23.1 = if y19.1 = y21.1 then [] else [0]) :
    ∀ (n i : Nat), i ≤ y3.1.Places.toNat → y3.1.Places.toNat - i < n → loopGo ((fun (s28 : Int) k28 => (bif (decide (s28 < y3.1.Places)) then must (0 ≤ (s28 : Int) ∧ (s28 : Int) < ((y15.1.length : Nat) : Int)) <| must (((decide (0 ≤ (y15.1.getD (s28).toNat default))) = true → (0 ≤ (s28 : Int) ∧ (s28 : Int) < ((y13.1.length : Nat) : Int)))) <| must ((((decide (0 ≤ (y15.1.getD (s28).toNat default))) && !(decide ((y13.1.getD (s28).toNat default) < 0))) = true → (0 ≤ (s28 : Int) ∧ (s28 : Int) < ((y13.1.length : Nat) : Int)))) <| must ((((decide (0 ≤ (y15.1.getD (s28).toNat default))) && !(decide ((y13.1.getD (s28).toNat default) < 0))) = true → (0 ≤ (s28 : Int) ∧ (s28 : Int) < ((y15.1.length : Nat) : Int)))) <| (bif ((decide (0 ≤ (y15.1.getD (s28).toNat default))) && ((decide ((y13.1.getD (s28).toNat default) < 0)) || (decide ((y15.1.getD (s28).toNat default) < (y13.1.getD (s28).toNat default))))) then some false else must (inI (s28 + 1)) <| k28 (s28 + 1)) else (bif (((decide (y21.1 = 1)) && (!decide (y19.1 = 1))) || ((decide (y19.1 = 0)) && (!decide (y21.1 = 0)))) then some false else some ((decide (((y23.1.length : Nat) : Int) = 1)) == (!decide (y19.1 = y21.1))))))) n (i : Int) = some true := by
  intro n
  induction n with
  | zero => intro i _ h; omega
  | succ n ih =>
    intro i hi hn
    rw [loopGo_succ]
    by_cases hlt : i < y3.1.Places.toNat
    · have e0 : ((i : Nat) : Int).toNat = i := by omega
      rw [decide_eq_true (by omega : ((i : Nat) : Int) < y3.1.Places), cond_true, e0, must_pos (by omega), must_pos (fun _ => by omega), must_pos (fun _ => by omega), must_pos (fun _ => by omega),
        c1 i hlt, cond_false, must_pos (by unfold inI; omega)]
      exact ih (i + 1) (by omega) (by omega)
    · rw [decide_eq_false (by omega : ¬ ((i : Nat) : Int) < y3.1.Places), cond_false]
      have e1 : ((decide (y21.1 = 1)) && (!decide (y19.1 = 1))) = false := by
        by_cases h : y21.1 = 1
        · rw [decide_eq_true h, decide_eq_true (d1.1 h)]; rfl
        · rw [decide_eq_false h]; rfl
      have e2 : ((decide (y19.1 = 0)) && (!decide (y21.1 = 0))) = false := by
        by_cases h : y19.1 = 0
        · rw [decide_eq_true h, decide_eq_true (d1.2 h)]; rfl
        · rw [decide_eq_false h]; rfl
      rw [e1, e2, Bool.or_self, cond_false, d2]
      by_cases h : y19.1 = y21.1
      · rw [if_pos h, decide_eq_true h]; rfl
      · rw [if_neg h, decide_eq_false h]; rfl

theorem With_ok {c : Chart} {w : Way} (hv : valid c = true) (hj : round_joins c w = true) (hl : c.Ways.length < 40) : round_With c w = some (⟨c.Places, c.Ways ++ [w]⟩, 0) := by
  unfold round_With
  rw [round_Check_eq, bindO_some, hv, hj, cond_true, (by decide : decide ((0 : Int) = 0) = true), Bool.not_true, cond_false, cond_false, decide_eq_false (by omega : ¬ ((c.Ways.length : Nat) : Int) = 40), cond_false]
  unfold slices_Clone_Way
  rw [must_pos (room_small (by simp; omega) (by omega)), bindO_some, List.nil_append, must_pos (room_small (by simp; omega) (by omega))]

theorem InTime_ok {fuel : Nat} (hf : 20000 ≤ fuel) {c : Chart} {r : Round} (hv : valid c = true) (hr : isRd c r = true) : ∃ v, round_InTime fuel c r = some (v, 0) ∧ Itm c r v := by
  obtain ⟨x, h1, _, h3⟩ := InTime_eq hf c r
  have h0 : rdE c r = 0 := by unfold rdE; rw [hv, hr]; rfl
  rcases h3 with ⟨h3, _⟩ | ⟨_, h3, h4⟩
  · exact absurd h0 h3
  · exact ⟨x.1, by rw [h1]; congr 1; exact Prod.ext rfl h3, h4⟩

theorem roundWays_true (x : gasolierref03_Raw) (which : Int) : gasolierlaw03_RoundWays 20000 x which = some true := by
  unfold gasolierlaw03_RoundWays
  obtain ⟨c, r, e1, M⟩ := made_eq (fuel := 20000) (by omega) x
  have hv := valid_iff.1 M.val
  obtain ⟨hp, ha, hns, hst⟩ := isRd_iff.1 M.rd
  have hwl := M.ways
  rw [sane_ok, bindO_some, e1, bindO_some]
  dsimp only
  by_cases hz : c.Ways.length = 0
  · rw [decide_eq_true (by omega : ((c.Ways.length : Nat) : Int) = 0), cond_true]
  · rw [decide_eq_false (by omega : ¬ ((c.Ways.length : Nat) : Int) = 0), cond_false]
    obtain ⟨k, e2, hk⟩ := mod_eq which (m := ((c.Ways.length : Nat) : Int)) (by omega) (by omega)
    have hk' : k.toNat < c.Ways.length := by omega
    have ewo : round_Without c k = some (less c k.toNat, 0) := by
      unfold round_Without
      rw [wayOf_eq, bindO_some, M.val, cond_true, decide_eq_true (by omega : 0 ≤ k ∧ k < ((c.Ways.length : Nat) : Int)), cond_true, (by decide : decide ((0 : Int) = 0) = true), Bool.not_true, cond_false, round_without_eq c k (by omega) (by omega) (by omega), bindO_some]
    have vd := less_valid M.val k.toNat
    have jk : round_joins (less c k.toNat) (way c k.toNat) = true := joins_of M.val hk'
    have ld : (less c k.toNat).Ways.length < 40 := by simp [less]; omega
    have ewi := With_ok vd jk ld
    have sub1 := less_ways c k.toNat
    have vm : valid ⟨(less c k.toNat).Places, (less c k.toNat).Ways ++ [way c k.toNat]⟩ = true := by
      obtain ⟨h1, h2, h3⟩ := valid_iff.1 vd
      refine valid_iff.2 ⟨h1, by simp; omega, fun w hw => ?_⟩
      rcases List.mem_append.1 hw with hw | hw
      · exact h3 w hw
      · rw [List.mem_singleton] at hw; subst hw; exact jk
    have sub2 : ∀ w ∈ ((less c k.toNat).Ways ++ [way c k.toNat]), w ∈ c.Ways := fun w hw => by
      rcases List.mem_append.1 hw with hw | hw
      · exact sub1 w hw
      · rw [List.mem_singleton] at hw; subst hw; exact way_mem hk'
    have sub3 : ∀ w ∈ c.Ways, w ∈ ((less c k.toNat).Ways ++ [way c k.toNat]) := fun w hw => by
      have hsp : c.Ways = c.Ways.take k.toNat ++ way c k.toNat :: c.Ways.drop (k.toNat + 1) := by
        have := drop_get hk'
        conv => lhs; rw [← List.take_append_drop k.toNat c.Ways, this]
        rfl
      rw [hsp] at hw
      rcases List.mem_append.1 hw with hw | hw
      · exact List.mem_append_left _ (List.mem_append_left _ hw)
      · rcases List.mem_cons.1 hw with hw | hw
        · subst hw; exact List.mem_append_right _ (List.mem_singleton.2 rfl)
        · exact List.mem_append_left _ (List.mem_append_right _ hw)
    obtain ⟨s1, k1, p1⟩ := sure_eq (Nat.le_refl 20000) c r.Place r.At
    obtain ⟨s2, k2, p2⟩ := sure_eq (Nat.le_refl 20000) (less c k.toNat) r.Place r.At
    obtain ⟨s3, k3, p3⟩ := sure_eq (Nat.le_refl 20000) ⟨(less c k.toNat).Places, (less c k.toNat).Ways ++ [way c k.toNat]⟩ r.Place r.At
    obtain ⟨z1, q1⟩ := p1.ok (askE_ok M.val hp ha)
    obtain ⟨z2, q2⟩ := p2.ok (askE_ok vd hp ha)
    obtain ⟨z3, q3⟩ := p3.ok (askE_ok vm hp ha)
    have e3 : s1.1 = s3.1 := Mins.same (c := c) (c' := ⟨(less c k.toNat).Places, (less c k.toNat).Ways ++ [way c k.toNat]⟩) rfl sub2 sub3 q1 q3
    obtain ⟨v, i1, I1⟩ := InTime_ok (Nat.le_refl 20000) M.val M.rd
    obtain ⟨w, i2, I2⟩ := InTime_ok (Nat.le_refl 20000) vd ((less_rd c k.toNat r).trans M.rd)
    obtain ⟨mv, m1, m2⟩ := moved_eq (fuel := 20000) (by omega) c k [r]
    have hmv : mv.2 = 0 ∧ mv.1 = if v = w then [] else [0] := by
      rcases m2 with ⟨h, _⟩ | ⟨_, h, _⟩ | ⟨_, _, ⟨h, _⟩ | ⟨_, ⟨h, _⟩ | ⟨_, h1, v', w', R', h2, h3, h4, h5⟩⟩⟩
      · rw [M.val] at h; cases h
      · exact absurd (by omega) h
      · simp at h
      · simp [M.rd] at h
      · refine ⟨h1, ?_⟩
        rw [h2.unique I1, h3.unique I2, show R' = [] from h4] at h5
        exact h5
    have l1 := q1.len
    have l2 := q2.len
    have l2' : s2.1.length = c.Places.toNat := l2
    have hl : ∀ L : List Int, L.length = c.Places.toNat → decide (((L.length : Nat) : Int) = c.Places) = true := fun L h => decide_eq_true (by omega)
    have ew : c.Ways.getD k.toNat default = way c k.toNat := rfl
    rw [e2, bindO_some, ewo, bindO_some, must_pos (by omega), ew, ewi, bindO_some, k1, bindO_some, k2, bindO_some, k3, bindO_some, i1, bindO_some, i2, bindO_some, m1, bindO_some, ← e3, same_self (by omega) s1.1 (by omega), bindO_some, z1, z2, z3, hmv.1, hl s1.1 l1, hl s2.1 l2']
    exact waysL_go (c, r) s1 s2 mv (v, 0) (w, 0) (by dsimp only; omega) l1 l2'
      (fun n hn => Mins.cmp2 (c := c) (c' := less c k.toNat) rfl (fun q b' h => h.sub_later M.val sub1 (Int.le_refl _)) q1 q2 n hn)
      (Itm.better M.val sub1 hst I1 I2) hmv.2 20000 0 (by omega) (by dsimp only; omega)

/-! ### RoundTrue -/
theorem Went_ok {fuel : Nat} (hf : 20000 ≤ fuel) {c : Chart} {T : List Int} {r : Round} (hv : valid c = true) (ht : isTk c T = true) (hr : isRd c r = true) : ∃ L, round_Went fuel c T r = some (L, 0) ∧ Bgs c (Tl T) r.Stops r.Place r.At L := by
  obtain ⟨x, h1, h3⟩ := went_eq hf c T r
  have h0 : wentE c T r = 0 := by unfold wentE tkE; rw [hv, ht, hr]; rfl
  rcases h3 with ⟨h3, _⟩ | ⟨_, h3, _, h4⟩
  · exact absurd h0 h3
  · exact ⟨x.1, by rw [h1]; congr 1; exact Prod.ext rfl h3, h4⟩

theorem Begins_ok {fuel : Nat} (hf : 20000 ≤ fuel) {c : Chart} {r : Round} (hv : valid c = true) (hr : isRd c r = true) : ∃ L, round_Begins fuel c r = some (L, 0) ∧ Bgs c (boT c true) r.Stops r.Place r.At L := by
  obtain ⟨x, h1, _, h3⟩ := Begins_eq hf c r
  have h0 : rdE c r = 0 := by unfold rdE; rw [hv, hr]; rfl
  rcases h3 with ⟨h3, _⟩ | ⟨_, h3, _, h4⟩
  · exact absurd h0 h3
  · exact ⟨x.1, by rw [h1]; congr 1; exact Prod.ext rfl h3, h4⟩

theorem trueL_go (c : Chart) (r : Round) (v : Int) (L1 W : List Int) (y13 : Int × Int) (hn0 : r.Stops.length ≤ 1000) (l1 : L1.length = r.Stops.length) (l2 : W.length = r.Stops.length)
    (c1 : ∀ k, k < r.Stops.length → 0 ≤ W.getD k default → (r.Stops.getD k default).Window.Lo ≤ W.getD k default ∧ W.getD k default ≤ (r.Stops.getD k default).Window.Hi)
    (c2 : ∀ k, k < r.Stops.length → 0 ≤ L1.getD k default → 0 ≤ W.getD k default ∧ W.getD k default ≤ L1.getD k default)
    (fuel : Nat) (d : ∀ z : Option Bool, z = some true → (bindO ((bif (decide (v = 0)) then gasolierref03_All fuel W else some default)) fun y29 => bindO ((bif ((!((decide (v = 0)) && y29)) && (decide (v = 2))) then gasolierref03_All fuel L1 else some default)) fun y31 => (bif (((decide (v = 0)) && y29) || ((decide (v = 2)) && y31)) then some false else z)) = some true)
    (f : (bif (!decide (v = 1)) then some (decide (y13.2 = 36)) else must (inI (r.At + y13.1)) <| bindO (round_InTime fuel c (⟨r.Place, (r.At + y13.1), r.Stops⟩ : Round)) fun y36 => (bif ((!decide (y36.2 = 0)) || (!decide (y36.1 = 1))) then some false else must (inI (r.At + y13.1)) <| (bif (decide ((r.At + y13.1) = 1439)) then some true else must (inI (r.At + y13.1)) <| must (inI ((r.At + y13.1) + 1)) <| bindO (round_InTime fuel c (⟨r.Place, ((r.At + y13.1) + 1), r.Stops⟩ : Round)) fun y43 => some ((decide (y43.2 = 0)) && (!decide (y43.1 = 1)))))) = some true) :
    ∀ (n i : Nat), i ≤ r.Stops.length → r.Stops.length - i < n → loopGo ((fun (s18 : Int) k18 => (bif (decide (s18 < ((W.length : Nat) : Int))) then must (0 ≤ (s18 : Int) ∧ (s18 : Int) < ((r.Stops.length : Nat) : Int)) <| must (0 ≤ (s18 : Int) ∧ (s18 : Int) < ((W.length : Nat) : Int)) <| must (((decide (0 ≤ (W.getD (s18).toNat default))) = true → (0 ≤ (s18 : Int) ∧ (s18 : Int) < ((W.length : Nat) : Int)))) <| must (((!((decide (0 ≤ (W.getD (s18).toNat default))) && (!(gasolierref03_In (W.getD (s18).toNat default) ((r.Stops.getD (s18).toNat default).Window.Lo) ((r.Stops.getD (s18).toNat default).Window.Hi))))) = true → (0 ≤ (s18 : Int) ∧ (s18 : Int) < ((L1.length : Nat) : Int)))) <| must ((((!((decide (0 ≤ (W.getD (s18).toNat default))) && (!(gasolierref03_In (W.getD (s18).toNat default) ((r.Stops.getD (s18).toNat default).Window.Lo) ((r.Stops.getD (s18).toNat default).Window.Hi))))) && (decide (0 ≤ (L1.getD (s18).toNat default)))) = true → (0 ≤ (s18 : Int) ∧ (s18 : Int) < ((W.length : Nat) : Int)))) <| must (((((!((decide (0 ≤ (W.getD (s18).toNat default))) && (!(gasolierref03_In (W.getD (s18).toNat default) ((r.Stops.getD (s18).toNat default).Window.Lo) ((r.Stops.getD (s18).toNat default).Window.Hi))))) && (decide (0 ≤ (L1.getD (s18).toNat default)))) && !(decide ((W.getD (s18).toNat default) < 0))) = true → (0 ≤ (s18 : Int) ∧ (s18 : Int) < ((W.length : Nat) : Int)))) <| must (((((!((decide (0 ≤ (W.getD (s18).toNat default))) && (!(gasolierref03_In (W.getD (s18).toNat default) ((r.Stops.getD (s18).toNat default).Window.Lo) ((r.Stops.getD (s18).toNat default).Window.Hi))))) && (decide (0 ≤ (L1.getD (s18).toNat default)))) && !(decide ((W.getD (s18).toNat default) < 0))) = true → (0 ≤ (s18 : Int) ∧ (s18 : Int) < ((L1.length : Nat) : Int)))) <| (bif (((decide (0 ≤ (W.getD (s18).toNat default))) && (!(gasolierref03_In (W.getD (s18).toNat default) ((r.Stops.getD (s18).toNat default).Window.Lo) ((r.Stops.getD (s18).toNat default).Window.Hi)))) || ((decide (0 ≤ (L1.getD (s18).toNat default))) && ((decide ((W.getD (s18).toNat default) < 0)) || (decide ((L1.getD (s18).toNat default) < (W.getD (s18).toNat default)))))) then some false else must (inI (s18 + 1)) <| k18 (s18 + 1)) else bindO ((bif (decide (v = 0)) then gasolierref03_All fuel W else some default)) fun y29 => bindO ((bif ((!((decide (v = 0)) && y29)) && (decide (v = 2))) then gasolierref03_All fuel L1 else some default)) fun y31 => (bif (((decide (v = 0)) && y29) || ((decide (v = 2)) && y31)) then some false else (bif (!decide (v = 1)) then some (decide (y13.2 = 36)) else must (inI (r.At + y13.1)) <| bindO (round_InTime fuel c (⟨r.Place, (r.At + y13.1), r.Stops⟩ : Round)) fun y36 => (bif ((!decide (y36.2 = 0)) || (!decide (y36.1 = 1))) then some false else must (inI (r.At + y13.1)) <| (bif (decide ((r.At + y13.1) = 1439)) then some true else must (inI (r.At + y13.1)) <| must (inI ((r.At + y13.1) + 1)) <| bindO (round_InTime fuel c (⟨r.Place, ((r.At + y13.1) + 1), r.Stops⟩ : Round)) fun y43 => some ((decide (y43.2 = 0)) && (!decide (y43.1 = 1)))))))))) n (i : Int) = some true := by
  intro n
  induction n with
  | zero => intro i _ h; omega
  | succ n ih =>
    intro i hi hn
    rw [loopGo_succ]
    by_cases hlt : i < r.Stops.length
    · have e0 : ((i : Nat) : Int).toNat = i := by omega
      have g1 : (decide (0 ≤ W.getD i default) && (!(gasolierref03_In (W.getD i default) ((r.Stops.getD i default).Window.Lo) ((r.Stops.getD i default).Window.Hi)))) = false := by
        by_cases h : 0 ≤ W.getD i default
        · obtain ⟨a1, a2⟩ := c1 i hlt h
          unfold gasolierref03_In
          rw [decide_eq_true a1, decide_eq_true a2, decide_eq_true h]; rfl
        · rw [decide_eq_false h]; rfl
      have g2 : (decide (0 ≤ L1.getD i default) && (decide (W.getD i default < 0) || decide (L1.getD i default < W.getD i default))) = false := by
        by_cases h : 0 ≤ L1.getD i default
        · obtain ⟨a1, a2⟩ := c2 i hlt h
          rw [decide_eq_true h, decide_eq_false (by omega), decide_eq_false (by omega)]; rfl
        · rw [decide_eq_false h]; rfl
      rw [decide_eq_true (by omega : ((i : Nat) : Int) < ((W.length : Nat) : Int)), cond_true, e0, must_pos (by omega), must_pos (by omega), must_pos (fun _ => by omega), must_pos (fun _ => by omega), must_pos (fun _ => by omega), must_pos (fun _ => by omega), must_pos (fun _ => by omega),
        g1, g2, Bool.or_self, cond_false, must_pos (by unfold inI; omega)]
      exact ih (i + 1) (by omega) (by omega)
    · rw [decide_eq_false (by omega : ¬ ((i : Nat) : Int) < ((W.length : Nat) : Int)), cond_false]
      exact d _ f

theorem itm_at {c : Chart} (hv : valid c = true) {r : Round} (hr : RdOk c r) {d : Int} (h0 : 0 ≤ d) (h1 : r.At + d ≤ 1439) {v : Int} (h : Itm c ⟨r.Place, r.At + d, r.Stops⟩ v) : v = 1 ↔ Still c r d := by
  have at0 := hr.at_
  have := itm_still hv (r := ⟨r.Place, r.At + d, r.Stops⟩) ⟨hr.pl, ⟨by show 0 ≤ r.At + d; omega, by show r.At + d ≤ 100000; omega⟩, hr.len, hr.ok⟩ h1 h
  rw [this]
  unfold Still
  dsimp only
  rw [Int.add_zero]

theorem roundTrue_true (x : gasolierref03_Raw) (picks : List Int) : gasolierlaw03_RoundTrue 20000 x picks = some true := by
  unfold gasolierlaw03_RoundTrue
  obtain ⟨c, r, e1, M⟩ := made_eq (fuel := 20000) (by omega) x
  have hv := valid_iff.1 M.val
  obtain ⟨hp, ha, hns, hst⟩ := isRd_iff.1 M.rd
  have hr := rdOk_of M.rd
  obtain ⟨T, e2, ht⟩ := took_eq (fuel := 20000) (by omega) M.val picks
  obtain ⟨v, i1, I1⟩ := InTime_ok (Nat.le_refl 20000) M.val M.rd
  obtain ⟨L, b1, B1⟩ := Begins_ok (Nat.le_refl 20000) M.val M.rd
  obtain ⟨W, w1, W1⟩ := Went_ok (Nat.le_refl 20000) M.val ht M.rd
  obtain ⟨s, s1, S1⟩ := slack_eq (Nat.le_refl 20000) c r
  have l1 := B1.len
  have l2 := W1.len
  have tk := (isTk_iff.1 ht).2
  have hstill := itm_still M.val hr ha.2 I1
  obtain ⟨L1, L2, C1, C2, hv1⟩ := id I1
  have eL : L1 = L := C1.unique B1
  subst eL
  have hAll : ∀ Q : List Int, Q.length = r.Stops.length → gasolierref03_All 20000 Q = some (allB Q) := fun Q hQ => ref_all_eq (by omega) (by omega)
  have a1 : (v = 1) ↔ allB L1 = true := by
    rw [hv1]
    cases allB L1 <;> cases allB L2 <;> simp
  have hE : rdE c r = 0 := by unfold rdE; rw [M.val, M.rd]; rfl
  have s2 : (v = 1 ∧ s.2 = 0 ∧ Slk c r s.1) ∨ (v ≠ 1 ∧ s.2 = 36) := by
    rcases S1 with ⟨h, _⟩ | ⟨_, h, h2⟩ | ⟨_, h, h2, h3⟩
    · exact absurd hE h
    · exact .inr ⟨fun e => h (hstill.1 e), by rw [h2]⟩
    · exact .inl ⟨hstill.2 h, h2, h3⟩
  have hl : ∀ Q : List Int, Q.length = r.Stops.length → decide (((Q.length : Nat) : Int) = ((r.Stops.length : Nat) : Int)) = true := fun Q h => decide_eq_true (by omega)
  have t1 : (decide (v = 1) == allB L1) = true := by
    cases hb : allB L1 with
    | true => rw [decide_eq_true (a1.2 hb)]; rfl
    | false => rw [decide_eq_false (fun e => by rw [a1.1 e] at hb; cases hb)]; rfl
  have t2 : (decide (v = 1) == decide (s.2 = 0)) = true := by
    rcases s2 with ⟨h1, h2, _⟩ | ⟨h1, h2⟩
    · rw [decide_eq_true h1, decide_eq_true h2]; rfl
    · rw [decide_eq_false h1, decide_eq_false (by omega)]; rfl
  -- what is said of all stops
  have wlo : allB W = true → allB L2 = true := fun h => Bgs.all2 (fun p a a' q b' hle h => by
    obtain ⟨b, g1, g2⟩ := h.later (net_tk M.val ht) hle
    obtain ⟨b2, g3, g4⟩ := g1.less (net_bo M.val false) (fun i hi => (tk i hi).1)
    exact ⟨b2, g3, by omega⟩) hst (Int.le_refl _) W1 C2 h
  rw [sane_ok, bindO_some, e1, bindO_some]
  dsimp only
  rw [i1, bindO_some, b1, bindO_some, e2, bindO_some, w1, bindO_some, s1, bindO_some]
  dsimp only
  rw [hl L1 l1, hl W l2, (by decide : decide ((0 : Int) = 0) = true)]
  rw [show (!((((((!true) || (!true)) || (!true)) || (!true)) || (!true)) || (!true))) = true from rfl, cond_true, hAll L1 l1, bindO_some, t1, t2]
  rw [show (((((((((!true) || (!true)) || (!true)) || (!true)) || (!true)) || (!true)) || (!true)) || (!true)) : Bool) = false from rfl, cond_false, ← hAll L1 l1]
  refine trueL_go c r v L1 W s (by omega) l1 l2 (fun k hk h => W1.window k hk h)
    (fun k hk h => Bgs.better2 (fun p a a' q b' hle h => by
      obtain ⟨b, g1, g2⟩ := h.later (net_bo M.val true) hle
      obtain ⟨b2, g3, g4⟩ := g1.less (net_tk M.val ht) (fun i hi => (tk i hi).2)
      exact ⟨b2, g3, by omega⟩) hst (Int.le_refl _) C1 W1 k hk h) 20000 (fun z hz => ?_) ?_ 20000 0 (by omega) (by omega)
  · rw [hAll W l2, hAll L1 l1, hz]
    by_cases h0 : v = 0
    · have : allB W = false := by
        cases hb : allB W with
        | false => rfl
        | true =>
          have := wlo hb
          rw [this] at hv1
          cases hq : allB L1 <;> rw [hq] at hv1 <;> simp at hv1 <;> omega
      rw [decide_eq_true h0, this, decide_eq_false (by omega : ¬ v = 2)]; rfl
    · rw [decide_eq_false h0]
      by_cases h2 : v = 2
      · have : allB L1 = false := by
          cases hb : allB L1 with
          | false => rfl
          | true => have := a1.2 hb; omega
        rw [decide_eq_true h2, this]; rfl
      · rw [decide_eq_false h2]; rfl
  · rcases s2 with ⟨h1, h2, h3⟩ | ⟨h1, h2⟩
    · rw [decide_eq_true h1, Bool.not_true, cond_false]
      obtain ⟨h4, h5, h6⟩ := h3
      have h7 := h5.1
      rw [must_pos (by unfold inI; omega)]
      have r1 : isRd c ⟨r.Place, r.At + s.1, r.Stops⟩ = true := isRd_iff.2 ⟨hp, by dsimp only; omega, hns, hst⟩
      obtain ⟨v1, j1, J1⟩ := InTime_ok (Nat.le_refl 20000) M.val r1
      have hv2 := (itm_at M.val hr h4 h7 J1).2 h5
      rw [j1, bindO_some]
      dsimp only
      rw [decide_eq_true hv2, (by decide : decide ((0 : Int) = 0) = true), Bool.not_true, Bool.or_self, cond_false, must_pos (by unfold inI; omega)]
      by_cases h8 : r.At + s.1 = 1439
      · rw [decide_eq_true h8, cond_true]
      · rw [decide_eq_false h8, cond_false, must_pos (by unfold inI; omega), must_pos (by unfold inI; omega)]
        have e9 : r.At + s.1 + 1 = r.At + (s.1 + 1) := by omega
        rw [e9]
        have r2 : isRd c ⟨r.Place, r.At + (s.1 + 1), r.Stops⟩ = true := isRd_iff.2 ⟨hp, by dsimp only; omega, hns, hst⟩
        obtain ⟨v2, j2, J2⟩ := InTime_ok (Nat.le_refl 20000) M.val r2
        have hv3 := itm_at M.val hr (d := s.1 + 1) (by omega) (by omega) J2
        have hv4 : ¬ v2 = 1 := fun e => h6 (s.1 + 1) (by omega) (hv3.1 e)
        rw [j2, bindO_some]
        dsimp only
        rw [decide_eq_false hv4, (by decide : decide ((0 : Int) = 0) = true)]; rfl
    · rw [decide_eq_false h1, Bool.not_false, cond_true, decide_eq_true h2]

end Go.Sp
