/- Plain laws: rounds, and when stops are begun. No program in sight. -/
import Derived.Test.YtjeolkdhicmhgaaRPlE
set_option linter.all false
namespace Go.Sp
open Go.Av
set_option maxRecDepth 100000
def okStop (c : Chart) (s : Stop) : Bool := round_isStop s && decide (s.Place < c.Places)
def isRd (c : Chart) (r : Round) : Bool := isPl c r.Place && isMin r.At && decide (r.Stops.length ≤ 16) && r.Stops.all (okStop c)
theorem okStop_iff {c : Chart} {s : Stop} : okStop c s = true ↔ (0 ≤ s.Place ∧ s.Place ≤ 11) ∧ (0 ≤ s.Window.Lo ∧ s.Window.Lo ≤ s.Window.Hi ∧ s.Window.Hi ≤ 1439) ∧ (0 ≤ s.Serve ∧ s.Serve ≤ 120) ∧ s.Place < c.Places := by
  unfold okStop round_isStop round_isSpan round_within
  simp only [Bool.and_eq_true, decide_eq_true_eq]
  omega
theorem isRd_iff {c : Chart} {r : Round} : isRd c r = true ↔ (0 ≤ r.Place ∧ r.Place < c.Places) ∧ (0 ≤ r.At ∧ r.At ≤ 1439) ∧ r.Stops.length ≤ 16 ∧ ∀ s ∈ r.Stops, okStop c s = true := by
  unfold isRd
  simp only [Bool.and_eq_true, isPl_iff, isMin_iff, decide_eq_true_eq, List.all_eq_true, and_assoc]
def rdE (c : Chart) (r : Round) : Int := bif valid c then (bif isRd c r then 0 else 33) else 31
theorem mul_one_eq (n : Nat) (h : n < 41) : ∃ y, bits_Mul (((([(-1)] : List Int).length : Nat) : Int)) (n : Int) = some y ∧ y.1 = 0 ∧ y.2 = (n : Int) := by
  have : ∀ m : Fin 41, bits_Mul (((([(-1)] : List Int).length : Nat) : Int)) ((m.val : Nat) : Int) = some (0, ((m.val : Nat) : Int)) := by decide +kernel
  exact ⟨_, this ⟨n, h⟩, rfl, rfl⟩
theorem joinK_eq {S R : Type} (f : (S → R) → R) (k : S → R) : joinK f k = f k := rfl
theorem copyAt_len {T : Type} [Inhabited T] (l : List T) (a m : Nat) (src : Nat → T) : (copyAt l a m src).length = l.length := by simp [copyAt]
theorem copyAt_get {T : Type} [Inhabited T] (l : List T) (a m : Nat) (src : Nat → T) (q : Nat) (hq : q < l.length) : (copyAt l a m src).getD q default = if a ≤ q ∧ q < a + m then src (q - a) else l.getD q default := by
  unfold copyAt
  rw [List.getD_eq_getElem?_getD, List.getElem?_map, List.getElem?_range hq]
  rfl
theorem repeat_go (n : Nat) (hn : n ≤ 1000) : ∀ (f b : Nat) (L : List Int), L.length = n → n - b < f → 0 < b → b ≤ n → (∀ j, j < b → L.getD j default = -1) →
    loopGo ((fun (s9 : Int × (List Int)) k9 => (bif (decide (s9.1 < ((s9.2.length : Nat) : Int))) then must (0 < s9.2.length ∧ 0 ≤ (s9.1 : Int) ∧ (s9.1 : Int) ≤ ((s9.2.length : Nat) : Int)) <| must (0 < s9.2.length ∧ 0 ≤ (s9.1 : Int) ∧ (s9.1 : Int) ≤ ((s9.2.length : Nat) : Int)) <| must (inI (s9.1 + (((min ((s9.1).toNat - 0) (s9.2.length - (s9.1).toNat)) : Nat) : Int))) <| k9 ((s9.1 + (((min ((s9.1).toNat - 0) (s9.2.length - (s9.1).toNat)) : Nat) : Int)), (copyAt s9.2 ((s9.1).toNat) (min ((s9.1).toNat - 0) (s9.2.length - (s9.1).toNat)) (fun q => s9.2.getD (0 + q) default))) else some s9.2))) f ((b : Int), L) = some (List.replicate n (-1)) := by
  intro f
  induction f with
  | zero => intro b L _ h; omega
  | succ f ih =>
    intro b L hl hf hb hbn hL
    rw [loopGo_succ]
    dsimp only
    by_cases hlt : b < n
    · have e : ((b : Nat) : Int).toNat = b := by omega
      rw [decide_eq_true (by omega : ((b : Nat) : Int) < L.length), cond_true, e, must_pos (by omega), must_pos (by omega), must_pos (by unfold inI; omega)]
      have e2 : ((b : Nat) : Int) + ((min (b - 0) (L.length - b) : Nat) : Int) = ((b + min (b - 0) (L.length - b) : Nat) : Int) := by omega
      rw [e2]
      refine ih _ _ (by rw [copyAt_len]; exact hl) (by omega) (by omega) (by omega) (fun j hj => ?_)
      rw [copyAt_get _ _ _ _ _ (by omega)]
      split
      · rw [Nat.zero_add]; exact hL _ (by omega)
      · exact hL j (by omega)
    · rw [decide_eq_false (by omega : ¬ ((b : Nat) : Int) < L.length), cond_false]
      congr 1
      apply List.ext_getElem
      · simp [hl]
      · intro j h1 h2
        have := hL j (by omega)
        rw [List.getD_eq_getElem?_getD, List.getElem?_eq_getElem h1] at this
        simpa using this
theorem repeat_eq {fuel : Nat} (hf : 41 ≤ fuel) (n : Nat) (hn : n ≤ 40) : slices_Repeat_int fuel ([(-1)] : List Int) (n : Int) = some (List.replicate n (-1)) := by
  unfold slices_Repeat_int
  obtain ⟨y, h1, h2, h3⟩ := mul_one_eq n (by omega)
  rw [joinK_eq, decide_eq_false (by omega : ¬ ((n : Nat) : Int) < 0), cond_false, must_pos (by unfold inU; simp), must_pos (by unfold inU; omega), h1, bindO_some, joinK_eq, h2, h3]
  rw [decide_eq_false (by omega : ¬ (0 : Int) < 0), Bool.false_or, decide_eq_false (by omega : ¬ (9223372036854775807 : Int) < (n : Int)), cond_false, must_pos (by unfold inI; omega)]
  rw [must_pos ⟨by omega, by omega, room_small (by omega) (by omega)⟩, Int.toNat_natCast]
  cases n with
  | zero =>
    obtain ⟨f, rfl⟩ : ∃ k, fuel = k + 1 := ⟨fuel - 1, by omega⟩
    rfl
  | succ n =>
    have e : (min ([(-1)] : List Int).length (List.replicate (n + 1) (0 : Int)).length) = 1 := by simp
    rw [e]
    exact repeat_go (n + 1) (by omega) fuel 1 _ (by rw [copyAt_len]; simp) (by omega) (by omega) (by omega) (fun j hj => by
      rw [copyAt_get _ _ _ _ _ (by simp; omega), if_pos (by omega)]
      have : j = 0 := by omega
      subst this; rfl)
def Bgs (c : Chart) (T : Nat → Int) : List Stop → Int → Int → List Int → Prop
  | [], _, _, L => L = []
  | s :: r, p, a, L => (1439 < a ∧ L = List.replicate (r.length + 1) (-1)) ∨ (a ≤ 1439 ∧ ((Lst c T p a s.Place none ∧ L = List.replicate (r.length + 1) (-1)) ∨
      ∃ m, Lst c T p a s.Place (some m) ∧ ((s.Window.Hi < max m s.Window.Lo ∧ L = List.replicate (r.length + 1) (-1)) ∨ (max m s.Window.Lo ≤ s.Window.Hi ∧ ∃ L', L = max m s.Window.Lo :: L' ∧ Bgs c T r s.Place (max m s.Window.Lo + s.Serve) L'))))
theorem Bgs.unique {c : Chart} {T : Nat → Int} : ∀ {l : List Stop} {p a : Int} {L L' : List Int}, Bgs c T l p a L → Bgs c T l p a L' → L = L'
  | [], _, _, _, _, h, h' => h.trans h'.symm
  | s :: r, p, a, L, L', h, h' => by
    rcases h with ⟨h1, h2⟩ | ⟨h1, h2⟩ <;> rcases h' with ⟨k1, k2⟩ | ⟨k1, k2⟩
    · rw [h2, k2]
    · omega
    · omega
    · rcases h2 with ⟨h2, h3⟩ | ⟨m, h2, h3⟩ <;> rcases k2 with ⟨k2, k3⟩ | ⟨m', k2, k3⟩
      · rw [h3, k3]
      · have := h2.unique k2; cases this
      · have := h2.unique k2; cases this
      · have e := h2.unique k2
        cases e
        rcases h3 with ⟨h3, h4⟩ | ⟨h3, L1, h4, h5⟩ <;> rcases k3 with ⟨k3, k4⟩ | ⟨k3, L2, k4, k5⟩
        · rw [h4, k4]
        · omega
        · omega
        · rw [h4, k4, Bgs.unique h5 k5]
theorem Bgs.len {c : Chart} {T : Nat → Int} : ∀ {l : List Stop} {p a : Int} {L : List Int}, Bgs c T l p a L → L.length = l.length
  | [], _, _, _, h => by rw [h]; rfl
  | s :: r, p, a, L, h => by
    rcases h with ⟨_, h2⟩ | ⟨_, ⟨_, h2⟩ | ⟨m, _, ⟨_, h2⟩ | ⟨_, L', h2, h3⟩⟩⟩
    · rw [h2]; simp
    · rw [h2]; simp
    · rw [h2]; simp
    · rw [h2]; simp [h3.len]
theorem set_take {L : List Int} {i : Nat} (hi : i < L.length) (x : Int) : (L.set i x).take (i + 1) = L.take i ++ [x] := by
  apply List.ext_getElem?
  intro j
  rw [List.getElem?_take]
  by_cases h : j < i
  · rw [if_pos (by omega), List.getElem?_set_ne (by omega), List.getElem?_append_left (by simp; omega), List.getElem?_take, if_pos h]
  · by_cases h2 : j = i
    · subst h2
      rw [if_pos (by omega), List.getElem?_set_self hi, List.getElem?_append_right (by simp; omega)]
      simp [Nat.min_eq_left (by omega : j ≤ L.length)]
    · rw [if_neg (by omega), List.getElem?_append_right (by simp; omega)]
      have : (L.take i).length = i := by simp; omega
      rw [this]
      rw [List.getElem?_eq_none (by simp; omega)]
theorem set_drop {L : List Int} {i : Nat} (x : Int) : (L.set i x).drop (i + 1) = L.drop (i + 1) := by
  rw [List.drop_set_of_lt (by omega)]
theorem drop_rep {L : List Int} {i n : Nat} (h : L.drop i = List.replicate (n - i) (-1)) (hi : i < n) : L.drop (i + 1) = List.replicate (n - (i + 1)) (-1) := by
  have : L.drop (i + 1) = (L.drop i).drop 1 := by rw [List.drop_drop]
  rw [this, h, List.drop_replicate]
  congr 1
theorem begins_go {c : Chart} {T : Nat → Int} (N : Net c T) (tk : Int → Option Int) (hk : ∀ i : Nat, i < c.Ways.length → tk i = some (T i)) {fuel : Nat} (hf : 14 ≤ fuel) (l : List Stop) (hl : ∀ s ∈ l, okStop c s = true) :
    ∀ (n i : Nat), i + n = l.length → ∀ (p a : Int) (L : List Int), (0 ≤ p ∧ p < c.Places) → (0 ≤ a ∧ a ≤ 100000) → L.length = l.length → L.drop i = List.replicate (l.length - i) (-1) →
    ∃ L', Bgs c T (l.drop i) p a L' ∧ rangeGo ((fun i3 (s3 : Int × Int × (List Int)) k3 => (bif (decide (1439 < s3.2.1)) then some s3.2.2 else bindO (round_reach fuel c s3.1 s3.2.1 tk) fun y6 => (bif ((!((y6.get ((l.getD i3 default).Place)).isSome)) || (decide ((l.getD i3 default).Window.Hi < (max (((y6.get ((l.getD i3 default).Place)).getD default).at_) ((l.getD i3 default).Window.Lo))))) then some s3.2.2 else must (0 ≤ ((i3 : Int) : Int) ∧ ((i3 : Int) : Int) < ((s3.2.2.length : Nat) : Int)) <| must (inI ((max (((y6.get ((l.getD i3 default).Place)).getD default).at_) ((l.getD i3 default).Window.Lo)) + (l.getD i3 default).Serve)) <| k3 ((l.getD i3 default).Place, ((max (((y6.get ((l.getD i3 default).Place)).getD default).at_) ((l.getD i3 default).Window.Lo)) + (l.getD i3 default).Serve), (s3.2.2.set i3 (max (((y6.get ((l.getD i3 default).Place)).getD default).at_) ((l.getD i3 default).Window.Lo)))))))) (fun (s3 : Int × Int × (List Int)) => some s3.2.2) n i (p, a, L) = some (L.take i ++ L') := by
  intro n
  induction n with
  | zero =>
    intro i hi p a L _ _ hL hd
    refine ⟨[], ?_, ?_⟩
    · rw [List.drop_eq_nil_of_le (by omega)]; rfl
    · rw [List.take_of_length_le (by omega), List.append_nil]; rfl
  | succ n ih =>
    intro i hi p a L hp ha hL hd
    have hlt : i < l.length := by omega
    have hself : L = L.take i ++ List.replicate ((l.drop (i + 1)).length + 1) (-1) := by
      have : (l.drop (i + 1)).length + 1 = l.length - i := by rw [List.length_drop]; omega
      rw [this, ← hd, List.take_append_drop]
    rw [rangeGo_succ, drop_get hlt]
    generalize hs : l.getD i default = s
    have hso := okStop_iff.1 (hl s (by rw [← hs, List.getD_eq_getElem?_getD, List.getElem?_eq_getElem hlt]; exact List.getElem_mem _))
    dsimp only
    by_cases h1 : 1439 < a
    · rw [decide_eq_true h1, cond_true]
      exact ⟨_, .inl ⟨h1, rfl⟩, congrArg some hself⟩
    · rw [decide_eq_false h1, cond_false]
      obtain ⟨out, e, D⟩ := reach_done N hp (by omega : 0 ≤ a ∧ a ≤ 1439) tk hk hf
      rw [e, bindO_some]
      have hd' := D.lst s.Place
      cases hg : out.get s.Place with
      | none =>
        rw [hg] at hd'
        refine ⟨_, .inr ⟨by omega, .inl ⟨hd', rfl⟩⟩, ?_⟩
        rw [Option.isSome_none, Bool.not_false, Bool.true_or, cond_true]
        exact congrArg some hself
      | some x =>
        rw [hg] at hd'
        have bd := hd'.1.bounds N hp (by omega)
        dsimp only [Option.map_some] at hd' bd
        rw [Option.isSome_some, Bool.not_true, Bool.false_or, Option.getD_some]
        by_cases h2 : s.Window.Hi < max x.at_ s.Window.Lo
        · rw [decide_eq_true h2, cond_true]
          exact ⟨_, .inr ⟨by omega, .inr ⟨x.at_, hd', .inl ⟨h2, rfl⟩⟩⟩, congrArg some hself⟩
        · rw [decide_eq_false h2, cond_false, must_pos (by omega), must_pos (by unfold inI; omega)]
          obtain ⟨L', h3, h4⟩ := ih (i + 1) (by omega) s.Place (max x.at_ s.Window.Lo + s.Serve) (L.set i (max x.at_ s.Window.Lo)) (by omega) (by omega) (by rw [List.length_set]; exact hL) (by rw [set_drop]; exact drop_rep hd hlt)
          refine ⟨_, .inr ⟨by omega, .inr ⟨x.at_, hd', .inr ⟨by omega, L', rfl, h3⟩⟩⟩, ?_⟩
          refine h4.trans ?_
          rw [set_take (by omega), List.append_assoc]
          rfl
theorem begins_eq {c : Chart} {T : Nat → Int} (N : Net c T) (tk : Int → Option Int) (hk : ∀ i : Nat, i < c.Ways.length → tk i = some (T i)) {fuel : Nat} (hf : 41 ≤ fuel) {r : Round} (hp : 0 ≤ r.Place ∧ r.Place < c.Places) (ha : 0 ≤ r.At ∧ r.At ≤ 100000) (hn : r.Stops.length ≤ 16) (hl : ∀ s ∈ r.Stops, okStop c s = true) :
    ∃ L, round_begins fuel c r tk = some L ∧ Bgs c T r.Stops r.Place r.At L := by
  unfold round_begins
  rw [repeat_eq hf r.Stops.length (by omega), bindO_some]
  obtain ⟨L, h1, h2⟩ := begins_go N tk hk (fuel := fuel) (by omega) r.Stops hl r.Stops.length 0 (by omega) r.Place r.At (List.replicate r.Stops.length (-1)) hp ha (by simp) (by simp)
  exact ⟨L, by rw [h2]; simp, by simpa using h1⟩
end Go.Sp
