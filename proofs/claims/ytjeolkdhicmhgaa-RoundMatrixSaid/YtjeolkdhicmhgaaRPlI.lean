/- Plain laws: RoundWays, RoundTrue. No program in sight. -/
import Derived.Test.YtjeolkdhicmhgaaRPlH
set_option linter.all false
namespace Go.Sp
open Go.Av
set_option maxRecDepth 100000
theorem Lst.better2 {c c' : Chart} {T U : Nat → Int} {s a a' p m' : Int} (hb : ∀ b', Arr c' U s a' p b' → ∃ b, Arr c T s a p b ∧ b ≤ b') (h : Lst c' U s a' p (some m')) {d : Option Int} (hd : Lst c T s a p d) : ∃ m, d = some m ∧ m ≤ m' := by
  obtain ⟨b, h1, h2⟩ := hb m' h.1
  cases d with
  | none => exact absurd h1 (hd b)
  | some m => exact ⟨m, rfl, Int.le_trans (hd.2 b h1) h2⟩
theorem Bgs.better2 {c c' : Chart} {T U : Nat → Int} (hb : ∀ p a a' q b', a ≤ a' → Arr c' U p a' q b' → ∃ b, Arr c T p a q b ∧ b ≤ b') : ∀ {l : List Stop} (_ : ∀ s ∈ l, okStop c s = true) {p a a' : Int} {L L' : List Int}, a ≤ a' → Bgs c' U l p a' L' → Bgs c T l p a L →
    ∀ i, i < l.length → 0 ≤ L'.getD i default → 0 ≤ L.getD i default ∧ L.getD i default ≤ L'.getD i default
  | [], _, _, _, _, _, _, _, _, _, i, hi, _ => by cases hi
  | s :: r, hl, p, a, a', L, L', hle, h', h, i, hi, h0 => by
    have no : L' ≠ List.replicate (r.length + 1) (-1) := fun e => by
      rw [e, List.getD_eq_getElem?_getD, List.getElem?_replicate, if_pos (by simpa using hi)] at h0
      simp at h0
    have hs := okStop_iff.1 (hl s (List.mem_cons_self ..))
    rcases h' with ⟨_, k2⟩ | ⟨k1, ⟨_, k2⟩ | ⟨m', k2, ⟨_, k3⟩ | ⟨k3, M', k4, k5⟩⟩⟩
    · exact absurd k2 no
    · exact absurd k2 no
    · exact absurd k3 no
    · rcases h with ⟨h1, _⟩ | ⟨h1, ⟨h2, _⟩ | ⟨m, h2, h3⟩⟩
      · omega
      · obtain ⟨m, e, _⟩ := k2.better2 (fun b' hb' => hb _ _ _ _ b' hle hb') h2
        cases e
      · obtain ⟨m2, e, hm⟩ := k2.better2 (fun b' hb' => hb _ _ _ _ b' hle hb') h2
        cases e
        rcases h3 with ⟨h3, _⟩ | ⟨h3, M, h4, h5⟩
        · omega
        · subst k4 h4
          cases i with
          | zero => simp; omega
          | succ i =>
            simp only [List.getD_cons_succ] at h0 ⊢
            exact Bgs.better2 hb (fun s hs => hl s (List.mem_cons_of_mem _ hs)) (by omega) k5 h5 i (by simpa using hi) h0
theorem allB_iff {L : List Int} : allB L = true ↔ ∀ i, i < L.length → 0 ≤ L.getD i default := by
  unfold allB
  rw [List.all_eq_true]
  constructor
  · intro h i hi
    rw [List.getD_eq_getElem?_getD, List.getElem?_eq_getElem hi]
    simpa using h _ (List.getElem_mem hi)
  · intro h x hx
    obtain ⟨i, hi, rfl⟩ := List.getElem_of_mem hx
    have := h i hi
    rw [List.getD_eq_getElem?_getD, List.getElem?_eq_getElem hi] at this
    simpa using this
theorem Bgs.all2 {c c' : Chart} {T U : Nat → Int} (hb : ∀ p a a' q b', a ≤ a' → Arr c' U p a' q b' → ∃ b, Arr c T p a q b ∧ b ≤ b') {l : List Stop} (hl : ∀ s ∈ l, okStop c s = true) {p a a' : Int} {L L' : List Int} (hle : a ≤ a') (h' : Bgs c' U l p a' L') (h : Bgs c T l p a L) (hall : allB L' = true) : allB L = true := by
  rw [allB_iff] at hall ⊢
  intro i hi
  rw [h.len] at hi
  exact (Bgs.better2 hb hl hle h' h i hi (hall i (by rw [h'.len]; exact hi))).1
theorem Arr.sub {c c' : Chart} {high : Bool} (hw : ∀ w ∈ c'.Ways, w ∈ c.Ways) {s a p b : Int} (h : Arr c' (boT c' high) s a p b) : Arr c (boT c high) s a p b := by
  induction h with
  | start => exact .start
  | step p x i y h hi hf hb ih =>
    obtain ⟨j, hj, e⟩ := List.getElem_of_mem (hw _ (way_mem hi))
    have e2 : way c j = way c' i := by
      unfold way at e ⊢
      rw [List.getD_eq_getElem?_getD, List.getElem?_eq_getElem hj, Option.getD_some]
      exact e
    have := Arr.step p x j y ih hj (by rw [e2]; exact hf) (by unfold boT at hb ⊢; rw [e2]; exact hb)
    rwa [e2] at this
theorem Arr.sub_later {c c' : Chart} (hv : valid c = true) {high : Bool} (hw : ∀ w ∈ c'.Ways, w ∈ c.Ways) {s a a' p b' : Int} (hle : a ≤ a') (h : Arr c' (boT c' high) s a' p b') : ∃ b, Arr c (boT c high) s a p b ∧ b ≤ b' := (h.sub hw).later (net_bo hv high) hle
theorem Mins.same {c c' : Chart} {high : Bool} (hP : c'.Places = c.Places) (h1 : ∀ w ∈ c'.Ways, w ∈ c.Ways) (h2 : ∀ w ∈ c.Ways, w ∈ c'.Ways) {s a : Int} {A B : List Int} (hA : Mins c (boT c high) s a A) (hB : Mins c' (boT c' high) s a B) : A = B := by
  apply List.ext_getElem (by rw [hA.len, hB.len, hP])
  intro k k1 k2
  have hk : k < c.Places.toNat := by rw [← hA.len]; exact k1
  obtain ⟨a1, a2⟩ := hA.lst k hk
  obtain ⟨b1, b2⟩ := hB.lst k (by rw [hP]; exact hk)
  have e : mrk (B.getD k default) = mrk (A.getD k default) := by
    refine Lst.unique (c := c) (T := boT c high) (s := s) (a0 := a) (p := k) ?_ a2
    cases hm : mrk (B.getD k default) with
    | none => rw [hm] at b2; exact fun b hb => b2 b (hb.sub h2)
    | some m => rw [hm] at b2; exact ⟨b2.1.sub h1, fun b hb => b2.2 b (hb.sub h2)⟩
  have ea : A.getD k default = A[k] := by rw [List.getD_eq_getElem?_getD, List.getElem?_eq_getElem k1]; rfl
  have eb : B.getD k default = B[k] := by rw [List.getD_eq_getElem?_getD, List.getElem?_eq_getElem k2]; rfl
  rw [ea] at e a1
  rw [eb] at e b1
  unfold mrk at e
  split at e <;> split at e
  · omega
  · cases e
  · cases e
  · exact (Option.some.inj e).symm
theorem Itm.better {c c' : Chart} (hv : valid c = true) (hw : ∀ w ∈ c'.Ways, w ∈ c.Ways) {r : Round} (hl : ∀ s ∈ r.Stops, okStop c s = true) {v w : Int} (h : Itm c r v) (h' : Itm c' r w) : (w = 1 → v = 1) ∧ (v = 0 → w = 0) := by
  obtain ⟨L1, L2, b1, b2, e⟩ := h
  obtain ⟨M1, M2, d1, d2, e'⟩ := h'
  have g1 := Bgs.all2 (fun p a a' q b' hle h => h.sub_later hv hw hle) hl (Int.le_refl _) d1 b1
  have g2 := Bgs.all2 (fun p a a' q b' hle h => h.sub_later hv hw hle) hl (Int.le_refl _) d2 b2
  subst e e'
  cases m1 : allB M1 <;> cases m2 : allB M2 <;> cases n1 : allB L1 <;> cases n2 : allB L2 <;> simp_all
end Go.Sp
