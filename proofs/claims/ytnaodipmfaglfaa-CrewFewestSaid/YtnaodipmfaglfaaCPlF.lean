/- Plain laws, crew: cuts; the rounds and the cut that are returned. No program in sight. -/
import Derived.Test.YtnaodipmfaglfaaCPlE
set_option linter.all false
namespace Go.Sp
open Go.Av
set_option maxRecDepth 100000
structure CutL (adj : Nat → Nat → Prop) (n : Nat) (S : List Int) : Prop where
  rng : ∀ k, k < S.length → 0 ≤ S.getD k default ∧ S.getD k default < n
  asc : ∀ k, 0 < k → k < S.length → S.getD (k - 1) default < S.getD k default
  apart : ∀ m k, m < k → k < S.length → ¬ adj (S.getD k default).toNat (S.getD m default).toNat ∧ ¬ adj (S.getD m default).toNat (S.getD k default).toNat
noncomputable def ckC (c : Crew) (S : List Int) (z : Int) : Int := ck (Valid c) (ck (CutL (fol c Range.Hi) c.Tasks.length S ∧ z ≤ S.length) 0 44) 42
theorem checkCut_eq (c : Crew) (S : List Int) (z : Int) (hS : S.length ≤ 9223372036854775807) : crew_CheckCut c S z = some (ckC c S z) := by
  refine Wp.eq ?_
  unfold crew_CheckCut ckC
  refine wp_bindE (check_eq c) ?_
  by_cases V : Valid c
  · rw [chk_valid V, ck_pos V]
    have hn := V.tasks
    refine wp_false rfl ?_
    rw [most_fun]
    refine wp_bind (newPlan_wp V (.inr rfl)) (fun y hy => ?_)
    obtain ⟨p, rfl, hpc, IP⟩ := hy
    have hl := IP.len
    have ep : (some p).getD default = p := rfl
    rw [ep, hl]
    refine wp_forall (fun k => (0 ≤ S.getD k default ∧ S.getD k default < c.Tasks.length) ∧ (0 < k → S.getD (k - 1) default < S.getD k default) ∧ ∀ m, m < k → ¬ fol c Range.Hi (S.getD k default).toNat (S.getD m default).toNat ∧ ¬ fol c Range.Hi (S.getD m default).toNat (S.getD k default).toNat) (fun k K hk hpre hK => ?_) (fun h => ?_)
    · have e : (((k : Int) - 1)).toNat = k - 1 := by omega
      have ek : ((k : Int)).toNat = k := rfl
      rw [e]
      refine wp_must rfl (wp_mustI (by omega) (wp_must (fun _ => by unfold inI; omega) (wp_must (fun h => by simp at h; omega) ?_)))
      refine wp_bif (fun h => wp_some ?_) (fun h => ?_)
      · rw [ck_neg (fun A => ?_)]
        have h1 := A.1.rng k hk
        simp only [Bool.or_eq_true, Bool.not_eq_true', Bool.and_eq_true, decide_eq_true_eq] at h
        rcases h with h | h
        · rw [in_iff.2 (by omega)] at h; cases h
        · have := A.1.asc k (by omega) hk; omega
      · simp only [Bool.or_eq_false_iff, Bool.not_eq_false', Bool.and_eq_false_iff, decide_eq_false_iff_not] at h
        have hin := in_iff.1 h.1
        have hin : 0 ≤ S.getD k default ∧ S.getD k default < c.Tasks.length := by omega
        refine wp_must (by omega) ?_
        have hlen : (S.take k).length = k := by rw [List.length_take]; omega
        rw [hlen]
        refine wp_forall (fun m => ¬ fol c Range.Hi (S.getD k default).toNat (S.getD m default).toNat ∧ ¬ fol c Range.Hi (S.getD m default).toNat (S.getD k default).toNat) (fun m K' hm _ hK' => ?_) (fun h2 => hK ⟨hin, fun h0 => by rcases h.2 with h | h <;> omega, h2⟩)
        have em : (S.take k).getD m default = S.getD m default := by rw [getD_take, if_pos hm]
        rw [em]
        have hpm := (hpre m hm).1
        obtain ⟨a, ha⟩ := Int.eq_ofNat_of_zero_le hin.1
        obtain ⟨b, hb⟩ := Int.eq_ofNat_of_zero_le hpm.1
        have ea : ((a : Int)).toNat = a := rfl
        have eb : ((b : Int)).toNat = b := rfl
        have hpa : a < c.Tasks.length := by omega
        have hpb : b < c.Tasks.length := by omega
        have lk : (¬ fol c Range.Hi (S.getD k default).toNat (S.getD m default).toNat ∧ ¬ fol c Range.Hi (S.getD m default).toNat (S.getD k default).toNat) ↔ ¬ fol c Range.Hi a b ∧ ¬ fol c Range.Hi b a := by rw [ha, hb, ea, eb]
        obtain ⟨q1, q2, q3⟩ := IP.bits a hpa
        obtain ⟨r1, r2, r3⟩ := IP.bits b hpb
        rw [ha, hb, ea, eb]
        refine wp_must rfl (wp_must (by omega) (wp_must (by omega) (wp_must (bit_rng q1 q2 hn) (wp_must (fun _ => rfl) (wp_must (fun _ => by omega) (wp_must (fun _ => by omega) (wp_must (fun _ => bit_rng r1 r2 hn) ?_)))))))
        rw [bit_dec q1, bit_dec r1]
        have f1 := q3 b hpb
        have f2 := r3 a hpa
        refine wp_bif (fun h => wp_some ?_) (fun h => ?_)
        · rw [ck_neg (fun A => ?_)]
          have h1 := lk.1 (A.1.apart m k hm hk)
          rw [Bool.or_eq_true, f1, f2] at h
          rcases h with h | h
          · exact h1.1 h
          · exact h1.2 h
        · refine hK' (lk.2 ⟨fun hf => ?_, fun hf => ?_⟩)
          · rw [f1.2 hf] at h; cases h
          · rw [f2.2 hf, Bool.or_true] at h; cases h
    · have hC : CutL (fol c Range.Hi) c.Tasks.length S := ⟨fun k hk => (h k hk).1, fun k h0 hk => (h k hk).2.1 h0, fun m k hm hk => (h k hk).2.2 m hm⟩
      refine wp_ifd (fun h' => wp_some ?_) (fun h' => wp_some ?_)
      · rw [ck_neg (fun A => by have := A.2; omega)]
      · rw [ck_pos ⟨hC, by omega⟩]
  · rw [chk_not V, ck_neg V]
    exact wp_true rfl (wp_some rfl)
theorem ckC_zero {c : Crew} {S : List Int} {z : Int} : ckC c S z = 0 ↔ Valid c ∧ CutL (fol c Range.Hi) c.Tasks.length S ∧ z ≤ S.length := by
  unfold ckC
  by_cases V : Valid c
  · rw [ck_pos V]
    by_cases A : CutL (fol c Range.Hi) c.Tasks.length S ∧ z ≤ S.length
    · rw [ck_pos A]; exact ⟨fun _ => ⟨V, A⟩, fun _ => rfl⟩
    · rw [ck_neg A]; exact ⟨fun h => (by cases h), fun h => absurd h.2 A⟩
  · rw [ck_neg V]; exact ⟨fun h => (by cases h), fun h => absurd h.1 V⟩
section
variable {n : Nat} {adj : Nat → Nat → Prop} {rank : Nat → Int}
theorem cutL_asc {S : List Int} (C : CutL adj n S) : ∀ (b a : Nat), a < b → b < S.length → S.getD a default < S.getD b default
  | 0, a, h, _ => by omega
  | b + 1, a, h, hb => by
    have h1 := C.asc (b + 1) (by omega) hb
    rw [show b + 1 - 1 = b by omega] at h1
    by_cases e : a = b
    · subst e; exact h1
    · have := cutL_asc C b a (by omega) (by omega); omega
theorem CutL.cut (O : Ord adj n rank) {S : List Int} (C : CutL adj n S) : IsCut adj n (S.map Int.toNat) := by
  refine ⟨?_, fun x hx => ?_, fun x hx y hy hadj => ?_⟩
  · show List.Pairwise (· ≠ ·) _
    rw [List.pairwise_map, List.pairwise_iff_getElem]
    intro i j hi hj hij e
    have h := cutL_asc C j i hij hj
    have h1 := C.rng i hi
    have h2 := C.rng j hj
    rw [List.getD_eq_getElem?_getD, List.getElem?_eq_getElem hi] at h h1
    rw [List.getD_eq_getElem?_getD, List.getElem?_eq_getElem hj] at h h2
    simp only [Option.getD_some] at h h1 h2
    omega
  · obtain ⟨z, hz, rfl⟩ := List.mem_map.1 hx
    obtain ⟨i, hi, rfl⟩ := mem_getD hz
    have := C.rng i hi; omega
  · obtain ⟨z, hz, rfl⟩ := List.mem_map.1 hx
    obtain ⟨i, hi, rfl⟩ := mem_getD hz
    obtain ⟨w, hw, rfl⟩ := List.mem_map.1 hy
    obtain ⟨j, hj, rfl⟩ := mem_getD hw
    rcases Nat.lt_trichotomy i j with h | h | h
    · exact (C.apart i j h hj).2 hadj
    · subst h; have := O.up _ _ hadj; omega
    · exact (C.apart j i h hi).1 hadj
theorem getD_map {S T : Type} [Inhabited S] [Inhabited T] (f : S → T) {l : List S} {i : Nat} (h : i < l.length) : (l.map f).getD i default = f (l.getD i default) := by
  rw [List.getD_eq_getElem?_getD, List.getD_eq_getElem?_getD, List.getElem?_map, List.getElem?_eq_getElem h]; rfl
theorem asc_get {l : List Nat} (h : l.Pairwise (· < ·)) {i j : Nat} (hij : i < j) (hj : j < l.length) : l.getD i default < l.getD j default := by
  rw [List.pairwise_iff_getElem] at h
  have := h i j (by omega) hj hij
  rw [List.getD_eq_getElem?_getD, List.getD_eq_getElem?_getD, List.getElem?_eq_getElem hj, List.getElem?_eq_getElem (show i < l.length by omega)]
  exact this
theorem IsCut.list {l : List Nat} (hp : l.Pairwise (· < ·)) (C : IsCut adj n l) : CutL adj n (l.map (fun (x : Nat) => (x : Int))) := by
  refine ⟨fun k hk => ?_, fun k h0 hk => ?_, fun m k hm hk => ?_⟩
  · rw [List.length_map] at hk
    rw [getD_map _ hk]
    have := C.lt _ (getD_mem hk)
    omega
  · rw [List.length_map] at hk
    rw [getD_map _ hk, getD_map _ (by omega)]
    have := asc_get hp (show k - 1 < k by omega) hk
    omega
  · rw [List.length_map] at hk
    rw [getD_map _ hk, getD_map _ (show m < l.length by omega)]
    exact ⟨C.apart _ (getD_mem hk) _ (getD_mem (by omega)), C.apart _ (getD_mem (by omega)) _ (getD_mem hk)⟩
def chn (back : Nat → Int) : Nat → Int → List Int
  | 0, _ => []
  | f + 1, k => if k < 0 then [] else k :: chn back f (back k.toNat)
theorem chn_neg {back : Nat → Int} {f : Nat} {k : Int} (h : k < 0) : chn back f k = [] := by
  cases f
  · rfl
  · unfold chn; rw [if_pos h]
theorem chn_pos {back : Nat → Int} {f : Nat} {k : Int} (h : 0 ≤ k) : chn back (f + 1) k = k :: chn back f (back k.toNat) := by
  show (if k < 0 then [] else _) = _
  rw [if_neg (by omega)]
variable {s : Ks}
theorem chn_mem (M : Mat adj n s) (O : Ord adj n rank) (top : Int) (ht : ∀ x, x < n → rank x ≤ top) : ∀ (f : Nat) (k : Nat), k < n → top - rank k < f → ∀ x : Int, x ∈ chn s.back f k ↔ ∃ y : Nat, x = (y : Int) ∧ Ch s.back k y
  | 0, k, hk, h, x => by have := ht k hk; omega
  | f + 1, k, hk, h, x => by
    rw [chn_pos (Int.natCast_nonneg k), Int.toNat_natCast, List.mem_cons]
    by_cases hb : s.back k < 0
    · rw [chn_neg hb]
      constructor
      · rintro (rfl | h)
        · exact ⟨k, rfl, .refl _⟩
        · cases h
      · rintro ⟨y, rfl, hc⟩
        cases hc with
        | refl => exact .inl rfl
        | step h1 _ => omega
    · obtain ⟨q, hq⟩ := Int.eq_ofNat_of_zero_le (show 0 ≤ s.back k by omega)
      obtain ⟨h1, _, h2⟩ := M.edge hq
      have := O.up _ _ h2
      rw [hq, chn_mem M O top ht f q h1 (by omega) x]
      constructor
      · rintro (rfl | ⟨y, rfl, hc⟩)
        · exact ⟨k, rfl, .refl _⟩
        · exact ⟨y, rfl, .step hq hc⟩
      · rintro ⟨y, rfl, hc⟩
        cases hc with
        | refl => exact .inl rfl
        | step h3 h4 =>
          right
          rename_i q'
          have : q' = q := by omega
          subst this; exact ⟨y, rfl, h4⟩
theorem chn_round (M : Mat adj n s) (O : Ord adj n rank) (top : Int) (ht : ∀ x, x < n → rank x ≤ top) : ∀ (f : Nat) (k : Nat), k < n → top - rank k < f → IsRound adj n (chn s.back f k) ∧ (chn s.back f k).getD 0 default = (k : Int) ∧ (chn s.back f k).length ≤ (top - rank k).toNat + 1
  | 0, k, hk, h => by have := ht k hk; omega
  | f + 1, k, hk, h => by
    rw [chn_pos (Int.natCast_nonneg k), Int.toNat_natCast]
    by_cases hb : s.back k < 0
    · rw [chn_neg hb]
      refine ⟨⟨by simp, fun j hj => ?_, fun j h0 hj => ?_⟩, rfl, by simp⟩
      · simp at hj; subst hj; show 0 ≤ (k : Int) ∧ (k : Int) < n; omega
      · simp at hj; omega
    · obtain ⟨q, hq⟩ := Int.eq_ofNat_of_zero_le (show 0 ≤ s.back k by omega)
      obtain ⟨h1, _, h2⟩ := M.edge hq
      have hup := O.up _ _ h2
      obtain ⟨R, hd, hlen⟩ := chn_round M O top ht f q h1 (by omega)
      have htk := ht q h1
      rw [hq]
      generalize chn s.back f (q : Int) = l at R hd hlen
      refine ⟨⟨by simp, fun j hj => ?_, fun j h0 hj => ?_⟩, rfl, by rw [List.length_cons]; omega⟩
      · cases j with
        | zero => show 0 ≤ (k : Int) ∧ (k : Int) < n; omega
        | succ j => exact R.rng j (by simpa using hj)
      · obtain ⟨j, rfl⟩ : ∃ j', j = j' + 1 := ⟨j - 1, by omega⟩
        cases j with
        | zero =>
          show adj ((k : Int)).toNat (l.getD 0 default).toNat
          rw [hd]; exact h2
        | succ j => exact R.link (j + 1) (by omega) (by simpa using hj)
theorem head_ex (M : Mat adj n s) (O : Ord adj n rank) : ∀ (b : Nat) (x : Nat), x < n → (∀ y, y < n → rank x ≤ rank y + b) → ∃ t, t < n ∧ s.own t < 0 ∧ Ch s.back t x
  | 0, x, hx, hb => by
    by_cases h : s.own x < 0
    · exact ⟨x, hx, h, .refl _⟩
    · obtain ⟨y, h1, h2⟩ := M.own x hx (by omega)
      obtain ⟨_, _, h3⟩ := M.edge h2
      have := O.up _ _ h3
      have := hb y (O.lt _ _ h3).1
      omega
  | b + 1, x, hx, hb => by
    by_cases h : s.own x < 0
    · exact ⟨x, hx, h, .refl _⟩
    · obtain ⟨y, h1, h2⟩ := M.own x hx (by omega)
      obtain ⟨_, _, h3⟩ := M.edge h2
      have hup := O.up _ _ h3
      obtain ⟨t, a, b', c⟩ := head_ex M O b y (O.lt _ _ h3).1 (fun z hz => by have := hb z hz; omega)
      exact ⟨t, a, b', c.snoc h2⟩
theorem loose_asc (n : Nat) (f : Nat → Int) : (loose n f).Pairwise (· < ·) := List.Pairwise.filter _ List.pairwise_lt_range
theorem chains_rounds (M : Mat adj n s) (O : Ord adj n rank) (lo top : Int) (hr : ∀ x, x < n → lo ≤ rank x ∧ rank x ≤ top) (f : Nat) (hf : top - lo < f) :
    AreRounds adj n ((loose n s.own).map (fun (i : Nat) => chn s.back f i)) := by
  have ht : ∀ x, x < n → rank x ≤ top := fun x hx => (hr x hx).2
  have hR : ∀ k, k < (loose n s.own).length → ∃ i : Nat, (loose n s.own).getD k default = i ∧ i < n ∧ s.own i < 0 ∧ rd ((loose n s.own).map (fun (i : Nat) => chn s.back f i)) k = chn s.back f (i : Int) ∧ IsRound adj n (chn s.back f i) ∧ (chn s.back f i).getD 0 default = (i : Int) := by
    intro k hk
    have hm := mem_loose.1 (getD_mem hk)
    have := hr _ hm.1
    have h := chn_round M O top ht f _ hm.1 (by omega)
    exact ⟨_, rfl, hm.1, hm.2, getD_map _ hk, h.1, h.2.1⟩
  refine ⟨fun k hk => ?_, fun k h0 hk => ?_, ?_, fun x hx => ?_⟩
  · rw [List.length_map] at hk
    obtain ⟨i, _, _, _, h3, h4, _⟩ := hR k hk
    rw [h3]; exact h4
  · rw [List.length_map] at hk
    obtain ⟨i, e1, _, _, h3, _, h5⟩ := hR k hk
    obtain ⟨j, e2, _, _, g3, _, g5⟩ := hR (k - 1) (by omega)
    rw [h3, g3, h5, g5]
    have := asc_get (loose_asc n s.own) (show k - 1 < k by omega) hk
    omega
  · show List.Pairwise (· ≠ ·) _
    rw [List.pairwise_flatten]
    refine ⟨fun l hl => ?_, ?_⟩
    · obtain ⟨i, hi, rfl⟩ := List.mem_map.1 hl
      have hm := mem_loose.1 hi
      have := hr _ hm.1
      have R := (chn_round M O top ht f _ hm.1 (by omega)).1
      rw [List.pairwise_iff_getElem]
      have up : ∀ (b a : Nat), a < b → b < (chn s.back f (i : Int)).length → rank ((chn s.back f (i : Int)).getD a default).toNat < rank ((chn s.back f (i : Int)).getD b default).toNat := by
        intro b
        induction b with
        | zero => intro a h; omega
        | succ b ih =>
          intro a h hb
          have h1 := O.up _ _ (R.link (b + 1) (by omega) hb)
          rw [show b + 1 - 1 = b by omega] at h1
          by_cases e : a = b
          · subst e; exact h1
          · have := ih a (by omega) (by omega); omega
      intro a b ha hb hab e
      have := up b a hab hb
      rw [List.getD_eq_getElem?_getD, List.getD_eq_getElem?_getD, List.getElem?_eq_getElem ha, List.getElem?_eq_getElem hb, e] at this
      omega
    · rw [List.pairwise_map]
      have h1 : (loose n s.own).Pairwise (· ≠ ·) := nodup_loose n s.own
      refine List.Pairwise.imp_of_mem (fun {i j} hi hj hne x hx y hy e => ?_) h1
      subst e
      have hmi := mem_loose.1 hi
      have hmj := mem_loose.1 hj
      have ri := hr _ hmi.1
      have rj := hr _ hmj.1
      obtain ⟨a, rfl, ca⟩ := (chn_mem M O top ht f i hmi.1 (by omega) x).1 hx
      obtain ⟨b, hb, cb⟩ := (chn_mem M O top ht f j hmj.1 (by omega) _).1 hy
      have : a = b := by omega
      subst this
      have no : ∀ {i j : Nat}, s.own j < 0 → i ≠ j → ¬ Ch s.back i j := fun {i j} hj hne hc => by
        rcases hc.last with h | ⟨w, _, hw⟩
        · exact hne h
        · have := (M.edge hw).2.1; omega
      rcases Ch.both M ca cb with h | h
      · exact no hmj.2 hne h
      · exact no hmi.2 (Ne.symm hne) h
  · obtain ⟨t, h1, h2, h3⟩ := head_ex M O (top - lo).toNat x hx (fun y hy => by have := hr x hx; have := hr y hy; omega)
    refine List.mem_flatten.2 ⟨chn s.back f (t : Int), List.mem_map.2 ⟨t, mem_loose.2 ⟨h1, h2⟩, rfl⟩, ?_⟩
    have := hr t h1
    exact (chn_mem M O top ht f t h1 (by omega) _).2 ⟨x, rfl, h3⟩
theorem cut_rounds (O : Ord adj n rank) {S : List Nat} (C : IsCut adj n S) {ls : List (List Int)} (A : AreRounds adj n ls) : S.length ≤ ls.length := by
  have ex : ∀ x : Nat, ∃ k, x < n → k < ls.length ∧ (x : Int) ∈ rd ls k := fun x => by
    by_cases hx : x < n
    · obtain ⟨r, hr, hxr⟩ := List.mem_flatten.1 (A.all x hx)
      obtain ⟨k, hk, rfl⟩ := mem_getD hr
      exact ⟨k, fun _ => ⟨hk, hxr⟩⟩
    · exact ⟨0, fun h => absurd h hx⟩
  obtain ⟨f, hf⟩ := Classical.axiomOfChoice ex
  have := length_le_inj (r := List.range ls.length) f C.nd (fun x hx => List.mem_range.2 (hf x (C.lt x hx)).1) (fun x hx y hy e => ?_)
  · rwa [List.length_range] at this
  · obtain ⟨hk, h1⟩ := hf x (C.lt x hx)
    obtain ⟨_, h2⟩ := hf y (C.lt y hy)
    rw [← e] at h2
    have R := A.round _ hk
    generalize rd ls (f x) = l at h1 h2 R
    obtain ⟨i, hi, e1⟩ := mem_getD h1
    obtain ⟨j, hj, e2⟩ := mem_getD h2
    have up : ∀ (b a : Nat), a < b → b < l.length → adj (l.getD a default).toNat (l.getD b default).toNat := by
      intro b
      induction b with
      | zero => intro a h; omega
      | succ b ih =>
        intro a h hb
        have h1 := R.link (b + 1) (by omega) hb
        rw [show b + 1 - 1 = b by omega] at h1
        by_cases e : a = b
        · subst e; exact h1
        · exact O.trans _ _ _ (ih a (by omega) (by omega)) h1
    rcases Nat.lt_trichotomy i j with h | h | h
    · have := up j i h hj
      rw [e1, e2] at this
      exact absurd this (C.apart x hx y hy)
    · subst h; rw [e1] at e2; omega
    · have := up i j h hi
      rw [e1, e2] at this
      exact absurd this (C.apart y hy x hx)
end
end Go.Sp
