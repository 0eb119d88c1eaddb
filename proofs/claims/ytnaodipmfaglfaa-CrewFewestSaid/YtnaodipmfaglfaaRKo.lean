/- Chains and cuts: as many in the greatest cut as are nobody's. No program in sight. -/
import Derived.Test.YtnaodipmfaglfaaRKn
set_option linter.all false
namespace Go.Sp
theorem nodup_filter {T : Type} (p : T → Bool) {l : List T} (h : l.Nodup) : (l.filter p).Nodup := List.Pairwise.filter p h
structure IsCut (adj : Nat → Nat → Prop) (n : Nat) (S : List Nat) : Prop where
  nd : S.Nodup
  lt : ∀ x ∈ S, x < n
  apart : ∀ x ∈ S, ∀ y ∈ S, ¬ adj x y
def Most (adj : Nat → Nat → Prop) (n u : Nat) : Prop := (∃ S, IsCut adj n S ∧ S.length = u) ∧ ∀ S, IsCut adj n S → S.length ≤ u
theorem Most.unique {adj : Nat → Nat → Prop} {n u v : Nat} (h : Most adj n u) (h' : Most adj n v) : u = v := by
  obtain ⟨⟨S, h1, rfl⟩, h2⟩ := h
  obtain ⟨⟨S', h3, rfl⟩, h4⟩ := h'
  exact Nat.le_antisymm (h4 S h1) (h2 S' h3)
structure Ord (adj : Nat → Nat → Prop) (n : Nat) (rank : Nat → Int) : Prop where
  lt : ∀ x y, adj x y → x < n ∧ y < n
  up : ∀ x y, adj x y → rank x < rank y
  trans : ∀ x y z, adj x y → adj y z → adj x z
inductive Ch (back : Nat → Int) : Nat → Nat → Prop
  | refl (x : Nat) : Ch back x x
  | step {x y z : Nat} : back x = (y : Int) → Ch back y z → Ch back x z
theorem Ch.snoc {back : Nat → Int} {x y z : Nat} (h : Ch back x y) : back y = (z : Int) → Ch back x z := by
  induction h with
  | refl x => exact fun h => .step h (.refl _)
  | step h1 _ ih => exact fun h => .step h1 (ih h)
theorem Ch.last {back : Nat → Int} {x z : Nat} (h : Ch back x z) : x = z ∨ ∃ w, Ch back x w ∧ back w = (z : Int) := by
  induction h with
  | refl x => exact .inl rfl
  | @step x y z h1 _ ih =>
    right
    rcases ih with rfl | ⟨w, h2, h3⟩
    · exact ⟨x, .refl _, h1⟩
    · exact ⟨w, .step h1 h2, h3⟩
section
variable {adj : Nat → Nat → Prop} {n : Nat} {rank : Nat → Int} {s : Ks}
theorem Mat.edge {m : Nat} (M : Mat adj m s) {x y : Nat} (h : s.back x = (y : Int)) : y < m ∧ s.own y = (x : Int) ∧ adj x y := by
  obtain ⟨k, h1, h2, h3, h4⟩ := M.back x (by omega)
  have : k = y := by omega
  subst this; exact ⟨h2, h3, h4⟩
theorem Ch.edge (M : Mat adj n s) (O : Ord adj n rank) {x y : Nat} (h : Ch s.back x y) : x = y ∨ adj x y := by
  induction h with
  | refl x => exact .inl rfl
  | step h1 _ ih =>
    right
    have h3 := (M.edge h1).2.2
    rcases ih with rfl | h4
    · exact h3
    · exact O.trans _ _ _ h3 h4
theorem Ch.both (M : Mat adj n s) {x y t : Nat} (h : Ch s.back x t) : Ch s.back y t → Ch s.back x y ∨ Ch s.back y x := by
  induction h with
  | refl x => exact fun h => .inr h
  | @step x z t h1 _ ih =>
    intro h
    rcases ih h with h2 | h2
    · exact .inl (.step h1 h2)
    · rcases h2.last with rfl | ⟨w, h3, h4⟩
      · exact .inl (.step h1 (.refl _))
      · have e1 := (M.edge h1).2.1
        have e2 := (M.edge h4).2.1
        have : w = x := by omega
        subst this; exact .inr h3
theorem tail_ex (M : Mat adj n s) (O : Ord adj n rank) : ∀ (b : Nat) (x : Nat), x < n → (∀ y, y < n → rank y ≤ rank x + b) → ∃ t, t < n ∧ s.back t < 0 ∧ Ch s.back x t
  | 0, x, hx, hb => by
    by_cases h : s.back x < 0
    · exact ⟨x, hx, h, .refl _⟩
    · obtain ⟨y, hy⟩ := Int.eq_ofNat_of_zero_le (show 0 ≤ s.back x by omega)
      obtain ⟨h1, _, h2⟩ := M.edge hy
      have := O.up _ _ h2
      have := hb y h1
      omega
  | b + 1, x, hx, hb => by
    by_cases h : s.back x < 0
    · exact ⟨x, hx, h, .refl _⟩
    · obtain ⟨y, hy⟩ := Int.eq_ofNat_of_zero_le (show 0 ≤ s.back x by omega)
      obtain ⟨h1, _, h2⟩ := M.edge hy
      have h3 := O.up _ _ h2
      obtain ⟨t, a, b', c⟩ := tail_ex M O b y h1 (fun z hz => by have := hb z hz; omega)
      exact ⟨t, a, b', .step hy c⟩
theorem rank_bound (rank : Nat → Int) (x : Nat) : ∀ n, ∃ b : Nat, ∀ y, y < n → rank y ≤ rank x + b
  | 0 => ⟨0, fun y h => by omega⟩
  | n + 1 => by
    obtain ⟨b, hb⟩ := rank_bound rank x n
    refine ⟨b + (rank n - rank x).toNat, fun y hy => ?_⟩
    by_cases e : y = n
    · subst e; omega
    · have := hb y (by omega); omega
def loose (n : Nat) (back : Nat → Int) : List Nat := (List.range n).filter (fun x => decide (back x < 0))
theorem mem_loose {n : Nat} {back : Nat → Int} {x : Nat} : x ∈ loose n back ↔ x < n ∧ back x < 0 := by
  unfold loose; rw [List.mem_filter, List.mem_range, decide_eq_true_eq]
theorem nodup_loose (n : Nat) (back : Nat → Int) : (loose n back).Nodup := nodup_filter _ List.nodup_range
theorem cut_le (M : Mat adj n s) (O : Ord adj n rank) {S : List Nat} (h : IsCut adj n S) : S.length ≤ (loose n s.back).length := by
  have ex : ∀ x, ∃ t, x < n → t < n ∧ s.back t < 0 ∧ Ch s.back x t := fun x => by
    by_cases hx : x < n
    · obtain ⟨b, hb⟩ := rank_bound rank x n
      obtain ⟨t, ht⟩ := tail_ex M O b x hx hb
      exact ⟨t, fun _ => ht⟩
    · exact ⟨0, fun h => absurd h hx⟩
  obtain ⟨f, hf⟩ := Classical.axiomOfChoice ex
  refine length_le_inj f h.nd (fun x hx => ?_) (fun x hx y hy e => ?_)
  · obtain ⟨a, b, _⟩ := hf x (h.lt x hx); exact mem_loose.2 ⟨a, b⟩
  · have hx' := (hf x (h.lt x hx)).2.2
    have hy' := (hf y (h.lt y hy)).2.2
    rw [e] at hx'
    rcases Ch.both M hx' hy' with h1 | h1
    · rcases h1.edge M O with h2 | h2
      · exact h2
      · exact absurd h2 (h.apart x hx y hy)
    · rcases h1.edge M O with h2 | h2
      · exact h2.symm
      · exact absurd h2 (h.apart y hy x hx)
theorem filter_split {T : Type} (p : T → Bool) : ∀ l : List T, l.length = (l.filter p).length + (l.filter (fun x => !p x)).length
  | [] => rfl
  | x :: l => by
    have := filter_split p l
    rw [List.filter_cons, List.filter_cons]
    cases p x <;> simp <;> omega
theorem cut_ex {D : Nat → Prop} (K : Kuhn adj n n s D) (ho : ∀ k, k < n → s.own k < n) : ∃ S, IsCut adj n S ∧ (loose n s.back).length ≤ S.length := by
  classical
  let A : Nat → Prop := fun x => s.back x < 0 ∨ ∃ k, k < n ∧ D k ∧ s.own k = (x : Int)
  let Al := (List.range n).filter (fun x => decide (A x))
  let Dl := (List.range n).filter (fun x => decide (D x))
  have hA : ∀ x, x < n → A x → ∀ q, q < n → adj x q → D q := by
    intro x hx ha q hq hadj
    rcases ha with h | ⟨k, h1, h2, h3⟩
    · exact K.lost x hx h q hq hadj
    · obtain ⟨o, h4, h5⟩ := K.dead k h1 h2
      have : o = x := by omega
      subst this; exact h5 q hq hadj
  refine ⟨Al.filter (fun x => !decide (D x)), ⟨nodup_filter _ (nodup_filter _ List.nodup_range), fun x hx => ?_, fun x hx y hy hadj => ?_⟩, ?_⟩
  · simp only [Al, List.mem_filter, List.mem_range] at hx; exact hx.1.1
  · simp only [Al, List.mem_filter, List.mem_range, decide_eq_true_eq, Bool.not_eq_true', decide_eq_false_iff_not] at hx hy
    exact hy.2 (hA x hx.1.1 hx.1.2 y hy.1.1 hadj)
  · have h1 := filter_split (fun x => decide (D x)) Al
    have h2 : (Al.filter (fun x => decide (D x))).length ≤ Dl.length := nodup_le (r := Dl) (nodup_filter _ (nodup_filter _ List.nodup_range)) (fun x hx => by
      simp only [Al, List.mem_filter, List.mem_range, decide_eq_true_eq] at hx
      simp only [Dl, List.mem_filter, List.mem_range, decide_eq_true_eq]; exact ⟨hx.1.1, hx.2⟩)
    have h3 : (loose n s.back ++ Dl.map (fun k => (s.own k).toNat)).length ≤ Al.length := by
      refine nodup_le (r := Al) (List.nodup_append.2 ⟨nodup_loose _ _, nodup_inj (nodup_filter _ List.nodup_range) (fun x hx y hy e => ?_), fun x hx y hy e => ?_⟩) (fun x hx => ?_)
      · simp only [Dl, List.mem_filter, List.mem_range, decide_eq_true_eq] at hx hy
        obtain ⟨o, h4, _⟩ := K.dead x hx.1 hx.2
        obtain ⟨o', h5, _⟩ := K.dead y hy.1 hy.2
        obtain ⟨a, a1, a2⟩ := K.mat.own x hx.1 (by omega)
        obtain ⟨b, b1, b2⟩ := K.mat.own y hy.1 (by omega)
        have : a = b := by omega
        subst this; omega
      · have hx := mem_loose.1 hx
        obtain ⟨k, hk, rfl⟩ := List.mem_map.1 hy
        simp only [Dl, List.mem_filter, List.mem_range, decide_eq_true_eq] at hk
        obtain ⟨o, h4, _⟩ := K.dead k hk.1 hk.2
        obtain ⟨a, a1, a2⟩ := K.mat.own k hk.1 (by omega)
        have : x = a := by omega
        subst this; omega
      · rcases List.mem_append.1 hx with hx | hx
        · have hx := mem_loose.1 hx
          simp only [Al, List.mem_filter, List.mem_range, decide_eq_true_eq]; exact ⟨hx.1, .inl hx.2⟩
        · obtain ⟨k, hk, rfl⟩ := List.mem_map.1 hx
          simp only [Dl, List.mem_filter, List.mem_range, decide_eq_true_eq] at hk
          obtain ⟨o, h4, _⟩ := K.dead k hk.1 hk.2
          have := ho k hk.1
          simp only [Al, List.mem_filter, List.mem_range, decide_eq_true_eq]
          exact ⟨by omega, .inr ⟨k, hk.1, hk.2, by omega⟩⟩
    rw [List.length_append, List.length_map] at h3
    omega
theorem kuhn_most {D : Nat → Prop} (K : Kuhn adj n n s D) (O : Ord adj n rank) (ho : ∀ k, k < n → s.own k < n) : Most adj n (loose n s.back).length := by
  obtain ⟨S, h1, h2⟩ := cut_ex K ho
  have := cut_le K.mat O h1
  exact ⟨⟨S, h1, by omega⟩, fun S hS => cut_le K.mat O hS⟩
theorem loose_own (M : Mat adj n s) (hb : ∀ x, n ≤ x → s.back x < 0) (ho : ∀ k, k < n → s.own k < n) : (loose n s.own).length = (loose n s.back).length := by
  have taken : ∀ f : Nat → Int, n = (loose n f).length + ((List.range n).filter (fun x => !decide (f x < 0))).length := fun f => by
    have := filter_split (fun x => decide (f x < 0)) (List.range n)
    rwa [List.length_range] at this
  have t1 := taken s.own
  have t2 := taken s.back
  have le1 : ((List.range n).filter (fun x => !decide (s.own x < 0))).length ≤ ((List.range n).filter (fun x => !decide (s.back x < 0))).length := by
    refine length_le_inj (fun k => (s.own k).toNat) (nodup_filter _ List.nodup_range) (fun k hk => ?_) (fun k hk q hq e => ?_)
    · simp only [List.mem_filter, List.mem_range, Bool.not_eq_true', decide_eq_false_iff_not] at hk ⊢
      obtain ⟨x, h1, h2⟩ := M.own k hk.1 (by omega)
      have := ho k hk.1
      have e : (s.own k).toNat = x := by omega
      rw [e]; omega
    · simp only [List.mem_filter, List.mem_range, Bool.not_eq_true', decide_eq_false_iff_not] at hk hq
      obtain ⟨x, h1, h2⟩ := M.own k hk.1 (by omega)
      obtain ⟨y, h3, h4⟩ := M.own q hq.1 (by omega)
      have : x = y := by omega
      subst this; omega
  have le2 : ((List.range n).filter (fun x => !decide (s.back x < 0))).length ≤ ((List.range n).filter (fun x => !decide (s.own x < 0))).length := by
    refine length_le_inj (fun k => (s.back k).toNat) (nodup_filter _ List.nodup_range) (fun k hk => ?_) (fun k hk q hq e => ?_)
    · simp only [List.mem_filter, List.mem_range, Bool.not_eq_true', decide_eq_false_iff_not] at hk ⊢
      obtain ⟨x, h1, h2, h3, _⟩ := M.back k (by omega)
      have e : (s.back k).toNat = x := by omega
      rw [e]; omega
    · simp only [List.mem_filter, List.mem_range, Bool.not_eq_true', decide_eq_false_iff_not] at hk hq
      obtain ⟨x, h1, h2, h3, _⟩ := M.back k (by omega)
      obtain ⟨y, h4, h5, h6, _⟩ := M.back q (by omega)
      have : x = y := by omega
      subst this; omega
  omega
theorem reach_cut {D : Nat → Prop} (K : Kuhn adj n n s D) (F T : Nat → Bool) (hF : ∀ x, x < n → s.back x < 0 → F x = true) (hFT : ∀ x, x < n → F x = true → ∀ y, y < n → adj x y → T y = true)
    (hT : ∀ y, y < n → T y = true → D y ∧ F (s.own y).toNat = true) (ho : ∀ k, k < n → s.own k < n) : IsCut adj n ((List.range n).filter (fun x => F x && !T x)) ∧ (loose n s.back).length ≤ ((List.range n).filter (fun x => F x && !T x)).length := by
  refine ⟨⟨nodup_filter _ List.nodup_range, fun x hx => ?_, fun x hx y hy hadj => ?_⟩, ?_⟩
  · simp only [List.mem_filter, List.mem_range] at hx; exact hx.1
  · simp only [List.mem_filter, List.mem_range, Bool.and_eq_true, Bool.not_eq_true'] at hx hy
    have := hFT x hx.1 hx.2.1 y hy.1 hadj
    rw [hy.2.2] at this; cases this
  · have h1 := filter_split T ((List.range n).filter F)
    have h2 : (((List.range n).filter F).filter T).length ≤ ((List.range n).filter T).length := nodup_le (nodup_filter _ (nodup_filter _ List.nodup_range)) (fun x hx => by
      simp only [List.mem_filter, List.mem_range] at hx ⊢; exact ⟨hx.1.1, hx.2⟩)
    have h4 : ((List.range n).filter F).filter (fun x => !T x) = (List.range n).filter (fun x => F x && !T x) := by
      rw [List.filter_filter]
      exact List.filter_congr (fun x _ => Bool.and_comm _ _)
    rw [h4] at h1
    have h3 : (loose n s.back ++ ((List.range n).filter T).map (fun k => (s.own k).toNat)).length ≤ ((List.range n).filter F).length := by
      refine nodup_le (List.nodup_append.2 ⟨nodup_loose _ _, nodup_inj (nodup_filter _ List.nodup_range) (fun x hx y hy e => ?_), fun x hx y hy e => ?_⟩) (fun x hx => ?_)
      · simp only [List.mem_filter, List.mem_range] at hx hy
        obtain ⟨o, h4, _⟩ := K.dead x hx.1 (hT x hx.1 hx.2).1
        obtain ⟨o', h5, _⟩ := K.dead y hy.1 (hT y hy.1 hy.2).1
        obtain ⟨a, a1, a2⟩ := K.mat.own x hx.1 (by omega)
        obtain ⟨b, b1, b2⟩ := K.mat.own y hy.1 (by omega)
        have : a = b := by omega
        subst this; omega
      · have hx := mem_loose.1 hx
        obtain ⟨k, hk, rfl⟩ := List.mem_map.1 hy
        simp only [List.mem_filter, List.mem_range] at hk
        obtain ⟨o, h4, _⟩ := K.dead k hk.1 (hT k hk.1 hk.2).1
        obtain ⟨a, a1, a2⟩ := K.mat.own k hk.1 (by omega)
        have : x = a := by omega
        subst this; omega
      · rcases List.mem_append.1 hx with hx | hx
        · have hx := mem_loose.1 hx
          simp only [List.mem_filter, List.mem_range]; exact ⟨hx.1, hF x hx.1 hx.2⟩
        · obtain ⟨k, hk, rfl⟩ := List.mem_map.1 hx
          simp only [List.mem_filter, List.mem_range] at hk
          obtain ⟨o, h4, _⟩ := K.dead k hk.1 (hT k hk.1 hk.2).1
          have := ho k hk.1
          simp only [List.mem_filter, List.mem_range]
          exact ⟨by omega, (hT k hk.1 hk.2).2⟩
    rw [List.length_append, List.length_map] at h3
    omega
end
end Go.Sp
