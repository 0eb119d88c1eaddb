/- Plain laws, crew: slack, and who is late; CrewLate. No program in sight. -/
import Derived.Test.YtnaodipmfaglfaaCPlH
set_option linter.all false
namespace Go.Sp
open Go.Av
set_option maxRecDepth 100000
theorem putIn_at {x : Int} : ∀ (l : List Int) (s : Nat), s ≤ l.length → (∀ j, j < s → l.getD j default < x) → (s < l.length → x ≤ l.getD s default) → ((([] : List Int) ++ l.take s) ++ [x]) ++ l.drop s = putIn x l
  | [], s, h, _, _ => by have : s = 0 := by simpa using h
                         subst this; rfl
  | y :: l, 0, _, _, h => by
    have h : x ≤ y := h (by simp)
    unfold putIn
    rw [decide_eq_true h]; rfl
  | y :: l, s + 1, hs, h1, h2 => by
    have h0 : y < x := h1 0 (by omega)
    have ih := putIn_at (x := x) l s (by simpa using hs) (fun j hj => h1 (j + 1) (by omega)) (fun h => h2 (by simpa using h))
    unfold putIn
    rw [decide_eq_false (by omega)]
    show _ = y :: putIn x l
    rw [← ih]; rfl
theorem isort_snoc (L : List Int) (x : Int) : isort (L ++ [x]) = putIn x (isort L) := by
  refine sorted_unique ((isort_perm _).trans ?_) (isort_sorted _) (putIn_sorted x _ (isort_sorted L))
  exact (List.perm_append_singleton x L).trans ((isort_perm L).symm.cons x |>.trans (putIn_perm x _).symm)
theorem asc_getD {l : List Int} (h : l.Pairwise (· ≤ ·)) {i j : Nat} (hij : i ≤ j) (hj : j < l.length) : l.getD i default ≤ l.getD j default := by
  by_cases e : i = j
  · rw [e]; exact Int.le_refl _
  · rw [List.pairwise_iff_getElem] at h
    have := h i j (by omega) hj (by omega)
    rw [List.getD_eq_getElem?_getD, List.getD_eq_getElem?_getD, List.getElem?_eq_getElem hj, List.getElem?_eq_getElem (show i < l.length by omega)]
    exact this
theorem put_eq {fuel : Nat} {l : List Int} {x : Int} (hs : l.Pairwise (· ≤ ·)) (hl : l.length ≤ 100000) (hf : 100001 ≤ fuel ∨ l.length < fuel) : gasolierref01_Put fuel l x = some (if x ∈ l then l else putIn x l) := by
  refine Wp.eq ?_
  unfold gasolierref01_Put
  refine wp_for1 l.length (by omega) (fun s => ∀ j, j < s → l.getD j default < x) (fun j hj => by omega) (fun s K hsl hI hK => ?_)
  have es : ((s : Int)).toNat = s := rfl
  rw [es]
  refine wp_must (fun h => by simp at h; omega) ?_
  by_cases h0 : s < l.length
  · rw [decide_eq_true (show (s : Int) < ((l.length : Nat) : Int) by omega)]
    refine wp_bif (fun h => ?_) (fun h => ?_)
    · have h1 : l.getD s default < x := by simpa using h
      exact wp_mustI (by omega) (hK h0 (fun j hj => by
        by_cases e : j = s
        · rw [e]; exact h1
        · exact hI j (by omega)))
    · have h1 : ¬ l.getD s default < x := by simpa [-List.getD_eq_getElem?_getD] using h
      refine wp_must (fun _ => by omega) (wp_bif (fun h2 => wp_some ?_) (fun h2 => ?_))
      · have h2 : l.getD s default = x := by simpa using h2
        rw [if_pos (h2 ▸ getD_mem h0)]
      · have h2 : ¬ l.getD s default = x := by simpa [-List.getD_eq_getElem?_getD] using h2
        have hp := putIn_at l s hsl hI (fun _ => by omega)
        have hno : x ∉ l := fun hm => by
          obtain ⟨j, hj, e⟩ := mem_getD hm
          by_cases hjs : j < s
          · have := hI j hjs; omega
          · have := asc_getD hs (show s ≤ j by omega) hj; omega
        rw [if_neg hno]
        refine wp_must (by omega) (wp_must ?_ (wp_must ?_ (wp_must (by omega) (wp_must ?_ (wp_some hp))))) <;>
          (unfold room; simp only [List.length_append, List.length_nil, List.length_take, List.length_drop, List.length_cons]; omega)
  · rw [decide_eq_false (show ¬ (s : Int) < ((l.length : Nat) : Int) by omega)]
    refine wp_false rfl (wp_must (fun h => by cases h) (wp_false rfl ?_))
    have hp := putIn_at l s hsl hI (fun h => by omega)
    have hno : x ∉ l := fun hm => by
      obtain ⟨j, hj, e⟩ := mem_getD hm
      have := hI j (by omega); omega
    rw [if_neg hno]
    refine wp_must (by omega) (wp_must ?_ (wp_must ?_ (wp_must (by omega) (wp_must ?_ (wp_some hp))))) <;>
      (unfold room; simp only [List.length_append, List.length_nil, List.length_take, List.length_drop, List.length_cons]; omega)
theorem same_eq (a b : List Int) (h : a.length ≤ 9223372036854775807) : gasolierref01_Same a b = some (decide (a = b)) := by
  refine Wp.eq ?_
  unfold gasolierref01_Same
  refine wp_ifn (fun h => wp_some ?_) (fun h => ?_)
  · rw [decide_eq_false (fun e => h (by rw [e]))]
  · have hl : a.length = b.length := by omega
    refine wp_forall (fun i => a.getD i default = b.getD i default) (fun i K hi _ hK => ?_) (fun h => wp_some ?_)
    · refine wp_must (by omega) (wp_ifn (fun h => wp_some ?_) (fun h => hK h))
      rw [decide_eq_false (fun e => h (by rw [e]))]
    · rw [decide_eq_true (ext_getD hl h)]
theorem sort_eq {l : List Int} (h : l.length ≤ 100000) : slices_Sort_int_l l = some (isort l) := must_yes (by omega) _
def upd1 (o g : Int) : Int := if o < 0 ∨ g < o then g else o
def rk (r : List Int) (k : Nat) : Nat := (r.getD k default).toNat
def slr (c : Crew) (r : List Int) : Nat → Int → Int
  | 0, o => o
  | k + 1, o => upd1 (slr c r k o) (gap c Range.Hi (rk r k) (rk r (k + 1)))
def slo (c : Crew) (ls : List (List Int)) : Nat → Int
  | 0 => -1
  | i + 1 => slr c (rd ls i) ((rd ls i).length - 1) (slo c ls i)
section
variable {c : Crew} {ls : List (List Int)}
theorem round_len {n : Nat} {l : List Int} (hnd : l.Nodup) (hr : ∀ x ∈ l, 0 ≤ x ∧ x < n) : l.length ≤ n := by
  have := length_le_inj (r := List.range n) Int.toNat hnd (fun x hx => List.mem_range.2 (by have := hr x hx; omega)) (fun x hx y hy e => by have := hr x hx; have := hr y hy; omega)
  rwa [List.length_range] at this
theorem IsRound.mem {adj : Nat → Nat → Prop} {n : Nat} {l : List Int} (R : IsRound adj n l) : ∀ x ∈ l, 0 ≤ x ∧ x < n := fun x hx => by
  obtain ⟨k, hk, rfl⟩ := mem_getD hx; exact R.rng k hk
theorem IsRound.rk {adj : Nat → Nat → Prop} {n : Nat} {l : List Int} (R : IsRound adj n l) {k : Nat} (hk : k < l.length) : l.getD k default = ((rk l k : Nat) : Int) ∧ rk l k < n := by
  have := R.rng k hk; unfold Sp.rk; omega
theorem IsRound.len {V : Valid c} {l : List Int} (R : IsRound (fol c Range.Hi) c.Tasks.length l) : l.length ≤ 24 := by
  have := round_len (R.nodup V) R.mem; have := V.tasks; omega
theorem slack_eq (V : Valid c) (hF : Fit ls) (A : AreRounds (fol c Range.Hi) c.Tasks.length ls) {fuel : Nat} (hf : 30 ≤ fuel) : crew_Slack fuel c ls = some (if slo c ls ls.length < 0 then (0, 3) else (slo c ls ls.length, 0)) := by
  refine Wp.eq ?_
  unfold crew_Slack
  refine wp_bind (asked_wp c ls hF) (fun y hy => ?_)
  have hy2 : y.2 = 0 := by
    rcases hy with ⟨h, rfl⟩ | ⟨h, h2, rfl⟩ | ⟨h, h2, p, rfl, _⟩
    · exact absurd V h
    · exact absurd A h2
    · rfl
  rw [hy2]
  refine wp_false rfl ?_
  refine wp_range (fun i s => s = slo c ls i) rfl (fun i s K hi hI hK => ?_) (fun s hI => ?_)
  · subst hI
    have R := A.round i hi
    have hl := R.len (V := V)
    have hne := R.ne
    have er : ls.getD i default = rd ls i := rfl
    rw [er, most_fun]
    refine wp_loop (fun s => 1 ≤ s.1 ∧ s.1 ≤ (rd ls i).length ∧ s.2 = slr c (rd ls i) (s.1.toNat - 1) (slo c ls i)) (fun s => ((rd ls i).length - s.1.toNat)) (by dsimp only; omega) ⟨by dsimp only; omega, by dsimp only; omega, rfl⟩ (fun s K' hI' hK' => ?_)
    obtain ⟨k, o⟩ := s
    obtain ⟨h1, h2, h3⟩ := hI'
    dsimp only at h1 h2 h3 hK' ⊢
    subst h3
    obtain ⟨k, rfl⟩ : ∃ m : Nat, k = (m : Int) + 1 := ⟨(k - 1).toNat, by omega⟩
    have e1 : (((k : Int) + 1 - 1)).toNat = k := by omega
    have e2 : (((k : Int) + 1)).toNat = k + 1 := by omega
    have e3 : (((k : Int) + 1)).toNat - 1 = k := by omega
    refine wp_ifd (fun h => ?_) (fun h => hK _ ?_)
    · obtain ⟨q1, q2⟩ := R.rk (show k < (rd ls i).length by omega)
      obtain ⟨q3, q4⟩ := R.rk (show k + 1 < (rd ls i).length by omega)
      rw [e3]
      refine wp_mustI (by omega) (wp_must (by omega) (wp_must (by omega) ?_))
      rw [e1, e2, q1, q3]
      refine wp_bindE (spare_eq V (.inr rfl) q2 q4) ?_
      refine wp_bif (fun h => wp_mustI (by omega) (hK' _ ⟨by dsimp only; omega, by dsimp only; omega, ?_⟩ (by dsimp only; omega))) (fun h => wp_mustI (by omega) (hK' _ ⟨by dsimp only; omega, by dsimp only; omega, ?_⟩ (by dsimp only; omega)))
      · dsimp only
        rw [show ((k : Int) + 1 + 1).toNat - 1 = k + 1 by omega]
        show _ = upd1 _ _
        unfold upd1
        rw [if_pos (by simpa using h)]
      · dsimp only
        rw [show ((k : Int) + 1 + 1).toNat - 1 = k + 1 by omega]
        show _ = upd1 _ _
        unfold upd1
        rw [if_neg (by simpa using h)]
    · rw [e3]
      show slr c (rd ls i) k (slo c ls i) = slr c (rd ls i) ((rd ls i).length - 1) (slo c ls i)
      rw [show (rd ls i).length - 1 = k by omega]
  · subst hI
    exact wp_ifd (fun h => wp_some (by rw [if_pos h])) (fun h => wp_some (by rw [if_neg h]))
theorem rslack_eq (V : Valid c) (hF : Fit ls) (A : AreRounds (fol c Range.Hi) c.Tasks.length ls) {fuel : Nat} (hf : 30 ≤ fuel) : gasolierref04_Slack fuel c ls = some (if slo c ls ls.length < 0 then (0, 3) else (slo c ls ls.length, 0)) := by
  refine Wp.eq ?_
  unfold gasolierref04_Slack
  refine wp_bindE (rcheckRounds_eq c ls hF) ?_
  rw [ckR_zero.2 ⟨V, A⟩]
  refine wp_false rfl ?_
  refine wp_range (fun i s => s = slo c ls i) rfl (fun i s K hi hI hK => ?_) (fun s hI => ?_)
  · subst hI
    have R := A.round i hi
    have hl := R.len (V := V)
    have hne := R.ne
    have er : ls.getD i default = rd ls i := rfl
    rw [er]
    refine wp_loop (fun s => 1 ≤ s.1 ∧ s.1 ≤ (rd ls i).length ∧ s.2 = slr c (rd ls i) (s.1.toNat - 1) (slo c ls i)) (fun s => ((rd ls i).length - s.1.toNat)) (by dsimp only; omega) ⟨by dsimp only; omega, by dsimp only; omega, rfl⟩ (fun s K' hI' hK' => ?_)
    obtain ⟨k, o⟩ := s
    obtain ⟨h1, h2, h3⟩ := hI'
    dsimp only at h1 h2 h3 hK' ⊢
    subst h3
    obtain ⟨k, rfl⟩ : ∃ m : Nat, k = (m : Int) + 1 := ⟨(k - 1).toNat, by omega⟩
    have e1 : (((k : Int) + 1 - 1)).toNat = k := by omega
    have e2 : (((k : Int) + 1)).toNat = k + 1 := by omega
    have e3 : (((k : Int) + 1)).toNat - 1 = k := by omega
    refine wp_ifd (fun h => ?_) (fun h => hK _ ?_)
    · obtain ⟨q1, q2⟩ := R.rk (show k < (rd ls i).length by omega)
      obtain ⟨q3, q4⟩ := R.rk (show k + 1 < (rd ls i).length by omega)
      rw [e3, e1, e2, q1, q3]
      have t1 : c.Tasks.getD (((rk (rd ls i) k : Nat) : Int)).toNat default = tk c (rk (rd ls i) k) := rfl
      have t2 : c.Tasks.getD (((rk (rd ls i) (k + 1) : Nat) : Int)).toNat default = tk c (rk (rd ls i) (k + 1)) := rfl
      have t3 : ∀ a b : Nat, ((c.Travel.getD ((tk c a).Place).toNat default).getD ((tk c b).Place).toNat default) = tv c.Travel (tk c a).Place.toNat (tk c b).Place.toNat := fun _ _ => rfl
      rw [t1, t2, t3]
      have hpi := V.place q2
      have hpj := V.place q4
      have hai := V.at q2
      have haj := V.at q4
      have hr := V.travel.rng _ _ hpi.2.1 hpj.2.1
      have hrow := V.travel.row _ hpi.2.1
      have eg : (tk c (rk (rd ls i) (k + 1))).At - (tk c (rk (rd ls i) k)).At - (tk c (rk (rd ls i) k)).Serve - (tv c.Travel (tk c (rk (rd ls i) k)).Place.toNat (tk c (rk (rd ls i) (k + 1))).Place.toNat).Hi = gap c Range.Hi (rk (rd ls i) k) (rk (rd ls i) (k + 1)) := rfl
      refine wp_mustI (by omega) (wp_must (by omega) (wp_must (by omega) (wp_must (by omega) (wp_must (by omega) (wp_mustI (by omega) (wp_mustI (by omega) (wp_must (by omega) (wp_must (by omega) (wp_mustI (by omega) ?_)))))))))
      rw [eg]
      refine wp_bif (fun h => wp_mustI (by omega) (hK' _ ⟨by dsimp only; omega, by dsimp only; omega, ?_⟩ (by dsimp only; omega))) (fun h => wp_mustI (by omega) (hK' _ ⟨by dsimp only; omega, by dsimp only; omega, ?_⟩ (by dsimp only; omega)))
      · dsimp only
        rw [show ((k : Int) + 1 + 1).toNat - 1 = k + 1 by omega]
        show _ = upd1 _ _
        unfold upd1
        rw [if_pos (by simpa using h)]
      · dsimp only
        rw [show ((k : Int) + 1 + 1).toNat - 1 = k + 1 by omega]
        show _ = upd1 _ _
        unfold upd1
        rw [if_neg (by simpa using h)]
    · rw [e3]
      show slr c (rd ls i) k (slo c ls i) = slr c (rd ls i) ((rd ls i).length - 1) (slo c ls i)
      rw [show (rd ls i).length - 1 = k by omega]
  · subst hI
    exact wp_ifd (fun h => wp_some (by rw [if_pos h])) (fun h => wp_some (by rw [if_neg h]))
theorem slack_bad (hF : Fit ls) (h : ¬ (Valid c ∧ AreRounds (fol c Range.Hi) c.Tasks.length ls)) (fuel : Nat) : crew_Slack fuel c ls = some (0, ckR c ls) ∧ gasolierref04_Slack fuel c ls = some (0, ckR c ls) := by
  have hne : ¬ ckR c ls = 0 := fun e => h (ckR_zero.1 e)
  constructor
  · refine Wp.eq ?_
    unfold crew_Slack
    refine wp_bind (asked_wp c ls hF) (fun y hy => ?_)
    have hy2 : y.2 = ckR c ls := by
      unfold ckR
      rcases hy with ⟨h, rfl⟩ | ⟨h, h2, rfl⟩ | ⟨h', h2, p, rfl, _⟩
      · rw [ck_neg h]
      · rw [ck_pos h, ck_neg h2]
      · exact absurd ⟨h', h2⟩ h
    rw [hy2]
    exact wp_true (by simpa using hne) (wp_some rfl)
  · refine Wp.eq ?_
    unfold gasolierref04_Slack
    refine wp_bindE (rcheckRounds_eq c ls hF) ?_
    exact wp_true (by simpa using hne) (wp_some rfl)
end
end Go.Sp
