/- Texts of the framework, or of the plain law, one behind another. -/
import Derived.Test.YtoekhnngdocddaaGreatFr1
import Derived.Test.YtoekhnngdocddaaGreatFr5
import Derived.KernelRfl
/- Rules for plain laws: what a printed definition yields. No program in sight. -/
section
set_option linter.all false
namespace Go.Sp
open Go.Av
def Wp {R : Type} (x : Option R) (P : R → Prop) : Prop := ∃ r, x = some r ∧ P r
theorem Wp.eq {R : Type} {x : Option R} {v : R} (h : Wp x (· = v)) : x = some v := by
 obtain ⟨r, h1, h2⟩ := h; rw [h1, h2]
theorem Wp.of_eq {R : Type} {x : Option R} {v : R} {P : R → Prop} (h : x = some v) (hp : P v) : Wp x P := ⟨v, h, hp⟩
theorem Wp.mono {R : Type} {x : Option R} {P Q : R → Prop} (h : Wp x P) (hp : ∀ r, P r → Q r) : Wp x Q := by
 obtain ⟨r, h1, h2⟩ := h; exact ⟨r, h1, hp r h2⟩
theorem wp_some {R : Type} {r : R} {P : R → Prop} (h : P r) : Wp (some r) P := ⟨r, rfl, h⟩
theorem wp_must {R : Type} {c : Prop} [Decidable c] {x : Option R} {P : R → Prop} (h : c) (k : Wp x P) : Wp (must c x) P := by
 unfold must; rw [if_pos h]; exact k
theorem wp_bindE {S R : Type} {x : Option S} {k : S → Option R} {P : R → Prop} {v : S} (h : x = some v) (hk : Wp (k v) P) : Wp (bindO x k) P := by
 rw [h]; exact hk
theorem wp_bif {R : Type} {b : Bool} {x y : Option R} {P : R → Prop} (h1 : b = true → Wp x P) (h2 : b = false → Wp y P) : Wp (bif b then x else y) P := by
 cases b
 · exact h2 rfl
 · exact h1 rfl
theorem wp_if {R : Type} {p : Prop} {b : Bool} {x y : Option R} {P : R → Prop} (hb : b = true ↔ p) (h1 : p → Wp x P) (h2 : ¬ p → Wp y P) : Wp (bif b then x else y) P :=
 wp_bif (fun h => h1 (hb.1 h)) (fun h => h2 (fun hp => by rw [hb.2 hp] at h; cases h))
theorem wp_ifd {R : Type} {p : Prop} [Decidable p] {x y : Option R} {P : R → Prop} (h1 : p → Wp x P) (h2 : ¬ p → Wp y P) : Wp (bif (decide p) then x else y) P :=
 wp_if (decide_eq_true_iff) h1 h2
theorem wp_ifn {R : Type} {p : Prop} [Decidable p] {x y : Option R} {P : R → Prop} (h1 : ¬ p → Wp x P) (h2 : p → Wp y P) : Wp (bif (!decide p) then x else y) P :=
 wp_bif (fun h => h1 (by simpa using h)) (fun h => h2 (by simpa using h))
theorem wp_true {R : Type} {b : Bool} {x y : Option R} {P : R → Prop} (h : b = true) (h1 : Wp x P) : Wp (bif b then x else y) P := by rw [h]; exact h1
theorem wp_false {R : Type} {b : Bool} {x y : Option R} {P : R → Prop} (h : b = false) (h1 : Wp y P) : Wp (bif b then x else y) P := by rw [h]; exact h1
theorem wp_joinU {S R : Type} {f : (S → Option R) → Option R} {k : S → Option R} {P : R → Prop} (h : Wp (f k) P) : Wp (joinK f k) P := h
theorem wp_range {S R : Type} {body : Nat → S → (S → Option R) → Option R} {ex : S → Option R} {n : Nat} {s0 : S} {P : R → Prop} (Inv : Nat → S → Prop) (h0 : Inv 0 s0)
   (hb : ∀ (i : Nat) s (K : S → Option R), i < n → Inv i s → (∀ s', Inv (i + 1) s' → Wp (K s') P) → Wp (body i s K) P) (he : ∀ s, Inv n s → Wp (ex s) P) : Wp (rangeGo body ex n 0 s0) P := by
 have go : ∀ (m i : Nat), i + m = n → ∀ s, Inv i s → Wp (rangeGo body ex m i s) P := by
   intro m
   induction m with
   | zero => intro i hi s hs; have e : i = n := by omega
             subst e; exact he s hs
   | succ m ih => intro i hi s hs; exact hb i s _ (by omega) hs (fun s' h' => ih (i + 1) (by omega) s' h')
 exact go n 0 (by omega) s0 h0
theorem wp_loop {S R : Type} {body : S → (S → Option R) → Option R} {fuel : Nat} {s0 : S} {P : R → Prop} (Inv : S → Prop) (μ : S → Nat) (hf : μ s0 < fuel) (h0 : Inv s0)
   (hb : ∀ s (K : S → Option R), Inv s → (∀ s', Inv s' → μ s' < μ s → Wp (K s') P) → Wp (body s K) P) : Wp (loopGo body fuel s0) P := by
 have go : ∀ (f : Nat) s, Inv s → μ s < f → Wp (loopGo body f s) P := by
   intro f
   induction f with
   | zero => intro s _ h; omega
   | succ f ih => intro s hs hm; exact hb s _ hs (fun s' h' hl => ih s' h' (by omega))
 exact go fuel s0 h0 hf
theorem wp_for {S R : Type} {body : (Int × S) → ((Int × S) → Option R) → Option R} {fuel : Nat} {s0 : S} {P : R → Prop} (n : Nat) (hf : n < fuel) (Inv : Nat → S → Prop) (h0 : Inv 0 s0)
   (hb : ∀ (i : Nat) s (K : (Int × S) → Option R), i ≤ n → Inv i s → (∀ s', i < n → Inv (i + 1) s' → Wp (K ((i : Int) + 1, s')) P) → Wp (body ((i : Int), s) K) P) : Wp (loopGo body fuel (0, s0)) P := by
 have go : ∀ (f i : Nat) s, i ≤ n → n - i < f → Inv i s → Wp (loopGo body f ((i : Int), s)) P := by
   intro f
   induction f with
   | zero => intro i s _ h; omega
   | succ f ih => intro i s hi hm hs; exact hb i s _ hi hs (fun s' hl h' => ih (i + 1) s' (by omega) (by omega) h')
 exact go fuel 0 s0 (by omega) (by omega) h0
theorem wp_for1 {R : Type} {body : Int → (Int → Option R) → Option R} {fuel : Nat} {P : R → Prop} (n : Nat) (hf : n < fuel) (Inv : Nat → Prop) (h0 : Inv 0)
   (hb : ∀ (i : Nat) (K : Int → Option R), i ≤ n → Inv i → (i < n → Inv (i + 1) → Wp (K ((i : Int) + 1)) P) → Wp (body (i : Int) K) P) : Wp (loopGo body fuel 0) P := by
 have go : ∀ (f i : Nat), i ≤ n → n - i < f → Inv i → Wp (loopGo body f (i : Int)) P := by
   intro f
   induction f with
   | zero => intro i _ h; omega
   | succ f ih => intro i hi hm hs; exact hb i _ hi hs (fun hl h' => ih (i + 1) (by omega) (by omega) h')
 exact go fuel 0 (by omega) (by omega) h0
end Go.Sp
end
/- More rules for plain laws. No program in sight. -/
section
set_option linter.all false
namespace Go.Sp
open Go.Av
theorem wp_mustI {R : Type} {n : Int} {x : Option R} {P : R → Prop} (h : -9223372036854775808 ≤ n ∧ n ≤ 9223372036854775807) (k : Wp x P) : Wp (must (inI n) x) P := wp_must h k
theorem wp_mustR {R : Type} {n b : Nat} {x : Option R} {P : R → Prop} (h : n * b ≤ 140737488355328 ∧ n ≤ 9223372036854775807) (k : Wp x P) : Wp (must (room n b) x) P := wp_must h k
end Go.Sp
end
/- Rules for plain laws, more of them. No program in sight. -/
section
set_option linter.all false
namespace Go.Sp
open Go.Av
theorem wp_forall {R : Type} {body : Nat → Unit → (Unit → Option R) → Option R} {ex : Unit → Option R} {n : Nat} {P : R → Prop} (good : Nat → Prop)
   (hb : ∀ (i : Nat) (K : Option R), i < n → (∀ j, j < i → good j) → (good i → Wp K P) → Wp (body i () (fun _ => K)) P) (he : (∀ j, j < n → good j) → Wp (ex ()) P) : Wp (rangeGo body ex n 0 ()) P := by
 refine wp_range (fun i _ => ∀ j, j < i → good j) (fun j hj => by omega) (fun i s K hi hI hK => ?_) (fun s hs => he hs)
 have e : K = fun _ => K () := funext fun u => rfl
 rw [e]
 exact hb i (K ()) hi hI (fun g => hK () (fun j hj => by
   by_cases e : j = i
   · rw [e]; exact g
   · exact hI j (by omega)))
theorem wp_onE {S R : Type} {W : Bool} {x y : Option S} {k : S → Option R} {P : R → Prop} {v : S} (hW : W = true) (h : x = some v) (hk : Wp (k v) P) : Wp (bindO (bif W then x else y) k) P := by
 subst hW; rw [h]; exact hk
theorem wp_offE {S R : Type} {W : Bool} {x y : Option S} {k : S → Option R} {P : R → Prop} {v : S} (hW : W = false) (h : y = some v) (hk : Wp (k v) P) : Wp (bindO (bif W then x else y) k) P := by
 subst hW; rw [h]; exact hk
theorem must_yes {R : Type} {c : Prop} [Decidable c] (h : c) (x : Option R) : must c x = x := if_pos h
theorem getD_mem {T : Type} [Inhabited T] {l : List T} {i : Nat} (h : i < l.length) : l.getD i default ∈ l := by
 rw [List.getD_eq_getElem?_getD, List.getElem?_eq_getElem h]; exact List.getElem_mem h
theorem mem_getD {T : Type} [Inhabited T] {l : List T} {x : T} (h : x ∈ l) : ∃ i, i < l.length ∧ l.getD i default = x := by
 obtain ⟨i, hi, rfl⟩ := List.getElem_of_mem h
 exact ⟨i, hi, by rw [List.getD_eq_getElem?_getD, List.getElem?_eq_getElem hi]; rfl⟩
theorem getD_drop {T : Type} (l : List T) (n i : Nat) (d : T) : (l.drop n).getD i d = l.getD (n + i) d := by
 simp only [List.getD_eq_getElem?_getD, List.getElem?_drop]
theorem ext_getD {T : Type} [Inhabited T] {l r : List T} (hl : l.length = r.length) (h : ∀ i, i < l.length → l.getD i default = r.getD i default) : l = r := by
 refine List.ext_getElem hl (fun i h1 h2 => ?_)
 have := h i h1
 rw [List.getD_eq_getElem?_getD, List.getD_eq_getElem?_getD, List.getElem?_eq_getElem h1, List.getElem?_eq_getElem h2] at this
 exact this
theorem fdiv_bit {x : Int} {j : Nat} (h : 0 ≤ x) : Int.fdiv x (2 ^ j) = ((x.toNat >>> j : Nat) : Int) := by
 obtain ⟨n, rfl⟩ := Int.eq_ofNat_of_zero_le h
 rw [Int.toNat_natCast, Nat.shiftRight_eq_div_pow]
 have : (2 : Int) ^ j = ((2 ^ j : Nat) : Int) := by simp
 rw [this, Int.fdiv_eq_ediv_of_nonneg _ (Int.natCast_nonneg _)]
 exact (Int.natCast_ediv _ _).symm
end Go.Sp
end
/- Binary search, and insertion into a sorted list. No program in sight. -/
section
set_option linter.all false
namespace Go.Sp
open Go.Av
def bsF {T E : Type} [Inhabited T] (fuel : Nat) (p0 : List T) (p1 : E) (p2 : T → E → Option Int) : Option (Int × Bool) :=
 (loopGo (fun (s1 : Int × Int) k1 => (bif (decide (s1.2 < s1.1)) then must (inI (s1.2 + s1.1)) <| must (inU (s1.2 + s1.1)) <| must (inI (Int.fdiv (s1.2 + s1.1) (2 ^ (1 : Int).toNat))) <| must (0 ≤ ((Int.fdiv (s1.2 + s1.1) (2 ^ (1 : Int).toNat)) : Int) ∧ ((Int.fdiv (s1.2 + s1.1) (2 ^ (1 : Int).toNat)) : Int) < ((p0.length : Nat) : Int)) <| bindO (p2 (p0.getD ((Int.fdiv (s1.2 + s1.1) (2 ^ (1 : Int).toNat))).toNat default) p1) fun y7 => (bif (decide (y7 < 0)) then must (inI ((Int.fdiv (s1.2 + s1.1) (2 ^ (1 : Int).toNat)) + 1)) <| k1 (s1.1, ((Int.fdiv (s1.2 + s1.1) (2 ^ (1 : Int).toNat)) + 1)) else k1 ((Int.fdiv (s1.2 + s1.1) (2 ^ (1 : Int).toNat)), s1.2)) else must (((decide (s1.2 < ((p0.length : Nat) : Int))) = true → (0 ≤ (s1.2 : Int) ∧ (s1.2 : Int) < ((p0.length : Nat) : Int)))) <| bindO ((bif (decide (s1.2 < ((p0.length : Nat) : Int))) then p2 (p0.getD (s1.2).toNat default) p1 else some default)) fun y12 => some (s1.2, ((decide (s1.2 < ((p0.length : Nat) : Int))) && (decide (y12 = 0)))))) fuel (((p0.length : Nat) : Int), 0))
theorem bsF_eq {T E : Type} [Inhabited T] {fuel : Nat} (l : List T) (x : E) {p2 : T → E → Option Int} {c : T → Int} (hp : ∀ t, p2 t x = some (c t)) {k : Nat} (hk : k ≤ l.length)
   (h1 : ∀ i, i < k → c (l.getD i default) < 0) (h2 : ∀ i, k ≤ i → i < l.length → 0 ≤ c (l.getD i default)) (hl : l.length ≤ 1000000000) (hf : l.length < fuel) :
   bsF fuel l x p2 = some ((k : Int), decide (k < l.length) && decide (c (l.getD k default) = 0)) := by
 unfold bsF
 refine Wp.eq (wp_loop (fun s => ∃ lo hi : Nat, s = ((hi : Int), (lo : Int)) ∧ lo ≤ k ∧ k ≤ hi ∧ hi ≤ l.length) (fun s => (s.1 - s.2).toNat) (by simp only; omega) ⟨0, l.length, rfl, by omega, hk, by omega⟩ ?_)
 rintro _ K ⟨lo, hi, rfl, a1, a2, a3⟩ hK
 simp only at hK ⊢
 refine wp_ifd (fun hlt => ?_) (fun hge => ?_)
 · have e2 : Int.fdiv ((lo : Int) + hi) (2 ^ (1 : Int).toNat) = (((lo + hi) / 2 : Nat) : Int) := by
     rw [show (1 : Int).toNat = 1 from rfl, fdiv_bit (by omega), show ((lo : Int) + hi).toNat = lo + hi by omega, Nat.shiftRight_eq_div_pow]
   rw [e2]
   generalize hm : (lo + hi) / 2 = m
   refine wp_mustI (by omega) (wp_must (by unfold inU; omega) (wp_mustI (by omega) (wp_must (by omega) (wp_bindE (hp _) ?_))))
   rw [Int.toNat_natCast]
   refine wp_ifd (fun hc => ?_) (fun hc => ?_)
   · refine wp_mustI (by omega) (hK _ ⟨m + 1, hi, by simp, ?_, a2, a3⟩ (by simp only; omega))
     rcases Nat.lt_or_ge m k with h | h
     · omega
     · have := h2 m h (by omega); omega
   · refine hK _ ⟨lo, m, rfl, a1, ?_, by omega⟩ (by simp only; omega)
     rcases Nat.lt_or_ge m k with h | h
     · exact absurd (h1 m h) hc
     · exact h
 · have elo : lo = k := by omega
   subst elo
   refine wp_must (fun h => by have := of_decide_eq_true h; omega) ?_
   by_cases hlt : (lo : Int) < (l.length : Int)
   · refine wp_onE (by simp; omega) (hp _) (wp_some ?_)
     rw [Int.toNat_natCast]
     congr 2
     simp
   · refine wp_offE (by simp; omega) rfl (wp_some ?_)
     have e1 : decide ((lo : Int) < (l.length : Int)) = false := by simp; omega
     have e2 : decide (lo < l.length) = false := by simp; omega
     rw [e1, e2]; rfl
theorem split_ex {A : Nat → Prop} : ∀ (n : Nat), (∀ i j, i < j → j < n → A j → A i) → ∃ k, k ≤ n ∧ (∀ i, i < k → A i) ∧ ∀ i, k ≤ i → i < n → ¬ A i
 | 0, _ => ⟨0, Nat.le_refl _, fun i h => absurd h (Nat.not_lt_zero _), fun i _ h => absurd h (Nat.not_lt_zero _)⟩
 | n + 1, hm => by
   obtain ⟨k, h1, h2, h3⟩ := split_ex n (fun i j hij hj => hm i j hij (by omega))
   by_cases hn : A n
   · refine ⟨n + 1, Nat.le_refl _, fun i hi => ?_, fun i h4 h5 => by omega⟩
     rcases Nat.lt_or_ge i n with h | h
     · exact hm i n h (by omega) hn
     · have : i = n := by omega
       rw [this]; exact hn
   · refine ⟨k, by omega, h2, fun i h4 h5 => ?_⟩
     rcases Nat.lt_or_ge i n with h | h
     · exact h3 i h4 h
     · have : i = n := by omega
       rw [this]; exact hn
theorem while_split {T : Type} [Inhabited T] {p : T → Bool} : ∀ (l : List T) (k : Nat), k ≤ l.length → (∀ i, i < k → p (l.getD i default) = true) → (k < l.length → p (l.getD k default) = false) → l.takeWhile p = l.take k ∧ l.dropWhile p = l.drop k
 | [], k, hk, _, _ => by simp
 | a :: l, 0, hk, h1, h2 => by
   have := h2 (by simp)
   simp at this
   simp [this]
 | a :: l, k + 1, hk, h1, h2 => by
   have h0 := h1 0 (by omega)
   simp at h0
   obtain ⟨q1, q2⟩ := while_split l k (by simpa using hk) (fun i hi => by simpa using h1 (i + 1) (by omega)) (fun hi => by simpa using h2 (by simpa using hi))
   simp [h0, q1, q2]
def insK {T : Type} (f : T → Int) (l : List T) (x : T) : List T := l.takeWhile (fun y => decide (f y < f x)) ++ [x] ++ l.dropWhile (fun y => decide (f y < f x))
theorem insK_len {T : Type} (f : T → Int) (l : List T) (x : T) : (insK f l x).length = l.length + 1 := by
 unfold insK
 have : (l.takeWhile (fun y => decide (f y < f x)) ++ l.dropWhile (fun y => decide (f y < f x))).length = l.length := by rw [List.takeWhile_append_dropWhile]
 simp only [List.length_append, List.length_singleton] at this ⊢
 omega
end Go.Sp
end
/- Plain laws, fog: valid reports, what a view is, contradictions, the sight. No program in sight. -/
section
set_option linter.all false
namespace Go.Sp
open Go.Av
set_option maxRecDepth 100000
structure RepOk (x : Report) : Prop where
 src : 1 ≤ x.Source ∧ x.Source ≤ 99999
 dist : 1 ≤ x.District ∧ x.District ≤ 9
 night : 0 ≤ x.Night ∧ x.Night ≤ 100000
 time : 0 ≤ x.From ∧ x.From ≤ x.To ∧ x.To ≤ 1439
 sight : 0 ≤ x.Sight.Lo ∧ x.Sight.Lo ≤ x.Sight.Hi ∧ x.Sight.Hi ≤ 5000
 known : 0 ≤ x.Known ∧ x.Known ≤ 144001439
 till : x.Until = 0 ∨ (x.Known < x.Until ∧ 0 ≤ x.Until ∧ x.Until ≤ 144001439)
theorem fwithin_iff {a b c : Int} : fog_within a b c = true ↔ b ≤ a ∧ a ≤ c := by simp [fog_within]
theorem fcheck_or (x : Report) : fog_CheckReport x = 0 ∨ fog_CheckReport x = 50 := by
 unfold fog_CheckReport
 cases (((((((!(fog_within x.Source 1 99999)) || (!(fog_isDistrict x.District))) || (!(fog_isNight x.Night))) || (!(fog_isRange (⟨x.From, x.To⟩ : Range) 1439))) || (!(fog_isRange x.Sight 5000))) || (!(fog_isMoment x.Known))) || ((!decide (x.Until = 0)) && ((decide (x.Until ≤ x.Known)) || (!(fog_isMoment x.Until)))))
 · exact .inl rfl
 · exact .inr rfl
theorem frange_iff {r : Range} {c : Int} : fog_isRange r c = true ↔ 0 ≤ r.Lo ∧ r.Lo ≤ r.Hi ∧ r.Hi ≤ c := by simp [fog_isRange, and_assoc]
theorem fcheckReport_iff {x : Report} : fog_CheckReport x = 0 ↔ RepOk x := by
 have e : (bif (((((((!(fog_within x.Source 1 99999)) || (!(fog_isDistrict x.District))) || (!(fog_isNight x.Night))) || (!(fog_isRange (⟨x.From, x.To⟩ : Range) 1439))) || (!(fog_isRange x.Sight 5000))) || (!(fog_isMoment x.Known))) || ((!decide (x.Until = 0)) && ((decide (x.Until ≤ x.Known)) || (!(fog_isMoment x.Until))))) then (50 : Int) else 0) = 0 ↔ (((((((!(fog_within x.Source 1 99999)) || (!(fog_isDistrict x.District))) || (!(fog_isNight x.Night))) || (!(fog_isRange (⟨x.From, x.To⟩ : Range) 1439))) || (!(fog_isRange x.Sight 5000))) || (!(fog_isMoment x.Known))) || ((!decide (x.Until = 0)) && ((decide (x.Until ≤ x.Known)) || (!(fog_isMoment x.Until))))) = false := by
   generalize (((((((!(fog_within x.Source 1 99999)) || (!(fog_isDistrict x.District))) || (!(fog_isNight x.Night))) || (!(fog_isRange (⟨x.From, x.To⟩ : Range) 1439))) || (!(fog_isRange x.Sight 5000))) || (!(fog_isMoment x.Known))) || ((!decide (x.Until = 0)) && ((decide (x.Until ≤ x.Known)) || (!(fog_isMoment x.Until))))) = b
   cases b <;> simp
 unfold fog_CheckReport
 rw [e]
 simp only [fog_isDistrict, fog_isNight, fog_isMoment, Bool.or_eq_false_iff, Bool.and_eq_false_iff, Bool.not_eq_false', fwithin_iff, frange_iff, decide_eq_true_eq, decide_eq_false_iff_not]
 constructor
 · rintro ⟨⟨⟨⟨⟨⟨h1, h2⟩, h3⟩, h4⟩, h5⟩, h6⟩, h7⟩
   exact ⟨h1, h2, h3, h4, h5, h6, by rcases h7 with h7 | h7 <;> omega⟩
 · rintro ⟨h1, h2, h3, h4, h5, h6, h7⟩
   exact ⟨⟨⟨⟨⟨⟨h1, h2⟩, h3⟩, h4⟩, h5⟩, h6⟩, by omega⟩
def rp (l : List Report) (i : Nat) : Report := l.getD i default
structure RepsOk (l : List Report) : Prop where
 len : l.length ≤ 60
 all : ∀ i, i < l.length → RepOk (rp l i) ∧ (0 < i → (rp l (i - 1)).Source < (rp l i).Source)
theorem fcompare_nonneg (a b : Report) : 0 ≤ fog_compare a b ↔ b.Source ≤ a.Source := by
 unfold fog_compare cmp_Compare_int cmp_isNaN_int
 by_cases h1 : a.Source < b.Source
 · simp [h1]
 · by_cases h2 : b.Source < a.Source <;> simp [h1, h2] <;> omega
theorem fcheck_wp (l : List Report) : Wp (fog_Check l) (fun r => (RepsOk l ∧ r = 0) ∨ (¬ RepsOk l ∧ r = 51)) := by
 unfold fog_Check
 refine wp_ifd (fun h => wp_some (.inr ⟨fun V => by have := V.len; omega, rfl⟩)) (fun h => ?_)
 refine wp_forall (fun i => RepOk (rp l i) ∧ (0 < i → (rp l (i - 1)).Source < (rp l i).Source)) (fun i K hi _ hK => ?_) (fun h1 => wp_some (.inl ⟨⟨by omega, h1⟩, rfl⟩))
 refine wp_must (fun _ => by unfold inI; omega) ?_
 refine wp_must (fun h => by simp at h; omega) ?_
 have e : (((i : Int) - 1)).toNat = i - 1 := by omega
 rw [e]
 refine wp_bif (fun hb => wp_some (.inr ⟨fun V => ?_, rfl⟩)) (fun hb => ?_)
 · obtain ⟨a1, a2⟩ := V.all i hi
   unfold rp at a1 a2
   have a3 := fcheckReport_iff.2 a1
   simp only [a3, Bool.or_eq_true, Bool.and_eq_true, decide_eq_true_eq, Bool.not_eq_true', fcompare_nonneg] at hb
   rcases hb with hb | hb
   · simp at hb
   · have := a2 (by omega); omega
 · simp only [Bool.or_eq_false_iff, Bool.and_eq_false_iff, Bool.not_eq_false', decide_eq_true_eq, decide_eq_false_iff_not, fcompare_nonneg] at hb
   refine hK ⟨fcheckReport_iff.1 hb.1, fun h0 => ?_⟩
   unfold rp
   rcases hb.2 with h | h <;> omega
theorem fcheck_ok {l : List Report} (h : RepsOk l) : fog_Check l = some 0 := by
 obtain ⟨r, e, h1 | h1⟩ := fcheck_wp l
 · rw [e, h1.2]
 · exact absurd h h1.1
theorem fcheck_bad {l : List Report} (h : ¬ RepsOk l) : fog_Check l = some 51 := by
 obtain ⟨r, e, h1 | h1⟩ := fcheck_wp l
 · exact absurd h1.1 h
 · rw [e, h1.2]
theorem take_getD {T : Type} [Inhabited T] {l : List T} {i : Nat} (h : i < l.length) : l.take (i + 1) = l.take i ++ [l.getD i default] := by
 rw [List.take_add_one, List.getD_eq_getElem?_getD, List.getElem?_eq_getElem h]; rfl
def seen (d n m : Int) (x : Report) : Bool := (decide (x.District = d) && decide (x.Night = n)) && fog_counts x m
end Go.Sp
end
/- Plain laws, fog: what is told of a clear district. No program in sight. -/
section
set_option linter.all false
namespace Go.Sp
open Go.Av
set_option maxRecDepth 100000
def argOk (q : fog_query) : Prop := 1 ≤ q.district ∧ q.district ≤ 9 ∧ 0 ≤ q.minute ∧ q.minute ≤ 1439 ∧ 0 ≤ q.time.Lo ∧ q.time.Lo ≤ q.time.Hi ∧ q.time.Hi ≤ 1439 ∧ 1 ≤ q.limit ∧ q.limit ≤ 5000
def dayOk (n m : Int) : Prop := 0 ≤ n ∧ n ≤ 100000 ∧ 0 ≤ m ∧ m ≤ 144001439
instance (q : fog_query) : Decidable (argOk q) := inferInstanceAs (Decidable (_ ∧ _))
instance (n m : Int) : Decidable (dayOk n m) := inferInstanceAs (Decidable (_ ∧ _))
end Go.Sp
end
/- Plain laws, fog: the document's tests, views, contradictions and sights. No program in sight. -/
section
set_option linter.all false
namespace Go.Sp
open Go.Av
set_option maxRecDepth 100000
theorem rin_iff {a b c : Int} : gasolierref05_In a b c = true ↔ b ≤ a ∧ a ≤ c := by simp [gasolierref05_In]
theorem rcheckReport_eq (x : Report) : gasolierref05_CheckReport x = fog_CheckReport x := by
 have e1 : gasolierref05_CheckReport x = 0 ∨ gasolierref05_CheckReport x = 50 := by
   unfold gasolierref05_CheckReport
   generalize (((((!(((gasolierref05_In x.Source 1 99999) && (gasolierref05_In x.District 1 9)) && (gasolierref05_In x.Night 0 100000))) || (!(((decide (0 ≤ x.From)) && (decide (x.From ≤ x.To))) && (decide (x.To ≤ 1439))))) || (!(((decide (0 ≤ x.Sight.Lo)) && (decide (x.Sight.Lo ≤ x.Sight.Hi))) && (decide (x.Sight.Hi ≤ 5000))))) || (!(gasolierref05_isMoment x.Known))) || ((!decide (x.Until = 0)) && ((decide (x.Until ≤ x.Known)) || (!(gasolierref05_isMoment x.Until))))) = b
   cases b
   · exact .inl rfl
   · exact .inr rfl
 have e2 : gasolierref05_CheckReport x = 0 ↔ RepOk x := by
   unfold gasolierref05_CheckReport
   generalize hb : (((((!(((gasolierref05_In x.Source 1 99999) && (gasolierref05_In x.District 1 9)) && (gasolierref05_In x.Night 0 100000))) || (!(((decide (0 ≤ x.From)) && (decide (x.From ≤ x.To))) && (decide (x.To ≤ 1439))))) || (!(((decide (0 ≤ x.Sight.Lo)) && (decide (x.Sight.Lo ≤ x.Sight.Hi))) && (decide (x.Sight.Hi ≤ 5000))))) || (!(gasolierref05_isMoment x.Known))) || ((!decide (x.Until = 0)) && ((decide (x.Until ≤ x.Known)) || (!(gasolierref05_isMoment x.Until))))) = b
   have hb' : b = false ↔ RepOk x := by
     rw [← hb]
     simp only [gasolierref05_isMoment, Bool.or_eq_false_iff, Bool.and_eq_false_iff, Bool.not_eq_false', Bool.and_eq_true, rin_iff, decide_eq_true_eq, decide_eq_false_iff_not]
     constructor
     · rintro ⟨⟨⟨⟨⟨⟨h1, h2⟩, h3⟩, ⟨h4, h5⟩, h6⟩, ⟨h7, h8⟩, h9⟩, h10⟩, h11⟩
       exact ⟨h1, h2, h3, ⟨h4, h5, h6⟩, ⟨h7, h8, h9⟩, h10, by omega⟩
     · rintro ⟨h1, h2, h3, ⟨h4, h5, h6⟩, ⟨h7, h8, h9⟩, h10, h11⟩
       exact ⟨⟨⟨⟨⟨⟨h1, h2⟩, h3⟩, ⟨h4, h5⟩, h6⟩, ⟨h7, h8⟩, h9⟩, h10⟩, by omega⟩
   rw [← hb']
   cases b <;> simp
 rcases fcheck_or x with h | h
 · rw [h]; exact e2.2 (fcheckReport_iff.1 h)
 · rcases e1 with h1 | h1
   · have := fcheckReport_iff.2 (e2.1 h1); omega
   · rw [h, h1]
theorem rcheck_wp {fuel : Nat} (l : List Report) (hf : 61 < fuel) : Wp (gasolierref05_Check fuel l) (fun r => (RepsOk l ∧ r = 0) ∨ (¬ RepsOk l ∧ r = 51)) := by
 unfold gasolierref05_Check
 refine wp_ifd (fun h => wp_some (.inr ⟨fun V => by have := V.len; omega, rfl⟩)) (fun h => ?_)
 refine wp_for1 l.length (by omega) (fun i => ∀ j, j < i → RepOk (rp l j) ∧ (0 < j → (rp l (j - 1)).Source < (rp l j).Source)) (fun j hj => by omega) (fun i K hi hI hK => ?_)
 refine wp_ifd (fun hlt => ?_) (fun hge => wp_some (.inl ⟨⟨by omega, fun j hj => hI j (by omega)⟩, rfl⟩))
 have hi' : i < l.length := by omega
 refine wp_must (by omega) (wp_must (fun _ => by unfold inI; omega) (wp_must (fun h => by simp at h; omega) (wp_must (fun _ => by omega) ?_)))
 have e : (((i : Int) - 1)).toNat = i - 1 := by omega
 rw [e]
 simp only [Int.toNat_natCast, rcheckReport_eq]
 refine wp_bif (fun hb => wp_some (.inr ⟨fun V => ?_, rfl⟩)) (fun hb => ?_)
 · obtain ⟨a1, a2⟩ := V.all i hi'
   unfold rp at a1 a2
   have a3 := fcheckReport_iff.2 a1
   simp only [a3, Bool.or_eq_true, Bool.and_eq_true, decide_eq_true_eq, Bool.not_eq_true'] at hb
   rcases hb with hb | hb
   · simp at hb
   · have := a2 (by omega); omega
 · simp only [Bool.or_eq_false_iff, Bool.and_eq_false_iff, Bool.not_eq_false', decide_eq_true_eq, decide_eq_false_iff_not] at hb
   refine wp_mustI (by omega) (hK hi' (fun j hj => ?_))
   by_cases ej : j = i
   · subst ej
     refine ⟨fcheckReport_iff.1 hb.1, fun h0 => ?_⟩
     unfold rp
     rcases hb.2 with h | h <;> omega
   · exact hI j (by omega)
theorem rcheck_ok {fuel : Nat} {l : List Report} (hf : 61 < fuel) (h : RepsOk l) : gasolierref05_Check fuel l = some 0 := by
 obtain ⟨r, e, h1 | h1⟩ := rcheck_wp l hf
 · rw [e, h1.2]
 · exact absurd h h1.1
theorem rcheck_bad {fuel : Nat} {l : List Report} (hf : 61 < fuel) (h : ¬ RepsOk l) : gasolierref05_Check fuel l = some 51 := by
 obtain ⟨r, e, h1 | h1⟩ := rcheck_wp l hf
 · exact absurd h1.1 h
 · rw [e, h1.2]
theorem same_eq {fuel : Nat} (a b : List Int) (hf : a.length < fuel) (hl : a.length < 9223372036854775807) : gasolierref05_Same fuel a b = some (decide (a = b)) := by
 unfold gasolierref05_Same
 refine Wp.eq (wp_ifn (fun h => wp_some ?_) (fun h => ?_))
 · rw [decide_eq_false (fun e => h (by rw [e]))]
 have hlen : a.length = b.length := by omega
 refine wp_for1 a.length hf (fun i => ∀ j, j < i → a.getD j default = b.getD j default) (fun j hj => by omega) (fun i K hi hI hK => ?_)
 refine wp_ifd (fun hlt => ?_) (fun hge => wp_some ?_)
 · have hi' : i < a.length := by omega
   refine wp_must (by omega) (wp_must (by omega) ?_)
   simp only [Int.toNat_natCast]
   refine wp_ifn (fun h => wp_some ?_) (fun h => wp_mustI (by omega) (hK hi' (fun j hj => ?_)))
   · rw [decide_eq_false (fun e => h (by rw [e]))]
   · by_cases ej : j = i
     · subst ej; exact h
     · exact hI j (by omega)
 · rw [decide_eq_true (ext_getD hlen (fun i hi => hI i (by omega)))]
end Go.Sp
end
/- Plain laws, fog: FogSights, FogClashes. No program in sight. -/
section
set_option linter.all false
namespace Go.Sp
open Go.Av
set_option maxRecDepth 100000
theorem sane_ok : gasolierlaw05_sane 20000 = some true := by kernel_rfl
end Go.Sp
end
/- Plain laws, fog: reports that are made, FogTrue, FogShown. No program in sight. -/
section
set_option linter.all false
namespace Go.Sp
open Go.Av
set_option maxRecDepth 100000
structure Fine (i : Nat) (r : Report) : Prop where
 src : r.Source = 4 * (i : Int) + 3
 dist : 1 ≤ r.District ∧ r.District ≤ 3
 night : r.Night = 3 ∨ r.Night = 4
 from_ : 0 ≤ r.From ∧ r.From ≤ 1299
 to_ : r.From ≤ r.To ∧ r.To ≤ 1437
 sight : 0 ≤ r.Sight.Lo ∧ r.Sight.Lo ≤ r.Sight.Hi ∧ r.Sight.Hi ≤ 5000
 known : 4320 ≤ r.Known ∧ r.Known ≤ 5759
 till : r.Until = 0 ∨ r.Known < r.Until ∧ r.Until ≤ 7000
end Go.Sp
end
/- Plain laws, fog: adding reports by both sides: FogReports, FogJoins. -/
section
set_option linter.all false
namespace Go.Sp
open Go.Av
set_option maxRecDepth 100000
theorem reps_sorted {l : List Report} (h : RepsOk l) : l.Pairwise (fun a b => a.Source < b.Source) := by
 rw [List.pairwise_iff_getElem]
 intro i j hi hj hij
 have step : ∀ k, i + 1 + k < l.length → l[i].Source < (rp l (i + 1 + k)).Source := by
   intro k
   induction k with
   | zero =>
     intro hk
     have := (h.all (i + 1) hk).2 (by omega)
     have e : rp l (i + 1 - 1) = l[i] := by unfold rp; simp [List.getElem?_eq_getElem hi]
     rw [e] at this; exact this
   | succ k ih =>
     intro hk
     have h1 := ih (by omega)
     have h2 := (h.all (i + 1 + (k + 1)) hk).2 (by omega)
     have e : i + 1 + (k + 1) - 1 = i + 1 + k := by omega
     rw [e] at h2; omega
 have := step (j - i - 1) (by omega)
 have e : i + 1 + (j - i - 1) = j := by omega
 rw [e] at this
 unfold rp at this
 simpa [List.getElem?_eq_getElem hj] using this
theorem fcompare_neg (a b : Report) : fog_compare a b < 0 ↔ a.Source < b.Source := by
 have := fcompare_nonneg a b
 omega
theorem fcompare_zero (a b : Report) : fog_compare a b = 0 ↔ a.Source = b.Source := by
 unfold fog_compare cmp_Compare_int cmp_isNaN_int
 by_cases h1 : a.Source < b.Source
 · simp [h1]; omega
 · by_cases h2 : b.Source < a.Source <;> simp [h1, h2] <;> omega
open Classical in
noncomputable def addR (l : List Report) (x : Report) : List Report × Int :=
 if RepsOk l then (if RepOk x ∧ ∀ y ∈ l, y.Source ≠ x.Source then (if l.length = 60 then ([], 2) else (insK (·.Source) l x, 0)) else ([], 50)) else ([], 51)
theorem addR_51 {l : List Report} {x : Report} (h : ¬ RepsOk l) : addR l x = ([], 51) := by unfold addR; rw [if_neg h]
theorem addR_50 {l : List Report} {x : Report} (R : RepsOk l) (h : ¬ (RepOk x ∧ ∀ y ∈ l, y.Source ≠ x.Source)) : addR l x = ([], 50) := by unfold addR; rw [if_pos R, if_neg h]
theorem addR_2 {l : List Report} {x : Report} (R : RepsOk l) (h : RepOk x ∧ ∀ y ∈ l, y.Source ≠ x.Source) (h2 : l.length = 60) : addR l x = ([], 2) := by unfold addR; rw [if_pos R, if_pos h, if_pos h2]
theorem addR_0 {l : List Report} {x : Report} (R : RepsOk l) (h : RepOk x ∧ ∀ y ∈ l, y.Source ≠ x.Source) (h2 : l.length ≠ 60) : addR l x = (insK (·.Source) l x, 0) := by unfold addR; rw [if_pos R, if_pos h, if_neg h2]
theorem split_rep {l : List Report} (R : RepsOk l) (x : Report) : ∃ k, k ≤ l.length ∧ (∀ i, i < k → (rp l i).Source < x.Source) ∧ (∀ i, k ≤ i → i < l.length → ¬ (rp l i).Source < x.Source) ∧
   ((∀ y ∈ l, y.Source ≠ x.Source) ↔ ¬ (k < l.length ∧ (rp l k).Source = x.Source)) ∧ insK (·.Source) l x = l.take k ++ [x] ++ l.drop k := by
 have hs := reps_sorted R
 have mono : ∀ i j, i < j → j < l.length → (rp l i).Source < (rp l j).Source := fun i j hij hj => by
   have := List.pairwise_iff_getElem.1 hs i j (by omega) hj hij
   unfold rp
   simpa [List.getElem?_eq_getElem hj, List.getElem?_eq_getElem (show i < l.length by omega)] using this
 obtain ⟨k, k1, k2, k3⟩ := split_ex (A := fun i => (rp l i).Source < x.Source) l.length (fun i j hij hj h => Int.lt_trans (mono i j hij hj) h)
 refine ⟨k, k1, k2, k3, ⟨fun h hk => h _ (getD_mem hk.1) hk.2, fun h y hy e => ?_⟩, ?_⟩
 · obtain ⟨i, hi, rfl⟩ := mem_getD hy
   rcases Nat.lt_trichotomy i k with hik | hik | hik
   · have := k2 i hik; unfold rp at this; omega
   · subst hik; exact h ⟨hi, e⟩
   · have h1 := mono k i hik hi
     have h2 := k3 k (Nat.le_refl _) (by omega)
     unfold rp at h1 h2
     omega
 · unfold insK
   obtain ⟨q1, q2⟩ := while_split (p := fun y => decide (y.Source < x.Source)) l k k1 (fun i hi => decide_eq_true (k2 i hi)) (fun hk => decide_eq_false (k3 k (Nat.le_refl _) hk))
   rw [q1, q2]
theorem clone_rep {l : List Report} (h : l.length ≤ 60) : slices_Clone_Report l = some l := by
 unfold slices_Clone_Report
 rw [must_yes (by unfold room; simp; omega)]
 rfl
theorem fAdd_eq {fuel : Nat} (l : List Report) (x : Report) (hf : 61 < fuel) : fog_Add fuel l x = some (addR l x) := by
 unfold fog_Add addR
 refine Wp.eq ?_
 by_cases R : RepsOk l
 · rw [if_pos R]
   refine wp_bindE (fcheck_ok R) (wp_ifn (fun h => absurd rfl h) (fun _ => ?_))
   obtain ⟨k, k1, k2, k3, k4, k5⟩ := split_rep R x
   have eb : slices_BinarySearchFunc_Report fuel l x (fun x0 x1 => some (fog_compare x0 x1)) = some ((k : Int), decide (k < l.length) && decide (fog_compare (l.getD k default) x = 0)) := by
     show bsF fuel l x (fun x0 x1 => some (fog_compare x0 x1)) = _
     exact bsF_eq l x (c := fun t => fog_compare t x) (fun t => rfl) k1 (fun i hi => (fcompare_neg _ _).2 (k2 i hi)) (fun i h1 h2 => (fcompare_nonneg _ _).2 (Int.not_lt.1 (k3 i h1 h2))) (by have := R.len; omega) (by have := R.len; omega)
   refine wp_bindE eb ?_
   simp only [fcompare_zero]
   have hb : ((!decide (fog_CheckReport x = 0)) || (decide (k < l.length) && decide ((l.getD k default).Source = x.Source))) = true ↔ ¬ (RepOk x ∧ ∀ y ∈ l, y.Source ≠ x.Source) := by
     rw [k4]
     unfold rp
     simp only [Bool.or_eq_true, Bool.not_eq_true', decide_eq_false_iff_not, Bool.and_eq_true, decide_eq_true_eq, fcheckReport_iff]
     by_cases hx : RepOk x <;> simp [hx]
   refine wp_if hb (fun h => ?_) (fun h => ?_)
   · rw [if_neg h]; exact wp_some rfl
   · rw [if_pos (Classical.byContradiction h)]
     refine wp_ifd (fun h60 => ?_) (fun h60 => ?_)
     · rw [if_pos (by omega)]; exact wp_some rfl
     · rw [if_neg (by omega), k5]
       refine wp_bindE (clone_rep R.len) ?_
       unfold slices_Insert_Report
       refine wp_bindE (v := l.take k ++ [x] ++ l.drop k) ?_ (wp_some rfl)
       rw [must_yes (by omega), must_yes (by have := R.len; unfold room; omega), Int.toNat_natCast]
 · rw [if_neg R]
   refine wp_bindE (fcheck_bad R) (wp_ifn (fun _ => wp_some rfl) (fun h => by omega))
def insAt (l : List Report) (x : Report) (k i : Nat) : List Report := if k < i then l.take k ++ [x] ++ (l.drop k).take (i - k) else l.take i
theorem insAt_len (l : List Report) (x : Report) (k i : Nat) : (insAt l x k i).length ≤ l.length + 1 := by
 unfold insAt
 split <;> simp <;> omega
theorem insAt_lt {l : List Report} {x : Report} {k i : Nat} (hi : i < l.length) (h : i < k) : insAt l x k i ++ [l.getD i default] = insAt l x k (i + 1) := by
 unfold insAt
 rw [if_neg (by omega), if_neg (by omega), take_getD hi]
theorem insAt_eq {l : List Report} {x : Report} {i : Nat} (hi : i < l.length) : (insAt l x i i ++ [x]) ++ [l.getD i default] = insAt l x i (i + 1) := by
 unfold insAt
 rw [if_neg (by omega), if_pos (by omega), show i + 1 - i = 0 + 1 by omega, take_getD (by simp; omega), getD_drop]
 simp
theorem insAt_gt {l : List Report} {x : Report} {k i : Nat} (hi : i < l.length) (h : k < i) : insAt l x k i ++ [l.getD i default] = insAt l x k (i + 1) := by
 unfold insAt
 rw [if_pos h, if_pos (by omega), show i + 1 - k = (i - k) + 1 by omega, take_getD (l := l.drop k) (by simp; omega), getD_drop, show k + (i - k) = i by omega]
 simp
theorem rAdd_eq {fuel : Nat} (l : List Report) (x : Report) (hf : 61 < fuel) : gasolierref05_Add fuel l x = some (addR l x) := by
 unfold gasolierref05_Add
 refine Wp.eq ?_
 by_cases R : RepsOk l
 rotate_left
 · refine wp_bindE (rcheck_bad hf R) (wp_ifn (fun _ => wp_some (addR_51 R).symm) (fun h => by omega))
 refine wp_bindE (rcheck_ok hf R) (wp_ifn (fun h => absurd rfl h) (fun _ => ?_))
 rw [rcheckReport_eq]
 refine wp_ifn (fun h => wp_some (addR_50 R (fun q => h (fcheckReport_iff.2 q.1))).symm) (fun h => ?_)
 have X := fcheckReport_iff.1 h
 obtain ⟨k, k1, k2, k3, k4, k5⟩ := split_rep R x
 have hl := R.len
 refine wp_loop (fun s => ∃ i : Nat, s = (decide (k < i), (i : Int), insAt l x k i) ∧ i ≤ l.length ∧ ∀ j, j < i → (rp l j).Source ≠ x.Source) (fun s => l.length - s.2.1.toNat) (by simp; omega) ⟨0, by simp [insAt], by omega, fun j hj => by omega⟩ ?_
 rintro _ K ⟨i, rfl, hi, hne⟩ hK
 simp only [Int.toNat_natCast] at hK ⊢
 refine wp_ifd (fun hlt => ?_) (fun hge => ?_)
 · have hi' : i < l.length := by omega
   refine wp_must (by omega) (wp_ifd (fun he => wp_some (addR_50 R (fun q => q.2 _ (getD_mem hi') he)).symm) (fun he => ?_))
   have next : ∀ done : Bool, ∀ out : List Report, done = decide (k < i + 1) → out ++ [l.getD i default] = insAt l x k (i + 1) → out.length ≤ 61 →
       Wp (must (0 ≤ (i : Int) ∧ (i : Int) < ((l.length : Nat) : Int)) <| must (room (out ++ ([l.getD i default] : List Report)).length 72) <| must (inI ((i : Int) + 1)) <| K (done, (i : Int) + 1, out ++ ([l.getD i default] : List Report))) (· = addR l x) := fun done out h1 h2 h3 => by
     refine wp_must (by omega) (wp_mustR (by rw [List.length_append, List.length_singleton]; omega) (wp_mustI (by omega) ?_))
     rw [h1, h2]
     exact hK _ ⟨i + 1, rfl, by omega, fun j hj => by
       rcases Nat.lt_or_ge j i with q | q
       · exact hne j q
       · have : j = i := by omega
         rw [this]; exact he⟩ (by simp only; omega)
   have hlen := insAt_len l x k i
   refine wp_must (fun _ => by omega) (wp_joinU ?_)
   rcases Nat.lt_trichotomy i k with hik | hik | hik
   · have q : (l.getD i default).Source < x.Source := k2 i hik
     refine wp_false (Bool.and_eq_false_iff.2 (.inr (decide_eq_false (by omega)))) ?_
     exact next _ _ (decide_eq_decide.2 (by omega)) (insAt_lt hi' hik) (by simp only; omega)
   · subst hik
     have q : ¬ (l.getD i default).Source < x.Source := k3 i (Nat.le_refl _) hi'
     refine wp_true (by rw [decide_eq_false (show ¬ i < i by omega), decide_eq_true (show x.Source < (l.getD i default).Source by omega)]; rfl) (wp_mustR (by rw [List.length_append, List.length_singleton]; omega) ?_)
     refine next _ _ (decide_eq_true (by omega)).symm (insAt_eq hi') ?_
     have : (insAt l x i i).length ≤ 60 := by unfold insAt; rw [if_neg (by omega), List.length_take]; omega
     rw [List.length_append, List.length_singleton]; omega
   · refine wp_false (Bool.and_eq_false_iff.2 (.inl (by rw [decide_eq_true hik]; rfl))) ?_
     exact next _ _ (decide_eq_decide.2 (by omega)) (insAt_gt hi' hik) (by simp only; omega)
 · have ei : i = l.length := by omega
   subst ei
   have hf2 : ∀ y ∈ l, y.Source ≠ x.Source := fun y hy => by
     obtain ⟨j, hj, rfl⟩ := mem_getD hy
     exact hne j hj
   refine wp_joinU ?_
   have fin : ∀ out : List Report, out = l.take k ++ [x] ++ l.drop k → Wp (bif (decide (60 < ((out.length : Nat) : Int))) then some ([], 2) else some (out, 0)) (· = addR l x) := fun out ho => by
     have : out.length = l.length + 1 := by rw [ho]; simp; omega
     refine wp_ifd (fun q => ?_) (fun q => ?_)
     · rw [addR_2 R ⟨X, hf2⟩ (by omega)]; exact wp_some rfl
     · rw [addR_0 R ⟨X, hf2⟩ (by omega), ho, k5]; exact wp_some rfl
   have hlen := insAt_len l x k l.length
   rcases Nat.lt_or_ge k l.length with hk | hk
   · refine wp_false (by rw [decide_eq_true hk]; rfl) (fin _ ?_)
     unfold insAt
     rw [if_pos hk, List.take_of_length_le (l := l.drop k) (by simp)]
   · have : k = l.length := by omega
     subst this
     refine wp_true (by rw [decide_eq_false (by omega)]; rfl) (wp_mustR (by rw [List.length_append, List.length_singleton]; omega) (fin _ ?_))
     unfold insAt
     rw [if_neg (by omega)]
     simp
open Classical in
noncomputable def countR (l : List Report) (m : Int) : List Int × Int := if RepsOk l then (if fog_isMoment m = true then ((l.filter (fun x => fog_counts x m)).map (·.Source), 0) else ([], 6)) else ([], 51)
theorem count_step {l : List Report} {m : Int} {i : Nat} (hi : i < l.length) : ((l.take (i + 1)).filter (fun x => fog_counts x m)).map (·.Source) = ((l.take i).filter (fun x => fog_counts x m)).map (·.Source) ++ (if fog_counts (l.getD i default) m = true then [(l.getD i default).Source] else []) := by
 rw [take_getD hi, List.filter_append, List.map_append]
 simp only [List.filter_cons, List.filter_nil]
 split <;> simp
theorem fCounting_eq (l : List Report) (m : Int) : fog_Counting l m = some (countR l m) := by
 unfold fog_Counting countR
 refine Wp.eq ?_
 by_cases R : RepsOk l
 rotate_left
 · rw [if_neg R]; exact wp_bindE (fcheck_bad R) (wp_ifn (fun _ => wp_some rfl) (fun h => by omega))
 rw [if_pos R]
 refine wp_bindE (fcheck_ok R) (wp_ifn (fun h => absurd rfl h) (fun _ => ?_))
 cases hm : fog_isMoment m
 · exact wp_some rfl
 rw [if_pos rfl]
 have hl := R.len
 refine wp_range (fun i s => s = ((l.take i).filter (fun x => fog_counts x m)).map (·.Source)) (by simp) (fun i s K hi hI hK => ?_) (fun s hI => wp_some ?_)
 · have hlen : s.length ≤ 60 := by
     rw [hI, List.length_map]; exact Nat.le_trans (List.length_filter_le _ _) (by simp; omega)
   refine wp_bif (fun hb => wp_mustR (by simp; omega) (hK _ ?_)) (fun hb => hK _ ?_)
   · rw [count_step hi, if_pos hb, hI]
   · rw [count_step hi, if_neg (by rw [hb]; simp), hI, List.append_nil]
 · rw [hI, List.take_of_length_le (by omega)]
theorem rCounting_eq {fuel : Nat} (l : List Report) (m : Int) (hf : 61 < fuel) : gasolierref05_Counting fuel l m = some (countR l m) := by
 unfold gasolierref05_Counting countR
 refine Wp.eq ?_
 by_cases R : RepsOk l
 rotate_left
 · rw [if_neg R]; exact wp_bindE (rcheck_bad hf R) (wp_ifn (fun _ => wp_some rfl) (fun h => by omega))
 rw [if_pos R]
 refine wp_bindE (rcheck_ok hf R) (wp_ifn (fun h => absurd rfl h) (fun _ => ?_))
 have e0 : gasolierref05_isMoment m = fog_isMoment m := rfl
 rw [e0]
 cases hm : fog_isMoment m
 · exact wp_some rfl
 rw [if_pos rfl]
 have hl := R.len
 refine wp_false (by simp) ?_
 refine wp_for l.length (by omega) (fun i s => s = ((l.take i).filter (fun x => fog_counts x m)).map (·.Source)) (by simp) (fun i s K hi hI hK => ?_)
 simp only at hK ⊢
 refine wp_ifd (fun hlt => ?_) (fun hge => wp_some ?_)
 · have hi' : i < l.length := by omega
   have hlen : s.length ≤ 60 := by
     rw [hI, List.length_map]; exact Nat.le_trans (List.length_filter_le _ _) (by simp; omega)
   refine wp_must (by omega) ?_
   simp only [Int.toNat_natCast]
   have e1 : gasolierref05_counts (l.getD i default) m = fog_counts (l.getD i default) m := rfl
   rw [e1]
   refine wp_bif (fun hb => wp_must (by omega) (wp_mustR (by simp; omega) (wp_mustI (by omega) (hK _ hi' ?_)))) (fun hb => wp_mustI (by omega) (hK _ hi' ?_))
   · rw [count_step hi', if_pos hb, hI]
   · rw [count_step hi', if_neg (by rw [hb]; simp), hI, List.append_nil]
 · rw [hI, List.take_of_length_le (by omega)]
theorem sameReports_self {fuel : Nat} (a : List Report) (hf : a.length < fuel) (hl : a.length < 9223372036854775807) : gasolierref05_SameReports fuel a a = some true := by
 unfold gasolierref05_SameReports
 refine Wp.eq (wp_ifn (fun h => absurd rfl h) (fun _ => ?_))
 refine wp_for1 a.length hf (fun i => True) trivial (fun i K hi _ hK => ?_)
 refine wp_ifd (fun hlt => ?_) (fun hge => wp_some rfl)
 refine wp_must (by omega) (wp_must (by omega) (wp_false (by simp) (wp_mustI (by omega) (hK (by omega) trivial))))
theorem addR_len (l : List Report) (x : Report) : (addR l x).1.length ≤ 61 := by
 unfold addR
 split
 · rename_i R
   split
   · split
     · simp
     · rw [insK_len]; have := R.len; omega
   · simp
 · simp
theorem countR_len (l : List Report) (m : Int) : (countR l m).1.length ≤ 60 := by
 unfold countR
 split
 · rename_i R
   split
   · rw [List.length_map]; exact Nat.le_trans (List.length_filter_le _ _) R.len
   · simp
 · simp
theorem fogReports_true (l : List Report) (x : Report) (m : Int) : gasolierlaw05_FogReports 20000 l x m = some true := by
 unfold gasolierlaw05_FogReports
 refine Wp.eq ?_
 have h1 := addR_len l x
 have h2 := countR_len l m
 refine wp_bindE (fAdd_eq l x (by omega)) (wp_bindE (rAdd_eq l x (by omega)) (wp_bindE (fCounting_eq l m) (wp_bindE (rCounting_eq l m (by omega)) ?_)))
 refine wp_bindE (sameReports_self _ (by omega) (by omega)) ?_
 refine wp_onE (by simp) (same_eq _ _ (by omega) (by omega)) ?_
 rw [rcheckReport_eq]
 by_cases R : RepsOk l
 · refine wp_onE (by simp) (fcheck_ok R) (wp_onE (by simp) (rcheck_ok (by omega) R) (wp_onE (by simp) sane_ok (wp_some (by simp))))
 · refine wp_onE (by simp) (fcheck_bad R) (wp_onE (by simp) (rcheck_bad (by omega) R) (wp_onE (by simp) sane_ok (wp_some (by simp))))
end Go.Sp
end
