/- Texts of the framework, or of the plain law, one behind another. -/
import Derived.Test.YtobffjoapdhioaaFr1
import Derived.Test.YtobffjoapdhioaaFr4
import Derived.KernelRfl
/- Rules for plain laws: what a printed definition yields. No program in sight. -/
section
set_option linter.all false
namespace Go.Sp
open Go.Av
def Wp {R : Type} (x : Option R) (P : R → Prop) : Prop := ∃ r, x = some r ∧ P r
theorem Wp.eq {R : Type} {x : Option R} {v : R} (h : Wp x (· = v)) : x = some v := by
 obtain ⟨r, h1, h2⟩ := h; rw [h1, h2]
theorem Wp.of_eq {R : Type} {x : Option R} {v : R} {P : R → Prop} (h : x = some v) (hp : P v) : Wp x P := ⟨v, h, hp⟩
theorem Wp.mono {R : Type} {x : Option R} {P Q : R → Prop} (h : Wp x P) (hp : ∀ r, P r → Q r) : Wp x Q := by
 obtain ⟨r, h1, h2⟩ := h; exact ⟨r, h1, hp r h2⟩
theorem wp_some {R : Type} {r : R} {P : R → Prop} (h : P r) : Wp (some r) P := ⟨r, rfl, h⟩
theorem wp_must {R : Type} {c : Prop} [Decidable c] {x : Option R} {P : R → Prop} (h : c) (k : Wp x P) : Wp (must c x) P := by
 unfold must; rw [if_pos h]; exact k
theorem wp_bind {S R : Type} {x : Option S} {k : S → Option R} {P : R → Prop} {Q : S → Prop} (h : Wp x Q) (hk : ∀ s, Q s → Wp (k s) P) : Wp (bindO x k) P := by
 obtain ⟨r, h1, h2⟩ := h; rw [h1]; exact hk r h2
theorem wp_bindE {S R : Type} {x : Option S} {k : S → Option R} {P : R → Prop} {v : S} (h : x = some v) (hk : Wp (k v) P) : Wp (bindO x k) P := by
 rw [h]; exact hk
theorem wp_bif {R : Type} {b : Bool} {x y : Option R} {P : R → Prop} (h1 : b = true → Wp x P) (h2 : b = false → Wp y P) : Wp (bif b then x else y) P := by
 cases b
 · exact h2 rfl
 · exact h1 rfl
theorem wp_if {R : Type} {p : Prop} {b : Bool} {x y : Option R} {P : R → Prop} (hb : b = true ↔ p) (h1 : p → Wp x P) (h2 : ¬ p → Wp y P) : Wp (bif b then x else y) P :=
 wp_bif (fun h => h1 (hb.1 h)) (fun h => h2 (fun hp => by rw [hb.2 hp] at h; cases h))
theorem wp_ifd {R : Type} {p : Prop} [Decidable p] {x y : Option R} {P : R → Prop} (h1 : p → Wp x P) (h2 : ¬ p → Wp y P) : Wp (bif (decide p) then x else y) P :=
 wp_if (decide_eq_true_iff) h1 h2
theorem wp_ifn {R : Type} {p : Prop} [Decidable p] {x y : Option R} {P : R → Prop} (h1 : ¬ p → Wp x P) (h2 : p → Wp y P) : Wp (bif (!decide p) then x else y) P :=
 wp_bif (fun h => h1 (by simpa using h)) (fun h => h2 (by simpa using h))
theorem wp_true {R : Type} {b : Bool} {x y : Option R} {P : R → Prop} (h : b = true) (h1 : Wp x P) : Wp (bif b then x else y) P := by rw [h]; exact h1
theorem wp_false {R : Type} {b : Bool} {x y : Option R} {P : R → Prop} (h : b = false) (h1 : Wp y P) : Wp (bif b then x else y) P := by rw [h]; exact h1
theorem wp_join {S R : Type} {f : (S → Option R) → Option R} {k : S → Option R} {P : R → Prop} (G : S → Prop) (hf : ∀ K : S → Option R, (∀ s, G s → Wp (K s) P) → Wp (f K) P) (hk : ∀ s, G s → Wp (k s) P) : Wp (joinK f k) P := hf k hk
theorem wp_joinU {S R : Type} {f : (S → Option R) → Option R} {k : S → Option R} {P : R → Prop} (h : Wp (f k) P) : Wp (joinK f k) P := h
theorem wp_range {S R : Type} {body : Nat → S → (S → Option R) → Option R} {ex : S → Option R} {n : Nat} {s0 : S} {P : R → Prop} (Inv : Nat → S → Prop) (h0 : Inv 0 s0)
   (hb : ∀ (i : Nat) s (K : S → Option R), i < n → Inv i s → (∀ s', Inv (i + 1) s' → Wp (K s') P) → Wp (body i s K) P) (he : ∀ s, Inv n s → Wp (ex s) P) : Wp (rangeGo body ex n 0 s0) P := by
 have go : ∀ (m i : Nat), i + m = n → ∀ s, Inv i s → Wp (rangeGo body ex m i s) P := by
   intro m
   induction m with
   | zero => intro i hi s hs; have e : i = n := (by omega); subst e; exact he s hs
   | succ m ih => intro i hi s hs; exact hb i s _ (by omega) hs (fun s' h' => ih (i + 1) (by omega) s' h')
 exact go n 0 (by omega) s0 h0
theorem wp_loop {S R : Type} {body : S → (S → Option R) → Option R} {fuel : Nat} {s0 : S} {P : R → Prop} (Inv : S → Prop) (μ : S → Nat) (hf : μ s0 < fuel) (h0 : Inv s0)
   (hb : ∀ s (K : S → Option R), Inv s → (∀ s', Inv s' → μ s' < μ s → Wp (K s') P) → Wp (body s K) P) : Wp (loopGo body fuel s0) P := by
 have go : ∀ (f : Nat) s, Inv s → μ s < f → Wp (loopGo body f s) P := by
   intro f
   induction f with
   | zero => intro s _ h; omega
   | succ f ih => intro s hs hm; exact hb s _ hs (fun s' h' hl => ih s' h' (by omega))
 exact go fuel s0 h0 hf
theorem wp_for {S R : Type} {body : (Int × S) → ((Int × S) → Option R) → Option R} {fuel : Nat} {s0 : S} {P : R → Prop} (n : Nat) (hf : n < fuel) (Inv : Nat → S → Prop) (h0 : Inv 0 s0)
   (hb : ∀ (i : Nat) s (K : (Int × S) → Option R), i ≤ n → Inv i s → (∀ s', i < n → Inv (i + 1) s' → Wp (K ((i : Int) + 1, s')) P) → Wp (body ((i : Int), s) K) P) : Wp (loopGo body fuel (0, s0)) P := by
 have go : ∀ (f i : Nat) s, i ≤ n → n - i < f → Inv i s → Wp (loopGo body f ((i : Int), s)) P := by
   intro f
   induction f with
   | zero => intro i s _ h; omega
   | succ f ih => intro i s hi hm hs; exact hb i s _ hi hs (fun s' hl h' => ih (i + 1) s' (by omega) (by omega) h')
 exact go fuel 0 s0 (by omega) (by omega) h0
theorem wp_list {A S R : Type} {body : A → S → (S → Option R) → Option R} {ex : S → Option R} {l : List A} {s0 : S} {P : R → Prop} (Inv : List A → List A → S → Prop) (h0 : Inv [] l s0)
   (hb : ∀ (a : List A) x b s (K : S → Option R), a ++ x :: b = l → Inv a (x :: b) s → (∀ s', Inv (a ++ [x]) b s' → Wp (K s') P) → Wp (body x s K) P) (he : ∀ s, Inv l [] s → Wp (ex s) P) : Wp (listGo body ex l s0) P := by
 have go : ∀ (b a : List A), a ++ b = l → ∀ s, Inv a b s → Wp (listGo body ex b s) P := by
   intro b
   induction b with
   | nil => intro a ha s hs; rw [List.append_nil] at ha; subst ha; exact he s hs
   | cons x b ih => intro a ha s hs; exact hb a x b s _ ha hs (fun s' h' => ih (a ++ [x]) (by rw [List.append_assoc]; exact ha) s' h')
 exact go l [] rfl s0 h0
theorem wp_emit {A : Type} {W : Bool} {x : A} {r : Option (List A)} {P : List A → Prop} (h : Wp r (fun l => P (bif W then x :: l else l))) : Wp (emitIf W x r) P := by
 obtain ⟨l, h1, h2⟩ := h
 rw [h1]
 cases W
 · exact ⟨l, rfl, h2⟩
 · exact ⟨x :: l, rfl, h2⟩
end Go.Sp
end
/- More rules for plain laws. No program in sight. -/
section
set_option linter.all false
namespace Go.Sp
open Go.Av
theorem wp_mustI {R : Type} {n : Int} {x : Option R} {P : R → Prop} (h : -9223372036854775808 ≤ n ∧ n ≤ 9223372036854775807) (k : Wp x P) : Wp (must (inI n) x) P := wp_must h k
theorem wp_mustR {R : Type} {n b : Nat} {x : Option R} {P : R → Prop} (h : n * b ≤ 140737488355328 ∧ n ≤ 9223372036854775807) (k : Wp x P) : Wp (must (room n b) x) P := wp_must h k
end Go.Sp
end
/- Rules for plain laws, more of them. No program in sight. -/
section
set_option linter.all false
namespace Go.Sp
open Go.Av
theorem wp_forall {R : Type} {body : Nat → Unit → (Unit → Option R) → Option R} {ex : Unit → Option R} {n : Nat} {P : R → Prop} (good : Nat → Prop)
   (hb : ∀ (i : Nat) (K : Option R), i < n → (∀ j, j < i → good j) → (good i → Wp K P) → Wp (body i () (fun _ => K)) P) (he : (∀ j, j < n → good j) → Wp (ex ()) P) : Wp (rangeGo body ex n 0 ()) P := by
 refine wp_range (fun i _ => ∀ j, j < i → good j) (fun j hj => by omega) (fun i s K hi hI hK => ?_) (fun s hs => he hs)
 have e : K = fun _ => K () := funext fun u => rfl
 rw [e]
 exact hb i (K ()) hi hI (fun g => hK () (fun j hj => by
   by_cases e : j = i
   · rw [e]; exact g
   · exact hI j (by omega)))
theorem wp_onE {S R : Type} {W : Bool} {x y : Option S} {k : S → Option R} {P : R → Prop} {v : S} (hW : W = true) (h : x = some v) (hk : Wp (k v) P) : Wp (bindO (bif W then x else y) k) P := by
 subst hW; rw [h]; exact hk
theorem wp_offE {S R : Type} {W : Bool} {x y : Option S} {k : S → Option R} {P : R → Prop} {v : S} (hW : W = false) (h : y = some v) (hk : Wp (k v) P) : Wp (bindO (bif W then x else y) k) P := by
 subst hW; rw [h]; exact hk
theorem must_yes {R : Type} {c : Prop} [Decidable c] (h : c) (x : Option R) : must c x = x := if_pos h
theorem getD_snoc {T : Type} (l : List T) (x d : T) (i : Nat) : (l ++ [x]).getD i d = if i = l.length then x else l.getD i d := by
 simp only [List.getD_eq_getElem?_getD]
 rcases Nat.lt_trichotomy i l.length with h | h | h
 · rw [List.getElem?_append_left h, if_neg (by omega)]
 · subst h; simp
 · rw [if_neg (by omega), List.getElem?_eq_none (by simp; omega), List.getElem?_eq_none (by omega)]
end Go.Sp
end
/- Plain laws, TopMoon: fractions. No program in sight. -/
section
set_option linter.all false
namespace Go.Sp
open Go.Av
set_option maxRecDepth 100000
theorem mul_bd {a b A B : Int} (h1 : -A ≤ a) (h2 : a ≤ A) (h3 : 0 ≤ b) (h4 : b ≤ B) : -(A * B) ≤ a * b ∧ a * b ≤ A * B := by
 have hA : 0 ≤ A := by omega
 have e1 : A * b ≤ A * B := Int.mul_le_mul_of_nonneg_left h4 hA
 have e2 : a * b ≤ A * b := Int.mul_le_mul_of_nonneg_right h2 h3
 have e3 : (-A) * b ≤ a * b := Int.mul_le_mul_of_nonneg_right h1 h3
 have e4 : (-A) * b = -(A * b) := Int.neg_mul ..
 omega
structure Fok (x : Frac) : Prop where
 d : 0 < x.Den ∧ x.Den ≤ 20000000
 n : -(600 * x.Den) ≤ x.Num ∧ x.Num ≤ 600 * x.Den
theorem Fok.cross {x y : Frac} (hx : Fok x) (hy : Fok y) : -9223372036854775808 ≤ x.Num * y.Den ∧ x.Num * y.Den ≤ 9223372036854775807 := by
 have h1 := hx.d; have h2 := hx.n; have h3 := hy.d
 have := mul_bd (a := x.Num) (b := y.Den) (A := 12000000000) (B := 20000000) (by omega) (by omega) (by omega) (by omega)
 omega
def Sh (f : Frac) (n d : Int) : Prop := ∃ g : Int, 0 < g ∧ n = g * f.Num ∧ d = g * f.Den
theorem gcd_wp {F : Nat} {a b : Int} (ha : -9000000000000000000 ≤ a ∧ a ≤ 9000000000000000000) (hb : 0 < b ∧ b ≤ 9000000000000000000) (hF : b.natAbs < F) : Wp (moon_gcd F a b) (fun g => 0 < g ∧ g ∣ a ∧ g ∣ b) := by
 unfold moon_gcd
 refine wp_loop (fun s => (∀ g : Int, g ∣ s.1 → g ∣ s.2 → g ∣ a ∧ g ∣ b) ∧ (s.1 ≠ 0 ∨ s.2 ≠ 0) ∧ (-9000000000000000000 ≤ s.1 ∧ s.1 ≤ 9000000000000000000) ∧ (-9000000000000000000 ≤ s.2 ∧ s.2 ≤ 9000000000000000000)) (fun s => s.2.natAbs) hF ⟨fun g h1 h2 => ⟨h1, h2⟩, .inr (by omega), ha, by omega⟩ (fun s K hI hK => ?_)
 obtain ⟨x, y⟩ := s
 obtain ⟨h1, h2, h3, h4⟩ := hI
 dsimp only at h1 h2 h3 h4 hK ⊢
 refine wp_ifn (fun h => ?_) (fun h => ?_)
 · have hm := Int.tmod_lt_of_pos x (b := y)
   have e := Int.mul_tdiv_add_tmod x y
   have hab : (Int.tmod x y).natAbs < y.natAbs := by
     rw [Int.natAbs_tmod]; exact Nat.mod_lt _ (by omega)
   refine wp_must h (hK _ ⟨fun g q1 q2 => h1 g ?_ q1, .inl h, h4, by omega⟩ hab)
   rw [← e]
   exact Int.dvd_add (Int.dvd_trans q1 ⟨_, rfl⟩) q2
 · subst h
   refine wp_mustI (by omega) (wp_some ?_)
   have hx : x ≠ 0 := by omega
   have : max x (0 - x) = x.natAbs := by omega
   rw [this]
   refine ⟨by omega, h1 _ ?_ (Int.dvd_zero _)⟩
   exact Int.natAbs_dvd.2 (Int.dvd_refl x)
theorem least_wp {F : Nat} {n d : Int} (hn : -9000000000000000000 ≤ n ∧ n ≤ 9000000000000000000) (hd : 0 < d ∧ d ≤ 9000000000000000000) (hF : d.natAbs < F) : Wp (moon_least F n d) (fun f => Sh f n d) := by
 unfold moon_least
 refine wp_bind (gcd_wp hn hd hF) (fun g hg => ?_)
 obtain ⟨h0, ⟨p, rfl⟩, ⟨q, rfl⟩⟩ := hg
 have ep : Int.tdiv (g * p) g = p := Int.mul_tdiv_cancel_left p (by omega)
 have eq : Int.tdiv (g * q) g = q := Int.mul_tdiv_cancel_left q (by omega)
 have bd : ∀ z : Int, -9000000000000000000 ≤ g * z → g * z ≤ 9000000000000000000 → inI z := fun z h1 h2 => by
   have e : (g * z).natAbs = g.natAbs * z.natAbs := Int.natAbs_mul g z
   have : z.natAbs ≤ g.natAbs * z.natAbs := Nat.le_mul_of_pos_left _ (by omega)
   unfold inI; omega
 rw [ep, eq]
 exact wp_must ⟨by omega, bd p hn.1 hn.2⟩ (wp_must ⟨by omega, bd q (by omega) hd.2⟩ (wp_some ⟨g, h0, rfl, rfl⟩))
theorem Sh.den {f : Frac} {n d : Int} (H : Sh f n d) (hd : 0 < d) : 0 < f.Den ∧ f.Den ≤ d := by
 obtain ⟨g, h0, _, rfl⟩ := H
 have : 0 < f.Den := by
   rcases Int.lt_trichotomy f.Den 0 with h | h | h
   · have := Int.mul_neg_of_pos_of_neg h0 h; omega
   · rw [h] at hd; omega
   · exact h
 refine ⟨this, ?_⟩
 have : 1 * f.Den ≤ g * f.Den := Int.mul_le_mul_of_nonneg_right (by omega) (by omega)
 omega
theorem Sh.num {f : Frac} {n d c : Int} (H : Sh f n d) (h1 : -(c * d) ≤ n) (h2 : n ≤ c * d) : -(c * f.Den) ≤ f.Num ∧ f.Num ≤ c * f.Den := by
 obtain ⟨g, h0, rfl, rfl⟩ := H
 have e : c * (g * f.Den) = g * (c * f.Den) := by rw [← Int.mul_assoc, Int.mul_comm c g, Int.mul_assoc]
 rw [e] at h1 h2
 rw [← Int.mul_neg] at h1
 exact ⟨Int.le_of_mul_le_mul_left h1 h0, Int.le_of_mul_le_mul_left h2 h0⟩
theorem Sh.ok {f : Frac} {n d : Int} (H : Sh f n d) (hd : 0 < d ∧ d ≤ 20000000) (h1 : -(600 * d) ≤ n) (h2 : n ≤ 600 * d) : Fok f := by
 have := H.den hd.1
 exact ⟨by omega, H.num h1 h2⟩
theorem reduced_wp {F : Nat} {x : Frac} (hx : Fok x) (hF : 20000000 < F) : Wp (moon_reduced F x) (fun f => Sh f x.Num x.Den ∧ Fok f) := by
 unfold moon_reduced
 have h1 := hx.d; have h2 := hx.n
 exact wp_bind (least_wp (by omega) (by omega) (by omega)) (fun f hf => wp_some ⟨hf, hf.ok h1 h2.1 h2.2⟩)
def ltF (x y : Frac) : Prop := x.Num * y.Den < y.Num * x.Den
def leF (x y : Frac) : Prop := x.Num * y.Den ≤ y.Num * x.Den
instance (x y : Frac) : Decidable (ltF x y) := inferInstanceAs (Decidable (_ < _))
theorem not_lt {x y : Frac} : ¬ ltF x y ↔ leF y x := by unfold ltF leF; omega
theorem ltF.le {x y : Frac} (h : ltF x y) : leF x y := by unfold ltF at h; unfold leF; omega
theorem cross_le {a b c d e f : Int} (hd : 0 < d) (hb : 0 < b) (hf : 0 < f) (h1 : a * d ≤ c * b) (h2 : c * f ≤ e * d) : a * f ≤ e * b := by
 have q1 : a * d * f ≤ c * b * f := Int.mul_le_mul_of_nonneg_right h1 (by omega)
 have q2 : c * f * b ≤ e * d * b := Int.mul_le_mul_of_nonneg_right h2 (by omega)
 have e1 : a * d * f = a * f * d := by rw [Int.mul_assoc, Int.mul_comm d f, ← Int.mul_assoc]
 have e2 : c * b * f = c * f * b := by rw [Int.mul_assoc, Int.mul_comm b f, ← Int.mul_assoc]
 have e3 : e * d * b = e * b * d := by rw [Int.mul_assoc, Int.mul_comm d b, ← Int.mul_assoc]
 exact Int.le_of_mul_le_mul_right (by omega : a * f * d ≤ e * b * d) hd
theorem cross_lt1 {a b c d e f : Int} (hd : 0 < d) (hb : 0 < b) (hf : 0 < f) (h1 : a * d < c * b) (h2 : c * f ≤ e * d) : a * f < e * b := by
 have q1 : a * d * f < c * b * f := Int.mul_lt_mul_of_pos_right h1 hf
 have q2 : c * f * b ≤ e * d * b := Int.mul_le_mul_of_nonneg_right h2 (by omega)
 have e1 : a * d * f = a * f * d := by rw [Int.mul_assoc, Int.mul_comm d f, ← Int.mul_assoc]
 have e2 : c * b * f = c * f * b := by rw [Int.mul_assoc, Int.mul_comm b f, ← Int.mul_assoc]
 have e3 : e * d * b = e * b * d := by rw [Int.mul_assoc, Int.mul_comm d b, ← Int.mul_assoc]
 exact Int.lt_of_mul_lt_mul_right (by omega : a * f * d < e * b * d) (by omega)
theorem cross_lt2 {a b c d e f : Int} (hd : 0 < d) (hb : 0 < b) (hf : 0 < f) (h1 : a * d ≤ c * b) (h2 : c * f < e * d) : a * f < e * b := by
 have q1 : a * d * f ≤ c * b * f := Int.mul_le_mul_of_nonneg_right h1 (by omega)
 have q2 : c * f * b < e * d * b := Int.mul_lt_mul_of_pos_right h2 hb
 have e1 : a * d * f = a * f * d := by rw [Int.mul_assoc, Int.mul_comm d f, ← Int.mul_assoc]
 have e2 : c * b * f = c * f * b := by rw [Int.mul_assoc, Int.mul_comm b f, ← Int.mul_assoc]
 have e3 : e * d * b = e * b * d := by rw [Int.mul_assoc, Int.mul_comm d b, ← Int.mul_assoc]
 exact Int.lt_of_mul_lt_mul_right (by omega : a * f * d < e * b * d) (by omega)
theorem leF.trans {x y z : Frac} (hx : Fok x) (hy : Fok y) (hz : Fok z) (h1 : leF x y) (h2 : leF y z) : leF x z := cross_le hy.d.1 hx.d.1 hz.d.1 h1 h2
theorem ltF.trans_le {x y z : Frac} (hx : Fok x) (hy : Fok y) (hz : Fok z) (h1 : ltF x y) (h2 : leF y z) : ltF x z := cross_lt1 hy.d.1 hx.d.1 hz.d.1 h1 h2
theorem leF.trans_lt {x y z : Frac} (hx : Fok x) (hy : Fok y) (hz : Fok z) (h1 : leF x y) (h2 : ltF y z) : ltF x z := cross_lt2 hy.d.1 hx.d.1 hz.d.1 h1 h2
theorem Sh.le {f : Frac} {n d : Int} (H : Sh f n d) : f.Num * d = n * f.Den := by
 obtain ⟨g, _, rfl, rfl⟩ := H
 rw [← Int.mul_assoc, Int.mul_comm f.Num g]
def cmF (x y : Frac) : Int := if x.Num * y.Den < y.Num * x.Den then -1 else if y.Num * x.Den < x.Num * y.Den then 1 else 0
theorem compare_eq {F : Nat} {x y : Frac} (hx : Fok x) (hy : Fok y) (hF : 20000000 < F) : moon_compare F x y = some (cmF x y) := by
 refine Wp.eq ?_
 unfold moon_compare
 refine wp_bind (reduced_wp hx hF) (fun p hp => wp_bind (reduced_wp hy hF) (fun q hq => ?_))
 have c1 := hx.cross hy; have c2 := hy.cross hx
 refine wp_if (p := p = q) ?_ (fun h => wp_some ?_) (fun _ => wp_mustI c1 (wp_mustI c2 (wp_some ?_)))
 · rw [Bool.and_eq_true, decide_eq_true_eq, decide_eq_true_eq]
   constructor
   · rintro ⟨a, b⟩; cases p; cases q; simp only at a b; rw [a, b]
   · rintro rfl; exact ⟨rfl, rfl⟩
 · subst h
   obtain ⟨⟨g1, _, a1, a2⟩, _⟩ := hp
   obtain ⟨⟨g2, _, b1, b2⟩, _⟩ := hq
   have : x.Num * y.Den = y.Num * x.Den := by
     rw [a1, a2, b1, b2]
     rw [Int.mul_assoc, Int.mul_assoc, Int.mul_left_comm p.Num g2, Int.mul_left_comm g1 g2, Int.mul_left_comm p.Num g1, Int.mul_comm p.Num p.Den]
   unfold cmF
   rw [if_neg (by omega), if_neg (by omega)]
 · unfold cmF cmp_Compare_int cmp_isNaN_int
   simp only [decide_true, Bool.not_true, cond_false]
   by_cases h1 : x.Num * y.Den < y.Num * x.Den
   · rw [if_pos h1, decide_eq_true h1]; rfl
   · rw [if_neg h1, decide_eq_false h1]
     by_cases h2 : y.Num * x.Den < x.Num * y.Den
     · rw [if_pos h2, decide_eq_true h2]; rfl
     · rw [if_neg h2, decide_eq_false h2]; rfl
theorem cm_pos {x y : Frac} : 0 < cmF x y ↔ ltF y x := by
 change (0 : Int) < (if ltF x y then -1 else if ltF y x then 1 else 0) ↔ _
 by_cases h1 : ltF x y
 · rw [if_pos h1]; exact ⟨fun h => absurd h (by decide), fun h => absurd h (not_lt.2 h1.le)⟩
 · rw [if_neg h1]
   by_cases h2 : ltF y x
   · rw [if_pos h2]; exact ⟨fun _ => h2, fun _ => by decide⟩
   · rw [if_neg h2]; exact ⟨fun h => absurd h (by decide), fun h => absurd h h2⟩
theorem cm_neg {x y : Frac} : cmF x y < 0 ↔ ltF x y := by
 change (if ltF x y then -1 else if ltF y x then 1 else 0 : Int) < 0 ↔ _
 by_cases h1 : ltF x y
 · rw [if_pos h1]; exact ⟨fun _ => h1, fun _ => by decide⟩
 · rw [if_neg h1]
   by_cases h2 : ltF y x
   · rw [if_pos h2]; exact ⟨fun h => absurd h (by decide), fun h => absurd h h1⟩
   · rw [if_neg h2]; exact ⟨fun h => absurd h (by decide), fun h => absurd h h1⟩
theorem cm_le {x y : Frac} : cmF x y ≤ 0 ↔ leF x y := by
 rw [← not_lt, ← cm_pos]; omega
theorem cm_ge {x y : Frac} : 0 ≤ cmF x y ↔ leF y x := by
 rw [← not_lt, ← cm_neg]; omega
end Go.Sp
end
/- Plain laws, TopMoon: heights, roofs, margins, edges. No program in sight. -/
section
set_option linter.all false
namespace Go.Sp
open Go.Av
set_option maxRecDepth 100000
abbrev rw' (s : Sheet) (i : Nat) : Row := s.Rows.getD i default
structure ShOk (s : Sheet) : Prop where
 src : s.Source = 1 ∧ s.Night = 5 ∧ s.Known = 0 ∧ s.Until = 0
 len : s.Rows.length = 6
 first : (rw' s 0).Minute = 0
 last : (rw' s 5).Minute = 1439
 mono : ∀ i, i < 5 → (rw' s i).Minute < (rw' s (i + 1)).Minute
 hgt : ∀ i, i < 6 → (rw' s i).Height.Den = 2 ∧ -60 ≤ (rw' s i).Height.Num ∧ (rw' s i).Height.Num ≤ 60
 brg : ∀ i, i < 6 → (rw' s i).Bearing.Den = 1 ∧ 0 ≤ (rw' s i).Bearing.Num ∧ (rw' s i).Bearing.Num ≤ 295
 bup : ∀ i, i < 5 → (rw' s i).Bearing.Num ≤ (rw' s (i + 1)).Bearing.Num
 off : s.Off.Den = 10 ∧ 0 ≤ s.Off.Num ∧ s.Off.Num < 60
 light : 0 ≤ s.Light.Lo ∧ s.Light.Lo < 500 ∧ s.Light.Lo ≤ s.Light.Hi ∧ s.Light.Hi < s.Light.Lo + 400
theorem ShOk.low {s : Sheet} (H : ShOk s) : ∀ i, i < 6 → 0 ≤ (rw' s i).Minute ∧ (rw' s i).Minute ≤ 1439 := by
 have a0 := H.first; have a5 := H.last
 have b0 : (rw' s 0).Minute < (rw' s 1).Minute := H.mono 0 (by omega); have b1 : (rw' s 1).Minute < (rw' s 2).Minute := H.mono 1 (by omega); have b2 : (rw' s 2).Minute < (rw' s 3).Minute := H.mono 2 (by omega); have b3 : (rw' s 3).Minute < (rw' s 4).Minute := H.mono 3 (by omega); have b4 : (rw' s 4).Minute < (rw' s 5).Minute := H.mono 4 (by omega)
 intro i hi
 have : i = 0 ∨ i = 1 ∨ i = 2 ∨ i = 3 ∨ i = 4 ∨ i = 5 := by omega
 rcases this with rfl | rfl | rfl | rfl | rfl | rfl <;> omega
structure RfOk (l : List Roof) : Prop where
 len : l.length ≤ 6
 roof : ∀ i, i < l.length → (0 ≤ (l.getD i default).From ∧ (l.getD i default).From < 300) ∧ ((l.getD i default).From < (l.getD i default).To ∧ (l.getD i default).To ≤ 360) ∧ (0 ≤ (l.getD i default).Top ∧ (l.getD i default).Top < 30)
theorem between2 {F : Nat} (hF : 20000000 < F) {h k : Frac} {p a : Int} (h1 : h.Den = 2 ∧ -60 ≤ h.Num ∧ h.Num ≤ 60) (k1 : k.Den = 2 ∧ -60 ≤ k.Num ∧ k.Num ≤ 60) (hp : 0 ≤ p ∧ p ≤ a) (ha : 0 < a ∧ a ≤ 1439) :
   Wp (moon_between F h k p a) (fun f => Fok f ∧ -(90 * f.Den) ≤ f.Num ∧ f.Num ≤ 90 * f.Den) := by
 unfold moon_between
 rw [h1.1, k1.1]
 have q1 := mul_bd (a := h.Num * 2) (b := a) (A := 120) (B := a) (by omega) (by omega) (by omega) (by omega)
 have q2 := mul_bd (a := k.Num * 2 - h.Num * 2) (b := p) (A := 240) (B := a) (by omega) (by omega) (by omega) (by omega)
 refine wp_mustI (by omega) (wp_mustI (by omega) (wp_mustI (by omega) (wp_mustI (by omega) (wp_mustI (by omega) (wp_mustI (by omega) (wp_mustI (by omega) (wp_mustI (by omega) (wp_mustI (by omega) ?_))))))))
 refine wp_bind (least_wp (by omega) (by omega) (by omega)) (fun f hf => wp_some ⟨hf.ok (by omega) (by omega) (by omega), hf.num (c := 90) (by omega) (by omega)⟩)
theorem between1 {F : Nat} (hF : 20000000 < F) {h k : Frac} {p a : Int} (h1 : h.Den = 1 ∧ 0 ≤ h.Num ∧ h.Num ≤ 295) (k1 : k.Den = 1 ∧ 0 ≤ k.Num ∧ k.Num ≤ 295) (hp : 0 ≤ p ∧ p ≤ a) (ha : 0 < a ∧ a ≤ 1439) :
   Wp (moon_between F h k p a) Fok := by
 unfold moon_between
 rw [h1.1, k1.1]
 have q1 := mul_bd (a := h.Num * 1) (b := a) (A := 295) (B := a) (by omega) (by omega) (by omega) (by omega)
 have q2 := mul_bd (a := k.Num * 1 - h.Num * 1) (b := p) (A := 295) (B := a) (by omega) (by omega) (by omega) (by omega)
 refine wp_mustI (by omega) (wp_mustI (by omega) (wp_mustI (by omega) (wp_mustI (by omega) (wp_mustI (by omega) (wp_mustI (by omega) (wp_mustI (by omega) (wp_mustI (by omega) (wp_mustI (by omega) ?_))))))))
 refine wp_bind (least_wp (by omega) (by omega) (by omega)) (fun f hf => wp_some (hf.ok (by omega) (by omega) (by omega)))
theorem at_wp {F : Nat} (hF : 20000000 < F) {s : Sheet} (H : ShOk s) {m : Int} (hm : 0 ≤ m ∧ m ≤ 1439) {g : Row → Frac} {P : Frac → Prop}
   (hg : ∀ i, i < 5 → ∀ p a : Int, 0 ≤ p ∧ p ≤ a → 0 < a ∧ a ≤ 1439 → Wp (moon_between F (g (rw' s i)) (g (rw' s (i + 1))) p a) P) : Wp (moon_at F s m (fun r => some (g r))) P := by
 unfold moon_at
 have hl := H.len
 refine wp_loop (fun i : Int => ∃ n : Nat, i = (n : Int) ∧ n < 5 ∧ (n = 0 ∨ (rw' s n).Minute < m)) (fun i => (5 - i).toNat) (by omega) ⟨0, rfl, by omega, .inl rfl⟩ (fun i K hI hK => ?_)
 obtain ⟨n, rfl, hn, hm1⟩ := hI
 have e : ((n : Int) + 1).toNat = n + 1 := by omega
 refine wp_mustI (by omega) (wp_must (by omega) ?_)
 rw [e, Int.toNat_natCast]
 refine wp_ifd (fun h => ?_) (fun h => ?_)
 · have h : (rw' s (n + 1)).Minute < m := h
   have : n + 1 < 5 := by
     rcases Nat.lt_or_ge (n + 1) 5 with q | q
     · exact q
     · have : n + 1 = 5 := by omega
       rw [this, H.last] at h; omega
   exact wp_mustI (by omega) (hK _ ⟨n + 1, by omega, this, .inr h⟩ (by omega))
 · have h : ¬ (rw' s (n + 1)).Minute < m := h
   have l0 : 0 ≤ (s.Rows.getD n default).Minute ∧ (s.Rows.getD n default).Minute ≤ 1439 := H.low n (by omega); have l1 : 0 ≤ (s.Rows.getD (n + 1) default).Minute ∧ (s.Rows.getD (n + 1) default).Minute ≤ 1439 := H.low (n + 1) (by omega); have mo : (s.Rows.getD n default).Minute < (s.Rows.getD (n + 1) default).Minute := H.mono n hn
   have h : ¬ (s.Rows.getD (n + 1) default).Minute < m := h
   have hm2 : (s.Rows.getD n default).Minute ≤ m := by
     rcases hm1 with rfl | q
     · have : (s.Rows.getD 0 default).Minute = 0 := H.first
       rw [this]; exact hm.1
     · have q : (s.Rows.getD n default).Minute < m := q
       omega
   refine wp_must (by omega) (wp_mustI (by omega) (wp_must (by omega) (wp_bindE rfl (wp_bindE rfl (wp_mustI (by omega) (wp_mustI (by omega) ?_))))))
   exact wp_bind (hg n hn _ _ (by omega) (by omega)) (fun f hf => wp_some hf)
theorem Fok.whole {n : Int} (h : 0 ≤ n ∧ n ≤ 600) : Fok (moon_whole n) := ⟨by unfold moon_whole; dsimp only; omega, by unfold moon_whole; dsimp only; omega⟩
theorem horizon_wp {F : Nat} (hF : 20000000 < F) {l : List Roof} (R : RfOk l) {b : Frac} (hb : Fok b) : Wp (moon_horizon F l b) (fun t => 0 ≤ t ∧ t ≤ 29) := by
 unfold moon_horizon
 refine wp_range (fun _ (t : Int) => 0 ≤ t ∧ t ≤ 29) (by omega) (fun i t K hi hI hK => ?_) (fun t hI => wp_some hI)
 have r := R.roof i hi
 refine wp_bindE (compare_eq (Fok.whole (by omega)) hb hF) ?_
 by_cases h : cmF (moon_whole (l.getD i default).From) b ≤ 0
 · refine wp_onE (decide_eq_true h) (compare_eq (Fok.whole (by omega)) hb hF) ?_
   refine wp_bif (fun _ => hK _ (by omega)) (fun _ => hK _ hI)
 · refine wp_offE (decide_eq_false h) rfl ?_
   exact wp_false (by rw [decide_eq_false h]; rfl) (hK _ hI)
theorem margin_wp {F : Nat} (hF : 20000000 < F) {s : Sheet} (H : ShOk s) {l : List Roof} (R : RfOk l) {m : Int} (hm : 0 ≤ m ∧ m ≤ 1439) : Wp (moon_margin F s l m) (fun f => Fok f ∧ -(119 * f.Den) ≤ f.Num ∧ f.Num ≤ 119 * f.Den) := by
 unfold moon_margin
 refine wp_bind (at_wp hF H hm (g := moon_heightOf) (fun i hi p a hp ha => between2 hF (H.hgt i (by omega)) (H.hgt (i + 1) (by omega)) hp ha)) (fun h hh => ?_)
 refine wp_bind (at_wp hF H hm (g := moon_bearingOf) (fun i hi p a hp ha => between1 hF (H.brg i (by omega)) (H.brg (i + 1) (by omega)) hp ha)) (fun b hb => ?_)
 refine wp_bind (horizon_wp hF R hb) (fun t ht => ?_)
 obtain ⟨h1, h2⟩ := hh
 have hd := h1.d
 have q := mul_bd (a := t) (b := h.Den) (A := 29) (B := h.Den) (by omega) (by omega) (by omega) (by omega)
 refine wp_mustI (by omega) (wp_mustI (by omega) (wp_bind (least_wp (by omega) (by omega) (by omega)) (fun f hf => wp_some ⟨hf.ok hd (by omega) (by omega), hf.num (c := 119) (by omega) (by omega)⟩)))
theorem margin_ex {F : Nat} (hF : 20000000 < F) {s : Sheet} (H : ShOk s) {l : List Roof} (R : RfOk l) : ∃ M : Int → Frac, ∀ m, 0 ≤ m → m ≤ 1439 → moon_margin F s l m = some (M m) ∧ Fok (M m) ∧ -(119 * (M m).Den) ≤ (M m).Num ∧ (M m).Num ≤ 119 * (M m).Den :=
 ⟨fun m => (moon_margin F s l m).getD default, fun m h0 h1 => by
   obtain ⟨f, e, hf⟩ := margin_wp hF H R ⟨h0, h1⟩
   have e2 : (moon_margin F s l m).getD default = f := by rw [e]; rfl
   dsimp only
   rw [e2]; exact ⟨e, hf⟩⟩
def IsEdge (e m : Frac) : Prop := Fok e ∧ Sh e (-m.Num) m.Den
theorem neg_red {F : Nat} (hF : 20000000 < F) {x : Frac} (hx : Fok x) : ∃ y, moon_minus x = some y ∧ ∃ e, moon_reduced F y = some e ∧ IsEdge e x := by
 have h1 := hx.d; have h2 := hx.n
 have ey : moon_minus x = some ⟨0 - x.Num, x.Den⟩ := by
   unfold moon_minus; exact must_yes (by unfold inI; omega) _
 refine ⟨_, ey, ?_⟩
 obtain ⟨e, he, hs, hk⟩ := reduced_wp (x := ⟨0 - x.Num, x.Den⟩) ⟨h1, by dsimp only; omega⟩ hF
 dsimp only at hs
 exact ⟨e, he, hk, by rw [← Int.zero_sub]; exact hs⟩
theorem edge_iff {e m off : Frac} (H : IsEdge e m) : ltF ⟨0 - off.Num, off.Den⟩ m ↔ ltF e off := by
 obtain ⟨_, g, h0, h1, h2⟩ := H
 unfold ltF
 dsimp only
 rw [h2, show m.Num = -(g * e.Num) by omega, Int.zero_sub, Int.neg_mul, Int.neg_mul]
 have e1 : off.Num * (g * e.Den) = g * (off.Num * e.Den) := by rw [Int.mul_left_comm]
 have e2 : g * e.Num * off.Den = g * (e.Num * off.Den) := Int.mul_assoc ..
 rw [e1, e2]
 constructor
 · intro h
   exact Int.lt_of_mul_lt_mul_left (by omega : g * (e.Num * off.Den) < g * (off.Num * e.Den)) (by omega)
 · intro h
   have := Int.mul_lt_mul_of_pos_left h h0
   omega
end Go.Sp
end
/- Plain laws, TopMoon: what is known of a night. No program in sight. -/
section
set_option linter.all false
namespace Go.Sp
open Go.Av
set_option maxRecDepth 100000
theorem isFrac_eq {x : Frac} {most : Int} (h : 1 ≤ x.Den ∧ x.Den ≤ most) (hm : most ≤ 20000000) (h2 : -(360 * x.Den) ≤ x.Num ∧ x.Num ≤ 360 * x.Den) : moon_isFrac x most = some true := by
 refine Wp.eq ?_
 unfold moon_isFrac
 refine wp_must (fun _ => by unfold inI; omega) (wp_must (fun _ => by unfold inI; omega) (wp_some ?_))
 unfold moon_within
 simp only [Bool.and_eq_true, decide_eq_true_eq]
 omega
theorem within_eq {n a b : Int} (h : a ≤ n ∧ n ≤ b) : moon_within n a b = true := by
 unfold moon_within; rw [decide_eq_true h.1, decide_eq_true h.2]; rfl
theorem isRow_eq {r : Row} (h : r.Height.Den = 2 ∧ -60 ≤ r.Height.Num ∧ r.Height.Num ≤ 60) (b : r.Bearing.Den = 1 ∧ 0 ≤ r.Bearing.Num ∧ r.Bearing.Num ≤ 295) : moon_isRow r = some true := by
 refine Wp.eq ?_
 unfold moon_isRow
 refine wp_bindE (isFrac_eq (by omega) (by omega) (by omega)) (wp_must (fun _ => by unfold inI; omega) (wp_must (fun _ => by unfold inI; omega) ?_))
 have e : moon_within r.Height.Num ((-90) * r.Height.Den) (90 * r.Height.Den) = true := within_eq (by omega)
 rw [e]
 refine wp_onE rfl (isFrac_eq (by omega) (by omega) (by omega)) (wp_must (fun _ => by unfold inI; omega) (wp_some ?_))
 rw [decide_eq_true b.2.1, decide_eq_true (show r.Bearing.Num < 360 * r.Bearing.Den by omega)]; rfl
theorem ShOk.fok {s : Sheet} (H : ShOk s) {i : Nat} (hi : i < 6) : Fok (s.Rows.getD i default).Bearing := by
 have b : (s.Rows.getD i default).Bearing.Den = 1 ∧ 0 ≤ (s.Rows.getD i default).Bearing.Num ∧ (s.Rows.getD i default).Bearing.Num ≤ 295 := H.brg i hi
 exact ⟨by omega, by omega⟩
theorem checkSheet_eq {F : Nat} (hF : 20000000 < F) {s : Sheet} (H : ShOk s) : moon_CheckSheet F s = some 0 := by
 have o := H.off; have l := H.light; have hl := H.len
 obtain ⟨s1, s2, s3, s4⟩ := H.src
 refine Wp.eq ?_
 unfold moon_CheckSheet
 rw [s1, s2, s3, s4, hl]
 have e0 : ((((!(moon_within 1 1 99999)) || (!(moon_isNight 5))) || (!(moon_lasts 0 0))) || (!(moon_within ((6 : Nat) : Int) 2 12))) = false := rfl
 rw [e0]
 refine wp_onE rfl (isFrac_eq (by omega) (by omega) (by omega)) (wp_must (fun _ => by unfold inI; omega) (wp_false ?_ ?_))
 · rw [within_eq (show (0 : Int) ≤ s.Off.Num ∧ s.Off.Num ≤ 90 * s.Off.Den by omega), decide_eq_false (show ¬ s.Light.Lo < 0 by omega), decide_eq_false (show ¬ s.Light.Hi < s.Light.Lo by omega), decide_eq_false (show ¬ 1000 < s.Light.Hi by omega)]; rfl
 refine wp_forall (fun _ => True) (fun i K hi _ hK => ?_) (fun _ => ?_)
 · refine wp_bindE (isRow_eq (H.hgt i hi) (H.brg i hi)) ?_
   rcases Nat.eq_zero_or_pos i with rfl | h0
   · exact wp_must (fun h => by cases h) (wp_must (fun h => by cases h) (wp_must (fun h => by cases h) (wp_must (fun h => by cases h) (wp_offE rfl rfl (wp_false rfl (hK trivial))))))
   · obtain ⟨j, rfl⟩ : ∃ j, i = j + 1 := ⟨i - 1, by omega⟩
     have mo : (s.Rows.getD j default).Minute < (s.Rows.getD (j + 1) default).Minute := H.mono j (by omega)
     have bu : (s.Rows.getD j default).Bearing.Num ≤ (s.Rows.getD (j + 1) default).Bearing.Num := H.bup j (by omega)
     have b1 : (s.Rows.getD j default).Bearing.Den = 1 := (H.brg j (by omega)).1
     have b2 : (s.Rows.getD (j + 1) default).Bearing.Den = 1 := (H.brg (j + 1) hi).1
     have e : (((j + 1 : Nat) : Int) - 1).toNat = j := by omega
     rw [e]
     refine wp_must (fun _ => by unfold inI; omega) (wp_must (fun _ => by omega) (wp_must (fun _ => by unfold inI; omega) (wp_must (fun _ => by omega) ?_)))
     rw [decide_eq_true (show (0 : Int) < ((j + 1 : Nat) : Int) by omega), decide_eq_false (show ¬ (s.Rows.getD (j + 1) default).Minute ≤ (s.Rows.getD j default).Minute by omega)]
     refine wp_onE rfl (compare_eq (H.fok (by omega)) (H.fok hi) hF) ?_
     have : ¬ 0 < cmF (s.Rows.getD j default).Bearing (s.Rows.getD (j + 1) default).Bearing := by
       rw [cm_pos]; unfold ltF; rw [b1, b2]; omega
     rw [decide_eq_false this]
     exact wp_false rfl (hK trivial)
 · have f0 : (s.Rows.getD 0 default).Minute = 0 := H.first
   have f5 : (s.Rows.getD 5 default).Minute = 1439 := H.last
   have e : (((6 : Nat) : Int) - 1).toNat = 5 := rfl
   rw [e, f0, f5]
   exact wp_must (by omega) (wp_must (fun _ => by unfold inI; omega) (wp_must (fun _ => by omega) (wp_false rfl (wp_some rfl))))
theorem areRoofs_eq {l : List Roof} (R : RfOk l) : moon_areRoofs l = some true := by
 refine Wp.eq ?_
 unfold moon_areRoofs
 have hl := R.len
 refine wp_forall (fun _ => True) (fun i K hi _ hK => ?_) (fun _ => wp_some (decide_eq_true (by omega)))
 have r := R.roof i hi
 have e : moon_CheckRoof (l.getD i default) = 0 := by
   unfold moon_CheckRoof
   rw [decide_eq_false (show ¬ (l.getD i default).From < 0 by omega), decide_eq_false (show ¬ (l.getD i default).To ≤ (l.getD i default).From by omega), decide_eq_false (show ¬ 360 < (l.getD i default).To by omega), within_eq (show (0 : Int) ≤ (l.getD i default).Top ∧ (l.getD i default).Top ≤ 90 by omega)]; rfl
 rw [e]
 exact wp_false rfl (hK trivial)
structure GtOk (g : List Sighting) : Prop where
 len : g.length ≤ 8
 one : ∀ i, i < g.length → (g.getD i default).Source = 1 + (i : Int) ∧ (g.getD i default).Night = 5 ∧ (g.getD i default).Known = 0 ∧ (g.getD i default).Until = 0 ∧ 0 ≤ (g.getD i default).Minute ∧ (g.getD i default).Minute ≤ 1439
section
variable {F : Nat} (hF : 20000000 < F) {s : Sheet} (H : ShOk s) {l : List Roof} (R : RfOk l) {g : List Sighting} (G : GtOk g)
include hF H R G
theorem check_eq : moon_Check F ⟨[s], l, g⟩ = some 0 := by
 refine Wp.eq ?_
 unfold moon_Check
 have hg := G.len
 dsimp only
 rw [decide_eq_false (show ¬ 60 < (([s].length : Nat) : Int) by simp), decide_eq_false (show ¬ 60 < ((g.length : Nat) : Int) by omega)]
 refine wp_onE rfl (areRoofs_eq R) (wp_false rfl ?_)
 refine wp_forall (fun _ => True) (fun i K hi _ hK => ?_) (fun _ => ?_)
 · have : i = 0 := by simpa using hi
   subst this
   exact wp_bindE (show moon_CheckSheet F ([s].getD 0 default) = some 0 from checkSheet_eq hF H) (wp_must (fun h => by cases h) (wp_must (fun h => by cases h) (wp_false rfl (hK trivial))))
 · refine wp_forall (fun _ => True) (fun i K hi _ hK => ?_) (fun _ => wp_some rfl)
   obtain ⟨g1, g2, g3, g4, g5, g6⟩ := G.one i hi
   have e : moon_CheckSighting (g.getD i default) = 0 := by
     unfold moon_CheckSighting moon_isMinute
     rw [within_eq (show (1 : Int) ≤ (g.getD i default).Source ∧ (g.getD i default).Source ≤ 99999 by omega), g2, g3, g4, within_eq ⟨g5, g6⟩]; rfl
   rw [e]
   rcases Nat.eq_zero_or_pos i with rfl | h0
   · exact wp_must (fun h => by cases h) (wp_must (fun h => by cases h) (wp_false rfl (hK trivial)))
   · obtain ⟨j, rfl⟩ : ∃ j, i = j + 1 := ⟨i - 1, by omega⟩
     have q := (G.one j (by omega)).1
     have e : (((j + 1 : Nat) : Int) - 1).toNat = j := by omega
     rw [e]
     refine wp_must (fun _ => by unfold inI; omega) (wp_must (fun _ => by omega) (wp_false ?_ (hK trivial)))
     rw [decide_eq_false (show ¬ (g.getD (j + 1) default).Source ≤ (g.getD j default).Source by rw [g1, q]; omega), Bool.and_false]; rfl
omit hF R G H in
theorem inForce_eq (h : s.Night = 5 ∧ s.Known = 0 ∧ s.Until = 0) : moon_inForce ⟨[s], l, g⟩ 5 9 = some (s, true) := by
 refine Wp.eq ?_
 unfold moon_inForce
 refine wp_range (fun i (v : Bool × Sheet) => if i = 0 then v.1 = false else v = (true, s)) rfl (fun i v K hi hI hK => ?_) (fun v hI => ?_)
 · have : i = 0 := by simpa using hi
   subst this
   rw [if_pos rfl] at hI
   have e : ([s] : List Sheet).getD 0 default = s := rfl
   dsimp only
   rw [e, h.1, h.2.1, h.2.2, hI]
   exact wp_true rfl (hK _ rfl)
 · rw [if_neg (by simp)] at hI
   subst hI
   exact wp_some rfl
omit hF R H in
theorem sighted_eq : moon_sighted F ⟨[s], l, g⟩ 5 9 = some g := by
 refine Wp.eq ?_
 unfold moon_sighted
 have hg := G.len
 have e1 : slices_Clone_Sighting g = some g := by
   refine Wp.eq ?_
   unfold slices_Clone_Sighting
   exact wp_mustR (by simp; omega) (wp_some (List.nil_append g))
 refine wp_bindE e1 ?_
 have e2 : slices_IndexFunc_Sighting g (fun x0 => some (moon_sighted_1 x0 5 9)) = some (-1) := by
   refine Wp.eq ?_
   unfold slices_IndexFunc_Sighting
   refine wp_forall (fun _ => True) (fun i K hi _ hK => ?_) (fun _ => wp_some rfl)
   obtain ⟨g1, g2, g3, g4, g5, g6⟩ := G.one i hi
   refine wp_bindE rfl (wp_false ?_ (hK trivial))
   unfold moon_sighted_1
   rw [g2, g3, g4]; rfl
 have e3 : slices_DeleteFunc_Sighting F g (fun x0 => some (moon_sighted_1 x0 5 9)) = some g := by
   refine Wp.eq ?_
   unfold slices_DeleteFunc_Sighting
   exact wp_bindE e2 (wp_true rfl (wp_some rfl))
 exact wp_bindE e3 (wp_some rfl)
end
end Go.Sp
end
/- Plain laws, TopMoon: the slip, whether the moon is above. No program in sight. -/
section
set_option linter.all false
namespace Go.Sp
open Go.Av
set_option maxRecDepth 100000
structure SlipOk (off : Frac) (p : Slip) : Prop where
 lo : Fok p.Lo
 hi : Fok p.Hi
 a : leF p.Lo off
 b : leF off p.Hi
 o : p.Open = true → ltF p.Lo off
section
variable {F : Nat} (hF : 20000000 < F) {s : Sheet} (H : ShOk s) {l : List Roof} (R : RfOk l) {g : List Sighting} (G : GtOk g) {off : Frac} (hO : Fok off) {M : Int → Frac}
   (hM : ∀ m, 0 ≤ m → m ≤ 1439 → moon_margin F s l m = some (M m) ∧ Fok (M m) ∧ -(119 * (M m).Den) ≤ (M m).Num ∧ (M m).Num ≤ 119 * (M m).Den)
   (hT : ∀ i, i < g.length → (g.getD i default).Above = decide (ltF ⟨0 - off.Num, off.Den⟩ (M (g.getD i default).Minute)))
   (hof : off.Den = 10 ∧ -s.Off.Num ≤ off.Num ∧ off.Num ≤ s.Off.Num)
include hF H hO hof hM
theorem slipOf_wp (G : GtOk g) (hT : ∀ i, i < g.length → (g.getD i default).Above = decide (ltF ⟨0 - off.Num, off.Den⟩ (M (g.getD i default).Minute))) (x : List Sighting) (p : Slip) : Wp (moon_known__slipOf F ⟨s, l, x, p⟩ g) (SlipOk off) := by
 unfold moon_known__slipOf
 have o := H.off
 have oo : Fok s.Off := ⟨by omega, by omega⟩
 obtain ⟨y, ey, e, ee, he⟩ := neg_red hF oo
 refine wp_bindE ey (wp_bindE ee (wp_bind (reduced_wp oo hF) (fun q hq => ?_)))
 refine wp_range (fun _ v => SlipOk off v) ?_ (fun i v K hi hI hK => ?_) (fun v hI => wp_some hI)
 · refine ⟨he.1, hq.2, ?_, ?_, fun h => by cases h⟩
   · have h3 : leF e ⟨-s.Off.Num, s.Off.Den⟩ := by
       unfold leF; dsimp only; rw [he.2.le]; exact Int.le_refl _
     have hk : Fok ⟨-s.Off.Num, s.Off.Den⟩ := ⟨o.1 ▸ by omega, by dsimp only; omega⟩
     refine h3.trans he.1 hk hO ?_
     unfold leF; dsimp only; rw [hof.1, o.1]; omega
   · have h3 : leF s.Off q := by
       unfold leF; rw [hq.1.le]; exact Int.le_refl _
     refine leF.trans hO oo hq.2 ?_ h3
     unfold leF; rw [hof.1, o.1]; omega
 · obtain ⟨g1, g2, g3, g4, g5, g6⟩ := G.one i hi
   obtain ⟨m1, m2, _⟩ := hM _ g5 g6
   obtain ⟨y, ey, e, ee, he⟩ := neg_red hF m2
   have t := hT i hi
   refine wp_bindE m1 (wp_bindE ey (wp_bindE ee ?_))
   by_cases hA : ltF e off
   · have t : (g.getD i default).Above = true := by rw [t]; exact decide_eq_true ((edge_iff he).2 hA)
     rw [t]
     refine wp_onE rfl (compare_eq he.1 hI.lo hF) ?_
     by_cases hc : 0 ≤ cmF e v.Lo
     · rw [decide_eq_true hc]
       exact wp_true rfl (hK _ ⟨he.1, hI.hi, hA.le, hI.b, fun _ => hA⟩)
     · rw [decide_eq_false hc]
       exact wp_false rfl (wp_offE rfl rfl (wp_false rfl (hK _ hI)))
   · have t : (g.getD i default).Above = false := by rw [t]; exact decide_eq_false (fun h => hA ((edge_iff he).1 h))
     rw [t]
     refine wp_offE rfl rfl (wp_false rfl (wp_onE rfl (compare_eq he.1 hI.hi hF) ?_))
     by_cases hc : cmF e v.Hi < 0
     · rw [decide_eq_true hc]
       exact wp_true rfl (hK _ ⟨hI.lo, he.1, hI.a, not_lt.1 hA, hI.o⟩)
     · rw [decide_eq_false hc]
       exact wp_false rfl (hK _ hI)
theorem look_ex (R : RfOk l) (G : GtOk g) (hT : ∀ i, i < g.length → (g.getD i default).Above = decide (ltF ⟨0 - off.Num, off.Den⟩ (M (g.getD i default).Minute))) :
   ∃ p, SlipOk off p ∧ ∀ ms : List Int, (∀ i, i < ms.length → 0 ≤ ms.getD i default ∧ ms.getD i default ≤ 1439) → ms.length ≤ 2 → (∀ i, i + 1 < ms.length → ms.getD i default ≤ ms.getD (i + 1) default) →
     moon_look F ⟨[s], l, g⟩ 5 9 ms = some (some ⟨s, l, g, p⟩, 0) ∧ moon_clearly F ⟨[s], l, g⟩ 5 9 ms = some (some ⟨s, l, g, p⟩, 0) := by
 obtain ⟨p, ep, hp⟩ := slipOf_wp hF H hO hM hof G hT g (⟨⟨0, 0⟩, false, ⟨0, 0⟩⟩ : Slip)
 refine ⟨p, hp, fun ms h1 h2 h3 => ?_⟩
 have el : moon_look F ⟨[s], l, g⟩ 5 9 ms = some (some ⟨s, l, g, p⟩, 0) := by
   refine Wp.eq ?_
   unfold moon_look
   refine wp_bindE (check_eq hF H R G) (wp_false rfl (wp_false rfl ?_))
   refine wp_forall (fun _ => True) (fun i K hi _ hK => ?_) (fun _ => ?_)
   · have q := h1 i hi
     have e : moon_isMinute (ms.getD i default) = true := within_eq q
     rw [e]
     rcases Nat.eq_zero_or_pos i with rfl | h0
     · exact wp_must (fun h => by cases h) (wp_must (fun h => by cases h) (wp_false rfl (hK trivial)))
     · obtain ⟨j, rfl⟩ : ∃ j, i = j + 1 := ⟨i - 1, by omega⟩
       have e : (((j + 1 : Nat) : Int) - 1).toNat = j := by omega
       rw [e]
       have := h3 j hi
       refine wp_must (fun _ => by unfold inI; omega) (wp_must (fun _ => by omega) (wp_false ?_ (hK trivial)))
       rw [decide_eq_false (show ¬ ms.getD (j + 1) default < ms.getD j default by omega), Bool.and_false]; rfl
   · have hs := H.src
     refine wp_bindE (inForce_eq ⟨hs.2.1, hs.2.2.1, hs.2.2.2⟩) (wp_false rfl (wp_bindE (sighted_eq G) (wp_bindE ep (wp_some rfl))))
 refine ⟨el, ?_⟩
 refine Wp.eq ?_
 unfold moon_clearly
 refine wp_bindE el (wp_false rfl (wp_must rfl ?_))
 have ee : moon_isEmpty F p = some false := by
   refine Wp.eq ?_
   unfold moon_isEmpty
   refine wp_bindE (compare_eq hp.lo hp.hi hF) (wp_some ?_)
   have hle := hp.a.trans hp.lo hO hp.hi hp.b
   rw [decide_eq_false (show ¬ 0 < cmF p.Lo p.Hi by rw [cm_pos]; exact fun h => absurd h (not_lt.2 hle))]
   cases ho : p.Open with
   | false => rw [Bool.and_false]; rfl
   | true =>
     have := ltF.trans_le hp.lo hO hp.hi (hp.o ho) hp.b
     rw [decide_eq_false (show ¬ cmF p.Lo p.Hi = 0 by have := cm_neg.2 this; omega)]; rfl
 exact wp_bindE ee (wp_false rfl (wp_some rfl))
end
section
variable {F : Nat} (hF : 20000000 < F) {s : Sheet} {l : List Roof} {g : List Sighting} {off : Frac} (hO : Fok off) {M : Int → Frac}
   (hM : ∀ m, 0 ≤ m → m ≤ 1439 → moon_margin F s l m = some (M m) ∧ Fok (M m) ∧ -(119 * (M m).Den) ≤ (M m).Num ∧ (M m).Num ≤ 119 * (M m).Den)
include hF hO hM
theorem kabove_wp {p : Slip} (hp : SlipOk off p) {m : Int} (hm : 0 ≤ m ∧ m ≤ 1439) : Wp (moon_known__above F ⟨s, l, g, p⟩ m) (fun a => (a = 0 ∨ a = 1 ∨ a = 2) ∧ (a = 1 → ltF ⟨0 - off.Num, off.Den⟩ (M m)) ∧ (a = 0 → ¬ ltF ⟨0 - off.Num, off.Den⟩ (M m))) := by
 obtain ⟨m1, m2, _⟩ := hM m hm.1 hm.2
 obtain ⟨y, ey, e, ee, he⟩ := neg_red hF m2
 unfold moon_known__above
 have eE : moon_known__edge F ⟨s, l, g, p⟩ m = some e := by
   refine Wp.eq ?_
   unfold moon_known__edge
   exact wp_bindE m1 (wp_bindE ey (wp_bindE ee (wp_some rfl)))
 refine wp_bindE eE (wp_bindE (compare_eq hp.lo he.1 hF) ?_)
 rw [edge_iff he]
 refine wp_bif (fun h => wp_some ⟨.inr (.inl rfl), fun _ => ?_, fun h => by cases h⟩) (fun h => wp_bindE (compare_eq hp.hi he.1 hF) ?_)
 · simp only [Bool.or_eq_true, Bool.and_eq_true, decide_eq_true_eq] at h
   rcases h with h | ⟨h, ho⟩
   · exact ltF.trans_le he.1 hp.lo hO (cm_pos.1 h) hp.a
   · have : leF e p.Lo := cm_ge.1 (by omega)
     exact this.trans_lt he.1 hp.lo hO (hp.o ho)
 · refine wp_ifd (fun h => wp_some ⟨.inl rfl, fun h => (by cases h), fun _ => ?_⟩) (fun _ => wp_some ⟨.inr (.inr rfl), fun h => (by cases h), fun h => (by cases h)⟩)
   exact not_lt.2 (hp.b.trans hO hp.hi he.1 (cm_le.1 h))
theorem above_eq (H : ShOk s) (R : RfOk l) (ho : off.Den = 10 ∧ -3600 ≤ off.Num ∧ off.Num ≤ 3600) {m : Int} (hm : 0 ≤ m ∧ m ≤ 1439) : gasoliertop_above F s l m off = some (decide (ltF ⟨0 - off.Num, off.Den⟩ (M m)), true) := by
 obtain ⟨m1, m2, m3⟩ := hM m hm.1 hm.2
 refine Wp.eq ?_
 unfold gasoliertop_above
 have eM : moon_Margin F s l m = some (M m, 0) := by
   refine Wp.eq ?_
   unfold moon_Margin
   have e : moon_isMinute m = true := within_eq hm
   refine wp_bindE (checkSheet_eq hF H) (wp_false rfl (wp_bindE (areRoofs_eq R) (wp_false rfl ?_)))
   rw [e]
   exact wp_false rfl (wp_bindE m1 (wp_some rfl))
 have d := m2.d
 have hk : Fok ⟨0 - off.Num, off.Den⟩ := ⟨by dsimp only; omega, by dsimp only; omega⟩
 have eC : moon_Compare F (M m) ⟨0 - off.Num, off.Den⟩ = some (cmF (M m) ⟨0 - off.Num, off.Den⟩, 0) := by
   refine Wp.eq ?_
   unfold moon_Compare
   refine wp_bindE (isFrac_eq (by omega) (by omega) (by omega)) (wp_onE rfl (isFrac_eq (by dsimp only; omega) (by omega) (by dsimp only; omega)) (wp_false rfl (wp_bindE (compare_eq m2 hk hF) (wp_some rfl))))
 refine wp_bindE eM (wp_mustI (by omega) (wp_bindE eC (wp_some ?_)))
 dsimp only
 congr 1
 exact decide_eq_decide.2 cm_pos
end
end Go.Sp
end
/- Plain laws, TopMoon: the light of the whole night; the bye-law. No program in sight. -/
section
set_option linter.all false
namespace Go.Sp
open Go.Av
set_option maxRecDepth 100000
section
variable {F : Nat} (hF : 20000000 < F) {s : Sheet} {l : List Roof} {g : List Sighting} {off : Frac} (hO : Fok off) {M : Int → Frac}
   (hM : ∀ m, 0 ≤ m → m ≤ 1439 → moon_margin F s l m = some (M m) ∧ Fok (M m) ∧ -(119 * (M m).Den) ≤ (M m).Num ∧ (M m).Num ≤ 119 * (M m).Den)
   {p : Slip} (hp : SlipOk off p)
   (hL : ∀ ms : List Int, (∀ i, i < ms.length → 0 ≤ ms.getD i default ∧ ms.getD i default ≤ 1439) → ms.length ≤ 2 → (∀ i, i + 1 < ms.length → ms.getD i default ≤ ms.getD (i + 1) default) →
     moon_look F ⟨[s], l, g⟩ 5 9 ms = some (some ⟨s, l, g, p⟩, 0) ∧ moon_clearly F ⟨[s], l, g⟩ 5 9 ms = some (some ⟨s, l, g, p⟩, 0))
include hF hO hp hL
theorem checkSlip_eq (ho : off.Den = 10 ∧ -3600 ≤ off.Num ∧ off.Num ≤ 3600) : moon_CheckSlip F ⟨[s], l, g⟩ 5 9 off = some 0 := by
 refine Wp.eq ?_
 unfold moon_CheckSlip
 have e1 := (hL [] (fun i hi => by cases hi) (by simp) (fun i hi => by cases hi)).1
 refine wp_bindE e1 (wp_false rfl (wp_bindE (isFrac_eq (by omega) (by omega) (by omega)) (wp_false rfl (wp_must rfl ?_))))
 have eh : moon_has F p off = some true := by
   refine Wp.eq ?_
   unfold moon_has
   refine wp_bindE (compare_eq hO hp.lo hF) ?_
   have c : (decide (0 < cmF off p.Lo) || (decide (cmF off p.Lo = 0) && !p.Open)) = true := by
     have h0 : 0 ≤ cmF off p.Lo := cm_ge.2 hp.a
     cases q : p.Open with
     | true => rw [decide_eq_true (cm_pos.2 (hp.o q))]; rfl
     | false =>
       rcases Int.lt_or_le 0 (cmF off p.Lo) with h | h
       · rw [decide_eq_true h]; rfl
       · rw [decide_eq_true (show cmF off p.Lo = 0 by omega)]; simp
   refine wp_onE c (compare_eq hO hp.hi hF) (wp_some ?_)
   rw [c, decide_eq_true (cm_le.2 hp.b)]; rfl
 exact wp_bindE eh (wp_false rfl (wp_some rfl))
include hM
theorem Above_wp {m : Int} (hm : 0 ≤ m ∧ m ≤ 1439) : Wp (moon_Above F ⟨[s], l, g⟩ 5 9 m) (fun r => r.2 = 0 ∧ (r.1 = 1 → ltF ⟨0 - off.Num, off.Den⟩ (M m)) ∧ (r.1 = 0 → ¬ ltF ⟨0 - off.Num, off.Den⟩ (M m))) := by
 unfold moon_Above
 have e1 := (hL [m] (fun i hi => by have : i = 0 := by simpa using hi
                                    subst this; exact hm) (by simp) (fun i hi => by simp at hi)).2
 refine wp_bindE e1 (wp_false rfl (wp_must rfl (wp_bind (kabove_wp hF hO hM hp hm) (fun a ha => wp_some ⟨rfl, ha.2.1, ha.2.2⟩))))
theorem answers_wp {a b : Int} (h : 0 ≤ a ∧ a ≤ b ∧ b ≤ 1439) : Wp (moon_known__answers_1 b a (fun x0 => moon_known__above F ⟨s, l, g, p⟩ x0)) (fun r => r.length = (b - a + 1).toNat ∧ ∀ i, i < r.length → ((r.getD i default).2 = 0 ∨ (r.getD i default).2 = 1 ∨ (r.getD i default).2 = 2) ∧ ((r.getD i default).2 = 1 → ltF ⟨0 - off.Num, off.Den⟩ (M (a + i))) ∧ ((r.getD i default).2 = 0 → ¬ ltF ⟨0 - off.Num, off.Den⟩ (M (a + i)))) := by
 unfold moon_known__answers_1
 refine wp_mustI (by omega) (wp_mustI (by omega) (wp_must (by omega) ?_))
 generalize hn : (b - a + 1).toNat = n
 have go : ∀ (k i : Nat), i + k = n → Wp (rangeGo (fun i3 (s3 : Unit) k3 => must (inI (a + (i3 : Int))) <| must (inI (a + (i3 : Int))) <| bindO (moon_known__above F ⟨s, l, g, p⟩ (a + (i3 : Int))) fun y7 => emitIf true ((a + (i3 : Int)), y7) <| k3 ()) (fun (s3 : Unit) => some []) k i ())
     (fun r => r.length = k ∧ ∀ j, j < r.length → ((r.getD j default).2 = 0 ∨ (r.getD j default).2 = 1 ∨ (r.getD j default).2 = 2) ∧ ((r.getD j default).2 = 1 → ltF ⟨0 - off.Num, off.Den⟩ (M (a + ((i + j : Nat) : Int)))) ∧ ((r.getD j default).2 = 0 → ¬ ltF ⟨0 - off.Num, off.Den⟩ (M (a + ((i + j : Nat) : Int))))) := by
   intro k
   induction k with
   | zero => intro i _; exact wp_some ⟨rfl, fun j hj => by cases hj⟩
   | succ k ih =>
     intro i hi
     refine wp_mustI (by omega) (wp_mustI (by omega) (wp_bind (kabove_wp hF hO hM hp (by omega)) (fun y hy => wp_emit ((ih (i + 1) (by omega)).mono (fun r hr => ?_)))))
     obtain ⟨r1, r2⟩ := hr
     refine ⟨by simp [r1], fun j hj => ?_⟩
     cases j with
     | zero => exact hy
     | succ j =>
       have q := r2 j (by have : j + 1 < r.length + 1 := hj
                          omega)
       rw [show i + 1 + j = i + (j + 1) by omega] at q
       exact q
 refine (go n 0 (by omega)).mono (fun r hr => ⟨hr.1, fun i hi => ?_⟩)
 have := hr.2 i hi
 rw [Nat.zero_add] at this
 exact this
theorem whole_wp (hs : 0 ≤ s.Light.Lo ∧ s.Light.Lo ≤ s.Light.Hi) : Wp (moon_Whole F ⟨[s], l, g⟩ 5 9 300 1090) (fun r => r.2 = 0 ∧ (r.1 = s.Light ∨ r.1 = ⟨0, 0⟩ ∨ r.1 = ⟨0, s.Light.Hi⟩) ∧
   (r.1 = s.Light ∨ (∀ m : Int, 300 ≤ m → m ≤ 1090 → ltF ⟨0 - off.Num, off.Den⟩ (M m)) → r.1 = s.Light ∨ r.1 = ⟨0, s.Light.Hi⟩) ∧ ((∃ m : Int, 300 ≤ m ∧ m ≤ 1090 ∧ ¬ ltF ⟨0 - off.Num, off.Den⟩ (M m)) → r.1 = ⟨0, 0⟩ ∨ r.1 = ⟨0, s.Light.Hi⟩)) := by
 unfold moon_Whole
 have e1 := (hL [300, 1090] (fun i hi => by
   have : i = 0 ∨ i = 1 := by have : i < 2 := hi
                              omega
   rcases this with rfl | rfl
   · exact ⟨by decide, by decide⟩
   · exact ⟨by decide, by decide⟩) (by simp) (fun i hi => by
   have : i = 0 := by have : i + 1 < 2 := hi
                      omega
   subst this; decide)).2
 refine wp_bindE e1 (wp_false rfl (wp_must rfl ?_))
 refine wp_join (fun a => (a = 0 ∧ ¬ (∀ m : Int, 300 ≤ m → m ≤ 1090 → ltF ⟨0 - off.Num, off.Den⟩ (M m))) ∨ (a = 1 ∧ ∀ m : Int, 300 ≤ m → m ≤ 1090 → ltF ⟨0 - off.Num, off.Den⟩ (M m)) ∨ a = 2) (fun K hK => ?_) (fun a ha => ?_)
 · refine wp_bind (answers_wp hF hO hM hp hL (a := 300) (b := 1090) (by omega)) (fun it hit => ?_)
   obtain ⟨i1, i2⟩ := hit
   have i1 : it.length = 791 := i1
   refine wp_list (fun done _ (a : Int) => (a = 1 ∧ ∀ j, j < done.length → (it.getD j default).2 = 1) ∨ a = 2) (.inl ⟨rfl, fun j hj => by cases hj⟩) ?_ ?_
   · intro done x left a K2 h1 h2 hK2
     have ex : it.getD done.length default = x := by rw [← h1]; simp
     have hd : done.length < it.length := by rw [← h1]; simp
     obtain ⟨q1, q2, q3⟩ := i2 done.length hd
     rw [ex] at q1 q2 q3
     refine wp_ifd (fun h => hK _ (.inl ⟨rfl, fun hall => ?_⟩)) (fun h => ?_)
     · exact q3 h (hall _ (by omega) (by omega))
     · refine wp_ifd (fun h' => hK2 _ (.inr rfl)) (fun h' => hK2 _ ?_)
       rcases h2 with ⟨rfl, h2⟩ | h2
       · refine .inl ⟨rfl, fun j hj => ?_⟩
         rw [List.length_append, List.length_singleton] at hj
         by_cases e : j = done.length
         · rw [e, ex]; omega
         · exact h2 j (by omega)
       · exact .inr h2
   · intro a h2
     rcases h2 with ⟨rfl, h2⟩ | rfl
     · refine hK _ (.inr (.inl ⟨rfl, fun m h3 h4 => ?_⟩))
       have q := (i2 (m - 300).toNat (by omega)).2.1 (h2 _ (by omega))
       rw [show (300 : Int) + (((m - 300).toNat : Nat) : Int) = m by omega] at q
       exact q
     · exact hK _ (.inr (.inr rfl))
 · refine wp_must rfl (wp_some ⟨rfl, ?_⟩)
   unfold moon_known__light
   rcases ha with ⟨rfl, h⟩ | ⟨rfl, h⟩ | rfl
   · refine ⟨.inr (.inl rfl), fun q => ?_, fun _ => .inl rfl⟩
     rcases q with q | q
     · exact .inl q
     · exact absurd q h
   · exact ⟨.inl rfl, fun _ => .inl rfl, fun ⟨m, h1, h2, h3⟩ => absurd (h m h1 h2) h3⟩
   · exact ⟨.inr (.inr rfl), fun _ => .inr rfl, fun _ => .inr rfl⟩
end
end Go.Sp
end
/- Plain laws, TopMoon: the bye-law of the night. No program in sight. -/
section
set_option linter.all false
namespace Go.Sp
open Go.Av
set_option maxRecDepth 100000
def mv (t : Int) : Version := ⟨1, 1, 0, ⟨5, 40⟩, ⟨5, 50⟩, t, 0, 0, 0⟩
def mb (t : Int) : Bylaw := ⟨[mv t], [⟨1, 1, 1, 1, 1⟩]⟩
def mn (L : Range) : Night := ⟨5, ⟨300, 310⟩, ⟨1080, 1090⟩, L, 0⟩
section
variable {t : Int} (ht : 0 ≤ t ∧ t ≤ 1001)
include ht
theorem mb_check : bylaw_Check (mb t) = some 0 := by
 have ev : bylaw_CheckVersion (mv t) = some 0 := by
   refine Wp.eq ?_
   unfold bylaw_CheckVersion mv
   refine wp_must (fun _ => by unfold inI; dsimp only; omega) (wp_false ?_ (wp_some rfl))
   simp [bylaw_in, bylaw_isNight, bylaw_isRange]
   omega
 refine Wp.eq ?_
 unfold bylaw_Check mb
 have a1 : bylaw_areAll_Version [mv t] 60 (fun x0 => bylaw_CheckVersion x0) (fun x0 => some (bylaw_sourceOf x0)) = some true := by
   refine Wp.eq ?_
   unfold bylaw_areAll_Version
   refine wp_forall (fun _ => True) (fun i K hi _ hK => ?_) (fun _ => wp_some rfl)
   have : i = 0 := by simpa using hi
   subst this
   refine wp_bindE (show bylaw_CheckVersion ([mv t].getD 0 default) = some 0 from ev) ?_
   exact wp_must (fun h => by simp at h) (wp_must (fun h => by simp at h) (wp_offE rfl rfl (wp_offE rfl rfl (wp_false rfl (hK trivial)))))
 have a2 : bylaw_areAll_Street [⟨1, 1, 1, 1, 1⟩] 20 (fun x0 => bylaw_CheckStreet x0) (fun x0 => some (bylaw_idOf x0)) = some true := by kernel_rfl
 refine wp_bindE a1 (wp_onE rfl a2 (wp_false rfl ?_))
 refine wp_forall (fun _ => True) (fun i K hi _ hK => ?_) (fun _ => wp_some rfl)
 have : i = 0 := by simpa using hi
 subst this
 exact wp_must (by simp) (wp_forall (fun _ => True) (fun j K2 hj => by simp at hj) (fun _ => hK trivial))
omit ht in
theorem mn_check {L : Range} (hL : 0 ≤ L.Lo ∧ L.Lo ≤ L.Hi ∧ L.Hi ≤ 1000) : bylaw_CheckNight (mn L) = 0 := by
 unfold bylaw_CheckNight mn
 refine Eq.trans (congrArg (fun c => cond c (12 : Int) 0) (?_ : _ = false)) rfl
 simp [bylaw_in, bylaw_isNight, bylaw_isRange]
 omega
omit ht in
theorem mb_known (n : Night) (hn : n.No = 5) : bylaw_known (mb t) 1 n 9 = some (⟨mv t, n⟩, 0) := by
 have es : bylaw_streetOf (mb t) 1 = some (⟨1, 1, 1, 1, 1⟩, 0) := by
   have : bylaw_streetOf ⟨[], [⟨1, 1, 1, 1, 1⟩]⟩ 1 = some (⟨1, 1, 1, 1, 1⟩, 0) := by kernel_rfl
   exact this
 refine Wp.eq ?_
 unfold bylaw_known
 refine wp_bindE es (wp_false rfl ?_)
 have ef : bylaw_inForce (mb t) 1 n.No 9 = some (mv t, 0) := by
   rw [hn]
   refine Wp.eq ?_
   unfold bylaw_inForce
   refine wp_range (fun i v => if i = 0 then v = ⟨0, 0, 0, ⟨0, 0⟩, ⟨0, 0⟩, 0, 0, 0, 0⟩ else v = mv t) rfl (fun i v K hi hI hK => ?_) (fun v hI => ?_)
   · have : i = 0 := by simpa [mb] using hi
     subst this
     rw [if_pos rfl] at hI
     subst hI
     exact wp_true rfl (hK _ rfl)
   · rw [if_neg (by simp [mb])] at hI
     subst hI
     exact wp_false rfl (wp_some rfl)
 exact wp_bindE ef (wp_some rfl)
theorem mb_look {L : Range} (hL : 0 ≤ L.Lo ∧ L.Lo ≤ L.Hi ∧ L.Hi ≤ 1000) : bylaw_look (mb t) 1 (mn L) 9 = some (⟨mv t, mn L⟩, 0) := by
 refine Wp.eq ?_
 unfold bylaw_look
 refine wp_bindE (mb_check ht) (wp_false rfl ?_)
 rw [mn_check hL]
 exact wp_false rfl (wp_false rfl (wp_bindE (mb_known _ rfl) (wp_some rfl)))
def litM (t : Int) (L : Range) : Int := if L.Hi < t then 1 else if t ≤ L.Lo then 0 else 2
omit ht in
theorem litM_eq (L : Range) : bylaw_window__lit ⟨mv t, mn L⟩ = litM t L := by
 unfold bylaw_window__lit litM mv mn
 dsimp only
 by_cases h : L.Hi < t
 · rw [if_pos h, decide_eq_true h]; rfl
 · rw [if_neg h, decide_eq_false h]
   by_cases h2 : t ≤ L.Lo
   · rw [if_pos h2, decide_eq_true h2]; rfl
   · rw [if_neg h2, decide_eq_false h2]; rfl
theorem mLit_eq {L : Range} (hL : 0 ≤ L.Lo ∧ L.Lo ≤ L.Hi ∧ L.Hi ≤ 1000) : bylaw_Lit (mb t) 1 (mn L) 9 = some (litM t L, 0) := by
 refine Wp.eq ?_
 unfold bylaw_Lit
 exact wp_bindE (mb_look ht hL) (wp_false rfl (wp_some (by rw [litM_eq])))
theorem mDuty_eq {L : Range} (hL : 0 ≤ L.Lo ∧ L.Lo ≤ L.Hi ∧ L.Hi ≤ 1000) (h0 : litM t L ≠ 0) : bylaw_Duty (mb t) 1 (mn L) 9 = some (⟨litM t L, ⟨315, 340⟩, ⟨1040, 1075⟩⟩, 0) := by
 refine Wp.eq ?_
 unfold bylaw_Duty
 refine wp_bindE (mb_look ht hL) (wp_false rfl ?_)
 have e1 : bylaw_window__on ⟨mv t, mn L⟩ = some ⟨315, 340⟩ := rfl
 have e2 : bylaw_window__off ⟨mv t, mn L⟩ = some ⟨1040, 1075⟩ := rfl
 have e : bylaw_window__duty ⟨mv t, mn L⟩ = some (⟨litM t L, ⟨315, 340⟩, ⟨1040, 1075⟩⟩, 0) := by
   refine Wp.eq ?_
   unfold bylaw_window__duty
   rw [litM_eq]
   have m1 : ∀ r : Range, r.Lo ≤ r.Hi → bylaw_window__minutes ⟨mv t, mn L⟩ (some r) = some (r, 0) := fun r hr => by
     refine Wp.eq ?_
     unfold bylaw_window__minutes
     rw [litM_eq]
     exact wp_false (decide_eq_false h0) (wp_bindE rfl (wp_false (decide_eq_false (by omega)) (wp_some rfl)))
   refine wp_false (decide_eq_false h0) ?_
   rw [e1, e2]
   exact wp_bindE (m1 _ (by decide)) (wp_false rfl (wp_bindE (m1 _ (by decide)) (wp_false rfl (wp_some rfl))))
 exact wp_bindE e (wp_some rfl)
theorem mTrue_wp {u v y : Int} (hu : 0 ≤ u ∧ u < 11) (hv : 0 ≤ v ∧ v < 11) (hy : 0 ≤ y ∧ y ≤ 1000) {T : Times} (hT : T = ⟨-1, -1⟩ ∨ T = ⟨315, 1075⟩) :
   bylaw_True (mb t) 1 5 ⟨300 + u, 1080 + v, y, false⟩ T 9 = some (if T = ⟨-1, -1⟩ then decide (t ≤ y) else true, 0) := by
 refine Wp.eq ?_
 unfold bylaw_True
 refine wp_bindE (mb_check ht) (wp_false rfl ?_)
 have e1 : bylaw_isTruth ⟨300 + u, 1080 + v, y, false⟩ = true := by
   unfold bylaw_isTruth bylaw_in
   simp only [Bool.and_eq_true, decide_eq_true_eq]
   omega
 have e2 : bylaw_areTimes T = true := by rcases hT with rfl | rfl <;> rfl
 rw [e1, e2]
 refine wp_false rfl (wp_false rfl (wp_false rfl (wp_bindE (mb_known _ rfl) (wp_false rfl ?_))))
 have e3 : bylaw_lawful (mv t) ⟨300 + u, 1080 + v, y, false⟩ T = some (if T = ⟨-1, -1⟩ then decide (t ≤ y) else true) := by
   refine Wp.eq ?_
   unfold bylaw_lawful
   by_cases h : t ≤ y
   · refine wp_true ?_ (wp_some ?_)
     · have : (mv t).Moon ≤ y := h
       dsimp only
       rw [decide_eq_true this]; rfl
     · rw [decide_eq_true h]; split <;> rfl
   · refine wp_false ?_ ?_
     · have : ¬ (mv t).Moon ≤ y := h
       dsimp only
       rw [decide_eq_false this]; rfl
     · refine wp_joinU (wp_false rfl ?_)
       rcases hT with rfl | rfl
       · rw [if_pos rfl, decide_eq_false h]
         exact wp_must (fun h => by cases h) (wp_must (fun h => by cases h) (wp_must (fun h => by cases h) (wp_must (fun h => by cases h) (wp_must (fun h => by cases h) (wp_must (fun h => by cases h) (wp_some rfl))))))
       · rw [if_neg (by decide)]
         unfold mv
         dsimp only
         refine wp_must (fun _ => by unfold inI; omega) (wp_must (fun _ => by unfold inI; omega) (wp_must (fun _ => by unfold inI; omega) (wp_must (fun _ => by unfold inI; omega) (wp_must (fun _ => by unfold inI; omega) (wp_must (fun _ => by unfold inI; omega) (wp_some ?_))))))
         unfold bylaw_in
         simp only [Bool.and_eq_true, decide_eq_true_eq]
         omega
 exact wp_bindE e3 (wp_some rfl)
end
end Go.Sp
end
/- Plain laws, TopMoon: sheets, and the whole. No program in sight. -/
section
set_option linter.all false
namespace Go.Sp
open Go.Av
set_option maxRecDepth 100000
theorem mod_eq (n : Int) {m : Int} (h0 : 0 < m) (h1 : m ≤ 1000000000000000000) : ∃ y, gasolierref01_Mod n m = some y ∧ 0 ≤ y ∧ y < m := by
 have a1 : -m < Int.tmod n m := Int.lt_tmod_of_pos n h0
 have a2 : Int.tmod n m < m := Int.tmod_lt_of_pos n h0
 unfold gasolierref01_Mod
 refine ⟨_, (must_yes (by omega) _).trans ((must_yes (by unfold inI; omega) _).trans (must_yes (by omega) _)), ?_, Int.tmod_lt_of_pos _ h0⟩
 exact Int.tmod_nonneg _ (by omega)
structure RowsUp (n : Nat) (a b : Int) (r : List Row) : Prop where
 n6 : n ≤ 6
 len : r.length = n
 fa : 0 ≤ a ∧ a ≤ 270 * (n : Int)
 fb : 0 ≤ b ∧ b ≤ 59 * (n : Int)
 z : n = 0 → a = 0
 first : 0 < n → (r.getD 0 default).Minute = 0
 last : n = 6 → (r.getD 5 default).Minute = 1439
 mono : ∀ i, i + 1 < n → (r.getD i default).Minute < (r.getD (i + 1) default).Minute
 hgt : ∀ i, i < n → (r.getD i default).Height.Den = 2 ∧ -60 ≤ (r.getD i default).Height.Num ∧ (r.getD i default).Height.Num ≤ 60
 brg : ∀ i, i < n → (r.getD i default).Bearing.Den = 1 ∧ 0 ≤ (r.getD i default).Bearing.Num ∧ (r.getD i default).Bearing.Num ≤ 295
 bup : ∀ i, i + 1 < n → (r.getD i default).Bearing.Num ≤ (r.getD (i + 1) default).Bearing.Num
 na : 0 < n → n < 6 → (r.getD (n - 1) default).Minute < a
 nb : 0 < n → (r.getD (n - 1) default).Bearing.Num ≤ b
theorem RowsUp.step {n : Nat} {a b : Int} {r : List Row} (I : RowsUp n a b r) (hn : n < 6) {x : Row} {u v : Int} (hx : x.Minute = if n = 5 then 1439 else a) (hh : x.Height.Den = 2 ∧ -60 ≤ x.Height.Num ∧ x.Height.Num ≤ 60) (hb : x.Bearing = ⟨b, 1⟩)
   (hu : 0 ≤ u ∧ u < 270) (hv : 0 ≤ v ∧ v < 60) : RowsUp (n + 1) (a + (1 + u)) (b + v) (r ++ [x]) := by
 have hl := I.len
 have ia := I.fa; have ib := I.fb
 have hxb : x.Bearing.Den = 1 ∧ x.Bearing.Num = b := by rw [hb]; exact ⟨rfl, rfl⟩
 have old : ∀ i, i < n → (r ++ [x]).getD i default = r.getD i default := fun i hi => by rw [getD_snoc, if_neg (by omega)]
 have new : (r ++ [x]).getD n default = x := by rw [getD_snoc, if_pos hl.symm]
 refine ⟨by omega, by rw [List.length_append, List.length_singleton, hl], by omega, by omega, by omega, fun _ => ?_, fun h => ?_, fun i hi => ?_, fun i hi => ?_, fun i hi => ?_, fun i hi => ?_, fun _ h => ?_, fun _ => ?_⟩
 · rcases Nat.eq_zero_or_pos n with e | e
   · subst e
     rw [new, hx, if_neg (by omega)]; exact I.z rfl
   · rw [old 0 e]; exact I.first e
 · have : n = 5 := by omega
   subst this
   rw [new, hx]; rfl
 · by_cases e : i + 1 = n
   · rw [old i (by omega), e, new, hx]
     have := I.na (by omega) hn
     have : (r.getD i default).Minute < a := by rw [show i = n - 1 by omega]; exact this
     split <;> omega
   · rw [old i (by omega), old (i + 1) (by omega)]; exact I.mono i (by omega)
 · by_cases e : i = n
   · rw [e, new]; exact hh
   · rw [old i (by omega)]; exact I.hgt i (by omega)
 · by_cases e : i = n
   · rw [e, new]; omega
   · rw [old i (by omega)]; exact I.brg i (by omega)
 · by_cases e : i + 1 = n
   · rw [old i (by omega), e, new]
     have := I.nb (by omega)
     rw [show i = n - 1 by omega]; omega
   · rw [old i (by omega), old (i + 1) (by omega)]; exact I.bup i (by omega)
 · rw [Nat.add_sub_cancel, new, hx, if_neg (by omega)]; omega
 · rw [Nat.add_sub_cancel, new]; omega
theorem sheetOf_wp {F : Nat} (hF : 20000000 < F) (x : gasoliertop_Heaven) (hl : x.Rows.length ≤ 1000000000000000000) : Wp (gasoliertop_sheetOf F x) ShOk := by
 unfold gasoliertop_sheetOf
 obtain ⟨p, ep, p0, p1⟩ := mod_eq x.Off.x0 (m := 60) (by omega) (by omega)
 obtain ⟨q, eq, q0, q1⟩ := mod_eq x.Light.x0 (m := 500) (by omega) (by omega)
 obtain ⟨v, ev, v0, v1⟩ := mod_eq x.Light.x1 (m := 400) (by omega) (by omega)
 refine wp_bindE ep (wp_bindE eq (wp_bindE ev (wp_mustI (by omega) ?_)))
 refine wp_loop (fun s => ∃ n : Nat, s.2.2.1 = (n : Int) ∧ RowsUp n s.1 s.2.1 s.2.2.2) (fun s => (6 - s.2.2.1).toNat) (by dsimp only; omega)
   ⟨0, rfl, by omega, rfl, by dsimp only; omega, by dsimp only; omega, fun _ => rfl, fun h => absurd h (by omega), fun h => absurd h (by omega), fun i h => absurd h (by omega), fun i h => absurd h (by omega), fun i h => absurd h (by omega), fun i h => absurd h (by omega), fun h => absurd h (by omega), fun h => absurd h (by omega)⟩ (fun s K hI hK => ?_)
 obtain ⟨a, b, c, r⟩ := s
 obtain ⟨n, rfl, I⟩ := hI
 dsimp only at I hK ⊢
 have ia := I.fa; have ib := I.fb; have i6 := I.n6; have il := I.len
 refine wp_ifd (fun h => ?_) (fun h => wp_some ?_)
 · refine wp_join (fun _ => True) (fun K2 hK2 => ?_) (fun w _ => ?_)
   · refine wp_ifd (fun h2 => wp_must (by omega) (hK2 _ trivial)) (fun _ => hK2 _ trivial)
   obtain ⟨z, ez, z0, z1⟩ := mod_eq w.x1 (m := 121) (by omega) (by omega)
   obtain ⟨u, eu, u0, u1⟩ := mod_eq w.x0 (m := 270) (by omega) (by omega)
   obtain ⟨y, ey, y0, y1⟩ := mod_eq w.x2 (m := 60) (by omega) (by omega)
   refine wp_bindE ez (wp_mustI (by omega) ?_)
   refine wp_join (fun d : Row => d.Minute = (if n = 5 then 1439 else a) ∧ (d.Height.Den = 2 ∧ -60 ≤ d.Height.Num ∧ d.Height.Num ≤ 60) ∧ d.Bearing = ⟨b, 1⟩) (fun K2 hK2 => ?_) (fun d hd => ?_)
   · refine wp_ifd (fun h5 => hK2 _ ⟨?_, ⟨rfl, by dsimp only; omega, by dsimp only; omega⟩, rfl⟩) (fun h5 => hK2 _ ⟨?_, ⟨rfl, by dsimp only; omega, by dsimp only; omega⟩, rfl⟩)
     · rw [if_pos (by omega)]
     · rw [if_neg (by omega)]
   · refine wp_mustR (by rw [List.length_append, List.length_singleton]; omega) (wp_bindE eu (wp_mustI (by omega) (wp_mustI (by omega) (wp_bindE ey (wp_mustI (by omega) (wp_mustI (by omega) (hK _ ⟨n + 1, rfl, I.step (by omega) hd.1 hd.2.1 hd.2.2 ⟨u0, u1⟩ ⟨y0, y1⟩⟩ (by dsimp only; omega))))))))
 · have e : n = 6 := by omega
   subst e
   exact ⟨⟨rfl, rfl, rfl, rfl⟩, il, I.first (by omega), I.last rfl, fun i hi => I.mono i (by omega), I.hgt, I.brg, fun i hi => I.bup i (by omega), ⟨rfl, p0, p1⟩, by dsimp only; omega⟩
theorem gleams_eq : gasoliertop_gleams 20000 = some true := by kernel_rfl
theorem topMoon_true {F : Nat} (hF : 20000000 < F) (x : gasoliertop_Heaven) (h1 : x.Rows.length ≤ 1000000000000000000) (h2 : x.Roofs.length ≤ 1000000000000000000) (h3 : x.Looks.length ≤ 1000000000000000000) : gasoliertop_TopMoon F x = some true := by
 refine Wp.eq ?_
 unfold gasoliertop_TopMoon
 refine wp_bindE gleams_eq (wp_bind (sheetOf_wp hF x h1) (fun s H => ?_))
 have so := H.off; have sl := H.light
 obtain ⟨o, eo, o0, o1⟩ := mod_eq x.Off.x1 (m := 2 * s.Off.Num + 1) (by omega) (by omega)
 refine wp_mustI (by omega) (wp_mustI (by omega) (wp_bindE eo (wp_mustI (by omega) ?_)))
 generalize hoff : (⟨o - s.Off.Num, 10⟩ : Frac) = off
 have od : off.Den = 10 ∧ -s.Off.Num ≤ off.Num ∧ off.Num ≤ s.Off.Num := by rw [← hoff]; dsimp only; omega
 have ob : off.Den = 10 ∧ -3600 ≤ off.Num ∧ off.Num ≤ 3600 := by omega
 have hO : Fok off := ⟨by omega, by omega⟩
 refine wp_for (min x.Roofs.length 6) (by omega) (fun i l => l.length = i ∧ ∀ j, j < i → (0 ≤ (l.getD j default).From ∧ (l.getD j default).From < 300) ∧ ((l.getD j default).From < (l.getD j default).To ∧ (l.getD j default).To ≤ 360) ∧ (0 ≤ (l.getD j default).Top ∧ (l.getD j default).Top < 30)) ⟨rfl, fun j hj => by omega⟩ (fun i l K hi hI hK => ?_)
 obtain ⟨l1, l2⟩ := hI
 dsimp only at hK ⊢
 by_cases hlt : i < min x.Roofs.length 6
 · refine wp_true (by rw [decide_eq_true (show (i : Int) < ((x.Roofs.length : Nat) : Int) by omega), decide_eq_true (show (i : Int) < 6 by omega)]; rfl) ?_
   rw [Int.toNat_natCast]
   obtain ⟨a, ea, a0, a1⟩ := mod_eq (x.Roofs.getD i default).x0 (m := 300) (by omega) (by omega)
   obtain ⟨b, eb, b0, b1⟩ := mod_eq (x.Roofs.getD i default).x1 (m := 60) (by omega) (by omega)
   obtain ⟨c, ec, c0, c1⟩ := mod_eq (x.Roofs.getD i default).x2 (m := 30) (by omega) (by omega)
   refine wp_must (by omega) (wp_bindE ea (wp_mustI (by omega) (wp_must (by omega) (wp_bindE eb (wp_mustI (by omega) (wp_must (by omega) (wp_bindE ec (wp_mustR (by rw [List.length_append, List.length_singleton]; omega) (wp_mustI (by omega) (hK _ hlt ⟨by rw [List.length_append, List.length_singleton, l1], fun j hj => ?_⟩))))))))))
   rw [getD_snoc]
   by_cases hj2 : j = l.length
   · rw [if_pos hj2]; dsimp only; omega
   · rw [if_neg hj2]; exact l2 j (by omega)
 refine wp_false ?_ ?_
 · rcases Nat.lt_or_ge i 6 with h | h
   · rw [decide_eq_false (show ¬ (i : Int) < ((x.Roofs.length : Nat) : Int) by omega)]; rfl
   · rw [decide_eq_false (show ¬ (i : Int) < 6 by omega), Bool.and_false]
 have R : RfOk l := ⟨by omega, fun j hj => l2 j (by omega)⟩
 clear hK K hlt l2
 obtain ⟨M, hM⟩ := margin_ex hF H R
 have hA : ∀ m, 0 ≤ m ∧ m ≤ 1439 → gasoliertop_above F s l m off = some (decide (ltF ⟨0 - off.Num, off.Den⟩ (M m)), true) := fun m hm => above_eq hF hO hM H R ob hm
 refine wp_for (min x.Looks.length 8) (by omega) (fun i g => g.length = i ∧ ∀ j, j < i → ((g.getD j default).Source = 1 + (j : Int) ∧ (g.getD j default).Night = 5 ∧ (g.getD j default).Known = 0 ∧ (g.getD j default).Until = 0 ∧ 0 ≤ (g.getD j default).Minute ∧ (g.getD j default).Minute ≤ 1439) ∧ (g.getD j default).Above = decide (ltF ⟨0 - off.Num, off.Den⟩ (M (g.getD j default).Minute))) ⟨rfl, fun j hj => by omega⟩ (fun i2 g K hi2 hI hK => ?_)
 obtain ⟨g1, g2⟩ := hI
 dsimp only at hK ⊢
 by_cases hlt : i2 < min x.Looks.length 8
 · refine wp_true (by rw [decide_eq_true (show (i2 : Int) < ((x.Looks.length : Nat) : Int) by omega), decide_eq_true (show (i2 : Int) < 8 by omega)]; rfl) ?_
   rw [Int.toNat_natCast]
   obtain ⟨a, ea, a0, a1⟩ := mod_eq (x.Looks.getD i2 default) (m := 1440) (by omega) (by omega)
   refine wp_must (by omega) (wp_bindE ea (wp_bindE (hA a (by omega)) (wp_false rfl (wp_mustI (by omega) (wp_mustR (by rw [List.length_append, List.length_singleton]; omega) (wp_mustI (by omega) (hK _ hlt ⟨by rw [List.length_append, List.length_singleton, g1], fun j hj => ?_⟩)))))))
   rw [getD_snoc]
   by_cases hj2 : j = g.length
   · rw [if_pos hj2]
     have : j = i2 := by omega
     subst this
     exact ⟨⟨rfl, rfl, rfl, rfl, a0, by dsimp only; omega⟩, rfl⟩
   · rw [if_neg hj2]; exact g2 j (by omega)
 refine wp_false ?_ ?_
 · rcases Nat.lt_or_ge i2 8 with h | h
   · rw [decide_eq_false (show ¬ (i2 : Int) < ((x.Looks.length : Nat) : Int) by omega)]; rfl
   · rw [decide_eq_false (show ¬ (i2 : Int) < 8 by omega), Bool.and_false]
 have G : GtOk g := ⟨by omega, fun j hj => (g2 j (by omega)).1⟩
 have hT : ∀ j, j < g.length → (g.getD j default).Above = decide (ltF ⟨0 - off.Num, off.Den⟩ (M (g.getD j default).Minute)) := fun j hj => (g2 j (by omega)).2
 clear hK K hlt g2
 obtain ⟨p, hp, hL⟩ := look_ex hF H hO hM od R G hT
 refine wp_bind (whole_wp hF hO hM hp hL ⟨sl.1, sl.2.2.1⟩) (fun w hw => ?_)
 obtain ⟨L, e⟩ := w
 obtain ⟨w0, w1, w2, w3⟩ := hw
 dsimp only at w0 w1 w2 w3
 subst w0
 refine wp_onE rfl (check_eq hF H R G) (wp_onE rfl (checkSlip_eq hF hO hp hL ob) (wp_false rfl ?_))
 have hLr : 0 ≤ L.Lo ∧ L.Lo ≤ L.Hi ∧ L.Hi ≤ 1000 := by rcases w1 with rfl | rfl | rfl <;> (try dsimp only) <;> omega
 refine wp_loop (fun v => (300 ≤ v.2 ∧ v.2 ≤ 1091) ∧ (v.1 = true ↔ ∀ m : Int, 300 ≤ m → m < v.2 → ltF ⟨0 - off.Num, off.Den⟩ (M m))) (fun v => (1091 - v.2).toNat) (by dsimp only; omega) ⟨by dsimp only; omega, fun _ m h h' => by dsimp only at h'; omega, fun _ => rfl⟩ (fun v K hI hK => ?_)
 obtain ⟨whole, m⟩ := v
 obtain ⟨v1, v2⟩ := hI
 dsimp only at v1 v2 hK ⊢
 refine wp_ifd (fun h => ?_) (fun h => ?_)
 · refine wp_bindE (hA m (by omega)) (wp_bind (Above_wp hF hO hM hp hL (by omega)) (fun r hr => ?_))
   obtain ⟨r0, r1, r2⟩ := hr
   by_cases hb : ltF ⟨0 - off.Num, off.Den⟩ (M m)
   · refine wp_false ?_ (wp_mustI (by omega) (hK _ ⟨by dsimp only; omega, ?_⟩ (by dsimp only; omega)))
     · have : ¬ r.1 = 0 := fun q => r2 q hb
       rw [r0, decide_eq_true hb, decide_eq_false this]; simp
     · dsimp only
       rw [decide_eq_true hb, Bool.and_true, v2]
       exact ⟨fun q m' a b => by
         by_cases e : m' = m
         · rw [e]; exact hb
         · exact q m' a (by omega), fun q m' a b => q m' a (by omega)⟩
   · refine wp_false ?_ (wp_mustI (by omega) (hK _ ⟨by dsimp only; omega, ?_⟩ (by dsimp only; omega)))
     · have : ¬ r.1 = 1 := fun q => hb (r1 q)
       rw [r0, decide_eq_false hb, decide_eq_false this]; simp
     · dsimp only
       rw [decide_eq_false hb, Bool.and_false]
       exact ⟨fun q => (by cases q), fun q => absurd (q m v1.1 (by omega)) hb⟩
 · have em : m = 1091 := by omega
   subst em
   clear hK K
   refine wp_join (fun y : Int => L.Lo ≤ y ∧ y ≤ L.Hi) (fun K hK => ?_) (fun y hy => ?_)
   · cases whole with
     | true =>
       obtain ⟨y, ey, y0, y1⟩ := mod_eq x.Light.x2 (m := s.Light.Hi - s.Light.Lo + 1) (by omega) (by omega)
       have q := w2 (.inr (fun m a b => v2.1 rfl m a (by omega)))
       refine wp_true rfl (wp_mustI (by omega) (wp_mustI (by omega) (wp_bindE ey (wp_mustI (by omega) (hK _ ?_)))))
       rcases q with rfl | rfl <;> (try dsimp only) <;> omega
     | false =>
       have q := w3 (by
         apply Classical.byContradiction
         intro hn
         have : false = true := v2.2 (fun m a b => Classical.byContradiction (fun q => hn ⟨m, a, by omega, q⟩))
         cases this)
       refine wp_false rfl (hK _ ?_)
       rcases q with rfl | rfl <;> (try dsimp only) <;> omega
   · obtain ⟨t, et, t0, t1⟩ := mod_eq x.Moon (m := 1002) (by omega) (by omega)
     obtain ⟨u, eu, u0, u1⟩ := mod_eq x.Moon (m := 11) (by omega) (by omega)
     obtain ⟨v, ev, v0, v1'⟩ := mod_eq x.Light.x0 (m := 11) (by omega) (by omega)
     have ht : 0 ≤ t ∧ t ≤ 1001 := by omega
     refine wp_bindE et (wp_bindE (mLit_eq ht hLr) (wp_bindE eu (wp_mustI (by omega) (wp_bindE ev (wp_mustI (by omega) (wp_bindE (mTrue_wp ht ⟨u0, u1⟩ ⟨v0, v1'⟩ (by omega) (.inl rfl)) ?_))))))
     rw [if_pos rfl]
     dsimp only
     refine wp_false ?_ ?_
     · rw [decide_eq_false (show ¬ y < L.Lo by omega), decide_eq_false (show ¬ L.Hi < y by omega)]
       unfold litM
       by_cases c1 : L.Hi < t
       · rw [if_pos c1, decide_eq_false (show ¬ t ≤ y by omega)]; rfl
       · rw [if_neg c1]
         by_cases c2 : t ≤ L.Lo
         · rw [if_pos c2, decide_eq_true (show t ≤ y by omega)]; rfl
         · rw [if_neg c2]; rfl
     · refine wp_ifd (fun _ => wp_some rfl) (fun hne => ?_)
       refine wp_bindE (mDuty_eq ht hLr hne) (wp_bindE (mTrue_wp ht ⟨u0, u1⟩ ⟨v0, v1'⟩ (by omega) (.inr rfl)) (wp_some ?_))
       rw [if_neg (show ¬ ((⟨315, 1075⟩ : Times) = ⟨-1, -1⟩) by decide)]; rfl
end Go.Sp
end
