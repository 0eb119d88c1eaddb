/- Texts of the framework, or of the plain law, one behind another. -/
import Derived.Test.YtoekhnngdocddaaFr1
import Derived.Test.YtoekhnngdocddaaFr4
import Derived.KernelRfl
/- Rules for plain laws: what a printed definition yields. No program in sight. -/
section
set_option linter.all false
namespace Go.Sp
open Go.Av
def Wp {R : Type} (x : Option R) (P : R → Prop) : Prop := ∃ r, x = some r ∧ P r
theorem Wp.eq {R : Type} {x : Option R} {v : R} (h : Wp x (· = v)) : x = some v := by
 obtain ⟨r, h1, h2⟩ := h; rw [h1, h2]
theorem Wp.of_eq {R : Type} {x : Option R} {v : R} {P : R → Prop} (h : x = some v) (hp : P v) : Wp x P := ⟨v, h, hp⟩
theorem Wp.mono {R : Type} {x : Option R} {P Q : R → Prop} (h : Wp x P) (hp : ∀ r, P r → Q r) : Wp x Q := by
 obtain ⟨r, h1, h2⟩ := h; exact ⟨r, h1, hp r h2⟩
theorem wp_some {R : Type} {r : R} {P : R → Prop} (h : P r) : Wp (some r) P := ⟨r, rfl, h⟩
theorem wp_must {R : Type} {c : Prop} [Decidable c] {x : Option R} {P : R → Prop} (h : c) (k : Wp x P) : Wp (must c x) P := by
 unfold must; rw [if_pos h]; exact k
theorem wp_bind {S R : Type} {x : Option S} {k : S → Option R} {P : R → Prop} {Q : S → Prop} (h : Wp x Q) (hk : ∀ s, Q s → Wp (k s) P) : Wp (bindO x k) P := by
 obtain ⟨r, h1, h2⟩ := h; rw [h1]; exact hk r h2
theorem wp_bindE {S R : Type} {x : Option S} {k : S → Option R} {P : R → Prop} {v : S} (h : x = some v) (hk : Wp (k v) P) : Wp (bindO x k) P := by
 rw [h]; exact hk
theorem wp_bif {R : Type} {b : Bool} {x y : Option R} {P : R → Prop} (h1 : b = true → Wp x P) (h2 : b = false → Wp y P) : Wp (bif b then x else y) P := by
 cases b
 · exact h2 rfl
 · exact h1 rfl
theorem wp_if {R : Type} {p : Prop} {b : Bool} {x y : Option R} {P : R → Prop} (hb : b = true ↔ p) (h1 : p → Wp x P) (h2 : ¬ p → Wp y P) : Wp (bif b then x else y) P :=
 wp_bif (fun h => h1 (hb.1 h)) (fun h => h2 (fun hp => by rw [hb.2 hp] at h; cases h))
theorem wp_ifd {R : Type} {p : Prop} [Decidable p] {x y : Option R} {P : R → Prop} (h1 : p → Wp x P) (h2 : ¬ p → Wp y P) : Wp (bif (decide p) then x else y) P :=
 wp_if (decide_eq_true_iff) h1 h2
theorem wp_ifn {R : Type} {p : Prop} [Decidable p] {x y : Option R} {P : R → Prop} (h1 : ¬ p → Wp x P) (h2 : p → Wp y P) : Wp (bif (!decide p) then x else y) P :=
 wp_bif (fun h => h1 (by simpa using h)) (fun h => h2 (by simpa using h))
theorem wp_true {R : Type} {b : Bool} {x y : Option R} {P : R → Prop} (h : b = true) (h1 : Wp x P) : Wp (bif b then x else y) P := by rw [h]; exact h1
theorem wp_false {R : Type} {b : Bool} {x y : Option R} {P : R → Prop} (h : b = false) (h1 : Wp y P) : Wp (bif b then x else y) P := by rw [h]; exact h1
theorem wp_range {S R : Type} {body : Nat → S → (S → Option R) → Option R} {ex : S → Option R} {n : Nat} {s0 : S} {P : R → Prop} (Inv : Nat → S → Prop) (h0 : Inv 0 s0)
   (hb : ∀ (i : Nat) s (K : S → Option R), i < n → Inv i s → (∀ s', Inv (i + 1) s' → Wp (K s') P) → Wp (body i s K) P) (he : ∀ s, Inv n s → Wp (ex s) P) : Wp (rangeGo body ex n 0 s0) P := by
 have go : ∀ (m i : Nat), i + m = n → ∀ s, Inv i s → Wp (rangeGo body ex m i s) P := by
   intro m
   induction m with
   | zero => intro i hi s hs; have e : i = n := by omega
             subst e; exact he s hs
   | succ m ih => intro i hi s hs; exact hb i s _ (by omega) hs (fun s' h' => ih (i + 1) (by omega) s' h')
 exact go n 0 (by omega) s0 h0
theorem wp_loop {S R : Type} {body : S → (S → Option R) → Option R} {fuel : Nat} {s0 : S} {P : R → Prop} (Inv : S → Prop) (μ : S → Nat) (hf : μ s0 < fuel) (h0 : Inv s0)
   (hb : ∀ s (K : S → Option R), Inv s → (∀ s', Inv s' → μ s' < μ s → Wp (K s') P) → Wp (body s K) P) : Wp (loopGo body fuel s0) P := by
 have go : ∀ (f : Nat) s, Inv s → μ s < f → Wp (loopGo body f s) P := by
   intro f
   induction f with
   | zero => intro s _ h; omega
   | succ f ih => intro s hs hm; exact hb s _ hs (fun s' h' hl => ih s' h' (by omega))
 exact go fuel s0 h0 hf
theorem wp_for {S R : Type} {body : (Int × S) → ((Int × S) → Option R) → Option R} {fuel : Nat} {s0 : S} {P : R → Prop} (n : Nat) (hf : n < fuel) (Inv : Nat → S → Prop) (h0 : Inv 0 s0)
   (hb : ∀ (i : Nat) s (K : (Int × S) → Option R), i ≤ n → Inv i s → (∀ s', i < n → Inv (i + 1) s' → Wp (K ((i : Int) + 1, s')) P) → Wp (body ((i : Int), s) K) P) : Wp (loopGo body fuel (0, s0)) P := by
 have go : ∀ (f i : Nat) s, i ≤ n → n - i < f → Inv i s → Wp (loopGo body f ((i : Int), s)) P := by
   intro f
   induction f with
   | zero => intro i s _ h; omega
   | succ f ih => intro i s hi hm hs; exact hb i s _ hi hs (fun s' hl h' => ih (i + 1) s' (by omega) (by omega) h')
 exact go fuel 0 s0 (by omega) (by omega) h0
theorem wp_for1 {R : Type} {body : Int → (Int → Option R) → Option R} {fuel : Nat} {P : R → Prop} (n : Nat) (hf : n < fuel) (Inv : Nat → Prop) (h0 : Inv 0)
   (hb : ∀ (i : Nat) (K : Int → Option R), i ≤ n → Inv i → (i < n → Inv (i + 1) → Wp (K ((i : Int) + 1)) P) → Wp (body (i : Int) K) P) : Wp (loopGo body fuel 0) P := by
 have go : ∀ (f i : Nat), i ≤ n → n - i < f → Inv i → Wp (loopGo body f (i : Int)) P := by
   intro f
   induction f with
   | zero => intro i _ h; omega
   | succ f ih => intro i hi hm hs; exact hb i _ hi hs (fun hl h' => ih (i + 1) (by omega) (by omega) h')
 exact go fuel 0 (by omega) (by omega) h0
end Go.Sp
end
/- More rules for plain laws. No program in sight. -/
section
set_option linter.all false
namespace Go.Sp
open Go.Av
theorem wp_mustI {R : Type} {n : Int} {x : Option R} {P : R → Prop} (h : -9223372036854775808 ≤ n ∧ n ≤ 9223372036854775807) (k : Wp x P) : Wp (must (inI n) x) P := wp_must h k
theorem wp_mustR {R : Type} {n b : Nat} {x : Option R} {P : R → Prop} (h : n * b ≤ 140737488355328 ∧ n ≤ 9223372036854775807) (k : Wp x P) : Wp (must (room n b) x) P := wp_must h k
end Go.Sp
end
/- Rules for plain laws, more of them. No program in sight. -/
section
set_option linter.all false
namespace Go.Sp
open Go.Av
theorem wp_forall {R : Type} {body : Nat → Unit → (Unit → Option R) → Option R} {ex : Unit → Option R} {n : Nat} {P : R → Prop} (good : Nat → Prop)
   (hb : ∀ (i : Nat) (K : Option R), i < n → (∀ j, j < i → good j) → (good i → Wp K P) → Wp (body i () (fun _ => K)) P) (he : (∀ j, j < n → good j) → Wp (ex ()) P) : Wp (rangeGo body ex n 0 ()) P := by
 refine wp_range (fun i _ => ∀ j, j < i → good j) (fun j hj => by omega) (fun i s K hi hI hK => ?_) (fun s hs => he hs)
 have e : K = fun _ => K () := funext fun u => rfl
 rw [e]
 exact hb i (K ()) hi hI (fun g => hK () (fun j hj => by
   by_cases e : j = i
   · rw [e]; exact g
   · exact hI j (by omega)))
theorem wp_onE {S R : Type} {W : Bool} {x y : Option S} {k : S → Option R} {P : R → Prop} {v : S} (hW : W = true) (h : x = some v) (hk : Wp (k v) P) : Wp (bindO (bif W then x else y) k) P := by
 subst hW; rw [h]; exact hk
theorem must_yes {R : Type} {c : Prop} [Decidable c] (h : c) (x : Option R) : must c x = x := if_pos h
theorem getD_mem {T : Type} [Inhabited T] {l : List T} {i : Nat} (h : i < l.length) : l.getD i default ∈ l := by
 rw [List.getD_eq_getElem?_getD, List.getElem?_eq_getElem h]; exact List.getElem_mem h
theorem mem_getD {T : Type} [Inhabited T] {l : List T} {x : T} (h : x ∈ l) : ∃ i, i < l.length ∧ l.getD i default = x := by
 obtain ⟨i, hi, rfl⟩ := List.getElem_of_mem h
 exact ⟨i, hi, by rw [List.getD_eq_getElem?_getD, List.getElem?_eq_getElem hi]; rfl⟩
theorem getD_take {T : Type} (l : List T) (n i : Nat) (d : T) : (l.take n).getD i d = if i < n then l.getD i d else d := by
 simp only [List.getD_eq_getElem?_getD, List.getElem?_take]
 split <;> rfl
theorem ext_getD {T : Type} [Inhabited T] {l r : List T} (hl : l.length = r.length) (h : ∀ i, i < l.length → l.getD i default = r.getD i default) : l = r := by
 refine List.ext_getElem hl (fun i h1 h2 => ?_)
 have := h i h1
 rw [List.getD_eq_getElem?_getD, List.getD_eq_getElem?_getD, List.getElem?_eq_getElem h1, List.getElem?_eq_getElem h2] at this
 exact this
end Go.Sp
end
/- Plain laws, fog: valid reports, what a view is, contradictions, the sight. No program in sight. -/
section
set_option linter.all false
namespace Go.Sp
open Go.Av
set_option maxRecDepth 100000
structure RepOk (x : Report) : Prop where
 src : 1 ≤ x.Source ∧ x.Source ≤ 99999
 dist : 1 ≤ x.District ∧ x.District ≤ 9
 night : 0 ≤ x.Night ∧ x.Night ≤ 100000
 time : 0 ≤ x.From ∧ x.From ≤ x.To ∧ x.To ≤ 1439
 sight : 0 ≤ x.Sight.Lo ∧ x.Sight.Lo ≤ x.Sight.Hi ∧ x.Sight.Hi ≤ 5000
 known : 0 ≤ x.Known ∧ x.Known ≤ 144001439
 till : x.Until = 0 ∨ (x.Known < x.Until ∧ 0 ≤ x.Until ∧ x.Until ≤ 144001439)
theorem fwithin_iff {a b c : Int} : fog_within a b c = true ↔ b ≤ a ∧ a ≤ c := by simp [fog_within]
theorem fcheck_or (x : Report) : fog_CheckReport x = 0 ∨ fog_CheckReport x = 50 := by
 unfold fog_CheckReport
 cases (((((((!(fog_within x.Source 1 99999)) || (!(fog_isDistrict x.District))) || (!(fog_isNight x.Night))) || (!(fog_isRange (⟨x.From, x.To⟩ : Range) 1439))) || (!(fog_isRange x.Sight 5000))) || (!(fog_isMoment x.Known))) || ((!decide (x.Until = 0)) && ((decide (x.Until ≤ x.Known)) || (!(fog_isMoment x.Until)))))
 · exact .inl rfl
 · exact .inr rfl
theorem frange_iff {r : Range} {c : Int} : fog_isRange r c = true ↔ 0 ≤ r.Lo ∧ r.Lo ≤ r.Hi ∧ r.Hi ≤ c := by simp [fog_isRange, and_assoc]
theorem fcheckReport_iff {x : Report} : fog_CheckReport x = 0 ↔ RepOk x := by
 have e : (bif (((((((!(fog_within x.Source 1 99999)) || (!(fog_isDistrict x.District))) || (!(fog_isNight x.Night))) || (!(fog_isRange (⟨x.From, x.To⟩ : Range) 1439))) || (!(fog_isRange x.Sight 5000))) || (!(fog_isMoment x.Known))) || ((!decide (x.Until = 0)) && ((decide (x.Until ≤ x.Known)) || (!(fog_isMoment x.Until))))) then (50 : Int) else 0) = 0 ↔ (((((((!(fog_within x.Source 1 99999)) || (!(fog_isDistrict x.District))) || (!(fog_isNight x.Night))) || (!(fog_isRange (⟨x.From, x.To⟩ : Range) 1439))) || (!(fog_isRange x.Sight 5000))) || (!(fog_isMoment x.Known))) || ((!decide (x.Until = 0)) && ((decide (x.Until ≤ x.Known)) || (!(fog_isMoment x.Until))))) = false := by
   generalize (((((((!(fog_within x.Source 1 99999)) || (!(fog_isDistrict x.District))) || (!(fog_isNight x.Night))) || (!(fog_isRange (⟨x.From, x.To⟩ : Range) 1439))) || (!(fog_isRange x.Sight 5000))) || (!(fog_isMoment x.Known))) || ((!decide (x.Until = 0)) && ((decide (x.Until ≤ x.Known)) || (!(fog_isMoment x.Until))))) = b
   cases b <;> simp
 unfold fog_CheckReport
 rw [e]
 simp only [fog_isDistrict, fog_isNight, fog_isMoment, Bool.or_eq_false_iff, Bool.and_eq_false_iff, Bool.not_eq_false', fwithin_iff, frange_iff, decide_eq_true_eq, decide_eq_false_iff_not]
 constructor
 · rintro ⟨⟨⟨⟨⟨⟨h1, h2⟩, h3⟩, h4⟩, h5⟩, h6⟩, h7⟩
   exact ⟨h1, h2, h3, h4, h5, h6, by rcases h7 with h7 | h7 <;> omega⟩
 · rintro ⟨h1, h2, h3, h4, h5, h6, h7⟩
   exact ⟨⟨⟨⟨⟨⟨h1, h2⟩, h3⟩, h4⟩, h5⟩, h6⟩, by omega⟩
def rp (l : List Report) (i : Nat) : Report := l.getD i default
structure RepsOk (l : List Report) : Prop where
 len : l.length ≤ 60
 all : ∀ i, i < l.length → RepOk (rp l i) ∧ (0 < i → (rp l (i - 1)).Source < (rp l i).Source)
theorem fcompare_nonneg (a b : Report) : 0 ≤ fog_compare a b ↔ b.Source ≤ a.Source := by
 unfold fog_compare cmp_Compare_int cmp_isNaN_int
 by_cases h1 : a.Source < b.Source
 · simp [h1]
 · by_cases h2 : b.Source < a.Source <;> simp [h1, h2] <;> omega
theorem fcheck_wp (l : List Report) : Wp (fog_Check l) (fun r => (RepsOk l ∧ r = 0) ∨ (¬ RepsOk l ∧ r = 51)) := by
 unfold fog_Check
 refine wp_ifd (fun h => wp_some (.inr ⟨fun V => by have := V.len; omega, rfl⟩)) (fun h => ?_)
 refine wp_forall (fun i => RepOk (rp l i) ∧ (0 < i → (rp l (i - 1)).Source < (rp l i).Source)) (fun i K hi _ hK => ?_) (fun h1 => wp_some (.inl ⟨⟨by omega, h1⟩, rfl⟩))
 refine wp_must (fun _ => by unfold inI; omega) ?_
 refine wp_must (fun h => by simp at h; omega) ?_
 have e : (((i : Int) - 1)).toNat = i - 1 := by omega
 rw [e]
 refine wp_bif (fun hb => wp_some (.inr ⟨fun V => ?_, rfl⟩)) (fun hb => ?_)
 · obtain ⟨a1, a2⟩ := V.all i hi
   unfold rp at a1 a2
   have a3 := fcheckReport_iff.2 a1
   simp only [a3, Bool.or_eq_true, Bool.and_eq_true, decide_eq_true_eq, Bool.not_eq_true', fcompare_nonneg] at hb
   rcases hb with hb | hb
   · simp at hb
   · have := a2 (by omega); omega
 · simp only [Bool.or_eq_false_iff, Bool.and_eq_false_iff, Bool.not_eq_false', decide_eq_true_eq, decide_eq_false_iff_not, fcompare_nonneg] at hb
   refine hK ⟨fcheckReport_iff.1 hb.1, fun h0 => ?_⟩
   unfold rp
   rcases hb.2 with h | h <;> omega
theorem fcheck_ok {l : List Report} (h : RepsOk l) : fog_Check l = some 0 := by
 obtain ⟨r, e, h1 | h1⟩ := fcheck_wp l
 · rw [e, h1.2]
 · exact absurd h h1.1
theorem fcheck_bad {l : List Report} (h : ¬ RepsOk l) : fog_Check l = some 51 := by
 obtain ⟨r, e, h1 | h1⟩ := fcheck_wp l
 · exact absurd h1.1 h
 · rw [e, h1.2]
theorem indexFunc_eq {T : Type} [Inhabited T] {p : T → Option Bool} {q : T → Bool} (hp : ∀ x, p x = some (q x)) (l : List T) :
   (rangeGo (fun i1 (s1 : Unit) k1 => bindO (p (l.getD i1 default)) fun y3 => (bif y3 then some (i1 : Int) else k1 ())) (fun (s1 : Unit) => some (-1)) l.length 0 () : Option Int) = some (match l.findIdx? q with | some i => (i : Int) | none => -1) := by
 refine (wp_forall (P := fun r => r = (match l.findIdx? q with | some i => (i : Int) | none => -1)) (fun i => q (l.getD i default) = false) (fun i K hi hb hK => ?_) (fun h1 => ?_)).eq
 · rw [hp]
   refine wp_bif (fun h => wp_some ?_) (fun h => hK h)
   have : l.findIdx? q = some i := by
     rw [List.findIdx?_eq_some_iff_getElem]
     refine ⟨hi, ?_, fun j hj => ?_⟩
     · rw [List.getD_eq_getElem?_getD, List.getElem?_eq_getElem hi] at h; exact h
     · have := hb j hj
       rw [List.getD_eq_getElem?_getD, List.getElem?_eq_getElem (by omega)] at this
       simpa using this
   rw [this]
 · refine wp_some ?_
   have : l.findIdx? q = none := by
     rw [List.findIdx?_eq_none_iff]
     intro x hx
     obtain ⟨i, hi, rfl⟩ := mem_getD hx
     exact h1 i hi
   rw [this]
theorem take_set_le {T : Type} {l : List T} {i : Nat} {x : T} (h : i < l.length) : (l.set i x).take (i + 1) = l.take i ++ [x] := by
 rw [List.take_add_one, List.getElem?_set_self h, List.take_set_of_le (Nat.le_refl _)]; rfl
theorem take_copyAt {T : Type} [Inhabited T] (l : List T) (a m : Nat) (f : Nat → T) (h : a ≤ l.length) : (copyAt l a m f).take a = l.take a := by
 refine ext_getD (by simp [copyAt]) (fun i hi => ?_)
 have hi' : i < a := by simp [copyAt] at hi; omega
 rw [getD_take, getD_take, if_pos hi', if_pos hi']
 unfold copyAt
 rw [List.getD_eq_getElem?_getD, List.getElem?_map, List.getElem?_range (by omega)]
 simp only [Option.map_some, Option.getD_some]
 rw [if_neg (by omega)]
theorem drop_getD {T : Type} [Inhabited T] {l : List T} {i : Nat} (h : i < l.length) : l.drop i = l.getD i default :: l.drop (i + 1) := by
 rw [List.getD_eq_getElem?_getD, List.getElem?_eq_getElem h]; exact List.drop_eq_getElem_cons h
theorem take_getD {T : Type} [Inhabited T] {l : List T} {i : Nat} (h : i < l.length) : l.take (i + 1) = l.take i ++ [l.getD i default] := by
 rw [List.take_add_one, List.getD_eq_getElem?_getD, List.getElem?_eq_getElem h]; rfl
theorem deleteFunc_eq {T : Type} [Inhabited T] (z : T) {p : T → Option Bool} {q : T → Bool} (hp : ∀ x, p x = some (q x)) (l : List T) (fuel : Nat) (hf : l.length < fuel) (hl : l.length < 9223372036854775807) :
   (bindO (rangeGo (fun i1 (s1 : Unit) k1 => bindO (p (l.getD i1 default)) fun y3 => (bif y3 then some (i1 : Int) else k1 ())) (fun (s1 : Unit) => some (-1)) l.length 0 () : Option Int) fun y1 => (bif (decide (y1 = (-1))) then some l else must (inI (y1 + 1)) <| (loopGo (fun (s5 : Int × Int × (List T)) k5 => (bif (decide (s5.2.1 < ((s5.2.2.length : Nat) : Int))) then must (0 ≤ (s5.2.1 : Int) ∧ (s5.2.1 : Int) < ((s5.2.2.length : Nat) : Int)) <| bindO (p (s5.2.2.getD (s5.2.1).toNat default)) fun y8 => (bif (!y8) then must (0 ≤ (s5.1 : Int) ∧ (s5.1 : Int) < ((s5.2.2.length : Nat) : Int)) <| must (inI (s5.1 + 1)) <| must (inI (s5.2.1 + 1)) <| k5 ((s5.1 + 1), (s5.2.1 + 1), (s5.2.2.set (s5.1).toNat (s5.2.2.getD (s5.2.1).toNat default))) else must (inI (s5.2.1 + 1)) <| k5 (s5.1, (s5.2.1 + 1), s5.2.2)) else must (0 < s5.2.2.length ∧ 0 ≤ (s5.1 : Int) ∧ (s5.1 : Int) ≤ ((s5.2.2.length : Nat) : Int)) <| must (0 < (copyAt s5.2.2 ((s5.1).toNat) (s5.2.2.length - (s5.1).toNat) (fun _ => z)).length ∧ 0 ≤ (s5.1 : Int) ∧ (s5.1 : Int) ≤ (((copyAt s5.2.2 ((s5.1).toNat) (s5.2.2.length - (s5.1).toNat) (fun _ => z)).length : Nat) : Int)) <| some ((copyAt s5.2.2 ((s5.1).toNat) (s5.2.2.length - (s5.1).toNat) (fun _ => z)).take ((s5.1).toNat)))) fuel (y1, (y1 + 1), l))) : Option (List T)) = some (l.filter (fun x => !q x)) := by
 rw [indexFunc_eq hp l]
 refine Wp.eq (wp_bindE rfl ?_)
 cases hi : l.findIdx? q with
 | none =>
   rw [List.findIdx?_eq_none_iff] at hi
   refine wp_true (by simp) (wp_some ?_)
   exact (List.filter_eq_self.2 (fun x hx => by rw [hi x hx]; rfl)).symm
 | some i =>
   rw [List.findIdx?_eq_some_iff_getElem] at hi
   obtain ⟨h1, h2, h3⟩ := hi
   refine wp_false (by simp) (wp_mustI (by simp only; omega) ?_)
   refine wp_loop (fun s => ∃ a b : Nat, s.1 = (a : Int) ∧ s.2.1 = (b : Int) ∧ a < b ∧ b ≤ l.length ∧ s.2.2.length = l.length ∧ s.2.2.take a = (l.take b).filter (fun x => !q x) ∧ s.2.2.drop b = l.drop b) (fun s => l.length - s.2.1.toNat) (by simp only; omega) ⟨i, i + 1, rfl, by simp, by omega, by omega, rfl, ?_, rfl⟩ ?_
   · rw [take_getD h1, List.filter_append]
     have e1 : (l.take i).filter (fun x => !q x) = l.take i := List.filter_eq_self.2 (fun x hx => by
       obtain ⟨j, hj, rfl⟩ := List.getElem_of_mem hx
       have hj' : j < i := by simp at hj; omega
       have := h3 j hj'
       simp only [List.getElem_take]
       simpa using this)
     have e2 : q (l.getD i default) = true := by rw [List.getD_eq_getElem?_getD, List.getElem?_eq_getElem h1]; exact h2
     rw [e1]; simp [e2, -List.getD_eq_getElem?_getD]
   · rintro ⟨s1, s2, s3⟩ K ⟨a, b, rfl, rfl, hab, hb, hlen, ht, hd⟩ hK
     simp only at hK ht hd hlen ⊢
     refine wp_ifd (fun hlt => ?_) (fun hge => ?_)
     · have hbl : b < l.length := by omega
       refine wp_must (by omega) ?_
       rw [hp]
       simp only [Int.toNat_natCast]
       have ex : s3.getD b default = l.getD b default := by
         have := drop_getD (l := s3) (i := b) (by omega)
         rw [hd, drop_getD hbl] at this
         exact (List.cons.inj this).1.symm
       have hd1 : s3.drop (b + 1) = l.drop (b + 1) := by
         have := drop_getD (l := s3) (i := b) (by omega)
         rw [hd, drop_getD hbl] at this
         exact (List.cons.inj this).2.symm
       refine wp_bindE rfl ?_
       rw [ex]
       refine wp_bif (fun hq => ?_) (fun hq => ?_)
       · refine wp_must (by omega) (wp_mustI (by omega) (wp_mustI (by omega) ?_))
         refine hK _ ⟨a + 1, b + 1, by simp, by simp, by omega, by omega, by simp [hlen], ?_, ?_⟩ (by simp only; omega)
         · rw [take_set_le (by omega), ht, take_getD hbl, List.filter_append]
           simp only [Bool.not_eq_true'] at hq
           simp [hq, -List.getD_eq_getElem?_getD]
         · rw [List.drop_set_of_lt (by omega)]; exact hd1
       · refine wp_mustI (by omega) (hK _ ⟨a, b + 1, rfl, by simp, by omega, by omega, hlen, ?_, hd1⟩ (by simp only; omega))
         rw [ht, take_getD hbl, List.filter_append]
         simp only [Bool.not_eq_false'] at hq
         simp [hq, -List.getD_eq_getElem?_getD]
     · refine wp_must (by omega) (wp_must ?_ (wp_some ?_))
       · rw [length_copyAt]; omega
       · simp only [Int.toNat_natCast]
         rw [take_copyAt _ _ _ _ (by omega), ht, List.take_of_length_le (by omega)]
def seen (d n m : Int) (x : Report) : Bool := (decide (x.District = d) && decide (x.Night = n)) && fog_counts x m
def seeL (l : List Report) (d n m : Int) : List Report := l.filter (seen d n m)
theorem fsee_eq (fuel : Nat) (l : List Report) (d n m : Int) (h : l.length ≤ 60) (hf : 60 < fuel) : fog_see fuel l d n m = some (seeL l d n m) := by
 unfold fog_see slices_Clone_Report
 refine Wp.eq (wp_bind (Q := fun r => r = l) (wp_mustR (by simp; omega) (wp_some (by simp))) ?_)
 rintro s rfl
 have e := deleteFunc_eq (⟨0, 0, 0, 0, 0, (⟨0, 0⟩ : Range), 0, 0⟩ : Report) (p := fun x0 => some (fog_see_1 x0 d n m)) (q := fun x => fog_see_1 x d n m) (fun _ => rfl) s fuel (by omega) (by omega)
 refine wp_bindE (v := s.filter (fun x => !fog_see_1 x d n m)) e (wp_some ?_)
 unfold seeL
 congr 1
 funext x
 unfold fog_see_1 seen
 cases decide (x.District = d) <;> cases decide (x.Night = n) <;> cases fog_counts x m <;> rfl
def pairL : List Report → Option (Report × Report)
 | [] => none
 | a :: l => match l.find? (fun b => fog_clash a b) with
   | some b => some (a, b)
   | none => pairL l
def pairR (l : List Report) : List Int × Bool := match pairL l with
 | some (a, b) => ([a.Source, b.Source], true)
 | none => ([], false)
theorem find_range {T R : Type} [Inhabited T] {l : List T} {q : T → Bool} {body : Nat → Unit → (Unit → Option R) → Option R} {ex : Unit → Option R} (f : T → Option R)
   (hb : ∀ (i : Nat) (K : Option R), i < l.length → body i () (fun _ => K) = bif q (l.getD i default) then f (l.getD i default) else K) :
   rangeGo body ex l.length 0 () = match l.find? q with | some x => f x | none => ex () := by
 have go : ∀ (m i : Nat), i + m = l.length → rangeGo body ex m i () = match (l.drop i).find? q with | some x => f x | none => ex () := by
   intro m
   induction m with
   | zero => intro i hi; rw [List.drop_of_length_le (by omega)]; rfl
   | succ m ih =>
     intro i hi
     have e : rangeGo body ex (m + 1) i () = body i () (fun u => rangeGo body ex m (i + 1) u) := rfl
     have e2 : (fun u => rangeGo body ex m (i + 1) u) = fun _ => rangeGo body ex m (i + 1) () := by funext u; rfl
     rw [e, e2, hb i _ (by omega), drop_getD (by omega : i < l.length), List.find?_cons, ih (i + 1) (by omega)]
     cases q (l.getD i default) <;> rfl
 have := go l.length 0 (by omega)
 rw [List.drop_zero] at this
 exact this
theorem fpair_eq (l : List Report) (hl : l.length ≤ 9223372036854775807) : fog_view__pair l = some (pairR l) := by
 unfold fog_view__pair
 have go : ∀ (m i : Nat), i + m = l.length → rangeGo (fun i1 (s1 : Unit) k1 => must ((0 : Int) ≤ ((i1 : Int) + 1) ∧ (((i1 : Int) + 1) : Int) ≤ ((l.length : Nat) : Int)) <| (rangeGo (fun i4 (s4 : Unit) k4 => (bif (fog_clash (l.getD i1 default) ((l.drop (((i1 : Int) + 1)).toNat).getD i4 default)) then some (([(l.getD i1 default).Source, ((l.drop (((i1 : Int) + 1)).toNat).getD i4 default).Source] : List Int), true) else k4 ())) (fun (s4 : Unit) => k1 ()) ((l.drop (((i1 : Int) + 1)).toNat).length) 0 ())) (fun (s1 : Unit) => some ([], false)) m i () = some (pairR (l.drop i)) := by
   intro m
   induction m with
   | zero => intro i hi; rw [List.drop_of_length_le (by omega)]; rfl
   | succ m ih =>
     intro i hi
     have hlt : i < l.length := by omega
     conv => lhs; unfold rangeGo
     have et : ((i : Int) + 1).toNat = i + 1 := by omega
     rw [must_yes (by omega), et, ih (i + 1) (by omega)]
     rw [find_range (l := l.drop (i + 1)) (q := fun b => fog_clash (l.getD i default) b) (fun b => some ([(l.getD i default).Source, b.Source], true)) (fun j K _ => rfl)]
     rw [drop_getD hlt]
     conv => rhs; unfold pairR pairL
     cases (l.drop (i + 1)).find? (fun b => fog_clash (l.getD i default) b) with
     | none => rfl
     | some b => rfl
 have := go l.length 0 (by omega)
 rw [List.drop_zero] at this
 exact this
theorem pairR_two (l : List Report) : (pairR l).2 = (pairL l).isSome := by
 unfold pairR; cases pairL l <;> rfl
end Go.Sp
end
/- Plain laws, fog: what is told of a clear district. No program in sight. -/
section
set_option linter.all false
namespace Go.Sp
open Go.Av
set_option maxRecDepth 100000
def argOk (q : fog_query) : Prop := 1 ≤ q.district ∧ q.district ≤ 9 ∧ 0 ≤ q.minute ∧ q.minute ≤ 1439 ∧ 0 ≤ q.time.Lo ∧ q.time.Lo ≤ q.time.Hi ∧ q.time.Hi ≤ 1439 ∧ 1 ≤ q.limit ∧ q.limit ≤ 5000
def dayOk (n m : Int) : Prop := 0 ≤ n ∧ n ≤ 100000 ∧ 0 ≤ m ∧ m ≤ 144001439
instance (q : fog_query) : Decidable (argOk q) := inferInstanceAs (Decidable (_ ∧ _))
instance (n m : Int) : Decidable (dayOk n m) := inferInstanceAs (Decidable (_ ∧ _))
open Classical in
noncomputable def viewR (q : fog_query) (l : List Report) : List Report × Int :=
 if ¬ RepsOk l then ([], 51) else if ¬ argOk q then ([], 1) else if ¬ dayOk q.night q.moment then ([], 6) else (seeL l q.district q.night q.moment, 0)
open Classical in
theorem fview_eq (fuel : Nat) (q : fog_query) (l : List Report) (hf : 60 < fuel) : fog_query__view fuel q l = some (viewR q l) := by
 unfold fog_query__view viewR
 by_cases h : RepsOk l
 · rw [if_neg (by simp [h])]
   refine Wp.eq (wp_bindE (fcheck_ok h) ?_)
   refine wp_ifn (fun h => absurd rfl h) (fun _ => ?_)
   refine wp_if (p := ¬ argOk q) ?_ (fun ha => ?_) (fun ha => ?_)
   · unfold argOk
     simp only [fog_isDistrict, fog_isMinute, Bool.or_eq_true, Bool.not_eq_true', ← Bool.not_eq_true, fwithin_iff, frange_iff]
     omega
   · rw [if_pos ha]; exact wp_some rfl
   · rw [if_neg ha]
     refine wp_if (p := ¬ dayOk q.night q.moment) ?_ (fun hd => ?_) (fun hd => ?_)
     · unfold dayOk
       simp only [fog_isNight, fog_isMoment, Bool.or_eq_true, Bool.not_eq_true', ← Bool.not_eq_true, fwithin_iff]
       omega
     · rw [if_pos hd]; exact wp_some rfl
     · rw [if_neg hd]
       exact wp_bindE (fsee_eq fuel l _ _ _ h.len hf) (wp_some rfl)
 · rw [if_pos h]
   refine Wp.eq (wp_bindE (fcheck_bad h) ?_)
   exact wp_some rfl
theorem viewR_le (q : fog_query) (l : List Report) : (viewR q l).1.length ≤ 60 := by
 unfold viewR
 split
 · simp
 · split
   · simp
   · split
     · simp
     · rename_i h _ _
       have h : RepsOk l := Classical.byContradiction h
       exact Nat.le_trans (List.length_filter_le _ _) h.len
end Go.Sp
end
/- Plain laws, fog: the document's tests, views, contradictions and sights. No program in sight. -/
section
set_option linter.all false
namespace Go.Sp
open Go.Av
set_option maxRecDepth 100000
theorem rin_iff {a b c : Int} : gasolierref05_In a b c = true ↔ b ≤ a ∧ a ≤ c := by simp [gasolierref05_In]
theorem rcheckReport_eq (x : Report) : gasolierref05_CheckReport x = fog_CheckReport x := by
 have e1 : gasolierref05_CheckReport x = 0 ∨ gasolierref05_CheckReport x = 50 := by
   unfold gasolierref05_CheckReport
   generalize (((((!(((gasolierref05_In x.Source 1 99999) && (gasolierref05_In x.District 1 9)) && (gasolierref05_In x.Night 0 100000))) || (!(((decide (0 ≤ x.From)) && (decide (x.From ≤ x.To))) && (decide (x.To ≤ 1439))))) || (!(((decide (0 ≤ x.Sight.Lo)) && (decide (x.Sight.Lo ≤ x.Sight.Hi))) && (decide (x.Sight.Hi ≤ 5000))))) || (!(gasolierref05_isMoment x.Known))) || ((!decide (x.Until = 0)) && ((decide (x.Until ≤ x.Known)) || (!(gasolierref05_isMoment x.Until))))) = b
   cases b
   · exact .inl rfl
   · exact .inr rfl
 have e2 : gasolierref05_CheckReport x = 0 ↔ RepOk x := by
   unfold gasolierref05_CheckReport
   generalize hb : (((((!(((gasolierref05_In x.Source 1 99999) && (gasolierref05_In x.District 1 9)) && (gasolierref05_In x.Night 0 100000))) || (!(((decide (0 ≤ x.From)) && (decide (x.From ≤ x.To))) && (decide (x.To ≤ 1439))))) || (!(((decide (0 ≤ x.Sight.Lo)) && (decide (x.Sight.Lo ≤ x.Sight.Hi))) && (decide (x.Sight.Hi ≤ 5000))))) || (!(gasolierref05_isMoment x.Known))) || ((!decide (x.Until = 0)) && ((decide (x.Until ≤ x.Known)) || (!(gasolierref05_isMoment x.Until))))) = b
   have hb' : b = false ↔ RepOk x := by
     rw [← hb]
     simp only [gasolierref05_isMoment, Bool.or_eq_false_iff, Bool.and_eq_false_iff, Bool.not_eq_false', Bool.and_eq_true, rin_iff, decide_eq_true_eq, decide_eq_false_iff_not]
     constructor
     · rintro ⟨⟨⟨⟨⟨⟨h1, h2⟩, h3⟩, ⟨h4, h5⟩, h6⟩, ⟨h7, h8⟩, h9⟩, h10⟩, h11⟩
       exact ⟨h1, h2, h3, ⟨h4, h5, h6⟩, ⟨h7, h8, h9⟩, h10, by omega⟩
     · rintro ⟨h1, h2, h3, ⟨h4, h5, h6⟩, ⟨h7, h8, h9⟩, h10, h11⟩
       exact ⟨⟨⟨⟨⟨⟨h1, h2⟩, h3⟩, ⟨h4, h5⟩, h6⟩, ⟨h7, h8⟩, h9⟩, h10⟩, by omega⟩
   rw [← hb']
   cases b <;> simp
 rcases fcheck_or x with h | h
 · rw [h]; exact e2.2 (fcheckReport_iff.1 h)
 · rcases e1 with h1 | h1
   · have := fcheckReport_iff.2 (e2.1 h1); omega
   · rw [h, h1]
theorem rcheck_wp {fuel : Nat} (l : List Report) (hf : 61 < fuel) : Wp (gasolierref05_Check fuel l) (fun r => (RepsOk l ∧ r = 0) ∨ (¬ RepsOk l ∧ r = 51)) := by
 unfold gasolierref05_Check
 refine wp_ifd (fun h => wp_some (.inr ⟨fun V => by have := V.len; omega, rfl⟩)) (fun h => ?_)
 refine wp_for1 l.length (by omega) (fun i => ∀ j, j < i → RepOk (rp l j) ∧ (0 < j → (rp l (j - 1)).Source < (rp l j).Source)) (fun j hj => by omega) (fun i K hi hI hK => ?_)
 refine wp_ifd (fun hlt => ?_) (fun hge => wp_some (.inl ⟨⟨by omega, fun j hj => hI j (by omega)⟩, rfl⟩))
 have hi' : i < l.length := by omega
 refine wp_must (by omega) (wp_must (fun _ => by unfold inI; omega) (wp_must (fun h => by simp at h; omega) (wp_must (fun _ => by omega) ?_)))
 have e : (((i : Int) - 1)).toNat = i - 1 := by omega
 rw [e]
 simp only [Int.toNat_natCast, rcheckReport_eq]
 refine wp_bif (fun hb => wp_some (.inr ⟨fun V => ?_, rfl⟩)) (fun hb => ?_)
 · obtain ⟨a1, a2⟩ := V.all i hi'
   unfold rp at a1 a2
   have a3 := fcheckReport_iff.2 a1
   simp only [a3, Bool.or_eq_true, Bool.and_eq_true, decide_eq_true_eq, Bool.not_eq_true'] at hb
   rcases hb with hb | hb
   · simp at hb
   · have := a2 (by omega); omega
 · simp only [Bool.or_eq_false_iff, Bool.and_eq_false_iff, Bool.not_eq_false', decide_eq_true_eq, decide_eq_false_iff_not] at hb
   refine wp_mustI (by omega) (hK hi' (fun j hj => ?_))
   by_cases ej : j = i
   · subst ej
     refine ⟨fcheckReport_iff.1 hb.1, fun h0 => ?_⟩
     unfold rp
     rcases hb.2 with h | h <;> omega
   · exact hI j (by omega)
theorem rcheck_ok {fuel : Nat} {l : List Report} (hf : 61 < fuel) (h : RepsOk l) : gasolierref05_Check fuel l = some 0 := by
 obtain ⟨r, e, h1 | h1⟩ := rcheck_wp l hf
 · rw [e, h1.2]
 · exact absurd h h1.1
theorem rcheck_bad {fuel : Nat} {l : List Report} (hf : 61 < fuel) (h : ¬ RepsOk l) : gasolierref05_Check fuel l = some 51 := by
 obtain ⟨r, e, h1 | h1⟩ := rcheck_wp l hf
 · exact absurd h1.1 h
 · rw [e, h1.2]
theorem rof_eq {fuel : Nat} (l : List Report) (a : gasolierref05_At) (hl : l.length ≤ 60) (hf : 61 < fuel) : gasolierref05_of fuel l a = some (seeL l a.District a.Night a.Moment) := by
 unfold gasolierref05_of
 refine (wp_for (P := fun r => r = seeL l a.District a.Night a.Moment) l.length (by omega) (fun i s => s = (l.take i).filter (seen a.District a.Night a.Moment)) (by simp) (fun i s K hi hI hK => ?_)).eq
 simp only at hK ⊢
 refine wp_ifd (fun hlt => ?_) (fun hge => wp_some ?_)
 · have hi' : i < l.length := by omega
   refine wp_must (by omega) (wp_must (fun _ => by omega) (wp_must (fun _ => by omega) ?_))
   simp only [Int.toNat_natCast]
   have et : (l.take (i + 1)).filter (seen a.District a.Night a.Moment) = (l.take i).filter (seen a.District a.Night a.Moment) ++ (if seen a.District a.Night a.Moment (l.getD i default) then [l.getD i default] else []) := by
     rw [take_getD hi', List.filter_append]; simp only [List.filter_cons, List.filter_nil]
   have hlen : s.length ≤ 60 := by
     rw [hI]; exact Nat.le_trans (List.length_filter_le _ _) (by simp; omega)
   refine wp_bif (fun hb => ?_) (fun hb => ?_)
   · refine wp_must (by omega) (wp_mustR (by simp; omega) (wp_mustI (by omega) (hK _ hi' ?_)))
     rw [et, if_pos (show seen a.District a.Night a.Moment (l.getD i default) = true from hb), hI]
   · refine wp_mustI (by omega) (hK _ hi' ?_)
     rw [et, if_neg (by rw [show seen a.District a.Night a.Moment (l.getD i default) = false from hb]; simp), hI, List.append_nil]
 · rw [hI, List.take_of_length_le (by omega)]; rfl
theorem find_loop {fuel : Nat} (l : List Report) (a : Report) (j0 : Nat) (hj0 : j0 ≤ l.length) (hf : l.length < fuel) (hl : l.length ≤ 60) {R : Type} {P : R → Prop} {body : Int → (Int → Option R) → Option R} {out : Option R} {yes : Report → Option R}
   (hb : ∀ (j : Nat) (K : Int → Option R), j < l.length → (fog_clash a (l.getD j default) = true → Wp (yes (l.getD j default)) P → Wp (body (j : Int) K) P) ∧ (fog_clash a (l.getD j default) = false → Wp (K ((j : Int) + 1)) P → Wp (body (j : Int) K) P))
   (he : ∀ (K : Int → Option R), Wp out P → Wp (body (l.length : Int) K) P)
   (h : Wp (match (l.drop j0).find? (fun b => fog_clash a b) with | some b => yes b | none => out) P) : Wp (loopGo body fuel (j0 : Int)) P := by
 refine wp_loop (fun s => ∃ j : Nat, s = (j : Int) ∧ j ≤ l.length ∧ Wp (match (l.drop j).find? (fun b => fog_clash a b) with | some b => yes b | none => out) P) (fun s => l.length - s.toNat) (by simp only [Int.toNat_natCast]; omega) ⟨j0, rfl, hj0, h⟩ ?_
 rintro s K ⟨j, rfl, hj, hw⟩ hK
 by_cases hlt : j < l.length
 · rw [drop_getD hlt, List.find?_cons] at hw
   obtain ⟨h1, h2⟩ := hb j K hlt
   cases hc : fog_clash a (l.getD j default) with
   | true => rw [hc] at hw; exact h1 hc hw
   | false => rw [hc] at hw; exact h2 hc (hK _ ⟨j + 1, by simp, by omega, hw⟩ (by simp only [Int.toNat_natCast]; omega))
 · have ej : j = l.length := by omega
   subst ej
   rw [List.drop_length] at hw
   exact he K hw
theorem pairR_cons (a : Report) (v : List Report) : pairR (a :: v) = match v.find? (fun b => fog_clash a b) with | some b => ([a.Source, b.Source], true) | none => pairR v := by
 conv => lhs; unfold pairR pairL
 cases v.find? (fun b => fog_clash a b) with
 | some b => rfl
 | none => rfl
theorem rclash_eq {fuel : Nat} (l : List Report) (hl : l.length ≤ 60) (hf : 61 < fuel) : gasolierref05_clash fuel l = some (pairR l).1 := by
 unfold gasolierref05_clash
 refine (wp_for1 (P := fun r => r = (pairR l).1) l.length (by omega) (fun i => pairR (l.drop i) = pairR l) (by simp) (fun i K hi hI hK => ?_)).eq
 refine wp_ifd (fun hlt => ?_) (fun hge => wp_some ?_)
 · have hi' : i < l.length := by omega
   refine wp_mustI (by omega) ?_
   have e1 : (i : Int) + 1 = ((i + 1 : Nat) : Int) := by simp
   rw [e1]
   refine find_loop l (l.getD i default) (i + 1) (by omega) (by omega) hl (yes := fun b => some [(l.getD i default).Source, b.Source]) (out := K ((i : Int) + 1)) (fun j K' hj => ⟨fun hc hw => ?_, fun hc hw => ?_⟩) (fun K' hw => ?_) ?_
   · simp only [Int.toNat_natCast]
     refine wp_true (by simp; omega) (wp_must (by omega) (wp_must (by omega) (wp_true hc (wp_must (by omega) (wp_must (by omega) hw)))))
   · simp only [Int.toNat_natCast]
     refine wp_true (by simp; omega) (wp_must (by omega) (wp_must (by omega) (wp_false hc (wp_mustI (by omega) hw))))
   · refine wp_false (by simp) (wp_mustI (by omega) hw)
   · have hp := hI
     rw [drop_getD hi'] at hp
     rw [pairR_cons] at hp
     cases hf2 : (l.drop (i + 1)).find? (fun b => fog_clash (l.getD i default) b) with
     | some b =>
       rw [hf2] at hp
       simp only at hp ⊢
       refine wp_some ?_
       rw [← hp]
     | none =>
       rw [hf2] at hp
       simp only at hp ⊢
       exact hK hi' hp
 · have : i = l.length := by omega
   subst this
   rw [List.drop_length] at hI
   rw [← hI]; rfl
abbrev qOf (a : gasolierref05_At) (lo hi lim : Int) : fog_query := ⟨a.District, a.Night, a.Moment, 0, ⟨lo, hi⟩, lim⟩
theorem rasked_eq {fuel : Nat} (l : List Report) (a : gasolierref05_At) (t : gasolierref05_Time) (hf : 61 < fuel) : gasolierref05_asked fuel l a t = some (viewR (qOf a t.Lo t.Hi t.Limit) l).2 := by
 unfold gasolierref05_asked viewR
 by_cases h : RepsOk l
 · rw [if_neg (by simp [h])]
   refine Wp.eq (wp_bindE (rcheck_ok hf h) ?_)
   refine wp_ifn (fun h => absurd rfl h) (fun _ => ?_)
   refine wp_if (p := ¬ argOk (qOf a t.Lo t.Hi t.Limit)) ?_ (fun ha => ?_) (fun ha => ?_)
   · unfold argOk
     simp only [Bool.or_eq_true, Bool.not_eq_true', ← Bool.not_eq_true, rin_iff, decide_eq_true_eq]
     omega
   · rw [if_pos ha]; exact wp_some rfl
   · rw [if_neg ha]
     refine wp_if (p := ¬ dayOk a.Night a.Moment) ?_ (fun hd => ?_) (fun hd => ?_)
     · unfold dayOk
       simp only [gasolierref05_isMoment, Bool.or_eq_true, Bool.not_eq_true', ← Bool.not_eq_true, rin_iff]
       omega
     · rw [if_pos hd]; exact wp_some rfl
     · rw [if_neg hd]; exact wp_some rfl
 · rw [if_pos h]
   exact Wp.eq (wp_bindE (rcheck_bad hf h) (wp_some rfl))
theorem viewR_zero {q : fog_query} {l : List Report} (h : (viewR q l).2 = 0) : RepsOk l ∧ argOk q ∧ dayOk q.night q.moment ∧ (viewR q l).1 = seeL l q.district q.night q.moment := by
 unfold viewR at h ⊢
 by_cases h1 : RepsOk l
 · rw [if_neg (by simp [h1] : ¬ ¬ RepsOk l)] at h ⊢
   by_cases h2 : argOk q
   · rw [if_neg (by simp [h2] : ¬ ¬ argOk q)] at h ⊢
     by_cases h3 : dayOk q.night q.moment
     · rw [if_neg (by simp [h3] : ¬ ¬ dayOk q.night q.moment)]; exact ⟨h1, h2, h3, rfl⟩
     · rw [if_pos h3] at h; cases h
   · rw [if_pos h2] at h; cases h
 · rw [if_pos h1] at h; cases h
theorem same_eq {fuel : Nat} (a b : List Int) (hf : a.length < fuel) (hl : a.length < 9223372036854775807) : gasolierref05_Same fuel a b = some (decide (a = b)) := by
 unfold gasolierref05_Same
 refine Wp.eq (wp_ifn (fun h => wp_some ?_) (fun h => ?_))
 · rw [decide_eq_false (fun e => h (by rw [e]))]
 have hlen : a.length = b.length := by omega
 refine wp_for1 a.length hf (fun i => ∀ j, j < i → a.getD j default = b.getD j default) (fun j hj => by omega) (fun i K hi hI hK => ?_)
 refine wp_ifd (fun hlt => ?_) (fun hge => wp_some ?_)
 · have hi' : i < a.length := by omega
   refine wp_must (by omega) (wp_must (by omega) ?_)
   simp only [Int.toNat_natCast]
   refine wp_ifn (fun h => wp_some ?_) (fun h => wp_mustI (by omega) (hK hi' (fun j hj => ?_)))
   · rw [decide_eq_false (fun e => h (by rw [e]))]
   · by_cases ej : j = i
     · subst ej; exact h
     · exact hI j (by omega)
 · rw [decide_eq_true (ext_getD hlen (fun i hi => hI i (by omega)))]
end Go.Sp
end
/- Plain laws, fog: FogSights, FogClashes. No program in sight. -/
section
set_option linter.all false
namespace Go.Sp
open Go.Av
set_option maxRecDepth 100000
theorem sane_ok : gasolierlaw05_sane 20000 = some true := by kernel_rfl
theorem fClash_eq (fuel : Nat) (l : List Report) (d n m : Int) (hf : 60 < fuel) : fog_Clash fuel l d n m =
   some (if (viewR ⟨d, n, m, 0, ⟨0, 0⟩, 1⟩ l).2 ≠ 0 then ([], (viewR ⟨d, n, m, 0, ⟨0, 0⟩, 1⟩ l).2) else if (pairL (viewR ⟨d, n, m, 0, ⟨0, 0⟩, 1⟩ l).1).isSome then ((pairR (viewR ⟨d, n, m, 0, ⟨0, 0⟩, 1⟩ l).1).1, 0) else ([], 3)) := by
 unfold fog_Clash
 refine Wp.eq (wp_bindE (fview_eq fuel _ l hf) ?_)
 refine wp_ifn (fun h => ?_) (fun h => ?_)
 · rw [if_pos h]; exact wp_some rfl
 · rw [if_neg (by simp [h])]
   refine wp_bindE (fpair_eq _ (Nat.le_trans (viewR_le _ l) (by omega))) ?_
   rw [pairR_two]
   cases h2 : (pairL (viewR ⟨d, n, m, 0, ⟨0, 0⟩, 1⟩ l).1).isSome
   · exact wp_true rfl (wp_some rfl)
   · exact wp_false rfl (wp_some rfl)
theorem rClash_eq {fuel : Nat} (l : List Report) (a : gasolierref05_At) (hf : 61 < fuel) : gasolierref05_Clash fuel l a = fog_Clash fuel l a.District a.Night a.Moment := by
 rw [fClash_eq fuel l _ _ _ (by omega)]
 unfold gasolierref05_Clash
 refine Wp.eq (wp_bindE (rasked_eq l a ⟨0, 0, 1⟩ hf) ?_)
 simp only
 refine wp_ifn (fun h => ?_) (fun h => ?_)
 · rw [if_pos h]; exact wp_some rfl
 · rw [if_neg (by simp [h])]
   obtain ⟨h1, h2, h3, h4⟩ := viewR_zero h
   have hle : (seeL l a.District a.Night a.Moment).length ≤ 60 := Nat.le_trans (List.length_filter_le _ _) h1.len
   rw [h4]
   refine wp_bindE (rof_eq l a h1.len hf) (wp_bindE (rclash_eq _ hle hf) ?_)
   unfold pairR
   cases pairL (seeL l a.District a.Night a.Moment) with
   | none => exact wp_some rfl
   | some x => exact wp_some rfl
theorem index_eq (l : List Int) (n : Int) : slices_Index_int l n = some (match l.findIdx? (fun x => decide (n = x)) with | some i => (i : Int) | none => -1) := by
 unfold slices_Index_int
 exact indexFunc_eq (p := fun x => some (decide (n = x))) (fun _ => rfl) l
theorem contains_eq (l : List Int) (n : Int) : slices_Contains_int l n = some (decide (n ∈ l)) := by
 unfold slices_Contains_int
 rw [index_eq]
 cases h : l.findIdx? (fun x => decide (n = x)) with
 | none =>
   rw [List.findIdx?_eq_none_iff] at h
   refine congrArg some ?_
   rw [decide_eq_false (by decide), decide_eq_false (fun hm => ?_)]
   have := h n hm; simp at this
 | some i =>
   rw [List.findIdx?_eq_some_iff_getElem] at h
   obtain ⟨h1, h2, _⟩ := h
   refine congrArg some ?_
   simp only
   rw [decide_eq_true (by omega), decide_eq_true]
   simp only [decide_eq_true_eq] at h2
   rw [h2]; exact List.getElem_mem h1
theorem sorted_see {l : List Report} (h : RepsOk l) (d n m : Int) : (seeL l d n m).Pairwise (fun a b => a.Source < b.Source) := by
 have key : l.Pairwise (fun a b => a.Source < b.Source) := by
   rw [List.pairwise_iff_getElem]
   intro i j hi hj hij
   have step : ∀ k, i + 1 + k < l.length → l[i].Source < (rp l (i + 1 + k)).Source := by
     intro k
     induction k with
     | zero =>
       intro hk
       have := (h.all (i + 1) hk).2 (by omega)
       have e : rp l (i + 1 - 1) = l[i] := by unfold rp; simp [List.getElem?_eq_getElem hi]
       rw [e] at this; exact this
     | succ k ih =>
       intro hk
       have h1 := ih (by omega)
       have h2 := (h.all (i + 1 + (k + 1)) hk).2 (by omega)
       have e : i + 1 + (k + 1) - 1 = i + 1 + k := by omega
       rw [e] at h2
       omega
   have := step (j - (i + 1)) (by omega)
   have e : i + 1 + (j - (i + 1)) = j := by omega
   rw [e] at this
   have e2 : rp l j = l[j] := by unfold rp; simp [List.getElem?_eq_getElem hj]
   rw [e2] at this; exact this
 exact key.filter _
def twoClash (v : List Report) (s t : Int) : Prop := ∃ a ∈ v, ∃ b ∈ v, a.Source = s ∧ b.Source = t ∧ s < t ∧ fog_clash a b = true
theorem two_of {v : List Report} (hv : v.Pairwise (fun a b => a.Source < b.Source)) {s t : Int} (hst : s < t) :
   ((v.filter (fun x => decide (x.Source ∈ [s, t]))).length = 2 ∧ fog_clash ((v.filter (fun x => decide (x.Source ∈ [s, t]))).getD 0 default) ((v.filter (fun x => decide (x.Source ∈ [s, t]))).getD 1 default) = true) ↔ twoClash v s t := by
 have hp : (v.filter (fun x => decide (x.Source ∈ [s, t]))).Pairwise (fun a b => a.Source < b.Source) := hv.filter _
 have hmem : ∀ x, x ∈ v.filter (fun x => decide (x.Source ∈ [s, t])) ↔ x ∈ v ∧ (x.Source = s ∨ x.Source = t) := fun x => by simp [List.mem_filter]
 generalize v.filter (fun x => decide (x.Source ∈ [s, t])) = w at hp hmem
 constructor
 · rintro ⟨h1, h2⟩
   match w, h1 with
   | [a, b], _ =>
     simp only [List.getD_cons_zero, List.getD_cons_succ] at h2
     have ha := (hmem a).1 (by simp)
     have hb := (hmem b).1 (by simp)
     have hab : a.Source < b.Source := by simpa using hp
     exact ⟨a, ha.1, b, hb.1, by omega, by omega, hst, h2⟩
 · rintro ⟨a, ha, b, hb, ea, eb, _, hc⟩
   have hma := (hmem a).2 ⟨ha, .inl ea⟩
   have hmb := (hmem b).2 ⟨hb, .inr eb⟩
   have hall : ∀ x ∈ w, x = a ∨ x = b := by
     intro x hx
     have inj : ∀ x ∈ w, ∀ y ∈ w, x.Source = y.Source → x = y := by
       intro x hx y hy e
       obtain ⟨i, hi, rfl⟩ := List.getElem_of_mem hx
       obtain ⟨j, hj, rfl⟩ := List.getElem_of_mem hy
       rcases Nat.lt_trichotomy i j with h | h | h
       · have := List.pairwise_iff_getElem.1 hp i j hi hj h; omega
       · subst h; rfl
       · have := List.pairwise_iff_getElem.1 hp j i hj hi h; omega
     rcases ((hmem x).1 hx).2 with h | h
     · exact .inl (inj x hx a hma (h.trans ea.symm))
     · exact .inr (inj x hx b hmb (h.trans eb.symm))
   match w, hp, hma, hmb, hall with
   | [], _, hma, _, _ => cases hma
   | [x], _, hma, hmb, _ =>
     simp at hma hmb; rw [hma] at ea; rw [hmb] at eb; omega
   | [x, y], hp, hma, hmb, _ =>
     refine ⟨rfl, ?_⟩
     simp only [List.getD_cons_zero, List.getD_cons_succ]
     have hxy : x.Source < y.Source := by simpa using hp
     simp at hma hmb
     rcases hma with rfl | rfl
     · rcases hmb with rfl | rfl
       · omega
       · exact hc
     · rcases hmb with rfl | rfl
       · omega
       · omega
   | x :: y :: z :: r, hp, _, _, hall =>
     exfalso
     simp only [List.pairwise_cons, List.mem_cons] at hp
     have h1 := hp.1 y (by simp)
     have h2 := hp.1 z (by simp)
     have h3 := hp.2.1 z (by simp)
     have q1 := hall x (by simp); have q2 := hall y (by simp); have q3 := hall z (by simp)
     rcases q1 with rfl | rfl <;> rcases q2 with rfl | rfl <;> rcases q3 with rfl | rfl <;> omega
theorem fCheckClash_wp (fuel : Nat) (l : List Report) (d n m : Int) (by_ : List Int) (hf : 60 < fuel) : Wp (fog_CheckClash fuel l d n m by_) (fun r => ((viewR ⟨d, n, m, 0, ⟨0, 0⟩, 1⟩ l).2 ≠ 0 ∧ r = (viewR ⟨d, n, m, 0, ⟨0, 0⟩, 1⟩ l).2) ∨
   ((viewR ⟨d, n, m, 0, ⟨0, 0⟩, 1⟩ l).2 = 0 ∧ ((by_.length = 2 ∧ twoClash (seeL l d n m) (by_.getD 0 default) (by_.getD 1 default) ∧ r = 0) ∨ (¬ (by_.length = 2 ∧ twoClash (seeL l d n m) (by_.getD 0 default) (by_.getD 1 default)) ∧ r = 52)))) := by
 unfold fog_CheckClash
 refine wp_bindE (fview_eq fuel _ l hf) ?_
 refine wp_ifn (fun h => wp_some (.inl ⟨h, rfl⟩)) (fun h => ?_)
 obtain ⟨h1, h2, h3, h4⟩ := viewR_zero h
 rw [h4]
 simp only
 have hlen : (seeL l d n m).length ≤ 60 := Nat.le_trans (List.length_filter_le _ _) h1.len
 refine wp_must (fun hh => by simp at hh; omega) (wp_must (fun hh => by simp at hh; omega) ?_)
 refine wp_bif (fun hb => wp_some (.inr ⟨h, .inr ⟨fun hh => ?_, rfl⟩⟩)) (fun hb => ?_)
 · obtain ⟨q1, a, ha, b, hb2, q2, q3, q4, _⟩ := hh
   simp only [Bool.or_eq_true, Bool.not_eq_true', decide_eq_false_iff_not, decide_eq_true_eq] at hb
   omega
 · simp only [Bool.or_eq_false_iff, Bool.not_eq_false', decide_eq_true_eq, decide_eq_false_iff_not] at hb
   obtain ⟨hb1, hb2⟩ := hb
   have hlt : by_.getD 0 default < by_.getD 1 default := by omega
   obtain ⟨s, t, rfl⟩ : ∃ s t, by_ = [s, t] := by
     match by_, hb1 with
     | [s, t], _ => exact ⟨s, t, rfl⟩
   simp only [List.getD_cons_zero, List.getD_cons_succ] at hlt ⊢
   refine wp_range (fun i w => w = ((seeL l d n m).take i).filter (fun x => decide (x.Source ∈ [s, t]))) (by simp) (fun i w K hi hI hK => ?_) (fun w hI => ?_)
   · refine wp_bindE (contains_eq _ _) ?_
     have et : ((seeL l d n m).take (i + 1)).filter (fun x => decide (x.Source ∈ [s, t])) = ((seeL l d n m).take i).filter (fun x => decide (x.Source ∈ [s, t])) ++ (if decide (((seeL l d n m).getD i default).Source ∈ [s, t]) then [(seeL l d n m).getD i default] else []) := by
       rw [take_getD hi, List.filter_append]; simp only [List.filter_cons, List.filter_nil]
     have hwl : w.length ≤ 60 := by rw [hI]; exact Nat.le_trans (List.length_filter_le _ _) (by simp; omega)
     refine wp_bif (fun hc => ?_) (fun hc => ?_)
     · refine wp_mustR (by simp; omega) (hK _ ?_)
       rw [et, if_pos hc, hI]
     · refine hK _ ?_
       rw [et, if_neg (by rw [hc]; simp), hI, List.append_nil]
   · rw [List.take_length] at hI
     subst hI
     have hlen2 : ((seeL l d n m).filter (fun x => decide (x.Source ∈ [s, t]))).length ≤ 60 := Nat.le_trans (List.length_filter_le _ _) hlen
     refine wp_must (fun hh => by simp only [Bool.not_not, decide_eq_true_eq] at hh; omega) (wp_must (fun hh => by simp only [Bool.not_not, decide_eq_true_eq] at hh; omega) ?_)
     have tw := two_of (sorted_see h1 d n m) hlt
     refine wp_bif (fun hc => wp_some (.inr ⟨h, .inr ⟨fun hh => ?_, rfl⟩⟩)) (fun hc => wp_some (.inr ⟨h, .inl ⟨rfl, tw.1 ?_, rfl⟩⟩))
     · obtain ⟨q1, q2⟩ := tw.2 hh.2
       rw [q2] at hc
       simp only [Bool.not_true, Bool.or_false, Bool.not_eq_true', decide_eq_false_iff_not] at hc
       omega
     · simp only [Bool.or_eq_false_iff, Bool.not_eq_false', decide_eq_true_eq] at hc
       exact ⟨by omega, hc.2⟩
theorem rCheckClash_wp {fuel : Nat} (l : List Report) (a : gasolierref05_At) (by_ : List Int) (hf : 61 < fuel) : Wp (gasolierref05_CheckClash fuel l a by_) (fun r => ((viewR ⟨a.District, a.Night, a.Moment, 0, ⟨0, 0⟩, 1⟩ l).2 ≠ 0 ∧ r = (viewR ⟨a.District, a.Night, a.Moment, 0, ⟨0, 0⟩, 1⟩ l).2) ∨
   ((viewR ⟨a.District, a.Night, a.Moment, 0, ⟨0, 0⟩, 1⟩ l).2 = 0 ∧ ((by_.length = 2 ∧ twoClash (seeL l a.District a.Night a.Moment) (by_.getD 0 default) (by_.getD 1 default) ∧ r = 0) ∨ (¬ (by_.length = 2 ∧ twoClash (seeL l a.District a.Night a.Moment) (by_.getD 0 default) (by_.getD 1 default)) ∧ r = 52)))) := by
 unfold gasolierref05_CheckClash
 refine wp_bindE (rasked_eq l a ⟨0, 0, 1⟩ hf) ?_
 simp only
 refine wp_ifn (fun h => wp_some (.inl ⟨h, rfl⟩)) (fun h => ?_)
 obtain ⟨h1, h2, h3, h4⟩ := viewR_zero h
 refine wp_bindE (rof_eq l a h1.len hf) ?_
 have hlen : (seeL l a.District a.Night a.Moment).length ≤ 60 := Nat.le_trans (List.length_filter_le _ _) h1.len
 have hs := sorted_see h1 a.District a.Night a.Moment
 generalize seeL l a.District a.Night a.Moment = v at hlen hs
 let bad : Nat → Nat → Prop := fun i j => by_.length = 2 ∧ (rp v i).Source = by_.getD 0 default ∧ (rp v j).Source = by_.getD 1 default ∧ fog_clash (rp v i) (rp v j) = true
 refine wp_for1 v.length (by omega) (fun i => ∀ p q, p < i → p < q → q < v.length → ¬ bad p q) (fun p q hp => by omega) (fun i K hi hI hK => ?_)
 refine wp_ifd (fun hlt => ?_) (fun hge => wp_some (.inr ⟨h, .inr ⟨?_, rfl⟩⟩))
 · have hi' : i < v.length := by omega
   refine wp_mustI (by omega) ?_
   refine wp_loop (fun s => ∃ j : Nat, s = (j : Int) ∧ i < j ∧ j ≤ v.length ∧ ∀ q, i < q → q < j → ¬ bad i q) (fun s => v.length - s.toNat) (by omega) ⟨i + 1, by simp, by omega, by omega, fun q h1 h2 => by omega⟩ ?_
   rintro s K2 ⟨j, rfl, hij, hj, hJ⟩ hK2
   refine wp_ifd (fun hlt2 => ?_) (fun hge2 => wp_mustI (by omega) (hK hi' (fun p q hp hpq hq => ?_)))
   · refine wp_must (fun _ => by omega) (wp_must (fun hh => by simp at hh; omega) (wp_must (fun _ => by omega) (wp_must (fun hh => by simp only [Bool.and_eq_true, decide_eq_true_eq] at hh; omega) (wp_must (fun _ => by omega) (wp_must (fun _ => by omega) ?_)))))
     simp only [Int.toNat_natCast]
     refine wp_bif (fun hc => wp_some (.inr ⟨h, .inl ?_⟩)) (fun hc => wp_mustI (by omega) (hK2 _ ⟨j + 1, by simp, by omega, by omega, fun q h1 h2 => ?_⟩ (by simp only [Int.toNat_natCast]; omega)))
     · simp only [Bool.and_eq_true, decide_eq_true_eq] at hc
       obtain ⟨⟨⟨c1, c2⟩, c3⟩, c4⟩ := hc
       refine ⟨by omega, ⟨v.getD i default, getD_mem hi', v.getD j default, getD_mem (by omega), c2, c3, ?_, c4⟩, rfl⟩
       rw [← c2, ← c3]
       have := List.pairwise_iff_getElem.1 hs i j hi' (by omega) hij
       rw [List.getD_eq_getElem?_getD, List.getD_eq_getElem?_getD, List.getElem?_eq_getElem hi', List.getElem?_eq_getElem (show j < v.length by omega)]
       exact this
     · by_cases eq : q = j
       · subst eq
         rintro ⟨b1, b2, b3, b4⟩
         have : ((((decide (((by_.length : Nat) : Int) = 2)) && (decide ((v.getD i default).Source = (by_.getD 0 default)))) && (decide ((v.getD q default).Source = (by_.getD 1 default)))) && (gasolierref05_oppose (v.getD i default) (v.getD q default))) = true := by
           rw [decide_eq_true (by omega), decide_eq_true (show (v.getD i default).Source = by_.getD 0 default from b2), decide_eq_true (show (v.getD q default).Source = by_.getD 1 default from b3)]
           exact b4
         rw [this] at hc; cases hc
       · exact hJ q h1 (by omega)
   · by_cases ep : p = i
     · subst ep; exact hJ q hpq (by omega)
     · exact hI p q (by omega) hpq hq
 · rintro ⟨q1, x, hx, y, hy, q2, q3, q4, q5⟩
   obtain ⟨p, hp, rfl⟩ := mem_getD hx
   obtain ⟨q, hq, rfl⟩ := mem_getD hy
   have hpq : p < q := by
     rcases Nat.lt_trichotomy p q with h | h | h
     · exact h
     · subst h; omega
     · have := List.pairwise_iff_getElem.1 hs q p hq hp h
       rw [List.getD_eq_getElem?_getD, List.getElem?_eq_getElem hp] at q2
       rw [List.getD_eq_getElem?_getD, List.getElem?_eq_getElem hq] at q3
       simp only [Option.getD_some] at q2 q3
       omega
   exact hI p q (by omega) hpq hq ⟨q1, q2, q3, q5⟩
theorem checkClash_eq {fuel : Nat} (l : List Report) (a : gasolierref05_At) (by_ : List Int) (hf : 61 < fuel) : ∃ r, fog_CheckClash fuel l a.District a.Night a.Moment by_ = some r ∧ gasolierref05_CheckClash fuel l a by_ = some r := by
 obtain ⟨r, e1, h1⟩ := fCheckClash_wp fuel l a.District a.Night a.Moment by_ (by omega)
 obtain ⟨r', e2, h2⟩ := rCheckClash_wp l a by_ hf
 refine ⟨r, e1, ?_⟩
 rw [e2]
 rcases h1 with ⟨a1, a2⟩ | ⟨a1, ⟨a2, a3, a4⟩ | ⟨a2, a3⟩⟩ <;> rcases h2 with ⟨b1, b2⟩ | ⟨b1, ⟨b2, b3, b4⟩ | ⟨b2, b3⟩⟩
 · rw [a2, b2]
 · exact absurd b1 a1
 · exact absurd b1 a1
 · exact absurd a1 b1
 · rw [a4, b4]
 · exact absurd ⟨a2, a3⟩ b2
 · exact absurd a1 b1
 · exact absurd ⟨b2, b3⟩ a2
 · rw [a3, b3]
theorem fogClashes_true (l : List Report) (a : gasolierref05_At) (by_ : List Int) : gasolierlaw05_FogClashes 20000 l a by_ = some true := by
 unfold gasolierlaw05_FogClashes
 rw [rClash_eq l a (by omega)]
 obtain ⟨x1, e1⟩ : ∃ x, fog_Clash 20000 l a.District a.Night a.Moment = some x := ⟨_, fClash_eq _ _ _ _ _ (by omega)⟩
 have hx : x1.1.length ≤ 2 := by
   rw [fClash_eq _ _ _ _ _ (by omega)] at e1
   have := Option.some.inj e1
   rw [← this]
   split
   · simp
   · split
     · unfold pairR; split <;> simp
     · simp
 rw [e1]
 obtain ⟨r, e2, e3⟩ := checkClash_eq (fuel := 20000) l a by_ (by omega)
 refine Wp.eq (wp_bindE rfl (wp_bindE rfl (wp_bindE (same_eq _ _ (by omega) (by omega)) ?_)))
 refine wp_onE (by simp) e2 (wp_onE (by simp) e3 (wp_onE (by simp) sane_ok (wp_some (by simp))))
end Go.Sp
end
