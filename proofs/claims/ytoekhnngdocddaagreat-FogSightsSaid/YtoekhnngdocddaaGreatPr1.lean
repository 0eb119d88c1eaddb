/- Texts of the framework, or of the plain law, one behind another. -/
import Derived.Test.YtoekhnngdocddaaGreatFr1
import Derived.Test.YtoekhnngdocddaaGreatFr4
import Derived.KernelRfl
/- Rules for plain laws: what a printed definition yields. No program in sight. -/
section
set_option linter.all false
namespace Go.Sp
open Go.Av
def Wp {R : Type} (x : Option R) (P : R → Prop) : Prop := ∃ r, x = some r ∧ P r
theorem Wp.eq {R : Type} {x : Option R} {v : R} (h : Wp x (· = v)) : x = some v := by
 obtain ⟨r, h1, h2⟩ := h; rw [h1, h2]
theorem Wp.of_eq {R : Type} {x : Option R} {v : R} {P : R → Prop} (h : x = some v) (hp : P v) : Wp x P := ⟨v, h, hp⟩
theorem Wp.mono {R : Type} {x : Option R} {P Q : R → Prop} (h : Wp x P) (hp : ∀ r, P r → Q r) : Wp x Q := by
 obtain ⟨r, h1, h2⟩ := h; exact ⟨r, h1, hp r h2⟩
theorem wp_some {R : Type} {r : R} {P : R → Prop} (h : P r) : Wp (some r) P := ⟨r, rfl, h⟩
theorem wp_must {R : Type} {c : Prop} [Decidable c] {x : Option R} {P : R → Prop} (h : c) (k : Wp x P) : Wp (must c x) P := by
 unfold must; rw [if_pos h]; exact k
theorem wp_bind {S R : Type} {x : Option S} {k : S → Option R} {P : R → Prop} {Q : S → Prop} (h : Wp x Q) (hk : ∀ s, Q s → Wp (k s) P) : Wp (bindO x k) P := by
 obtain ⟨r, h1, h2⟩ := h; rw [h1]; exact hk r h2
theorem wp_bindE {S R : Type} {x : Option S} {k : S → Option R} {P : R → Prop} {v : S} (h : x = some v) (hk : Wp (k v) P) : Wp (bindO x k) P := by
 rw [h]; exact hk
theorem wp_bif {R : Type} {b : Bool} {x y : Option R} {P : R → Prop} (h1 : b = true → Wp x P) (h2 : b = false → Wp y P) : Wp (bif b then x else y) P := by
 cases b
 · exact h2 rfl
 · exact h1 rfl
theorem wp_if {R : Type} {p : Prop} {b : Bool} {x y : Option R} {P : R → Prop} (hb : b = true ↔ p) (h1 : p → Wp x P) (h2 : ¬ p → Wp y P) : Wp (bif b then x else y) P :=
 wp_bif (fun h => h1 (hb.1 h)) (fun h => h2 (fun hp => by rw [hb.2 hp] at h; cases h))
theorem wp_ifd {R : Type} {p : Prop} [Decidable p] {x y : Option R} {P : R → Prop} (h1 : p → Wp x P) (h2 : ¬ p → Wp y P) : Wp (bif (decide p) then x else y) P :=
 wp_if (decide_eq_true_iff) h1 h2
theorem wp_ifn {R : Type} {p : Prop} [Decidable p] {x y : Option R} {P : R → Prop} (h1 : ¬ p → Wp x P) (h2 : p → Wp y P) : Wp (bif (!decide p) then x else y) P :=
 wp_bif (fun h => h1 (by simpa using h)) (fun h => h2 (by simpa using h))
theorem wp_true {R : Type} {b : Bool} {x y : Option R} {P : R → Prop} (h : b = true) (h1 : Wp x P) : Wp (bif b then x else y) P := by rw [h]; exact h1
theorem wp_false {R : Type} {b : Bool} {x y : Option R} {P : R → Prop} (h : b = false) (h1 : Wp y P) : Wp (bif b then x else y) P := by rw [h]; exact h1
theorem wp_joinU {S R : Type} {f : (S → Option R) → Option R} {k : S → Option R} {P : R → Prop} (h : Wp (f k) P) : Wp (joinK f k) P := h
theorem wp_range {S R : Type} {body : Nat → S → (S → Option R) → Option R} {ex : S → Option R} {n : Nat} {s0 : S} {P : R → Prop} (Inv : Nat → S → Prop) (h0 : Inv 0 s0)
   (hb : ∀ (i : Nat) s (K : S → Option R), i < n → Inv i s → (∀ s', Inv (i + 1) s' → Wp (K s') P) → Wp (body i s K) P) (he : ∀ s, Inv n s → Wp (ex s) P) : Wp (rangeGo body ex n 0 s0) P := by
 have go : ∀ (m i : Nat), i + m = n → ∀ s, Inv i s → Wp (rangeGo body ex m i s) P := by
   intro m
   induction m with
   | zero => intro i hi s hs; have e : i = n := by omega
             subst e; exact he s hs
   | succ m ih => intro i hi s hs; exact hb i s _ (by omega) hs (fun s' h' => ih (i + 1) (by omega) s' h')
 exact go n 0 (by omega) s0 h0
theorem wp_loop {S R : Type} {body : S → (S → Option R) → Option R} {fuel : Nat} {s0 : S} {P : R → Prop} (Inv : S → Prop) (μ : S → Nat) (hf : μ s0 < fuel) (h0 : Inv s0)
   (hb : ∀ s (K : S → Option R), Inv s → (∀ s', Inv s' → μ s' < μ s → Wp (K s') P) → Wp (body s K) P) : Wp (loopGo body fuel s0) P := by
 have go : ∀ (f : Nat) s, Inv s → μ s < f → Wp (loopGo body f s) P := by
   intro f
   induction f with
   | zero => intro s _ h; omega
   | succ f ih => intro s hs hm; exact hb s _ hs (fun s' h' hl => ih s' h' (by omega))
 exact go fuel s0 h0 hf
theorem wp_for {S R : Type} {body : (Int × S) → ((Int × S) → Option R) → Option R} {fuel : Nat} {s0 : S} {P : R → Prop} (n : Nat) (hf : n < fuel) (Inv : Nat → S → Prop) (h0 : Inv 0 s0)
   (hb : ∀ (i : Nat) s (K : (Int × S) → Option R), i ≤ n → Inv i s → (∀ s', i < n → Inv (i + 1) s' → Wp (K ((i : Int) + 1, s')) P) → Wp (body ((i : Int), s) K) P) : Wp (loopGo body fuel (0, s0)) P := by
 have go : ∀ (f i : Nat) s, i ≤ n → n - i < f → Inv i s → Wp (loopGo body f ((i : Int), s)) P := by
   intro f
   induction f with
   | zero => intro i s _ h; omega
   | succ f ih => intro i s hi hm hs; exact hb i s _ hi hs (fun s' hl h' => ih (i + 1) s' (by omega) (by omega) h')
 exact go fuel 0 s0 (by omega) (by omega) h0
theorem wp_for1 {R : Type} {body : Int → (Int → Option R) → Option R} {fuel : Nat} {P : R → Prop} (n : Nat) (hf : n < fuel) (Inv : Nat → Prop) (h0 : Inv 0)
   (hb : ∀ (i : Nat) (K : Int → Option R), i ≤ n → Inv i → (i < n → Inv (i + 1) → Wp (K ((i : Int) + 1)) P) → Wp (body (i : Int) K) P) : Wp (loopGo body fuel 0) P := by
 have go : ∀ (f i : Nat), i ≤ n → n - i < f → Inv i → Wp (loopGo body f (i : Int)) P := by
   intro f
   induction f with
   | zero => intro i _ h; omega
   | succ f ih => intro i hi hm hs; exact hb i _ hi hs (fun hl h' => ih (i + 1) (by omega) (by omega) h')
 exact go fuel 0 (by omega) (by omega) h0
end Go.Sp
end
/- More rules for plain laws. No program in sight. -/
section
set_option linter.all false
namespace Go.Sp
open Go.Av
theorem wp_mustI {R : Type} {n : Int} {x : Option R} {P : R → Prop} (h : -9223372036854775808 ≤ n ∧ n ≤ 9223372036854775807) (k : Wp x P) : Wp (must (inI n) x) P := wp_must h k
theorem wp_mustR {R : Type} {n b : Nat} {x : Option R} {P : R → Prop} (h : n * b ≤ 140737488355328 ∧ n ≤ 9223372036854775807) (k : Wp x P) : Wp (must (room n b) x) P := wp_must h k
end Go.Sp
end
/- Rules for plain laws, more of them. No program in sight. -/
section
set_option linter.all false
namespace Go.Sp
open Go.Av
theorem wp_forall {R : Type} {body : Nat → Unit → (Unit → Option R) → Option R} {ex : Unit → Option R} {n : Nat} {P : R → Prop} (good : Nat → Prop)
   (hb : ∀ (i : Nat) (K : Option R), i < n → (∀ j, j < i → good j) → (good i → Wp K P) → Wp (body i () (fun _ => K)) P) (he : (∀ j, j < n → good j) → Wp (ex ()) P) : Wp (rangeGo body ex n 0 ()) P := by
 refine wp_range (fun i _ => ∀ j, j < i → good j) (fun j hj => by omega) (fun i s K hi hI hK => ?_) (fun s hs => he hs)
 have e : K = fun _ => K () := funext fun u => rfl
 rw [e]
 exact hb i (K ()) hi hI (fun g => hK () (fun j hj => by
   by_cases e : j = i
   · rw [e]; exact g
   · exact hI j (by omega)))
theorem wp_onE {S R : Type} {W : Bool} {x y : Option S} {k : S → Option R} {P : R → Prop} {v : S} (hW : W = true) (h : x = some v) (hk : Wp (k v) P) : Wp (bindO (bif W then x else y) k) P := by
 subst hW; rw [h]; exact hk
theorem wp_offE {S R : Type} {W : Bool} {x y : Option S} {k : S → Option R} {P : R → Prop} {v : S} (hW : W = false) (h : y = some v) (hk : Wp (k v) P) : Wp (bindO (bif W then x else y) k) P := by
 subst hW; rw [h]; exact hk
theorem must_yes {R : Type} {c : Prop} [Decidable c] (h : c) (x : Option R) : must c x = x := if_pos h
theorem mem_getD {T : Type} [Inhabited T] {l : List T} {x : T} (h : x ∈ l) : ∃ i, i < l.length ∧ l.getD i default = x := by
 obtain ⟨i, hi, rfl⟩ := List.getElem_of_mem h
 exact ⟨i, hi, by rw [List.getD_eq_getElem?_getD, List.getElem?_eq_getElem hi]; rfl⟩
theorem getD_take {T : Type} (l : List T) (n i : Nat) (d : T) : (l.take n).getD i d = if i < n then l.getD i d else d := by
 simp only [List.getD_eq_getElem?_getD, List.getElem?_take]
 split <;> rfl
theorem ext_getD {T : Type} [Inhabited T] {l r : List T} (hl : l.length = r.length) (h : ∀ i, i < l.length → l.getD i default = r.getD i default) : l = r := by
 refine List.ext_getElem hl (fun i h1 h2 => ?_)
 have := h i h1
 rw [List.getD_eq_getElem?_getD, List.getD_eq_getElem?_getD, List.getElem?_eq_getElem h1, List.getElem?_eq_getElem h2] at this
 exact this
theorem emit_range {A : Type} {body : Nat → Unit → (Unit → Option (List A)) → Option (List A)} {n : Nat} (W : Nat → Bool) (x : Nat → A)
   (hb : ∀ (i : Nat) (r : Option (List A)), i < n → body i () (fun _ => r) = emitIf (W i) (x i) r) : rangeGo body (fun _ => some []) n 0 () = some (((List.range' 0 n).filter W).map x) := by
 have go : ∀ m i, i + m = n → rangeGo body (fun _ => some []) m i () = some (((List.range' i m).filter W).map x) := by
   intro m
   induction m with
   | zero => intro i _; rfl
   | succ m ih =>
     intro i hi
     have e : rangeGo body (fun _ => some []) (m + 1) i () = body i () (fun u => rangeGo body (fun _ => some []) m (i + 1) u) := rfl
     rw [e]
     have e2 : (fun u => rangeGo body (fun _ => some ([] : List A)) m (i + 1) u) = fun _ => some (((List.range' (i + 1) m).filter W).map x) := by
       funext u; exact ih (i + 1) (by omega)
     rw [e2, hb i _ (by omega), List.range'_succ, List.filter_cons]
     cases W i <;> rfl
 exact go n 0 (by omega)
end Go.Sp
end
/- Plain laws, fog: valid reports, what a view is, contradictions, the sight. No program in sight. -/
section
set_option linter.all false
namespace Go.Sp
open Go.Av
set_option maxRecDepth 100000
structure RepOk (x : Report) : Prop where
 src : 1 ≤ x.Source ∧ x.Source ≤ 99999
 dist : 1 ≤ x.District ∧ x.District ≤ 9
 night : 0 ≤ x.Night ∧ x.Night ≤ 100000
 time : 0 ≤ x.From ∧ x.From ≤ x.To ∧ x.To ≤ 1439
 sight : 0 ≤ x.Sight.Lo ∧ x.Sight.Lo ≤ x.Sight.Hi ∧ x.Sight.Hi ≤ 5000
 known : 0 ≤ x.Known ∧ x.Known ≤ 144001439
 till : x.Until = 0 ∨ (x.Known < x.Until ∧ 0 ≤ x.Until ∧ x.Until ≤ 144001439)
theorem fwithin_iff {a b c : Int} : fog_within a b c = true ↔ b ≤ a ∧ a ≤ c := by simp [fog_within]
theorem fcheck_or (x : Report) : fog_CheckReport x = 0 ∨ fog_CheckReport x = 50 := by
 unfold fog_CheckReport
 cases (((((((!(fog_within x.Source 1 99999)) || (!(fog_isDistrict x.District))) || (!(fog_isNight x.Night))) || (!(fog_isRange (⟨x.From, x.To⟩ : Range) 1439))) || (!(fog_isRange x.Sight 5000))) || (!(fog_isMoment x.Known))) || ((!decide (x.Until = 0)) && ((decide (x.Until ≤ x.Known)) || (!(fog_isMoment x.Until)))))
 · exact .inl rfl
 · exact .inr rfl
theorem frange_iff {r : Range} {c : Int} : fog_isRange r c = true ↔ 0 ≤ r.Lo ∧ r.Lo ≤ r.Hi ∧ r.Hi ≤ c := by simp [fog_isRange, and_assoc]
theorem fcheckReport_iff {x : Report} : fog_CheckReport x = 0 ↔ RepOk x := by
 have e : (bif (((((((!(fog_within x.Source 1 99999)) || (!(fog_isDistrict x.District))) || (!(fog_isNight x.Night))) || (!(fog_isRange (⟨x.From, x.To⟩ : Range) 1439))) || (!(fog_isRange x.Sight 5000))) || (!(fog_isMoment x.Known))) || ((!decide (x.Until = 0)) && ((decide (x.Until ≤ x.Known)) || (!(fog_isMoment x.Until))))) then (50 : Int) else 0) = 0 ↔ (((((((!(fog_within x.Source 1 99999)) || (!(fog_isDistrict x.District))) || (!(fog_isNight x.Night))) || (!(fog_isRange (⟨x.From, x.To⟩ : Range) 1439))) || (!(fog_isRange x.Sight 5000))) || (!(fog_isMoment x.Known))) || ((!decide (x.Until = 0)) && ((decide (x.Until ≤ x.Known)) || (!(fog_isMoment x.Until))))) = false := by
   generalize (((((((!(fog_within x.Source 1 99999)) || (!(fog_isDistrict x.District))) || (!(fog_isNight x.Night))) || (!(fog_isRange (⟨x.From, x.To⟩ : Range) 1439))) || (!(fog_isRange x.Sight 5000))) || (!(fog_isMoment x.Known))) || ((!decide (x.Until = 0)) && ((decide (x.Until ≤ x.Known)) || (!(fog_isMoment x.Until))))) = b
   cases b <;> simp
 unfold fog_CheckReport
 rw [e]
 simp only [fog_isDistrict, fog_isNight, fog_isMoment, Bool.or_eq_false_iff, Bool.and_eq_false_iff, Bool.not_eq_false', fwithin_iff, frange_iff, decide_eq_true_eq, decide_eq_false_iff_not]
 constructor
 · rintro ⟨⟨⟨⟨⟨⟨h1, h2⟩, h3⟩, h4⟩, h5⟩, h6⟩, h7⟩
   exact ⟨h1, h2, h3, h4, h5, h6, by rcases h7 with h7 | h7 <;> omega⟩
 · rintro ⟨h1, h2, h3, h4, h5, h6, h7⟩
   exact ⟨⟨⟨⟨⟨⟨h1, h2⟩, h3⟩, h4⟩, h5⟩, h6⟩, by omega⟩
def rp (l : List Report) (i : Nat) : Report := l.getD i default
structure RepsOk (l : List Report) : Prop where
 len : l.length ≤ 60
 all : ∀ i, i < l.length → RepOk (rp l i) ∧ (0 < i → (rp l (i - 1)).Source < (rp l i).Source)
theorem fcompare_nonneg (a b : Report) : 0 ≤ fog_compare a b ↔ b.Source ≤ a.Source := by
 unfold fog_compare cmp_Compare_int cmp_isNaN_int
 by_cases h1 : a.Source < b.Source
 · simp [h1]
 · by_cases h2 : b.Source < a.Source <;> simp [h1, h2] <;> omega
theorem fcheck_wp (l : List Report) : Wp (fog_Check l) (fun r => (RepsOk l ∧ r = 0) ∨ (¬ RepsOk l ∧ r = 51)) := by
 unfold fog_Check
 refine wp_ifd (fun h => wp_some (.inr ⟨fun V => by have := V.len; omega, rfl⟩)) (fun h => ?_)
 refine wp_forall (fun i => RepOk (rp l i) ∧ (0 < i → (rp l (i - 1)).Source < (rp l i).Source)) (fun i K hi _ hK => ?_) (fun h1 => wp_some (.inl ⟨⟨by omega, h1⟩, rfl⟩))
 refine wp_must (fun _ => by unfold inI; omega) ?_
 refine wp_must (fun h => by simp at h; omega) ?_
 have e : (((i : Int) - 1)).toNat = i - 1 := by omega
 rw [e]
 refine wp_bif (fun hb => wp_some (.inr ⟨fun V => ?_, rfl⟩)) (fun hb => ?_)
 · obtain ⟨a1, a2⟩ := V.all i hi
   unfold rp at a1 a2
   have a3 := fcheckReport_iff.2 a1
   simp only [a3, Bool.or_eq_true, Bool.and_eq_true, decide_eq_true_eq, Bool.not_eq_true', fcompare_nonneg] at hb
   rcases hb with hb | hb
   · simp at hb
   · have := a2 (by omega); omega
 · simp only [Bool.or_eq_false_iff, Bool.and_eq_false_iff, Bool.not_eq_false', decide_eq_true_eq, decide_eq_false_iff_not, fcompare_nonneg] at hb
   refine hK ⟨fcheckReport_iff.1 hb.1, fun h0 => ?_⟩
   unfold rp
   rcases hb.2 with h | h <;> omega
theorem fcheck_ok {l : List Report} (h : RepsOk l) : fog_Check l = some 0 := by
 obtain ⟨r, e, h1 | h1⟩ := fcheck_wp l
 · rw [e, h1.2]
 · exact absurd h h1.1
theorem fcheck_bad {l : List Report} (h : ¬ RepsOk l) : fog_Check l = some 51 := by
 obtain ⟨r, e, h1 | h1⟩ := fcheck_wp l
 · exact absurd h1.1 h
 · rw [e, h1.2]
theorem indexFunc_eq {T : Type} [Inhabited T] {p : T → Option Bool} {q : T → Bool} (hp : ∀ x, p x = some (q x)) (l : List T) :
   (rangeGo (fun i1 (s1 : Unit) k1 => bindO (p (l.getD i1 default)) fun y3 => (bif y3 then some (i1 : Int) else k1 ())) (fun (s1 : Unit) => some (-1)) l.length 0 () : Option Int) = some (match l.findIdx? q with | some i => (i : Int) | none => -1) := by
 refine (wp_forall (P := fun r => r = (match l.findIdx? q with | some i => (i : Int) | none => -1)) (fun i => q (l.getD i default) = false) (fun i K hi hb hK => ?_) (fun h1 => ?_)).eq
 · rw [hp]
   refine wp_bif (fun h => wp_some ?_) (fun h => hK h)
   have : l.findIdx? q = some i := by
     rw [List.findIdx?_eq_some_iff_getElem]
     refine ⟨hi, ?_, fun j hj => ?_⟩
     · rw [List.getD_eq_getElem?_getD, List.getElem?_eq_getElem hi] at h; exact h
     · have := hb j hj
       rw [List.getD_eq_getElem?_getD, List.getElem?_eq_getElem (by omega)] at this
       simpa using this
   rw [this]
 · refine wp_some ?_
   have : l.findIdx? q = none := by
     rw [List.findIdx?_eq_none_iff]
     intro x hx
     obtain ⟨i, hi, rfl⟩ := mem_getD hx
     exact h1 i hi
   rw [this]
theorem take_set_le {T : Type} {l : List T} {i : Nat} {x : T} (h : i < l.length) : (l.set i x).take (i + 1) = l.take i ++ [x] := by
 rw [List.take_add_one, List.getElem?_set_self h, List.take_set_of_le (Nat.le_refl _)]; rfl
theorem take_copyAt {T : Type} [Inhabited T] (l : List T) (a m : Nat) (f : Nat → T) (h : a ≤ l.length) : (copyAt l a m f).take a = l.take a := by
 refine ext_getD (by simp [copyAt]) (fun i hi => ?_)
 have hi' : i < a := by simp [copyAt] at hi; omega
 rw [getD_take, getD_take, if_pos hi', if_pos hi']
 unfold copyAt
 rw [List.getD_eq_getElem?_getD, List.getElem?_map, List.getElem?_range (by omega)]
 simp only [Option.map_some, Option.getD_some]
 rw [if_neg (by omega)]
theorem drop_getD {T : Type} [Inhabited T] {l : List T} {i : Nat} (h : i < l.length) : l.drop i = l.getD i default :: l.drop (i + 1) := by
 rw [List.getD_eq_getElem?_getD, List.getElem?_eq_getElem h]; exact List.drop_eq_getElem_cons h
theorem take_getD {T : Type} [Inhabited T] {l : List T} {i : Nat} (h : i < l.length) : l.take (i + 1) = l.take i ++ [l.getD i default] := by
 rw [List.take_add_one, List.getD_eq_getElem?_getD, List.getElem?_eq_getElem h]; rfl
theorem deleteFunc_eq {T : Type} [Inhabited T] (z : T) {p : T → Option Bool} {q : T → Bool} (hp : ∀ x, p x = some (q x)) (l : List T) (fuel : Nat) (hf : l.length < fuel) (hl : l.length < 9223372036854775807) :
   (bindO (rangeGo (fun i1 (s1 : Unit) k1 => bindO (p (l.getD i1 default)) fun y3 => (bif y3 then some (i1 : Int) else k1 ())) (fun (s1 : Unit) => some (-1)) l.length 0 () : Option Int) fun y1 => (bif (decide (y1 = (-1))) then some l else must (inI (y1 + 1)) <| (loopGo (fun (s5 : Int × Int × (List T)) k5 => (bif (decide (s5.2.1 < ((s5.2.2.length : Nat) : Int))) then must (0 ≤ (s5.2.1 : Int) ∧ (s5.2.1 : Int) < ((s5.2.2.length : Nat) : Int)) <| bindO (p (s5.2.2.getD (s5.2.1).toNat default)) fun y8 => (bif (!y8) then must (0 ≤ (s5.1 : Int) ∧ (s5.1 : Int) < ((s5.2.2.length : Nat) : Int)) <| must (inI (s5.1 + 1)) <| must (inI (s5.2.1 + 1)) <| k5 ((s5.1 + 1), (s5.2.1 + 1), (s5.2.2.set (s5.1).toNat (s5.2.2.getD (s5.2.1).toNat default))) else must (inI (s5.2.1 + 1)) <| k5 (s5.1, (s5.2.1 + 1), s5.2.2)) else must (0 < s5.2.2.length ∧ 0 ≤ (s5.1 : Int) ∧ (s5.1 : Int) ≤ ((s5.2.2.length : Nat) : Int)) <| must (0 < (copyAt s5.2.2 ((s5.1).toNat) (s5.2.2.length - (s5.1).toNat) (fun _ => z)).length ∧ 0 ≤ (s5.1 : Int) ∧ (s5.1 : Int) ≤ (((copyAt s5.2.2 ((s5.1).toNat) (s5.2.2.length - (s5.1).toNat) (fun _ => z)).length : Nat) : Int)) <| some ((copyAt s5.2.2 ((s5.1).toNat) (s5.2.2.length - (s5.1).toNat) (fun _ => z)).take ((s5.1).toNat)))) fuel (y1, (y1 + 1), l))) : Option (List T)) = some (l.filter (fun x => !q x)) := by
 rw [indexFunc_eq hp l]
 refine Wp.eq (wp_bindE rfl ?_)
 cases hi : l.findIdx? q with
 | none =>
   rw [List.findIdx?_eq_none_iff] at hi
   refine wp_true (by simp) (wp_some ?_)
   exact (List.filter_eq_self.2 (fun x hx => by rw [hi x hx]; rfl)).symm
 | some i =>
   rw [List.findIdx?_eq_some_iff_getElem] at hi
   obtain ⟨h1, h2, h3⟩ := hi
   refine wp_false (by simp) (wp_mustI (by simp only; omega) ?_)
   refine wp_loop (fun s => ∃ a b : Nat, s.1 = (a : Int) ∧ s.2.1 = (b : Int) ∧ a < b ∧ b ≤ l.length ∧ s.2.2.length = l.length ∧ s.2.2.take a = (l.take b).filter (fun x => !q x) ∧ s.2.2.drop b = l.drop b) (fun s => l.length - s.2.1.toNat) (by simp only; omega) ⟨i, i + 1, rfl, by simp, by omega, by omega, rfl, ?_, rfl⟩ ?_
   · rw [take_getD h1, List.filter_append]
     have e1 : (l.take i).filter (fun x => !q x) = l.take i := List.filter_eq_self.2 (fun x hx => by
       obtain ⟨j, hj, rfl⟩ := List.getElem_of_mem hx
       have hj' : j < i := by simp at hj; omega
       have := h3 j hj'
       simp only [List.getElem_take]
       simpa using this)
     have e2 : q (l.getD i default) = true := by rw [List.getD_eq_getElem?_getD, List.getElem?_eq_getElem h1]; exact h2
     rw [e1]; simp [e2, -List.getD_eq_getElem?_getD]
   · rintro ⟨s1, s2, s3⟩ K ⟨a, b, rfl, rfl, hab, hb, hlen, ht, hd⟩ hK
     simp only at hK ht hd hlen ⊢
     refine wp_ifd (fun hlt => ?_) (fun hge => ?_)
     · have hbl : b < l.length := by omega
       refine wp_must (by omega) ?_
       rw [hp]
       simp only [Int.toNat_natCast]
       have ex : s3.getD b default = l.getD b default := by
         have := drop_getD (l := s3) (i := b) (by omega)
         rw [hd, drop_getD hbl] at this
         exact (List.cons.inj this).1.symm
       have hd1 : s3.drop (b + 1) = l.drop (b + 1) := by
         have := drop_getD (l := s3) (i := b) (by omega)
         rw [hd, drop_getD hbl] at this
         exact (List.cons.inj this).2.symm
       refine wp_bindE rfl ?_
       rw [ex]
       refine wp_bif (fun hq => ?_) (fun hq => ?_)
       · refine wp_must (by omega) (wp_mustI (by omega) (wp_mustI (by omega) ?_))
         refine hK _ ⟨a + 1, b + 1, by simp, by simp, by omega, by omega, by simp [hlen], ?_, ?_⟩ (by simp only; omega)
         · rw [take_set_le (by omega), ht, take_getD hbl, List.filter_append]
           simp only [Bool.not_eq_true'] at hq
           simp [hq, -List.getD_eq_getElem?_getD]
         · rw [List.drop_set_of_lt (by omega)]; exact hd1
       · refine wp_mustI (by omega) (hK _ ⟨a, b + 1, rfl, by simp, by omega, by omega, hlen, ?_, hd1⟩ (by simp only; omega))
         rw [ht, take_getD hbl, List.filter_append]
         simp only [Bool.not_eq_false'] at hq
         simp [hq, -List.getD_eq_getElem?_getD]
     · refine wp_must (by omega) (wp_must ?_ (wp_some ?_))
       · rw [length_copyAt]; omega
       · simp only [Int.toNat_natCast]
         rw [take_copyAt _ _ _ _ (by omega), ht, List.take_of_length_le (by omega)]
def seen (d n m : Int) (x : Report) : Bool := (decide (x.District = d) && decide (x.Night = n)) && fog_counts x m
def seeL (l : List Report) (d n m : Int) : List Report := l.filter (seen d n m)
theorem fsee_eq (fuel : Nat) (l : List Report) (d n m : Int) (h : l.length ≤ 60) (hf : 60 < fuel) : fog_see fuel l d n m = some (seeL l d n m) := by
 unfold fog_see slices_Clone_Report
 refine Wp.eq (wp_bind (Q := fun r => r = l) (wp_mustR (by simp; omega) (wp_some (by simp))) ?_)
 rintro s rfl
 have e := deleteFunc_eq (⟨0, 0, 0, 0, 0, (⟨0, 0⟩ : Range), 0, 0⟩ : Report) (p := fun x0 => some (fog_see_1 x0 d n m)) (q := fun x => fog_see_1 x d n m) (fun _ => rfl) s fuel (by omega) (by omega)
 refine wp_bindE (v := s.filter (fun x => !fog_see_1 x d n m)) e (wp_some ?_)
 unfold seeL
 congr 1
 funext x
 unfold fog_see_1 seen
 cases decide (x.District = d) <;> cases decide (x.Night = n) <;> cases fog_counts x m <;> rfl
def pairL : List Report → Option (Report × Report)
 | [] => none
 | a :: l => match l.find? (fun b => fog_clash a b) with
   | some b => some (a, b)
   | none => pairL l
def pairR (l : List Report) : List Int × Bool := match pairL l with
 | some (a, b) => ([a.Source, b.Source], true)
 | none => ([], false)
theorem find_range {T R : Type} [Inhabited T] {l : List T} {q : T → Bool} {body : Nat → Unit → (Unit → Option R) → Option R} {ex : Unit → Option R} (f : T → Option R)
   (hb : ∀ (i : Nat) (K : Option R), i < l.length → body i () (fun _ => K) = bif q (l.getD i default) then f (l.getD i default) else K) :
   rangeGo body ex l.length 0 () = match l.find? q with | some x => f x | none => ex () := by
 have go : ∀ (m i : Nat), i + m = l.length → rangeGo body ex m i () = match (l.drop i).find? q with | some x => f x | none => ex () := by
   intro m
   induction m with
   | zero => intro i hi; rw [List.drop_of_length_le (by omega)]; rfl
   | succ m ih =>
     intro i hi
     have e : rangeGo body ex (m + 1) i () = body i () (fun u => rangeGo body ex m (i + 1) u) := rfl
     have e2 : (fun u => rangeGo body ex m (i + 1) u) = fun _ => rangeGo body ex m (i + 1) () := by funext u; rfl
     rw [e, e2, hb i _ (by omega), drop_getD (by omega : i < l.length), List.find?_cons, ih (i + 1) (by omega)]
     cases q (l.getD i default) <;> rfl
 have := go l.length 0 (by omega)
 rw [List.drop_zero] at this
 exact this
theorem fpair_eq (l : List Report) (hl : l.length ≤ 9223372036854775807) : fog_view__pair l = some (pairR l) := by
 unfold fog_view__pair
 have go : ∀ (m i : Nat), i + m = l.length → rangeGo (fun i1 (s1 : Unit) k1 => must ((0 : Int) ≤ ((i1 : Int) + 1) ∧ (((i1 : Int) + 1) : Int) ≤ ((l.length : Nat) : Int)) <| (rangeGo (fun i4 (s4 : Unit) k4 => (bif (fog_clash (l.getD i1 default) ((l.drop (((i1 : Int) + 1)).toNat).getD i4 default)) then some (([(l.getD i1 default).Source, ((l.drop (((i1 : Int) + 1)).toNat).getD i4 default).Source] : List Int), true) else k4 ())) (fun (s4 : Unit) => k1 ()) ((l.drop (((i1 : Int) + 1)).toNat).length) 0 ())) (fun (s1 : Unit) => some ([], false)) m i () = some (pairR (l.drop i)) := by
   intro m
   induction m with
   | zero => intro i hi; rw [List.drop_of_length_le (by omega)]; rfl
   | succ m ih =>
     intro i hi
     have hlt : i < l.length := by omega
     conv => lhs; unfold rangeGo
     have et : ((i : Int) + 1).toNat = i + 1 := by omega
     rw [must_yes (by omega), et, ih (i + 1) (by omega)]
     rw [find_range (l := l.drop (i + 1)) (q := fun b => fog_clash (l.getD i default) b) (fun b => some ([(l.getD i default).Source, b.Source], true)) (fun j K _ => rfl)]
     rw [drop_getD hlt]
     conv => rhs; unfold pairR pairL
     cases (l.drop (i + 1)).find? (fun b => fog_clash (l.getD i default) b) with
     | none => rfl
     | some b => rfl
 have := go l.length 0 (by omega)
 rw [List.drop_zero] at this
 exact this
theorem pairR_two (l : List Report) : (pairR l).2 = (pairL l).isSome := by
 unfold pairR; cases pairL l <;> rfl
def atMin (m : Int) (x : Report) : Bool := fog_within m x.From x.To
def nar (r : Range) (x : Report) : Range := ⟨max r.Lo x.Sight.Lo, min r.Hi x.Sight.Hi⟩
def sightL (v : List Report) (m : Int) : Range := (v.filter (atMin m)).foldl nar ⟨0, 5000⟩
theorem fsight_eq (v : List Report) (m : Int) : fog_view__sight v m = some (sightL v m) := by
 unfold fog_view__sight fog_view__of_1
 rw [emit_range (fun i => atMin m (v.getD i default)) (fun i => v.getD i default) (fun i r _ => rfl)]
 have e : ((List.range' 0 v.length).filter (fun i => atMin m (v.getD i default))).map (fun i => v.getD i default) = v.filter (atMin m) := by
   rw [show (fun i => atMin m (v.getD i default)) = atMin m ∘ (fun i => v.getD i default) from rfl, ← List.filter_map]
   congr 1
   refine List.ext_getElem (by simp) (fun i h1 h2 => ?_)
   simp [List.getElem?_eq_getElem h2]
 rw [e]
 show listGo _ _ (v.filter (atMin m)) _ = _
 unfold sightL
 generalize (⟨0, 5000⟩ : Range) = r
 induction v.filter (atMin m) generalizing r with
 | nil => rfl
 | cons x l ih => exact ih (nar r x)
end Go.Sp
end
/- Plain laws, fog: what is told of a clear district. No program in sight. -/
section
set_option linter.all false
namespace Go.Sp
open Go.Av
set_option maxRecDepth 100000
def argOk (q : fog_query) : Prop := 1 ≤ q.district ∧ q.district ≤ 9 ∧ 0 ≤ q.minute ∧ q.minute ≤ 1439 ∧ 0 ≤ q.time.Lo ∧ q.time.Lo ≤ q.time.Hi ∧ q.time.Hi ≤ 1439 ∧ 1 ≤ q.limit ∧ q.limit ≤ 5000
def dayOk (n m : Int) : Prop := 0 ≤ n ∧ n ≤ 100000 ∧ 0 ≤ m ∧ m ≤ 144001439
instance (q : fog_query) : Decidable (argOk q) := inferInstanceAs (Decidable (_ ∧ _))
instance (n m : Int) : Decidable (dayOk n m) := inferInstanceAs (Decidable (_ ∧ _))
open Classical in
noncomputable def viewR (q : fog_query) (l : List Report) : List Report × Int :=
 if ¬ RepsOk l then ([], 51) else if ¬ argOk q then ([], 1) else if ¬ dayOk q.night q.moment then ([], 6) else (seeL l q.district q.night q.moment, 0)
open Classical in
noncomputable def clearR (q : fog_query) (l : List Report) : List Report × Int :=
 if (viewR q l).2 ≠ 0 then ([], (viewR q l).2) else if (pairL (viewR q l).1).isSome then ([], 52) else ((viewR q l).1, 0)
theorem fview_eq (fuel : Nat) (q : fog_query) (l : List Report) (hf : 60 < fuel) : fog_query__view fuel q l = some (viewR q l) := by
 unfold fog_query__view viewR
 by_cases h : RepsOk l
 · rw [if_neg (by simp [h])]
   refine Wp.eq (wp_bindE (fcheck_ok h) ?_)
   refine wp_ifn (fun h => absurd rfl h) (fun _ => ?_)
   refine wp_if (p := ¬ argOk q) ?_ (fun ha => ?_) (fun ha => ?_)
   · unfold argOk
     simp only [fog_isDistrict, fog_isMinute, Bool.or_eq_true, Bool.not_eq_true', ← Bool.not_eq_true, fwithin_iff, frange_iff]
     omega
   · rw [if_pos ha]; exact wp_some rfl
   · rw [if_neg ha]
     refine wp_if (p := ¬ dayOk q.night q.moment) ?_ (fun hd => ?_) (fun hd => ?_)
     · unfold dayOk
       simp only [fog_isNight, fog_isMoment, Bool.or_eq_true, Bool.not_eq_true', ← Bool.not_eq_true, fwithin_iff]
       omega
     · rw [if_pos hd]; exact wp_some rfl
     · rw [if_neg hd]
       exact wp_bindE (fsee_eq fuel l _ _ _ h.len hf) (wp_some rfl)
 · rw [if_pos h]
   refine Wp.eq (wp_bindE (fcheck_bad h) ?_)
   exact wp_some rfl
theorem viewR_le (q : fog_query) (l : List Report) : (viewR q l).1.length ≤ 60 := by
 unfold viewR
 split
 · simp
 · split
   · simp
   · split
     · simp
     · rename_i h _ _
       have h : RepsOk l := Classical.byContradiction h
       exact Nat.le_trans (List.length_filter_le _ _) h.len
theorem fclear_eq (fuel : Nat) (q : fog_query) (l : List Report) (hf : 60 < fuel) : fog_query__clear fuel q l = some (clearR q l) := by
 unfold fog_query__clear clearR
 refine Wp.eq (wp_bindE (fview_eq fuel q l hf) ?_)
 refine wp_ifn (fun h => ?_) (fun h => ?_)
 · rw [if_pos h]; exact wp_some rfl
 · rw [if_neg (by simp [h])]
   refine wp_bindE (fpair_eq _ (Nat.le_trans (viewR_le q l) (by omega))) ?_
   rw [pairR_two]
   refine wp_bif (fun h2 => ?_) (fun h2 => ?_)
   · rw [if_pos h2]; exact wp_some rfl
   · rw [if_neg (by simp [h2])]; exact wp_some rfl
def foggyL (v : List Report) (lim : Int) (lo : Int) : Nat → Int
 | 0 => 0
 | n + 1 => if (sightL v lo).Hi < lim then 1 else
   if foggyL v lim (lo + 1) n = 1 then 1 else if lim ≤ (sightL v lo).Lo ∧ foggyL v lim (lo + 1) n = 0 then 0 else 2
theorem foggyL_vals (v : List Report) (lim : Int) : ∀ (n : Nat) (lo : Int), foggyL v lim lo n = 0 ∨ foggyL v lim lo n = 1 ∨ foggyL v lim lo n = 2
 | 0, _ => .inl rfl
 | n + 1, lo => by
   unfold foggyL
   split
   · exact .inr (.inl rfl)
   · split
     · exact .inr (.inl rfl)
     · split
       · exact .inl rfl
       · exact .inr (.inr rfl)
def foggyR (v : List Report) (lim out lo : Int) (n : Nat) : Int := if foggyL v lim lo n = 1 then 1 else if foggyL v lim lo n = 0 then out else 2
theorem foggy_loop (v : List Report) (lim hi : Int) (fuel : Nat) (K : Int → Option (Int × Int)) (Q : Int × Int → Prop) (out0 lo0 : Int) (n0 : Nat) (hf : n0 < fuel) (hn : lo0 + n0 = hi + 1) (hlo : -9223372036854775808 ≤ lo0) (hhi : hi < 9223372036854775807) (ho : out0 = 0 ∨ out0 = 2)
   (hK : Wp (K (foggyR v lim out0 lo0 n0)) Q) :
     Wp (loopGo (fun (s5 : Int × Int) k5 => (bif (decide (s5.2 ≤ hi)) then bindO (fog_view__sight v s5.2) fun y7 => (bif (decide ((fog_below y7 lim) = 1)) then K 1 else (bif (decide ((fog_below y7 lim) = 2)) then must (inI (s5.2 + 1)) <| k5 (2, (s5.2 + 1)) else must (inI (s5.2 + 1)) <| k5 (s5.1, (s5.2 + 1)))) else K s5.1)) fuel (out0, lo0)) Q := by
 refine wp_loop (fun s => ∃ n : Nat, s.2 + n = hi + 1 ∧ lo0 ≤ s.2 ∧ (s.1 = 0 ∨ s.1 = 2) ∧ foggyR v lim s.1 s.2 n = foggyR v lim out0 lo0 n0) (fun s => (hi + 1 - s.2).toNat) (by simp only; omega) ⟨n0, hn, Int.le_refl _, ho, rfl⟩ ?_
 rintro ⟨out, lo⟩ K5 ⟨n, h1, h2, h3, h4⟩ hK5
 simp only at h1 h2 h3 h4 hK5 ⊢
 refine wp_ifd (fun hle => ?_) (fun hgt => ?_)
 · obtain ⟨n, rfl⟩ : ∃ k, n = k + 1 := ⟨n - 1, by omega⟩
   refine wp_bindE (fsight_eq v lo) ?_
   have hb : (fog_below (sightL v lo) lim = 1 ∧ (sightL v lo).Hi < lim) ∨ (fog_below (sightL v lo) lim = 0 ∧ ¬ (sightL v lo).Hi < lim ∧ lim ≤ (sightL v lo).Lo) ∨ (fog_below (sightL v lo) lim = 2 ∧ ¬ (sightL v lo).Hi < lim ∧ ¬ lim ≤ (sightL v lo).Lo) := by
     unfold fog_below
     by_cases a : (sightL v lo).Hi < lim
     · rw [decide_eq_true a]; exact .inl ⟨rfl, a⟩
     · by_cases b : lim ≤ (sightL v lo).Lo
       · rw [decide_eq_false a, decide_eq_true b]; exact .inr (.inl ⟨rfl, a, b⟩)
       · rw [decide_eq_false a, decide_eq_false b]; exact .inr (.inr ⟨rfl, a, b⟩)
   have hv := foggyL_vals v lim n (lo + 1)
   rcases hb with ⟨e, a⟩ | ⟨e, a, b⟩ | ⟨e, a, b⟩
   · rw [e]
     refine wp_true (by decide) ?_
     have : foggyR v lim out0 lo0 n0 = 1 := by rw [← h4]; unfold foggyR foggyL; rw [if_pos a]; rfl
     rw [this] at hK; exact hK
   · rw [e]
     refine wp_false (by decide) (wp_false (by decide) (wp_mustI (by omega) (hK5 _ ⟨n, by simp only; omega, by simp only; omega, h3, ?_⟩ (by simp only; omega))))
     rw [← h4]
     unfold foggyR
     conv => rhs; unfold foggyL
     rw [if_neg a]
     rcases hv with h | h | h <;> simp [h, b]
   · rw [e]
     refine wp_false (by decide) (wp_true (by decide) (wp_mustI (by omega) (hK5 _ ⟨n, by simp only; omega, by simp only; omega, .inr rfl, ?_⟩ (by simp only; omega))))
     rw [← h4]
     unfold foggyR
     conv => rhs; unfold foggyL
     rw [if_neg a]
     rcases hv with h | h | h <;> simp [h, b]
 · have : n = 0 := by omega
   subst this
   have : foggyR v lim out0 lo0 n0 = out := by rw [← h4]; rfl
   rw [this] at hK; exact hK
def span (t : Range) : Nat := (t.Hi + 1 - t.Lo).toNat
theorem fFoggy_eq (fuel : Nat) (l : List Report) (d n : Int) (t : Range) (lim m : Int) (hf : 1441 < fuel) : fog_Foggy fuel l d n t lim m =
   some (if (clearR ⟨d, n, m, 0, t, lim⟩ l).2 ≠ 0 then (0, (clearR ⟨d, n, m, 0, t, lim⟩ l).2) else (foggyL (clearR ⟨d, n, m, 0, t, lim⟩ l).1 lim t.Lo (span t), 0)) := by
 unfold fog_Foggy
 refine Wp.eq (wp_bindE (fclear_eq fuel _ l (by omega)) ?_)
 refine wp_ifn (fun h => ?_) (fun h => ?_)
 · rw [if_pos h]; exact wp_some rfl
 · rw [if_neg (by simp [h])]
   have hq : argOk ⟨d, n, m, 0, t, lim⟩ := by
     refine Classical.byContradiction (fun hn => ?_)
     unfold clearR viewR at h
     by_cases h0 : RepsOk l
     · rw [if_neg (by simp [h0] : ¬ ¬ RepsOk l), if_pos hn] at h
       simp at h
     · rw [if_pos h0] at h
       simp at h
   obtain ⟨_, _, _, _, h5, h6, h7, _⟩ := hq
   simp only at h5 h6 h7
   refine wp_joinU (foggy_loop _ lim t.Hi fuel (fun s4 => some (s4, 0)) _ 0 t.Lo (span t) (by unfold span; omega) (by unfold span; omega) (by omega) (by omega) (.inl rfl) (wp_some ?_))
   unfold foggyR
   rcases foggyL_vals (clearR ⟨d, n, m, 0, t, lim⟩ l).1 lim (span t) t.Lo with h | h | h <;> simp [h]
def worstL (v : List Report) (r : Range) (lo : Int) : Nat → Range
 | 0 => r
 | n + 1 => worstL v ⟨min r.Lo (sightL v lo).Lo, min r.Hi (sightL v lo).Hi⟩ (lo + 1) n
theorem worst_loop (v : List Report) (hi : Int) (fuel : Nat) (r0 : Range) (lo0 : Int) (n0 : Nat) (hf : n0 < fuel) (hn : lo0 + n0 = hi + 1) (hlo : -9223372036854775808 ≤ lo0) (hhi : hi < 9223372036854775807) :
     (loopGo (fun (s7 : Int × Range) k7 => (bif (decide (s7.1 ≤ hi)) then bindO (fog_view__sight v s7.1) fun y9 => must (inI (s7.1 + 1)) <| k7 ((s7.1 + 1), (⟨(min s7.2.Lo y9.Lo), (min s7.2.Hi y9.Hi)⟩ : Range)) else some (s7.2, 0))) fuel (lo0, r0)) = some (worstL v r0 lo0 n0, (0 : Int)) := by
 refine (wp_loop (P := fun r => r = (worstL v r0 lo0 n0, (0 : Int))) (fun s => ∃ n : Nat, s.1 + n = hi + 1 ∧ lo0 ≤ s.1 ∧ worstL v s.2 s.1 n = worstL v r0 lo0 n0) (fun s => (hi + 1 - s.1).toNat) (by simp only; omega) ⟨n0, hn, Int.le_refl _, rfl⟩ ?_).eq
 rintro ⟨lo, r⟩ K ⟨n, h1, h2, h4⟩ hK
 simp only at h1 h2 h4 hK ⊢
 refine wp_ifd (fun hle => ?_) (fun hgt => ?_)
 · obtain ⟨n, rfl⟩ : ∃ k, n = k + 1 := ⟨n - 1, by omega⟩
   refine wp_bindE (fsight_eq v lo) (wp_mustI (by omega) (hK _ ⟨n, by simp only; omega, by simp only; omega, ?_⟩ (by simp only; omega)))
   rw [← h4]; rfl
 · have : n = 0 := by omega
   subst this
   exact wp_some (by rw [← h4]; rfl)
theorem fWorst_eq (fuel : Nat) (l : List Report) (d n : Int) (t : Range) (m : Int) (hf : 1441 < fuel) : fog_Worst fuel l d n t m =
   some (if (clearR ⟨d, n, m, 0, t, 1⟩ l).2 ≠ 0 then (⟨0, 0⟩, (clearR ⟨d, n, m, 0, t, 1⟩ l).2) else (worstL (clearR ⟨d, n, m, 0, t, 1⟩ l).1 (sightL (clearR ⟨d, n, m, 0, t, 1⟩ l).1 t.Lo) (t.Lo + 1) (span t - 1), 0)) := by
 unfold fog_Worst
 refine Wp.eq (wp_bindE (fclear_eq fuel _ l (by omega)) ?_)
 refine wp_ifn (fun h => ?_) (fun h => ?_)
 · rw [if_pos h]; exact wp_some rfl
 · rw [if_neg (by simp [h])]
   have hq : argOk ⟨d, n, m, 0, t, 1⟩ := by
     refine Classical.byContradiction (fun hn => ?_)
     unfold clearR viewR at h
     by_cases h0 : RepsOk l
     · rw [if_neg (by simp [h0] : ¬ ¬ RepsOk l), if_pos hn] at h
       simp at h
     · rw [if_pos h0] at h
       simp at h
   obtain ⟨_, _, _, _, h5, h6, h7, _⟩ := hq
   simp only at h5 h6 h7
   refine wp_bindE (fsight_eq _ _) (wp_mustI (by omega) ?_)
   exact Wp.of_eq (worst_loop _ t.Hi fuel _ (t.Lo + 1) (span t - 1) (by unfold span; omega) (by unfold span; omega) (by omega) (by omega)) rfl
theorem fSight_eq (fuel : Nat) (l : List Report) (d n mi m : Int) (hf : 60 < fuel) : fog_Sight fuel l d n mi m =
   some (if (clearR ⟨d, n, m, mi, ⟨0, 0⟩, 1⟩ l).2 ≠ 0 then (⟨0, 0⟩, (clearR ⟨d, n, m, mi, ⟨0, 0⟩, 1⟩ l).2) else (sightL (clearR ⟨d, n, m, mi, ⟨0, 0⟩, 1⟩ l).1 mi, 0)) := by
 unfold fog_Sight
 refine Wp.eq (wp_bindE (fclear_eq fuel _ l hf) ?_)
 refine wp_ifn (fun h => ?_) (fun h => ?_)
 · rw [if_pos h]; exact wp_some rfl
 · rw [if_neg (by simp [h])]
   exact wp_bindE (fsight_eq _ _) (wp_some rfl)
end Go.Sp
end
/- Plain laws, fog: the document's tests, views, contradictions and sights. No program in sight. -/
section
set_option linter.all false
namespace Go.Sp
open Go.Av
set_option maxRecDepth 100000
theorem rin_iff {a b c : Int} : gasolierref05_In a b c = true ↔ b ≤ a ∧ a ≤ c := by simp [gasolierref05_In]
theorem rcheckReport_eq (x : Report) : gasolierref05_CheckReport x = fog_CheckReport x := by
 have e1 : gasolierref05_CheckReport x = 0 ∨ gasolierref05_CheckReport x = 50 := by
   unfold gasolierref05_CheckReport
   generalize (((((!(((gasolierref05_In x.Source 1 99999) && (gasolierref05_In x.District 1 9)) && (gasolierref05_In x.Night 0 100000))) || (!(((decide (0 ≤ x.From)) && (decide (x.From ≤ x.To))) && (decide (x.To ≤ 1439))))) || (!(((decide (0 ≤ x.Sight.Lo)) && (decide (x.Sight.Lo ≤ x.Sight.Hi))) && (decide (x.Sight.Hi ≤ 5000))))) || (!(gasolierref05_isMoment x.Known))) || ((!decide (x.Until = 0)) && ((decide (x.Until ≤ x.Known)) || (!(gasolierref05_isMoment x.Until))))) = b
   cases b
   · exact .inl rfl
   · exact .inr rfl
 have e2 : gasolierref05_CheckReport x = 0 ↔ RepOk x := by
   unfold gasolierref05_CheckReport
   generalize hb : (((((!(((gasolierref05_In x.Source 1 99999) && (gasolierref05_In x.District 1 9)) && (gasolierref05_In x.Night 0 100000))) || (!(((decide (0 ≤ x.From)) && (decide (x.From ≤ x.To))) && (decide (x.To ≤ 1439))))) || (!(((decide (0 ≤ x.Sight.Lo)) && (decide (x.Sight.Lo ≤ x.Sight.Hi))) && (decide (x.Sight.Hi ≤ 5000))))) || (!(gasolierref05_isMoment x.Known))) || ((!decide (x.Until = 0)) && ((decide (x.Until ≤ x.Known)) || (!(gasolierref05_isMoment x.Until))))) = b
   have hb' : b = false ↔ RepOk x := by
     rw [← hb]
     simp only [gasolierref05_isMoment, Bool.or_eq_false_iff, Bool.and_eq_false_iff, Bool.not_eq_false', Bool.and_eq_true, rin_iff, decide_eq_true_eq, decide_eq_false_iff_not]
     constructor
     · rintro ⟨⟨⟨⟨⟨⟨h1, h2⟩, h3⟩, ⟨h4, h5⟩, h6⟩, ⟨h7, h8⟩, h9⟩, h10⟩, h11⟩
       exact ⟨h1, h2, h3, ⟨h4, h5, h6⟩, ⟨h7, h8, h9⟩, h10, by omega⟩
     · rintro ⟨h1, h2, h3, ⟨h4, h5, h6⟩, ⟨h7, h8, h9⟩, h10, h11⟩
       exact ⟨⟨⟨⟨⟨⟨h1, h2⟩, h3⟩, ⟨h4, h5⟩, h6⟩, ⟨h7, h8⟩, h9⟩, h10⟩, by omega⟩
   rw [← hb']
   cases b <;> simp
 rcases fcheck_or x with h | h
 · rw [h]; exact e2.2 (fcheckReport_iff.1 h)
 · rcases e1 with h1 | h1
   · have := fcheckReport_iff.2 (e2.1 h1); omega
   · rw [h, h1]
theorem rcheck_wp {fuel : Nat} (l : List Report) (hf : 61 < fuel) : Wp (gasolierref05_Check fuel l) (fun r => (RepsOk l ∧ r = 0) ∨ (¬ RepsOk l ∧ r = 51)) := by
 unfold gasolierref05_Check
 refine wp_ifd (fun h => wp_some (.inr ⟨fun V => by have := V.len; omega, rfl⟩)) (fun h => ?_)
 refine wp_for1 l.length (by omega) (fun i => ∀ j, j < i → RepOk (rp l j) ∧ (0 < j → (rp l (j - 1)).Source < (rp l j).Source)) (fun j hj => by omega) (fun i K hi hI hK => ?_)
 refine wp_ifd (fun hlt => ?_) (fun hge => wp_some (.inl ⟨⟨by omega, fun j hj => hI j (by omega)⟩, rfl⟩))
 have hi' : i < l.length := by omega
 refine wp_must (by omega) (wp_must (fun _ => by unfold inI; omega) (wp_must (fun h => by simp at h; omega) (wp_must (fun _ => by omega) ?_)))
 have e : (((i : Int) - 1)).toNat = i - 1 := by omega
 rw [e]
 simp only [Int.toNat_natCast, rcheckReport_eq]
 refine wp_bif (fun hb => wp_some (.inr ⟨fun V => ?_, rfl⟩)) (fun hb => ?_)
 · obtain ⟨a1, a2⟩ := V.all i hi'
   unfold rp at a1 a2
   have a3 := fcheckReport_iff.2 a1
   simp only [a3, Bool.or_eq_true, Bool.and_eq_true, decide_eq_true_eq, Bool.not_eq_true'] at hb
   rcases hb with hb | hb
   · simp at hb
   · have := a2 (by omega); omega
 · simp only [Bool.or_eq_false_iff, Bool.and_eq_false_iff, Bool.not_eq_false', decide_eq_true_eq, decide_eq_false_iff_not] at hb
   refine wp_mustI (by omega) (hK hi' (fun j hj => ?_))
   by_cases ej : j = i
   · subst ej
     refine ⟨fcheckReport_iff.1 hb.1, fun h0 => ?_⟩
     unfold rp
     rcases hb.2 with h | h <;> omega
   · exact hI j (by omega)
theorem rcheck_ok {fuel : Nat} {l : List Report} (hf : 61 < fuel) (h : RepsOk l) : gasolierref05_Check fuel l = some 0 := by
 obtain ⟨r, e, h1 | h1⟩ := rcheck_wp l hf
 · rw [e, h1.2]
 · exact absurd h h1.1
theorem rcheck_bad {fuel : Nat} {l : List Report} (hf : 61 < fuel) (h : ¬ RepsOk l) : gasolierref05_Check fuel l = some 51 := by
 obtain ⟨r, e, h1 | h1⟩ := rcheck_wp l hf
 · exact absurd h1.1 h
 · rw [e, h1.2]
theorem rof_eq {fuel : Nat} (l : List Report) (a : gasolierref05_At) (hl : l.length ≤ 60) (hf : 61 < fuel) : gasolierref05_of fuel l a = some (seeL l a.District a.Night a.Moment) := by
 unfold gasolierref05_of
 refine (wp_for (P := fun r => r = seeL l a.District a.Night a.Moment) l.length (by omega) (fun i s => s = (l.take i).filter (seen a.District a.Night a.Moment)) (by simp) (fun i s K hi hI hK => ?_)).eq
 simp only at hK ⊢
 refine wp_ifd (fun hlt => ?_) (fun hge => wp_some ?_)
 · have hi' : i < l.length := by omega
   refine wp_must (by omega) (wp_must (fun _ => by omega) (wp_must (fun _ => by omega) ?_))
   simp only [Int.toNat_natCast]
   have et : (l.take (i + 1)).filter (seen a.District a.Night a.Moment) = (l.take i).filter (seen a.District a.Night a.Moment) ++ (if seen a.District a.Night a.Moment (l.getD i default) then [l.getD i default] else []) := by
     rw [take_getD hi', List.filter_append]; simp only [List.filter_cons, List.filter_nil]
   have hlen : s.length ≤ 60 := by
     rw [hI]; exact Nat.le_trans (List.length_filter_le _ _) (by simp; omega)
   refine wp_bif (fun hb => ?_) (fun hb => ?_)
   · refine wp_must (by omega) (wp_mustR (by simp; omega) (wp_mustI (by omega) (hK _ hi' ?_)))
     rw [et, if_pos (show seen a.District a.Night a.Moment (l.getD i default) = true from hb), hI]
   · refine wp_mustI (by omega) (hK _ hi' ?_)
     rw [et, if_neg (by rw [show seen a.District a.Night a.Moment (l.getD i default) = false from hb]; simp), hI, List.append_nil]
 · rw [hI, List.take_of_length_le (by omega)]; rfl
theorem find_loop {fuel : Nat} (l : List Report) (a : Report) (j0 : Nat) (hj0 : j0 ≤ l.length) (hf : l.length < fuel) (hl : l.length ≤ 60) {R : Type} {P : R → Prop} {body : Int → (Int → Option R) → Option R} {out : Option R} {yes : Report → Option R}
   (hb : ∀ (j : Nat) (K : Int → Option R), j < l.length → (fog_clash a (l.getD j default) = true → Wp (yes (l.getD j default)) P → Wp (body (j : Int) K) P) ∧ (fog_clash a (l.getD j default) = false → Wp (K ((j : Int) + 1)) P → Wp (body (j : Int) K) P))
   (he : ∀ (K : Int → Option R), Wp out P → Wp (body (l.length : Int) K) P)
   (h : Wp (match (l.drop j0).find? (fun b => fog_clash a b) with | some b => yes b | none => out) P) : Wp (loopGo body fuel (j0 : Int)) P := by
 refine wp_loop (fun s => ∃ j : Nat, s = (j : Int) ∧ j ≤ l.length ∧ Wp (match (l.drop j).find? (fun b => fog_clash a b) with | some b => yes b | none => out) P) (fun s => l.length - s.toNat) (by simp only [Int.toNat_natCast]; omega) ⟨j0, rfl, hj0, h⟩ ?_
 rintro s K ⟨j, rfl, hj, hw⟩ hK
 by_cases hlt : j < l.length
 · rw [drop_getD hlt, List.find?_cons] at hw
   obtain ⟨h1, h2⟩ := hb j K hlt
   cases hc : fog_clash a (l.getD j default) with
   | true => rw [hc] at hw; exact h1 hc hw
   | false => rw [hc] at hw; exact h2 hc (hK _ ⟨j + 1, by simp, by omega, hw⟩ (by simp only [Int.toNat_natCast]; omega))
 · have ej : j = l.length := by omega
   subst ej
   rw [List.drop_length] at hw
   exact he K hw
theorem pairR_cons (a : Report) (v : List Report) : pairR (a :: v) = match v.find? (fun b => fog_clash a b) with | some b => ([a.Source, b.Source], true) | none => pairR v := by
 conv => lhs; unfold pairR pairL
 cases v.find? (fun b => fog_clash a b) with
 | some b => rfl
 | none => rfl
theorem rclash_eq {fuel : Nat} (l : List Report) (hl : l.length ≤ 60) (hf : 61 < fuel) : gasolierref05_clash fuel l = some (pairR l).1 := by
 unfold gasolierref05_clash
 refine (wp_for1 (P := fun r => r = (pairR l).1) l.length (by omega) (fun i => pairR (l.drop i) = pairR l) (by simp) (fun i K hi hI hK => ?_)).eq
 refine wp_ifd (fun hlt => ?_) (fun hge => wp_some ?_)
 · have hi' : i < l.length := by omega
   refine wp_mustI (by omega) ?_
   have e1 : (i : Int) + 1 = ((i + 1 : Nat) : Int) := by simp
   rw [e1]
   refine find_loop l (l.getD i default) (i + 1) (by omega) (by omega) hl (yes := fun b => some [(l.getD i default).Source, b.Source]) (out := K ((i : Int) + 1)) (fun j K' hj => ⟨fun hc hw => ?_, fun hc hw => ?_⟩) (fun K' hw => ?_) ?_
   · simp only [Int.toNat_natCast]
     refine wp_true (by simp; omega) (wp_must (by omega) (wp_must (by omega) (wp_true hc (wp_must (by omega) (wp_must (by omega) hw)))))
   · simp only [Int.toNat_natCast]
     refine wp_true (by simp; omega) (wp_must (by omega) (wp_must (by omega) (wp_false hc (wp_mustI (by omega) hw))))
   · refine wp_false (by simp) (wp_mustI (by omega) hw)
   · have hp := hI
     rw [drop_getD hi'] at hp
     rw [pairR_cons] at hp
     cases hf2 : (l.drop (i + 1)).find? (fun b => fog_clash (l.getD i default) b) with
     | some b =>
       rw [hf2] at hp
       simp only at hp ⊢
       refine wp_some ?_
       rw [← hp]
     | none =>
       rw [hf2] at hp
       simp only at hp ⊢
       exact hK hi' hp
 · have : i = l.length := by omega
   subst this
   rw [List.drop_length] at hI
   rw [← hI]; rfl
theorem rsight_eq {fuel : Nat} (l : List Report) (m : Int) (hl : l.length ≤ 60) (hf : 61 < fuel) : gasolierref05_sight fuel l m = some (sightL l m) := by
 unfold gasolierref05_sight
 refine (wp_for (P := fun r => r = sightL l m) l.length (by omega) (fun i s => ((l.drop i).filter (atMin m)).foldl nar s = sightL l m) (by simp [sightL]) (fun i s K hi hI hK => ?_)).eq
 simp only at hK ⊢
 refine wp_ifd (fun hlt => ?_) (fun hge => wp_some ?_)
 · have hi' : i < l.length := by omega
   rw [drop_getD hi', List.filter_cons] at hI
   refine wp_must (by omega) (wp_must (by omega) ?_)
   simp only [Int.toNat_natCast]
   refine wp_bif (fun hb => ?_) (fun hb => ?_)
   · rw [if_pos (show atMin m (l.getD i default) = true from hb), List.foldl_cons] at hI
     exact wp_must (by omega) (wp_must (by omega) (wp_mustI (by omega) (hK _ hi' hI)))
   · rw [if_neg (by rw [show atMin m (l.getD i default) = false from hb]; simp)] at hI
     exact wp_mustI (by omega) (hK _ hi' hI)
 · rw [List.drop_of_length_le (by omega)] at hI; exact hI
abbrev qOf (a : gasolierref05_At) (lo hi lim : Int) : fog_query := ⟨a.District, a.Night, a.Moment, 0, ⟨lo, hi⟩, lim⟩
theorem rasked_eq {fuel : Nat} (l : List Report) (a : gasolierref05_At) (t : gasolierref05_Time) (hf : 61 < fuel) : gasolierref05_asked fuel l a t = some (viewR (qOf a t.Lo t.Hi t.Limit) l).2 := by
 unfold gasolierref05_asked viewR
 by_cases h : RepsOk l
 · rw [if_neg (by simp [h])]
   refine Wp.eq (wp_bindE (rcheck_ok hf h) ?_)
   refine wp_ifn (fun h => absurd rfl h) (fun _ => ?_)
   refine wp_if (p := ¬ argOk (qOf a t.Lo t.Hi t.Limit)) ?_ (fun ha => ?_) (fun ha => ?_)
   · unfold argOk
     simp only [Bool.or_eq_true, Bool.not_eq_true', ← Bool.not_eq_true, rin_iff, decide_eq_true_eq]
     omega
   · rw [if_pos ha]; exact wp_some rfl
   · rw [if_neg ha]
     refine wp_if (p := ¬ dayOk a.Night a.Moment) ?_ (fun hd => ?_) (fun hd => ?_)
     · unfold dayOk
       simp only [gasolierref05_isMoment, Bool.or_eq_true, Bool.not_eq_true', ← Bool.not_eq_true, rin_iff]
       omega
     · rw [if_pos hd]; exact wp_some rfl
     · rw [if_neg hd]; exact wp_some rfl
 · rw [if_pos h]
   exact Wp.eq (wp_bindE (rcheck_bad hf h) (wp_some rfl))
theorem viewR_zero {q : fog_query} {l : List Report} (h : (viewR q l).2 = 0) : RepsOk l ∧ argOk q ∧ dayOk q.night q.moment ∧ (viewR q l).1 = seeL l q.district q.night q.moment := by
 unfold viewR at h ⊢
 by_cases h1 : RepsOk l
 · rw [if_neg (by simp [h1] : ¬ ¬ RepsOk l)] at h ⊢
   by_cases h2 : argOk q
   · rw [if_neg (by simp [h2] : ¬ ¬ argOk q)] at h ⊢
     by_cases h3 : dayOk q.night q.moment
     · rw [if_neg (by simp [h3] : ¬ ¬ dayOk q.night q.moment)]; exact ⟨h1, h2, h3, rfl⟩
     · rw [if_pos h3] at h; cases h
   · rw [if_pos h2] at h; cases h
 · rw [if_pos h1] at h; cases h
theorem clearR_zero {q : fog_query} {l : List Report} (h : (clearR q l).2 = 0) : RepsOk l ∧ argOk q ∧ dayOk q.night q.moment ∧ (clearR q l).1 = seeL l q.district q.night q.moment ∧ pairL (seeL l q.district q.night q.moment) = none := by
 unfold clearR at h ⊢
 by_cases h1 : (viewR q l).2 = 0
 · obtain ⟨v1, v2, v3, v4⟩ := viewR_zero h1
   rw [if_neg (by simp [h1])] at h ⊢
   rw [v4] at h ⊢
   cases hp : pairL (seeL l q.district q.night q.moment) with
   | none => rw [hp] at h; exact ⟨v1, v2, v3, rfl, rfl⟩
   | some x => rw [hp] at h; simp at h
 · rw [if_pos h1] at h; exact absurd h h1
theorem clearR_congr {q q' : fog_query} {l : List Report} (h1 : argOk q ↔ argOk q') (h2 : q.district = q'.district) (h3 : q.night = q'.night) (h4 : q.moment = q'.moment) : clearR q l = clearR q' l := by
 have : viewR q l = viewR q' l := by
   unfold viewR
   rw [h2, h3, h4]
   by_cases h : argOk q
   · have h' := h1.1 h; simp only [h, h', not_true, if_false]
   · have h' : ¬ argOk q' := fun x => h (h1.2 x); simp only [h, h', not_false_iff, if_true]
 unfold clearR; rw [this]
theorem rclear_eq {fuel : Nat} (l : List Report) (a : gasolierref05_At) (t : gasolierref05_Time) (hf : 61 < fuel) : gasolierref05_clear_ fuel l a t = some (clearR (qOf a t.Lo t.Hi t.Limit) l).2 := by
 unfold gasolierref05_clear_ clearR
 refine Wp.eq (wp_bindE (rasked_eq l a t hf) ?_)
 generalize hv : viewR (qOf a t.Lo t.Hi t.Limit) l = v
 by_cases h : v.2 = 0
 · rw [if_neg (by simp [h])]
   obtain ⟨h1, h2, h3, h4⟩ := viewR_zero (hv.symm ▸ h)
   rw [hv] at h4
   have hle : (seeL l a.District a.Night a.Moment).length ≤ 60 := Nat.le_trans (List.length_filter_le _ _) h1.len
   refine wp_onE (by simp [h]) (rof_eq l a h1.len hf) (wp_onE (by simp [h]) (rclash_eq _ hle hf) ?_)
   have hlen : (decide (0 < (((pairR (seeL l a.District a.Night a.Moment)).1.length : Nat) : Int))) = (pairL v.1).isSome := by
     rw [h4]; unfold pairR
     cases pairL (seeL l a.District a.Night a.Moment) <;> rfl
   rw [hlen, h]
   cases (pairL v.1).isSome
   · exact wp_some rfl
   · exact wp_some rfl
 · rw [if_pos h]
   refine wp_offE (by simp [h]) rfl (wp_offE (by simp [h]) rfl (wp_false (by simp [h]) (wp_some rfl)))
end Go.Sp
end
/- Plain laws, fog: FogSights, FogClashes. No program in sight. -/
section
set_option linter.all false
namespace Go.Sp
open Go.Av
set_option maxRecDepth 100000
theorem sane_ok : gasolierlaw05_sane 20000 = some true := by kernel_rfl
theorem sightL_hi (v : List Report) (m : Int) : (sightL v m).Hi ≤ 5000 ∧ 0 ≤ (sightL v m).Lo := by
 have key : ∀ (l : List Report) (r : Range), (l.foldl nar r).Hi ≤ r.Hi ∧ r.Lo ≤ (l.foldl nar r).Lo := by
   intro l
   induction l with
   | nil => intro r; exact ⟨Int.le_refl _, Int.le_refl _⟩
   | cons x l ih =>
     intro r
     have := ih (nar r x)
     simp only [List.foldl_cons]
     unfold nar at this ⊢
     simp only at this
     omega
 exact key _ _
theorem foldl_ends : ∀ (l : List Report) (r : Range), ((l.foldl nar r).Lo = r.Lo ∨ ∃ x ∈ l, (l.foldl nar r).Lo = x.Sight.Lo) ∧ ((l.foldl nar r).Hi = r.Hi ∨ ∃ x ∈ l, (l.foldl nar r).Hi = x.Sight.Hi)
 | [], r => ⟨.inl rfl, .inl rfl⟩
 | x :: l, r => by
   obtain ⟨h1, h2⟩ := foldl_ends l (nar r x)
   have e1 : (nar r x).Lo = r.Lo ∨ (nar r x).Lo = x.Sight.Lo := by unfold nar; simp only; omega
   have e2 : (nar r x).Hi = r.Hi ∨ (nar r x).Hi = x.Sight.Hi := by unfold nar; simp only; omega
   rw [List.foldl_cons]
   constructor
   · rcases h1 with h | ⟨y, hy, h⟩
     · rcases e1 with e | e
       · exact .inl (h.trans e)
       · exact .inr ⟨x, List.mem_cons_self, h.trans e⟩
     · exact .inr ⟨y, List.mem_cons_of_mem _ hy, h⟩
   · rcases h2 with h | ⟨y, hy, h⟩
     · rcases e2 with e | e
       · exact .inl (h.trans e)
       · exact .inr ⟨x, List.mem_cons_self, h.trans e⟩
     · exact .inr ⟨y, List.mem_cons_of_mem _ hy, h⟩
theorem mem_ok {l : List Report} (h : RepsOk l) {x : Report} (hx : x ∈ l) : RepOk x := by
 obtain ⟨i, hi, rfl⟩ := mem_getD hx
 exact (h.all i hi).1
theorem seen_mem {l : List Report} {d n m : Int} {x : Report} (hx : x ∈ seeL l d n m) : x ∈ l ∧ seen d n m x = true := List.mem_filter.1 hx
theorem sightL_lo {l : List Report} (h : RepsOk l) (d n mo m : Int) : (sightL (seeL l d n mo) m).Lo ≤ 5000 ∧ 0 ≤ (sightL (seeL l d n mo) m).Hi := by
 obtain ⟨h1, h2⟩ := foldl_ends ((seeL l d n mo).filter (atMin m)) ⟨0, 5000⟩
 unfold sightL
 constructor
 · rcases h1 with h1 | ⟨x, hx, h1⟩
   · rw [h1]; decide
   · have := (mem_ok h (seen_mem (List.mem_filter.1 hx).1).1).sight; rw [h1]; omega
 · rcases h2 with h1 | ⟨x, hx, h1⟩
   · rw [h1]; decide
   · have := (mem_ok h (seen_mem (List.mem_filter.1 hx).1).1).sight; rw [h1]; omega
theorem fBelow_eq (fuel : Nat) (l : List Report) (d n mi lim m : Int) (hf : 60 < fuel) : fog_Below fuel l d n mi lim m =
   some (if (clearR ⟨d, n, m, mi, ⟨0, 0⟩, lim⟩ l).2 ≠ 0 then (0, (clearR ⟨d, n, m, mi, ⟨0, 0⟩, lim⟩ l).2) else (fog_below (sightL (clearR ⟨d, n, m, mi, ⟨0, 0⟩, lim⟩ l).1 mi) lim, 0)) := by
 unfold fog_Below
 refine Wp.eq (wp_bindE (fclear_eq fuel _ l hf) ?_)
 refine wp_ifn (fun h => ?_) (fun h => ?_)
 · rw [if_pos h]; exact wp_some rfl
 · rw [if_neg (by simp [h])]
   exact wp_bindE (fsight_eq _ _) (wp_some rfl)
theorem ofEq {l : List Report} {q : fog_query} (h : (clearR q l).2 = 0) : (clearR q l).1 = seeL l q.district q.night q.moment ∧ l.length ≤ 60 ∧ (clearR q l).1.length ≤ 60 := by
 obtain ⟨h1, h2, h3, h4, h5⟩ := clearR_zero h
 refine ⟨h4, h1.len, ?_⟩
 rw [h4]; exact Nat.le_trans (List.length_filter_le _ _) h1.len
theorem rSight_eq {fuel : Nat} (l : List Report) (a : gasolierref05_At) (mi : Int) (hf : 61 < fuel) : gasolierref05_Sight fuel l a mi = fog_Sight fuel l a.District a.Night mi a.Moment := by
 rw [fSight_eq fuel l _ _ _ _ (by omega)]
 have hq : clearR (qOf a mi mi 1) l = clearR ⟨a.District, a.Night, a.Moment, mi, ⟨0, 0⟩, 1⟩ l := clearR_congr (by unfold argOk; simp only; omega) rfl rfl rfl
 unfold gasolierref05_Sight
 refine Wp.eq (wp_bindE (rclear_eq l a ⟨mi, mi, 1⟩ hf) ?_)
 rw [hq]
 refine wp_ifn (fun h => ?_) (fun h => ?_)
 · rw [if_pos h]; exact wp_some rfl
 · rw [if_neg (by simp [h])]
   obtain ⟨h1, h2, h3⟩ := ofEq h
   rw [h1] at h3 ⊢
   exact wp_bindE (rof_eq l a h2 hf) (wp_bindE (rsight_eq _ _ h3 hf) (wp_some rfl))
theorem rBelow_eq {fuel : Nat} (l : List Report) (a : gasolierref05_At) (t : gasolierref05_Time) (hf : 61 < fuel) : gasolierref05_Below fuel l a t = fog_Below fuel l a.District a.Night t.Lo t.Limit a.Moment := by
 rw [fBelow_eq fuel l _ _ _ _ _ (by omega)]
 have hq : clearR (qOf a t.Lo t.Lo t.Limit) l = clearR ⟨a.District, a.Night, a.Moment, t.Lo, ⟨0, 0⟩, t.Limit⟩ l := clearR_congr (by unfold argOk; simp only; omega) rfl rfl rfl
 unfold gasolierref05_Below
 refine Wp.eq (wp_bindE (rclear_eq l a ⟨t.Lo, t.Lo, t.Limit⟩ hf) ?_)
 simp only
 rw [hq]
 refine wp_ifn (fun h => ?_) (fun h => ?_)
 · rw [if_pos h]; exact wp_some rfl
 · rw [if_neg (by simp [h])]
   obtain ⟨h1, h2, h3⟩ := ofEq h
   rw [h1] at h3 ⊢
   exact wp_bindE (rof_eq l a h2 hf) (wp_bindE (rsight_eq _ _ h3 hf) (wp_some rfl))
theorem rFoggy_eq {fuel : Nat} (l : List Report) (a : gasolierref05_At) (t : gasolierref05_Time) (hf : 1441 < fuel) : gasolierref05_Foggy fuel l a t = fog_Foggy fuel l a.District a.Night ⟨t.Lo, t.Hi⟩ t.Limit a.Moment := by
 rw [fFoggy_eq fuel l _ _ _ _ _ hf]
 unfold gasolierref05_Foggy
 refine Wp.eq (wp_bindE (rclear_eq l a t (by omega)) ?_)
 refine wp_ifn (fun h => ?_) (fun h => ?_)
 · rw [if_pos h]; exact wp_some rfl
 · rw [if_neg (by simp [h])]
   obtain ⟨z1, z2, _⟩ := clearR_zero h
   obtain ⟨h1, h2, h3⟩ := ofEq h
   obtain ⟨_, _, _, _, z5, z6, z7, _⟩ := z2
   simp only at z5 z6 z7
   rw [h1] at h3 ⊢
   refine wp_bindE (rof_eq l a h2 (by omega)) ?_
   have e1 : ∀ m, gasolierref05_sight fuel (seeL l a.District a.Night a.Moment) m = fog_view__sight (seeL l a.District a.Night a.Moment) m := fun m => (rsight_eq _ m h3 (by omega)).trans (fsight_eq _ m).symm
   have e2 : gasolierref05_below = fog_below := rfl
   simp only [e1, e2]
   refine foggy_loop _ t.Limit t.Hi fuel (fun s => some (s, 0)) _ 0 t.Lo (span ⟨t.Lo, t.Hi⟩) (by unfold span; simp only; omega) (by unfold span; simp only; omega) (by omega) (by omega) (.inl rfl) (wp_some ?_)
   unfold foggyR
   rcases foggyL_vals (seeL l a.District a.Night a.Moment) t.Limit (span ⟨t.Lo, t.Hi⟩) t.Lo with h | h | h <;> simp [h]
theorem rWorst_eq {fuel : Nat} (l : List Report) (a : gasolierref05_At) (t : gasolierref05_Time) (hf : 1441 < fuel) : gasolierref05_Worst fuel l a t = fog_Worst fuel l a.District a.Night ⟨t.Lo, t.Hi⟩ a.Moment := by
 rw [fWorst_eq fuel l _ _ _ _ hf]
 unfold gasolierref05_Worst
 refine Wp.eq (wp_bindE (rclear_eq l a ⟨t.Lo, t.Hi, 1⟩ (by omega)) ?_)
 simp only
 refine wp_ifn (fun h => ?_) (fun h => ?_)
 · rw [if_pos h]; exact wp_some rfl
 · rw [if_neg (by simp [h])]
   obtain ⟨z1, z2, _⟩ := clearR_zero h
   obtain ⟨h1, h2, h3⟩ := ofEq h
   obtain ⟨_, _, _, _, z5, z6, z7, _⟩ := z2
   simp only at z5 z6 z7
   rw [h1] at h3 ⊢
   refine wp_bindE (rof_eq l a h2 (by omega)) ?_
   have e1 : ∀ m, gasolierref05_sight fuel (seeL l a.District a.Night a.Moment) m = fog_view__sight (seeL l a.District a.Night a.Moment) m := fun m => (rsight_eq _ m h3 (by omega)).trans (fsight_eq _ m).symm
   simp only [e1]
   rw [worst_loop _ t.Hi fuel ⟨5000, 5000⟩ t.Lo (span ⟨t.Lo, t.Hi⟩) (by unfold span; simp only; omega) (by unfold span; simp only; omega) (by omega) (by omega)]
   refine wp_some ?_
   obtain ⟨n, hn⟩ : ∃ n, span ⟨t.Lo, t.Hi⟩ = n + 1 := ⟨span ⟨t.Lo, t.Hi⟩ - 1, by unfold span; simp only; omega⟩
   rw [hn]
   simp only [Nat.add_sub_cancel]
   congr 1
   have a1 := sightL_hi (seeL l a.District a.Night a.Moment) t.Lo
   have a2 := sightL_lo z1 a.District a.Night a.Moment t.Lo
   have : (⟨min 5000 (sightL (seeL l a.District a.Night a.Moment) t.Lo).Lo, min 5000 (sightL (seeL l a.District a.Night a.Moment) t.Lo).Hi⟩ : Range) = sightL (seeL l a.District a.Night a.Moment) t.Lo := by
     rw [Int.min_eq_right a2.1, Int.min_eq_right a1.1]
   show worstL _ ⟨min 5000 _, min 5000 _⟩ (t.Lo + 1) n = _
   rw [this]
theorem fogSights_true (l : List Report) (a : gasolierref05_At) (t : gasolierref05_Time) : gasolierlaw05_FogSights 20000 l a t = some true := by
 unfold gasolierlaw05_FogSights
 rw [rSight_eq l a t.Lo (by omega), rBelow_eq l a t (by omega), rFoggy_eq l a t (by omega), rWorst_eq l a t (by omega)]
 obtain ⟨x1, e1⟩ : ∃ x, fog_Sight 20000 l a.District a.Night t.Lo a.Moment = some x := ⟨_, fSight_eq _ _ _ _ _ _ (by omega)⟩
 obtain ⟨x2, e2⟩ : ∃ x, fog_Below 20000 l a.District a.Night t.Lo t.Limit a.Moment = some x := ⟨_, fBelow_eq _ _ _ _ _ _ _ (by omega)⟩
 obtain ⟨x3, e3⟩ : ∃ x, fog_Foggy 20000 l a.District a.Night ⟨t.Lo, t.Hi⟩ t.Limit a.Moment = some x := ⟨_, fFoggy_eq _ _ _ _ _ _ _ (by omega)⟩
 obtain ⟨x4, e4⟩ : ∃ x, fog_Worst 20000 l a.District a.Night ⟨t.Lo, t.Hi⟩ a.Moment = some x := ⟨_, fWorst_eq _ _ _ _ _ _ (by omega)⟩
 rw [e1, e2, e3, e4]
 refine Wp.eq (wp_bindE rfl (wp_bindE rfl (wp_bindE rfl (wp_bindE rfl (wp_bindE rfl (wp_bindE rfl (wp_bindE rfl (wp_bindE rfl ?_))))))))
 exact wp_onE (by simp) sane_ok (wp_some (by simp))
end Go.Sp
end
