/- Texts of the framework, or of the plain law, one behind another. -/
import Derived.Test.YtoekhnngdocddaaFr1
import Derived.Test.YtoekhnngdocddaaFr4
import Derived.KernelRfl
/- Rules for plain laws: what a printed definition yields. No program in sight. -/
section
set_option linter.all false
namespace Go.Sp
open Go.Av
def Wp {R : Type} (x : Option R) (P : R → Prop) : Prop := ∃ r, x = some r ∧ P r
theorem Wp.eq {R : Type} {x : Option R} {v : R} (h : Wp x (· = v)) : x = some v := by
 obtain ⟨r, h1, h2⟩ := h; rw [h1, h2]
theorem Wp.of_eq {R : Type} {x : Option R} {v : R} {P : R → Prop} (h : x = some v) (hp : P v) : Wp x P := ⟨v, h, hp⟩
theorem Wp.mono {R : Type} {x : Option R} {P Q : R → Prop} (h : Wp x P) (hp : ∀ r, P r → Q r) : Wp x Q := by
 obtain ⟨r, h1, h2⟩ := h; exact ⟨r, h1, hp r h2⟩
theorem wp_some {R : Type} {r : R} {P : R → Prop} (h : P r) : Wp (some r) P := ⟨r, rfl, h⟩
theorem wp_must {R : Type} {c : Prop} [Decidable c] {x : Option R} {P : R → Prop} (h : c) (k : Wp x P) : Wp (must c x) P := by
 unfold must; rw [if_pos h]; exact k
theorem wp_bind {S R : Type} {x : Option S} {k : S → Option R} {P : R → Prop} {Q : S → Prop} (h : Wp x Q) (hk : ∀ s, Q s → Wp (k s) P) : Wp (bindO x k) P := by
 obtain ⟨r, h1, h2⟩ := h; rw [h1]; exact hk r h2
theorem wp_bindE {S R : Type} {x : Option S} {k : S → Option R} {P : R → Prop} {v : S} (h : x = some v) (hk : Wp (k v) P) : Wp (bindO x k) P := by
 rw [h]; exact hk
theorem wp_bif {R : Type} {b : Bool} {x y : Option R} {P : R → Prop} (h1 : b = true → Wp x P) (h2 : b = false → Wp y P) : Wp (bif b then x else y) P := by
 cases b
 · exact h2 rfl
 · exact h1 rfl
theorem wp_if {R : Type} {p : Prop} {b : Bool} {x y : Option R} {P : R → Prop} (hb : b = true ↔ p) (h1 : p → Wp x P) (h2 : ¬ p → Wp y P) : Wp (bif b then x else y) P :=
 wp_bif (fun h => h1 (hb.1 h)) (fun h => h2 (fun hp => by rw [hb.2 hp] at h; cases h))
theorem wp_ifd {R : Type} {p : Prop} [Decidable p] {x y : Option R} {P : R → Prop} (h1 : p → Wp x P) (h2 : ¬ p → Wp y P) : Wp (bif (decide p) then x else y) P :=
 wp_if (decide_eq_true_iff) h1 h2
theorem wp_ifn {R : Type} {p : Prop} [Decidable p] {x y : Option R} {P : R → Prop} (h1 : ¬ p → Wp x P) (h2 : p → Wp y P) : Wp (bif (!decide p) then x else y) P :=
 wp_bif (fun h => h1 (by simpa using h)) (fun h => h2 (by simpa using h))
theorem wp_true {R : Type} {b : Bool} {x y : Option R} {P : R → Prop} (h : b = true) (h1 : Wp x P) : Wp (bif b then x else y) P := by rw [h]; exact h1
theorem wp_false {R : Type} {b : Bool} {x y : Option R} {P : R → Prop} (h : b = false) (h1 : Wp y P) : Wp (bif b then x else y) P := by rw [h]; exact h1
theorem wp_join {S R : Type} {f : (S → Option R) → Option R} {k : S → Option R} {P : R → Prop} (G : S → Prop) (hf : ∀ K : S → Option R, (∀ s, G s → Wp (K s) P) → Wp (f K) P) (hk : ∀ s, G s → Wp (k s) P) : Wp (joinK f k) P := hf k hk
theorem wp_range {S R : Type} {body : Nat → S → (S → Option R) → Option R} {ex : S → Option R} {n : Nat} {s0 : S} {P : R → Prop} (Inv : Nat → S → Prop) (h0 : Inv 0 s0)
   (hb : ∀ (i : Nat) s (K : S → Option R), i < n → Inv i s → (∀ s', Inv (i + 1) s' → Wp (K s') P) → Wp (body i s K) P) (he : ∀ s, Inv n s → Wp (ex s) P) : Wp (rangeGo body ex n 0 s0) P := by
 have go : ∀ (m i : Nat), i + m = n → ∀ s, Inv i s → Wp (rangeGo body ex m i s) P := by
   intro m
   induction m with
   | zero => intro i hi s hs; have e : i = n := by omega
             subst e; exact he s hs
   | succ m ih => intro i hi s hs; exact hb i s _ (by omega) hs (fun s' h' => ih (i + 1) (by omega) s' h')
 exact go n 0 (by omega) s0 h0
theorem wp_loop {S R : Type} {body : S → (S → Option R) → Option R} {fuel : Nat} {s0 : S} {P : R → Prop} (Inv : S → Prop) (μ : S → Nat) (hf : μ s0 < fuel) (h0 : Inv s0)
   (hb : ∀ s (K : S → Option R), Inv s → (∀ s', Inv s' → μ s' < μ s → Wp (K s') P) → Wp (body s K) P) : Wp (loopGo body fuel s0) P := by
 have go : ∀ (f : Nat) s, Inv s → μ s < f → Wp (loopGo body f s) P := by
   intro f
   induction f with
   | zero => intro s _ h; omega
   | succ f ih => intro s hs hm; exact hb s _ hs (fun s' h' hl => ih s' h' (by omega))
 exact go fuel s0 h0 hf
theorem wp_for {S R : Type} {body : (Int × S) → ((Int × S) → Option R) → Option R} {fuel : Nat} {s0 : S} {P : R → Prop} (n : Nat) (hf : n < fuel) (Inv : Nat → S → Prop) (h0 : Inv 0 s0)
   (hb : ∀ (i : Nat) s (K : (Int × S) → Option R), i ≤ n → Inv i s → (∀ s', i < n → Inv (i + 1) s' → Wp (K ((i : Int) + 1, s')) P) → Wp (body ((i : Int), s) K) P) : Wp (loopGo body fuel (0, s0)) P := by
 have go : ∀ (f i : Nat) s, i ≤ n → n - i < f → Inv i s → Wp (loopGo body f ((i : Int), s)) P := by
   intro f
   induction f with
   | zero => intro i s _ h; omega
   | succ f ih => intro i s hi hm hs; exact hb i s _ hi hs (fun s' hl h' => ih (i + 1) s' (by omega) (by omega) h')
 exact go fuel 0 s0 (by omega) (by omega) h0
theorem wp_for1 {R : Type} {body : Int → (Int → Option R) → Option R} {fuel : Nat} {P : R → Prop} (n : Nat) (hf : n < fuel) (Inv : Nat → Prop) (h0 : Inv 0)
   (hb : ∀ (i : Nat) (K : Int → Option R), i ≤ n → Inv i → (i < n → Inv (i + 1) → Wp (K ((i : Int) + 1)) P) → Wp (body (i : Int) K) P) : Wp (loopGo body fuel 0) P := by
 have go : ∀ (f i : Nat), i ≤ n → n - i < f → Inv i → Wp (loopGo body f (i : Int)) P := by
   intro f
   induction f with
   | zero => intro i _ h; omega
   | succ f ih => intro i hi hm hs; exact hb i _ hi hs (fun hl h' => ih (i + 1) (by omega) (by omega) h')
 exact go fuel 0 (by omega) (by omega) h0
end Go.Sp
end
/- More rules for plain laws. No program in sight. -/
section
set_option linter.all false
namespace Go.Sp
open Go.Av
theorem wp_mustI {R : Type} {n : Int} {x : Option R} {P : R → Prop} (h : -9223372036854775808 ≤ n ∧ n ≤ 9223372036854775807) (k : Wp x P) : Wp (must (inI n) x) P := wp_must h k
theorem wp_mustR {R : Type} {n b : Nat} {x : Option R} {P : R → Prop} (h : n * b ≤ 140737488355328 ∧ n ≤ 9223372036854775807) (k : Wp x P) : Wp (must (room n b) x) P := wp_must h k
end Go.Sp
end
/- Rules for plain laws, more of them. No program in sight. -/
section
set_option linter.all false
namespace Go.Sp
open Go.Av
theorem wp_forall {R : Type} {body : Nat → Unit → (Unit → Option R) → Option R} {ex : Unit → Option R} {n : Nat} {P : R → Prop} (good : Nat → Prop)
   (hb : ∀ (i : Nat) (K : Option R), i < n → (∀ j, j < i → good j) → (good i → Wp K P) → Wp (body i () (fun _ => K)) P) (he : (∀ j, j < n → good j) → Wp (ex ()) P) : Wp (rangeGo body ex n 0 ()) P := by
 refine wp_range (fun i _ => ∀ j, j < i → good j) (fun j hj => by omega) (fun i s K hi hI hK => ?_) (fun s hs => he hs)
 have e : K = fun _ => K () := funext fun u => rfl
 rw [e]
 exact hb i (K ()) hi hI (fun g => hK () (fun j hj => by
   by_cases e : j = i
   · rw [e]; exact g
   · exact hI j (by omega)))
theorem wp_onE {S R : Type} {W : Bool} {x y : Option S} {k : S → Option R} {P : R → Prop} {v : S} (hW : W = true) (h : x = some v) (hk : Wp (k v) P) : Wp (bindO (bif W then x else y) k) P := by
 subst hW; rw [h]; exact hk
theorem must_yes {R : Type} {c : Prop} [Decidable c] (h : c) (x : Option R) : must c x = x := if_pos h
theorem getD_snoc {T : Type} (l : List T) (x d : T) (i : Nat) : (l ++ [x]).getD i d = if i = l.length then x else l.getD i d := by
 simp only [List.getD_eq_getElem?_getD]
 rcases Nat.lt_trichotomy i l.length with h | h | h
 · rw [List.getElem?_append_left h, if_neg (by omega)]
 · subst h; simp
 · rw [if_neg (by omega), List.getElem?_eq_none (by simp; omega), List.getElem?_eq_none (by omega)]
theorem getD_mem {T : Type} [Inhabited T] {l : List T} {i : Nat} (h : i < l.length) : l.getD i default ∈ l := by
 rw [List.getD_eq_getElem?_getD, List.getElem?_eq_getElem h]; exact List.getElem_mem h
theorem mem_getD {T : Type} [Inhabited T] {l : List T} {x : T} (h : x ∈ l) : ∃ i, i < l.length ∧ l.getD i default = x := by
 obtain ⟨i, hi, rfl⟩ := List.getElem_of_mem h
 exact ⟨i, hi, by rw [List.getD_eq_getElem?_getD, List.getElem?_eq_getElem hi]; rfl⟩
theorem getD_take {T : Type} (l : List T) (n i : Nat) (d : T) : (l.take n).getD i d = if i < n then l.getD i d else d := by
 simp only [List.getD_eq_getElem?_getD, List.getElem?_take]
 split <;> rfl
theorem ext_getD {T : Type} [Inhabited T] {l r : List T} (hl : l.length = r.length) (h : ∀ i, i < l.length → l.getD i default = r.getD i default) : l = r := by
 refine List.ext_getElem hl (fun i h1 h2 => ?_)
 have := h i h1
 rw [List.getD_eq_getElem?_getD, List.getD_eq_getElem?_getD, List.getElem?_eq_getElem h1, List.getElem?_eq_getElem h2] at this
 exact this
theorem emit_range {A : Type} {body : Nat → Unit → (Unit → Option (List A)) → Option (List A)} {n : Nat} (W : Nat → Bool) (x : Nat → A)
   (hb : ∀ (i : Nat) (r : Option (List A)), i < n → body i () (fun _ => r) = emitIf (W i) (x i) r) : rangeGo body (fun _ => some []) n 0 () = some (((List.range' 0 n).filter W).map x) := by
 have go : ∀ m i, i + m = n → rangeGo body (fun _ => some []) m i () = some (((List.range' i m).filter W).map x) := by
   intro m
   induction m with
   | zero => intro i _; rfl
   | succ m ih =>
     intro i hi
     have e : rangeGo body (fun _ => some []) (m + 1) i () = body i () (fun u => rangeGo body (fun _ => some []) m (i + 1) u) := rfl
     rw [e]
     have e2 : (fun u => rangeGo body (fun _ => some ([] : List A)) m (i + 1) u) = fun _ => some (((List.range' (i + 1) m).filter W).map x) := by
       funext u; exact ih (i + 1) (by omega)
     rw [e2, hb i _ (by omega), List.range'_succ, List.filter_cons]
     cases W i <;> rfl
 exact go n 0 (by omega)
end Go.Sp
end
/- Plain laws, fog: valid reports, what a view is, contradictions, the sight. No program in sight. -/
section
set_option linter.all false
namespace Go.Sp
open Go.Av
set_option maxRecDepth 100000
structure RepOk (x : Report) : Prop where
 src : 1 ≤ x.Source ∧ x.Source ≤ 99999
 dist : 1 ≤ x.District ∧ x.District ≤ 9
 night : 0 ≤ x.Night ∧ x.Night ≤ 100000
 time : 0 ≤ x.From ∧ x.From ≤ x.To ∧ x.To ≤ 1439
 sight : 0 ≤ x.Sight.Lo ∧ x.Sight.Lo ≤ x.Sight.Hi ∧ x.Sight.Hi ≤ 5000
 known : 0 ≤ x.Known ∧ x.Known ≤ 144001439
 till : x.Until = 0 ∨ (x.Known < x.Until ∧ 0 ≤ x.Until ∧ x.Until ≤ 144001439)
theorem fwithin_iff {a b c : Int} : fog_within a b c = true ↔ b ≤ a ∧ a ≤ c := by simp [fog_within]
theorem frange_iff {r : Range} {c : Int} : fog_isRange r c = true ↔ 0 ≤ r.Lo ∧ r.Lo ≤ r.Hi ∧ r.Hi ≤ c := by simp [fog_isRange, and_assoc]
theorem fcheckReport_iff {x : Report} : fog_CheckReport x = 0 ↔ RepOk x := by
 have e : (bif (((((((!(fog_within x.Source 1 99999)) || (!(fog_isDistrict x.District))) || (!(fog_isNight x.Night))) || (!(fog_isRange (⟨x.From, x.To⟩ : Range) 1439))) || (!(fog_isRange x.Sight 5000))) || (!(fog_isMoment x.Known))) || ((!decide (x.Until = 0)) && ((decide (x.Until ≤ x.Known)) || (!(fog_isMoment x.Until))))) then (50 : Int) else 0) = 0 ↔ (((((((!(fog_within x.Source 1 99999)) || (!(fog_isDistrict x.District))) || (!(fog_isNight x.Night))) || (!(fog_isRange (⟨x.From, x.To⟩ : Range) 1439))) || (!(fog_isRange x.Sight 5000))) || (!(fog_isMoment x.Known))) || ((!decide (x.Until = 0)) && ((decide (x.Until ≤ x.Known)) || (!(fog_isMoment x.Until))))) = false := by
   generalize (((((((!(fog_within x.Source 1 99999)) || (!(fog_isDistrict x.District))) || (!(fog_isNight x.Night))) || (!(fog_isRange (⟨x.From, x.To⟩ : Range) 1439))) || (!(fog_isRange x.Sight 5000))) || (!(fog_isMoment x.Known))) || ((!decide (x.Until = 0)) && ((decide (x.Until ≤ x.Known)) || (!(fog_isMoment x.Until))))) = b
   cases b <;> simp
 unfold fog_CheckReport
 rw [e]
 simp only [fog_isDistrict, fog_isNight, fog_isMoment, Bool.or_eq_false_iff, Bool.and_eq_false_iff, Bool.not_eq_false', fwithin_iff, frange_iff, decide_eq_true_eq, decide_eq_false_iff_not]
 constructor
 · rintro ⟨⟨⟨⟨⟨⟨h1, h2⟩, h3⟩, h4⟩, h5⟩, h6⟩, h7⟩
   exact ⟨h1, h2, h3, h4, h5, h6, by rcases h7 with h7 | h7 <;> omega⟩
 · rintro ⟨h1, h2, h3, h4, h5, h6, h7⟩
   exact ⟨⟨⟨⟨⟨⟨h1, h2⟩, h3⟩, h4⟩, h5⟩, h6⟩, by omega⟩
def rp (l : List Report) (i : Nat) : Report := l.getD i default
structure RepsOk (l : List Report) : Prop where
 len : l.length ≤ 60
 all : ∀ i, i < l.length → RepOk (rp l i) ∧ (0 < i → (rp l (i - 1)).Source < (rp l i).Source)
theorem fcompare_nonneg (a b : Report) : 0 ≤ fog_compare a b ↔ b.Source ≤ a.Source := by
 unfold fog_compare cmp_Compare_int cmp_isNaN_int
 by_cases h1 : a.Source < b.Source
 · simp [h1]
 · by_cases h2 : b.Source < a.Source <;> simp [h1, h2] <;> omega
theorem fcheck_wp (l : List Report) : Wp (fog_Check l) (fun r => (RepsOk l ∧ r = 0) ∨ (¬ RepsOk l ∧ r = 51)) := by
 unfold fog_Check
 refine wp_ifd (fun h => wp_some (.inr ⟨fun V => by have := V.len; omega, rfl⟩)) (fun h => ?_)
 refine wp_forall (fun i => RepOk (rp l i) ∧ (0 < i → (rp l (i - 1)).Source < (rp l i).Source)) (fun i K hi _ hK => ?_) (fun h1 => wp_some (.inl ⟨⟨by omega, h1⟩, rfl⟩))
 refine wp_must (fun _ => by unfold inI; omega) ?_
 refine wp_must (fun h => by simp at h; omega) ?_
 have e : (((i : Int) - 1)).toNat = i - 1 := by omega
 rw [e]
 refine wp_bif (fun hb => wp_some (.inr ⟨fun V => ?_, rfl⟩)) (fun hb => ?_)
 · obtain ⟨a1, a2⟩ := V.all i hi
   unfold rp at a1 a2
   have a3 := fcheckReport_iff.2 a1
   simp only [a3, Bool.or_eq_true, Bool.and_eq_true, decide_eq_true_eq, Bool.not_eq_true', fcompare_nonneg] at hb
   rcases hb with hb | hb
   · simp at hb
   · have := a2 (by omega); omega
 · simp only [Bool.or_eq_false_iff, Bool.and_eq_false_iff, Bool.not_eq_false', decide_eq_true_eq, decide_eq_false_iff_not, fcompare_nonneg] at hb
   refine hK ⟨fcheckReport_iff.1 hb.1, fun h0 => ?_⟩
   unfold rp
   rcases hb.2 with h | h <;> omega
theorem fcheck_ok {l : List Report} (h : RepsOk l) : fog_Check l = some 0 := by
 obtain ⟨r, e, h1 | h1⟩ := fcheck_wp l
 · rw [e, h1.2]
 · exact absurd h h1.1
theorem fcheck_bad {l : List Report} (h : ¬ RepsOk l) : fog_Check l = some 51 := by
 obtain ⟨r, e, h1 | h1⟩ := fcheck_wp l
 · exact absurd h1.1 h
 · rw [e, h1.2]
theorem indexFunc_eq {T : Type} [Inhabited T] {p : T → Option Bool} {q : T → Bool} (hp : ∀ x, p x = some (q x)) (l : List T) :
   (rangeGo (fun i1 (s1 : Unit) k1 => bindO (p (l.getD i1 default)) fun y3 => (bif y3 then some (i1 : Int) else k1 ())) (fun (s1 : Unit) => some (-1)) l.length 0 () : Option Int) = some (match l.findIdx? q with | some i => (i : Int) | none => -1) := by
 refine (wp_forall (P := fun r => r = (match l.findIdx? q with | some i => (i : Int) | none => -1)) (fun i => q (l.getD i default) = false) (fun i K hi hb hK => ?_) (fun h1 => ?_)).eq
 · rw [hp]
   refine wp_bif (fun h => wp_some ?_) (fun h => hK h)
   have : l.findIdx? q = some i := by
     rw [List.findIdx?_eq_some_iff_getElem]
     refine ⟨hi, ?_, fun j hj => ?_⟩
     · rw [List.getD_eq_getElem?_getD, List.getElem?_eq_getElem hi] at h; exact h
     · have := hb j hj
       rw [List.getD_eq_getElem?_getD, List.getElem?_eq_getElem (by omega)] at this
       simpa using this
   rw [this]
 · refine wp_some ?_
   have : l.findIdx? q = none := by
     rw [List.findIdx?_eq_none_iff]
     intro x hx
     obtain ⟨i, hi, rfl⟩ := mem_getD hx
     exact h1 i hi
   rw [this]
theorem take_set_le {T : Type} {l : List T} {i : Nat} {x : T} (h : i < l.length) : (l.set i x).take (i + 1) = l.take i ++ [x] := by
 rw [List.take_add_one, List.getElem?_set_self h, List.take_set_of_le (Nat.le_refl _)]; rfl
theorem take_copyAt {T : Type} [Inhabited T] (l : List T) (a m : Nat) (f : Nat → T) (h : a ≤ l.length) : (copyAt l a m f).take a = l.take a := by
 refine ext_getD (by simp [copyAt]) (fun i hi => ?_)
 have hi' : i < a := by simp [copyAt] at hi; omega
 rw [getD_take, getD_take, if_pos hi', if_pos hi']
 unfold copyAt
 rw [List.getD_eq_getElem?_getD, List.getElem?_map, List.getElem?_range (by omega)]
 simp only [Option.map_some, Option.getD_some]
 rw [if_neg (by omega)]
theorem drop_getD {T : Type} [Inhabited T] {l : List T} {i : Nat} (h : i < l.length) : l.drop i = l.getD i default :: l.drop (i + 1) := by
 rw [List.getD_eq_getElem?_getD, List.getElem?_eq_getElem h]; exact List.drop_eq_getElem_cons h
theorem take_getD {T : Type} [Inhabited T] {l : List T} {i : Nat} (h : i < l.length) : l.take (i + 1) = l.take i ++ [l.getD i default] := by
 rw [List.take_add_one, List.getD_eq_getElem?_getD, List.getElem?_eq_getElem h]; rfl
theorem deleteFunc_eq {T : Type} [Inhabited T] (z : T) {p : T → Option Bool} {q : T → Bool} (hp : ∀ x, p x = some (q x)) (l : List T) (fuel : Nat) (hf : l.length < fuel) (hl : l.length < 9223372036854775807) :
   (bindO (rangeGo (fun i1 (s1 : Unit) k1 => bindO (p (l.getD i1 default)) fun y3 => (bif y3 then some (i1 : Int) else k1 ())) (fun (s1 : Unit) => some (-1)) l.length 0 () : Option Int) fun y1 => (bif (decide (y1 = (-1))) then some l else must (inI (y1 + 1)) <| (loopGo (fun (s5 : Int × Int × (List T)) k5 => (bif (decide (s5.2.1 < ((s5.2.2.length : Nat) : Int))) then must (0 ≤ (s5.2.1 : Int) ∧ (s5.2.1 : Int) < ((s5.2.2.length : Nat) : Int)) <| bindO (p (s5.2.2.getD (s5.2.1).toNat default)) fun y8 => (bif (!y8) then must (0 ≤ (s5.1 : Int) ∧ (s5.1 : Int) < ((s5.2.2.length : Nat) : Int)) <| must (inI (s5.1 + 1)) <| must (inI (s5.2.1 + 1)) <| k5 ((s5.1 + 1), (s5.2.1 + 1), (s5.2.2.set (s5.1).toNat (s5.2.2.getD (s5.2.1).toNat default))) else must (inI (s5.2.1 + 1)) <| k5 (s5.1, (s5.2.1 + 1), s5.2.2)) else must (0 < s5.2.2.length ∧ 0 ≤ (s5.1 : Int) ∧ (s5.1 : Int) ≤ ((s5.2.2.length : Nat) : Int)) <| must (0 < (copyAt s5.2.2 ((s5.1).toNat) (s5.2.2.length - (s5.1).toNat) (fun _ => z)).length ∧ 0 ≤ (s5.1 : Int) ∧ (s5.1 : Int) ≤ (((copyAt s5.2.2 ((s5.1).toNat) (s5.2.2.length - (s5.1).toNat) (fun _ => z)).length : Nat) : Int)) <| some ((copyAt s5.2.2 ((s5.1).toNat) (s5.2.2.length - (s5.1).toNat) (fun _ => z)).take ((s5.1).toNat)))) fuel (y1, (y1 + 1), l))) : Option (List T)) = some (l.filter (fun x => !q x)) := by
 rw [indexFunc_eq hp l]
 refine Wp.eq (wp_bindE rfl ?_)
 cases hi : l.findIdx? q with
 | none =>
   rw [List.findIdx?_eq_none_iff] at hi
   refine wp_true (by simp) (wp_some ?_)
   exact (List.filter_eq_self.2 (fun x hx => by rw [hi x hx]; rfl)).symm
 | some i =>
   rw [List.findIdx?_eq_some_iff_getElem] at hi
   obtain ⟨h1, h2, h3⟩ := hi
   refine wp_false (by simp) (wp_mustI (by simp only; omega) ?_)
   refine wp_loop (fun s => ∃ a b : Nat, s.1 = (a : Int) ∧ s.2.1 = (b : Int) ∧ a < b ∧ b ≤ l.length ∧ s.2.2.length = l.length ∧ s.2.2.take a = (l.take b).filter (fun x => !q x) ∧ s.2.2.drop b = l.drop b) (fun s => l.length - s.2.1.toNat) (by simp only; omega) ⟨i, i + 1, rfl, by simp, by omega, by omega, rfl, ?_, rfl⟩ ?_
   · rw [take_getD h1, List.filter_append]
     have e1 : (l.take i).filter (fun x => !q x) = l.take i := List.filter_eq_self.2 (fun x hx => by
       obtain ⟨j, hj, rfl⟩ := List.getElem_of_mem hx
       have hj' : j < i := by simp at hj; omega
       have := h3 j hj'
       simp only [List.getElem_take]
       simpa using this)
     have e2 : q (l.getD i default) = true := by rw [List.getD_eq_getElem?_getD, List.getElem?_eq_getElem h1]; exact h2
     rw [e1]; simp [e2, -List.getD_eq_getElem?_getD]
   · rintro ⟨s1, s2, s3⟩ K ⟨a, b, rfl, rfl, hab, hb, hlen, ht, hd⟩ hK
     simp only at hK ht hd hlen ⊢
     refine wp_ifd (fun hlt => ?_) (fun hge => ?_)
     · have hbl : b < l.length := by omega
       refine wp_must (by omega) ?_
       rw [hp]
       simp only [Int.toNat_natCast]
       have ex : s3.getD b default = l.getD b default := by
         have := drop_getD (l := s3) (i := b) (by omega)
         rw [hd, drop_getD hbl] at this
         exact (List.cons.inj this).1.symm
       have hd1 : s3.drop (b + 1) = l.drop (b + 1) := by
         have := drop_getD (l := s3) (i := b) (by omega)
         rw [hd, drop_getD hbl] at this
         exact (List.cons.inj this).2.symm
       refine wp_bindE rfl ?_
       rw [ex]
       refine wp_bif (fun hq => ?_) (fun hq => ?_)
       · refine wp_must (by omega) (wp_mustI (by omega) (wp_mustI (by omega) ?_))
         refine hK _ ⟨a + 1, b + 1, by simp, by simp, by omega, by omega, by simp [hlen], ?_, ?_⟩ (by simp only; omega)
         · rw [take_set_le (by omega), ht, take_getD hbl, List.filter_append]
           simp only [Bool.not_eq_true'] at hq
           simp [hq, -List.getD_eq_getElem?_getD]
         · rw [List.drop_set_of_lt (by omega)]; exact hd1
       · refine wp_mustI (by omega) (hK _ ⟨a, b + 1, rfl, by simp, by omega, by omega, hlen, ?_, hd1⟩ (by simp only; omega))
         rw [ht, take_getD hbl, List.filter_append]
         simp only [Bool.not_eq_false'] at hq
         simp [hq, -List.getD_eq_getElem?_getD]
     · refine wp_must (by omega) (wp_must ?_ (wp_some ?_))
       · rw [length_copyAt]; omega
       · simp only [Int.toNat_natCast]
         rw [take_copyAt _ _ _ _ (by omega), ht, List.take_of_length_le (by omega)]
def seen (d n m : Int) (x : Report) : Bool := (decide (x.District = d) && decide (x.Night = n)) && fog_counts x m
def seeL (l : List Report) (d n m : Int) : List Report := l.filter (seen d n m)
theorem fsee_eq (fuel : Nat) (l : List Report) (d n m : Int) (h : l.length ≤ 60) (hf : 60 < fuel) : fog_see fuel l d n m = some (seeL l d n m) := by
 unfold fog_see slices_Clone_Report
 refine Wp.eq (wp_bind (Q := fun r => r = l) (wp_mustR (by simp; omega) (wp_some (by simp))) ?_)
 rintro s rfl
 have e := deleteFunc_eq (⟨0, 0, 0, 0, 0, (⟨0, 0⟩ : Range), 0, 0⟩ : Report) (p := fun x0 => some (fog_see_1 x0 d n m)) (q := fun x => fog_see_1 x d n m) (fun _ => rfl) s fuel (by omega) (by omega)
 refine wp_bindE (v := s.filter (fun x => !fog_see_1 x d n m)) e (wp_some ?_)
 unfold seeL
 congr 1
 funext x
 unfold fog_see_1 seen
 cases decide (x.District = d) <;> cases decide (x.Night = n) <;> cases fog_counts x m <;> rfl
def pairL : List Report → Option (Report × Report)
 | [] => none
 | a :: l => match l.find? (fun b => fog_clash a b) with
   | some b => some (a, b)
   | none => pairL l
def pairR (l : List Report) : List Int × Bool := match pairL l with
 | some (a, b) => ([a.Source, b.Source], true)
 | none => ([], false)
theorem find_range {T R : Type} [Inhabited T] {l : List T} {q : T → Bool} {body : Nat → Unit → (Unit → Option R) → Option R} {ex : Unit → Option R} (f : T → Option R)
   (hb : ∀ (i : Nat) (K : Option R), i < l.length → body i () (fun _ => K) = bif q (l.getD i default) then f (l.getD i default) else K) :
   rangeGo body ex l.length 0 () = match l.find? q with | some x => f x | none => ex () := by
 have go : ∀ (m i : Nat), i + m = l.length → rangeGo body ex m i () = match (l.drop i).find? q with | some x => f x | none => ex () := by
   intro m
   induction m with
   | zero => intro i hi; rw [List.drop_of_length_le (by omega)]; rfl
   | succ m ih =>
     intro i hi
     have e : rangeGo body ex (m + 1) i () = body i () (fun u => rangeGo body ex m (i + 1) u) := rfl
     have e2 : (fun u => rangeGo body ex m (i + 1) u) = fun _ => rangeGo body ex m (i + 1) () := by funext u; rfl
     rw [e, e2, hb i _ (by omega), drop_getD (by omega : i < l.length), List.find?_cons, ih (i + 1) (by omega)]
     cases q (l.getD i default) <;> rfl
 have := go l.length 0 (by omega)
 rw [List.drop_zero] at this
 exact this
theorem fpair_eq (l : List Report) (hl : l.length ≤ 9223372036854775807) : fog_view__pair l = some (pairR l) := by
 unfold fog_view__pair
 have go : ∀ (m i : Nat), i + m = l.length → rangeGo (fun i1 (s1 : Unit) k1 => must ((0 : Int) ≤ ((i1 : Int) + 1) ∧ (((i1 : Int) + 1) : Int) ≤ ((l.length : Nat) : Int)) <| (rangeGo (fun i4 (s4 : Unit) k4 => (bif (fog_clash (l.getD i1 default) ((l.drop (((i1 : Int) + 1)).toNat).getD i4 default)) then some (([(l.getD i1 default).Source, ((l.drop (((i1 : Int) + 1)).toNat).getD i4 default).Source] : List Int), true) else k4 ())) (fun (s4 : Unit) => k1 ()) ((l.drop (((i1 : Int) + 1)).toNat).length) 0 ())) (fun (s1 : Unit) => some ([], false)) m i () = some (pairR (l.drop i)) := by
   intro m
   induction m with
   | zero => intro i hi; rw [List.drop_of_length_le (by omega)]; rfl
   | succ m ih =>
     intro i hi
     have hlt : i < l.length := by omega
     conv => lhs; unfold rangeGo
     have et : ((i : Int) + 1).toNat = i + 1 := by omega
     rw [must_yes (by omega), et, ih (i + 1) (by omega)]
     rw [find_range (l := l.drop (i + 1)) (q := fun b => fog_clash (l.getD i default) b) (fun b => some ([(l.getD i default).Source, b.Source], true)) (fun j K _ => rfl)]
     rw [drop_getD hlt]
     conv => rhs; unfold pairR pairL
     cases (l.drop (i + 1)).find? (fun b => fog_clash (l.getD i default) b) with
     | none => rfl
     | some b => rfl
 have := go l.length 0 (by omega)
 rw [List.drop_zero] at this
 exact this
theorem pairR_two (l : List Report) : (pairR l).2 = (pairL l).isSome := by
 unfold pairR; cases pairL l <;> rfl
theorem pairL_none {l : List Report} : pairL l = none ↔ l.Pairwise (fun a b => fog_clash a b = false) := by
 induction l with
 | nil => simp [pairL]
 | cons a l ih =>
   rw [List.pairwise_cons]
   unfold pairL
   cases h : l.find? (fun b => fog_clash a b) with
   | some b =>
     have h1 := List.find?_some h
     have h2 := List.mem_of_find?_eq_some h
     simp only [reduceCtorEq, false_iff]
     intro hh
     have := hh.1 b h2
     rw [this] at h1; cases h1
   | none =>
     simp only
     rw [ih]
     rw [List.find?_eq_none] at h
     constructor
     · intro hp; exact ⟨fun b hb => by have := h b hb; simpa using this, hp⟩
     · exact fun hp => hp.2
def atMin (m : Int) (x : Report) : Bool := fog_within m x.From x.To
def nar (r : Range) (x : Report) : Range := ⟨max r.Lo x.Sight.Lo, min r.Hi x.Sight.Hi⟩
def sightL (v : List Report) (m : Int) : Range := (v.filter (atMin m)).foldl nar ⟨0, 5000⟩
theorem fsight_eq (v : List Report) (m : Int) : fog_view__sight v m = some (sightL v m) := by
 unfold fog_view__sight fog_view__of_1
 rw [emit_range (fun i => atMin m (v.getD i default)) (fun i => v.getD i default) (fun i r _ => rfl)]
 have e : ((List.range' 0 v.length).filter (fun i => atMin m (v.getD i default))).map (fun i => v.getD i default) = v.filter (atMin m) := by
   rw [show (fun i => atMin m (v.getD i default)) = atMin m ∘ (fun i => v.getD i default) from rfl, ← List.filter_map]
   congr 1
   refine List.ext_getElem (by simp) (fun i h1 h2 => ?_)
   simp [List.getElem?_eq_getElem h2]
 rw [e]
 show listGo _ _ (v.filter (atMin m)) _ = _
 unfold sightL
 generalize (⟨0, 5000⟩ : Range) = r
 induction v.filter (atMin m) generalizing r with
 | nil => rfl
 | cons x l ih => exact ih (nar r x)
end Go.Sp
end
/- Plain laws, fog: what is told of a clear district. No program in sight. -/
section
set_option linter.all false
namespace Go.Sp
open Go.Av
set_option maxRecDepth 100000
def argOk (q : fog_query) : Prop := 1 ≤ q.district ∧ q.district ≤ 9 ∧ 0 ≤ q.minute ∧ q.minute ≤ 1439 ∧ 0 ≤ q.time.Lo ∧ q.time.Lo ≤ q.time.Hi ∧ q.time.Hi ≤ 1439 ∧ 1 ≤ q.limit ∧ q.limit ≤ 5000
def dayOk (n m : Int) : Prop := 0 ≤ n ∧ n ≤ 100000 ∧ 0 ≤ m ∧ m ≤ 144001439
instance (q : fog_query) : Decidable (argOk q) := inferInstanceAs (Decidable (_ ∧ _))
instance (n m : Int) : Decidable (dayOk n m) := inferInstanceAs (Decidable (_ ∧ _))
open Classical in
noncomputable def viewR (q : fog_query) (l : List Report) : List Report × Int :=
 if ¬ RepsOk l then ([], 51) else if ¬ argOk q then ([], 1) else if ¬ dayOk q.night q.moment then ([], 6) else (seeL l q.district q.night q.moment, 0)
open Classical in
noncomputable def clearR (q : fog_query) (l : List Report) : List Report × Int :=
 if (viewR q l).2 ≠ 0 then ([], (viewR q l).2) else if (pairL (viewR q l).1).isSome then ([], 52) else ((viewR q l).1, 0)
theorem fview_eq (fuel : Nat) (q : fog_query) (l : List Report) (hf : 60 < fuel) : fog_query__view fuel q l = some (viewR q l) := by
 unfold fog_query__view viewR
 by_cases h : RepsOk l
 · rw [if_neg (by simp [h])]
   refine Wp.eq (wp_bindE (fcheck_ok h) ?_)
   refine wp_ifn (fun h => absurd rfl h) (fun _ => ?_)
   refine wp_if (p := ¬ argOk q) ?_ (fun ha => ?_) (fun ha => ?_)
   · unfold argOk
     simp only [fog_isDistrict, fog_isMinute, Bool.or_eq_true, Bool.not_eq_true', ← Bool.not_eq_true, fwithin_iff, frange_iff]
     omega
   · rw [if_pos ha]; exact wp_some rfl
   · rw [if_neg ha]
     refine wp_if (p := ¬ dayOk q.night q.moment) ?_ (fun hd => ?_) (fun hd => ?_)
     · unfold dayOk
       simp only [fog_isNight, fog_isMoment, Bool.or_eq_true, Bool.not_eq_true', ← Bool.not_eq_true, fwithin_iff]
       omega
     · rw [if_pos hd]; exact wp_some rfl
     · rw [if_neg hd]
       exact wp_bindE (fsee_eq fuel l _ _ _ h.len hf) (wp_some rfl)
 · rw [if_pos h]
   refine Wp.eq (wp_bindE (fcheck_bad h) ?_)
   exact wp_some rfl
theorem viewR_le (q : fog_query) (l : List Report) : (viewR q l).1.length ≤ 60 := by
 unfold viewR
 split
 · simp
 · split
   · simp
   · split
     · simp
     · rename_i h _ _
       have h : RepsOk l := Classical.byContradiction h
       exact Nat.le_trans (List.length_filter_le _ _) h.len
theorem fclear_eq (fuel : Nat) (q : fog_query) (l : List Report) (hf : 60 < fuel) : fog_query__clear fuel q l = some (clearR q l) := by
 unfold fog_query__clear clearR
 refine Wp.eq (wp_bindE (fview_eq fuel q l hf) ?_)
 refine wp_ifn (fun h => ?_) (fun h => ?_)
 · rw [if_pos h]; exact wp_some rfl
 · rw [if_neg (by simp [h])]
   refine wp_bindE (fpair_eq _ (Nat.le_trans (viewR_le q l) (by omega))) ?_
   rw [pairR_two]
   refine wp_bif (fun h2 => ?_) (fun h2 => ?_)
   · rw [if_pos h2]; exact wp_some rfl
   · rw [if_neg (by simp [h2])]; exact wp_some rfl
theorem clearR_ok {q : fog_query} {l : List Report} (h : RepsOk l) (ha : argOk q) (hd : dayOk q.night q.moment) :
   clearR q l = if (pairL (seeL l q.district q.night q.moment)).isSome then ([], 52) else (seeL l q.district q.night q.moment, 0) := by
 have e : viewR q l = (seeL l q.district q.night q.moment, 0) := by
   unfold viewR; rw [if_neg (by simp [h]), if_neg (by simp [ha]), if_neg (by simp [hd])]
 unfold clearR
 rw [e, if_neg (by simp)]
theorem fSight_eq (fuel : Nat) (l : List Report) (d n mi m : Int) (hf : 60 < fuel) : fog_Sight fuel l d n mi m =
   some (if (clearR ⟨d, n, m, mi, ⟨0, 0⟩, 1⟩ l).2 ≠ 0 then (⟨0, 0⟩, (clearR ⟨d, n, m, mi, ⟨0, 0⟩, 1⟩ l).2) else (sightL (clearR ⟨d, n, m, mi, ⟨0, 0⟩, 1⟩ l).1 mi, 0)) := by
 unfold fog_Sight
 refine Wp.eq (wp_bindE (fclear_eq fuel _ l hf) ?_)
 refine wp_ifn (fun h => ?_) (fun h => ?_)
 · rw [if_pos h]; exact wp_some rfl
 · rw [if_neg (by simp [h])]
   exact wp_bindE (fsight_eq _ _) (wp_some rfl)
end Go.Sp
end
/- Plain laws, fog: the document's tests, views, contradictions and sights. No program in sight. -/
section
set_option linter.all false
namespace Go.Sp
open Go.Av
set_option maxRecDepth 100000
theorem viewR_zero {q : fog_query} {l : List Report} (h : (viewR q l).2 = 0) : RepsOk l ∧ argOk q ∧ dayOk q.night q.moment ∧ (viewR q l).1 = seeL l q.district q.night q.moment := by
 unfold viewR at h ⊢
 by_cases h1 : RepsOk l
 · rw [if_neg (by simp [h1] : ¬ ¬ RepsOk l)] at h ⊢
   by_cases h2 : argOk q
   · rw [if_neg (by simp [h2] : ¬ ¬ argOk q)] at h ⊢
     by_cases h3 : dayOk q.night q.moment
     · rw [if_neg (by simp [h3] : ¬ ¬ dayOk q.night q.moment)]; exact ⟨h1, h2, h3, rfl⟩
     · rw [if_pos h3] at h; cases h
   · rw [if_pos h2] at h; cases h
 · rw [if_pos h1] at h; cases h
end Go.Sp
end
/- Plain laws, fog: FogSights, FogClashes. No program in sight. -/
section
set_option linter.all false
namespace Go.Sp
open Go.Av
set_option maxRecDepth 100000
theorem sane_ok : gasolierlaw05_sane 20000 = some true := by kernel_rfl
theorem sightL_hi (v : List Report) (m : Int) : (sightL v m).Hi ≤ 5000 ∧ 0 ≤ (sightL v m).Lo := by
 have key : ∀ (l : List Report) (r : Range), (l.foldl nar r).Hi ≤ r.Hi ∧ r.Lo ≤ (l.foldl nar r).Lo := by
   intro l
   induction l with
   | nil => intro r; exact ⟨Int.le_refl _, Int.le_refl _⟩
   | cons x l ih =>
     intro r
     have := ih (nar r x)
     simp only [List.foldl_cons]
     unfold nar at this ⊢
     simp only at this
     omega
 exact key _ _
theorem foldl_ends : ∀ (l : List Report) (r : Range), ((l.foldl nar r).Lo = r.Lo ∨ ∃ x ∈ l, (l.foldl nar r).Lo = x.Sight.Lo) ∧ ((l.foldl nar r).Hi = r.Hi ∨ ∃ x ∈ l, (l.foldl nar r).Hi = x.Sight.Hi)
 | [], r => ⟨.inl rfl, .inl rfl⟩
 | x :: l, r => by
   obtain ⟨h1, h2⟩ := foldl_ends l (nar r x)
   have e1 : (nar r x).Lo = r.Lo ∨ (nar r x).Lo = x.Sight.Lo := by unfold nar; simp only; omega
   have e2 : (nar r x).Hi = r.Hi ∨ (nar r x).Hi = x.Sight.Hi := by unfold nar; simp only; omega
   rw [List.foldl_cons]
   constructor
   · rcases h1 with h | ⟨y, hy, h⟩
     · rcases e1 with e | e
       · exact .inl (h.trans e)
       · exact .inr ⟨x, List.mem_cons_self, h.trans e⟩
     · exact .inr ⟨y, List.mem_cons_of_mem _ hy, h⟩
   · rcases h2 with h | ⟨y, hy, h⟩
     · rcases e2 with e | e
       · exact .inl (h.trans e)
       · exact .inr ⟨x, List.mem_cons_self, h.trans e⟩
     · exact .inr ⟨y, List.mem_cons_of_mem _ hy, h⟩
theorem mem_ok {l : List Report} (h : RepsOk l) {x : Report} (hx : x ∈ l) : RepOk x := by
 obtain ⟨i, hi, rfl⟩ := mem_getD hx
 exact (h.all i hi).1
theorem seen_mem {l : List Report} {d n m : Int} {x : Report} (hx : x ∈ seeL l d n m) : x ∈ l ∧ seen d n m x = true := List.mem_filter.1 hx
theorem fClash_eq (fuel : Nat) (l : List Report) (d n m : Int) (hf : 60 < fuel) : fog_Clash fuel l d n m =
   some (if (viewR ⟨d, n, m, 0, ⟨0, 0⟩, 1⟩ l).2 ≠ 0 then ([], (viewR ⟨d, n, m, 0, ⟨0, 0⟩, 1⟩ l).2) else if (pairL (viewR ⟨d, n, m, 0, ⟨0, 0⟩, 1⟩ l).1).isSome then ((pairR (viewR ⟨d, n, m, 0, ⟨0, 0⟩, 1⟩ l).1).1, 0) else ([], 3)) := by
 unfold fog_Clash
 refine Wp.eq (wp_bindE (fview_eq fuel _ l hf) ?_)
 refine wp_ifn (fun h => ?_) (fun h => ?_)
 · rw [if_pos h]; exact wp_some rfl
 · rw [if_neg (by simp [h])]
   refine wp_bindE (fpair_eq _ (Nat.le_trans (viewR_le _ l) (by omega))) ?_
   rw [pairR_two]
   cases h2 : (pairL (viewR ⟨d, n, m, 0, ⟨0, 0⟩, 1⟩ l).1).isSome
   · exact wp_true rfl (wp_some rfl)
   · exact wp_false rfl (wp_some rfl)
theorem index_eq (l : List Int) (n : Int) : slices_Index_int l n = some (match l.findIdx? (fun x => decide (n = x)) with | some i => (i : Int) | none => -1) := by
 unfold slices_Index_int
 exact indexFunc_eq (p := fun x => some (decide (n = x))) (fun _ => rfl) l
theorem contains_eq (l : List Int) (n : Int) : slices_Contains_int l n = some (decide (n ∈ l)) := by
 unfold slices_Contains_int
 rw [index_eq]
 cases h : l.findIdx? (fun x => decide (n = x)) with
 | none =>
   rw [List.findIdx?_eq_none_iff] at h
   refine congrArg some ?_
   rw [decide_eq_false (by decide), decide_eq_false (fun hm => ?_)]
   have := h n hm; simp at this
 | some i =>
   rw [List.findIdx?_eq_some_iff_getElem] at h
   obtain ⟨h1, h2, _⟩ := h
   refine congrArg some ?_
   simp only
   rw [decide_eq_true (by omega), decide_eq_true]
   simp only [decide_eq_true_eq] at h2
   rw [h2]; exact List.getElem_mem h1
theorem sorted_see {l : List Report} (h : RepsOk l) (d n m : Int) : (seeL l d n m).Pairwise (fun a b => a.Source < b.Source) := by
 have key : l.Pairwise (fun a b => a.Source < b.Source) := by
   rw [List.pairwise_iff_getElem]
   intro i j hi hj hij
   have step : ∀ k, i + 1 + k < l.length → l[i].Source < (rp l (i + 1 + k)).Source := by
     intro k
     induction k with
     | zero =>
       intro hk
       have := (h.all (i + 1) hk).2 (by omega)
       have e : rp l (i + 1 - 1) = l[i] := by unfold rp; simp [List.getElem?_eq_getElem hi]
       rw [e] at this; exact this
     | succ k ih =>
       intro hk
       have h1 := ih (by omega)
       have h2 := (h.all (i + 1 + (k + 1)) hk).2 (by omega)
       have e : i + 1 + (k + 1) - 1 = i + 1 + k := by omega
       rw [e] at h2
       omega
   have := step (j - (i + 1)) (by omega)
   have e : i + 1 + (j - (i + 1)) = j := by omega
   rw [e] at this
   have e2 : rp l j = l[j] := by unfold rp; simp [List.getElem?_eq_getElem hj]
   rw [e2] at this; exact this
 exact key.filter _
def twoClash (v : List Report) (s t : Int) : Prop := ∃ a ∈ v, ∃ b ∈ v, a.Source = s ∧ b.Source = t ∧ s < t ∧ fog_clash a b = true
theorem two_of {v : List Report} (hv : v.Pairwise (fun a b => a.Source < b.Source)) {s t : Int} (hst : s < t) :
   ((v.filter (fun x => decide (x.Source ∈ [s, t]))).length = 2 ∧ fog_clash ((v.filter (fun x => decide (x.Source ∈ [s, t]))).getD 0 default) ((v.filter (fun x => decide (x.Source ∈ [s, t]))).getD 1 default) = true) ↔ twoClash v s t := by
 have hp : (v.filter (fun x => decide (x.Source ∈ [s, t]))).Pairwise (fun a b => a.Source < b.Source) := hv.filter _
 have hmem : ∀ x, x ∈ v.filter (fun x => decide (x.Source ∈ [s, t])) ↔ x ∈ v ∧ (x.Source = s ∨ x.Source = t) := fun x => by simp [List.mem_filter]
 generalize v.filter (fun x => decide (x.Source ∈ [s, t])) = w at hp hmem
 constructor
 · rintro ⟨h1, h2⟩
   match w, h1 with
   | [a, b], _ =>
     simp only [List.getD_cons_zero, List.getD_cons_succ] at h2
     have ha := (hmem a).1 (by simp)
     have hb := (hmem b).1 (by simp)
     have hab : a.Source < b.Source := by simpa using hp
     exact ⟨a, ha.1, b, hb.1, by omega, by omega, hst, h2⟩
 · rintro ⟨a, ha, b, hb, ea, eb, _, hc⟩
   have hma := (hmem a).2 ⟨ha, .inl ea⟩
   have hmb := (hmem b).2 ⟨hb, .inr eb⟩
   have hall : ∀ x ∈ w, x = a ∨ x = b := by
     intro x hx
     have inj : ∀ x ∈ w, ∀ y ∈ w, x.Source = y.Source → x = y := by
       intro x hx y hy e
       obtain ⟨i, hi, rfl⟩ := List.getElem_of_mem hx
       obtain ⟨j, hj, rfl⟩ := List.getElem_of_mem hy
       rcases Nat.lt_trichotomy i j with h | h | h
       · have := List.pairwise_iff_getElem.1 hp i j hi hj h; omega
       · subst h; rfl
       · have := List.pairwise_iff_getElem.1 hp j i hj hi h; omega
     rcases ((hmem x).1 hx).2 with h | h
     · exact .inl (inj x hx a hma (h.trans ea.symm))
     · exact .inr (inj x hx b hmb (h.trans eb.symm))
   match w, hp, hma, hmb, hall with
   | [], _, hma, _, _ => cases hma
   | [x], _, hma, hmb, _ =>
     simp at hma hmb; rw [hma] at ea; rw [hmb] at eb; omega
   | [x, y], hp, hma, hmb, _ =>
     refine ⟨rfl, ?_⟩
     simp only [List.getD_cons_zero, List.getD_cons_succ]
     have hxy : x.Source < y.Source := by simpa using hp
     simp at hma hmb
     rcases hma with rfl | rfl
     · rcases hmb with rfl | rfl
       · omega
       · exact hc
     · rcases hmb with rfl | rfl
       · omega
       · omega
   | x :: y :: z :: r, hp, _, _, hall =>
     exfalso
     simp only [List.pairwise_cons, List.mem_cons] at hp
     have h1 := hp.1 y (by simp)
     have h2 := hp.1 z (by simp)
     have h3 := hp.2.1 z (by simp)
     have q1 := hall x (by simp); have q2 := hall y (by simp); have q3 := hall z (by simp)
     rcases q1 with rfl | rfl <;> rcases q2 with rfl | rfl <;> rcases q3 with rfl | rfl <;> omega
theorem fCheckClash_wp (fuel : Nat) (l : List Report) (d n m : Int) (by_ : List Int) (hf : 60 < fuel) : Wp (fog_CheckClash fuel l d n m by_) (fun r => ((viewR ⟨d, n, m, 0, ⟨0, 0⟩, 1⟩ l).2 ≠ 0 ∧ r = (viewR ⟨d, n, m, 0, ⟨0, 0⟩, 1⟩ l).2) ∨
   ((viewR ⟨d, n, m, 0, ⟨0, 0⟩, 1⟩ l).2 = 0 ∧ ((by_.length = 2 ∧ twoClash (seeL l d n m) (by_.getD 0 default) (by_.getD 1 default) ∧ r = 0) ∨ (¬ (by_.length = 2 ∧ twoClash (seeL l d n m) (by_.getD 0 default) (by_.getD 1 default)) ∧ r = 52)))) := by
 unfold fog_CheckClash
 refine wp_bindE (fview_eq fuel _ l hf) ?_
 refine wp_ifn (fun h => wp_some (.inl ⟨h, rfl⟩)) (fun h => ?_)
 obtain ⟨h1, h2, h3, h4⟩ := viewR_zero h
 rw [h4]
 simp only
 have hlen : (seeL l d n m).length ≤ 60 := Nat.le_trans (List.length_filter_le _ _) h1.len
 refine wp_must (fun hh => by simp at hh; omega) (wp_must (fun hh => by simp at hh; omega) ?_)
 refine wp_bif (fun hb => wp_some (.inr ⟨h, .inr ⟨fun hh => ?_, rfl⟩⟩)) (fun hb => ?_)
 · obtain ⟨q1, a, ha, b, hb2, q2, q3, q4, _⟩ := hh
   simp only [Bool.or_eq_true, Bool.not_eq_true', decide_eq_false_iff_not, decide_eq_true_eq] at hb
   omega
 · simp only [Bool.or_eq_false_iff, Bool.not_eq_false', decide_eq_true_eq, decide_eq_false_iff_not] at hb
   obtain ⟨hb1, hb2⟩ := hb
   have hlt : by_.getD 0 default < by_.getD 1 default := by omega
   obtain ⟨s, t, rfl⟩ : ∃ s t, by_ = [s, t] := by
     match by_, hb1 with
     | [s, t], _ => exact ⟨s, t, rfl⟩
   simp only [List.getD_cons_zero, List.getD_cons_succ] at hlt ⊢
   refine wp_range (fun i w => w = ((seeL l d n m).take i).filter (fun x => decide (x.Source ∈ [s, t]))) (by simp) (fun i w K hi hI hK => ?_) (fun w hI => ?_)
   · refine wp_bindE (contains_eq _ _) ?_
     have et : ((seeL l d n m).take (i + 1)).filter (fun x => decide (x.Source ∈ [s, t])) = ((seeL l d n m).take i).filter (fun x => decide (x.Source ∈ [s, t])) ++ (if decide (((seeL l d n m).getD i default).Source ∈ [s, t]) then [(seeL l d n m).getD i default] else []) := by
       rw [take_getD hi, List.filter_append]; simp only [List.filter_cons, List.filter_nil]
     have hwl : w.length ≤ 60 := by rw [hI]; exact Nat.le_trans (List.length_filter_le _ _) (by simp; omega)
     refine wp_bif (fun hc => ?_) (fun hc => ?_)
     · refine wp_mustR (by simp; omega) (hK _ ?_)
       rw [et, if_pos hc, hI]
     · refine hK _ ?_
       rw [et, if_neg (by rw [hc]; simp), hI, List.append_nil]
   · rw [List.take_length] at hI
     subst hI
     have hlen2 : ((seeL l d n m).filter (fun x => decide (x.Source ∈ [s, t]))).length ≤ 60 := Nat.le_trans (List.length_filter_le _ _) hlen
     refine wp_must (fun hh => by simp only [Bool.not_not, decide_eq_true_eq] at hh; omega) (wp_must (fun hh => by simp only [Bool.not_not, decide_eq_true_eq] at hh; omega) ?_)
     have tw := two_of (sorted_see h1 d n m) hlt
     refine wp_bif (fun hc => wp_some (.inr ⟨h, .inr ⟨fun hh => ?_, rfl⟩⟩)) (fun hc => wp_some (.inr ⟨h, .inl ⟨rfl, tw.1 ?_, rfl⟩⟩))
     · obtain ⟨q1, q2⟩ := tw.2 hh.2
       rw [q2] at hc
       simp only [Bool.not_true, Bool.or_false, Bool.not_eq_true', decide_eq_false_iff_not] at hc
       omega
     · simp only [Bool.or_eq_false_iff, Bool.not_eq_false', decide_eq_true_eq] at hc
       exact ⟨by omega, hc.2⟩
end Go.Sp
end
/- Plain laws, fog: reports that are made, FogTrue, FogShown. No program in sight. -/
section
set_option linter.all false
namespace Go.Sp
open Go.Av
set_option maxRecDepth 100000
theorem wrapI_of {n : Int} (h : -9223372036854775808 ≤ n ∧ n ≤ 9223372036854775807) : wrapI n = n := by
 unfold wrapI
 split <;> omega
theorem mod5_eq (n : Int) {m : Int} (h0 : 0 < m) (h1 : m ≤ 1000000000000000000) : ∃ y, gasolierref05_Mod n m = some y ∧ 0 ≤ y ∧ y < m := by
 unfold gasolierref05_Mod
 have a1 := Int.tmod_lt_of_pos n h0
 have a2 : -m < Int.tmod n m := Int.lt_tmod_of_pos n h0
 rw [must_yes (by omega), must_yes (by unfold inI; omega), must_yes (by omega)]
 refine ⟨_, rfl, ?_, Int.tmod_lt_of_pos _ h0⟩
 exact Int.tmod_nonneg _ (by omega)
theorem mod5_zero {m : Int} (h0 : 0 < m) (h1 : m ≤ 1000000000000000000) : gasolierref05_Mod 0 m = some 0 := by
 unfold gasolierref05_Mod
 rw [must_yes (by omega), must_yes (by unfold inI; simp; omega), must_yes (by omega)]
 simp
theorem tdiv_small {m k : Int} (hk : 0 < k) (hm : -100000 ≤ m ∧ m ≤ 100000) : -100000 ≤ Int.tdiv m k ∧ Int.tdiv m k ≤ 100000 := by
 rcases Int.le_total 0 m with h | h
 · rw [Int.tdiv_eq_ediv_of_nonneg h]
   have := Int.ediv_nonneg h (Int.le_of_lt hk)
   have := Int.ediv_le_self k h
   omega
 · obtain ⟨n, rfl⟩ : ∃ n, m = -n := ⟨-m, by omega⟩
   have hn : 0 ≤ n := by omega
   rw [Int.neg_tdiv, Int.tdiv_eq_ediv_of_nonneg hn]
   have := Int.ediv_nonneg hn (Int.le_of_lt hk)
   have := Int.ediv_le_self k hn
   omega
theorem num_eq (l : List Int) (hl : l.length ≤ 1000000000000000000) (i : Int) : ∃ y, gasolierref05_Num l i = some y := by
 unfold gasolierref05_Num
 by_cases h : (l.length : Int) = 0
 · rw [decide_eq_true h]; exact ⟨0, rfl⟩
 · obtain ⟨y, e, h1, h2⟩ := mod5_eq i (m := (l.length : Int)) (by omega) (by omega)
   rw [decide_eq_false h, e]
   exact ⟨_, must_yes (by omega) _⟩
theorem true_ex (l : List Int) (hl : l.length ≤ 1000000000000000000) {d m : Int} (hd : 0 ≤ d ∧ d ≤ 100) (hm : -100000 ≤ m ∧ m ≤ 100000) : ∃ s, gasolierref05_True l d m = some s ∧ 0 ≤ s ∧ s < 900 := by
 unfold gasolierref05_True
 have h1 := tdiv_small (k := 90) (by omega) hm
 have h2 := tdiv_small (k := 60) (by omega) hm
 obtain ⟨y, e⟩ := num_eq l hl (wrapI (d + Int.tdiv m 90))
 rw [must_yes (by unfold inI; omega), e]
 simp only [bindO]
 rw [must_yes (by unfold inI; omega)]
 obtain ⟨z, e2, z1, z2⟩ := mod5_eq (wrapI (y + Int.tdiv m 60)) (m := 900) (by omega) (by omega)
 rw [e2]; exact ⟨z, rfl, z1, z2⟩
def tr (l : List Int) (d m : Int) : Int := (gasolierref05_True l d m).getD 0
theorem true_eq (l : List Int) (hl : l.length ≤ 1000000000000000000) {d m : Int} (hd : 0 ≤ d ∧ d ≤ 100) (hm : -100000 ≤ m ∧ m ≤ 100000) : gasolierref05_True l d m = some (tr l d m) ∧ 0 ≤ tr l d m ∧ tr l d m < 900 := by
 obtain ⟨s, e, h1, h2⟩ := true_ex l hl hd hm
 unfold tr; rw [e]; exact ⟨rfl, h1, h2⟩
theorem reach_wp {fuel : Nat} (l : List Int) (hl : l.length ≤ 1000000000000000000) {d a b : Int} (hd : 0 ≤ d ∧ d ≤ 100) (ha : 0 ≤ a ∧ a ≤ b ∧ b ≤ 2000) (hf : 2001 < fuel) :
   Wp (gasolierref05_reach fuel l d a b) (fun r => 0 ≤ r.Lo ∧ r.Lo ≤ r.Hi ∧ r.Hi < 900 ∧ ∀ m : Int, a ≤ m → m ≤ b → r.Lo ≤ tr l d m ∧ tr l d m ≤ r.Hi) := by
 unfold gasolierref05_reach
 refine wp_loop (fun s => a ≤ s.1 ∧ s.1 ≤ b + 1 ∧ 0 ≤ s.2.Lo ∧ 0 ≤ s.2.Hi ∧ s.2.Hi < 900 ∧ (s.1 = a ∨ s.2.Lo ≤ s.2.Hi) ∧ ∀ m : Int, a ≤ m → m < s.1 → s.2.Lo ≤ tr l d m ∧ tr l d m ≤ s.2.Hi) (fun s => (b + 1 - s.1).toNat) (by simp only; omega)
   ⟨by simp, by simp only; omega, by simp, by simp, by simp, .inl rfl, fun m h1 h2 => by simp only at h2; omega⟩ ?_
 rintro ⟨m0, r⟩ K ⟨i1, i2, i3, i4, i5, i6, i7⟩ hK
 simp only at i1 i2 i3 i4 i5 i6 i7 hK ⊢
 refine wp_ifd (fun hle => ?_) (fun hgt => wp_some ⟨i3, by omega, i5, fun m h1 h2 => i7 m h1 (by omega)⟩)
 obtain ⟨e, h1, h2⟩ := true_eq l hl hd (m := m0) (by omega)
 refine wp_bindE e (wp_mustI (by omega) (hK _ ⟨by simp only; omega, by simp only; omega, by simp only; omega, by simp only; omega, by simp only; omega, .inr (by simp only; omega), fun m q1 q2 => ?_⟩ (by simp only; omega)))
 simp only at q2 ⊢
 by_cases em : m = m0
 · subst em; omega
 · have := i7 m q1 (by omega); omega
structure Fine (i : Nat) (r : Report) : Prop where
 src : r.Source = 4 * (i : Int) + 3
 dist : 1 ≤ r.District ∧ r.District ≤ 3
 night : r.Night = 3 ∨ r.Night = 4
 from_ : 0 ≤ r.From ∧ r.From ≤ 1299
 to_ : r.From ≤ r.To ∧ r.To ≤ 1437
 sight : 0 ≤ r.Sight.Lo ∧ r.Sight.Lo ≤ r.Sight.Hi ∧ r.Sight.Hi ≤ 5000
 known : 4320 ≤ r.Known ∧ r.Known ≤ 5759
 till : r.Until = 0 ∨ r.Known < r.Until ∧ r.Until ≤ 7000
def Just (l : List Int) (r : Report) : Prop := r.Night = 3 ∧ r.Until = 0 ∧ ∀ m : Int, r.From ≤ m → m ≤ r.To → r.Sight.Lo ≤ tr l r.District m ∧ tr l r.District m ≤ r.Sight.Hi
theorem made_wp {fuel : Nat} (hf : 2001 < fuel) (p : List (Arr7 Int)) (l : List Int) (hl : l.length ≤ 1000000000000000000) :
   Wp (gasolierref05_Made fuel p l) (fun x => x.length ≤ 12 ∧ x.length ≤ p.length ∧ ∀ i, i < x.length → Fine i (rp x i) ∧ ((p.getD i default).x6 = 0 → Just l (rp x i))) := by
 unfold gasolierref05_Made
 refine wp_for 12 (by omega) (fun i x => x.length = i ∧ i ≤ p.length ∧ ∀ j, j < i → Fine j (rp x j) ∧ ((p.getD j default).x6 = 0 → Just l (rp x j))) ⟨rfl, by omega, fun j hj => by omega⟩ (fun i x K hi hI hK => ?_)
 obtain ⟨hlen, hip, hall⟩ := hI
 simp only at hK ⊢
 refine wp_if (p := (i : Int) < (p.length : Int) ∧ (i : Int) < 12) (by simp) (fun h => ?_) (fun h => wp_some ⟨by omega, by omega, fun j hj => hall j (by omega)⟩)
 simp only [Int.toNat_natCast]
 generalize hq : p.getD i default = q at *
 have ew : wrapI (4 * (i : Int)) = 4 * (i : Int) := wrapI_of (by omega)
 refine wp_must (by omega) ?_
 rw [ew]
 refine wp_mustI (by omega) ?_
 obtain ⟨a, ea, a1, a2⟩ := mod5_eq q.x0 (m := 3) (by omega) (by omega)
 obtain ⟨b, eb, b1, b2⟩ := mod5_eq q.x1 (m := 1300) (by omega) (by omega)
 obtain ⟨c, ec, c1, c2⟩ := mod5_eq q.x2 (m := 139) (by omega) (by omega)
 obtain ⟨d, ed, d1, d2⟩ := mod5_eq q.x3 (m := 300) (by omega) (by omega)
 obtain ⟨e, ee, e1, e2⟩ := mod5_eq q.x4 (m := 300) (by omega) (by omega)
 obtain ⟨f, ef, f1, f2⟩ := mod5_eq q.x6 (m := 7) (by omega) (by omega)
 obtain ⟨g, eg, g1, g2⟩ := mod5_eq q.x3 (m := 600) (by omega) (by omega)
 obtain ⟨o, eo, o1, o2⟩ := mod5_eq q.x4 (m := 60) (by omega) (by omega)
 obtain ⟨s, es, s1, s2⟩ := mod5_eq q.x6 (m := 11) (by omega) (by omega)
 obtain ⟨t, et, t1, t2⟩ := mod5_eq q.x5 (m := 1440) (by omega) (by omega)
 obtain ⟨u, eu, u1, u2⟩ := mod5_eq q.x6 (m := 5) (by omega) (by omega)
 obtain ⟨v, ev, v1, v2⟩ := mod5_eq (wrapI (q.x5 * 7)) (m := 600) (by omega) (by omega)
 have hzero : q.x6 = 0 → f = 0 ∧ s = 0 ∧ u = 0 := fun hz => by
   rw [hz, mod5_zero (by omega) (by omega)] at ef es eu
   exact ⟨(Option.some.inj ef).symm, (Option.some.inj es).symm, (Option.some.inj eu).symm⟩
 refine wp_bindE ea (wp_mustI (by omega) (wp_bindE eb (wp_bindE ec (wp_mustI (by omega) (wp_bind (reach_wp l hl (d := 1 + a) (a := b) (b := b + c) (by omega) (by omega) hf) (fun r hr => ?_))))))
 obtain ⟨r1, r2, r3, r4⟩ := hr
 refine wp_bindE ed (wp_mustI (by omega) (wp_bindE ee (wp_mustI (by omega) (wp_bindE ef ?_))))
 refine wp_join (fun z : Report => z.Source = 4 * (i : Int) + 3 ∧ z.District = 1 + a ∧ z.Night = 3 ∧ z.From = b ∧ z.To = b + c ∧ z.Known = 0 ∧ z.Until = 0 ∧ (0 ≤ z.Sight.Lo ∧ z.Sight.Lo ≤ z.Sight.Hi ∧ z.Sight.Hi ≤ 5000) ∧ (f ≠ 6 → ∀ m : Int, b ≤ m → m ≤ b + c → z.Sight.Lo ≤ tr l (1 + a) m ∧ tr l (1 + a) m ≤ z.Sight.Hi)) (fun K2 hK2 => ?_) (fun z hz => ?_)
 · refine wp_ifd (fun h6 => ?_) (fun h6 => ?_)
   · exact wp_bindE eg (wp_bindE eg (wp_bindE eo (wp_mustI (by omega) (hK2 _ ⟨rfl, rfl, rfl, rfl, rfl, rfl, rfl, ⟨by simp only; omega, by simp only; omega, by simp only; omega⟩, fun h => absurd h6 h⟩))))
   · refine hK2 _ ⟨rfl, rfl, rfl, rfl, rfl, rfl, rfl, ⟨by simp only; omega, by simp only; omega, by simp only; omega⟩, fun _ m m1 m2 => ?_⟩
     have := r4 m m1 m2
     simp only; omega
 obtain ⟨z1, z2, z3, z4, z5, z6, z7, z8, z9⟩ := hz
 refine wp_bindE es ?_
 refine wp_join (fun y : Report => y.Source = z.Source ∧ y.District = z.District ∧ (y.Night = 3 ∨ y.Night = 4) ∧ (s ≠ 10 → y.Night = 3) ∧ y.From = z.From ∧ y.To = z.To ∧ y.Sight = z.Sight ∧ y.Until = 0) (fun K2 hK2 => ?_) (fun y hy => ?_)
 · refine wp_ifd (fun h6 => ?_) (fun h6 => ?_)
   · exact hK2 _ ⟨rfl, rfl, .inr rfl, fun h => absurd h6 h, rfl, rfl, rfl, z7⟩
   · exact hK2 _ ⟨rfl, rfl, .inl z3, fun _ => z3, rfl, rfl, rfl, z7⟩
 obtain ⟨y1, y2, y3, y4, y5, y6, y7, y8⟩ := hy
 refine wp_bindE et (wp_mustI (by omega) (wp_bindE eu ?_))
 refine wp_join (fun x' : Report => x'.Source = y.Source ∧ x'.District = y.District ∧ x'.Night = y.Night ∧ x'.From = y.From ∧ x'.To = y.To ∧ x'.Sight = y.Sight ∧ x'.Known = 4320 + t ∧ (x'.Until = 0 ∨ x'.Known < x'.Until ∧ x'.Until ≤ 7000) ∧ (u ≠ 4 → x'.Until = 0)) (fun K2 hK2 => ?_) (fun x' hx' => ?_)
 · refine wp_ifd (fun h6 => ?_) (fun h6 => ?_)
   · exact wp_mustI (by omega) (wp_bindE ev (wp_mustI (by omega) (hK2 _ ⟨rfl, rfl, rfl, rfl, rfl, rfl, rfl, .inr ⟨by simp only; omega, by simp only; omega⟩, fun h => absurd h6 h⟩)))
   · exact hK2 _ ⟨rfl, rfl, rfl, rfl, rfl, rfl, rfl, .inl y8, fun _ => y8⟩
 obtain ⟨x1, x2, x3, x4, x5, x6, x7, x8, x9⟩ := hx'
 refine wp_mustR (by simp; omega) (wp_mustI (by omega) (hK _ (by omega) ⟨by simp [hlen], by omega, fun j hj => ?_⟩))
 unfold rp
 rw [getD_snoc]
 split
 · rename_i hjl
   have hji : j = i := by omega
   subst hji
   rw [hq]
   refine ⟨⟨by omega, by omega, by rw [x3]; exact y3, by omega, by omega, by rw [x6, y7]; exact z8, by omega, x8⟩, fun hz => ?_⟩
   obtain ⟨k1, k2, k3⟩ := hzero hz
   refine ⟨by rw [x3]; exact y4 (by omega), x9 (by omega), fun m m1 m2 => ?_⟩
   rw [x6, y7, x2, y2, z2]
   exact z9 (by omega) m (by omega) (by omega)
 · exact hall j (by omega)
theorem fine_ok {x : List Report} (hl : x.length ≤ 12) (h : ∀ i, i < x.length → Fine i (rp x i)) : RepsOk x := by
 refine ⟨by omega, fun i hi => ?_⟩
 have F := h i hi
 have f1 := F.src; have f2 := F.dist; have f3 := F.night; have f4 := F.from_; have f5 := F.to_; have f6 := F.sight; have f7 := F.known; have f8 := F.till
 refine ⟨⟨by omega, by omega, by omega, by omega, by omega, by omega, by omega⟩, fun h0 => ?_⟩
 have := (h (i - 1) (by omega)).src
 omega
theorem moment_eq (n : Int) : ∃ at_, gasolierlaw05_moment n = some at_ ∧ 4320 ≤ at_ ∧ at_ ≤ 5759 := by
 unfold gasolierlaw05_moment
 obtain ⟨y, e, h1, h2⟩ := mod5_eq n (m := 1440) (by omega) (by omega)
 rw [e]
 exact ⟨4320 + y, must_yes (by unfold inI; omega) _, by omega, by omega⟩
end Go.Sp
end
/- Plain laws, fog: FogShown. No program in sight. -/
section
set_option linter.all false
namespace Go.Sp
open Go.Av
set_option maxRecDepth 100000
theorem counting_eq (l : List Report) (m : Int) (h : RepsOk l) (hm : 0 ≤ m ∧ m ≤ 144001439) : fog_Counting l m = some ((l.filter (fun x => fog_counts x m)).map (·.Source), 0) := by
 unfold fog_Counting
 refine Wp.eq (wp_bindE (fcheck_ok h) (wp_false (by simp) (wp_false (by simp only [fog_isMoment, Bool.not_eq_false', fwithin_iff]; exact hm) ?_)))
 have hl := h.len
 refine wp_range (fun i s => s = ((l.take i).filter (fun x => fog_counts x m)).map (·.Source)) (by simp) (fun i s K hi hI hK => ?_) (fun s hI => wp_some (by rw [hI, List.take_length]))
 have et : (l.take (i + 1)).filter (fun x => fog_counts x m) = (l.take i).filter (fun x => fog_counts x m) ++ (if fog_counts (l.getD i default) m then [l.getD i default] else []) := by
   rw [take_getD hi, List.filter_append]; simp only [List.filter_cons, List.filter_nil]
 have hs : s.length ≤ 60 := by
   rw [hI, List.length_map]; exact Nat.le_trans (List.length_filter_le _ _) (by simp; omega)
 refine wp_bif (fun hb => ?_) (fun hb => ?_)
 · refine wp_mustR (by simp; omega) (hK _ ?_)
   rw [et, if_pos hb, hI, List.map_append]; rfl
 · refine hK _ ?_
   rw [et, if_neg (by rw [hb]; simp), hI, List.append_nil]
theorem has_eq {fuel : Nat} (l : List Int) (n : Int) (hf : l.length < fuel) (hl : l.length < 9223372036854775807) : gasolierref05_Has fuel l n = some (decide (n ∈ l)) := by
 unfold gasolierref05_Has
 refine (wp_for1 (P := fun r => r = decide (n ∈ l)) l.length hf (fun i => ∀ j, j < i → l.getD j default ≠ n) (fun j hj => by omega) (fun i K hi hI hK => ?_)).eq
 refine wp_ifd (fun hlt => ?_) (fun hge => wp_some ?_)
 · have hi' : i < l.length := by omega
   refine wp_must (by omega) ?_
   simp only [Int.toNat_natCast]
   refine wp_ifd (fun h => wp_some ?_) (fun h => wp_mustI (by omega) (hK hi' (fun j hj => ?_)))
   · rw [decide_eq_true (h ▸ getD_mem hi')]
   · by_cases ej : j = i
     · subst ej; exact h
     · exact hI j (by omega)
 · rw [decide_eq_false (fun hm => ?_)]
   obtain ⟨j, hj, e⟩ := mem_getD hm
   exact hI j (by omega) e
theorem inj_source {l : List Report} (h : l.Pairwise (fun a b => a.Source < b.Source)) {x y : Report} (hx : x ∈ l) (hy : y ∈ l) (e : x.Source = y.Source) : x = y := by
 obtain ⟨i, hi, rfl⟩ := List.getElem_of_mem hx
 obtain ⟨j, hj, rfl⟩ := List.getElem_of_mem hy
 rcases Nat.lt_trichotomy i j with h' | h' | h'
 · have := List.pairwise_iff_getElem.1 h i j hi hj h'; omega
 · subst h'; rfl
 · have := List.pairwise_iff_getElem.1 h j i hj hi h'; omega
theorem sorted_all {l : List Report} (h : RepsOk l) : l.Pairwise (fun a b => a.Source < b.Source) := by
 rw [List.pairwise_iff_getElem]
 intro i j hi hj hij
 have step : ∀ k, i + 1 + k < l.length → l[i].Source < (rp l (i + 1 + k)).Source := by
   intro k
   induction k with
   | zero =>
     intro hk
     have := (h.all (i + 1) hk).2 (by omega)
     have e : rp l (i + 1 - 1) = l[i] := by unfold rp; simp [List.getElem?_eq_getElem hi]
     rw [e] at this; exact this
   | succ k ih =>
     intro hk
     have h1 := ih (by omega)
     have h2 := (h.all (i + 1 + (k + 1)) hk).2 (by omega)
     have e : i + 1 + (k + 1) - 1 = i + 1 + k := by omega
     rw [e] at h2
     omega
 have := step (j - (i + 1)) (by omega)
 have e : i + 1 + (j - (i + 1)) = j := by omega
 rw [e] at this
 have e2 : rp l j = l[j] := by unfold rp; simp [List.getElem?_eq_getElem hj]
 rw [e2] at this; exact this
theorem pairL_some {v : List Report} {a b : Report} (hv : v.Pairwise (fun a b => a.Source < b.Source)) (h : pairL v = some (a, b)) : a ∈ v ∧ b ∈ v ∧ a.Source < b.Source ∧ fog_clash a b = true := by
 induction v with
 | nil => simp [pairL] at h
 | cons x v ih =>
   rw [List.pairwise_cons] at hv
   unfold pairL at h
   cases hf : v.find? (fun b => fog_clash x b) with
   | some y =>
     rw [hf] at h
     simp only [Option.some.injEq, Prod.mk.injEq] at h
     obtain ⟨rfl, rfl⟩ := h
     have h1 := List.find?_some hf
     have h2 := List.mem_of_find?_eq_some hf
     exact ⟨List.mem_cons_self, List.mem_cons_of_mem _ h2, hv.1 y h2, h1⟩
   | none =>
     rw [hf] at h
     obtain ⟨h1, h2, h3, h4⟩ := ih hv.2 h
     exact ⟨List.mem_cons_of_mem _ h1, List.mem_cons_of_mem _ h2, h3, h4⟩
theorem clash_symm (a b : Report) : fog_clash a b = fog_clash b a := by
 unfold fog_clash
 rw [Bool.and_comm (decide (a.From ≤ b.To)), Bool.or_comm (decide (b.Sight.Hi < a.Sight.Lo))]
theorem clear_le {v : List Report} (h : pairL v = none) (hok : ∀ x ∈ v, x.Sight.Lo ≤ x.Sight.Hi) {x y : Report} (hx : x ∈ v) (hy : y ∈ v) {m : Int} (h1 : atMin m x = true) (h2 : atMin m y = true) : x.Sight.Lo ≤ y.Sight.Hi := by
 rw [pairL_none] at h
 have key : fog_clash x y = false ∨ x = y := by
   obtain ⟨i, hi, rfl⟩ := List.getElem_of_mem hx
   obtain ⟨j, hj, rfl⟩ := List.getElem_of_mem hy
   rcases Nat.lt_trichotomy i j with h' | h' | h'
   · exact .inl (List.pairwise_iff_getElem.1 h i j hi hj h')
   · subst h'; exact .inr rfl
   · left; rw [clash_symm]; exact List.pairwise_iff_getElem.1 h j i hj hi h'
 have a1 := fwithin_iff.1 h1
 have a2 := fwithin_iff.1 h2
 rcases key with k | rfl
 · unfold fog_clash at k
   rw [decide_eq_true (by omega : x.From ≤ y.To), decide_eq_true (by omega : y.From ≤ x.To)] at k
   simp at k; omega
 · exact hok x hx
theorem foldl_in : ∀ (l : List Report) (r : Range), (∀ x ∈ l, x.Sight.Lo ≤ (l.foldl nar r).Lo ∧ (l.foldl nar r).Hi ≤ x.Sight.Hi) ∧ r.Lo ≤ (l.foldl nar r).Lo ∧ (l.foldl nar r).Hi ≤ r.Hi
 | [], r => ⟨fun x hx => (by cases hx), Int.le_refl _, Int.le_refl _⟩
 | x :: l, r => by
   obtain ⟨h1, h2, h3⟩ := foldl_in l (nar r x)
   rw [List.foldl_cons]
   have e1 : r.Lo ≤ (nar r x).Lo ∧ x.Sight.Lo ≤ (nar r x).Lo ∧ (nar r x).Hi ≤ r.Hi ∧ (nar r x).Hi ≤ x.Sight.Hi := by unfold nar; simp only; omega
   refine ⟨fun y hy => ?_, by omega, by omega⟩
   rcases List.mem_cons.1 hy with rfl | hy
   · omega
   · exact h1 y hy
theorem sight_clear {l : List Report} (R : RepsOk l) {d n mo : Int} (P : pairL (seeL l d n mo) = none) (m : Int) : (sightL (seeL l d n mo) m).Lo ≤ (sightL (seeL l d n mo) m).Hi := by
 obtain ⟨h1, h2⟩ := foldl_ends ((seeL l d n mo).filter (atMin m)) ⟨0, 5000⟩
 have hok : ∀ x ∈ seeL l d n mo, 0 ≤ x.Sight.Lo ∧ x.Sight.Lo ≤ x.Sight.Hi ∧ x.Sight.Hi ≤ 5000 := fun x hx => (mem_ok R (seen_mem hx).1).sight
 unfold sightL
 rcases h1 with h1 | ⟨x, hx, h1⟩
 · rcases h2 with h2 | ⟨y, hy, h2⟩
   · rw [h1, h2]; decide
   · have := hok y (List.mem_filter.1 hy).1; rw [h1, h2]; simp only; omega
 · rcases h2 with h2 | ⟨y, hy, h2⟩
   · have := hok x (List.mem_filter.1 hx).1; rw [h1, h2]; simp only; omega
   · rw [h1, h2]
     exact clear_le P (fun x hx => (hok x hx).2.1) (List.mem_filter.1 hx).1 (List.mem_filter.1 hy).1 (List.mem_filter.1 hx).2 (List.mem_filter.1 hy).2
theorem fogShown_true (p : List (Arr7 Int)) (l : List Int) (n : Arr4 Int) (hl : l.length ≤ 1000000000000000000) : gasolierlaw05_FogShown 20000 p l n = some true := by
 unfold gasolierlaw05_FogShown
 refine (?_ : Wp _ (· = true)).eq
 refine wp_bind (made_wp (by omega) p l hl) (fun x hx => ?_)
 obtain ⟨x1, x2, x3⟩ := hx
 have R := fine_ok x1 (fun i hi => (x3 i hi).1)
 obtain ⟨a, ea, a1, a2⟩ := mod5_eq n.x0 (m := 3) (by omega) (by omega)
 obtain ⟨m, eb, b1, b2⟩ := mod5_eq n.x1 (m := 1440) (by omega) (by omega)
 obtain ⟨at_, em, m1, m2⟩ := moment_eq n.x3
 refine wp_bindE ea (wp_mustI (by omega) (wp_bindE eb (wp_bindE em ?_)))
 generalize hD : 1 + a = D
 have hday : dayOk 3 at_ := by unfold dayOk; omega
 have eC := fClash_eq 20000 x D 3 at_ (by omega)
 have hview : viewR ⟨D, 3, at_, 0, ⟨0, 0⟩, 1⟩ x = (seeL x D 3 at_, 0) := by
   unfold viewR
   rw [if_neg (by simp [R]), if_neg (by unfold argOk; simp only; omega), if_neg (by simp [hday])]
 rw [hview] at eC
 simp only at eC
 have eS := fSight_eq 20000 x D 3 m at_ (by omega)
 have hcl : clearR ⟨D, 3, at_, m, ⟨0, 0⟩, 1⟩ x = if (pairL (seeL x D 3 at_)).isSome then ([], 52) else (seeL x D 3 at_, 0) := clearR_ok R (by unfold argOk; simp only; omega) hday
 rw [hcl] at eS
 have eN := counting_eq x at_ R (by omega)
 refine wp_bindE eC (wp_bindE eS (wp_bindE eN (wp_false (by simp) ?_)))
 cases hp : pairL (seeL x D 3 at_) with
 | some ab =>
   obtain ⟨u, v⟩ := ab
   obtain ⟨u1, u2, u3, u4⟩ := pairL_some (sorted_see R D 3 at_) hp
   simp only [Option.isSome_some, if_true, ne_eq]
   have hpr : (pairR (seeL x D 3 at_)).1 = [u.Source, v.Source] := by unfold pairR; rw [hp]
   rw [hpr]
   have eK : fog_CheckClash 20000 x D 3 at_ [u.Source, v.Source] = some 0 := by
     obtain ⟨r, e, h⟩ := fCheckClash_wp 20000 x D 3 at_ [u.Source, v.Source] (by omega)
     rw [e]
     rw [hview] at h
     rcases h with ⟨h1, _⟩ | ⟨_, ⟨_, _, h4⟩ | ⟨h3, _⟩⟩
     · simp at h1
     · rw [h4]
     · exact absurd ⟨rfl, u, u1, v, u2, rfl, rfl, u3, u4⟩ h3
   refine wp_true (by simp) (wp_onE (by simp) eK (wp_onE (by simp) sane_ok (wp_some (by simp))))
 | none =>
   simp only [Option.isSome_none, if_false, Bool.false_eq_true, ne_eq, not_true]
   have s1 := sight_clear R hp m
   have s2 := sightL_hi (seeL x D 3 at_) m
   generalize hr : sightL (seeL x D 3 at_) m = r at s1 s2
   refine wp_false (by simp) (wp_false (by simp; omega) (wp_mustI (by omega) (wp_mustI (by omega) ?_)))
   obtain ⟨k, ek, k1, k2⟩ := mod5_eq n.x2 (m := r.Hi - r.Lo + 1) (by omega) (by omega)
   refine wp_bindE ek (wp_mustI (by omega) ?_)
   have hin := foldl_in ((seeL x D 3 at_).filter (atMin m)) ⟨0, 5000⟩
   have hends := foldl_ends ((seeL x D 3 at_).filter (atMin m)) ⟨0, 5000⟩
   have hrr : ((seeL x D 3 at_).filter (atMin m)).foldl nar ⟨0, 5000⟩ = r := hr
   rw [hrr] at hin hends
   have hlenN : (x.filter (fun y => fog_counts y at_)).length ≤ 12 := Nat.le_trans (List.length_filter_le _ _) x1
   refine wp_loop (fun s => ∃ i : Nat, s.2.2 = (i : Int) ∧ i ≤ x.length ∧ ((∃ j, j < i ∧ rp x j ∈ (seeL x D 3 at_).filter (atMin m) ∧ (rp x j).Sight.Lo = r.Lo) → s.1 = true) ∧ ((r.Hi = 5000 ∨ ∃ j, j < i ∧ rp x j ∈ (seeL x D 3 at_).filter (atMin m) ∧ (rp x j).Sight.Hi = r.Hi) → s.2.1 = true)) (fun s => x.length - s.2.2.toNat) (by simp only; omega)
     ⟨0, rfl, Nat.zero_le _, (fun h => absurd h.choose_spec.1 (Nat.not_lt_zero _)), (fun h => h.elim (fun h => decide_eq_true h) (fun h => absurd h.choose_spec.1 (Nat.not_lt_zero _)))⟩ ?_
   rintro ⟨lw, hg, s3⟩ K ⟨i, hs3, hi, hlow, hhigh⟩ hK
   simp only at hs3 hlow hhigh hK ⊢
   subst hs3
   refine wp_ifd (fun hlt => ?_) (fun hge => ?_)
   · have hi' : i < x.length := by omega
     have hmemx : rp x i ∈ x := getD_mem hi'
     -- one report
     refine wp_join (fun z : Bool × Bool => ((∃ j, j < i + 1 ∧ rp x j ∈ (seeL x D 3 at_).filter (atMin m) ∧ (rp x j).Sight.Lo = r.Lo) → z.1 = true) ∧ ((r.Hi = 5000 ∨ ∃ j, j < i + 1 ∧ rp x j ∈ (seeL x D 3 at_).filter (atMin m) ∧ (rp x j).Sight.Hi = r.Hi) → z.2 = true)) (fun K2 hK2 => ?_) (fun z hz => ?_)
     · refine wp_must (by omega) (wp_bindE (has_eq _ _ (by rw [List.length_map]; omega) (by rw [List.length_map]; omega)) ?_)
       simp only [Int.toNat_natCast]
       have hhas : decide ((x.getD i default).Source ∈ (x.filter (fun y => fog_counts y at_)).map (·.Source)) = fog_counts (rp x i) at_ := by
         rw [Bool.eq_iff_iff, decide_eq_true_eq, List.mem_map]
         constructor
         · rintro ⟨y, hy, e⟩
           obtain ⟨y1, y2⟩ := List.mem_filter.1 hy
           have := inj_source (sorted_all R) y1 hmemx e
           rw [← this]; exact y2
         · intro h; exact ⟨rp x i, List.mem_filter.2 ⟨hmemx, h⟩, rfl⟩
       simp only [hhas]
       refine wp_must (fun _ => by omega) (wp_must (fun _ => by omega) (wp_must (fun _ => by omega) (wp_must (fun _ => by omega) ?_)))
       have hmem : rp x i ∈ (seeL x D 3 at_).filter (atMin m) ↔ fog_counts (rp x i) at_ = true ∧ (rp x i).District = D ∧ (rp x i).Night = 3 ∧ (rp x i).From ≤ m ∧ m ≤ (rp x i).To := by
         rw [List.mem_filter]
         unfold seeL
         rw [List.mem_filter]
         unfold seen atMin
         rw [fwithin_iff]
         simp only [Bool.and_eq_true, decide_eq_true_eq]
         constructor
         · rintro ⟨⟨_, ⟨q1, q2⟩, q3⟩, q4⟩; exact ⟨q3, q1, q2, q4⟩
         · rintro ⟨q3, q1, q2, q4⟩; exact ⟨⟨hmemx, ⟨q1, q2⟩, q3⟩, q4⟩
       have eg : x.getD i default = rp x i := rfl
       simp only [eg]
       refine wp_bif (fun hb => hK2 _ ⟨?_, ?_⟩) (fun hb => ?_)
       · have hno : ¬ rp x i ∈ (seeL x D 3 at_).filter (atMin m) := by
           rw [hmem]
           rintro ⟨q1, q2, q3, q4, q5⟩
           rw [q1, q2, q3, decide_eq_false (by omega : ¬ m < (rp x i).From), decide_eq_false (by omega : ¬ (rp x i).To < m)] at hb
           simp at hb
         rintro ⟨j, hj, q1, q2⟩
         by_cases ej : j = i
         · subst ej; exact absurd q1 hno
         · exact hlow ⟨j, by omega, q1, q2⟩
       · have hno : ¬ rp x i ∈ (seeL x D 3 at_).filter (atMin m) := by
           rw [hmem]
           rintro ⟨q1, q2, q3, q4, q5⟩
           rw [q1, q2, q3, decide_eq_false (by omega : ¬ m < (rp x i).From), decide_eq_false (by omega : ¬ (rp x i).To < m)] at hb
           simp at hb
         rintro (h | ⟨j, hj, q1, q2⟩)
         · exact hhigh (.inl h)
         · by_cases ej : j = i
           · subst ej; exact absurd q1 hno
           · exact hhigh (.inr ⟨j, by omega, q1, q2⟩)
       · simp only [Bool.or_eq_false_iff, Bool.not_eq_false', decide_eq_true_eq, decide_eq_false_iff_not] at hb
         obtain ⟨⟨⟨⟨c1, c2⟩, c3⟩, c4⟩, c5⟩ := hb
         have hm : rp x i ∈ (seeL x D 3 at_).filter (atMin m) := hmem.2 ⟨c1, c2, c3, by omega, by omega⟩
         obtain ⟨g1, g2⟩ := hin.1 _ hm
         refine wp_must (by omega) (wp_must (fun _ => by omega) (wp_false (by simp; omega) (wp_must (fun _ => by omega) (wp_must (fun _ => by omega) (hK2 _ ⟨?_, ?_⟩)))))
         · rintro ⟨j, hj, q1, q2⟩
           simp only [Bool.or_eq_true, decide_eq_true_eq]
           by_cases ej : j = i
           · subst ej; exact .inr q2
           · exact .inl (hlow ⟨j, by omega, q1, q2⟩)
         · rintro (h | ⟨j, hj, q1, q2⟩)
           · simp only [Bool.or_eq_true, decide_eq_true_eq]; exact .inl (hhigh (.inl h))
           · simp only [Bool.or_eq_true, decide_eq_true_eq]
             by_cases ej : j = i
             · subst ej; exact .inr q2
             · exact .inl (hhigh (.inr ⟨j, by omega, q1, q2⟩))
     · exact wp_mustI (by omega) (hK _ ⟨i + 1, by simp, by omega, hz.1, hz.2⟩ (by simp only; omega))
   · have hie : i = x.length := by omega
     have hmemi : ∀ y ∈ (seeL x D 3 at_).filter (atMin m), ∃ j, j < x.length ∧ rp x j = y := fun y hy => mem_getD (seen_mem (List.mem_filter.1 hy).1).1
     have h1 : (lw || decide (r.Lo = 0)) = true := by
       rw [Bool.or_eq_true, decide_eq_true_eq]
       rcases hends.1 with h | ⟨y, hy, h⟩
       · exact .inr h
       · obtain ⟨j, hj, rfl⟩ := hmemi y hy
         exact .inl (hlow ⟨j, by omega, hy, h.symm⟩)
     have h2 : hg = true := by
       rcases hends.2 with h | ⟨y, hy, h⟩
       · exact hhigh (.inl h)
       · obtain ⟨j, hj, rfl⟩ := hmemi y hy
         exact hhigh (.inr ⟨j, by omega, hy, h.symm⟩)
     have hb : ((lw || (decide (r.Lo = 0))) && hg) = true := by rw [h1, h2]; rfl
     refine wp_onE hb sane_ok ?_
     exact wp_some ((congrArg (fun b => b && true) hb).trans rfl)
end Go.Sp
end
