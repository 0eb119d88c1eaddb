/- Texts of the framework, or of the plain law, one behind another. -/
import Derived.Test.YtjndodbdfmfjhaaFr1
import Derived.Test.YtjndodbdfmfjhaaFr4
import Derived.KernelRfl
/- Rules for plain laws: what a printed definition yields. No program in sight. -/
section
set_option linter.all false
namespace Go.Sp
open Go.Av
def Wp {R : Type} (x : Option R) (P : R → Prop) : Prop := ∃ r, x = some r ∧ P r
theorem Wp.eq {R : Type} {x : Option R} {v : R} (h : Wp x (· = v)) : x = some v := by
 obtain ⟨r, h1, h2⟩ := h; rw [h1, h2]
theorem Wp.of_eq {R : Type} {x : Option R} {v : R} {P : R → Prop} (h : x = some v) (hp : P v) : Wp x P := ⟨v, h, hp⟩
theorem Wp.mono {R : Type} {x : Option R} {P Q : R → Prop} (h : Wp x P) (hp : ∀ r, P r → Q r) : Wp x Q := by
 obtain ⟨r, h1, h2⟩ := h; exact ⟨r, h1, hp r h2⟩
theorem wp_some {R : Type} {r : R} {P : R → Prop} (h : P r) : Wp (some r) P := ⟨r, rfl, h⟩
theorem wp_must {R : Type} {c : Prop} [Decidable c] {x : Option R} {P : R → Prop} (h : c) (k : Wp x P) : Wp (must c x) P := by
 unfold must; rw [if_pos h]; exact k
theorem wp_bind {S R : Type} {x : Option S} {k : S → Option R} {P : R → Prop} {Q : S → Prop} (h : Wp x Q) (hk : ∀ s, Q s → Wp (k s) P) : Wp (bindO x k) P := by
 obtain ⟨r, h1, h2⟩ := h; rw [h1]; exact hk r h2
theorem wp_bindE {S R : Type} {x : Option S} {k : S → Option R} {P : R → Prop} {v : S} (h : x = some v) (hk : Wp (k v) P) : Wp (bindO x k) P := by
 rw [h]; exact hk
theorem wp_bif {R : Type} {b : Bool} {x y : Option R} {P : R → Prop} (h1 : b = true → Wp x P) (h2 : b = false → Wp y P) : Wp (bif b then x else y) P := by
 cases b
 · exact h2 rfl
 · exact h1 rfl
theorem wp_if {R : Type} {p : Prop} {b : Bool} {x y : Option R} {P : R → Prop} (hb : b = true ↔ p) (h1 : p → Wp x P) (h2 : ¬ p → Wp y P) : Wp (bif b then x else y) P :=
 wp_bif (fun h => h1 (hb.1 h)) (fun h => h2 (fun hp => by rw [hb.2 hp] at h; cases h))
theorem wp_ifd {R : Type} {p : Prop} [Decidable p] {x y : Option R} {P : R → Prop} (h1 : p → Wp x P) (h2 : ¬ p → Wp y P) : Wp (bif (decide p) then x else y) P :=
 wp_if (decide_eq_true_iff) h1 h2
theorem wp_ifn {R : Type} {p : Prop} [Decidable p] {x y : Option R} {P : R → Prop} (h1 : ¬ p → Wp x P) (h2 : p → Wp y P) : Wp (bif (!decide p) then x else y) P :=
 wp_bif (fun h => h1 (by simpa using h)) (fun h => h2 (by simpa using h))
theorem wp_true {R : Type} {b : Bool} {x y : Option R} {P : R → Prop} (h : b = true) (h1 : Wp x P) : Wp (bif b then x else y) P := by rw [h]; exact h1
theorem wp_false {R : Type} {b : Bool} {x y : Option R} {P : R → Prop} (h : b = false) (h1 : Wp y P) : Wp (bif b then x else y) P := by rw [h]; exact h1
theorem wp_joinU {S R : Type} {f : (S → Option R) → Option R} {k : S → Option R} {P : R → Prop} (h : Wp (f k) P) : Wp (joinK f k) P := h
theorem wp_range {S R : Type} {body : Nat → S → (S → Option R) → Option R} {ex : S → Option R} {n : Nat} {s0 : S} {P : R → Prop} (Inv : Nat → S → Prop) (h0 : Inv 0 s0)
   (hb : ∀ (i : Nat) s (K : S → Option R), i < n → Inv i s → (∀ s', Inv (i + 1) s' → Wp (K s') P) → Wp (body i s K) P) (he : ∀ s, Inv n s → Wp (ex s) P) : Wp (rangeGo body ex n 0 s0) P := by
 have go : ∀ (m i : Nat), i + m = n → ∀ s, Inv i s → Wp (rangeGo body ex m i s) P := by
   intro m
   induction m with
   | zero => intro i hi s hs; have e : i = n := by omega
             subst e; exact he s hs
   | succ m ih => intro i hi s hs; exact hb i s _ (by omega) hs (fun s' h' => ih (i + 1) (by omega) s' h')
 exact go n 0 (by omega) s0 h0
theorem wp_loop {S R : Type} {body : S → (S → Option R) → Option R} {fuel : Nat} {s0 : S} {P : R → Prop} (Inv : S → Prop) (μ : S → Nat) (hf : μ s0 < fuel) (h0 : Inv s0)
   (hb : ∀ s (K : S → Option R), Inv s → (∀ s', Inv s' → μ s' < μ s → Wp (K s') P) → Wp (body s K) P) : Wp (loopGo body fuel s0) P := by
 have go : ∀ (f : Nat) s, Inv s → μ s < f → Wp (loopGo body f s) P := by
   intro f
   induction f with
   | zero => intro s _ h; omega
   | succ f ih => intro s hs hm; exact hb s _ hs (fun s' h' hl => ih s' h' (by omega))
 exact go fuel s0 h0 hf
theorem wp_for {S R : Type} {body : (Int × S) → ((Int × S) → Option R) → Option R} {fuel : Nat} {s0 : S} {P : R → Prop} (n : Nat) (hf : n < fuel) (Inv : Nat → S → Prop) (h0 : Inv 0 s0)
   (hb : ∀ (i : Nat) s (K : (Int × S) → Option R), i ≤ n → Inv i s → (∀ s', i < n → Inv (i + 1) s' → Wp (K ((i : Int) + 1, s')) P) → Wp (body ((i : Int), s) K) P) : Wp (loopGo body fuel (0, s0)) P := by
 have go : ∀ (f i : Nat) s, i ≤ n → n - i < f → Inv i s → Wp (loopGo body f ((i : Int), s)) P := by
   intro f
   induction f with
   | zero => intro i s _ h; omega
   | succ f ih => intro i s hi hm hs; exact hb i s _ hi hs (fun s' hl h' => ih (i + 1) s' (by omega) (by omega) h')
 exact go fuel 0 s0 (by omega) (by omega) h0
end Go.Sp
end
/- More rules for plain laws. No program in sight. -/
section
set_option linter.all false
namespace Go.Sp
open Go.Av
theorem wp_mustI {R : Type} {n : Int} {x : Option R} {P : R → Prop} (h : -9223372036854775808 ≤ n ∧ n ≤ 9223372036854775807) (k : Wp x P) : Wp (must (inI n) x) P := wp_must h k
theorem wp_mustR {R : Type} {n b : Nat} {x : Option R} {P : R → Prop} (h : n * b ≤ 140737488355328 ∧ n ≤ 9223372036854775807) (k : Wp x P) : Wp (must (room n b) x) P := wp_must h k
end Go.Sp
end
/- Rules for plain laws, more of them. No program in sight. -/
section
set_option linter.all false
namespace Go.Sp
open Go.Av
theorem wp_forall {R : Type} {body : Nat → Unit → (Unit → Option R) → Option R} {ex : Unit → Option R} {n : Nat} {P : R → Prop} (good : Nat → Prop)
   (hb : ∀ (i : Nat) (K : Option R), i < n → (∀ j, j < i → good j) → (good i → Wp K P) → Wp (body i () (fun _ => K)) P) (he : (∀ j, j < n → good j) → Wp (ex ()) P) : Wp (rangeGo body ex n 0 ()) P := by
 refine wp_range (fun i _ => ∀ j, j < i → good j) (fun j hj => by omega) (fun i s K hi hI hK => ?_) (fun s hs => he hs)
 have e : K = fun _ => K () := funext fun u => rfl
 rw [e]
 exact hb i (K ()) hi hI (fun g => hK () (fun j hj => by
   by_cases e : j = i
   · rw [e]; exact g
   · exact hI j (by omega)))
theorem must_yes {R : Type} {c : Prop} [Decidable c] (h : c) (x : Option R) : must c x = x := if_pos h
theorem getD_snoc {T : Type} (l : List T) (x d : T) (i : Nat) : (l ++ [x]).getD i d = if i = l.length then x else l.getD i d := by
 simp only [List.getD_eq_getElem?_getD]
 rcases Nat.lt_trichotomy i l.length with h | h | h
 · rw [List.getElem?_append_left h, if_neg (by omega)]
 · subst h; simp
 · rw [if_neg (by omega), List.getElem?_eq_none (by simp; omega), List.getElem?_eq_none (by omega)]
theorem mem_getD {T : Type} [Inhabited T] {l : List T} {x : T} (h : x ∈ l) : ∃ i, i < l.length ∧ l.getD i default = x := by
 obtain ⟨i, hi, rfl⟩ := List.getElem_of_mem h
 exact ⟨i, hi, by rw [List.getD_eq_getElem?_getD, List.getElem?_eq_getElem hi]; rfl⟩
theorem getD_take {T : Type} (l : List T) (n i : Nat) (d : T) : (l.take n).getD i d = if i < n then l.getD i d else d := by
 simp only [List.getD_eq_getElem?_getD, List.getElem?_take]
 split <;> rfl
theorem ext_getD {T : Type} [Inhabited T] {l r : List T} (hl : l.length = r.length) (h : ∀ i, i < l.length → l.getD i default = r.getD i default) : l = r := by
 refine List.ext_getElem hl (fun i h1 h2 => ?_)
 have := h i h1
 rw [List.getD_eq_getElem?_getD, List.getD_eq_getElem?_getD, List.getElem?_eq_getElem h1, List.getElem?_eq_getElem h2] at this
 exact this
theorem emit_range {A : Type} {body : Nat → Unit → (Unit → Option (List A)) → Option (List A)} {n : Nat} (W : Nat → Bool) (x : Nat → A)
   (hb : ∀ (i : Nat) (r : Option (List A)), i < n → body i () (fun _ => r) = emitIf (W i) (x i) r) : rangeGo body (fun _ => some []) n 0 () = some (((List.range' 0 n).filter W).map x) := by
 have go : ∀ m i, i + m = n → rangeGo body (fun _ => some []) m i () = some (((List.range' i m).filter W).map x) := by
   intro m
   induction m with
   | zero => intro i _; rfl
   | succ m ih =>
     intro i hi
     have e : rangeGo body (fun _ => some []) (m + 1) i () = body i () (fun u => rangeGo body (fun _ => some []) m (i + 1) u) := rfl
     rw [e]
     have e2 : (fun u => rangeGo body (fun _ => some ([] : List A)) m (i + 1) u) = fun _ => some (((List.range' (i + 1) m).filter W).map x) := by
       funext u; exact ih (i + 1) (by omega)
     rw [e2, hb i _ (by omega), List.range'_succ, List.filter_cons]
     cases W i <;> rfl
 exact go n 0 (by omega)
end Go.Sp
end
/- Plain laws, fog: valid reports, what a view is, contradictions, the sight. No program in sight. -/
section
set_option linter.all false
namespace Go.Sp
open Go.Av
set_option maxRecDepth 100000
structure RepOk (x : Report) : Prop where
 src : 1 ≤ x.Source ∧ x.Source ≤ 99999
 dist : 1 ≤ x.District ∧ x.District ≤ 9
 night : 0 ≤ x.Night ∧ x.Night ≤ 100000
 time : 0 ≤ x.From ∧ x.From ≤ x.To ∧ x.To ≤ 1439
 sight : 0 ≤ x.Sight.Lo ∧ x.Sight.Lo ≤ x.Sight.Hi ∧ x.Sight.Hi ≤ 5000
 known : 0 ≤ x.Known ∧ x.Known ≤ 144001439
 till : x.Until = 0 ∨ (x.Known < x.Until ∧ 0 ≤ x.Until ∧ x.Until ≤ 144001439)
theorem fwithin_iff {a b c : Int} : fog_within a b c = true ↔ b ≤ a ∧ a ≤ c := by simp [fog_within]
theorem frange_iff {r : Range} {c : Int} : fog_isRange r c = true ↔ 0 ≤ r.Lo ∧ r.Lo ≤ r.Hi ∧ r.Hi ≤ c := by simp [fog_isRange, and_assoc]
theorem fcheckReport_iff {x : Report} : fog_CheckReport x = 0 ↔ RepOk x := by
 have e : (bif (((((((!(fog_within x.Source 1 99999)) || (!(fog_isDistrict x.District))) || (!(fog_isNight x.Night))) || (!(fog_isRange (⟨x.From, x.To⟩ : Range) 1439))) || (!(fog_isRange x.Sight 5000))) || (!(fog_isMoment x.Known))) || ((!decide (x.Until = 0)) && ((decide (x.Until ≤ x.Known)) || (!(fog_isMoment x.Until))))) then (50 : Int) else 0) = 0 ↔ (((((((!(fog_within x.Source 1 99999)) || (!(fog_isDistrict x.District))) || (!(fog_isNight x.Night))) || (!(fog_isRange (⟨x.From, x.To⟩ : Range) 1439))) || (!(fog_isRange x.Sight 5000))) || (!(fog_isMoment x.Known))) || ((!decide (x.Until = 0)) && ((decide (x.Until ≤ x.Known)) || (!(fog_isMoment x.Until))))) = false := by
   generalize (((((((!(fog_within x.Source 1 99999)) || (!(fog_isDistrict x.District))) || (!(fog_isNight x.Night))) || (!(fog_isRange (⟨x.From, x.To⟩ : Range) 1439))) || (!(fog_isRange x.Sight 5000))) || (!(fog_isMoment x.Known))) || ((!decide (x.Until = 0)) && ((decide (x.Until ≤ x.Known)) || (!(fog_isMoment x.Until))))) = b
   cases b <;> simp
 unfold fog_CheckReport
 rw [e]
 simp only [fog_isDistrict, fog_isNight, fog_isMoment, Bool.or_eq_false_iff, Bool.and_eq_false_iff, Bool.not_eq_false', fwithin_iff, frange_iff, decide_eq_true_eq, decide_eq_false_iff_not]
 constructor
 · rintro ⟨⟨⟨⟨⟨⟨h1, h2⟩, h3⟩, h4⟩, h5⟩, h6⟩, h7⟩
   exact ⟨h1, h2, h3, h4, h5, h6, by rcases h7 with h7 | h7 <;> omega⟩
 · rintro ⟨h1, h2, h3, h4, h5, h6, h7⟩
   exact ⟨⟨⟨⟨⟨⟨h1, h2⟩, h3⟩, h4⟩, h5⟩, h6⟩, by omega⟩
def rp (l : List Report) (i : Nat) : Report := l.getD i default
structure RepsOk (l : List Report) : Prop where
 len : l.length ≤ 60
 all : ∀ i, i < l.length → RepOk (rp l i) ∧ (0 < i → (rp l (i - 1)).Source < (rp l i).Source)
theorem fcompare_nonneg (a b : Report) : 0 ≤ fog_compare a b ↔ b.Source ≤ a.Source := by
 unfold fog_compare cmp_Compare_int cmp_isNaN_int
 by_cases h1 : a.Source < b.Source
 · simp [h1]
 · by_cases h2 : b.Source < a.Source <;> simp [h1, h2] <;> omega
theorem fcheck_wp (l : List Report) : Wp (fog_Check l) (fun r => (RepsOk l ∧ r = 0) ∨ (¬ RepsOk l ∧ r = 51)) := by
 unfold fog_Check
 refine wp_ifd (fun h => wp_some (.inr ⟨fun V => by have := V.len; omega, rfl⟩)) (fun h => ?_)
 refine wp_forall (fun i => RepOk (rp l i) ∧ (0 < i → (rp l (i - 1)).Source < (rp l i).Source)) (fun i K hi _ hK => ?_) (fun h1 => wp_some (.inl ⟨⟨by omega, h1⟩, rfl⟩))
 refine wp_must (fun _ => by unfold inI; omega) ?_
 refine wp_must (fun h => by simp at h; omega) ?_
 have e : (((i : Int) - 1)).toNat = i - 1 := by omega
 rw [e]
 refine wp_bif (fun hb => wp_some (.inr ⟨fun V => ?_, rfl⟩)) (fun hb => ?_)
 · obtain ⟨a1, a2⟩ := V.all i hi
   unfold rp at a1 a2
   have a3 := fcheckReport_iff.2 a1
   simp only [a3, Bool.or_eq_true, Bool.and_eq_true, decide_eq_true_eq, Bool.not_eq_true', fcompare_nonneg] at hb
   rcases hb with hb | hb
   · simp at hb
   · have := a2 (by omega); omega
 · simp only [Bool.or_eq_false_iff, Bool.and_eq_false_iff, Bool.not_eq_false', decide_eq_true_eq, decide_eq_false_iff_not, fcompare_nonneg] at hb
   refine hK ⟨fcheckReport_iff.1 hb.1, fun h0 => ?_⟩
   unfold rp
   rcases hb.2 with h | h <;> omega
theorem fcheck_ok {l : List Report} (h : RepsOk l) : fog_Check l = some 0 := by
 obtain ⟨r, e, h1 | h1⟩ := fcheck_wp l
 · rw [e, h1.2]
 · exact absurd h h1.1
theorem fcheck_bad {l : List Report} (h : ¬ RepsOk l) : fog_Check l = some 51 := by
 obtain ⟨r, e, h1 | h1⟩ := fcheck_wp l
 · exact absurd h1.1 h
 · rw [e, h1.2]
theorem indexFunc_eq {T : Type} [Inhabited T] {p : T → Option Bool} {q : T → Bool} (hp : ∀ x, p x = some (q x)) (l : List T) :
   (rangeGo (fun i1 (s1 : Unit) k1 => bindO (p (l.getD i1 default)) fun y3 => (bif y3 then some (i1 : Int) else k1 ())) (fun (s1 : Unit) => some (-1)) l.length 0 () : Option Int) = some (match l.findIdx? q with | some i => (i : Int) | none => -1) := by
 refine (wp_forall (P := fun r => r = (match l.findIdx? q with | some i => (i : Int) | none => -1)) (fun i => q (l.getD i default) = false) (fun i K hi hb hK => ?_) (fun h1 => ?_)).eq
 · rw [hp]
   refine wp_bif (fun h => wp_some ?_) (fun h => hK h)
   have : l.findIdx? q = some i := by
     rw [List.findIdx?_eq_some_iff_getElem]
     refine ⟨hi, ?_, fun j hj => ?_⟩
     · rw [List.getD_eq_getElem?_getD, List.getElem?_eq_getElem hi] at h; exact h
     · have := hb j hj
       rw [List.getD_eq_getElem?_getD, List.getElem?_eq_getElem (by omega)] at this
       simpa using this
   rw [this]
 · refine wp_some ?_
   have : l.findIdx? q = none := by
     rw [List.findIdx?_eq_none_iff]
     intro x hx
     obtain ⟨i, hi, rfl⟩ := mem_getD hx
     exact h1 i hi
   rw [this]
theorem take_set_le {T : Type} {l : List T} {i : Nat} {x : T} (h : i < l.length) : (l.set i x).take (i + 1) = l.take i ++ [x] := by
 rw [List.take_add_one, List.getElem?_set_self h, List.take_set_of_le (Nat.le_refl _)]; rfl
theorem take_copyAt {T : Type} [Inhabited T] (l : List T) (a m : Nat) (f : Nat → T) (h : a ≤ l.length) : (copyAt l a m f).take a = l.take a := by
 refine ext_getD (by simp [copyAt]) (fun i hi => ?_)
 have hi' : i < a := by simp [copyAt] at hi; omega
 rw [getD_take, getD_take, if_pos hi', if_pos hi']
 unfold copyAt
 rw [List.getD_eq_getElem?_getD, List.getElem?_map, List.getElem?_range (by omega)]
 simp only [Option.map_some, Option.getD_some]
 rw [if_neg (by omega)]
theorem drop_getD {T : Type} [Inhabited T] {l : List T} {i : Nat} (h : i < l.length) : l.drop i = l.getD i default :: l.drop (i + 1) := by
 rw [List.getD_eq_getElem?_getD, List.getElem?_eq_getElem h]; exact List.drop_eq_getElem_cons h
theorem take_getD {T : Type} [Inhabited T] {l : List T} {i : Nat} (h : i < l.length) : l.take (i + 1) = l.take i ++ [l.getD i default] := by
 rw [List.take_add_one, List.getD_eq_getElem?_getD, List.getElem?_eq_getElem h]; rfl
theorem deleteFunc_eq {T : Type} [Inhabited T] (z : T) {p : T → Option Bool} {q : T → Bool} (hp : ∀ x, p x = some (q x)) (l : List T) (fuel : Nat) (hf : l.length < fuel) (hl : l.length < 9223372036854775807) :
   (bindO (rangeGo (fun i1 (s1 : Unit) k1 => bindO (p (l.getD i1 default)) fun y3 => (bif y3 then some (i1 : Int) else k1 ())) (fun (s1 : Unit) => some (-1)) l.length 0 () : Option Int) fun y1 => (bif (decide (y1 = (-1))) then some l else must (inI (y1 + 1)) <| (loopGo (fun (s5 : Int × Int × (List T)) k5 => (bif (decide (s5.2.1 < ((s5.2.2.length : Nat) : Int))) then must (0 ≤ (s5.2.1 : Int) ∧ (s5.2.1 : Int) < ((s5.2.2.length : Nat) : Int)) <| bindO (p (s5.2.2.getD (s5.2.1).toNat default)) fun y8 => (bif (!y8) then must (0 ≤ (s5.1 : Int) ∧ (s5.1 : Int) < ((s5.2.2.length : Nat) : Int)) <| must (inI (s5.1 + 1)) <| must (inI (s5.2.1 + 1)) <| k5 ((s5.1 + 1), (s5.2.1 + 1), (s5.2.2.set (s5.1).toNat (s5.2.2.getD (s5.2.1).toNat default))) else must (inI (s5.2.1 + 1)) <| k5 (s5.1, (s5.2.1 + 1), s5.2.2)) else must (0 < s5.2.2.length ∧ 0 ≤ (s5.1 : Int) ∧ (s5.1 : Int) ≤ ((s5.2.2.length : Nat) : Int)) <| must (0 < (copyAt s5.2.2 ((s5.1).toNat) (s5.2.2.length - (s5.1).toNat) (fun _ => z)).length ∧ 0 ≤ (s5.1 : Int) ∧ (s5.1 : Int) ≤ (((copyAt s5.2.2 ((s5.1).toNat) (s5.2.2.length - (s5.1).toNat) (fun _ => z)).length : Nat) : Int)) <| some ((copyAt s5.2.2 ((s5.1).toNat) (s5.2.2.length - (s5.1).toNat) (fun _ => z)).take ((s5.1).toNat)))) fuel (y1, (y1 + 1), l))) : Option (List T)) = some (l.filter (fun x => !q x)) := by
 rw [indexFunc_eq hp l]
 refine Wp.eq (wp_bindE rfl ?_)
 cases hi : l.findIdx? q with
 | none =>
   rw [List.findIdx?_eq_none_iff] at hi
   refine wp_true (by simp) (wp_some ?_)
   exact (List.filter_eq_self.2 (fun x hx => by rw [hi x hx]; rfl)).symm
 | some i =>
   rw [List.findIdx?_eq_some_iff_getElem] at hi
   obtain ⟨h1, h2, h3⟩ := hi
   refine wp_false (by simp) (wp_mustI (by simp only; omega) ?_)
   refine wp_loop (fun s => ∃ a b : Nat, s.1 = (a : Int) ∧ s.2.1 = (b : Int) ∧ a < b ∧ b ≤ l.length ∧ s.2.2.length = l.length ∧ s.2.2.take a = (l.take b).filter (fun x => !q x) ∧ s.2.2.drop b = l.drop b) (fun s => l.length - s.2.1.toNat) (by simp only; omega) ⟨i, i + 1, rfl, by simp, by omega, by omega, rfl, ?_, rfl⟩ ?_
   · rw [take_getD h1, List.filter_append]
     have e1 : (l.take i).filter (fun x => !q x) = l.take i := List.filter_eq_self.2 (fun x hx => by
       obtain ⟨j, hj, rfl⟩ := List.getElem_of_mem hx
       have hj' : j < i := by simp at hj; omega
       have := h3 j hj'
       simp only [List.getElem_take]
       simpa using this)
     have e2 : q (l.getD i default) = true := by rw [List.getD_eq_getElem?_getD, List.getElem?_eq_getElem h1]; exact h2
     rw [e1]; simp [e2, -List.getD_eq_getElem?_getD]
   · rintro ⟨s1, s2, s3⟩ K ⟨a, b, rfl, rfl, hab, hb, hlen, ht, hd⟩ hK
     simp only at hK ht hd hlen ⊢
     refine wp_ifd (fun hlt => ?_) (fun hge => ?_)
     · have hbl : b < l.length := by omega
       refine wp_must (by omega) ?_
       rw [hp]
       simp only [Int.toNat_natCast]
       have ex : s3.getD b default = l.getD b default := by
         have := drop_getD (l := s3) (i := b) (by omega)
         rw [hd, drop_getD hbl] at this
         exact (List.cons.inj this).1.symm
       have hd1 : s3.drop (b + 1) = l.drop (b + 1) := by
         have := drop_getD (l := s3) (i := b) (by omega)
         rw [hd, drop_getD hbl] at this
         exact (List.cons.inj this).2.symm
       refine wp_bindE rfl ?_
       rw [ex]
       refine wp_bif (fun hq => ?_) (fun hq => ?_)
       · refine wp_must (by omega) (wp_mustI (by omega) (wp_mustI (by omega) ?_))
         refine hK _ ⟨a + 1, b + 1, by simp, by simp, by omega, by omega, by simp [hlen], ?_, ?_⟩ (by simp only; omega)
         · rw [take_set_le (by omega), ht, take_getD hbl, List.filter_append]
           simp only [Bool.not_eq_true'] at hq
           simp [hq, -List.getD_eq_getElem?_getD]
         · rw [List.drop_set_of_lt (by omega)]; exact hd1
       · refine wp_mustI (by omega) (hK _ ⟨a, b + 1, rfl, by simp, by omega, by omega, hlen, ?_, hd1⟩ (by simp only; omega))
         rw [ht, take_getD hbl, List.filter_append]
         simp only [Bool.not_eq_false'] at hq
         simp [hq, -List.getD_eq_getElem?_getD]
     · refine wp_must (by omega) (wp_must ?_ (wp_some ?_))
       · rw [length_copyAt]; omega
       · simp only [Int.toNat_natCast]
         rw [take_copyAt _ _ _ _ (by omega), ht, List.take_of_length_le (by omega)]
def seen (d n m : Int) (x : Report) : Bool := (decide (x.District = d) && decide (x.Night = n)) && fog_counts x m
def seeL (l : List Report) (d n m : Int) : List Report := l.filter (seen d n m)
theorem fsee_eq (fuel : Nat) (l : List Report) (d n m : Int) (h : l.length ≤ 60) (hf : 60 < fuel) : fog_see fuel l d n m = some (seeL l d n m) := by
 unfold fog_see slices_Clone_Report
 refine Wp.eq (wp_bind (Q := fun r => r = l) (wp_mustR (by simp; omega) (wp_some (by simp))) ?_)
 rintro s rfl
 have e := deleteFunc_eq (⟨0, 0, 0, 0, 0, (⟨0, 0⟩ : Range), 0, 0⟩ : Report) (p := fun x0 => some (fog_see_1 x0 d n m)) (q := fun x => fog_see_1 x d n m) (fun _ => rfl) s fuel (by omega) (by omega)
 refine wp_bindE (v := s.filter (fun x => !fog_see_1 x d n m)) e (wp_some ?_)
 unfold seeL
 congr 1
 funext x
 unfold fog_see_1 seen
 cases decide (x.District = d) <;> cases decide (x.Night = n) <;> cases fog_counts x m <;> rfl
def pairL : List Report → Option (Report × Report)
 | [] => none
 | a :: l => match l.find? (fun b => fog_clash a b) with
   | some b => some (a, b)
   | none => pairL l
def pairR (l : List Report) : List Int × Bool := match pairL l with
 | some (a, b) => ([a.Source, b.Source], true)
 | none => ([], false)
theorem find_range {T R : Type} [Inhabited T] {l : List T} {q : T → Bool} {body : Nat → Unit → (Unit → Option R) → Option R} {ex : Unit → Option R} (f : T → Option R)
   (hb : ∀ (i : Nat) (K : Option R), i < l.length → body i () (fun _ => K) = bif q (l.getD i default) then f (l.getD i default) else K) :
   rangeGo body ex l.length 0 () = match l.find? q with | some x => f x | none => ex () := by
 have go : ∀ (m i : Nat), i + m = l.length → rangeGo body ex m i () = match (l.drop i).find? q with | some x => f x | none => ex () := by
   intro m
   induction m with
   | zero => intro i hi; rw [List.drop_of_length_le (by omega)]; rfl
   | succ m ih =>
     intro i hi
     have e : rangeGo body ex (m + 1) i () = body i () (fun u => rangeGo body ex m (i + 1) u) := rfl
     have e2 : (fun u => rangeGo body ex m (i + 1) u) = fun _ => rangeGo body ex m (i + 1) () := by funext u; rfl
     rw [e, e2, hb i _ (by omega), drop_getD (by omega : i < l.length), List.find?_cons, ih (i + 1) (by omega)]
     cases q (l.getD i default) <;> rfl
 have := go l.length 0 (by omega)
 rw [List.drop_zero] at this
 exact this
theorem fpair_eq (l : List Report) (hl : l.length ≤ 9223372036854775807) : fog_view__pair l = some (pairR l) := by
 unfold fog_view__pair
 have go : ∀ (m i : Nat), i + m = l.length → rangeGo (fun i1 (s1 : Unit) k1 => must ((0 : Int) ≤ ((i1 : Int) + 1) ∧ (((i1 : Int) + 1) : Int) ≤ ((l.length : Nat) : Int)) <| (rangeGo (fun i4 (s4 : Unit) k4 => (bif (fog_clash (l.getD i1 default) ((l.drop (((i1 : Int) + 1)).toNat).getD i4 default)) then some (([(l.getD i1 default).Source, ((l.drop (((i1 : Int) + 1)).toNat).getD i4 default).Source] : List Int), true) else k4 ())) (fun (s4 : Unit) => k1 ()) ((l.drop (((i1 : Int) + 1)).toNat).length) 0 ())) (fun (s1 : Unit) => some ([], false)) m i () = some (pairR (l.drop i)) := by
   intro m
   induction m with
   | zero => intro i hi; rw [List.drop_of_length_le (by omega)]; rfl
   | succ m ih =>
     intro i hi
     have hlt : i < l.length := by omega
     conv => lhs; unfold rangeGo
     have et : ((i : Int) + 1).toNat = i + 1 := by omega
     rw [must_yes (by omega), et, ih (i + 1) (by omega)]
     rw [find_range (l := l.drop (i + 1)) (q := fun b => fog_clash (l.getD i default) b) (fun b => some ([(l.getD i default).Source, b.Source], true)) (fun j K _ => rfl)]
     rw [drop_getD hlt]
     conv => rhs; unfold pairR pairL
     cases (l.drop (i + 1)).find? (fun b => fog_clash (l.getD i default) b) with
     | none => rfl
     | some b => rfl
 have := go l.length 0 (by omega)
 rw [List.drop_zero] at this
 exact this
theorem pairR_two (l : List Report) : (pairR l).2 = (pairL l).isSome := by
 unfold pairR; cases pairL l <;> rfl
theorem pairL_none {l : List Report} : pairL l = none ↔ l.Pairwise (fun a b => fog_clash a b = false) := by
 induction l with
 | nil => simp [pairL]
 | cons a l ih =>
   rw [List.pairwise_cons]
   unfold pairL
   cases h : l.find? (fun b => fog_clash a b) with
   | some b =>
     have h1 := List.find?_some h
     have h2 := List.mem_of_find?_eq_some h
     simp only [reduceCtorEq, false_iff]
     intro hh
     have := hh.1 b h2
     rw [this] at h1; cases h1
   | none =>
     simp only
     rw [ih]
     rw [List.find?_eq_none] at h
     constructor
     · intro hp; exact ⟨fun b hb => by have := h b hb; simpa using this, hp⟩
     · exact fun hp => hp.2
def atMin (m : Int) (x : Report) : Bool := fog_within m x.From x.To
def nar (r : Range) (x : Report) : Range := ⟨max r.Lo x.Sight.Lo, min r.Hi x.Sight.Hi⟩
def sightL (v : List Report) (m : Int) : Range := (v.filter (atMin m)).foldl nar ⟨0, 5000⟩
theorem fsight_eq (v : List Report) (m : Int) : fog_view__sight v m = some (sightL v m) := by
 unfold fog_view__sight fog_view__of_1
 rw [emit_range (fun i => atMin m (v.getD i default)) (fun i => v.getD i default) (fun i r _ => rfl)]
 have e : ((List.range' 0 v.length).filter (fun i => atMin m (v.getD i default))).map (fun i => v.getD i default) = v.filter (atMin m) := by
   rw [show (fun i => atMin m (v.getD i default)) = atMin m ∘ (fun i => v.getD i default) from rfl, ← List.filter_map]
   congr 1
   refine List.ext_getElem (by simp) (fun i h1 h2 => ?_)
   simp [List.getElem?_eq_getElem h2]
 rw [e]
 show listGo _ _ (v.filter (atMin m)) _ = _
 unfold sightL
 generalize (⟨0, 5000⟩ : Range) = r
 induction v.filter (atMin m) generalizing r with
 | nil => rfl
 | cons x l ih => exact ih (nar r x)
end Go.Sp
end
/- Plain laws, fog: what is told of a clear district. No program in sight. -/
section
set_option linter.all false
namespace Go.Sp
open Go.Av
set_option maxRecDepth 100000
def argOk (q : fog_query) : Prop := 1 ≤ q.district ∧ q.district ≤ 9 ∧ 0 ≤ q.minute ∧ q.minute ≤ 1439 ∧ 0 ≤ q.time.Lo ∧ q.time.Lo ≤ q.time.Hi ∧ q.time.Hi ≤ 1439 ∧ 1 ≤ q.limit ∧ q.limit ≤ 5000
def dayOk (n m : Int) : Prop := 0 ≤ n ∧ n ≤ 100000 ∧ 0 ≤ m ∧ m ≤ 144001439
instance (q : fog_query) : Decidable (argOk q) := inferInstanceAs (Decidable (_ ∧ _))
instance (n m : Int) : Decidable (dayOk n m) := inferInstanceAs (Decidable (_ ∧ _))
open Classical in
noncomputable def viewR (q : fog_query) (l : List Report) : List Report × Int :=
 if ¬ RepsOk l then ([], 51) else if ¬ argOk q then ([], 1) else if ¬ dayOk q.night q.moment then ([], 6) else (seeL l q.district q.night q.moment, 0)
open Classical in
noncomputable def clearR (q : fog_query) (l : List Report) : List Report × Int :=
 if (viewR q l).2 ≠ 0 then ([], (viewR q l).2) else if (pairL (viewR q l).1).isSome then ([], 52) else ((viewR q l).1, 0)
theorem fview_eq (fuel : Nat) (q : fog_query) (l : List Report) (hf : 60 < fuel) : fog_query__view fuel q l = some (viewR q l) := by
 unfold fog_query__view viewR
 by_cases h : RepsOk l
 · rw [if_neg (by simp [h])]
   refine Wp.eq (wp_bindE (fcheck_ok h) ?_)
   refine wp_ifn (fun h => absurd rfl h) (fun _ => ?_)
   refine wp_if (p := ¬ argOk q) ?_ (fun ha => ?_) (fun ha => ?_)
   · unfold argOk
     simp only [fog_isDistrict, fog_isMinute, Bool.or_eq_true, Bool.not_eq_true', ← Bool.not_eq_true, fwithin_iff, frange_iff]
     omega
   · rw [if_pos ha]; exact wp_some rfl
   · rw [if_neg ha]
     refine wp_if (p := ¬ dayOk q.night q.moment) ?_ (fun hd => ?_) (fun hd => ?_)
     · unfold dayOk
       simp only [fog_isNight, fog_isMoment, Bool.or_eq_true, Bool.not_eq_true', ← Bool.not_eq_true, fwithin_iff]
       omega
     · rw [if_pos hd]; exact wp_some rfl
     · rw [if_neg hd]
       exact wp_bindE (fsee_eq fuel l _ _ _ h.len hf) (wp_some rfl)
 · rw [if_pos h]
   refine Wp.eq (wp_bindE (fcheck_bad h) ?_)
   exact wp_some rfl
theorem viewR_le (q : fog_query) (l : List Report) : (viewR q l).1.length ≤ 60 := by
 unfold viewR
 split
 · simp
 · split
   · simp
   · split
     · simp
     · rename_i h _ _
       have h : RepsOk l := Classical.byContradiction h
       exact Nat.le_trans (List.length_filter_le _ _) h.len
theorem fclear_eq (fuel : Nat) (q : fog_query) (l : List Report) (hf : 60 < fuel) : fog_query__clear fuel q l = some (clearR q l) := by
 unfold fog_query__clear clearR
 refine Wp.eq (wp_bindE (fview_eq fuel q l hf) ?_)
 refine wp_ifn (fun h => ?_) (fun h => ?_)
 · rw [if_pos h]; exact wp_some rfl
 · rw [if_neg (by simp [h])]
   refine wp_bindE (fpair_eq _ (Nat.le_trans (viewR_le q l) (by omega))) ?_
   rw [pairR_two]
   refine wp_bif (fun h2 => ?_) (fun h2 => ?_)
   · rw [if_pos h2]; exact wp_some rfl
   · rw [if_neg (by simp [h2])]; exact wp_some rfl
theorem clearR_ok {q : fog_query} {l : List Report} (h : RepsOk l) (ha : argOk q) (hd : dayOk q.night q.moment) :
   clearR q l = if (pairL (seeL l q.district q.night q.moment)).isSome then ([], 52) else (seeL l q.district q.night q.moment, 0) := by
 have e : viewR q l = (seeL l q.district q.night q.moment, 0) := by
   unfold viewR; rw [if_neg (by simp [h]), if_neg (by simp [ha]), if_neg (by simp [hd])]
 unfold clearR
 rw [e, if_neg (by simp)]
def foggyL (v : List Report) (lim : Int) (lo : Int) : Nat → Int
 | 0 => 0
 | n + 1 => if (sightL v lo).Hi < lim then 1 else
   if foggyL v lim (lo + 1) n = 1 then 1 else if lim ≤ (sightL v lo).Lo ∧ foggyL v lim (lo + 1) n = 0 then 0 else 2
theorem foggyL_vals (v : List Report) (lim : Int) : ∀ (n : Nat) (lo : Int), foggyL v lim lo n = 0 ∨ foggyL v lim lo n = 1 ∨ foggyL v lim lo n = 2
 | 0, _ => .inl rfl
 | n + 1, lo => by
   unfold foggyL
   split
   · exact .inr (.inl rfl)
   · split
     · exact .inr (.inl rfl)
     · split
       · exact .inl rfl
       · exact .inr (.inr rfl)
theorem foggyL_yes (v : List Report) (lim : Int) : ∀ (n : Nat) (lo : Int), foggyL v lim lo n = 1 ↔ ∃ m : Int, lo ≤ m ∧ m < lo + n ∧ (sightL v m).Hi < lim
 | 0, lo => ⟨fun h => (by cases h), fun ⟨m, h1, h2, _⟩ => (by omega)⟩
 | n + 1, lo => by
   have ih := foggyL_yes v lim n (lo + 1)
   unfold foggyL
   constructor
   · intro h
     split at h
     · rename_i h0; exact ⟨lo, by omega, by omega, h0⟩
     · split at h
       · rename_i h1
         obtain ⟨m, a, b, c⟩ := ih.1 h1
         exact ⟨m, by omega, by omega, c⟩
       · split at h <;> cases h
   · rintro ⟨m, a, b, c⟩
     by_cases e : m = lo
     · subst e; rw [if_pos c]
     · split
       · rfl
       · rw [if_pos (ih.2 ⟨m, by omega, by omega, c⟩)]
theorem foggyL_no (v : List Report) (lim : Int) : ∀ (n : Nat) (lo : Int), foggyL v lim lo n = 0 ↔ ∀ m : Int, lo ≤ m → m < lo + n → lim ≤ (sightL v m).Hi ∧ lim ≤ (sightL v m).Lo
 | 0, lo => ⟨fun _ m h1 h2 => (by omega), fun _ => rfl⟩
 | n + 1, lo => by
   have ih := foggyL_no v lim n (lo + 1)
   unfold foggyL
   constructor
   · intro h
     split at h
     · cases h
     · split at h
       · cases h
       · split at h
         · rename_i h0 _ h1
           intro m a b
           by_cases e : m = lo
           · subst e; exact ⟨by omega, h1.1⟩
           · exact ih.1 h1.2 m (by omega) (by omega)
         · cases h
   · intro h
     have h0 := h lo (by omega) (by omega)
     have h1 := ih.2 (fun m a b => h m (by omega) (by omega))
     rw [if_neg (by omega), if_neg (by omega), if_pos ⟨h0.2, h1⟩]
def foggyR (v : List Report) (lim out lo : Int) (n : Nat) : Int := if foggyL v lim lo n = 1 then 1 else if foggyL v lim lo n = 0 then out else 2
theorem foggy_loop (v : List Report) (lim hi : Int) (fuel : Nat) (K : Int → Option (Int × Int)) (Q : Int × Int → Prop) (out0 lo0 : Int) (n0 : Nat) (hf : n0 < fuel) (hn : lo0 + n0 = hi + 1) (hlo : -9223372036854775808 ≤ lo0) (hhi : hi < 9223372036854775807) (ho : out0 = 0 ∨ out0 = 2)
   (hK : Wp (K (foggyR v lim out0 lo0 n0)) Q) :
     Wp (loopGo (fun (s5 : Int × Int) k5 => (bif (decide (s5.2 ≤ hi)) then bindO (fog_view__sight v s5.2) fun y7 => (bif (decide ((fog_below y7 lim) = 1)) then K 1 else (bif (decide ((fog_below y7 lim) = 2)) then must (inI (s5.2 + 1)) <| k5 (2, (s5.2 + 1)) else must (inI (s5.2 + 1)) <| k5 (s5.1, (s5.2 + 1)))) else K s5.1)) fuel (out0, lo0)) Q := by
 refine wp_loop (fun s => ∃ n : Nat, s.2 + n = hi + 1 ∧ lo0 ≤ s.2 ∧ (s.1 = 0 ∨ s.1 = 2) ∧ foggyR v lim s.1 s.2 n = foggyR v lim out0 lo0 n0) (fun s => (hi + 1 - s.2).toNat) (by simp only; omega) ⟨n0, hn, Int.le_refl _, ho, rfl⟩ ?_
 rintro ⟨out, lo⟩ K5 ⟨n, h1, h2, h3, h4⟩ hK5
 simp only at h1 h2 h3 h4 hK5 ⊢
 refine wp_ifd (fun hle => ?_) (fun hgt => ?_)
 · obtain ⟨n, rfl⟩ : ∃ k, n = k + 1 := ⟨n - 1, by omega⟩
   refine wp_bindE (fsight_eq v lo) ?_
   have hb : (fog_below (sightL v lo) lim = 1 ∧ (sightL v lo).Hi < lim) ∨ (fog_below (sightL v lo) lim = 0 ∧ ¬ (sightL v lo).Hi < lim ∧ lim ≤ (sightL v lo).Lo) ∨ (fog_below (sightL v lo) lim = 2 ∧ ¬ (sightL v lo).Hi < lim ∧ ¬ lim ≤ (sightL v lo).Lo) := by
     unfold fog_below
     by_cases a : (sightL v lo).Hi < lim
     · rw [decide_eq_true a]; exact .inl ⟨rfl, a⟩
     · by_cases b : lim ≤ (sightL v lo).Lo
       · rw [decide_eq_false a, decide_eq_true b]; exact .inr (.inl ⟨rfl, a, b⟩)
       · rw [decide_eq_false a, decide_eq_false b]; exact .inr (.inr ⟨rfl, a, b⟩)
   have hv := foggyL_vals v lim n (lo + 1)
   rcases hb with ⟨e, a⟩ | ⟨e, a, b⟩ | ⟨e, a, b⟩
   · rw [e]
     refine wp_true (by decide) ?_
     have : foggyR v lim out0 lo0 n0 = 1 := by rw [← h4]; unfold foggyR foggyL; rw [if_pos a]; rfl
     rw [this] at hK; exact hK
   · rw [e]
     refine wp_false (by decide) (wp_false (by decide) (wp_mustI (by omega) (hK5 _ ⟨n, by simp only; omega, by simp only; omega, h3, ?_⟩ (by simp only; omega))))
     rw [← h4]
     unfold foggyR
     conv => rhs; unfold foggyL
     rw [if_neg a]
     rcases hv with h | h | h <;> simp [h, b]
   · rw [e]
     refine wp_false (by decide) (wp_true (by decide) (wp_mustI (by omega) (hK5 _ ⟨n, by simp only; omega, by simp only; omega, .inr rfl, ?_⟩ (by simp only; omega))))
     rw [← h4]
     unfold foggyR
     conv => rhs; unfold foggyL
     rw [if_neg a]
     rcases hv with h | h | h <;> simp [h, b]
 · have : n = 0 := by omega
   subst this
   have : foggyR v lim out0 lo0 n0 = out := by rw [← h4]; rfl
   rw [this] at hK; exact hK
def span (t : Range) : Nat := (t.Hi + 1 - t.Lo).toNat
theorem fFoggy_eq (fuel : Nat) (l : List Report) (d n : Int) (t : Range) (lim m : Int) (hf : 1441 < fuel) : fog_Foggy fuel l d n t lim m =
   some (if (clearR ⟨d, n, m, 0, t, lim⟩ l).2 ≠ 0 then (0, (clearR ⟨d, n, m, 0, t, lim⟩ l).2) else (foggyL (clearR ⟨d, n, m, 0, t, lim⟩ l).1 lim t.Lo (span t), 0)) := by
 unfold fog_Foggy
 refine Wp.eq (wp_bindE (fclear_eq fuel _ l (by omega)) ?_)
 refine wp_ifn (fun h => ?_) (fun h => ?_)
 · rw [if_pos h]; exact wp_some rfl
 · rw [if_neg (by simp [h])]
   have hq : argOk ⟨d, n, m, 0, t, lim⟩ := by
     refine Classical.byContradiction (fun hn => ?_)
     unfold clearR viewR at h
     by_cases h0 : RepsOk l
     · rw [if_neg (by simp [h0] : ¬ ¬ RepsOk l), if_pos hn] at h
       simp at h
     · rw [if_pos h0] at h
       simp at h
   obtain ⟨_, _, _, _, h5, h6, h7, _⟩ := hq
   simp only at h5 h6 h7
   refine wp_joinU (foggy_loop _ lim t.Hi fuel (fun s4 => some (s4, 0)) _ 0 t.Lo (span t) (by unfold span; omega) (by unfold span; omega) (by omega) (by omega) (.inl rfl) (wp_some ?_))
   unfold foggyR
   rcases foggyL_vals (clearR ⟨d, n, m, 0, t, lim⟩ l).1 lim (span t) t.Lo with h | h | h <;> simp [h]
def worstL (v : List Report) (r : Range) (lo : Int) : Nat → Range
 | 0 => r
 | n + 1 => worstL v ⟨min r.Lo (sightL v lo).Lo, min r.Hi (sightL v lo).Hi⟩ (lo + 1) n
theorem worst_loop (v : List Report) (hi : Int) (fuel : Nat) (r0 : Range) (lo0 : Int) (n0 : Nat) (hf : n0 < fuel) (hn : lo0 + n0 = hi + 1) (hlo : -9223372036854775808 ≤ lo0) (hhi : hi < 9223372036854775807) :
     (loopGo (fun (s7 : Int × Range) k7 => (bif (decide (s7.1 ≤ hi)) then bindO (fog_view__sight v s7.1) fun y9 => must (inI (s7.1 + 1)) <| k7 ((s7.1 + 1), (⟨(min s7.2.Lo y9.Lo), (min s7.2.Hi y9.Hi)⟩ : Range)) else some (s7.2, 0))) fuel (lo0, r0)) = some (worstL v r0 lo0 n0, (0 : Int)) := by
 refine (wp_loop (P := fun r => r = (worstL v r0 lo0 n0, (0 : Int))) (fun s => ∃ n : Nat, s.1 + n = hi + 1 ∧ lo0 ≤ s.1 ∧ worstL v s.2 s.1 n = worstL v r0 lo0 n0) (fun s => (hi + 1 - s.1).toNat) (by simp only; omega) ⟨n0, hn, Int.le_refl _, rfl⟩ ?_).eq
 rintro ⟨lo, r⟩ K ⟨n, h1, h2, h4⟩ hK
 simp only at h1 h2 h4 hK ⊢
 refine wp_ifd (fun hle => ?_) (fun hgt => ?_)
 · obtain ⟨n, rfl⟩ : ∃ k, n = k + 1 := ⟨n - 1, by omega⟩
   refine wp_bindE (fsight_eq v lo) (wp_mustI (by omega) (hK _ ⟨n, by simp only; omega, by simp only; omega, ?_⟩ (by simp only; omega)))
   rw [← h4]; rfl
 · have : n = 0 := by omega
   subst this
   exact wp_some (by rw [← h4]; rfl)
theorem fWorst_eq (fuel : Nat) (l : List Report) (d n : Int) (t : Range) (m : Int) (hf : 1441 < fuel) : fog_Worst fuel l d n t m =
   some (if (clearR ⟨d, n, m, 0, t, 1⟩ l).2 ≠ 0 then (⟨0, 0⟩, (clearR ⟨d, n, m, 0, t, 1⟩ l).2) else (worstL (clearR ⟨d, n, m, 0, t, 1⟩ l).1 (sightL (clearR ⟨d, n, m, 0, t, 1⟩ l).1 t.Lo) (t.Lo + 1) (span t - 1), 0)) := by
 unfold fog_Worst
 refine Wp.eq (wp_bindE (fclear_eq fuel _ l (by omega)) ?_)
 refine wp_ifn (fun h => ?_) (fun h => ?_)
 · rw [if_pos h]; exact wp_some rfl
 · rw [if_neg (by simp [h])]
   have hq : argOk ⟨d, n, m, 0, t, 1⟩ := by
     refine Classical.byContradiction (fun hn => ?_)
     unfold clearR viewR at h
     by_cases h0 : RepsOk l
     · rw [if_neg (by simp [h0] : ¬ ¬ RepsOk l), if_pos hn] at h
       simp at h
     · rw [if_pos h0] at h
       simp at h
   obtain ⟨_, _, _, _, h5, h6, h7, _⟩ := hq
   simp only at h5 h6 h7
   refine wp_bindE (fsight_eq _ _) (wp_mustI (by omega) ?_)
   exact Wp.of_eq (worst_loop _ t.Hi fuel _ (t.Lo + 1) (span t - 1) (by unfold span; omega) (by unfold span; omega) (by omega) (by omega)) rfl
theorem worstL_r (v : List Report) : ∀ (n : Nat) (r : Range) (lo : Int), (worstL v r lo n).Lo ≤ r.Lo ∧ (worstL v r lo n).Hi ≤ r.Hi
 | 0, r, lo => ⟨Int.le_refl _, Int.le_refl _⟩
 | n + 1, r, lo => by
   obtain ⟨a, b⟩ := worstL_r v n ⟨min r.Lo (sightL v lo).Lo, min r.Hi (sightL v lo).Hi⟩ (lo + 1)
   have e : worstL v r lo (n + 1) = worstL v ⟨min r.Lo (sightL v lo).Lo, min r.Hi (sightL v lo).Hi⟩ (lo + 1) n := rfl
   rw [e]
   simp only at a b
   exact ⟨Int.le_trans a (Int.min_le_left _ _), Int.le_trans b (Int.min_le_left _ _)⟩
theorem worstL_m (v : List Report) : ∀ (n : Nat) (r : Range) (lo m : Int), lo ≤ m → m < lo + n → (worstL v r lo n).Lo ≤ (sightL v m).Lo ∧ (worstL v r lo n).Hi ≤ (sightL v m).Hi
 | 0, r, lo, m, h1, h2 => by omega
 | n + 1, r, lo, m, h1, h2 => by
   have e : worstL v r lo (n + 1) = worstL v ⟨min r.Lo (sightL v lo).Lo, min r.Hi (sightL v lo).Hi⟩ (lo + 1) n := rfl
   rw [e]
   by_cases em : m = lo
   · subst em
     obtain ⟨a, b⟩ := worstL_r v n ⟨min r.Lo (sightL v m).Lo, min r.Hi (sightL v m).Hi⟩ (m + 1)
     simp only at a b
     exact ⟨Int.le_trans a (Int.min_le_right _ _), Int.le_trans b (Int.min_le_right _ _)⟩
   · exact worstL_m v n _ (lo + 1) m (by omega) (by omega)
theorem worstL_at (v : List Report) : ∀ (n : Nat) (r : Range) (lo : Int), (worstL v r lo n).Hi = r.Hi ∨ ∃ m : Int, lo ≤ m ∧ m < lo + n ∧ (worstL v r lo n).Hi = (sightL v m).Hi
 | 0, r, lo => .inl rfl
 | n + 1, r, lo => by
   have e : worstL v r lo (n + 1) = worstL v ⟨min r.Lo (sightL v lo).Lo, min r.Hi (sightL v lo).Hi⟩ (lo + 1) n := rfl
   rw [e]
   rcases worstL_at v n ⟨min r.Lo (sightL v lo).Lo, min r.Hi (sightL v lo).Hi⟩ (lo + 1) with c | ⟨m, c1, c2, c3⟩
   · simp only at c
     by_cases h : r.Hi ≤ (sightL v lo).Hi
     · exact .inl (c.trans (Int.min_eq_left h))
     · exact .inr ⟨lo, Int.le_refl _, by omega, c.trans (Int.min_eq_right (by omega))⟩
   · exact .inr ⟨m, by omega, by omega, c3⟩
theorem fSight_eq (fuel : Nat) (l : List Report) (d n mi m : Int) (hf : 60 < fuel) : fog_Sight fuel l d n mi m =
   some (if (clearR ⟨d, n, m, mi, ⟨0, 0⟩, 1⟩ l).2 ≠ 0 then (⟨0, 0⟩, (clearR ⟨d, n, m, mi, ⟨0, 0⟩, 1⟩ l).2) else (sightL (clearR ⟨d, n, m, mi, ⟨0, 0⟩, 1⟩ l).1 mi, 0)) := by
 unfold fog_Sight
 refine Wp.eq (wp_bindE (fclear_eq fuel _ l hf) ?_)
 refine wp_ifn (fun h => ?_) (fun h => ?_)
 · rw [if_pos h]; exact wp_some rfl
 · rw [if_neg (by simp [h])]
   exact wp_bindE (fsight_eq _ _) (wp_some rfl)
theorem foldl_nar {s : Int} : ∀ (l : List Report) (r : Range), r.Lo ≤ s → s ≤ r.Hi → (∀ x ∈ l, x.Sight.Lo ≤ s ∧ s ≤ x.Sight.Hi) → (l.foldl nar r).Lo ≤ s ∧ s ≤ (l.foldl nar r).Hi
 | [], r, h1, h2, _ => ⟨h1, h2⟩
 | x :: l, r, h1, h2, h => by
   have hx := h x List.mem_cons_self
   refine foldl_nar l (nar r x) ?_ ?_ (fun y hy => h y (List.mem_cons_of_mem _ hy))
   · unfold nar; simp only; omega
   · unfold nar; simp only; omega
theorem sightL_true {v : List Report} {m s : Int} (h0 : 0 ≤ s) (h1 : s ≤ 5000) (h : ∀ x ∈ v, x.From ≤ m → m ≤ x.To → x.Sight.Lo ≤ s ∧ s ≤ x.Sight.Hi) : (sightL v m).Lo ≤ s ∧ s ≤ (sightL v m).Hi := by
 refine foldl_nar _ _ h0 h1 (fun x hx => ?_)
 obtain ⟨a, b⟩ := List.mem_filter.1 hx
 have := fwithin_iff.1 b
 exact h x a this.1 this.2
theorem foldl_nar_mono : ∀ (l : List Report) (r r' : Range), r'.Lo ≤ r.Lo → r.Hi ≤ r'.Hi → (l.foldl nar r').Lo ≤ (l.foldl nar r).Lo ∧ (l.foldl nar r).Hi ≤ (l.foldl nar r').Hi
 | [], r, r', h1, h2 => ⟨h1, h2⟩
 | x :: l, r, r', h1, h2 => by
   refine foldl_nar_mono l (nar r x) (nar r' x) ?_ ?_
   · unfold nar; simp only; omega
   · unfold nar; simp only; omega
theorem sightL_drop (x : Report) (v : List Report) (m : Int) : (sightL v m).Lo ≤ (sightL (x :: v) m).Lo ∧ (sightL (x :: v) m).Hi ≤ (sightL v m).Hi := by
 unfold sightL
 rw [List.filter_cons]
 split
 · rw [List.foldl_cons]
   refine foldl_nar_mono _ _ _ ?_ ?_
   · unfold nar; simp only; omega
   · unfold nar; simp only; omega
 · exact ⟨Int.le_refl _, Int.le_refl _⟩
end Go.Sp
end
/- Plain laws, TopFog: the made reports are true, and what is told of them. No program in sight. -/
section
set_option linter.all false
namespace Go.Sp
open Go.Av
set_option maxRecDepth 100000
theorem mod1_eq (n : Int) {m : Int} (h0 : 0 < m) (h1 : m ≤ 1000000000000000000) : ∃ y, gasolierref01_Mod n m = some y ∧ 0 ≤ y ∧ y < m := by
 unfold gasolierref01_Mod
 have a1 := Int.tmod_lt_of_pos n h0
 have a2 : -m < Int.tmod n m := Int.lt_tmod_of_pos n h0
 rw [must_yes (by omega), must_yes (by unfold inI; omega), must_yes (by omega)]
 refine ⟨_, rfl, ?_, Int.tmod_lt_of_pos _ h0⟩
 exact Int.tmod_nonneg _ (by omega)
theorem sightOf_eq (x : gasoliertop_Mist) (hx : x.Sights.length ≤ 1000000000000000000) (m : Int) (hm : -100000 ≤ m ∧ m ≤ 100000) : ∃ s, gasoliertop_sightOf x m = some s ∧ 0 ≤ s ∧ s < 400 := by
 unfold gasoliertop_sightOf gasolierref01_Pick
 have hd : -100000 ≤ Int.tdiv m 10 ∧ Int.tdiv m 10 ≤ 100000 := by
   rcases Int.le_total 0 m with h | h
   · rw [Int.tdiv_eq_ediv_of_nonneg h]; omega
   · obtain ⟨k, rfl⟩ : ∃ k, m = -k := ⟨-m, by omega⟩
     rw [Int.neg_tdiv, Int.tdiv_eq_ediv_of_nonneg (by omega)]; omega
 rw [must_yes (by unfold inI; omega)]
 by_cases h : (x.Sights.length : Int) = 0
 · rw [decide_eq_true h]
   simp only [cond_true, bindO]
   obtain ⟨y, e, h1, h2⟩ := mod1_eq 0 (m := 400) (by omega) (by omega)
   rw [e]; exact ⟨y, rfl, h1, h2⟩
 · rw [decide_eq_false h]
   simp only [cond_false]
   obtain ⟨y, e, h1, h2⟩ := mod1_eq (Int.tdiv m 10) (m := (x.Sights.length : Int)) (by omega) (by omega)
   rw [e]
   simp only [bindO]
   rw [must_yes (by omega)]
   simp only []
   obtain ⟨y, e, h1, h2⟩ := mod1_eq (x.Sights.getD y.toNat default) (m := 400) (by omega) (by omega)
   rw [e]; exact ⟨y, rfl, h1, h2⟩
def st (x : gasoliertop_Mist) (m : Int) : Int := (gasoliertop_sightOf x m).getD 0
theorem st_eq (x : gasoliertop_Mist) (hx : x.Sights.length ≤ 1000000000000000000) (m : Int) (hm : -100000 ≤ m ∧ m ≤ 100000) : gasoliertop_sightOf x m = some (st x m) ∧ 0 ≤ st x m ∧ st x m < 400 := by
 obtain ⟨s, e, h1, h2⟩ := sightOf_eq x hx m hm
 unfold st; rw [e]; exact ⟨rfl, h1, h2⟩
structure TrueOk (x : gasoliertop_Mist) (i : Nat) (r : Report) : Prop where
 src : r.Source = 1 + (i : Int)
 dist : r.District = 1
 night : r.Night = 7
 from_ : 250 ≤ r.From ∧ r.From ≤ 1049
 to_ : r.From ≤ r.To ∧ r.To ≤ 1108
 lo : 0 ≤ r.Sight.Lo
 hi : r.Sight.Hi ≤ 5000
 lh : r.Sight.Lo ≤ r.Sight.Hi
 true_ : ∀ m : Int, r.From ≤ m → m ≤ r.To → r.Sight.Lo ≤ st x m ∧ st x m ≤ r.Sight.Hi
 known : r.Known = 0
 till : r.Until = 0
theorem reportsOf_wp (fuel : Nat) (hf : 2000 < fuel) (x : gasoliertop_Mist) (hx : x.Sights.length ≤ 1000000000000000000) : Wp (gasoliertop_reportsOf fuel x) (fun l => l.length ≤ 8 ∧ ∀ i, i < l.length → TrueOk x i (rp l i)) := by
 unfold gasoliertop_reportsOf
 refine wp_for 8 (by omega) (fun i l => l.length = i ∧ ∀ j, j < i → TrueOk x j (rp l j)) ⟨rfl, fun j hj => by omega⟩ (fun i l K hi hI hK => ?_)
 obtain ⟨hlen, hall⟩ := hI
 simp only at hK ⊢
 refine wp_if (p := (i : Int) < (x.Reports.length : Int) ∧ (i : Int) < 8) (by simp) (fun h => ?_) (fun h => wp_some ⟨by omega, fun j hj => hall j (by omega)⟩)
 refine wp_must (by omega) (wp_mustI (by omega) ?_)
 obtain ⟨a, e1, a1, a2⟩ := mod1_eq ((x.Reports.getD (i : Int).toNat default).x0) (m := 800) (by omega) (by omega)
 obtain ⟨b, e2, b1, b2⟩ := mod1_eq ((x.Reports.getD (i : Int).toNat default).x1) (m := 60) (by omega) (by omega)
 obtain ⟨c, e3, c1, c2⟩ := mod1_eq ((x.Reports.getD (i : Int).toNat default).x2) (m := 90) (by omega) (by omega)
 obtain ⟨d, e4, d1, d2⟩ := mod1_eq ((x.Reports.getD (i : Int).toNat default).x3) (m := 90) (by omega) (by omega)
 refine wp_bindE e1 (wp_mustI (by omega) (wp_bindE e2 (wp_mustI (by omega) ?_)))
 refine wp_loop (fun s => 250 + a ≤ s.1 ∧ s.1 ≤ 250 + a + b + 1 ∧ s.2.Source = 1 + (i : Int) ∧ s.2.District = 1 ∧ s.2.Night = 7 ∧ s.2.From = 250 + a ∧ s.2.To = 250 + a + b ∧ s.2.Known = 0 ∧ s.2.Until = 0 ∧
     0 ≤ s.2.Sight.Lo ∧ s.2.Sight.Lo ≤ 5000 ∧ 0 ≤ s.2.Sight.Hi ∧ s.2.Sight.Hi ≤ 400 ∧ (s.1 = 250 + a ∨ s.2.Sight.Lo ≤ s.2.Sight.Hi) ∧ ∀ m : Int, 250 + a ≤ m → m < s.1 → s.2.Sight.Lo ≤ st x m ∧ st x m ≤ s.2.Sight.Hi)
   (fun s => (250 + a + b + 1 - s.1).toNat) (by simp only; omega) ⟨by simp, by simp only; omega, rfl, rfl, rfl, rfl, rfl, rfl, rfl, by simp, by simp, by simp, by simp, .inl rfl, fun m h1 h2 => by simp only at h2; omega⟩ ?_
 rintro ⟨m0, r⟩ K2 ⟨p1, p2, p3, p4, p5, p6, p7, p8, p9, p10, p11, p12, p13, p14, p15⟩ hK2
 simp only at p1 p2 p3 p4 p5 p6 p7 p8 p9 p10 p11 p12 p13 p14 p15 hK2 ⊢
 refine wp_ifd (fun hle => ?_) (fun hgt => ?_)
 · obtain ⟨q1, q2, q3⟩ := st_eq x hx m0 (by omega)
   refine wp_bindE q1 (wp_mustI (by omega) (hK2 _ ⟨by simp only; omega, by simp only; omega, p3, p4, p5, p6, p7, p8, p9, by simp only; omega, by simp only; omega, by simp only; omega, by simp only; omega, .inr (by simp only; omega), fun m h1 h2 => ?_⟩ (by simp only; omega)))
   simp only at h2 ⊢
   by_cases em : m = m0
   · subst em; omega
   · have := p15 m h1 (by omega); omega
 · refine wp_bindE e3 (wp_mustI (by omega) (wp_bindE e4 (wp_mustI (by omega) (wp_mustR (by simp; omega) (wp_mustI (by omega) (hK _ (by omega) ⟨by simp [hlen], fun j hj => ?_⟩))))))
   unfold rp
   rw [getD_snoc]
   split
   · rename_i hjl
     refine ⟨by simp only; omega, p4, p5, by simp only; omega, by simp only; omega, by simp only; omega, by simp only; omega, by simp only; omega, fun m h1 h2 => ?_, p8, p9⟩
     simp only at h1 h2 ⊢
     have := p15 m (by omega) (by omega)
     omega
   · exact hall j (by omega)
theorem made_ok {x : gasoliertop_Mist} {l : List Report} (hl : l.length ≤ 8) (h : ∀ i, i < l.length → TrueOk x i (rp l i)) : RepsOk l := by
 refine ⟨by omega, fun i hi => ?_⟩
 have T := h i hi
 refine ⟨⟨by rw [T.src]; omega, by rw [T.dist]; omega, by rw [T.night]; omega, ?_, ?_, by rw [T.known]; omega, .inl T.till⟩, fun h0 => ?_⟩
 · have := T.from_; have := T.to_; omega
 · have := T.lo; have := T.hi; have := T.lh; omega
 · have T' := h (i - 1) (by omega)
   rw [T.src, T'.src]; omega
theorem made_see {x : gasoliertop_Mist} {l : List Report} (h : ∀ i, i < l.length → TrueOk x i (rp l i)) : seeL l 1 7 99 = l := by
 refine List.filter_eq_self.2 (fun r hr => ?_)
 obtain ⟨i, hi, rfl⟩ := mem_getD hr
 have T := h i hi
 unfold rp at T
 unfold seen fog_counts
 rw [T.dist, T.night, T.known, T.till]; decide
theorem made_pair {x : gasoliertop_Mist} {l : List Report} (h : ∀ r ∈ l, ∀ m : Int, r.From ≤ m → m ≤ r.To → r.Sight.Lo ≤ st x m ∧ st x m ≤ r.Sight.Hi) (h2 : ∀ r ∈ l, r.From ≤ r.To) : pairL l = none := by
 rw [pairL_none]
 refine List.Pairwise.imp_of_mem (R := fun _ _ => True) (fun {a b} ha hb _ => ?_) (List.pairwise_of_forall (fun _ _ => trivial))
 unfold fog_clash
 have a1 := h a ha; have b1 := h b hb
 have a2 := h2 a ha; have b2 := h2 b hb
 by_cases hm : a.From ≤ b.To ∧ b.From ≤ a.To
 · obtain ⟨m, m1, m2, m3, m4⟩ : ∃ m : Int, a.From ≤ m ∧ m ≤ a.To ∧ b.From ≤ m ∧ m ≤ b.To := by
     by_cases hc : a.From ≤ b.From
     · exact ⟨b.From, by omega, by omega, by omega, by omega⟩
     · exact ⟨a.From, by omega, by omega, by omega, by omega⟩
   have := a1 m m1 m2; have := b1 m m3 m4
   rw [decide_eq_true hm.1, decide_eq_true hm.2, decide_eq_false (by omega), decide_eq_false (by omega)]; rfl
 · by_cases h1 : a.From ≤ b.To
   · rw [decide_eq_false (p := b.From ≤ a.To) (by omega)]; simp
   · rw [decide_eq_false h1]; simp
abbrev lawB (a b c : Int) : Bylaw := ⟨([(⟨1, 1, 0, (⟨5, a⟩ : Range), (⟨5, 50⟩ : Range), b, c, 0, 0⟩ : Version)] : List Version), ([(⟨1, 1, 1, 1, 1⟩ : Street)] : List Street)⟩
abbrev lawV (a b c : Int) : Version := ⟨1, 1, 0, (⟨5, a⟩ : Range), (⟨5, 50⟩ : Range), b, c, 0, 0⟩
theorem bcheck_ok {a b c : Int} (ha : 5 ≤ a ∧ a ≤ 600) (hb : 0 ≤ b ∧ b ≤ 1001) (hc : 0 ≤ c ∧ c ≤ 600) : bylaw_Check (lawB a b c) = some 0 := by
 have hv : bylaw_CheckVersion (lawV a b c) = some 0 := by
   unfold bylaw_CheckVersion
   have e1 : bylaw_isRange (⟨5, a⟩ : Range) 600 = true := by simp [bylaw_isRange]; omega
   have e2 : bylaw_in b 0 1001 = true := by simp [bylaw_in]; omega
   have e3 : bylaw_in c 0 600 = true := by simp [bylaw_in]; omega
   rw [must_yes (by intro h; simp at h)]
   simp only [e1, e2, e3]
   rfl
 have hs : bylaw_CheckStreet (⟨1, 1, 1, 1, 1⟩ : Street) = some 0 := by rfl
 unfold bylaw_Check
 have h1 : bylaw_areAll_Version (lawB a b c).Versions 60 (fun x0 => bylaw_CheckVersion x0) (fun x0 => some (bylaw_sourceOf x0)) = some true := by
   unfold bylaw_areAll_Version
   show (bindO (bylaw_CheckVersion (lawV a b c)) _ : Option Bool) = _
   rw [hv]; rfl
 refine Wp.eq (wp_bindE h1 ?_)
 exact Wp.of_eq rfl rfl
theorem bknown_eq (a b c : Int) (n : Night) (h : 0 ≤ n.No) : bylaw_known (lawB a b c) 1 n 9 = some ((⟨lawV a b c, n⟩ : bylaw_window), 0) := by
 unfold bylaw_known
 have h1 : bylaw_streetOf (lawB a b c) 1 = some ((⟨1, 1, 1, 1, 1⟩ : Street), 0) := rfl
 refine Wp.eq (wp_bindE h1 (wp_false (by decide) ?_))
 have h2 : bylaw_inForce (lawB a b c) 1 n.No 9 = some (lawV a b c, 0) := by
   unfold bylaw_inForce
   show (bif _ then _ else _) = _
   have : (decide ((0 : Int) ≤ n.No)) = true := decide_eq_true h
   simp [rangeGo, this]
 exact wp_bindE h2 (wp_some rfl)
theorem btrue_eq {a b c : Int} (ha : 5 ≤ a ∧ a ≤ 600) (hb : 0 ≤ b ∧ b ≤ 1001) (hc : 0 ≤ c ∧ c ≤ 600) (t : Truth) (u : Times) (ht : bylaw_isTruth t = true) (hu : bylaw_areTimes u = true) :
   bylaw_True (lawB a b c) 1 7 t u 9 = bindO (bylaw_lawful (lawV a b c) t u) fun y => some (y, 0) := by
 unfold bylaw_True
 rw [bcheck_ok ha hb hc]
 simp only [bindO]
 rw [ht, hu, bknown_eq _ _ _ _ (by decide)]
 rfl
theorem blook_eq {a b c : Int} (ha : 5 ≤ a ∧ a ≤ 600) (hb : 0 ≤ b ∧ b ≤ 1001) (hc : 0 ≤ c ∧ c ≤ 600) (n : Night) (hn : bylaw_CheckNight n = 0) (h0 : 0 ≤ n.No) :
   bylaw_look (lawB a b c) 1 n 9 = some ((⟨lawV a b c, n⟩ : bylaw_window), 0) := by
 unfold bylaw_look
 rw [bcheck_ok ha hb hc, hn, bknown_eq _ _ _ _ h0]
 rfl
end Go.Sp
end
/- Plain laws, TopFog: the law. No program in sight. -/
section
set_option linter.all false
namespace Go.Sp
open Go.Av
set_option maxRecDepth 100000
def onLo (F c : Int) : Int := max (309 - (if F = 1 then c else 0)) 0
def onHi (F a c : Int) : Int := min (300 + a - (if F = 1 then c else if F = 2 then c else 0)) 1439
def litF (F b : Int) : Int := if F = 1 ∨ 0 < b then 1 else if F = 0 ∧ b ≤ 0 then 0 else 2
abbrev nightF (F : Int) : Night := ⟨7, (⟨300, 304⟩ : Range), (⟨700, 705⟩ : Range), (⟨0, 0⟩ : Range), F⟩
theorem wlit_eq (a b c F : Int) : bylaw_window__lit ⟨lawV a b c, nightF F⟩ = litF F b := by
 unfold bylaw_window__lit litF
 by_cases h1 : F = 1 <;> by_cases h2 : 0 < b <;> by_cases h3 : F = 0 <;> by_cases h4 : b ≤ 0 <;> simp [h1, h2, h3, h4] <;> omega
theorem won_eq {a b c F : Int} (ha : 5 ≤ a ∧ a ≤ 600) (hc : 0 ≤ c ∧ c ≤ 600) : bylaw_window__on ⟨lawV a b c, nightF F⟩ = some ⟨onLo F c, onHi F a c⟩ := by
 have f1 : bylaw_window__fog ⟨lawV a b c, nightF F⟩ [1] = some (if F = 1 then c else 0) := by
   unfold bylaw_window__fog
   show (bif decide (F = 1) then _ else _) = _
   by_cases h : F = 1
   · rw [decide_eq_true h, if_pos h]; rfl
   · rw [decide_eq_false h, if_neg h]; rfl
 have f2 : bylaw_window__fog ⟨lawV a b c, nightF F⟩ [1, 2] = some (if F = 1 then c else if F = 2 then c else 0) := by
   unfold bylaw_window__fog
   show (bif decide (F = 1) then _ else (bif decide (F = 2) then _ else _)) = _
   by_cases h : F = 1
   · rw [decide_eq_true h, if_pos h]; rfl
   · rw [decide_eq_false h, if_neg h]
     by_cases h : F = 2
     · rw [decide_eq_true h, if_pos h]; rfl
     · rw [decide_eq_false h, if_neg h]; rfl
 have g1 : 0 ≤ (if F = 1 then c else 0) ∧ (if F = 1 then c else 0) ≤ 600 := by split <;> omega
 have g2 : 0 ≤ (if F = 1 then c else if F = 2 then c else 0) ∧ (if F = 1 then c else if F = 2 then c else 0) ≤ 600 := by
   split
   · omega
   · split <;> omega
 unfold bylaw_window__on
 refine Wp.eq (wp_mustI (by simp only; omega) (wp_bindE f1 (wp_mustI (by simp only; omega) (wp_mustI (by simp only; omega) (wp_bindE f2 (wp_mustI (by simp only; omega) (wp_some ?_)))))))
 unfold bylaw_clip onLo onHi
 simp only
 rfl
theorem woff_eq (a b c F : Int) : bylaw_window__off ⟨lawV a b c, nightF F⟩ = some ⟨655, 695⟩ := rfl
def onE (F a b c : Int) : Range × Int := if litF F b = 0 then (⟨0, 0⟩, 18) else if onHi F a c < onLo F c then (⟨0, 0⟩, 16) else (⟨onLo F c, onHi F a c⟩, 0)
theorem wmin_on {a b c F : Int} (ha : 5 ≤ a ∧ a ≤ 600) (hc : 0 ≤ c ∧ c ≤ 600) : bylaw_window__minutes ⟨lawV a b c, nightF F⟩ (bylaw_window__on ⟨lawV a b c, nightF F⟩) = some (onE F a b c) := by
 unfold bylaw_window__minutes onE
 rw [wlit_eq, won_eq ha hc]
 by_cases h : litF F b = 0
 · rw [decide_eq_true h, if_pos h]; rfl
 · rw [decide_eq_false h, if_neg h]
   simp only [cond_false, bindO]
   by_cases h2 : onHi F a c < onLo F c
   · rw [decide_eq_true h2, if_pos h2]; rfl
   · rw [decide_eq_false h2, if_neg h2]; rfl
theorem checkN {F : Int} (hF : 0 ≤ F ∧ F ≤ 2) : bylaw_CheckNight (nightF F) = 0 := by
 unfold bylaw_CheckNight
 have e : bylaw_in F 0 2 = true := by simp [bylaw_in]; omega
 simp only [e]; rfl
theorem bon_eq {a b c F : Int} (ha : 5 ≤ a ∧ a ≤ 600) (hb : 0 ≤ b ∧ b ≤ 1001) (hc : 0 ≤ c ∧ c ≤ 600) (hF : 0 ≤ F ∧ F ≤ 2) : bylaw_On (lawB a b c) 1 (nightF F) 9 = some (onE F a b c) := by
 unfold bylaw_On
 rw [blook_eq ha hb hc _ (checkN hF) (show (0 : Int) ≤ 7 by decide)]
 simp only [bindO]
 rw [wmin_on ha hc]
 rfl
theorem blit_eq {a b c F : Int} (ha : 5 ≤ a ∧ a ≤ 600) (hb : 0 ≤ b ∧ b ≤ 1001) (hc : 0 ≤ c ∧ c ≤ 600) (hF : 0 ≤ F ∧ F ≤ 2) : bylaw_Lit (lawB a b c) 1 (nightF F) 9 = some (litF F b, 0) := by
 unfold bylaw_Lit
 rw [blook_eq ha hb hc _ (checkN hF) (show (0 : Int) ≤ 7 by decide)]
 simp only [bindO]
 rw [wlit_eq]
 rfl
theorem bduty_eq {a b c F : Int} (ha : 5 ≤ a ∧ a ≤ 600) (hb : 0 ≤ b ∧ b ≤ 1001) (hc : 0 ≤ c ∧ c ≤ 600) (hF : 0 ≤ F ∧ F ≤ 2) : bylaw_Duty (lawB a b c) 1 (nightF F) 9 =
   some (if litF F b = 0 then (⟨0, ⟨0, 0⟩, ⟨0, 0⟩⟩, 0) else if onHi F a c < onLo F c then (⟨0, ⟨0, 0⟩, ⟨0, 0⟩⟩, 16) else (⟨litF F b, ⟨onLo F c, onHi F a c⟩, ⟨655, 695⟩⟩, 0)) := by
 unfold bylaw_Duty
 refine Wp.eq (wp_bindE (blook_eq ha hb hc _ (checkN hF) (show (0 : Int) ≤ 7 by decide)) (wp_false (by simp) ?_))
 simp only
 refine wp_bindE (v := if litF F b = 0 then (⟨0, ⟨0, 0⟩, ⟨0, 0⟩⟩, 0) else if onHi F a c < onLo F c then (⟨0, ⟨0, 0⟩, ⟨0, 0⟩⟩, 16) else (⟨litF F b, ⟨onLo F c, onHi F a c⟩, ⟨655, 695⟩⟩, 0)) ?_ (wp_some rfl)
 unfold bylaw_window__duty
 rw [wlit_eq, wmin_on ha hc]
 unfold onE
 by_cases h : litF F b = 0
 · rw [decide_eq_true h, if_pos h, if_pos h]; rfl
 · rw [decide_eq_false h, if_neg h, if_neg h]
   simp only [cond_false]
   by_cases h2 : onHi F a c < onLo F c
   · rw [if_pos h2, if_pos h2]; rfl
   · rw [if_neg h2, if_neg h2]
     have e2 : bylaw_window__minutes ⟨lawV a b c, nightF F⟩ (bylaw_window__off ⟨lawV a b c, nightF F⟩) = some (⟨655, 695⟩, 0) := by
       unfold bylaw_window__minutes
       rw [wlit_eq, decide_eq_false h, woff_eq]; rfl
     refine Wp.eq (wp_bindE rfl (wp_false (by simp) (wp_bindE e2 (wp_some rfl))))
theorem lawful_dark (a b c s r : Int) (fg : Bool) : bylaw_lawful (lawV a b c) ⟨s, r, 0, fg⟩ ⟨-1, -1⟩ = some ((!fg) && decide (b ≤ 0)) := by
 unfold bylaw_lawful
 cases fg
 · by_cases h : b ≤ 0
   · simp [h]
   · simp [h, joinK, must]
 · simp [joinK, must]
theorem lawful_at {a b c s r u : Int} (fg : Bool) (hs : 300 ≤ s ∧ s ≤ 304) (hr : 700 ≤ r ∧ r ≤ 705) (ha : 5 ≤ a ∧ a ≤ 600) (hc : 0 ≤ c ∧ c ≤ 600) (hu : 0 ≤ u) (h1 : s + 5 - (bif fg then c else 0) ≤ u) (h2 : u ≤ s + a - (bif fg then c else 0)) :
   bylaw_lawful (lawV a b c) ⟨s, r, 0, fg⟩ ⟨u, 655⟩ = some true := by
 have key : ∀ f : Int, 0 ≤ f ∧ f ≤ 600 → s + 5 - f ≤ u → u ≤ s + a - f → (must (((decide (0 ≤ u)) = true → (inI (s + 5)))) <| must (((decide (0 ≤ u)) = true → (inI ((s + 5) - f)))) <| must (((decide (0 ≤ u)) = true → (inI (s + a)))) <| must (((decide (0 ≤ u)) = true → (inI ((s + a) - f)))) <| must ((((decide (0 ≤ u)) && (bylaw_in u ((s + 5) - f) ((s + a) - f))) = true → (inI (r - 50)))) <| must ((((decide (0 ≤ u)) && (bylaw_in u ((s + 5) - f) ((s + a) - f))) = true → (inI (r - 5)))) <| some (((decide (0 ≤ u)) && (bylaw_in u ((s + 5) - f) ((s + a) - f))) && (bylaw_in 655 (r - 50) (r - 5)))) = some true := by
   intro f hf k1 k2
   rw [must_yes (fun _ => by unfold inI; omega), must_yes (fun _ => by unfold inI; omega), must_yes (fun _ => by unfold inI; omega), must_yes (fun _ => by unfold inI; omega), must_yes (fun _ => by unfold inI; omega), must_yes (fun _ => by unfold inI; omega)]
   have e1 : bylaw_in u ((s + 5) - f) ((s + a) - f) = true := by simp [bylaw_in]; omega
   have e2 : bylaw_in 655 (r - 50) (r - 5) = true := by simp [bylaw_in]; omega
   rw [e1, e2, decide_eq_true hu]; rfl
 unfold bylaw_lawful
 cases fg
 · simp only [cond_false] at h1 h2
   refine Wp.eq (wp_bif (fun _ => wp_some rfl) (fun _ => ?_))
   exact Wp.of_eq (key 0 (by omega) h1 h2) rfl
 · simp only [cond_true] at h1 h2
   exact key c hc h1 h2
theorem onLo_0 (c : Int) : onLo 0 c = 309 := by simp [onLo]; decide
theorem onLo_1 (c : Int) : onLo 1 c = max (309 - c) 0 := by simp [onLo]
theorem onLo_2 (c : Int) : onLo 2 c = 309 := by simp [onLo]; decide
theorem onHi_0 (a c : Int) : onHi 0 a c = min (300 + a) 1439 := by simp [onHi]
theorem onHi_1 (a c : Int) : onHi 1 a c = min (300 + a - c) 1439 := by simp [onHi]
theorem onHi_2 (a c : Int) : onHi 2 a c = min (300 + a - c) 1439 := by simp [onHi]
theorem onHi_le {F a c : Int} (ha : 5 ≤ a ∧ a ≤ 69) (hc : 0 ≤ c ∧ c ≤ 600) (hF : F = 0 ∨ F = 1 ∨ F = 2) (hT : ¬ onHi F a c < onLo F c) : 0 ≤ onHi F a c ∧ onHi F a c ≤ 655 := by
 rcases hF with h | h | h <;> subst h
 · rw [onHi_0, onLo_0] at *; omega
 · rw [onHi_1, onLo_1] at *; omega
 · rw [onHi_2, onLo_2] at *; omega
theorem onHi_in {F a c s : Int} {fg : Bool} (ha : 5 ≤ a ∧ a ≤ 69) (hc : 0 ≤ c ∧ c ≤ 600) (hs : 300 ≤ s ∧ s ≤ 304) (hF : F = 0 ∨ F = 1 ∨ F = 2) (k1 : F = 1 → fg = true) (k0 : F = 0 → fg = false) (hT : ¬ onHi F a c < onLo F c) :
   s + 5 - (bif fg then c else 0) ≤ onHi F a c ∧ onHi F a c ≤ s + a - (bif fg then c else 0) := by
 rcases hF with h | h | h
 · rw [k0 h]; subst h
   rw [onHi_0, onLo_0] at *; simp only [cond_false]; omega
 · rw [k1 h]; subst h
   rw [onHi_1, onLo_1] at *; simp only [cond_true]; omega
 · subst h
   rw [onHi_2, onLo_2] at *
   cases fg
   · simp only [cond_false]; omega
   · simp only [cond_true]; omega
theorem lit_ne {F b : Int} (hF : F = 1 ∨ F = 2) : litF F b ≠ 0 := by
 unfold litF
 rcases hF with h | h <;> subst h <;> (split <;> first | decide | (split <;> first | decide | omega))
theorem on_in {F G a b c : Int} (ha : 5 ≤ a ∧ a ≤ 69) (hc : 0 ≤ c ∧ c ≤ 600) (hF : F = 0 ∨ F = 1 ∨ F = 2) (hG : G = F ∨ G = 2) (hL : litF F b ≠ 0) (hT : ¬ onHi F a c < onLo F c) :
   ((((decide ((onE G a b c).2 = 0)) && (decide (onLo F c ≤ (onE G a b c).1.Lo))) && (decide ((onE G a b c).1.Hi ≤ onHi F a c))) || (decide ((onE G a b c).2 = 16))) = true := by
 unfold onE
 by_cases e : G = F
 · subst e
   rw [if_neg hL, if_neg hT]; simp
 · have hG2 : G = 2 := by omega
   subst hG2
   rw [if_neg (lit_ne (.inr rfl))]
   by_cases h2 : onHi 2 a c < onLo 2 c
   · rw [if_pos h2]; simp
   · rw [if_neg h2]
     have : onLo F c ≤ onLo 2 c ∧ onHi 2 a c ≤ onHi F a c := by
       rcases hF with h | h | h <;> subst h
       · rw [onHi_0, onLo_0] at *; rw [onHi_2, onLo_2] at *; omega
       · rw [onHi_1, onLo_1] at *; rw [onHi_2, onLo_2] at *; omega
       · exact absurd rfl e
     simp [this.1, this.2]
theorem dims_ok : gasoliertop_dims 20000 = some true := by kernel_rfl
theorem clear_made {l : List Report} (R : RepsOk l) (S : seeL l 1 7 99 = l) (P : pairL l = none) {q : fog_query} (hq : q.district = 1 ∧ q.night = 7 ∧ q.moment = 99) (ha : argOk q) : clearR q l = (l, 0) := by
 have := clearR_ok (q := q) R ha (by rw [hq.2.1, hq.2.2]; decide)
 rw [hq.1, hq.2.1, hq.2.2, S, P] at this
 exact this
theorem topFog_true (x : gasoliertop_Mist) (hx : x.Sights.length ≤ 1000000000000000000) : gasoliertop_TopFog 20000 x = some true := by
 unfold gasoliertop_TopFog
 refine (?_ : Wp _ (· = true)).eq
 refine wp_bindE dims_ok ?_
 refine wp_bind (reportsOf_wp 20000 (by omega) x hx) (fun l hl => ?_)
 obtain ⟨hlen, hall⟩ := hl
 obtain ⟨q, eq_, q1, q2⟩ := mod1_eq x.Limit (m := 399) (by omega) (by omega)
 refine wp_bindE eq_ (wp_mustI (by omega) ?_)
 have R := made_ok hlen hall
 have S := made_see hall
 have TR : ∀ r ∈ l, ∀ m : Int, r.From ≤ m → m ≤ r.To → r.Sight.Lo ≤ st x m ∧ st x m ≤ r.Sight.Hi := fun r hr => by
   obtain ⟨i, hi, rfl⟩ := mem_getD hr
   exact (hall i hi).true_
 have FT : ∀ r ∈ l, r.From ≤ r.To := fun r hr => by
   obtain ⟨i, hi, rfl⟩ := mem_getD hr
   exact (hall i hi).to_.1
 have P := made_pair TR FT
 generalize hlim : 1 + q = lim
 have hl1 : 1 ≤ lim ∧ lim ≤ 399 := by omega
 have cF : clearR ⟨1, 7, 99, 0, ⟨300, 705⟩, lim⟩ l = (l, 0) := clear_made R S P ⟨rfl, rfl, rfl⟩ (by unfold argOk; simp only; omega)
 have cW : clearR ⟨1, 7, 99, 0, ⟨300, 705⟩, 1⟩ l = (l, 0) := clear_made R S P ⟨rfl, rfl, rfl⟩ (by decide)
 have eF := fFoggy_eq 20000 l 1 7 ⟨300, 705⟩ lim 99 (by omega)
 rw [cF, if_neg (by simp)] at eF
 have eW := fWorst_eq 20000 l 1 7 ⟨300, 705⟩ 99 (by omega)
 rw [cW, if_neg (by simp)] at eW
 simp only at eF eW
 have hsp : span ⟨300, 705⟩ = 406 := by decide
 rw [hsp] at eF eW
 refine wp_bindE eF (wp_bindE eW ?_)
 generalize hFd : foggyL l lim 300 406 = F
 generalize hWd : worstL l (sightL l 300) (300 + 1) (406 - 1) = w
 -- what is known of both
 have sT : ∀ m : Int, 300 ≤ m → m ≤ 705 → (0 ≤ st x m ∧ st x m < 400) ∧ (sightL l m).Lo ≤ st x m ∧ st x m ≤ (sightL l m).Hi := fun m h1 h2 => by
   obtain ⟨_, a, b⟩ := st_eq x hx m (by omega)
   exact ⟨⟨a, b⟩, sightL_true a (by omega) (fun r hr => TR r hr m)⟩
 have F1 : F = 1 → ∃ m : Int, 300 ≤ m ∧ m ≤ 705 ∧ (sightL l m).Hi < lim := fun h => by
   obtain ⟨m, a, b, c⟩ := (foggyL_yes l lim 406 300).1 (hFd.trans h)
   exact ⟨m, a, by omega, c⟩
 have F0 : F = 0 → ∀ m : Int, 300 ≤ m → m ≤ 705 → lim ≤ (sightL l m).Lo := fun h m a b => ((foggyL_no l lim 406 300).1 (hFd.trans h) m a (by omega)).2
 have FV : F = 0 ∨ F = 1 ∨ F = 2 := hFd ▸ foggyL_vals l lim 406 300
 obtain ⟨w1, w2⟩ := hWd ▸ worstL_r l (406 - 1) (sightL l 300) (300 + 1)
 have w3 := hWd ▸ worstL_m l (406 - 1) (sightL l 300) (300 + 1)
 have w5 := hWd ▸ worstL_at l (406 - 1) (sightL l 300) (300 + 1)
 have w3' : ∀ m : Int, 300 ≤ m → m ≤ 705 → w.Lo ≤ (sightL l m).Lo ∧ w.Hi ≤ (sightL l m).Hi := fun m a b => by
   by_cases e : m = 300
   · subst e; exact ⟨w1, w2⟩
   · exact w3 m (by omega) (by omega)
 have w5' : ∃ m : Int, 300 ≤ m ∧ m ≤ 705 ∧ w.Hi = (sightL l m).Hi := by
   rcases w5 with h | ⟨m, a, b, c⟩
   · exact ⟨300, by omega, by omega, h⟩
   · exact ⟨m, by omega, by omega, c⟩
 refine wp_bindE (v := 0) (fcheck_ok R) (wp_false (by simp) ?_)
 refine wp_loop (fun s => 300 ≤ s.2 ∧ s.2 ≤ 706 ∧ (∀ m : Int, 300 ≤ m → m < s.2 → s.1 ≤ st x m) ∧ (s.1 = 5000 ∧ s.2 = 300 ∨ ∃ m : Int, 300 ≤ m ∧ m < s.2 ∧ s.1 = st x m)) (fun s => (706 - s.2).toNat) (by simp) ⟨by simp, by simp, fun m a b => by simp only at b; omega, .inl ⟨rfl, rfl⟩⟩ ?_
 rintro ⟨least, m⟩ K ⟨i1, i2, i3, i4⟩ hK
 simp only at i1 i2 i3 i4 hK ⊢
 refine wp_ifd (fun hle => ?_) (fun hgt => ?_)
 · obtain ⟨e1, s0, s1⟩ := st_eq x hx m (by omega)
   obtain ⟨_, s2, s3⟩ := sT m i1 hle
   have cS : clearR ⟨1, 7, 99, m, ⟨0, 0⟩, 1⟩ l = (l, 0) := clear_made R S P ⟨rfl, rfl, rfl⟩ (by unfold argOk; simp only; omega)
   have eS := fSight_eq 20000 l 1 7 m 99 (by omega)
   rw [cS, if_neg (by simp)] at eS
   refine wp_bindE e1 (wp_bindE eS (wp_false (by simp; omega) (wp_mustI (by omega) (hK _ ⟨by simp only; omega, by simp only; omega, fun m' a b => ?_, .inr ?_⟩ (by simp only; omega)))))
   · simp only at b ⊢
     by_cases em : m' = m
     · subst em; omega
     · have := i3 m' a (by omega); omega
   · simp only
     by_cases h : least ≤ st x m
     · rcases i4 with ⟨h4, h5⟩ | ⟨m', a, b, c⟩
       · omega
       · exact ⟨m', a, by omega, by omega⟩
     · exact ⟨m, by omega, by omega, by omega⟩
 · have em : m = 706 := by omega
   subst em
   obtain ⟨ml, l1, l2, l3⟩ : ∃ m : Int, 300 ≤ m ∧ m < 706 ∧ least = st x m := by
     rcases i4 with ⟨_, h5⟩ | h
     · omega
     · exact h
   clear i4 hK
   have g1 : F = 1 → least < lim := fun h => by
     obtain ⟨m, a, b, c⟩ := F1 h
     have := sT m a b; have := i3 m a (by omega); omega
   have g0 : F = 0 → ¬ least < lim := fun h => by
     have := F0 h ml l1 (by omega); have := sT ml l1 (by omega); omega
   have gl : w.Lo ≤ least := by have := w3' ml l1 (by omega); have := sT ml l1 (by omega); omega
   have gh : least ≤ w.Hi := by
     obtain ⟨m, a, b, c⟩ := w5'
     have := i3 m a (by omega); have := sT m a b; omega
   clear w5' w5 w1 w2 w3 w3'
   refine wp_false ?_ ?_
   · rcases FV with h | h | h
     · have := g0 h; simp [h]; omega
     · have := g1 h; simp [h]; omega
     · simp [h]; omega
   obtain ⟨y24, e24, a24, b24⟩ := mod1_eq x.Law.x0 (m := 60) (by omega) (by omega)
   obtain ⟨y27, e27, a27, b27⟩ := mod1_eq x.Law.x1 (m := 2) (by omega) (by omega)
   obtain ⟨y30, e30, a30, b30⟩ := mod1_eq x.Law.x2 (m := 40) (by omega) (by omega)
   obtain ⟨y32, e32, a32, b32⟩ := mod1_eq x.Law.x0 (m := 5) (by omega) (by omega)
   obtain ⟨y35, e35, a35, b35⟩ := mod1_eq x.Law.x2 (m := 6) (by omega) (by omega)
   refine wp_bindE e24 (wp_mustI (by omega) (wp_bindE e27 (wp_mustI (by omega) (wp_bindE e30 (wp_bindE e32 (wp_mustI (by omega) (wp_bindE e35 (wp_mustI (by omega) ?_))))))))
   generalize hA : 10 + y24 = A
   generalize hB : y27 * 1001 = B
   generalize hS : 300 + y32 = s
   generalize hR : 700 + y35 = r
   have hA' : 5 ≤ A ∧ A ≤ 600 := by omega
   have hB' : (B = 0 ∨ B = 1001) := by omega
   have hB2 : 0 ≤ B ∧ B ≤ 1001 := by omega
   have hC' : 0 ≤ y30 ∧ y30 ≤ 600 := by omega
   have hs' : 300 ≤ s ∧ s ≤ 304 := by omega
   have hr' : 700 ≤ r ∧ r ≤ 705 := by omega
   have hF' : 0 ≤ F ∧ F ≤ 2 := by omega
   have tOk : ∀ fg : Bool, bylaw_isTruth ⟨s, r, 0, fg⟩ = true := fun fg => by simp [bylaw_isTruth, bylaw_in]; omega
   generalize hfg : decide (least < lim) = fg
   have eT := btrue_eq (a := A) (b := B) (c := y30) hA' hB2 hC' ⟨s, r, 0, fg⟩ ⟨-1, -1⟩ (tOk fg) (by decide)
   rw [lawful_dark] at eT
   simp only [bindO] at eT
   refine wp_bindE eT (wp_bindE (blit_eq hA' hB2 hC' hF') ?_)
   have k1 : F = 1 → fg = true := fun h => by rw [← hfg]; exact decide_eq_true (g1 h)
   have k0 : F = 0 → fg = false := fun h => by rw [← hfg]; exact decide_eq_false (g0 h)
   refine wp_false ?_ ?_
   · unfold litF
     rcases FV with h | h | h <;> rcases hB' with h2 | h2 <;> simp [h, h2] <;> first | exact k1 h | exact k0 h | skip
   refine wp_bindE (bduty_eq hA' hB2 hC' hF') ?_
   by_cases hL : litF F B = 0
   · rw [if_pos hL]; exact wp_true (by simp) (wp_some (by simp))
   rw [if_neg hL]
   by_cases hT : onHi F A y30 < onLo F y30
   · rw [if_pos hT]; exact wp_true (by simp) (wp_some (by simp))
   rw [if_neg hT]
   refine wp_false (by simp [hL]) ?_
   simp only
   have hA2 : 5 ≤ A ∧ A ≤ 69 := by omega
   have hu := onHi_le hA2 hC' FV hT
   have hv := onHi_in hA2 hC' hs' FV k1 k0 hT
   have eU := btrue_eq (a := A) (b := B) (c := y30) hA' hB2 hC' ⟨s, r, 0, fg⟩ ⟨onHi F A y30, 655⟩ (tOk fg) (by simp [bylaw_areTimes]; omega)
   rw [lawful_at fg hs' hr' hA' hC' hu.1 hv.1 hv.2] at eU
   refine wp_bindE eU (wp_false (by simp) ?_)
   refine wp_ifd (fun _ => wp_some rfl) (fun hne => ?_)
   cases l with
   | nil => simp at hne
   | cons a v =>
     refine wp_must (by simp; omega) ?_
     have Rv : RepsOk v := by
       refine ⟨by have := R.len; simp at this; omega, fun i hi => ?_⟩
       have := R.all (i + 1) (by simp; omega)
       refine ⟨this.1, fun h0 => ?_⟩
       have h2 := this.2 (by omega)
       obtain ⟨j, rfl⟩ : ∃ j, i = j + 1 := ⟨i - 1, by omega⟩
       exact h2
     have Sv : seeL v 1 7 99 = v := by
       refine List.filter_eq_self.2 (fun r hr => ?_)
       have := S
       unfold seeL at this
       rw [List.filter_eq_self] at this
       exact this r (List.mem_cons_of_mem _ hr)
     have Pv : pairL v = none := made_pair (fun r hr => TR r (List.mem_cons_of_mem _ hr)) (fun r hr => FT r (List.mem_cons_of_mem _ hr))
     have cV : clearR ⟨1, 7, 99, 0, ⟨300, 705⟩, lim⟩ v = (v, 0) := clear_made Rv Sv Pv ⟨rfl, rfl, rfl⟩ (by unfold argOk; simp only; omega)
     have eV := fFoggy_eq 20000 v 1 7 ⟨300, 705⟩ lim 99 (by omega)
     rw [cV, if_neg (by simp)] at eV
     simp only at eV
     rw [hsp] at eV
     refine wp_bindE (x := fog_Foggy 20000 (List.drop 1 (a :: v)) 1 7 ⟨300, 705⟩ lim 99) eV ?_
     have hc1 : foggyL v lim 300 406 = 1 → F = 1 := fun h => by
       rw [← hFd]
       obtain ⟨m, p1, p2, p3⟩ := (foggyL_yes v lim 406 300).1 h
       exact (foggyL_yes _ lim 406 300).2 ⟨m, p1, p2, by have := (sightL_drop a v m).2; omega⟩
     have hc0 : foggyL v lim 300 406 = 0 → F = 0 := fun h => by
       rw [← hFd]
       refine (foggyL_no _ lim 406 300).2 (fun m p1 p2 => ?_)
       have := (foggyL_no v lim 406 300).1 h m p1 p2
       have := (sightL_drop a v m).1
       have := sT m p1 (by omega)
       omega
     generalize hGd : foggyL v lim 300 406 = G at hc1 hc0
     have GV : G = 0 ∨ G = 1 ∨ G = 2 := hGd ▸ foggyL_vals v lim 406 300
     refine wp_bindE (bon_eq hA' hB2 hC' (by omega : 0 ≤ G ∧ G ≤ 2)) ?_
     have hd : ((!decide ((0 : Int) = 0)) || ((!decide (G = F)) && (!decide (G = 2)))) = false := by
       rcases GV with h | h | h
       · have := hc0 h; simp [h, this]
       · have := hc1 h; simp [h, this]
       · simp [h]
     refine wp_false hd (wp_some ?_)
     exact on_in hA2 hC' FV (by rcases GV with h | h | h
                                · exact .inl (h.trans (hc0 h).symm)
                                · exact .inl (h.trans (hc1 h).symm)
                                · exact .inr h) hL hT
end Go.Sp
end
