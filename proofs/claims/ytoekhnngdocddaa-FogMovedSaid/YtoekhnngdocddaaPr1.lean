/- Texts of the framework, or of the plain law, one behind another. -/
import Derived.Test.YtoekhnngdocddaaFr1
import Derived.Test.YtoekhnngdocddaaFr4
import Derived.KernelRfl
/- Rules for plain laws: what a printed definition yields. No program in sight. -/
section
set_option linter.all false
namespace Go.Sp
open Go.Av
def Wp {R : Type} (x : Option R) (P : R → Prop) : Prop := ∃ r, x = some r ∧ P r
theorem Wp.eq {R : Type} {x : Option R} {v : R} (h : Wp x (· = v)) : x = some v := by
 obtain ⟨r, h1, h2⟩ := h; rw [h1, h2]
theorem Wp.of_eq {R : Type} {x : Option R} {v : R} {P : R → Prop} (h : x = some v) (hp : P v) : Wp x P := ⟨v, h, hp⟩
theorem Wp.mono {R : Type} {x : Option R} {P Q : R → Prop} (h : Wp x P) (hp : ∀ r, P r → Q r) : Wp x Q := by
 obtain ⟨r, h1, h2⟩ := h; exact ⟨r, h1, hp r h2⟩
theorem wp_some {R : Type} {r : R} {P : R → Prop} (h : P r) : Wp (some r) P := ⟨r, rfl, h⟩
theorem wp_must {R : Type} {c : Prop} [Decidable c] {x : Option R} {P : R → Prop} (h : c) (k : Wp x P) : Wp (must c x) P := by
 unfold must; rw [if_pos h]; exact k
theorem wp_bind {S R : Type} {x : Option S} {k : S → Option R} {P : R → Prop} {Q : S → Prop} (h : Wp x Q) (hk : ∀ s, Q s → Wp (k s) P) : Wp (bindO x k) P := by
 obtain ⟨r, h1, h2⟩ := h; rw [h1]; exact hk r h2
theorem wp_bindE {S R : Type} {x : Option S} {k : S → Option R} {P : R → Prop} {v : S} (h : x = some v) (hk : Wp (k v) P) : Wp (bindO x k) P := by
 rw [h]; exact hk
theorem wp_bif {R : Type} {b : Bool} {x y : Option R} {P : R → Prop} (h1 : b = true → Wp x P) (h2 : b = false → Wp y P) : Wp (bif b then x else y) P := by
 cases b
 · exact h2 rfl
 · exact h1 rfl
theorem wp_if {R : Type} {p : Prop} {b : Bool} {x y : Option R} {P : R → Prop} (hb : b = true ↔ p) (h1 : p → Wp x P) (h2 : ¬ p → Wp y P) : Wp (bif b then x else y) P :=
 wp_bif (fun h => h1 (hb.1 h)) (fun h => h2 (fun hp => by rw [hb.2 hp] at h; cases h))
theorem wp_ifd {R : Type} {p : Prop} [Decidable p] {x y : Option R} {P : R → Prop} (h1 : p → Wp x P) (h2 : ¬ p → Wp y P) : Wp (bif (decide p) then x else y) P :=
 wp_if (decide_eq_true_iff) h1 h2
theorem wp_ifn {R : Type} {p : Prop} [Decidable p] {x y : Option R} {P : R → Prop} (h1 : ¬ p → Wp x P) (h2 : p → Wp y P) : Wp (bif (!decide p) then x else y) P :=
 wp_bif (fun h => h1 (by simpa using h)) (fun h => h2 (by simpa using h))
theorem wp_true {R : Type} {b : Bool} {x y : Option R} {P : R → Prop} (h : b = true) (h1 : Wp x P) : Wp (bif b then x else y) P := by rw [h]; exact h1
theorem wp_false {R : Type} {b : Bool} {x y : Option R} {P : R → Prop} (h : b = false) (h1 : Wp y P) : Wp (bif b then x else y) P := by rw [h]; exact h1
theorem wp_join {S R : Type} {f : (S → Option R) → Option R} {k : S → Option R} {P : R → Prop} (G : S → Prop) (hf : ∀ K : S → Option R, (∀ s, G s → Wp (K s) P) → Wp (f K) P) (hk : ∀ s, G s → Wp (k s) P) : Wp (joinK f k) P := hf k hk
theorem wp_joinU {S R : Type} {f : (S → Option R) → Option R} {k : S → Option R} {P : R → Prop} (h : Wp (f k) P) : Wp (joinK f k) P := h
theorem wp_range {S R : Type} {body : Nat → S → (S → Option R) → Option R} {ex : S → Option R} {n : Nat} {s0 : S} {P : R → Prop} (Inv : Nat → S → Prop) (h0 : Inv 0 s0)
   (hb : ∀ (i : Nat) s (K : S → Option R), i < n → Inv i s → (∀ s', Inv (i + 1) s' → Wp (K s') P) → Wp (body i s K) P) (he : ∀ s, Inv n s → Wp (ex s) P) : Wp (rangeGo body ex n 0 s0) P := by
 have go : ∀ (m i : Nat), i + m = n → ∀ s, Inv i s → Wp (rangeGo body ex m i s) P := by
   intro m
   induction m with
   | zero => intro i hi s hs; have e : i = n := by omega
             subst e; exact he s hs
   | succ m ih => intro i hi s hs; exact hb i s _ (by omega) hs (fun s' h' => ih (i + 1) (by omega) s' h')
 exact go n 0 (by omega) s0 h0
theorem wp_loop {S R : Type} {body : S → (S → Option R) → Option R} {fuel : Nat} {s0 : S} {P : R → Prop} (Inv : S → Prop) (μ : S → Nat) (hf : μ s0 < fuel) (h0 : Inv s0)
   (hb : ∀ s (K : S → Option R), Inv s → (∀ s', Inv s' → μ s' < μ s → Wp (K s') P) → Wp (body s K) P) : Wp (loopGo body fuel s0) P := by
 have go : ∀ (f : Nat) s, Inv s → μ s < f → Wp (loopGo body f s) P := by
   intro f
   induction f with
   | zero => intro s _ h; omega
   | succ f ih => intro s hs hm; exact hb s _ hs (fun s' h' hl => ih s' h' (by omega))
 exact go fuel s0 h0 hf
theorem wp_for {S R : Type} {body : (Int × S) → ((Int × S) → Option R) → Option R} {fuel : Nat} {s0 : S} {P : R → Prop} (n : Nat) (hf : n < fuel) (Inv : Nat → S → Prop) (h0 : Inv 0 s0)
   (hb : ∀ (i : Nat) s (K : (Int × S) → Option R), i ≤ n → Inv i s → (∀ s', i < n → Inv (i + 1) s' → Wp (K ((i : Int) + 1, s')) P) → Wp (body ((i : Int), s) K) P) : Wp (loopGo body fuel (0, s0)) P := by
 have go : ∀ (f i : Nat) s, i ≤ n → n - i < f → Inv i s → Wp (loopGo body f ((i : Int), s)) P := by
   intro f
   induction f with
   | zero => intro i s _ h; omega
   | succ f ih => intro i s hi hm hs; exact hb i s _ hi hs (fun s' hl h' => ih (i + 1) s' (by omega) (by omega) h')
 exact go fuel 0 s0 (by omega) (by omega) h0
theorem wp_for1 {R : Type} {body : Int → (Int → Option R) → Option R} {fuel : Nat} {P : R → Prop} (n : Nat) (hf : n < fuel) (Inv : Nat → Prop) (h0 : Inv 0)
   (hb : ∀ (i : Nat) (K : Int → Option R), i ≤ n → Inv i → (i < n → Inv (i + 1) → Wp (K ((i : Int) + 1)) P) → Wp (body (i : Int) K) P) : Wp (loopGo body fuel 0) P := by
 have go : ∀ (f i : Nat), i ≤ n → n - i < f → Inv i → Wp (loopGo body f (i : Int)) P := by
   intro f
   induction f with
   | zero => intro i _ h; omega
   | succ f ih => intro i hi hm hs; exact hb i _ hi hs (fun hl h' => ih (i + 1) (by omega) (by omega) h')
 exact go fuel 0 (by omega) (by omega) h0
end Go.Sp
end
/- More rules for plain laws. No program in sight. -/
section
set_option linter.all false
namespace Go.Sp
open Go.Av
theorem wp_mustI {R : Type} {n : Int} {x : Option R} {P : R → Prop} (h : -9223372036854775808 ≤ n ∧ n ≤ 9223372036854775807) (k : Wp x P) : Wp (must (inI n) x) P := wp_must h k
theorem wp_mustR {R : Type} {n b : Nat} {x : Option R} {P : R → Prop} (h : n * b ≤ 140737488355328 ∧ n ≤ 9223372036854775807) (k : Wp x P) : Wp (must (room n b) x) P := wp_must h k
end Go.Sp
end
/- Rules for plain laws, more of them. No program in sight. -/
section
set_option linter.all false
namespace Go.Sp
open Go.Av
theorem wp_forall {R : Type} {body : Nat → Unit → (Unit → Option R) → Option R} {ex : Unit → Option R} {n : Nat} {P : R → Prop} (good : Nat → Prop)
   (hb : ∀ (i : Nat) (K : Option R), i < n → (∀ j, j < i → good j) → (good i → Wp K P) → Wp (body i () (fun _ => K)) P) (he : (∀ j, j < n → good j) → Wp (ex ()) P) : Wp (rangeGo body ex n 0 ()) P := by
 refine wp_range (fun i _ => ∀ j, j < i → good j) (fun j hj => by omega) (fun i s K hi hI hK => ?_) (fun s hs => he hs)
 have e : K = fun _ => K () := funext fun u => rfl
 rw [e]
 exact hb i (K ()) hi hI (fun g => hK () (fun j hj => by
   by_cases e : j = i
   · rw [e]; exact g
   · exact hI j (by omega)))
theorem wp_onE {S R : Type} {W : Bool} {x y : Option S} {k : S → Option R} {P : R → Prop} {v : S} (hW : W = true) (h : x = some v) (hk : Wp (k v) P) : Wp (bindO (bif W then x else y) k) P := by
 subst hW; rw [h]; exact hk
theorem wp_offE {S R : Type} {W : Bool} {x y : Option S} {k : S → Option R} {P : R → Prop} {v : S} (hW : W = false) (h : y = some v) (hk : Wp (k v) P) : Wp (bindO (bif W then x else y) k) P := by
 subst hW; rw [h]; exact hk
theorem must_yes {R : Type} {c : Prop} [Decidable c] (h : c) (x : Option R) : must c x = x := if_pos h
theorem getD_set {T : Type} (l : List T) (i j : Nat) (x d : T) (hi : i < l.length) : (l.set i x).getD j d = if j = i then x else l.getD j d := by
 simp only [List.getD_eq_getElem?_getD]
 by_cases e : j = i
 · subst e; rw [List.getElem?_set_self hi, if_pos rfl]; rfl
 · rw [List.getElem?_set_ne (fun h => e h.symm), if_neg e]
theorem getD_snoc {T : Type} (l : List T) (x d : T) (i : Nat) : (l ++ [x]).getD i d = if i = l.length then x else l.getD i d := by
 simp only [List.getD_eq_getElem?_getD]
 rcases Nat.lt_trichotomy i l.length with h | h | h
 · rw [List.getElem?_append_left h, if_neg (by omega)]
 · subst h; simp
 · rw [if_neg (by omega), List.getElem?_eq_none (by simp; omega), List.getElem?_eq_none (by omega)]
theorem getD_mem {T : Type} [Inhabited T] {l : List T} {i : Nat} (h : i < l.length) : l.getD i default ∈ l := by
 rw [List.getD_eq_getElem?_getD, List.getElem?_eq_getElem h]; exact List.getElem_mem h
theorem mem_getD {T : Type} [Inhabited T] {l : List T} {x : T} (h : x ∈ l) : ∃ i, i < l.length ∧ l.getD i default = x := by
 obtain ⟨i, hi, rfl⟩ := List.getElem_of_mem h
 exact ⟨i, hi, by rw [List.getD_eq_getElem?_getD, List.getElem?_eq_getElem hi]; rfl⟩
theorem getD_take {T : Type} (l : List T) (n i : Nat) (d : T) : (l.take n).getD i d = if i < n then l.getD i d else d := by
 simp only [List.getD_eq_getElem?_getD, List.getElem?_take]
 split <;> rfl
theorem getD_drop {T : Type} (l : List T) (n i : Nat) (d : T) : (l.drop n).getD i d = l.getD (n + i) d := by
 simp only [List.getD_eq_getElem?_getD, List.getElem?_drop]
theorem getD_append {T : Type} (l r : List T) (i : Nat) (d : T) : (l ++ r).getD i d = if i < l.length then l.getD i d else r.getD (i - l.length) d := by
 simp only [List.getD_eq_getElem?_getD]
 split
 · rename_i h; rw [List.getElem?_append_left h]
 · rename_i h; rw [List.getElem?_append_right (by omega)]
theorem ext_getD {T : Type} [Inhabited T] {l r : List T} (hl : l.length = r.length) (h : ∀ i, i < l.length → l.getD i default = r.getD i default) : l = r := by
 refine List.ext_getElem hl (fun i h1 h2 => ?_)
 have := h i h1
 rw [List.getD_eq_getElem?_getD, List.getD_eq_getElem?_getD, List.getElem?_eq_getElem h1, List.getElem?_eq_getElem h2] at this
 exact this
theorem nodup_inj {S T : Type} {f : S → T} : ∀ {l : List S}, l.Nodup → (∀ x ∈ l, ∀ y ∈ l, f x = f y → x = y) → (l.map f).Nodup
 | [], _, _ => List.nodup_nil
 | x :: l, hn, hi => by
   rw [List.nodup_cons] at hn
   rw [List.map_cons, List.nodup_cons]
   refine ⟨fun hm => ?_, nodup_inj hn.2 (fun a ha b hb => hi a (List.mem_cons_of_mem _ ha) b (List.mem_cons_of_mem _ hb))⟩
   obtain ⟨y, hy, e⟩ := List.mem_map.1 hm
   have := hi x List.mem_cons_self y (List.mem_cons_of_mem _ hy) e.symm
   exact hn.1 (this ▸ hy)
theorem emit_range {A : Type} {body : Nat → Unit → (Unit → Option (List A)) → Option (List A)} {n : Nat} (W : Nat → Bool) (x : Nat → A)
   (hb : ∀ (i : Nat) (r : Option (List A)), i < n → body i () (fun _ => r) = emitIf (W i) (x i) r) : rangeGo body (fun _ => some []) n 0 () = some (((List.range' 0 n).filter W).map x) := by
 have go : ∀ m i, i + m = n → rangeGo body (fun _ => some []) m i () = some (((List.range' i m).filter W).map x) := by
   intro m
   induction m with
   | zero => intro i _; rfl
   | succ m ih =>
     intro i hi
     have e : rangeGo body (fun _ => some []) (m + 1) i () = body i () (fun u => rangeGo body (fun _ => some []) m (i + 1) u) := rfl
     rw [e]
     have e2 : (fun u => rangeGo body (fun _ => some ([] : List A)) m (i + 1) u) = fun _ => some (((List.range' (i + 1) m).filter W).map x) := by
       funext u; exact ih (i + 1) (by omega)
     rw [e2, hb i _ (by omega), List.range'_succ, List.filter_cons]
     cases W i <;> rfl
 exact go n 0 (by omega)
end Go.Sp
end
/- Plain laws, fog: valid reports, what a view is, contradictions, the sight. No program in sight. -/
section
set_option linter.all false
namespace Go.Sp
open Go.Av
set_option maxRecDepth 100000
structure RepOk (x : Report) : Prop where
 src : 1 ≤ x.Source ∧ x.Source ≤ 99999
 dist : 1 ≤ x.District ∧ x.District ≤ 9
 night : 0 ≤ x.Night ∧ x.Night ≤ 100000
 time : 0 ≤ x.From ∧ x.From ≤ x.To ∧ x.To ≤ 1439
 sight : 0 ≤ x.Sight.Lo ∧ x.Sight.Lo ≤ x.Sight.Hi ∧ x.Sight.Hi ≤ 5000
 known : 0 ≤ x.Known ∧ x.Known ≤ 144001439
 till : x.Until = 0 ∨ (x.Known < x.Until ∧ 0 ≤ x.Until ∧ x.Until ≤ 144001439)
theorem fwithin_iff {a b c : Int} : fog_within a b c = true ↔ b ≤ a ∧ a ≤ c := by simp [fog_within]
theorem frange_iff {r : Range} {c : Int} : fog_isRange r c = true ↔ 0 ≤ r.Lo ∧ r.Lo ≤ r.Hi ∧ r.Hi ≤ c := by simp [fog_isRange, and_assoc]
theorem fcheckReport_iff {x : Report} : fog_CheckReport x = 0 ↔ RepOk x := by
 have e : (bif (((((((!(fog_within x.Source 1 99999)) || (!(fog_isDistrict x.District))) || (!(fog_isNight x.Night))) || (!(fog_isRange (⟨x.From, x.To⟩ : Range) 1439))) || (!(fog_isRange x.Sight 5000))) || (!(fog_isMoment x.Known))) || ((!decide (x.Until = 0)) && ((decide (x.Until ≤ x.Known)) || (!(fog_isMoment x.Until))))) then (50 : Int) else 0) = 0 ↔ (((((((!(fog_within x.Source 1 99999)) || (!(fog_isDistrict x.District))) || (!(fog_isNight x.Night))) || (!(fog_isRange (⟨x.From, x.To⟩ : Range) 1439))) || (!(fog_isRange x.Sight 5000))) || (!(fog_isMoment x.Known))) || ((!decide (x.Until = 0)) && ((decide (x.Until ≤ x.Known)) || (!(fog_isMoment x.Until))))) = false := by
   generalize (((((((!(fog_within x.Source 1 99999)) || (!(fog_isDistrict x.District))) || (!(fog_isNight x.Night))) || (!(fog_isRange (⟨x.From, x.To⟩ : Range) 1439))) || (!(fog_isRange x.Sight 5000))) || (!(fog_isMoment x.Known))) || ((!decide (x.Until = 0)) && ((decide (x.Until ≤ x.Known)) || (!(fog_isMoment x.Until))))) = b
   cases b <;> simp
 unfold fog_CheckReport
 rw [e]
 simp only [fog_isDistrict, fog_isNight, fog_isMoment, Bool.or_eq_false_iff, Bool.and_eq_false_iff, Bool.not_eq_false', fwithin_iff, frange_iff, decide_eq_true_eq, decide_eq_false_iff_not]
 constructor
 · rintro ⟨⟨⟨⟨⟨⟨h1, h2⟩, h3⟩, h4⟩, h5⟩, h6⟩, h7⟩
   exact ⟨h1, h2, h3, h4, h5, h6, by rcases h7 with h7 | h7 <;> omega⟩
 · rintro ⟨h1, h2, h3, h4, h5, h6, h7⟩
   exact ⟨⟨⟨⟨⟨⟨h1, h2⟩, h3⟩, h4⟩, h5⟩, h6⟩, by omega⟩
def rp (l : List Report) (i : Nat) : Report := l.getD i default
structure RepsOk (l : List Report) : Prop where
 len : l.length ≤ 60
 all : ∀ i, i < l.length → RepOk (rp l i) ∧ (0 < i → (rp l (i - 1)).Source < (rp l i).Source)
theorem fcompare_nonneg (a b : Report) : 0 ≤ fog_compare a b ↔ b.Source ≤ a.Source := by
 unfold fog_compare cmp_Compare_int cmp_isNaN_int
 by_cases h1 : a.Source < b.Source
 · simp [h1]
 · by_cases h2 : b.Source < a.Source <;> simp [h1, h2] <;> omega
theorem fcheck_wp (l : List Report) : Wp (fog_Check l) (fun r => (RepsOk l ∧ r = 0) ∨ (¬ RepsOk l ∧ r = 51)) := by
 unfold fog_Check
 refine wp_ifd (fun h => wp_some (.inr ⟨fun V => by have := V.len; omega, rfl⟩)) (fun h => ?_)
 refine wp_forall (fun i => RepOk (rp l i) ∧ (0 < i → (rp l (i - 1)).Source < (rp l i).Source)) (fun i K hi _ hK => ?_) (fun h1 => wp_some (.inl ⟨⟨by omega, h1⟩, rfl⟩))
 refine wp_must (fun _ => by unfold inI; omega) ?_
 refine wp_must (fun h => by simp at h; omega) ?_
 have e : (((i : Int) - 1)).toNat = i - 1 := by omega
 rw [e]
 refine wp_bif (fun hb => wp_some (.inr ⟨fun V => ?_, rfl⟩)) (fun hb => ?_)
 · obtain ⟨a1, a2⟩ := V.all i hi
   unfold rp at a1 a2
   have a3 := fcheckReport_iff.2 a1
   simp only [a3, Bool.or_eq_true, Bool.and_eq_true, decide_eq_true_eq, Bool.not_eq_true', fcompare_nonneg] at hb
   rcases hb with hb | hb
   · simp at hb
   · have := a2 (by omega); omega
 · simp only [Bool.or_eq_false_iff, Bool.and_eq_false_iff, Bool.not_eq_false', decide_eq_true_eq, decide_eq_false_iff_not, fcompare_nonneg] at hb
   refine hK ⟨fcheckReport_iff.1 hb.1, fun h0 => ?_⟩
   unfold rp
   rcases hb.2 with h | h <;> omega
theorem fcheck_ok {l : List Report} (h : RepsOk l) : fog_Check l = some 0 := by
 obtain ⟨r, e, h1 | h1⟩ := fcheck_wp l
 · rw [e, h1.2]
 · exact absurd h h1.1
theorem fcheck_bad {l : List Report} (h : ¬ RepsOk l) : fog_Check l = some 51 := by
 obtain ⟨r, e, h1 | h1⟩ := fcheck_wp l
 · exact absurd h1.1 h
 · rw [e, h1.2]
theorem indexFunc_eq {T : Type} [Inhabited T] {p : T → Option Bool} {q : T → Bool} (hp : ∀ x, p x = some (q x)) (l : List T) :
   (rangeGo (fun i1 (s1 : Unit) k1 => bindO (p (l.getD i1 default)) fun y3 => (bif y3 then some (i1 : Int) else k1 ())) (fun (s1 : Unit) => some (-1)) l.length 0 () : Option Int) = some (match l.findIdx? q with | some i => (i : Int) | none => -1) := by
 refine (wp_forall (P := fun r => r = (match l.findIdx? q with | some i => (i : Int) | none => -1)) (fun i => q (l.getD i default) = false) (fun i K hi hb hK => ?_) (fun h1 => ?_)).eq
 · rw [hp]
   refine wp_bif (fun h => wp_some ?_) (fun h => hK h)
   have : l.findIdx? q = some i := by
     rw [List.findIdx?_eq_some_iff_getElem]
     refine ⟨hi, ?_, fun j hj => ?_⟩
     · rw [List.getD_eq_getElem?_getD, List.getElem?_eq_getElem hi] at h; exact h
     · have := hb j hj
       rw [List.getD_eq_getElem?_getD, List.getElem?_eq_getElem (by omega)] at this
       simpa using this
   rw [this]
 · refine wp_some ?_
   have : l.findIdx? q = none := by
     rw [List.findIdx?_eq_none_iff]
     intro x hx
     obtain ⟨i, hi, rfl⟩ := mem_getD hx
     exact h1 i hi
   rw [this]
theorem take_set_le {T : Type} {l : List T} {i : Nat} {x : T} (h : i < l.length) : (l.set i x).take (i + 1) = l.take i ++ [x] := by
 rw [List.take_add_one, List.getElem?_set_self h, List.take_set_of_le (Nat.le_refl _)]; rfl
theorem take_copyAt {T : Type} [Inhabited T] (l : List T) (a m : Nat) (f : Nat → T) (h : a ≤ l.length) : (copyAt l a m f).take a = l.take a := by
 refine ext_getD (by simp [copyAt]) (fun i hi => ?_)
 have hi' : i < a := by simp [copyAt] at hi; omega
 rw [getD_take, getD_take, if_pos hi', if_pos hi']
 unfold copyAt
 rw [List.getD_eq_getElem?_getD, List.getElem?_map, List.getElem?_range (by omega)]
 simp only [Option.map_some, Option.getD_some]
 rw [if_neg (by omega)]
theorem drop_getD {T : Type} [Inhabited T] {l : List T} {i : Nat} (h : i < l.length) : l.drop i = l.getD i default :: l.drop (i + 1) := by
 rw [List.getD_eq_getElem?_getD, List.getElem?_eq_getElem h]; exact List.drop_eq_getElem_cons h
theorem take_getD {T : Type} [Inhabited T] {l : List T} {i : Nat} (h : i < l.length) : l.take (i + 1) = l.take i ++ [l.getD i default] := by
 rw [List.take_add_one, List.getD_eq_getElem?_getD, List.getElem?_eq_getElem h]; rfl
theorem deleteFunc_eq {T : Type} [Inhabited T] (z : T) {p : T → Option Bool} {q : T → Bool} (hp : ∀ x, p x = some (q x)) (l : List T) (fuel : Nat) (hf : l.length < fuel) (hl : l.length < 9223372036854775807) :
   (bindO (rangeGo (fun i1 (s1 : Unit) k1 => bindO (p (l.getD i1 default)) fun y3 => (bif y3 then some (i1 : Int) else k1 ())) (fun (s1 : Unit) => some (-1)) l.length 0 () : Option Int) fun y1 => (bif (decide (y1 = (-1))) then some l else must (inI (y1 + 1)) <| (loopGo (fun (s5 : Int × Int × (List T)) k5 => (bif (decide (s5.2.1 < ((s5.2.2.length : Nat) : Int))) then must (0 ≤ (s5.2.1 : Int) ∧ (s5.2.1 : Int) < ((s5.2.2.length : Nat) : Int)) <| bindO (p (s5.2.2.getD (s5.2.1).toNat default)) fun y8 => (bif (!y8) then must (0 ≤ (s5.1 : Int) ∧ (s5.1 : Int) < ((s5.2.2.length : Nat) : Int)) <| must (inI (s5.1 + 1)) <| must (inI (s5.2.1 + 1)) <| k5 ((s5.1 + 1), (s5.2.1 + 1), (s5.2.2.set (s5.1).toNat (s5.2.2.getD (s5.2.1).toNat default))) else must (inI (s5.2.1 + 1)) <| k5 (s5.1, (s5.2.1 + 1), s5.2.2)) else must (0 < s5.2.2.length ∧ 0 ≤ (s5.1 : Int) ∧ (s5.1 : Int) ≤ ((s5.2.2.length : Nat) : Int)) <| must (0 < (copyAt s5.2.2 ((s5.1).toNat) (s5.2.2.length - (s5.1).toNat) (fun _ => z)).length ∧ 0 ≤ (s5.1 : Int) ∧ (s5.1 : Int) ≤ (((copyAt s5.2.2 ((s5.1).toNat) (s5.2.2.length - (s5.1).toNat) (fun _ => z)).length : Nat) : Int)) <| some ((copyAt s5.2.2 ((s5.1).toNat) (s5.2.2.length - (s5.1).toNat) (fun _ => z)).take ((s5.1).toNat)))) fuel (y1, (y1 + 1), l))) : Option (List T)) = some (l.filter (fun x => !q x)) := by
 rw [indexFunc_eq hp l]
 refine Wp.eq (wp_bindE rfl ?_)
 cases hi : l.findIdx? q with
 | none =>
   rw [List.findIdx?_eq_none_iff] at hi
   refine wp_true (by simp) (wp_some ?_)
   exact (List.filter_eq_self.2 (fun x hx => by rw [hi x hx]; rfl)).symm
 | some i =>
   rw [List.findIdx?_eq_some_iff_getElem] at hi
   obtain ⟨h1, h2, h3⟩ := hi
   refine wp_false (by simp) (wp_mustI (by simp only; omega) ?_)
   refine wp_loop (fun s => ∃ a b : Nat, s.1 = (a : Int) ∧ s.2.1 = (b : Int) ∧ a < b ∧ b ≤ l.length ∧ s.2.2.length = l.length ∧ s.2.2.take a = (l.take b).filter (fun x => !q x) ∧ s.2.2.drop b = l.drop b) (fun s => l.length - s.2.1.toNat) (by simp only; omega) ⟨i, i + 1, rfl, by simp, by omega, by omega, rfl, ?_, rfl⟩ ?_
   · rw [take_getD h1, List.filter_append]
     have e1 : (l.take i).filter (fun x => !q x) = l.take i := List.filter_eq_self.2 (fun x hx => by
       obtain ⟨j, hj, rfl⟩ := List.getElem_of_mem hx
       have hj' : j < i := by simp at hj; omega
       have := h3 j hj'
       simp only [List.getElem_take]
       simpa using this)
     have e2 : q (l.getD i default) = true := by rw [List.getD_eq_getElem?_getD, List.getElem?_eq_getElem h1]; exact h2
     rw [e1]; simp [e2, -List.getD_eq_getElem?_getD]
   · rintro ⟨s1, s2, s3⟩ K ⟨a, b, rfl, rfl, hab, hb, hlen, ht, hd⟩ hK
     simp only at hK ht hd hlen ⊢
     refine wp_ifd (fun hlt => ?_) (fun hge => ?_)
     · have hbl : b < l.length := by omega
       refine wp_must (by omega) ?_
       rw [hp]
       simp only [Int.toNat_natCast]
       have ex : s3.getD b default = l.getD b default := by
         have := drop_getD (l := s3) (i := b) (by omega)
         rw [hd, drop_getD hbl] at this
         exact (List.cons.inj this).1.symm
       have hd1 : s3.drop (b + 1) = l.drop (b + 1) := by
         have := drop_getD (l := s3) (i := b) (by omega)
         rw [hd, drop_getD hbl] at this
         exact (List.cons.inj this).2.symm
       refine wp_bindE rfl ?_
       rw [ex]
       refine wp_bif (fun hq => ?_) (fun hq => ?_)
       · refine wp_must (by omega) (wp_mustI (by omega) (wp_mustI (by omega) ?_))
         refine hK _ ⟨a + 1, b + 1, by simp, by simp, by omega, by omega, by simp [hlen], ?_, ?_⟩ (by simp only; omega)
         · rw [take_set_le (by omega), ht, take_getD hbl, List.filter_append]
           simp only [Bool.not_eq_true'] at hq
           simp [hq, -List.getD_eq_getElem?_getD]
         · rw [List.drop_set_of_lt (by omega)]; exact hd1
       · refine wp_mustI (by omega) (hK _ ⟨a, b + 1, rfl, by simp, by omega, by omega, hlen, ?_, hd1⟩ (by simp only; omega))
         rw [ht, take_getD hbl, List.filter_append]
         simp only [Bool.not_eq_false'] at hq
         simp [hq, -List.getD_eq_getElem?_getD]
     · refine wp_must (by omega) (wp_must ?_ (wp_some ?_))
       · rw [length_copyAt]; omega
       · simp only [Int.toNat_natCast]
         rw [take_copyAt _ _ _ _ (by omega), ht, List.take_of_length_le (by omega)]
def seen (d n m : Int) (x : Report) : Bool := (decide (x.District = d) && decide (x.Night = n)) && fog_counts x m
def seeL (l : List Report) (d n m : Int) : List Report := l.filter (seen d n m)
theorem fsee_eq (fuel : Nat) (l : List Report) (d n m : Int) (h : l.length ≤ 60) (hf : 60 < fuel) : fog_see fuel l d n m = some (seeL l d n m) := by
 unfold fog_see slices_Clone_Report
 refine Wp.eq (wp_bind (Q := fun r => r = l) (wp_mustR (by simp; omega) (wp_some (by simp))) ?_)
 rintro s rfl
 have e := deleteFunc_eq (⟨0, 0, 0, 0, 0, (⟨0, 0⟩ : Range), 0, 0⟩ : Report) (p := fun x0 => some (fog_see_1 x0 d n m)) (q := fun x => fog_see_1 x d n m) (fun _ => rfl) s fuel (by omega) (by omega)
 refine wp_bindE (v := s.filter (fun x => !fog_see_1 x d n m)) e (wp_some ?_)
 unfold seeL
 congr 1
 funext x
 unfold fog_see_1 seen
 cases decide (x.District = d) <;> cases decide (x.Night = n) <;> cases fog_counts x m <;> rfl
def pairL : List Report → Option (Report × Report)
 | [] => none
 | a :: l => match l.find? (fun b => fog_clash a b) with
   | some b => some (a, b)
   | none => pairL l
def pairR (l : List Report) : List Int × Bool := match pairL l with
 | some (a, b) => ([a.Source, b.Source], true)
 | none => ([], false)
theorem find_range {T R : Type} [Inhabited T] {l : List T} {q : T → Bool} {body : Nat → Unit → (Unit → Option R) → Option R} {ex : Unit → Option R} (f : T → Option R)
   (hb : ∀ (i : Nat) (K : Option R), i < l.length → body i () (fun _ => K) = bif q (l.getD i default) then f (l.getD i default) else K) :
   rangeGo body ex l.length 0 () = match l.find? q with | some x => f x | none => ex () := by
 have go : ∀ (m i : Nat), i + m = l.length → rangeGo body ex m i () = match (l.drop i).find? q with | some x => f x | none => ex () := by
   intro m
   induction m with
   | zero => intro i hi; rw [List.drop_of_length_le (by omega)]; rfl
   | succ m ih =>
     intro i hi
     have e : rangeGo body ex (m + 1) i () = body i () (fun u => rangeGo body ex m (i + 1) u) := rfl
     have e2 : (fun u => rangeGo body ex m (i + 1) u) = fun _ => rangeGo body ex m (i + 1) () := by funext u; rfl
     rw [e, e2, hb i _ (by omega), drop_getD (by omega : i < l.length), List.find?_cons, ih (i + 1) (by omega)]
     cases q (l.getD i default) <;> rfl
 have := go l.length 0 (by omega)
 rw [List.drop_zero] at this
 exact this
theorem fpair_eq (l : List Report) (hl : l.length ≤ 9223372036854775807) : fog_view__pair l = some (pairR l) := by
 unfold fog_view__pair
 have go : ∀ (m i : Nat), i + m = l.length → rangeGo (fun i1 (s1 : Unit) k1 => must ((0 : Int) ≤ ((i1 : Int) + 1) ∧ (((i1 : Int) + 1) : Int) ≤ ((l.length : Nat) : Int)) <| (rangeGo (fun i4 (s4 : Unit) k4 => (bif (fog_clash (l.getD i1 default) ((l.drop (((i1 : Int) + 1)).toNat).getD i4 default)) then some (([(l.getD i1 default).Source, ((l.drop (((i1 : Int) + 1)).toNat).getD i4 default).Source] : List Int), true) else k4 ())) (fun (s4 : Unit) => k1 ()) ((l.drop (((i1 : Int) + 1)).toNat).length) 0 ())) (fun (s1 : Unit) => some ([], false)) m i () = some (pairR (l.drop i)) := by
   intro m
   induction m with
   | zero => intro i hi; rw [List.drop_of_length_le (by omega)]; rfl
   | succ m ih =>
     intro i hi
     have hlt : i < l.length := by omega
     conv => lhs; unfold rangeGo
     have et : ((i : Int) + 1).toNat = i + 1 := by omega
     rw [must_yes (by omega), et, ih (i + 1) (by omega)]
     rw [find_range (l := l.drop (i + 1)) (q := fun b => fog_clash (l.getD i default) b) (fun b => some ([(l.getD i default).Source, b.Source], true)) (fun j K _ => rfl)]
     rw [drop_getD hlt]
     conv => rhs; unfold pairR pairL
     cases (l.drop (i + 1)).find? (fun b => fog_clash (l.getD i default) b) with
     | none => rfl
     | some b => rfl
 have := go l.length 0 (by omega)
 rw [List.drop_zero] at this
 exact this
theorem pairR_two (l : List Report) : (pairR l).2 = (pairL l).isSome := by
 unfold pairR; cases pairL l <;> rfl
theorem pairL_none {l : List Report} : pairL l = none ↔ l.Pairwise (fun a b => fog_clash a b = false) := by
 induction l with
 | nil => simp [pairL]
 | cons a l ih =>
   rw [List.pairwise_cons]
   unfold pairL
   cases h : l.find? (fun b => fog_clash a b) with
   | some b =>
     have h1 := List.find?_some h
     have h2 := List.mem_of_find?_eq_some h
     simp only [reduceCtorEq, false_iff]
     intro hh
     have := hh.1 b h2
     rw [this] at h1; cases h1
   | none =>
     simp only
     rw [ih]
     rw [List.find?_eq_none] at h
     constructor
     · intro hp; exact ⟨fun b hb => by have := h b hb; simpa using this, hp⟩
     · exact fun hp => hp.2
def atMin (m : Int) (x : Report) : Bool := fog_within m x.From x.To
def nar (r : Range) (x : Report) : Range := ⟨max r.Lo x.Sight.Lo, min r.Hi x.Sight.Hi⟩
def sightL (v : List Report) (m : Int) : Range := (v.filter (atMin m)).foldl nar ⟨0, 5000⟩
theorem fsight_eq (v : List Report) (m : Int) : fog_view__sight v m = some (sightL v m) := by
 unfold fog_view__sight fog_view__of_1
 rw [emit_range (fun i => atMin m (v.getD i default)) (fun i => v.getD i default) (fun i r _ => rfl)]
 have e : ((List.range' 0 v.length).filter (fun i => atMin m (v.getD i default))).map (fun i => v.getD i default) = v.filter (atMin m) := by
   rw [show (fun i => atMin m (v.getD i default)) = atMin m ∘ (fun i => v.getD i default) from rfl, ← List.filter_map]
   congr 1
   refine List.ext_getElem (by simp) (fun i h1 h2 => ?_)
   simp [List.getElem?_eq_getElem h2]
 rw [e]
 show listGo _ _ (v.filter (atMin m)) _ = _
 unfold sightL
 generalize (⟨0, 5000⟩ : Range) = r
 induction v.filter (atMin m) generalizing r with
 | nil => rfl
 | cons x l ih => exact ih (nar r x)
end Go.Sp
end
/- Plain laws, fog: what is told of a clear district. No program in sight. -/
section
set_option linter.all false
namespace Go.Sp
open Go.Av
set_option maxRecDepth 100000
def argOk (q : fog_query) : Prop := 1 ≤ q.district ∧ q.district ≤ 9 ∧ 0 ≤ q.minute ∧ q.minute ≤ 1439 ∧ 0 ≤ q.time.Lo ∧ q.time.Lo ≤ q.time.Hi ∧ q.time.Hi ≤ 1439 ∧ 1 ≤ q.limit ∧ q.limit ≤ 5000
def dayOk (n m : Int) : Prop := 0 ≤ n ∧ n ≤ 100000 ∧ 0 ≤ m ∧ m ≤ 144001439
instance (q : fog_query) : Decidable (argOk q) := inferInstanceAs (Decidable (_ ∧ _))
instance (n m : Int) : Decidable (dayOk n m) := inferInstanceAs (Decidable (_ ∧ _))
open Classical in
noncomputable def viewR (q : fog_query) (l : List Report) : List Report × Int :=
 if ¬ RepsOk l then ([], 51) else if ¬ argOk q then ([], 1) else if ¬ dayOk q.night q.moment then ([], 6) else (seeL l q.district q.night q.moment, 0)
open Classical in
noncomputable def clearR (q : fog_query) (l : List Report) : List Report × Int :=
 if (viewR q l).2 ≠ 0 then ([], (viewR q l).2) else if (pairL (viewR q l).1).isSome then ([], 52) else ((viewR q l).1, 0)
theorem fview_eq (fuel : Nat) (q : fog_query) (l : List Report) (hf : 60 < fuel) : fog_query__view fuel q l = some (viewR q l) := by
 unfold fog_query__view viewR
 by_cases h : RepsOk l
 · rw [if_neg (by simp [h])]
   refine Wp.eq (wp_bindE (fcheck_ok h) ?_)
   refine wp_ifn (fun h => absurd rfl h) (fun _ => ?_)
   refine wp_if (p := ¬ argOk q) ?_ (fun ha => ?_) (fun ha => ?_)
   · unfold argOk
     simp only [fog_isDistrict, fog_isMinute, Bool.or_eq_true, Bool.not_eq_true', ← Bool.not_eq_true, fwithin_iff, frange_iff]
     omega
   · rw [if_pos ha]; exact wp_some rfl
   · rw [if_neg ha]
     refine wp_if (p := ¬ dayOk q.night q.moment) ?_ (fun hd => ?_) (fun hd => ?_)
     · unfold dayOk
       simp only [fog_isNight, fog_isMoment, Bool.or_eq_true, Bool.not_eq_true', ← Bool.not_eq_true, fwithin_iff]
       omega
     · rw [if_pos hd]; exact wp_some rfl
     · rw [if_neg hd]
       exact wp_bindE (fsee_eq fuel l _ _ _ h.len hf) (wp_some rfl)
 · rw [if_pos h]
   refine Wp.eq (wp_bindE (fcheck_bad h) ?_)
   exact wp_some rfl
theorem viewR_le (q : fog_query) (l : List Report) : (viewR q l).1.length ≤ 60 := by
 unfold viewR
 split
 · simp
 · split
   · simp
   · split
     · simp
     · rename_i h _ _
       have h : RepsOk l := Classical.byContradiction h
       exact Nat.le_trans (List.length_filter_le _ _) h.len
theorem fclear_eq (fuel : Nat) (q : fog_query) (l : List Report) (hf : 60 < fuel) : fog_query__clear fuel q l = some (clearR q l) := by
 unfold fog_query__clear clearR
 refine Wp.eq (wp_bindE (fview_eq fuel q l hf) ?_)
 refine wp_ifn (fun h => ?_) (fun h => ?_)
 · rw [if_pos h]; exact wp_some rfl
 · rw [if_neg (by simp [h])]
   refine wp_bindE (fpair_eq _ (Nat.le_trans (viewR_le q l) (by omega))) ?_
   rw [pairR_two]
   refine wp_bif (fun h2 => ?_) (fun h2 => ?_)
   · rw [if_pos h2]; exact wp_some rfl
   · rw [if_neg (by simp [h2])]; exact wp_some rfl
theorem clearR_ok {q : fog_query} {l : List Report} (h : RepsOk l) (ha : argOk q) (hd : dayOk q.night q.moment) :
   clearR q l = if (pairL (seeL l q.district q.night q.moment)).isSome then ([], 52) else (seeL l q.district q.night q.moment, 0) := by
 have e : viewR q l = (seeL l q.district q.night q.moment, 0) := by
   unfold viewR; rw [if_neg (by simp [h]), if_neg (by simp [ha]), if_neg (by simp [hd])]
 unfold clearR
 rw [e, if_neg (by simp)]
theorem fSight_eq (fuel : Nat) (l : List Report) (d n mi m : Int) (hf : 60 < fuel) : fog_Sight fuel l d n mi m =
   some (if (clearR ⟨d, n, m, mi, ⟨0, 0⟩, 1⟩ l).2 ≠ 0 then (⟨0, 0⟩, (clearR ⟨d, n, m, mi, ⟨0, 0⟩, 1⟩ l).2) else (sightL (clearR ⟨d, n, m, mi, ⟨0, 0⟩, 1⟩ l).1 mi, 0)) := by
 unfold fog_Sight
 refine Wp.eq (wp_bindE (fclear_eq fuel _ l hf) ?_)
 refine wp_ifn (fun h => ?_) (fun h => ?_)
 · rw [if_pos h]; exact wp_some rfl
 · rw [if_neg (by simp [h])]
   exact wp_bindE (fsight_eq _ _) (wp_some rfl)
end Go.Sp
end
/- Plain laws, fog: the document's tests, views, contradictions and sights. No program in sight. -/
section
set_option linter.all false
namespace Go.Sp
open Go.Av
set_option maxRecDepth 100000
end Go.Sp
end
/- Plain laws, fog: FogSights, FogClashes. No program in sight. -/
section
set_option linter.all false
namespace Go.Sp
open Go.Av
set_option maxRecDepth 100000
theorem sane_ok : gasolierlaw05_sane 20000 = some true := by kernel_rfl
theorem mem_ok {l : List Report} (h : RepsOk l) {x : Report} (hx : x ∈ l) : RepOk x := by
 obtain ⟨i, hi, rfl⟩ := mem_getD hx
 exact (h.all i hi).1
theorem fClash_eq (fuel : Nat) (l : List Report) (d n m : Int) (hf : 60 < fuel) : fog_Clash fuel l d n m =
   some (if (viewR ⟨d, n, m, 0, ⟨0, 0⟩, 1⟩ l).2 ≠ 0 then ([], (viewR ⟨d, n, m, 0, ⟨0, 0⟩, 1⟩ l).2) else if (pairL (viewR ⟨d, n, m, 0, ⟨0, 0⟩, 1⟩ l).1).isSome then ((pairR (viewR ⟨d, n, m, 0, ⟨0, 0⟩, 1⟩ l).1).1, 0) else ([], 3)) := by
 unfold fog_Clash
 refine Wp.eq (wp_bindE (fview_eq fuel _ l hf) ?_)
 refine wp_ifn (fun h => ?_) (fun h => ?_)
 · rw [if_pos h]; exact wp_some rfl
 · rw [if_neg (by simp [h])]
   refine wp_bindE (fpair_eq _ (Nat.le_trans (viewR_le _ l) (by omega))) ?_
   rw [pairR_two]
   cases h2 : (pairL (viewR ⟨d, n, m, 0, ⟨0, 0⟩, 1⟩ l).1).isSome
   · exact wp_true rfl (wp_some rfl)
   · exact wp_false rfl (wp_some rfl)
end Go.Sp
end
/- Plain laws, fog: reports that are made, FogTrue, FogShown. No program in sight. -/
section
set_option linter.all false
namespace Go.Sp
open Go.Av
set_option maxRecDepth 100000
theorem wrapI_of {n : Int} (h : -9223372036854775808 ≤ n ∧ n ≤ 9223372036854775807) : wrapI n = n := by
 unfold wrapI
 split <;> omega
theorem mod5_eq (n : Int) {m : Int} (h0 : 0 < m) (h1 : m ≤ 1000000000000000000) : ∃ y, gasolierref05_Mod n m = some y ∧ 0 ≤ y ∧ y < m := by
 unfold gasolierref05_Mod
 have a1 := Int.tmod_lt_of_pos n h0
 have a2 : -m < Int.tmod n m := Int.lt_tmod_of_pos n h0
 rw [must_yes (by omega), must_yes (by unfold inI; omega), must_yes (by omega)]
 refine ⟨_, rfl, ?_, Int.tmod_lt_of_pos _ h0⟩
 exact Int.tmod_nonneg _ (by omega)
theorem mod5_zero {m : Int} (h0 : 0 < m) (h1 : m ≤ 1000000000000000000) : gasolierref05_Mod 0 m = some 0 := by
 unfold gasolierref05_Mod
 rw [must_yes (by omega), must_yes (by unfold inI; simp; omega), must_yes (by omega)]
 simp
theorem tdiv_small {m k : Int} (hk : 0 < k) (hm : -100000 ≤ m ∧ m ≤ 100000) : -100000 ≤ Int.tdiv m k ∧ Int.tdiv m k ≤ 100000 := by
 rcases Int.le_total 0 m with h | h
 · rw [Int.tdiv_eq_ediv_of_nonneg h]
   have := Int.ediv_nonneg h (Int.le_of_lt hk)
   have := Int.ediv_le_self k h
   omega
 · obtain ⟨n, rfl⟩ : ∃ n, m = -n := ⟨-m, by omega⟩
   have hn : 0 ≤ n := by omega
   rw [Int.neg_tdiv, Int.tdiv_eq_ediv_of_nonneg hn]
   have := Int.ediv_nonneg hn (Int.le_of_lt hk)
   have := Int.ediv_le_self k hn
   omega
theorem num_eq (l : List Int) (hl : l.length ≤ 1000000000000000000) (i : Int) : ∃ y, gasolierref05_Num l i = some y := by
 unfold gasolierref05_Num
 by_cases h : (l.length : Int) = 0
 · rw [decide_eq_true h]; exact ⟨0, rfl⟩
 · obtain ⟨y, e, h1, h2⟩ := mod5_eq i (m := (l.length : Int)) (by omega) (by omega)
   rw [decide_eq_false h, e]
   exact ⟨_, must_yes (by omega) _⟩
theorem true_ex (l : List Int) (hl : l.length ≤ 1000000000000000000) {d m : Int} (hd : 0 ≤ d ∧ d ≤ 100) (hm : -100000 ≤ m ∧ m ≤ 100000) : ∃ s, gasolierref05_True l d m = some s ∧ 0 ≤ s ∧ s < 900 := by
 unfold gasolierref05_True
 have h1 := tdiv_small (k := 90) (by omega) hm
 have h2 := tdiv_small (k := 60) (by omega) hm
 obtain ⟨y, e⟩ := num_eq l hl (wrapI (d + Int.tdiv m 90))
 rw [must_yes (by unfold inI; omega), e]
 simp only [bindO]
 rw [must_yes (by unfold inI; omega)]
 obtain ⟨z, e2, z1, z2⟩ := mod5_eq (wrapI (y + Int.tdiv m 60)) (m := 900) (by omega) (by omega)
 rw [e2]; exact ⟨z, rfl, z1, z2⟩
def tr (l : List Int) (d m : Int) : Int := (gasolierref05_True l d m).getD 0
theorem true_eq (l : List Int) (hl : l.length ≤ 1000000000000000000) {d m : Int} (hd : 0 ≤ d ∧ d ≤ 100) (hm : -100000 ≤ m ∧ m ≤ 100000) : gasolierref05_True l d m = some (tr l d m) ∧ 0 ≤ tr l d m ∧ tr l d m < 900 := by
 obtain ⟨s, e, h1, h2⟩ := true_ex l hl hd hm
 unfold tr; rw [e]; exact ⟨rfl, h1, h2⟩
theorem reach_wp {fuel : Nat} (l : List Int) (hl : l.length ≤ 1000000000000000000) {d a b : Int} (hd : 0 ≤ d ∧ d ≤ 100) (ha : 0 ≤ a ∧ a ≤ b ∧ b ≤ 2000) (hf : 2001 < fuel) :
   Wp (gasolierref05_reach fuel l d a b) (fun r => 0 ≤ r.Lo ∧ r.Lo ≤ r.Hi ∧ r.Hi < 900 ∧ ∀ m : Int, a ≤ m → m ≤ b → r.Lo ≤ tr l d m ∧ tr l d m ≤ r.Hi) := by
 unfold gasolierref05_reach
 refine wp_loop (fun s => a ≤ s.1 ∧ s.1 ≤ b + 1 ∧ 0 ≤ s.2.Lo ∧ 0 ≤ s.2.Hi ∧ s.2.Hi < 900 ∧ (s.1 = a ∨ s.2.Lo ≤ s.2.Hi) ∧ ∀ m : Int, a ≤ m → m < s.1 → s.2.Lo ≤ tr l d m ∧ tr l d m ≤ s.2.Hi) (fun s => (b + 1 - s.1).toNat) (by simp only; omega)
   ⟨by simp, by simp only; omega, by simp, by simp, by simp, .inl rfl, fun m h1 h2 => by simp only at h2; omega⟩ ?_
 rintro ⟨m0, r⟩ K ⟨i1, i2, i3, i4, i5, i6, i7⟩ hK
 simp only at i1 i2 i3 i4 i5 i6 i7 hK ⊢
 refine wp_ifd (fun hle => ?_) (fun hgt => wp_some ⟨i3, by omega, i5, fun m h1 h2 => i7 m h1 (by omega)⟩)
 obtain ⟨e, h1, h2⟩ := true_eq l hl hd (m := m0) (by omega)
 refine wp_bindE e (wp_mustI (by omega) (hK _ ⟨by simp only; omega, by simp only; omega, by simp only; omega, by simp only; omega, by simp only; omega, .inr (by simp only; omega), fun m q1 q2 => ?_⟩ (by simp only; omega)))
 simp only at q2 ⊢
 by_cases em : m = m0
 · subst em; omega
 · have := i7 m q1 (by omega); omega
structure Fine (i : Nat) (r : Report) : Prop where
 src : r.Source = 4 * (i : Int) + 3
 dist : 1 ≤ r.District ∧ r.District ≤ 3
 night : r.Night = 3 ∨ r.Night = 4
 from_ : 0 ≤ r.From ∧ r.From ≤ 1299
 to_ : r.From ≤ r.To ∧ r.To ≤ 1437
 sight : 0 ≤ r.Sight.Lo ∧ r.Sight.Lo ≤ r.Sight.Hi ∧ r.Sight.Hi ≤ 5000
 known : 4320 ≤ r.Known ∧ r.Known ≤ 5759
 till : r.Until = 0 ∨ r.Known < r.Until ∧ r.Until ≤ 7000
def Just (l : List Int) (r : Report) : Prop := r.Night = 3 ∧ r.Until = 0 ∧ ∀ m : Int, r.From ≤ m → m ≤ r.To → r.Sight.Lo ≤ tr l r.District m ∧ tr l r.District m ≤ r.Sight.Hi
theorem made_wp {fuel : Nat} (hf : 2001 < fuel) (p : List (Arr7 Int)) (l : List Int) (hl : l.length ≤ 1000000000000000000) :
   Wp (gasolierref05_Made fuel p l) (fun x => x.length ≤ 12 ∧ x.length ≤ p.length ∧ ∀ i, i < x.length → Fine i (rp x i) ∧ ((p.getD i default).x6 = 0 → Just l (rp x i))) := by
 unfold gasolierref05_Made
 refine wp_for 12 (by omega) (fun i x => x.length = i ∧ i ≤ p.length ∧ ∀ j, j < i → Fine j (rp x j) ∧ ((p.getD j default).x6 = 0 → Just l (rp x j))) ⟨rfl, by omega, fun j hj => by omega⟩ (fun i x K hi hI hK => ?_)
 obtain ⟨hlen, hip, hall⟩ := hI
 simp only at hK ⊢
 refine wp_if (p := (i : Int) < (p.length : Int) ∧ (i : Int) < 12) (by simp) (fun h => ?_) (fun h => wp_some ⟨by omega, by omega, fun j hj => hall j (by omega)⟩)
 simp only [Int.toNat_natCast]
 generalize hq : p.getD i default = q at *
 have ew : wrapI (4 * (i : Int)) = 4 * (i : Int) := wrapI_of (by omega)
 refine wp_must (by omega) ?_
 rw [ew]
 refine wp_mustI (by omega) ?_
 obtain ⟨a, ea, a1, a2⟩ := mod5_eq q.x0 (m := 3) (by omega) (by omega)
 obtain ⟨b, eb, b1, b2⟩ := mod5_eq q.x1 (m := 1300) (by omega) (by omega)
 obtain ⟨c, ec, c1, c2⟩ := mod5_eq q.x2 (m := 139) (by omega) (by omega)
 obtain ⟨d, ed, d1, d2⟩ := mod5_eq q.x3 (m := 300) (by omega) (by omega)
 obtain ⟨e, ee, e1, e2⟩ := mod5_eq q.x4 (m := 300) (by omega) (by omega)
 obtain ⟨f, ef, f1, f2⟩ := mod5_eq q.x6 (m := 7) (by omega) (by omega)
 obtain ⟨g, eg, g1, g2⟩ := mod5_eq q.x3 (m := 600) (by omega) (by omega)
 obtain ⟨o, eo, o1, o2⟩ := mod5_eq q.x4 (m := 60) (by omega) (by omega)
 obtain ⟨s, es, s1, s2⟩ := mod5_eq q.x6 (m := 11) (by omega) (by omega)
 obtain ⟨t, et, t1, t2⟩ := mod5_eq q.x5 (m := 1440) (by omega) (by omega)
 obtain ⟨u, eu, u1, u2⟩ := mod5_eq q.x6 (m := 5) (by omega) (by omega)
 obtain ⟨v, ev, v1, v2⟩ := mod5_eq (wrapI (q.x5 * 7)) (m := 600) (by omega) (by omega)
 have hzero : q.x6 = 0 → f = 0 ∧ s = 0 ∧ u = 0 := fun hz => by
   rw [hz, mod5_zero (by omega) (by omega)] at ef es eu
   exact ⟨(Option.some.inj ef).symm, (Option.some.inj es).symm, (Option.some.inj eu).symm⟩
 refine wp_bindE ea (wp_mustI (by omega) (wp_bindE eb (wp_bindE ec (wp_mustI (by omega) (wp_bind (reach_wp l hl (d := 1 + a) (a := b) (b := b + c) (by omega) (by omega) hf) (fun r hr => ?_))))))
 obtain ⟨r1, r2, r3, r4⟩ := hr
 refine wp_bindE ed (wp_mustI (by omega) (wp_bindE ee (wp_mustI (by omega) (wp_bindE ef ?_))))
 refine wp_join (fun z : Report => z.Source = 4 * (i : Int) + 3 ∧ z.District = 1 + a ∧ z.Night = 3 ∧ z.From = b ∧ z.To = b + c ∧ z.Known = 0 ∧ z.Until = 0 ∧ (0 ≤ z.Sight.Lo ∧ z.Sight.Lo ≤ z.Sight.Hi ∧ z.Sight.Hi ≤ 5000) ∧ (f ≠ 6 → ∀ m : Int, b ≤ m → m ≤ b + c → z.Sight.Lo ≤ tr l (1 + a) m ∧ tr l (1 + a) m ≤ z.Sight.Hi)) (fun K2 hK2 => ?_) (fun z hz => ?_)
 · refine wp_ifd (fun h6 => ?_) (fun h6 => ?_)
   · exact wp_bindE eg (wp_bindE eg (wp_bindE eo (wp_mustI (by omega) (hK2 _ ⟨rfl, rfl, rfl, rfl, rfl, rfl, rfl, ⟨by simp only; omega, by simp only; omega, by simp only; omega⟩, fun h => absurd h6 h⟩))))
   · refine hK2 _ ⟨rfl, rfl, rfl, rfl, rfl, rfl, rfl, ⟨by simp only; omega, by simp only; omega, by simp only; omega⟩, fun _ m m1 m2 => ?_⟩
     have := r4 m m1 m2
     simp only; omega
 obtain ⟨z1, z2, z3, z4, z5, z6, z7, z8, z9⟩ := hz
 refine wp_bindE es ?_
 refine wp_join (fun y : Report => y.Source = z.Source ∧ y.District = z.District ∧ (y.Night = 3 ∨ y.Night = 4) ∧ (s ≠ 10 → y.Night = 3) ∧ y.From = z.From ∧ y.To = z.To ∧ y.Sight = z.Sight ∧ y.Until = 0) (fun K2 hK2 => ?_) (fun y hy => ?_)
 · refine wp_ifd (fun h6 => ?_) (fun h6 => ?_)
   · exact hK2 _ ⟨rfl, rfl, .inr rfl, fun h => absurd h6 h, rfl, rfl, rfl, z7⟩
   · exact hK2 _ ⟨rfl, rfl, .inl z3, fun _ => z3, rfl, rfl, rfl, z7⟩
 obtain ⟨y1, y2, y3, y4, y5, y6, y7, y8⟩ := hy
 refine wp_bindE et (wp_mustI (by omega) (wp_bindE eu ?_))
 refine wp_join (fun x' : Report => x'.Source = y.Source ∧ x'.District = y.District ∧ x'.Night = y.Night ∧ x'.From = y.From ∧ x'.To = y.To ∧ x'.Sight = y.Sight ∧ x'.Known = 4320 + t ∧ (x'.Until = 0 ∨ x'.Known < x'.Until ∧ x'.Until ≤ 7000) ∧ (u ≠ 4 → x'.Until = 0)) (fun K2 hK2 => ?_) (fun x' hx' => ?_)
 · refine wp_ifd (fun h6 => ?_) (fun h6 => ?_)
   · exact wp_mustI (by omega) (wp_bindE ev (wp_mustI (by omega) (hK2 _ ⟨rfl, rfl, rfl, rfl, rfl, rfl, rfl, .inr ⟨by simp only; omega, by simp only; omega⟩, fun h => absurd h6 h⟩)))
   · exact hK2 _ ⟨rfl, rfl, rfl, rfl, rfl, rfl, rfl, .inl y8, fun _ => y8⟩
 obtain ⟨x1, x2, x3, x4, x5, x6, x7, x8, x9⟩ := hx'
 refine wp_mustR (by simp; omega) (wp_mustI (by omega) (hK _ (by omega) ⟨by simp [hlen], by omega, fun j hj => ?_⟩))
 unfold rp
 rw [getD_snoc]
 split
 · rename_i hjl
   have hji : j = i := by omega
   subst hji
   rw [hq]
   refine ⟨⟨by omega, by omega, by rw [x3]; exact y3, by omega, by omega, by rw [x6, y7]; exact z8, by omega, x8⟩, fun hz => ?_⟩
   obtain ⟨k1, k2, k3⟩ := hzero hz
   refine ⟨by rw [x3]; exact y4 (by omega), x9 (by omega), fun m m1 m2 => ?_⟩
   rw [x6, y7, x2, y2, z2]
   exact z9 (by omega) m (by omega) (by omega)
 · exact hall j (by omega)
theorem fine_ok {x : List Report} (hl : x.length ≤ 12) (h : ∀ i, i < x.length → Fine i (rp x i)) : RepsOk x := by
 refine ⟨by omega, fun i hi => ?_⟩
 have F := h i hi
 have f1 := F.src; have f2 := F.dist; have f3 := F.night; have f4 := F.from_; have f5 := F.to_; have f6 := F.sight; have f7 := F.known; have f8 := F.till
 refine ⟨⟨by omega, by omega, by omega, by omega, by omega, by omega, by omega⟩, fun h0 => ?_⟩
 have := (h (i - 1) (by omega)).src
 omega
theorem moment_eq (n : Int) : ∃ at_, gasolierlaw05_moment n = some at_ ∧ 4320 ≤ at_ ∧ at_ ≤ 5759 := by
 unfold gasolierlaw05_moment
 obtain ⟨y, e, h1, h2⟩ := mod5_eq n (m := 1440) (by omega) (by omega)
 rw [e]
 exact ⟨4320 + y, must_yes (by unfold inI; omega) _, by omega, by omega⟩
theorem below_vals (r : Range) (lim : Int) : (fog_below r lim = 1 ∧ r.Hi < lim) ∨ (fog_below r lim = 0 ∧ lim ≤ r.Lo ∧ ¬ r.Hi < lim) ∨ (fog_below r lim = 2 ∧ ¬ r.Hi < lim ∧ ¬ lim ≤ r.Lo) := by
 unfold fog_below
 by_cases a : r.Hi < lim
 · rw [decide_eq_true a]; exact .inl ⟨rfl, a⟩
 · by_cases b : lim ≤ r.Lo
   · rw [decide_eq_false a, decide_eq_true b]; exact .inr (.inl ⟨rfl, b, a⟩)
   · rw [decide_eq_false a, decide_eq_false b]; exact .inr (.inr ⟨rfl, a, b⟩)
end Go.Sp
end
/- Plain laws, fog: FogShown. No program in sight. -/
section
set_option linter.all false
namespace Go.Sp
open Go.Av
set_option maxRecDepth 100000
theorem counting_eq (l : List Report) (m : Int) (h : RepsOk l) (hm : 0 ≤ m ∧ m ≤ 144001439) : fog_Counting l m = some ((l.filter (fun x => fog_counts x m)).map (·.Source), 0) := by
 unfold fog_Counting
 refine Wp.eq (wp_bindE (fcheck_ok h) (wp_false (by simp) (wp_false (by simp only [fog_isMoment, Bool.not_eq_false', fwithin_iff]; exact hm) ?_)))
 have hl := h.len
 refine wp_range (fun i s => s = ((l.take i).filter (fun x => fog_counts x m)).map (·.Source)) (by simp) (fun i s K hi hI hK => ?_) (fun s hI => wp_some (by rw [hI, List.take_length]))
 have et : (l.take (i + 1)).filter (fun x => fog_counts x m) = (l.take i).filter (fun x => fog_counts x m) ++ (if fog_counts (l.getD i default) m then [l.getD i default] else []) := by
   rw [take_getD hi, List.filter_append]; simp only [List.filter_cons, List.filter_nil]
 have hs : s.length ≤ 60 := by
   rw [hI, List.length_map]; exact Nat.le_trans (List.length_filter_le _ _) (by simp; omega)
 refine wp_bif (fun hb => ?_) (fun hb => ?_)
 · refine wp_mustR (by simp; omega) (hK _ ?_)
   rw [et, if_pos hb, hI, List.map_append]; rfl
 · refine hK _ ?_
   rw [et, if_neg (by rw [hb]; simp), hI, List.append_nil]
theorem has_eq {fuel : Nat} (l : List Int) (n : Int) (hf : l.length < fuel) (hl : l.length < 9223372036854775807) : gasolierref05_Has fuel l n = some (decide (n ∈ l)) := by
 unfold gasolierref05_Has
 refine (wp_for1 (P := fun r => r = decide (n ∈ l)) l.length hf (fun i => ∀ j, j < i → l.getD j default ≠ n) (fun j hj => by omega) (fun i K hi hI hK => ?_)).eq
 refine wp_ifd (fun hlt => ?_) (fun hge => wp_some ?_)
 · have hi' : i < l.length := by omega
   refine wp_must (by omega) ?_
   simp only [Int.toNat_natCast]
   refine wp_ifd (fun h => wp_some ?_) (fun h => wp_mustI (by omega) (hK hi' (fun j hj => ?_)))
   · rw [decide_eq_true (h ▸ getD_mem hi')]
   · by_cases ej : j = i
     · subst ej; exact h
     · exact hI j (by omega)
 · rw [decide_eq_false (fun hm => ?_)]
   obtain ⟨j, hj, e⟩ := mem_getD hm
   exact hI j (by omega) e
theorem inj_source {l : List Report} (h : l.Pairwise (fun a b => a.Source < b.Source)) {x y : Report} (hx : x ∈ l) (hy : y ∈ l) (e : x.Source = y.Source) : x = y := by
 obtain ⟨i, hi, rfl⟩ := List.getElem_of_mem hx
 obtain ⟨j, hj, rfl⟩ := List.getElem_of_mem hy
 rcases Nat.lt_trichotomy i j with h' | h' | h'
 · have := List.pairwise_iff_getElem.1 h i j hi hj h'; omega
 · subst h'; rfl
 · have := List.pairwise_iff_getElem.1 h j i hj hi h'; omega
theorem sorted_all {l : List Report} (h : RepsOk l) : l.Pairwise (fun a b => a.Source < b.Source) := by
 rw [List.pairwise_iff_getElem]
 intro i j hi hj hij
 have step : ∀ k, i + 1 + k < l.length → l[i].Source < (rp l (i + 1 + k)).Source := by
   intro k
   induction k with
   | zero =>
     intro hk
     have := (h.all (i + 1) hk).2 (by omega)
     have e : rp l (i + 1 - 1) = l[i] := by unfold rp; simp [List.getElem?_eq_getElem hi]
     rw [e] at this; exact this
   | succ k ih =>
     intro hk
     have h1 := ih (by omega)
     have h2 := (h.all (i + 1 + (k + 1)) hk).2 (by omega)
     have e : i + 1 + (k + 1) - 1 = i + 1 + k := by omega
     rw [e] at h2
     omega
 have := step (j - (i + 1)) (by omega)
 have e : i + 1 + (j - (i + 1)) = j := by omega
 rw [e] at this
 have e2 : rp l j = l[j] := by unfold rp; simp [List.getElem?_eq_getElem hj]
 rw [e2] at this; exact this
end Go.Sp
end
/- Plain laws, fog: policies, the program's and the document's check. No program in sight. -/
section
set_option linter.all false
namespace Go.Sp
open Go.Av
set_option maxRecDepth 100000
def sd (l : List Send) (i : Nat) : Send := l.getD i default
def nd (p : List Node) (i : Nat) : Node := p.getD i default
def fol3 (n : Node) : List Int := [n.Yes, n.No, n.Maybe]
def SendsOk (l : List Send) : Prop := l.length ≤ 9 ∧ ∀ i, i < l.length → (1 ≤ (sd l i).District ∧ (sd l i).District ≤ 9) ∧ (1 ≤ (sd l i).Many ∧ (sd l i).Many ≤ 20) ∧ (0 < i → (sd l (i - 1)).District < (sd l i).District)
def NextOk (p : List Node) (i : Nat) (n : Node) (k : Int) : Prop := ((i : Int) + 1 ≤ k ∧ k ≤ (p.length : Int) - 1) ∧ ((nd p k.toNat).Test = true → n.Minute ≤ (nd p k.toNat).Minute)
instance (p : List Node) (i : Nat) (n : Node) (k : Int) : Decidable (NextOk p i n k) := inferInstanceAs (Decidable (_ ∧ _))
def LeafOk (n : Node) : Prop := (n.District = 0 ∧ n.Minute = 0 ∧ n.Limit = 0 ∧ n.Yes = 0 ∧ n.No = 0 ∧ n.Maybe = 0) ∧ SendsOk n.Sends
def TestHead (n : Node) : Prop := (1 ≤ n.District ∧ n.District ≤ 9) ∧ (0 ≤ n.Minute ∧ n.Minute ≤ 1439) ∧ (1 ≤ n.Limit ∧ n.Limit ≤ 5000) ∧ n.Sends.length = 0
def NodeOk (p : List Node) (i : Nat) : Prop := ((nd p i).Test = false → LeafOk (nd p i)) ∧ ((nd p i).Test = true → TestHead (nd p i) ∧ ∀ k ∈ fol3 (nd p i), NextOk p i (nd p i) k)
def nm (n : Node) : List Int := if n.Test then fol3 n else []
def names (p : List Node) : List Int := p.flatMap nm
structure PolOk (p : List Node) : Prop where
 len : 1 ≤ p.length ∧ p.length ≤ 31
 node : ∀ i, i < p.length → NodeOk p i
 nodup : (names p).Nodup
 count : (names p).length + 1 = p.length
theorem names_take {p : List Node} {i : Nat} (h : i < p.length) : names (p.take (i + 1)) = names (p.take i) ++ nm (nd p i) := by
 unfold names
 rw [take_getD h, List.flatMap_append]; simp [nd]
theorem sends_few {l : List Send} : ∀ {i : Nat}, (∀ j, j < i → (1 ≤ (sd l j).District ∧ (sd l j).District ≤ 9) ∧ (1 ≤ (sd l j).Many ∧ (sd l j).Many ≤ 20) ∧ (0 < j → (sd l (j - 1)).District < (sd l j).District)) → i ≤ 9 := by
 intro i h
 have key : ∀ j, j < i → (j : Int) + 1 ≤ (sd l j).District := by
   intro j
   induction j with
   | zero => intro hj; have := (h 0 hj).1; omega
   | succ j ih =>
     intro hj
     have h1 := ih (by omega)
     have h2 := (h (j + 1) hj).2.2 (by omega)
     have e : j + 1 - 1 = j := by omega
     rw [e] at h2
     omega
 by_cases h0 : i = 0
 · omega
 · have := key (i - 1) (by omega)
   have := (h (i - 1) (by omega)).1
   omega
theorem fareSends_eq (l : List Send) : Wp (fog_areSends l) (fun b => b = true ↔ SendsOk l) := by
 unfold fog_areSends
 refine wp_forall (fun i => (1 ≤ (sd l i).District ∧ (sd l i).District ≤ 9) ∧ (1 ≤ (sd l i).Many ∧ (sd l i).Many ≤ 20) ∧ (0 < i → (sd l (i - 1)).District < (sd l i).District)) (fun i K hi hI hK => ?_) (fun h => wp_some ?_)
 · have hi9 := sends_few hI
   refine wp_must (fun _ => by unfold inI; omega) (wp_must (fun h => by simp at h; omega) ?_)
   have e : (((i : Int) - 1)).toNat = i - 1 := by omega
   rw [e]
   refine wp_bif (fun hb => wp_some ?_) (fun hb => hK ?_)
   · constructor
     · intro h; cases h
     · rintro ⟨_, h⟩
       obtain ⟨h1, h2, h3⟩ := h i hi
       unfold sd at h1 h2 h3
       unfold fog_isDistrict at hb
       simp only [Bool.or_eq_true, Bool.and_eq_true, decide_eq_true_eq, Bool.not_eq_true', ← Bool.not_eq_true, fwithin_iff] at hb
       rcases hb with (hb | hb) | hb
       · exact absurd h1 hb
       · exact absurd h2 hb
       · have := h3 (by omega); omega
   · unfold fog_isDistrict at hb
     simp only [Bool.or_eq_false_iff, Bool.and_eq_false_iff, Bool.not_eq_false', decide_eq_false_iff_not, fwithin_iff] at hb
     unfold sd
     exact ⟨hb.1.1, hb.1.2, fun h0 => by rcases hb.2 with h | h <;> omega⟩
 · rw [decide_eq_true_eq]
   constructor
   · intro h9; exact ⟨by omega, h⟩
   · intro h9; have := h9.1; omega
theorem next_get (n : Node) (k : Int) : (fog_next n).get k = if k = 2 then some n.Maybe else if k = 0 then some n.No else if k = 1 then some n.Yes else none := rfl
theorem next_keys (n : Node) : (fog_next n).keys = [1, 0, 2] := rfl
theorem next_ok (n : Node) : (fog_next n).ok := by
 refine ⟨by rw [next_keys]; decide, rfl, fun k hk => ?_⟩
 rw [next_keys] at hk
 rw [next_get]
 rcases List.mem_cons.1 hk with rfl | hk
 · rfl
 · rcases List.mem_cons.1 hk with rfl | hk
   · rfl
   · rcases List.mem_cons.1 hk with rfl | hk
     · rfl
     · cases hk
theorem mapAny_of {chk : Int → Option Bool} {q : Int → Bool} : ∀ {l : List Int}, (∀ k ∈ l, chk k = some (q k)) → mapAny chk l = some (l.any q)
 | [], _ => rfl
 | k :: l, h => by
   unfold mapAny
   rw [h k List.mem_cons_self, mapAny_of (l := l) (fun j hj => h j (List.mem_cons_of_mem _ hj))]
   rfl
theorem mem_fol3 {n : Node} {P : Int → Prop} : (∀ k ∈ fol3 n, P k) ↔ P n.Yes ∧ P n.No ∧ P n.Maybe := by simp [fol3]
theorem nextOk_dec {p : List Node} {i : Nat} {n : Node} {k : Int} : (bif ((!(fog_within k ((i : Int) + 1) (((p.length : Nat) : Int) - 1))) || (((p.getD k.toNat default).Test) && (decide ((p.getD k.toNat default).Minute < n.Minute)))) then some true else some false) = some (!decide (NextOk p i n k)) := by
 by_cases h1 : (i : Int) + 1 ≤ k ∧ k ≤ ((p.length : Nat) : Int) - 1
 · rw [fwithin_iff.2 h1]
   cases ht : (p.getD k.toNat default).Test with
   | false => rw [decide_eq_true (p := NextOk p i n k) ⟨h1, fun h => by unfold nd at h; rw [ht] at h; cases h⟩]; rfl
   | true =>
     by_cases h2 : (p.getD k.toNat default).Minute < n.Minute
     · rw [decide_eq_true h2, decide_eq_false (fun h : NextOk p i n k => by have := h.2 ht; unfold nd at this; omega)]; rfl
     · rw [decide_eq_false h2, decide_eq_true (p := NextOk p i n k) ⟨h1, fun h => by unfold nd; omega⟩]; rfl
 · rw [Bool.eq_false_iff.2 (fun h => h1 (fwithin_iff.1 h)), decide_eq_false (fun h : NextOk p i n k => h1 h.1)]; rfl
theorem fisNode_wp (p : List Node) (i : Nat) (hi : i < p.length) (hl : p.length ≤ 31) : Wp (fog_isNode p (i : Int)) (fun b => b = true ↔ NodeOk p i) := by
 unfold fog_isNode
 refine wp_must (by omega) ?_
 simp only [Int.toNat_natCast]
 have en : p.getD i default = nd p i := rfl
 simp only [en]
 generalize hn : nd p i = n
 have hN : NodeOk p i ↔ (n.Test = false → LeafOk n) ∧ (n.Test = true → TestHead n ∧ ∀ k ∈ fol3 n, NextOk p i n k) := by unfold NodeOk; rw [hn]
 rw [hN]
 refine wp_bif (fun ht => ?_) (fun ht => ?_)
 · have ht : n.Test = false := by simpa using ht
   have hz : (((((decide (n.District = 0) && decide (n.Minute = 0)) && decide (n.Limit = 0)) && decide (n.Yes = 0)) && decide (n.No = 0)) && decide (n.Maybe = 0)) = true ↔ (n.District = 0 ∧ n.Minute = 0 ∧ n.Limit = 0 ∧ n.Yes = 0 ∧ n.No = 0 ∧ n.Maybe = 0) := by
     simp only [Bool.and_eq_true, decide_eq_true_eq, and_assoc]
   generalize (((((decide (n.District = 0) && decide (n.Minute = 0)) && decide (n.Limit = 0)) && decide (n.Yes = 0)) && decide (n.No = 0)) && decide (n.Maybe = 0)) = c at hz
   have hG : ∀ {q : Prop}, (q ↔ LeafOk n) → (q ↔ (n.Test = false → LeafOk n) ∧ (n.Test = true → TestHead n ∧ ∀ k ∈ fol3 n, NextOk p i n k)) := fun {q} h => by rw [h, ht]; simp
   cases c with
   | true =>
     refine wp_bind (fareSends_eq n.Sends) (fun b hb => wp_some (hG ?_))
     rw [Bool.true_and, hb]
     exact ⟨fun h => ⟨hz.1 rfl, h⟩, fun h => h.2⟩
   | false =>
     refine wp_offE rfl rfl (wp_some (hG ?_))
     rw [Bool.false_and]
     exact ⟨fun h => (nomatch h), fun h => (nomatch (hz.2 h.1))⟩
 · have ht : n.Test = true := by simpa using ht
   have hG : ∀ {q : Prop}, (q ↔ TestHead n ∧ ∀ k ∈ fol3 n, NextOk p i n k) → (q ↔ (n.Test = false → LeafOk n) ∧ (n.Test = true → TestHead n ∧ ∀ k ∈ fol3 n, NextOk p i n k)) := fun {q} h => by rw [h, ht]; simp
   refine wp_bif (fun hb => wp_some (hG ?_)) (fun hb => ?_)
   · refine ⟨fun h => (nomatch h), fun h => ?_⟩
     obtain ⟨h1, h2, h3, h4⟩ := h.1
     unfold fog_isDistrict fog_isMinute at hb
     simp only [Bool.or_eq_true, decide_eq_true_eq, Bool.not_eq_true', ← Bool.not_eq_true, fwithin_iff] at hb
     rcases hb with ((hb | hb) | hb) | hb
     · exact absurd h1 hb
     · exact absurd h2 hb
     · exact absurd h3 hb
     · omega
   · unfold fog_isDistrict fog_isMinute at hb
     simp only [Bool.or_eq_false_iff, Bool.not_eq_false', decide_eq_false_iff_not, fwithin_iff] at hb
     have hH : TestHead n := ⟨hb.1.1.1, hb.1.1.2, hb.1.2, by omega⟩
     refine wp_must (next_ok n) ?_
     rw [next_keys, mapAny_of (q := fun q => !decide (NextOk p i n (((fog_next n).get q).getD default))) (fun q hq => ?_)]
     · have hany : ∀ b, [1, 0, 2].any (fun q => !decide (NextOk p i n (((fog_next n).get q).getD default))) = b → (b = false ↔ ∀ k ∈ fol3 n, NextOk p i n k) := by
         intro b e
         have e1 : ((fog_next n).get 1).getD default = n.Yes := rfl
         have e2 : ((fog_next n).get 0).getD default = n.No := rfl
         have e3 : ((fog_next n).get 2).getD default = n.Maybe := rfl
         rw [mem_fol3, ← e]
         simp only [List.any_cons, List.any_nil, e1, e2, e3, Bool.or_false, Bool.or_eq_false_iff, Bool.not_eq_false', decide_eq_true_eq]
       refine wp_bif (fun hb => wp_some (hG ?_)) (fun hb => wp_some (hG ?_))
       · exact ⟨fun h => (nomatch h), fun h => (nomatch ((hany _ hb).2 h.2))⟩
       · exact ⟨fun _ => ⟨hH, (hany _ hb).1 rfl⟩, fun _ => rfl⟩
     · have e0 := nextOk_dec (p := p) (i := i) (n := n) (k := ((fog_next n).get q).getD default)
       refine (must_yes (by unfold inI; omega) _).trans ((must_yes (by unfold inI; omega) _).trans ((must_yes (fun h => ?_) _).trans ((must_yes (fun h => ?_) _).trans e0)))
       · simp only [Bool.not_not, fwithin_iff] at h; omega
       · simp only [Bool.not_not, Bool.and_eq_true, fwithin_iff] at h; omega
theorem fcheckPolicy_wp (p : List Node) : Wp (fog_CheckPolicy p) (fun r => (PolOk p ∧ r = 0) ∨ (¬ PolOk p ∧ r = 53)) := by
 unfold fog_CheckPolicy
 by_cases hlen : 1 ≤ p.length ∧ p.length ≤ 31
 · have hw : fog_within ((p.length : Nat) : Int) 1 31 = true := fwithin_iff.2 (by omega)
   rw [hw]
   refine wp_false rfl ?_
   refine wp_range (fun i (s : Mp Bool) => (∀ j, j < i → NodeOk p j) ∧ (names (p.take i)).Nodup ∧ s.card = (names (p.take i)).length ∧ ∀ k, s.get k = if k ∈ names (p.take i) then some true else none) ⟨fun j hj => by omega, by simp [names], rfl, fun k => by simp [names, Mp.empty]⟩ (fun i s K hi hI hK => ?_) (fun s hI => ?_)
   · obtain ⟨I1, I2, I3, I4⟩ := hI
     have et := names_take (p := p) hi
     have sub : ∀ {P : Prop}, ((names (p.take (i + 1))).Nodup → P) → ((names p).Nodup → P) := fun h hn => h (by
       have e : names p = names (p.take (i + 1)) ++ names (p.drop (i + 1)) := by unfold names; rw [← List.flatMap_append, List.take_append_drop]
       rw [e] at hn
       exact (List.nodup_append.1 hn).1)
     refine wp_joinU (wp_bind (fisNode_wp p i hi hlen.2) (fun b hb => wp_bif (fun h => wp_some (.inr ⟨fun V => ?_, rfl⟩)) (fun h => ?_)))
     · have := hb.2 (V.node i hi); rw [this] at h; cases h
     · have hN : NodeOk p i := hb.1 (by simpa using h)
       have I1' : ∀ j, j < i + 1 → NodeOk p j := fun j hj => by
         by_cases e : j = i
         · rw [e]; exact hN
         · exact I1 j (by omega)
       have en : p.getD i default = nd p i := rfl
       simp only [en]
       refine wp_bif (fun ht => hK _ ⟨I1', ?_⟩) (fun ht => ?_)
       · have e2 : nm (nd p i) = [] := by unfold nm; rw [if_neg (by simpa using ht)]
         rw [et, e2, List.append_nil]
         exact ⟨I2, I3, I4⟩
       · have e2 : nm (nd p i) = fol3 (nd p i) := by unfold nm; rw [if_pos (by simpa using ht)]
         show Wp (rangeGo _ _ (fol3 (nd p i)).length 0 s) _
         refine wp_range (fun m (s : Mp Bool) => (names (p.take i) ++ (fol3 (nd p i)).take m).Nodup ∧ s.card = (names (p.take i) ++ (fol3 (nd p i)).take m).length ∧ ∀ k, s.get k = if k ∈ names (p.take i) ++ (fol3 (nd p i)).take m then some true else none) (by rw [List.take_zero, List.append_nil]; exact ⟨I2, I3, I4⟩) (fun m s K2 hm hJ hK2 => ?_) (fun s hJ => hK _ ⟨I1', ?_⟩)
         · obtain ⟨J1, J2, J3⟩ := hJ
           have eL : ([(nd p i).Yes, (nd p i).No, (nd p i).Maybe] : List Int) = fol3 (nd p i) := rfl
           simp only [eL]
           generalize hx : (fol3 (nd p i)).getD m default = x
           have e3 : (fol3 (nd p i)).take (m + 1) = (fol3 (nd p i)).take m ++ [x] := by rw [take_getD hm, hx]
           by_cases hmem : x ∈ names (p.take i) ++ (fol3 (nd p i)).take m
           · refine wp_true (by rw [J3, if_pos hmem]; rfl) (wp_some (.inr ⟨fun V => ?_, rfl⟩))
             refine sub (P := False) (fun hn => ?_) V.nodup
             rw [et, e2, ← List.take_append_drop (m + 1) (fol3 (nd p i)), e3, ← List.append_assoc, ← List.append_assoc, List.nodup_append] at hn
             have hn1 := List.nodup_append.1 hn.1
             exact hn1.2.2 x hmem x (List.mem_singleton.2 rfl) rfl
           · refine wp_false (by rw [J3, if_neg hmem]; rfl) (hK2 _ ?_)
             rw [e3, ← List.append_assoc]
             refine ⟨?_, ?_, fun k => ?_⟩
             · rw [List.nodup_append]
               refine ⟨J1, by simp, fun a ha b hb => ?_⟩
               rw [List.mem_singleton] at hb
               intro e; rw [e, hb] at ha; exact hmem ha
             · unfold Mp.set
               simp only
               rw [J3, if_neg hmem, List.length_append, J2]; rfl
             · unfold Mp.set
               simp only
               by_cases hk : k = x
               · rw [if_pos hk, if_pos (by rw [hk]; simp)]
               · rw [if_neg hk, J3]
                 by_cases h4 : k ∈ names (p.take i) ++ (fol3 (nd p i)).take m
                 · rw [if_pos h4, if_pos (List.mem_append_left _ h4)]
                 · rw [if_neg h4, if_neg (fun h5 => by
                     rcases List.mem_append.1 h5 with h5 | h5
                     · exact h4 h5
                     · exact hk (List.mem_singleton.1 h5))]
         · rw [List.take_length] at hJ
           rw [et, e2]
           exact hJ
   · obtain ⟨I1, I2, I3, I4⟩ := hI
     rw [List.take_length] at I2 I3
     refine wp_mustI (by omega) (wp_ifn (fun h => wp_some (.inr ⟨fun V => ?_, rfl⟩)) (fun h => wp_some (.inl ⟨⟨hlen, I1, I2, by omega⟩, rfl⟩)))
     have := V.count; omega
 · have hw : fog_within ((p.length : Nat) : Int) 1 31 = false := Bool.eq_false_iff.2 (fun h => by have := fwithin_iff.1 h; omega)
   rw [hw]
   exact wp_true rfl (wp_some (.inr ⟨fun V => hlen V.len, rfl⟩))
theorem fpol_ok {p : List Node} (h : PolOk p) : fog_CheckPolicy p = some 0 := by
 obtain ⟨r, e, k⟩ := fcheckPolicy_wp p
 rcases k with ⟨_, k⟩ | ⟨k, _⟩
 · rw [e, k]
 · exact absurd h k
theorem fpol_bad {p : List Node} (h : ¬ PolOk p) : fog_CheckPolicy p = some 53 := by
 obtain ⟨r, e, k⟩ := fcheckPolicy_wp p
 rcases k with ⟨k, _⟩ | ⟨_, k⟩
 · exact absurd k h
 · rw [e, k]
end Go.Sp
end
/- Plain laws, fog: where a policy comes to, and where it still may. No program in sight. -/
section
set_option linter.all false
namespace Go.Sp
open Go.Av
set_option maxRecDepth 100000
def tellL (n : Node) (l : List Report) (night m : Int) : Int :=
 if (pairL (seeL l n.District night m)).isSome then 2 else fog_below (sightL (seeL l n.District night m) n.Minute) n.Limit
theorem tellL_vals (n : Node) (l : List Report) (night m : Int) : tellL n l night m = 0 ∨ tellL n l night m = 1 ∨ tellL n l night m = 2 := by
 unfold tellL
 split
 · exact .inr (.inr rfl)
 · rcases below_vals (sightL (seeL l n.District night m) n.Minute) n.Limit with h | h | h
   · exact .inr (.inl h.1)
   · exact .inl h.1
   · exact .inr (.inr h.1)
theorem ftell_eq {fuel : Nat} (n : Node) (l : List Report) (night m : Int) (hl : l.length ≤ 60) (hf : 61 < fuel) : fog_tell fuel n l night m = some (tellL n l night m) := by
 unfold fog_tell
 have hle : (seeL l n.District night m).length ≤ 60 := Nat.le_trans (List.length_filter_le _ _) hl
 refine Wp.eq (wp_bindE (fsee_eq fuel l _ _ _ hl (by omega)) (wp_bindE (fpair_eq _ (by omega)) ?_))
 unfold tellL
 rw [pairR_two]
 cases (pairL (seeL l n.District night m)).isSome
 · exact wp_false rfl (wp_bindE (fsight_eq _ _) (wp_some rfl))
 · exact wp_true rfl (wp_some rfl)
def nextL (n : Node) (a : Int) : Int := if a = 1 then n.Yes else if a = 0 then n.No else n.Maybe
theorem fnext_eq (n : Node) {a : Int} (h : a = 0 ∨ a = 1 ∨ a = 2) : ((fog_next n).get a).getD default = nextL n a := by
 rcases h with rfl | rfl | rfl <;> rfl
theorem next_mem (n : Node) (a : Int) : nextL n a ∈ fol3 n := by
 unfold nextL fol3
 split
 · simp
 · split <;> simp
def stamp (night : Int) (n : Node) : Int := night * 1440 + n.Minute
theorem stamp_eq {night : Int} {n : Node} (h : 0 ≤ night ∧ night ≤ 100000) (hm : 0 ≤ n.Minute ∧ n.Minute ≤ 1439) : fog_moment night n.Minute = some (stamp night n) := by
 unfold fog_moment stamp
 exact (must_yes (by unfold inI; omega) _).trans (must_yes (by unfold inI; omega) _)
theorem pol_test {p : List Node} (V : PolOk p) {i : Int} (h0 : 0 ≤ i) (h1 : i < p.length) (ht : (nd p i.toNat).Test = true) : TestHead (nd p i.toNat) ∧ ∀ k ∈ fol3 (nd p i.toNat), i + 1 ≤ k ∧ k ≤ (p.length : Int) - 1 ∧ ((nd p k.toNat).Test = true → (nd p i.toNat).Minute ≤ (nd p k.toNat).Minute) := by
 have := (V.node i.toNat (by omega)).2 ht
 refine ⟨this.1, fun k hk => ?_⟩
 have h := this.2 k hk
 unfold NextOk at h
 have e : ((i.toNat : Nat) : Int) = i := by omega
 rw [e] at h
 exact ⟨h.1.1, h.1.2, h.2⟩
def stp (p : List Node) (l : List Report) (night i : Int) : Int := nextL (nd p i.toNat) (tellL (nd p i.toNat) l night (stamp night (nd p i.toNat)))
def pathL (p : List Node) (l : List Report) (night : Int) : Nat → Int → List Int
 | 0, _ => []
 | k + 1, i => if (nd p i.toNat).Test then stp p l night i :: pathL p l night k (stp p l night i) else []
theorem pathL_len (p : List Node) (l : List Report) (night : Int) : ∀ (k : Nat) (i : Int), (pathL p l night k i).length ≤ k
 | 0, _ => Nat.le_refl _
 | k + 1, i => by
   unfold pathL
   split
   · have := pathL_len p l night k (stp p l night i); simp only [List.length_cons]; omega
   · simp
theorem pathL_more {p : List Node} {l : List Report} {night : Int} (V : PolOk p) : ∀ (k k' : Nat) (i : Int), 0 ≤ i → i < p.length → p.length - i.toNat ≤ k → p.length - i.toNat ≤ k' → pathL p l night k i = pathL p l night k' i
 | 0, k', i, h0, h1, hk, hk' => by omega
 | k + 1, 0, i, h0, h1, hk, hk' => by omega
 | k + 1, k' + 1, i, h0, h1, hk, hk' => by
   unfold pathL
   by_cases ht : (nd p i.toNat).Test = true
   · rw [if_pos ht, if_pos ht]
     have := (pol_test V h0 h1 ht).2 _ (next_mem (nd p i.toNat) (tellL (nd p i.toNat) l night (stamp night (nd p i.toNat))))
     rw [pathL_more V k k' (stp p l night i) (by unfold stp; omega) (by unfold stp; omega) (by unfold stp; omega) (by unfold stp; omega)]
   · rw [if_neg ht, if_neg ht]
def pathF (p : List Node) (l : List Report) (night : Int) : List Int := 0 :: pathL p l night p.length 0
theorem path_loop {fuel : Nat} {p : List Node} {l : List Report} {night : Int} (V : PolOk p) {body : (Int × List Int) → ((Int × List Int) → Option (List Int)) → Option (List Int)} {P : List Int → Prop} (hf : 31 < fuel)
   (hb : ∀ (i : Int) (out : List Int) K, 0 ≤ i → i < p.length → out.length ≤ 31 → ((nd p i.toNat).Test = true → TestHead (nd p i.toNat) → Wp (K (stp p l night i, out ++ [stp p l night i])) P) → ((nd p i.toNat).Test = false → P out) → Wp (body (i, out) K) P) (hP : P (pathF p l night)) : Wp (loopGo body fuel (0, [0])) P := by
 refine wp_loop (fun s => 0 ≤ s.1 ∧ s.1 < p.length ∧ s.2 ++ pathL p l night (p.length - s.1.toNat) s.1 = pathF p l night ∧ s.2.length + (p.length - s.1.toNat) ≤ p.length + 1) (fun s => p.length - s.1.toNat) (by have := V.len; simp only; omega) ⟨by simp, by have := V.len; simp only; omega, rfl, by simp; omega⟩ ?_
 rintro ⟨i, out⟩ K ⟨h0, h1, h2, h3⟩ hK
 simp only at h0 h1 h2 h3 hK
 have hlen := V.len
 refine hb i out K h0 h1 (by omega) (fun ht hh => ?_) (fun ht => ?_)
 · have hn := (pol_test V h0 h1 ht).2 _ (next_mem (nd p i.toNat) (tellL (nd p i.toNat) l night (stamp night (nd p i.toNat))))
   have hs : i + 1 ≤ stp p l night i ∧ stp p l night i ≤ (p.length : Int) - 1 := ⟨hn.1, hn.2.1⟩
   refine hK _ ⟨by omega, by omega, ?_, by simp only [List.length_append, List.length_cons, List.length_nil]; omega⟩ (by omega)
   have e : p.length - i.toNat = (p.length - i.toNat - 1) + 1 := by omega
   rw [e] at h2
   unfold pathL at h2
   rw [if_pos ht] at h2
   rw [← h2, List.append_assoc, List.singleton_append, pathL_more V (p.length - (stp p l night i).toNat) (p.length - i.toNat - 1) _ (by omega) (by omega) (by omega) (by omega)]
 · have e : p.length - i.toNat = (p.length - i.toNat - 1) + 1 := by omega
   rw [e] at h2
   unfold pathL at h2
   rw [if_neg (by rw [ht]; simp), List.append_nil] at h2
   rw [h2]; exact hP
theorem fpath_eq {fuel : Nat} {p : List Node} {l : List Report} {night : Int} (V : PolOk p) (hl : l.length ≤ 60) (hn : 0 ≤ night ∧ night ≤ 100000) (hf : 61 < fuel) : fog_path fuel p l night = some (pathF p l night) := by
 unfold fog_path
 refine Wp.eq (path_loop V (l := l) (night := night) (by omega) (fun i out K h0 h1 ho hK hE => ?_) rfl)
 simp only
 refine wp_must (by omega) ?_
 have en : p.getD i.toNat default = nd p i.toNat := rfl
 simp only [en]
 refine wp_bif (fun ht => ?_) (fun ht => wp_some (hE ht))
 have hh := (pol_test V h0 h1 ht).1
 refine wp_must (by omega) (wp_must (by omega) (wp_must (by omega) (wp_bindE (stamp_eq hn hh.2.1) (wp_bindE (ftell_eq _ _ _ _ hl hf) ?_))))
 rw [fnext_eq _ (tellL_vals _ _ _ _)]
 exact wp_mustR (by simp; omega) (hK ht hh)
open Classical in
noncomputable def askR (p : List Node) (l : List Report) (night m : Int) : Int := if ¬ PolOk p then 53 else if ¬ RepsOk l then 51 else if ¬ (dayOk night m) then 6 else 0
theorem askR_zero {p : List Node} {l : List Report} {night m : Int} : askR p l night m = 0 ↔ PolOk p ∧ RepsOk l ∧ dayOk night m := by
 unfold askR
 constructor
 · intro h
   split at h
   · cases h
   · split at h
     · cases h
     · split at h
       · cases h
       · next h1 h2 h3 => exact ⟨Classical.not_not.1 h1, Classical.not_not.1 h2, Classical.not_not.1 h3⟩
 · rintro ⟨h1, h2, h3⟩
   rw [if_neg (fun h => h h1), if_neg (fun h => h h2), if_neg (fun h => h h3)]
theorem fasked_eq (p : List Node) (l : List Report) (night m : Int) : fog_asked p l night m = some (askR p l night m) := by
 unfold fog_asked askR
 refine Wp.eq ?_
 by_cases h1 : PolOk p
 · rw [if_neg (fun h => h h1)]
   refine wp_bindE (fpol_ok h1) (wp_false rfl ?_)
   by_cases h2 : RepsOk l
   · rw [if_neg (fun h => h h2)]
     refine wp_bindE (fcheck_ok h2) (wp_false rfl ?_)
     refine wp_bif (fun hb => ?_) (fun hb => ?_)
     · rw [if_pos (fun h3 : dayOk night m => ?_)]
       · exact wp_some rfl
       · unfold fog_isNight fog_isMoment at hb
         unfold dayOk at h3
         rw [fwithin_iff.2 (by omega), fwithin_iff.2 (by omega)] at hb
         cases hb
     · have h3 : dayOk night m := by
         unfold fog_isNight fog_isMoment at hb
         simp only [Bool.or_eq_false_iff, Bool.not_eq_false', fwithin_iff] at hb
         unfold dayOk; omega
       rw [if_neg (fun h => h h3)]
       exact wp_some rfl
   · rw [if_pos h2]
     exact wp_bindE (fcheck_bad h2) (wp_true rfl (wp_some rfl))
 · rw [if_pos h1]
   exact wp_bindE (fpol_bad h1) (wp_true rfl (wp_some rfl))
noncomputable def pathR (p : List Node) (l : List Report) (night : Int) : List Int × Int := if askR p l night 0 ≠ 0 then ([], askR p l night 0) else (pathF p l night, 0)
theorem fPath_eq {fuel : Nat} (p : List Node) (l : List Report) (night : Int) (hf : 61 < fuel) : fog_Path fuel p l night = some (pathR p l night) := by
 unfold fog_Path pathR
 refine Wp.eq (wp_bindE (fasked_eq p l night 0) (wp_ifn (fun h => ?_) (fun h => ?_)))
 · rw [if_pos h]; exact wp_some rfl
 · rw [if_neg (by simp [h])]
   obtain ⟨V, R, D⟩ := askR_zero.1 h
   exact wp_bindE (fpath_eq V R.len ⟨D.1, D.2.1⟩ hf) (wp_some rfl)
inductive Reach (S : Int → List Int) : Int → Int → Prop
 | refl (a : Int) : Reach S a a
 | step {a b c : Int} : Reach S a b → c ∈ S b → Reach S a c
theorem Reach.trans {S : Int → List Int} {a b c : Int} (h1 : Reach S a b) (h2 : Reach S b c) : Reach S a c := by
 induction h2 with
 | refl => exact h1
 | step _ h ih => exact ih.step h
theorem Reach.mono {S T : Int → List Int} (h : ∀ i k, k ∈ S i → k ∈ T i) {a b : Int} (hr : Reach S a b) : Reach T a b := by
 induction hr with
 | refl => exact .refl _
 | step _ hc ih => exact ih.step (h _ _ hc)
end Go.Sp
end
/- Plain laws, fog: the possible leaves by program and document; FogPolicies. No program in sight. -/
section
set_option linter.all false
namespace Go.Sp
open Go.Av
set_option maxRecDepth 100000
end Go.Sp
end
/- Plain laws, fog: made policies are valid. No program in sight. -/
section
set_option linter.all false
namespace Go.Sp
open Go.Av
set_option maxRecDepth 100000
theorem leaf_wp (a : Arr4 Int) : Wp (gasolierref05_leaf a) (fun n => n.Test = false ∧ LeafOk n) := by
 unfold gasolierref05_leaf
 obtain ⟨b, eb, b1, b2⟩ := mod5_eq a.x1 (m := 2) (by omega) (by omega)
 obtain ⟨c, ec, c1, c2⟩ := mod5_eq a.x2 (m := 3) (by omega) (by omega)
 obtain ⟨d, ed, d1, d2⟩ := mod5_eq a.x3 (m := 3) (by omega) (by omega)
 refine wp_join (fun s : List Send => s = [] ∨ s = [⟨1 + b, 1 + c⟩]) (fun K hK => wp_bif (fun _ => ?_) (fun _ => hK _ (.inl rfl))) (fun s hs => ?_)
 · exact wp_bindE eb (wp_mustI (by omega) (wp_bindE ec (wp_mustI (by omega) (wp_mustR (by simp) (hK _ (.inr rfl))))))
 · refine wp_join (fun s' : List Send => s' = s ∨ s' = s ++ [⟨3 + b, 1 + d⟩]) (fun K hK => wp_bif (fun _ => ?_) (fun _ => hK _ (.inl rfl))) (fun s' hs' => wp_some ⟨rfl, ⟨rfl, rfl, rfl, rfl, rfl, rfl⟩, ?_⟩)
   · exact wp_bindE eb (wp_mustI (by omega) (wp_bindE ed (wp_mustI (by omega) (wp_mustR (by rcases hs with rfl | rfl <;> simp) (hK _ (.inr rfl))))))
   · simp only
     rcases hs with rfl | rfl <;> rcases hs' with rfl | rfl
     · exact ⟨by simp, fun i hi => absurd hi (Nat.not_lt_zero _)⟩
     · refine ⟨by simp, fun i hi => ?_⟩
       have : i = 0 := by simpa using hi
       subst this
       refine ⟨?_, ?_, fun h => absurd h (Nat.lt_irrefl 0)⟩
       · show 1 ≤ 3 + b ∧ 3 + b ≤ 9; omega
       · show 1 ≤ 1 + d ∧ 1 + d ≤ 20; omega
     · refine ⟨by simp, fun i hi => ?_⟩
       have : i = 0 := by simpa using hi
       subst this
       refine ⟨?_, ?_, fun h => absurd h (Nat.lt_irrefl 0)⟩
       · show 1 ≤ 1 + b ∧ 1 + b ≤ 9; omega
       · show 1 ≤ 1 + c ∧ 1 + c ≤ 20; omega
     · refine ⟨by simp, fun i hi => ?_⟩
       have : i = 0 ∨ i = 1 := by simp at hi; omega
       rcases this with rfl | rfl
       · refine ⟨?_, ?_, fun h => absurd h (Nat.lt_irrefl 0)⟩
         · show 1 ≤ 1 + b ∧ 1 + b ≤ 9; omega
         · show 1 ≤ 1 + c ∧ 1 + c ≤ 20; omega
       · refine ⟨?_, ?_, fun _ => ?_⟩
         · show 1 ≤ 3 + b ∧ 3 + b ≤ 9; omega
         · show 1 ≤ 1 + d ∧ 1 + d ≤ 20; omega
         · show 1 + b < 3 + b; omega
def PreOk (out : List Node) (i j : Nat) : Prop := ((nd out j).Test = false → LeafOk (nd out j)) ∧ ((nd out j).Test = true → TestHead (nd out j) ∧ ∀ k ∈ fol3 (nd out j), ((j : Int) + 1 ≤ k ∧ k ≤ (out.length : Int) - 1) ∧ (k.toNat < i → (nd out k.toNat).Test = true → (nd out j).Minute ≤ (nd out k.toNat).Minute) ∧ (i ≤ k.toNat → (nd out j).Minute ≤ (nd out k.toNat).Minute))
structure Pre (t i : Nat) (out : List Node) : Prop where
 len : out.length = 1 + 3 * t
 few : t ≤ 4
 at_ : i ≤ out.length
 nms : names (out.take i) = (List.range (3 * t)).map (fun j : Nat => (j : Int) + 1)
 done : ∀ j, j < i → PreOk out i j
 rest : ∀ j, i ≤ j → j < out.length → (nd out j).Test = false ∧ 0 ≤ (nd out j).Minute ∧ (nd out j).Minute ≤ 1439
theorem pre_ok {t : Nat} {out : List Node} (h : Pre t out.length out) : PolOk out := by
 have hn := h.nms
 rw [List.take_length] at hn
 have hl := h.len
 have hf := h.few
 refine ⟨by omega, fun i hi => ?_, ?_, ?_⟩
 · obtain ⟨d1, d2⟩ := h.done i hi
   refine ⟨d1, fun ht => ⟨(d2 ht).1, fun k hk => ?_⟩⟩
   have := (d2 ht).2 k hk
   exact ⟨this.1, fun hk' => this.2.1 (by omega) hk'⟩
 · rw [hn]; exact nodup_inj List.nodup_range (fun x _ y _ h => by omega)
 · rw [hn]; simp; omega
theorem nd_set {out : List Node} {i j : Nat} {T : Node} (hi : i < out.length) : nd (out.set i T) j = if j = i then T else nd out j := getD_set out i j T default hi
theorem nd_app {out L : List Node} {j : Nat} : nd (out ++ L) j = if j < out.length then nd out j else nd L (j - out.length) := getD_append out L j default
theorem take_set_app {out L : List Node} {i : Nat} {T : Node} (hi : i < out.length) : (out.set i T ++ L).take (i + 1) = out.take i ++ [T] := by
 rw [List.take_append_of_le_length (by simp; omega), take_set_le hi]
theorem names_snoc (l : List Node) (T : Node) : names (l ++ [T]) = names l ++ nm T := by unfold names; rw [List.flatMap_append]; simp
theorem pre_leaf {t i : Nat} {out : List Node} {T : Node} (h : Pre t i out) (hi : i < out.length) (ht : T.Test = false) (hT : LeafOk T) : Pre t (i + 1) (out.set i T) := by
 refine ⟨by rw [List.length_set]; exact h.len, h.few, by rw [List.length_set]; exact hi, ?_, fun j hj => ?_, fun j hj hj2 => ?_⟩
 · rw [take_set_le hi, names_snoc, h.nms]
   have : nm T = [] := by unfold nm; rw [if_neg (by rw [ht]; simp)]
   rw [this, List.append_nil]
 · by_cases e : j = i
   · subst e
     have e2 : nd (out.set j T) j = T := by rw [nd_set hi, if_pos rfl]
     unfold PreOk
     rw [e2]
     exact ⟨fun _ => hT, fun h => by rw [ht] at h; cases h⟩
   · have e2 : nd (out.set i T) j = nd out j := by rw [nd_set hi, if_neg e]
     obtain ⟨d1, d2⟩ := h.done j (by omega)
     unfold PreOk
     rw [e2, List.length_set]
     refine ⟨d1, fun hj' => ⟨(d2 hj').1, fun k hk => ?_⟩⟩
     obtain ⟨g1, g2, g3⟩ := (d2 hj').2 k hk
     refine ⟨g1, fun hk1 => ?_, fun hk1 => ?_⟩
     · by_cases e3 : k.toNat = i
       · rw [nd_set hi, if_pos e3]; intro h; rw [ht] at h; cases h
       · rw [nd_set hi, if_neg e3]; exact g2 (by omega)
     · rw [nd_set hi, if_neg (by omega)]; exact g3 (by omega)
 · rw [List.length_set] at hj2
   rw [nd_set hi, if_neg (by omega)]
   exact h.rest j (by omega) hj2
def rawNode (m : Int) : Node := ⟨false, 0, m, 0, 0, 0, 0, []⟩
theorem pre_test {t i : Nat} {out : List Node} {T : Node} (h : Pre t i out) (hi : i < out.length) (h4 : t < 4) (ht : T.Test = true) (hT : TestHead T) (hf : fol3 T = [(out.length : Int), (out.length : Int) + 1, (out.length : Int) + 2]) (hm : (nd out i).Minute ≤ T.Minute) :
   Pre (t + 1) (i + 1) (out.set i T ++ List.replicate 3 (rawNode T.Minute)) := by
 have hl := h.len
 have hlen : (out.set i T ++ List.replicate 3 (rawNode T.Minute)).length = out.length + 3 := by simp
 have e0 : ∀ j, nd (out.set i T ++ List.replicate 3 (rawNode T.Minute)) j = if j < out.length then (if j = i then T else nd out j) else (if j < out.length + 3 then rawNode T.Minute else default) := by
   intro j
   rw [nd_app, List.length_set]
   by_cases hj : j < out.length
   · rw [if_pos hj, if_pos hj, nd_set hi]
   · rw [if_neg hj, if_neg hj]
     by_cases hj3 : j < out.length + 3
     · rw [if_pos hj3]
       have : j - out.length = 0 ∨ j - out.length = 1 ∨ j - out.length = 2 := by omega
       rcases this with e | e | e <;> rw [e] <;> rfl
     · rw [if_neg hj3]
       unfold nd
       rw [List.getD_eq_getElem?_getD, List.getElem?_eq_none (by simp; omega)]; rfl
 refine ⟨by rw [hlen]; omega, by omega, by rw [hlen]; omega, ?_, fun j hj => ?_, fun j hj hj2 => ?_⟩
 · rw [take_set_app hi, names_snoc, h.nms]
   have : nm T = fol3 T := by unfold nm; rw [if_pos ht]
   rw [this, hf, hl]
   have : 3 * (t + 1) = 3 * t + 1 + 1 + 1 := by omega
   rw [this, List.range_succ, List.range_succ, List.range_succ]
   simp only [List.map_append, List.map_cons, List.map_nil, List.append_assoc]
   congr 1
   simp only [List.singleton_append, List.cons.injEq, and_true]
   refine ⟨by omega, by omega, by omega⟩
 · by_cases e : j = i
   · subst e
     have e2 : nd (out.set j T ++ List.replicate 3 (rawNode T.Minute)) j = T := by rw [e0, if_pos hi, if_pos rfl]
     unfold PreOk
     rw [e2, hlen]
     refine ⟨fun h => (by rw [ht] at h; cases h), fun _ => ⟨hT, fun k hk => ?_⟩⟩
     have hk' : (out.length : Int) ≤ k ∧ k ≤ (out.length : Int) + 2 := by
       rw [hf] at hk
       simp only [List.mem_cons, List.not_mem_nil, or_false] at hk
       omega
     have e3 : nd (out.set j T ++ List.replicate 3 (rawNode T.Minute)) k.toNat = rawNode T.Minute := by rw [e0, if_neg (by omega), if_pos (by omega)]
     rw [e3]
     exact ⟨by omega, fun h => by omega, fun _ => Int.le_refl _⟩
   · have e2 : nd (out.set i T ++ List.replicate 3 (rawNode T.Minute)) j = nd out j := by rw [e0, if_pos (by omega), if_neg e]
     obtain ⟨d1, d2⟩ := h.done j (by omega)
     unfold PreOk
     rw [e2, hlen]
     refine ⟨d1, fun hj' => ⟨(d2 hj').1, fun k hk => ?_⟩⟩
     obtain ⟨g1, g2, g3⟩ := (d2 hj').2 k hk
     refine ⟨by omega, fun hk1 => ?_, fun hk1 => ?_⟩
     · by_cases e3 : k.toNat = i
       · rw [e0, if_pos (by omega), if_pos e3]; intro _
         have := g3 (by omega)
         rw [e3] at this; omega
       · rw [e0, if_pos (by omega), if_neg e3]; exact g2 (by omega)
     · rw [e0, if_pos (by omega), if_neg (by omega)]; exact g3 (by omega)
 · rw [hlen] at hj2
   rw [e0]
   by_cases hj3 : j < out.length
   · rw [if_pos hj3, if_neg (by omega)]; exact h.rest j (by omega) hj3
   · rw [if_neg hj3, if_pos hj2]
     exact ⟨rfl, hT.2.1⟩
theorem policy_wp {fuel : Nat} (hf : 100 < fuel) (q : List (Arr4 Int)) (hq : q.length ≤ 1000000000000000000) : Wp (gasolierref05_Policy fuel q) PolOk := by
 unfold gasolierref05_Policy
 refine wp_ifd (fun h0 => ?_) (fun h0 => ?_)
 · refine wp_bind (leaf_wp _) (fun n hn => wp_some ?_)
   refine pre_ok (t := 0) ?_
   have P0 : Pre 0 0 [rawNode 0] := ⟨rfl, by omega, by simp, rfl, fun j hj => by omega, fun j hj hj2 => by
     have : j = 0 := by simpa using hj2
     subst this; exact ⟨rfl, by decide⟩⟩
   exact pre_leaf P0 (by simp) hn.1 hn.2
 · have P0 : Pre 0 0 [rawNode 0] := ⟨rfl, by omega, by simp, rfl, fun j hj => by omega, fun j hj hj2 => by
     have : j = 0 := by simpa using hj2
     subst this; exact ⟨rfl, by decide⟩⟩
   refine wp_loop (fun s : Int × Int × List Node => ∃ t i : Nat, s.1 = (t : Int) ∧ s.2.1 = (i : Int) ∧ Pre t i s.2.2) (fun s => 14 - s.2.1.toNat) (by simp only; omega) ⟨0, 0, rfl, rfl, P0⟩ ?_
   rintro ⟨s1, s2, out⟩ K ⟨t, i, h1, h2, P⟩ hK
   simp only at h1 h2 P hK
   subst h1 h2
   have hl := P.len
   have h4 := P.few
   refine wp_ifd (fun hlt => ?_) (fun hge => wp_some ?_)
   · have hi : i < out.length := by simp only at hlt; omega
     obtain ⟨y, ey, y1, y2⟩ := mod5_eq (i : Int) (m := ((q.length : Nat) : Int)) (by omega) (by omega)
     refine wp_bindE ey (wp_must (by omega) (wp_must (by simp only; omega) ?_))
     generalize hg : q.getD y.toNat default = g
     have R := P.rest i (Nat.le_refl _) hi
     simp only [Int.toNat_natCast]
     have en : out.getD i default = nd out i := rfl
     simp only [en]
     refine wp_bif (fun hb => ?_) (fun hb => ?_)
     · have ht4 : t < 4 := by
         simp only [Bool.and_eq_true, decide_eq_true_eq] at hb; omega
       obtain ⟨a, ea, a1, a2⟩ := mod5_eq g.x1 (m := 3) (by omega) (by omega)
       obtain ⟨b, eb, b1, b2⟩ := mod5_eq g.x2 (m := 300) (by omega) (by omega)
       obtain ⟨c, ec, c1, c2⟩ := mod5_eq g.x3 (m := 900) (by omega) (by omega)
       refine wp_mustI (by omega) (wp_bindE ea (wp_mustI (by omega) (wp_bindE eb (wp_mustI (by omega) (wp_bindE ec (wp_mustI (by omega) (wp_mustI (by omega) (wp_mustI (by omega) (wp_must (by omega) ?_)))))))))
       generalize hT : (⟨true, (1 + a), (min 1439 ((nd out i).Minute + b)), (1 + c), ((out.length : Nat) : Int), (((out.length : Nat) : Int) + 1), (((out.length : Nat) : Int) + 2), []⟩ : Node) = T
       have hTt : T.Test = true := by rw [← hT]
       have hTm : T.Minute = min 1439 ((nd out i).Minute + b) := by rw [← hT]
       have hTh : TestHead T := by rw [← hT]; unfold TestHead; dsimp only; exact ⟨by omega, by omega, by omega, rfl⟩
       have hTf : fol3 T = [(out.length : Int), (out.length : Int) + 1, (out.length : Int) + 2] := by rw [← hT]; rfl
       have P' := pre_test P hi ht4 hTt hTh hTf (by omega)
       refine wp_for 3 (by omega) (fun m (o : List Node) => o = out.set i T ++ List.replicate m (rawNode T.Minute)) (by simp) (fun m o K2 hm hI hK2 => ?_)
       subst hI
       have hol : (out.set i T ++ List.replicate m (rawNode T.Minute)).length = out.length + m := by simp
       have hoi : (out.set i T ++ List.replicate m (rawNode T.Minute)).getD i default = T := by
         show nd _ i = T
         rw [nd_app, List.length_set, if_pos hi, nd_set hi, if_pos rfl]
       refine wp_ifd (fun hlt3 => ?_) (fun hge3 => ?_)
       · simp only [hoi]
         have er : (⟨false, 0, T.Minute, 0, 0, 0, 0, []⟩ : Node) = rawNode T.Minute := rfl
         simp only [er]
         refine wp_must (by simp only [hol]; omega) (wp_mustR (by rw [List.length_append, hol]; simp only [List.length_cons, List.length_nil]; omega) (wp_mustI (by omega) (hK2 _ (by simp only at hlt3; omega) ?_)))
         rw [List.append_assoc, ← List.replicate_succ']
       · have hm3 : m = 3 := by simp only at hge3; omega
         subst hm3
         refine wp_mustI (by omega) (hK _ ⟨t + 1, i + 1, by simp, by simp, P'⟩ (by simp only; omega))
     · refine wp_bind (leaf_wp g) (fun n hn => wp_must (by omega) (wp_mustI (by omega) (hK _ ⟨t, i + 1, rfl, by simp, pre_leaf P hi hn.1 hn.2⟩ (by simp only; omega))))
   · have hie : i = out.length := by have := P.at_; simp only at hge; omega
     rw [hie] at P
     exact pre_ok P
end Go.Sp
end
/- Plain laws, fog: no foresight. No program in sight. -/
section
set_option linter.all false
namespace Go.Sp
open Go.Av
set_option maxRecDepth 100000
theorem repsOk_of {l : List Report} (hl : l.length ≤ 60) (h : ∀ x ∈ l, RepOk x) (hp : l.Pairwise (fun a b => a.Source < b.Source)) : RepsOk l := by
 refine ⟨hl, fun i hi => ⟨h _ (getD_mem hi), fun h0 => ?_⟩⟩
 have := List.pairwise_iff_getElem.1 hp (i - 1) i (by omega) hi (by omega)
 have ea : l[i - 1] = rp l (i - 1) := by unfold rp; simp [List.getElem?_eq_getElem (show i - 1 < l.length by omega)]
 have eb : l[i] = rp l i := by unfold rp; simp [List.getElem?_eq_getElem hi]
 rw [ea, eb] at this; exact this
theorem repsOk_sub {l l' : List Report} (h : RepsOk l) (hs : l'.Sublist l) : RepsOk l' :=
 repsOk_of (Nat.le_trans hs.length_le h.len) (fun x hx => mem_ok h (hs.subset hx)) ((sorted_all h).sublist hs)
theorem pathF_len {p : List Node} (V : PolOk p) (l : List Report) (night : Int) : 0 < (pathF p l night).length ∧ (pathF p l night).length ≤ 32 := by
 have := pathL_len p l night p.length 0
 have := V.len
 unfold pathF
 rw [List.length_cons]; omega
theorem askR_made {p : List Node} {x : List Report} {m : Int} (V : PolOk p) (R : RepsOk x) (h : 0 ≤ m ∧ m ≤ 144001439) : askR p x 3 m = 0 := askR_zero.2 ⟨V, R, by unfold dayOk; omega⟩
end Go.Sp
end
/- Plain laws, fog: what moves without a report. No program in sight. -/
section
set_option linter.all false
namespace Go.Sp
open Go.Av
set_option maxRecDepth 100000
def lastL (l : List Int) : Int := l.getD (l.length - 1) default
def less (l : List Report) (i : Nat) : List Report := l.take i ++ l.drop (i + 1)
theorem less_sub (l : List Report) (i : Nat) : (less l i).Sublist l := by
 unfold less
 have h : (l.drop (i + 1)).Sublist (l.drop i) := by
   rw [show l.drop (i + 1) = (l.drop i).drop 1 by rw [List.drop_drop]]
   exact List.drop_sublist _ _
 have := (List.Sublist.refl (l.take i)).append h
 rwa [List.take_append_drop] at this
theorem less_split {l : List Report} {i : Nat} (h : i < l.length) : l = l.take i ++ (rp l i :: l.drop (i + 1)) := by
 have e := drop_getD (l := l) h
 unfold rp
 rw [← e, List.take_append_drop]
theorem indexRep_eq (l : List Report) (s : Int) : slices_IndexFunc_Report l (fun x0 => some (fog_Moved_1 x0 s)) = some (match l.findIdx? (fun x => decide (x.Source = s)) with | some i => (i : Int) | none => -1) := by
 unfold slices_IndexFunc_Report
 exact indexFunc_eq (p := fun x0 => some (fog_Moved_1 x0 s)) (q := fun x => decide (x.Source = s)) (fun _ => rfl) l
theorem see_less {l : List Report} {i : Nat} (hi : i < l.length) (d n m : Int) : seeL l d n m = seeL (l.take i) d n m ++ ((if seen d n m (rp l i) then [rp l i] else []) ++ seeL (l.drop (i + 1)) d n m) := by
 have e := less_split hi
 conv => lhs; rw [e]
 unfold seeL
 rw [List.filter_append, List.filter_cons]
 split <;> rfl
theorem see_less2 (l : List Report) (i : Nat) (d n m : Int) : seeL (less l i) d n m = seeL (l.take i) d n m ++ seeL (l.drop (i + 1)) d n m := by
 unfold seeL less
 rw [List.filter_append]
def movL (v w : List Report) (n : Nat) : List Int := ((List.range n).filter (fun m : Nat => (!((pairL v).isSome == (pairL w).isSome)) || ((!(pairL v).isSome) && (!((decide ((sightL v m).Lo = (sightL w m).Lo)) && (decide ((sightL v m).Hi = (sightL w m).Hi))))))).map (fun m : Nat => (m : Int))
theorem movL_succ (v w : List Report) (n : Nat) : movL v w (n + 1) = movL v w n ++ (if ((!((pairL v).isSome == (pairL w).isSome)) || ((!(pairL v).isSome) && (!((decide ((sightL v n).Lo = (sightL w n).Lo)) && (decide ((sightL v n).Hi = (sightL w n).Hi)))))) = true then [(n : Int)] else []) := by
 unfold movL
 rw [List.range_succ, List.filter_append, List.map_append]
 congr 1
 rw [List.filter_cons]
 split <;> rfl
theorem movL_len (v w : List Report) (n : Nat) : (movL v w n).length ≤ n := by
 unfold movL
 rw [List.length_map]
 exact Nat.le_trans (List.length_filter_le _ _) (by simp)
theorem movL_mem {v w : List Report} {n : Nat} {m : Int} (h0 : 0 ≤ m) (h1 : m < n) : m ∈ movL v w n ↔ ((!((pairL v).isSome == (pairL w).isSome)) || ((!(pairL v).isSome) && (!((decide ((sightL v m).Lo = (sightL w m).Lo)) && (decide ((sightL v m).Hi = (sightL w m).Hi)))))) = true := by
 unfold movL
 rw [List.mem_map]
 constructor
 · rintro ⟨k, hk, rfl⟩
   exact (List.mem_filter.1 hk).2
 · intro h
   obtain ⟨k, rfl⟩ : ∃ k : Nat, m = (k : Int) := ⟨m.toNat, by omega⟩
   exact ⟨k, List.mem_filter.2 ⟨List.mem_range.2 (by omega), h⟩, rfl⟩
noncomputable def movedR (p : List Node) (l : List Report) (s night m : Int) : Bool × (List Int) × Int :=
 if askR p l night m ≠ 0 then (false, [], askR p l night m) else
 match l.findIdx? (fun x => decide (x.Source = s)) with
 | none => (false, [], 3)
 | some i => (!decide (lastL (pathF p l night) = lastL (pathF p (less l i) night)), movL (seeL l (rp l i).District night m) (seeL (less l i) (rp l i).District night m) 1440, 0)
theorem delete_less {l : List Report} {i : Nat} (hi : i < l.length) (hl : l.length ≤ 60) : slices_Delete_Report l (i : Int) ((i : Int) + 1) = some (less l i) := by
 unfold slices_Delete_Report
 have e1 : ((i : Int) + 1).toNat = i + 1 := by omega
 have e2 : (l.take i ++ l.drop (i + 1)).length = l.length - 1 := by simp; omega
 refine Wp.eq (wp_must (by omega) (wp_ifd (fun h => by omega) (fun _ => wp_must (by omega) (wp_must (by omega) (wp_must (by omega) ?_)))))
 simp only [Int.toNat_natCast, e1, e2]
 exact wp_must (by omega) (wp_some rfl)
theorem fMoved_eq {fuel : Nat} (p : List Node) (l : List Report) (s night m : Int) (hf : 61 < fuel) : fog_Moved fuel p l s night m = some (movedR p l s night m) := by
 unfold fog_Moved movedR
 refine Wp.eq (wp_bindE (fasked_eq p l night m) (wp_ifn (fun h => ?_) (fun h => ?_)))
 · rw [if_pos h]; exact wp_some rfl
 · rw [if_neg (by simp [h])]
   obtain ⟨V, R, D⟩ := askR_zero.1 h
   have hl := R.len
   refine wp_bindE (indexRep_eq l s) ?_
   cases hx : l.findIdx? (fun x => decide (x.Source = s)) with
   | none => exact wp_true (by simp) (wp_some rfl)
   | some i =>
     have hi : i < l.length := (List.findIdx?_eq_some_iff_getElem.1 hx).1
     simp only
     refine wp_false (by simp) (wp_bindE (v := l) (must_yes (by unfold room; simp; omega) _) (wp_mustI (by omega) (wp_bindE (delete_less hi hl) ?_)))
     have R2 := repsOk_sub R (less_sub l i)
     have hl2 := R2.len
     refine wp_bindE (fpath_eq V hl ⟨D.1, D.2.1⟩ hf) (wp_bindE (fpath_eq V hl2 ⟨D.1, D.2.1⟩ hf) (wp_must (by omega) (wp_bindE (fsee_eq fuel l _ _ _ hl (by omega)) (wp_must (by omega) (wp_bindE (fsee_eq fuel _ _ _ _ hl2 (by omega)) ?_)))))
     have e0 : (l.getD ((i : Int)).toNat default).District = (rp l i).District := rfl
     rw [e0]
     have hv : (seeL l (rp l i).District night m).length ≤ 60 := Nat.le_trans (List.length_filter_le _ _) hl
     have hw : (seeL (less l i) (rp l i).District night m).length ≤ 60 := Nat.le_trans (List.length_filter_le _ _) hl2
     generalize seeL l (rp l i).District night m = v at hv ⊢
     generalize seeL (less l i) (rp l i).District night m = w at hw ⊢
     refine wp_bindE (fpair_eq v (by omega)) (wp_bindE (fpair_eq w (by omega)) ?_)
     rw [pairR_two, pairR_two]
     refine wp_range (fun j s => s = movL v w j) rfl (fun j s K hj hI hK => ?_) (fun s hI => ?_)
     · have es := movL_succ v w j
       have hml := movL_len v w j
       have room_ : (s ++ [(j : Int)]).length * 8 ≤ 140737488355328 ∧ (s ++ [(j : Int)]).length ≤ 9223372036854775807 := by rw [hI]; simp; omega
       cases hb : ((!(!((pairL v).isSome == (pairL w).isSome))) && (!(pairL v).isSome)) with
       | true =>
         refine wp_onE rfl (fsight_eq _ _) (wp_onE rfl (fsight_eq _ _) (wp_bif (fun hc => wp_mustR room_ (hK _ ?_)) (fun hc => hK _ ?_)))
         · rw [es, if_pos hc, hI]
         · rw [es, if_neg (by rw [hc]; simp), List.append_nil, hI]
       | false =>
         refine wp_offE rfl rfl (wp_offE rfl rfl (wp_bif (fun hc => wp_mustR room_ (hK _ ?_)) (fun hc => hK _ ?_)))
         · have : ((!((pairL v).isSome == (pairL w).isSome)) || ((!(pairL v).isSome) && (!((decide ((sightL v j).Lo = (sightL w j).Lo)) && (decide ((sightL v j).Hi = (sightL w j).Hi)))))) = true := by
             cases h1 : (pairL v).isSome <;> cases h2 : (pairL w).isSome <;> simp [h1, h2] at hb hc ⊢
           rw [es, if_pos this, hI]
         · have : ((!((pairL v).isSome == (pairL w).isSome)) || ((!(pairL v).isSome) && (!((decide ((sightL v j).Lo = (sightL w j).Lo)) && (decide ((sightL v j).Hi = (sightL w j).Hi)))))) = false := by
             cases h1 : (pairL v).isSome <;> cases h2 : (pairL w).isSome <;> simp [h1, h2] at hb hc ⊢
           rw [es, if_neg (by rw [this]; simp), List.append_nil, hI]
     · have a1 := pathF_len V l night
       have a2 := pathF_len V (less l i) night
       refine wp_mustI (by omega) (wp_must (by omega) (wp_mustI (by omega) (wp_must (by omega) (wp_some ?_))))
       rw [hI]
       have e1 : ((((pathF p l night).length : Nat) : Int) - 1).toNat = (pathF p l night).length - 1 := by omega
       have e2 : ((((pathF p (less l i) night).length : Nat) : Int) - 1).toNat = (pathF p (less l i) night).length - 1 := by omega
       rw [e1, e2]; rfl
theorem findIdx_src {l : List Report} (R : RepsOk l) {i : Nat} (hi : i < l.length) : l.findIdx? (fun x => decide (x.Source = (rp l i).Source)) = some i := by
 rw [List.findIdx?_eq_some_iff_getElem]
 have ei : l[i] = rp l i := by unfold rp; simp [List.getElem?_eq_getElem hi]
 refine ⟨hi, by rw [ei]; simp, fun j hj => ?_⟩
 have := List.pairwise_iff_getElem.1 (sorted_all R) j i (by omega) hi hj
 rw [ei] at this
 simp; omega
theorem pairL_sub {v w : List Report} (h : w.Sublist v) (hv : pairL v = none) : pairL w = none := by
 rw [pairL_none] at hv ⊢
 exact hv.sublist h
theorem see_sub {l l' : List Report} (h : l'.Sublist l) (d n m : Int) : (seeL l' d n m).Sublist (seeL l d n m) := h.filter _
theorem sight_less {l : List Report} {i : Nat} (hi : i < l.length) {d n at_ m : Int} (h : (seen d n at_ (rp l i) && atMin m (rp l i)) = false) : sightL (seeL (less l i) d n at_) m = sightL (seeL l d n at_) m := by
 rw [see_less hi, see_less2]
 unfold sightL
 congr 1
 rw [List.filter_append, List.filter_append, List.filter_append]
 congr 1
 cases hs : seen d n at_ (rp l i) with
 | false => rfl
 | true =>
   rw [hs, Bool.true_and] at h
   rw [if_pos rfl, List.filter_cons, if_neg (by rw [h]; simp)]; rfl
theorem has_in (l : List Int) (n : Int) (hl : l.length ≤ 1440) : gasolierref05_Has 20000 l n = some (decide (n ∈ l)) := has_eq l n (by omega) (by omega)
theorem fogMoved_true (l : List (Arr7 Int)) (q : List (Arr4 Int)) (n : Arr3 Int) (hq : q.length ≤ 1000000000000000000) : gasolierlaw05_FogMoved 20000 l q n = some true := by
 unfold gasolierlaw05_FogMoved
 refine Wp.eq (wp_bind (made_wp (by omega) l _ (by simp)) (fun x hx => wp_bind (policy_wp (by omega) q hq) (fun p V => ?_)))
 obtain ⟨x1, x2, x3⟩ := hx
 have R := fine_ok x1 (fun i hi => (x3 i hi).1)
 refine wp_ifd (fun h0 => wp_bindE sane_ok (wp_some rfl)) (fun h0 => ?_)
 obtain ⟨y, ey, y1, y2⟩ := mod5_eq n.x1 (m := ((x.length : Nat) : Int)) (by omega) (by omega)
 refine wp_bindE ey (wp_must (by omega) ?_)
 obtain ⟨at_, em, m1, m2⟩ := moment_eq n.x2
 refine wp_bindE em ?_
 obtain ⟨k, rfl⟩ : ∃ k : Nat, y = (k : Int) := ⟨y.toNat, by omega⟩
 have hk : k < x.length := by omega
 refine wp_for x.length (by omega) (fun j s => s = (if j ≤ k then x.take j else x.take k ++ (x.drop (k + 1)).take (j - (k + 1)))) (by rw [if_pos (Nat.zero_le _)]; rfl) (fun j s K hj hI hK => ?_)
 have hsl : s.length ≤ 24 := by
   rw [hI]; split
   · rw [List.length_take]; omega
   · rw [List.length_append, List.length_take, List.length_take]; omega
 refine wp_ifd (fun hlt => ?_) (fun hge => ?_)
 · have hj' : j < x.length := by simp only at hlt; omega
   refine wp_ifn (fun hne => ?_) (fun he => ?_)
   · have hne : j ≠ k := fun e => hne (by rw [e])
     refine wp_must (by simp only; omega) (wp_mustR (by simp; omega) (wp_mustI (by simp only; omega) (hK _ hj' ?_)))
     simp only [Int.toNat_natCast]
     by_cases hjk : j < k
     · rw [if_pos (by omega), hI, if_pos (by omega), take_getD hj']
     · rw [if_neg (by omega), hI, if_neg (by omega), List.append_assoc]
       congr 1
       have e : j + 1 - (k + 1) = (j - (k + 1)) + 1 := by omega
       rw [e, take_getD (by rw [List.length_drop]; omega), getD_drop]
       have e2 : k + 1 + (j - (k + 1)) = j := by omega
       rw [e2]
   · have he : j = k := by simp only at he; omega
     refine wp_mustI (by simp only; omega) (hK _ hj' ?_)
     rw [if_neg (by omega), hI, if_pos (by omega), he]
     simp
 · have hje : j = x.length := by simp only at hge; omega
   have hs : s = less x k := by
     rw [hI, if_neg (by omega), hje]
     unfold less
     rw [List.take_of_length_le (l := x.drop (k + 1)) (by rw [List.length_drop]; omega)]
   subst hs
   have R2 := repsOk_sub R (less_sub x k)
   have ec : x.getD k default = rp x k := rfl
   simp only [Int.toNat_natCast, ec]
   have F := (x3 k hk).1
   have eM : movedR p x (rp x k).Source 3 at_ = (!decide (lastL (pathF p x 3) = lastL (pathF p (less x k) 3)), movL (seeL x (rp x k).District 3 at_) (seeL (less x k) (rp x k).District 3 at_) 1440, 0) := by
     unfold movedR
     rw [if_neg (by simp [askR_made V R (show 0 ≤ at_ ∧ at_ ≤ 144001439 by omega)]), findIdx_src R hk]
   have ep : pathR p x 3 = (pathF p x 3, 0) := by unfold pathR; rw [if_neg (by simp [askR_made V R])]
   have ep2 : pathR p (less x k) 3 = (pathF p (less x k) 3, 0) := by unfold pathR; rw [if_neg (by simp [askR_made V R2])]
   have l1 := pathF_len V x 3
   have l2 := pathF_len V (less x k) 3
   refine wp_bindE (fMoved_eq p x _ 3 at_ (by omega)) (wp_bindE (fPath_eq p x 3 (by omega)) (wp_bindE (fPath_eq p (less x k) 3 (by omega)) (wp_bindE (counting_eq x at_ R (by omega)) ?_)))
   rw [eM, ep, ep2]
   simp only
   have e1 : ((((pathF p x 3).length : Nat) : Int) - 1).toNat = (pathF p x 3).length - 1 := by omega
   have e2 : ((((pathF p (less x k) 3).length : Nat) : Int) - 1).toNat = (pathF p (less x k) 3).length - 1 := by omega
   simp only [e1, e2]
   refine wp_must (fun _ => by unfold inI; omega) (wp_must (fun _ => by omega) (wp_must (fun _ => by unfold inI; omega) (wp_must (fun _ => by omega) (wp_false ?_ ?_))))
   · simp only [Bool.or_eq_false_iff, Bool.not_eq_false', decide_eq_true_eq, decide_eq_false_iff_not]
     refine ⟨⟨⟨⟨⟨⟨?_, ?_⟩, ?_⟩, ?_⟩, ?_⟩, ?_⟩, ?_⟩
     · trivial
     · trivial
     · trivial
     · trivial
     · omega
     · omega
     · simp [lastL]
   · have hlenN : (x.filter (fun y => fog_counts y at_)).length ≤ 12 := Nat.le_trans (List.length_filter_le _ _) x1
     have hhas : decide ((rp x k).Source ∈ (x.filter (fun y => fog_counts y at_)).map (·.Source)) = fog_counts (rp x k) at_ := by
       rw [Bool.eq_iff_iff, decide_eq_true_eq, List.mem_map]
       constructor
       · rintro ⟨y, hy, e⟩
         obtain ⟨y1, y2⟩ := List.mem_filter.1 hy
         have := inj_source (sorted_all R) y1 (getD_mem hk) e
         have e' : y = rp x k := this
         rw [← e']; exact y2
       · intro h; exact ⟨rp x k, List.mem_filter.2 ⟨getD_mem hk, h⟩, rfl⟩
     refine wp_bindE ((has_in _ _ (by rw [List.length_map]; omega)).trans (congrArg some hhas)) ?_
     have hd := F.dist
     have hday : dayOk 3 at_ := by unfold dayOk; omega
     have eC := fClash_eq 20000 x (rp x k).District 3 at_ (by omega)
     have hview : viewR ⟨(rp x k).District, 3, at_, 0, ⟨0, 0⟩, 1⟩ x = (seeL x (rp x k).District 3 at_, 0) := by
       unfold viewR
       rw [if_neg (by simp [R]), if_neg (by unfold argOk; simp only; omega), if_neg (by simp [hday])]
     rw [hview] at eC
     simp only at eC
     refine wp_bindE eC ?_
     have hclr : ∀ {z : List Report}, RepsOk z → ∀ m : Int, 0 ≤ m ∧ m ≤ 1439 → clearR ⟨(rp x k).District, 3, at_, m, ⟨0, 0⟩, 1⟩ z = if (pairL (seeL z (rp x k).District 3 at_)).isSome then ([], 52) else (seeL z (rp x k).District 3 at_, 0) := fun {z} Rz m hm => clearR_ok Rz (by unfold argOk; simp only; omega) hday
     have hseen : seen (rp x k).District 3 at_ (rp x k) = (fog_counts (rp x k) at_ && decide ((rp x k).Night = 3)) := by
       unfold seen
       rw [decide_eq_true rfl, Bool.true_and, Bool.and_comm]
     have hsub : (pairL (seeL x (rp x k).District 3 at_)) = none → pairL (seeL (less x k) (rp x k).District 3 at_) = none := pairL_sub (see_sub (less_sub x k) _ _ _)
     have hsl := fun m : Int => sight_less hk (d := (rp x k).District) (n := 3) (at_ := at_) (m := m)
     have heq : seen (rp x k).District 3 at_ (rp x k) = false → seeL (less x k) (rp x k).District 3 at_ = seeL x (rp x k).District 3 at_ := by
       intro h
       rw [see_less hk, see_less2, if_neg (by rw [h]; simp)]; rfl
     have eS1 := fun m : Int => fSight_eq 20000 x (rp x k).District 3 m at_ (by omega)
     have eS2 := fun m : Int => fSight_eq 20000 (less x k) (rp x k).District 3 m at_ (by omega)
     refine wp_false ?_ ?_
     · cases hs : seen (rp x k).District 3 at_ (rp x k) with
       | true => rw [← hseen, hs]; rfl
       | false =>
         rw [heq hs]
         have : movL (seeL x (rp x k).District 3 at_) (seeL x (rp x k).District 3 at_) 1440 = [] := by
           unfold movL
           rw [List.filter_eq_nil_iff.2 (fun m _ => by simp)]; rfl
         rw [this]; simp
     · refine wp_loop (fun s : Int => 0 ≤ s) (fun s => (1440 - s).toNat) (by omega) (Int.le_refl 0) (fun m K3 hm hK3 => ?_)
       refine wp_ifd (fun hle => ?_) (fun hgt => wp_bindE sane_ok (wp_some rfl))
       have hcx := hclr R m ⟨hm, hle⟩
       have hcl := hclr R2 m ⟨hm, hle⟩
       have e1 := eS1 m
       have e2 := eS2 m
       rw [hcx] at e1
       rw [hcl] at e2
       have hmem := movL_mem (v := seeL x (rp x k).District 3 at_) (w := seeL (less x k) (rp x k).District 3 at_) (n := 1440) hm (by omega)
       refine wp_bindE e1 (wp_bindE e2 (wp_bindE (has_in _ m (movL_len _ _ _)) ?_))
       refine wp_false ?_ (wp_mustI (by omega) (hK3 _ (by omega) (by omega)))
       have hsl := hsl m
       have e3 : decide (m ∈ movL (seeL x (rp x k).District 3 at_) (seeL (less x k) (rp x k).District 3 at_) 1440) = _ := (Bool.eq_iff_iff.2 ((decide_eq_true_eq).to_iff.trans hmem))
       simp only [e3]
       generalize hv : seeL x (rp x k).District 3 at_ = v at *
       generalize hw : seeL (less x k) (rp x k).District 3 at_ = w at *
       cases hpv : pairL v with
       | some z =>
         cases hpw : pairL w with
         | some z2 => simp
         | none => simp
       | none =>
         have hpw := hsub hpv
         rw [hpw]
         simp only [Option.isSome_none, Bool.false_eq_true, if_false, ne_eq, not_true, beq_self_eq_true, Bool.not_true, Bool.not_false, Bool.true_and, Bool.false_or, decide_true, Bool.or_false]
         cases hb : (decide ((sightL v m).Lo = (sightL w m).Lo) && decide ((sightL v m).Hi = (sightL w m).Hi)) with
         | true => simp
         | false =>
           have : (seen (rp x k).District 3 at_ (rp x k) && atMin m (rp x k)) = true := by
             apply Classical.byContradiction
             intro hno
             have := hsl (by simpa using hno)
             rw [this] at hb; simp at hb
           rw [Bool.and_eq_true] at this
           have h2 := fwithin_iff.1 this.2
           rw [decide_eq_false (by omega : ¬ m < (rp x k).From), decide_eq_false (by omega : ¬ (rp x k).To < m)]
           simp
end Go.Sp
end
