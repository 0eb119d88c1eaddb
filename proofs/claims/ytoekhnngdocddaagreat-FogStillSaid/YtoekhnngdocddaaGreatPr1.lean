/- Texts of the framework, or of the plain law, one behind another. -/
import Derived.Test.YtoekhnngdocddaaGreatFr1
import Derived.Test.YtoekhnngdocddaaGreatFr4
import Derived.KernelRfl
/- Rules for plain laws: what a printed definition yields. No program in sight. -/
section
set_option linter.all false
namespace Go.Sp
open Go.Av
def Wp {R : Type} (x : Option R) (P : R → Prop) : Prop := ∃ r, x = some r ∧ P r
theorem Wp.eq {R : Type} {x : Option R} {v : R} (h : Wp x (· = v)) : x = some v := by
 obtain ⟨r, h1, h2⟩ := h; rw [h1, h2]
theorem Wp.of_eq {R : Type} {x : Option R} {v : R} {P : R → Prop} (h : x = some v) (hp : P v) : Wp x P := ⟨v, h, hp⟩
theorem Wp.mono {R : Type} {x : Option R} {P Q : R → Prop} (h : Wp x P) (hp : ∀ r, P r → Q r) : Wp x Q := by
 obtain ⟨r, h1, h2⟩ := h; exact ⟨r, h1, hp r h2⟩
theorem wp_some {R : Type} {r : R} {P : R → Prop} (h : P r) : Wp (some r) P := ⟨r, rfl, h⟩
theorem wp_must {R : Type} {c : Prop} [Decidable c] {x : Option R} {P : R → Prop} (h : c) (k : Wp x P) : Wp (must c x) P := by
 unfold must; rw [if_pos h]; exact k
theorem wp_bind {S R : Type} {x : Option S} {k : S → Option R} {P : R → Prop} {Q : S → Prop} (h : Wp x Q) (hk : ∀ s, Q s → Wp (k s) P) : Wp (bindO x k) P := by
 obtain ⟨r, h1, h2⟩ := h; rw [h1]; exact hk r h2
theorem wp_bindE {S R : Type} {x : Option S} {k : S → Option R} {P : R → Prop} {v : S} (h : x = some v) (hk : Wp (k v) P) : Wp (bindO x k) P := by
 rw [h]; exact hk
theorem wp_bif {R : Type} {b : Bool} {x y : Option R} {P : R → Prop} (h1 : b = true → Wp x P) (h2 : b = false → Wp y P) : Wp (bif b then x else y) P := by
 cases b
 · exact h2 rfl
 · exact h1 rfl
theorem wp_if {R : Type} {p : Prop} {b : Bool} {x y : Option R} {P : R → Prop} (hb : b = true ↔ p) (h1 : p → Wp x P) (h2 : ¬ p → Wp y P) : Wp (bif b then x else y) P :=
 wp_bif (fun h => h1 (hb.1 h)) (fun h => h2 (fun hp => by rw [hb.2 hp] at h; cases h))
theorem wp_ifd {R : Type} {p : Prop} [Decidable p] {x y : Option R} {P : R → Prop} (h1 : p → Wp x P) (h2 : ¬ p → Wp y P) : Wp (bif (decide p) then x else y) P :=
 wp_if (decide_eq_true_iff) h1 h2
theorem wp_ifn {R : Type} {p : Prop} [Decidable p] {x y : Option R} {P : R → Prop} (h1 : ¬ p → Wp x P) (h2 : p → Wp y P) : Wp (bif (!decide p) then x else y) P :=
 wp_bif (fun h => h1 (by simpa using h)) (fun h => h2 (by simpa using h))
theorem wp_true {R : Type} {b : Bool} {x y : Option R} {P : R → Prop} (h : b = true) (h1 : Wp x P) : Wp (bif b then x else y) P := by rw [h]; exact h1
theorem wp_false {R : Type} {b : Bool} {x y : Option R} {P : R → Prop} (h : b = false) (h1 : Wp y P) : Wp (bif b then x else y) P := by rw [h]; exact h1
theorem wp_join {S R : Type} {f : (S → Option R) → Option R} {k : S → Option R} {P : R → Prop} (G : S → Prop) (hf : ∀ K : S → Option R, (∀ s, G s → Wp (K s) P) → Wp (f K) P) (hk : ∀ s, G s → Wp (k s) P) : Wp (joinK f k) P := hf k hk
theorem wp_joinU {S R : Type} {f : (S → Option R) → Option R} {k : S → Option R} {P : R → Prop} (h : Wp (f k) P) : Wp (joinK f k) P := h
theorem wp_range {S R : Type} {body : Nat → S → (S → Option R) → Option R} {ex : S → Option R} {n : Nat} {s0 : S} {P : R → Prop} (Inv : Nat → S → Prop) (h0 : Inv 0 s0)
   (hb : ∀ (i : Nat) s (K : S → Option R), i < n → Inv i s → (∀ s', Inv (i + 1) s' → Wp (K s') P) → Wp (body i s K) P) (he : ∀ s, Inv n s → Wp (ex s) P) : Wp (rangeGo body ex n 0 s0) P := by
 have go : ∀ (m i : Nat), i + m = n → ∀ s, Inv i s → Wp (rangeGo body ex m i s) P := by
   intro m
   induction m with
   | zero => intro i hi s hs; have e : i = n := by omega
             subst e; exact he s hs
   | succ m ih => intro i hi s hs; exact hb i s _ (by omega) hs (fun s' h' => ih (i + 1) (by omega) s' h')
 exact go n 0 (by omega) s0 h0
theorem wp_loop {S R : Type} {body : S → (S → Option R) → Option R} {fuel : Nat} {s0 : S} {P : R → Prop} (Inv : S → Prop) (μ : S → Nat) (hf : μ s0 < fuel) (h0 : Inv s0)
   (hb : ∀ s (K : S → Option R), Inv s → (∀ s', Inv s' → μ s' < μ s → Wp (K s') P) → Wp (body s K) P) : Wp (loopGo body fuel s0) P := by
 have go : ∀ (f : Nat) s, Inv s → μ s < f → Wp (loopGo body f s) P := by
   intro f
   induction f with
   | zero => intro s _ h; omega
   | succ f ih => intro s hs hm; exact hb s _ hs (fun s' h' hl => ih s' h' (by omega))
 exact go fuel s0 h0 hf
theorem wp_for {S R : Type} {body : (Int × S) → ((Int × S) → Option R) → Option R} {fuel : Nat} {s0 : S} {P : R → Prop} (n : Nat) (hf : n < fuel) (Inv : Nat → S → Prop) (h0 : Inv 0 s0)
   (hb : ∀ (i : Nat) s (K : (Int × S) → Option R), i ≤ n → Inv i s → (∀ s', i < n → Inv (i + 1) s' → Wp (K ((i : Int) + 1, s')) P) → Wp (body ((i : Int), s) K) P) : Wp (loopGo body fuel (0, s0)) P := by
 have go : ∀ (f i : Nat) s, i ≤ n → n - i < f → Inv i s → Wp (loopGo body f ((i : Int), s)) P := by
   intro f
   induction f with
   | zero => intro i s _ h; omega
   | succ f ih => intro i s hi hm hs; exact hb i s _ hi hs (fun s' hl h' => ih (i + 1) s' (by omega) (by omega) h')
 exact go fuel 0 s0 (by omega) (by omega) h0
theorem wp_for1 {R : Type} {body : Int → (Int → Option R) → Option R} {fuel : Nat} {P : R → Prop} (n : Nat) (hf : n < fuel) (Inv : Nat → Prop) (h0 : Inv 0)
   (hb : ∀ (i : Nat) (K : Int → Option R), i ≤ n → Inv i → (i < n → Inv (i + 1) → Wp (K ((i : Int) + 1)) P) → Wp (body (i : Int) K) P) : Wp (loopGo body fuel 0) P := by
 have go : ∀ (f i : Nat), i ≤ n → n - i < f → Inv i → Wp (loopGo body f (i : Int)) P := by
   intro f
   induction f with
   | zero => intro i _ h; omega
   | succ f ih => intro i hi hm hs; exact hb i _ hi hs (fun hl h' => ih (i + 1) (by omega) (by omega) h')
 exact go fuel 0 (by omega) (by omega) h0
theorem wp_forS {S R : Type} {body : (S × Int) → ((S × Int) → Option R) → Option R} {fuel : Nat} {s0 : S} {P : R → Prop} (n : Nat) (hf : n < fuel) (Inv : Nat → S → Prop) (h0 : Inv 0 s0)
   (hb : ∀ (i : Nat) s (K : (S × Int) → Option R), i ≤ n → Inv i s → (∀ s', i < n → Inv (i + 1) s' → Wp (K (s', (i : Int) + 1)) P) → Wp (body (s, (i : Int)) K) P) : Wp (loopGo body fuel (s0, 0)) P := by
 have go : ∀ (f i : Nat) s, i ≤ n → n - i < f → Inv i s → Wp (loopGo body f (s, (i : Int))) P := by
   intro f
   induction f with
   | zero => intro i s _ h; omega
   | succ f ih => intro i s hi hm hs; exact hb i s _ hi hs (fun s' hl h' => ih (i + 1) s' (by omega) (by omega) h')
 exact go fuel 0 s0 (by omega) (by omega) h0
end Go.Sp
end
/- More rules for plain laws. No program in sight. -/
section
set_option linter.all false
namespace Go.Sp
open Go.Av
theorem wp_mustI {R : Type} {n : Int} {x : Option R} {P : R → Prop} (h : -9223372036854775808 ≤ n ∧ n ≤ 9223372036854775807) (k : Wp x P) : Wp (must (inI n) x) P := wp_must h k
theorem wp_mustR {R : Type} {n b : Nat} {x : Option R} {P : R → Prop} (h : n * b ≤ 140737488355328 ∧ n ≤ 9223372036854775807) (k : Wp x P) : Wp (must (room n b) x) P := wp_must h k
end Go.Sp
end
/- Rules for plain laws, more of them. No program in sight. -/
section
set_option linter.all false
namespace Go.Sp
open Go.Av
theorem wp_forall {R : Type} {body : Nat → Unit → (Unit → Option R) → Option R} {ex : Unit → Option R} {n : Nat} {P : R → Prop} (good : Nat → Prop)
   (hb : ∀ (i : Nat) (K : Option R), i < n → (∀ j, j < i → good j) → (good i → Wp K P) → Wp (body i () (fun _ => K)) P) (he : (∀ j, j < n → good j) → Wp (ex ()) P) : Wp (rangeGo body ex n 0 ()) P := by
 refine wp_range (fun i _ => ∀ j, j < i → good j) (fun j hj => by omega) (fun i s K hi hI hK => ?_) (fun s hs => he hs)
 have e : K = fun _ => K () := funext fun u => rfl
 rw [e]
 exact hb i (K ()) hi hI (fun g => hK () (fun j hj => by
   by_cases e : j = i
   · rw [e]; exact g
   · exact hI j (by omega)))
theorem wp_onE {S R : Type} {W : Bool} {x y : Option S} {k : S → Option R} {P : R → Prop} {v : S} (hW : W = true) (h : x = some v) (hk : Wp (k v) P) : Wp (bindO (bif W then x else y) k) P := by
 subst hW; rw [h]; exact hk
theorem wp_offE {S R : Type} {W : Bool} {x y : Option S} {k : S → Option R} {P : R → Prop} {v : S} (hW : W = false) (h : y = some v) (hk : Wp (k v) P) : Wp (bindO (bif W then x else y) k) P := by
 subst hW; rw [h]; exact hk
theorem must_yes {R : Type} {c : Prop} [Decidable c] (h : c) (x : Option R) : must c x = x := if_pos h
theorem getD_set {T : Type} (l : List T) (i j : Nat) (x d : T) (hi : i < l.length) : (l.set i x).getD j d = if j = i then x else l.getD j d := by
 simp only [List.getD_eq_getElem?_getD]
 by_cases e : j = i
 · subst e; rw [List.getElem?_set_self hi, if_pos rfl]; rfl
 · rw [List.getElem?_set_ne (fun h => e h.symm), if_neg e]
theorem getD_snoc {T : Type} (l : List T) (x d : T) (i : Nat) : (l ++ [x]).getD i d = if i = l.length then x else l.getD i d := by
 simp only [List.getD_eq_getElem?_getD]
 rcases Nat.lt_trichotomy i l.length with h | h | h
 · rw [List.getElem?_append_left h, if_neg (by omega)]
 · subst h; simp
 · rw [if_neg (by omega), List.getElem?_eq_none (by simp; omega), List.getElem?_eq_none (by omega)]
theorem getD_mem {T : Type} [Inhabited T] {l : List T} {i : Nat} (h : i < l.length) : l.getD i default ∈ l := by
 rw [List.getD_eq_getElem?_getD, List.getElem?_eq_getElem h]; exact List.getElem_mem h
theorem mem_getD {T : Type} [Inhabited T] {l : List T} {x : T} (h : x ∈ l) : ∃ i, i < l.length ∧ l.getD i default = x := by
 obtain ⟨i, hi, rfl⟩ := List.getElem_of_mem h
 exact ⟨i, hi, by rw [List.getD_eq_getElem?_getD, List.getElem?_eq_getElem hi]; rfl⟩
theorem getD_take {T : Type} (l : List T) (n i : Nat) (d : T) : (l.take n).getD i d = if i < n then l.getD i d else d := by
 simp only [List.getD_eq_getElem?_getD, List.getElem?_take]
 split <;> rfl
theorem getD_append {T : Type} (l r : List T) (i : Nat) (d : T) : (l ++ r).getD i d = if i < l.length then l.getD i d else r.getD (i - l.length) d := by
 simp only [List.getD_eq_getElem?_getD]
 split
 · rename_i h; rw [List.getElem?_append_left h]
 · rename_i h; rw [List.getElem?_append_right (by omega)]
theorem ext_getD {T : Type} [Inhabited T] {l r : List T} (hl : l.length = r.length) (h : ∀ i, i < l.length → l.getD i default = r.getD i default) : l = r := by
 refine List.ext_getElem hl (fun i h1 h2 => ?_)
 have := h i h1
 rw [List.getD_eq_getElem?_getD, List.getD_eq_getElem?_getD, List.getElem?_eq_getElem h1, List.getElem?_eq_getElem h2] at this
 exact this
theorem nodup_le {T : Type} [DecidableEq T] : ∀ {l r : List T}, l.Nodup → (∀ x ∈ l, x ∈ r) → l.length ≤ r.length
 | [], r, _, _ => Nat.zero_le _
 | x :: l, r, hn, hs => by
   have hx := hs x List.mem_cons_self
   rw [List.nodup_cons] at hn
   have := nodup_le (l := l) (r := r.erase x) hn.2 (fun y hy => (List.mem_erase_of_ne (fun (e : y = x) => hn.1 (e ▸ hy))).2 (hs y (List.mem_cons_of_mem _ hy)))
   rw [List.length_erase_of_mem hx] at this
   have := List.length_pos_of_mem hx
   simp only [List.length_cons]; omega
theorem nodup_inj {S T : Type} {f : S → T} : ∀ {l : List S}, l.Nodup → (∀ x ∈ l, ∀ y ∈ l, f x = f y → x = y) → (l.map f).Nodup
 | [], _, _ => List.nodup_nil
 | x :: l, hn, hi => by
   rw [List.nodup_cons] at hn
   rw [List.map_cons, List.nodup_cons]
   refine ⟨fun hm => ?_, nodup_inj hn.2 (fun a ha b hb => hi a (List.mem_cons_of_mem _ ha) b (List.mem_cons_of_mem _ hb))⟩
   obtain ⟨y, hy, e⟩ := List.mem_map.1 hm
   have := hi x List.mem_cons_self y (List.mem_cons_of_mem _ hy) e.symm
   exact hn.1 (this ▸ hy)
theorem emit_range {A : Type} {body : Nat → Unit → (Unit → Option (List A)) → Option (List A)} {n : Nat} (W : Nat → Bool) (x : Nat → A)
   (hb : ∀ (i : Nat) (r : Option (List A)), i < n → body i () (fun _ => r) = emitIf (W i) (x i) r) : rangeGo body (fun _ => some []) n 0 () = some (((List.range' 0 n).filter W).map x) := by
 have go : ∀ m i, i + m = n → rangeGo body (fun _ => some []) m i () = some (((List.range' i m).filter W).map x) := by
   intro m
   induction m with
   | zero => intro i _; rfl
   | succ m ih =>
     intro i hi
     have e : rangeGo body (fun _ => some []) (m + 1) i () = body i () (fun u => rangeGo body (fun _ => some []) m (i + 1) u) := rfl
     rw [e]
     have e2 : (fun u => rangeGo body (fun _ => some ([] : List A)) m (i + 1) u) = fun _ => some (((List.range' (i + 1) m).filter W).map x) := by
       funext u; exact ih (i + 1) (by omega)
     rw [e2, hb i _ (by omega), List.range'_succ, List.filter_cons]
     cases W i <;> rfl
 exact go n 0 (by omega)
end Go.Sp
end
/- Plain laws, fog: valid reports, what a view is, contradictions, the sight. No program in sight. -/
section
set_option linter.all false
namespace Go.Sp
open Go.Av
set_option maxRecDepth 100000
structure RepOk (x : Report) : Prop where
 src : 1 ≤ x.Source ∧ x.Source ≤ 99999
 dist : 1 ≤ x.District ∧ x.District ≤ 9
 night : 0 ≤ x.Night ∧ x.Night ≤ 100000
 time : 0 ≤ x.From ∧ x.From ≤ x.To ∧ x.To ≤ 1439
 sight : 0 ≤ x.Sight.Lo ∧ x.Sight.Lo ≤ x.Sight.Hi ∧ x.Sight.Hi ≤ 5000
 known : 0 ≤ x.Known ∧ x.Known ≤ 144001439
 till : x.Until = 0 ∨ (x.Known < x.Until ∧ 0 ≤ x.Until ∧ x.Until ≤ 144001439)
theorem fwithin_iff {a b c : Int} : fog_within a b c = true ↔ b ≤ a ∧ a ≤ c := by simp [fog_within]
theorem frange_iff {r : Range} {c : Int} : fog_isRange r c = true ↔ 0 ≤ r.Lo ∧ r.Lo ≤ r.Hi ∧ r.Hi ≤ c := by simp [fog_isRange, and_assoc]
theorem fcheckReport_iff {x : Report} : fog_CheckReport x = 0 ↔ RepOk x := by
 have e : (bif (((((((!(fog_within x.Source 1 99999)) || (!(fog_isDistrict x.District))) || (!(fog_isNight x.Night))) || (!(fog_isRange (⟨x.From, x.To⟩ : Range) 1439))) || (!(fog_isRange x.Sight 5000))) || (!(fog_isMoment x.Known))) || ((!decide (x.Until = 0)) && ((decide (x.Until ≤ x.Known)) || (!(fog_isMoment x.Until))))) then (50 : Int) else 0) = 0 ↔ (((((((!(fog_within x.Source 1 99999)) || (!(fog_isDistrict x.District))) || (!(fog_isNight x.Night))) || (!(fog_isRange (⟨x.From, x.To⟩ : Range) 1439))) || (!(fog_isRange x.Sight 5000))) || (!(fog_isMoment x.Known))) || ((!decide (x.Until = 0)) && ((decide (x.Until ≤ x.Known)) || (!(fog_isMoment x.Until))))) = false := by
   generalize (((((((!(fog_within x.Source 1 99999)) || (!(fog_isDistrict x.District))) || (!(fog_isNight x.Night))) || (!(fog_isRange (⟨x.From, x.To⟩ : Range) 1439))) || (!(fog_isRange x.Sight 5000))) || (!(fog_isMoment x.Known))) || ((!decide (x.Until = 0)) && ((decide (x.Until ≤ x.Known)) || (!(fog_isMoment x.Until))))) = b
   cases b <;> simp
 unfold fog_CheckReport
 rw [e]
 simp only [fog_isDistrict, fog_isNight, fog_isMoment, Bool.or_eq_false_iff, Bool.and_eq_false_iff, Bool.not_eq_false', fwithin_iff, frange_iff, decide_eq_true_eq, decide_eq_false_iff_not]
 constructor
 · rintro ⟨⟨⟨⟨⟨⟨h1, h2⟩, h3⟩, h4⟩, h5⟩, h6⟩, h7⟩
   exact ⟨h1, h2, h3, h4, h5, h6, by rcases h7 with h7 | h7 <;> omega⟩
 · rintro ⟨h1, h2, h3, h4, h5, h6, h7⟩
   exact ⟨⟨⟨⟨⟨⟨h1, h2⟩, h3⟩, h4⟩, h5⟩, h6⟩, by omega⟩
def rp (l : List Report) (i : Nat) : Report := l.getD i default
structure RepsOk (l : List Report) : Prop where
 len : l.length ≤ 60
 all : ∀ i, i < l.length → RepOk (rp l i) ∧ (0 < i → (rp l (i - 1)).Source < (rp l i).Source)
theorem fcompare_nonneg (a b : Report) : 0 ≤ fog_compare a b ↔ b.Source ≤ a.Source := by
 unfold fog_compare cmp_Compare_int cmp_isNaN_int
 by_cases h1 : a.Source < b.Source
 · simp [h1]
 · by_cases h2 : b.Source < a.Source <;> simp [h1, h2] <;> omega
theorem fcheck_wp (l : List Report) : Wp (fog_Check l) (fun r => (RepsOk l ∧ r = 0) ∨ (¬ RepsOk l ∧ r = 51)) := by
 unfold fog_Check
 refine wp_ifd (fun h => wp_some (.inr ⟨fun V => by have := V.len; omega, rfl⟩)) (fun h => ?_)
 refine wp_forall (fun i => RepOk (rp l i) ∧ (0 < i → (rp l (i - 1)).Source < (rp l i).Source)) (fun i K hi _ hK => ?_) (fun h1 => wp_some (.inl ⟨⟨by omega, h1⟩, rfl⟩))
 refine wp_must (fun _ => by unfold inI; omega) ?_
 refine wp_must (fun h => by simp at h; omega) ?_
 have e : (((i : Int) - 1)).toNat = i - 1 := by omega
 rw [e]
 refine wp_bif (fun hb => wp_some (.inr ⟨fun V => ?_, rfl⟩)) (fun hb => ?_)
 · obtain ⟨a1, a2⟩ := V.all i hi
   unfold rp at a1 a2
   have a3 := fcheckReport_iff.2 a1
   simp only [a3, Bool.or_eq_true, Bool.and_eq_true, decide_eq_true_eq, Bool.not_eq_true', fcompare_nonneg] at hb
   rcases hb with hb | hb
   · simp at hb
   · have := a2 (by omega); omega
 · simp only [Bool.or_eq_false_iff, Bool.and_eq_false_iff, Bool.not_eq_false', decide_eq_true_eq, decide_eq_false_iff_not, fcompare_nonneg] at hb
   refine hK ⟨fcheckReport_iff.1 hb.1, fun h0 => ?_⟩
   unfold rp
   rcases hb.2 with h | h <;> omega
theorem fcheck_ok {l : List Report} (h : RepsOk l) : fog_Check l = some 0 := by
 obtain ⟨r, e, h1 | h1⟩ := fcheck_wp l
 · rw [e, h1.2]
 · exact absurd h h1.1
theorem fcheck_bad {l : List Report} (h : ¬ RepsOk l) : fog_Check l = some 51 := by
 obtain ⟨r, e, h1 | h1⟩ := fcheck_wp l
 · exact absurd h1.1 h
 · rw [e, h1.2]
theorem indexFunc_eq {T : Type} [Inhabited T] {p : T → Option Bool} {q : T → Bool} (hp : ∀ x, p x = some (q x)) (l : List T) :
   (rangeGo (fun i1 (s1 : Unit) k1 => bindO (p (l.getD i1 default)) fun y3 => (bif y3 then some (i1 : Int) else k1 ())) (fun (s1 : Unit) => some (-1)) l.length 0 () : Option Int) = some (match l.findIdx? q with | some i => (i : Int) | none => -1) := by
 refine (wp_forall (P := fun r => r = (match l.findIdx? q with | some i => (i : Int) | none => -1)) (fun i => q (l.getD i default) = false) (fun i K hi hb hK => ?_) (fun h1 => ?_)).eq
 · rw [hp]
   refine wp_bif (fun h => wp_some ?_) (fun h => hK h)
   have : l.findIdx? q = some i := by
     rw [List.findIdx?_eq_some_iff_getElem]
     refine ⟨hi, ?_, fun j hj => ?_⟩
     · rw [List.getD_eq_getElem?_getD, List.getElem?_eq_getElem hi] at h; exact h
     · have := hb j hj
       rw [List.getD_eq_getElem?_getD, List.getElem?_eq_getElem (by omega)] at this
       simpa using this
   rw [this]
 · refine wp_some ?_
   have : l.findIdx? q = none := by
     rw [List.findIdx?_eq_none_iff]
     intro x hx
     obtain ⟨i, hi, rfl⟩ := mem_getD hx
     exact h1 i hi
   rw [this]
theorem take_set_le {T : Type} {l : List T} {i : Nat} {x : T} (h : i < l.length) : (l.set i x).take (i + 1) = l.take i ++ [x] := by
 rw [List.take_add_one, List.getElem?_set_self h, List.take_set_of_le (Nat.le_refl _)]; rfl
theorem take_copyAt {T : Type} [Inhabited T] (l : List T) (a m : Nat) (f : Nat → T) (h : a ≤ l.length) : (copyAt l a m f).take a = l.take a := by
 refine ext_getD (by simp [copyAt]) (fun i hi => ?_)
 have hi' : i < a := by simp [copyAt] at hi; omega
 rw [getD_take, getD_take, if_pos hi', if_pos hi']
 unfold copyAt
 rw [List.getD_eq_getElem?_getD, List.getElem?_map, List.getElem?_range (by omega)]
 simp only [Option.map_some, Option.getD_some]
 rw [if_neg (by omega)]
theorem drop_getD {T : Type} [Inhabited T] {l : List T} {i : Nat} (h : i < l.length) : l.drop i = l.getD i default :: l.drop (i + 1) := by
 rw [List.getD_eq_getElem?_getD, List.getElem?_eq_getElem h]; exact List.drop_eq_getElem_cons h
theorem take_getD {T : Type} [Inhabited T] {l : List T} {i : Nat} (h : i < l.length) : l.take (i + 1) = l.take i ++ [l.getD i default] := by
 rw [List.take_add_one, List.getD_eq_getElem?_getD, List.getElem?_eq_getElem h]; rfl
theorem deleteFunc_eq {T : Type} [Inhabited T] (z : T) {p : T → Option Bool} {q : T → Bool} (hp : ∀ x, p x = some (q x)) (l : List T) (fuel : Nat) (hf : l.length < fuel) (hl : l.length < 9223372036854775807) :
   (bindO (rangeGo (fun i1 (s1 : Unit) k1 => bindO (p (l.getD i1 default)) fun y3 => (bif y3 then some (i1 : Int) else k1 ())) (fun (s1 : Unit) => some (-1)) l.length 0 () : Option Int) fun y1 => (bif (decide (y1 = (-1))) then some l else must (inI (y1 + 1)) <| (loopGo (fun (s5 : Int × Int × (List T)) k5 => (bif (decide (s5.2.1 < ((s5.2.2.length : Nat) : Int))) then must (0 ≤ (s5.2.1 : Int) ∧ (s5.2.1 : Int) < ((s5.2.2.length : Nat) : Int)) <| bindO (p (s5.2.2.getD (s5.2.1).toNat default)) fun y8 => (bif (!y8) then must (0 ≤ (s5.1 : Int) ∧ (s5.1 : Int) < ((s5.2.2.length : Nat) : Int)) <| must (inI (s5.1 + 1)) <| must (inI (s5.2.1 + 1)) <| k5 ((s5.1 + 1), (s5.2.1 + 1), (s5.2.2.set (s5.1).toNat (s5.2.2.getD (s5.2.1).toNat default))) else must (inI (s5.2.1 + 1)) <| k5 (s5.1, (s5.2.1 + 1), s5.2.2)) else must (0 < s5.2.2.length ∧ 0 ≤ (s5.1 : Int) ∧ (s5.1 : Int) ≤ ((s5.2.2.length : Nat) : Int)) <| must (0 < (copyAt s5.2.2 ((s5.1).toNat) (s5.2.2.length - (s5.1).toNat) (fun _ => z)).length ∧ 0 ≤ (s5.1 : Int) ∧ (s5.1 : Int) ≤ (((copyAt s5.2.2 ((s5.1).toNat) (s5.2.2.length - (s5.1).toNat) (fun _ => z)).length : Nat) : Int)) <| some ((copyAt s5.2.2 ((s5.1).toNat) (s5.2.2.length - (s5.1).toNat) (fun _ => z)).take ((s5.1).toNat)))) fuel (y1, (y1 + 1), l))) : Option (List T)) = some (l.filter (fun x => !q x)) := by
 rw [indexFunc_eq hp l]
 refine Wp.eq (wp_bindE rfl ?_)
 cases hi : l.findIdx? q with
 | none =>
   rw [List.findIdx?_eq_none_iff] at hi
   refine wp_true (by simp) (wp_some ?_)
   exact (List.filter_eq_self.2 (fun x hx => by rw [hi x hx]; rfl)).symm
 | some i =>
   rw [List.findIdx?_eq_some_iff_getElem] at hi
   obtain ⟨h1, h2, h3⟩ := hi
   refine wp_false (by simp) (wp_mustI (by simp only; omega) ?_)
   refine wp_loop (fun s => ∃ a b : Nat, s.1 = (a : Int) ∧ s.2.1 = (b : Int) ∧ a < b ∧ b ≤ l.length ∧ s.2.2.length = l.length ∧ s.2.2.take a = (l.take b).filter (fun x => !q x) ∧ s.2.2.drop b = l.drop b) (fun s => l.length - s.2.1.toNat) (by simp only; omega) ⟨i, i + 1, rfl, by simp, by omega, by omega, rfl, ?_, rfl⟩ ?_
   · rw [take_getD h1, List.filter_append]
     have e1 : (l.take i).filter (fun x => !q x) = l.take i := List.filter_eq_self.2 (fun x hx => by
       obtain ⟨j, hj, rfl⟩ := List.getElem_of_mem hx
       have hj' : j < i := by simp at hj; omega
       have := h3 j hj'
       simp only [List.getElem_take]
       simpa using this)
     have e2 : q (l.getD i default) = true := by rw [List.getD_eq_getElem?_getD, List.getElem?_eq_getElem h1]; exact h2
     rw [e1]; simp [e2, -List.getD_eq_getElem?_getD]
   · rintro ⟨s1, s2, s3⟩ K ⟨a, b, rfl, rfl, hab, hb, hlen, ht, hd⟩ hK
     simp only at hK ht hd hlen ⊢
     refine wp_ifd (fun hlt => ?_) (fun hge => ?_)
     · have hbl : b < l.length := by omega
       refine wp_must (by omega) ?_
       rw [hp]
       simp only [Int.toNat_natCast]
       have ex : s3.getD b default = l.getD b default := by
         have := drop_getD (l := s3) (i := b) (by omega)
         rw [hd, drop_getD hbl] at this
         exact (List.cons.inj this).1.symm
       have hd1 : s3.drop (b + 1) = l.drop (b + 1) := by
         have := drop_getD (l := s3) (i := b) (by omega)
         rw [hd, drop_getD hbl] at this
         exact (List.cons.inj this).2.symm
       refine wp_bindE rfl ?_
       rw [ex]
       refine wp_bif (fun hq => ?_) (fun hq => ?_)
       · refine wp_must (by omega) (wp_mustI (by omega) (wp_mustI (by omega) ?_))
         refine hK _ ⟨a + 1, b + 1, by simp, by simp, by omega, by omega, by simp [hlen], ?_, ?_⟩ (by simp only; omega)
         · rw [take_set_le (by omega), ht, take_getD hbl, List.filter_append]
           simp only [Bool.not_eq_true'] at hq
           simp [hq, -List.getD_eq_getElem?_getD]
         · rw [List.drop_set_of_lt (by omega)]; exact hd1
       · refine wp_mustI (by omega) (hK _ ⟨a, b + 1, rfl, by simp, by omega, by omega, hlen, ?_, hd1⟩ (by simp only; omega))
         rw [ht, take_getD hbl, List.filter_append]
         simp only [Bool.not_eq_false'] at hq
         simp [hq, -List.getD_eq_getElem?_getD]
     · refine wp_must (by omega) (wp_must ?_ (wp_some ?_))
       · rw [length_copyAt]; omega
       · simp only [Int.toNat_natCast]
         rw [take_copyAt _ _ _ _ (by omega), ht, List.take_of_length_le (by omega)]
def seen (d n m : Int) (x : Report) : Bool := (decide (x.District = d) && decide (x.Night = n)) && fog_counts x m
def seeL (l : List Report) (d n m : Int) : List Report := l.filter (seen d n m)
theorem fsee_eq (fuel : Nat) (l : List Report) (d n m : Int) (h : l.length ≤ 60) (hf : 60 < fuel) : fog_see fuel l d n m = some (seeL l d n m) := by
 unfold fog_see slices_Clone_Report
 refine Wp.eq (wp_bind (Q := fun r => r = l) (wp_mustR (by simp; omega) (wp_some (by simp))) ?_)
 rintro s rfl
 have e := deleteFunc_eq (⟨0, 0, 0, 0, 0, (⟨0, 0⟩ : Range), 0, 0⟩ : Report) (p := fun x0 => some (fog_see_1 x0 d n m)) (q := fun x => fog_see_1 x d n m) (fun _ => rfl) s fuel (by omega) (by omega)
 refine wp_bindE (v := s.filter (fun x => !fog_see_1 x d n m)) e (wp_some ?_)
 unfold seeL
 congr 1
 funext x
 unfold fog_see_1 seen
 cases decide (x.District = d) <;> cases decide (x.Night = n) <;> cases fog_counts x m <;> rfl
def pairL : List Report → Option (Report × Report)
 | [] => none
 | a :: l => match l.find? (fun b => fog_clash a b) with
   | some b => some (a, b)
   | none => pairL l
def pairR (l : List Report) : List Int × Bool := match pairL l with
 | some (a, b) => ([a.Source, b.Source], true)
 | none => ([], false)
theorem find_range {T R : Type} [Inhabited T] {l : List T} {q : T → Bool} {body : Nat → Unit → (Unit → Option R) → Option R} {ex : Unit → Option R} (f : T → Option R)
   (hb : ∀ (i : Nat) (K : Option R), i < l.length → body i () (fun _ => K) = bif q (l.getD i default) then f (l.getD i default) else K) :
   rangeGo body ex l.length 0 () = match l.find? q with | some x => f x | none => ex () := by
 have go : ∀ (m i : Nat), i + m = l.length → rangeGo body ex m i () = match (l.drop i).find? q with | some x => f x | none => ex () := by
   intro m
   induction m with
   | zero => intro i hi; rw [List.drop_of_length_le (by omega)]; rfl
   | succ m ih =>
     intro i hi
     have e : rangeGo body ex (m + 1) i () = body i () (fun u => rangeGo body ex m (i + 1) u) := rfl
     have e2 : (fun u => rangeGo body ex m (i + 1) u) = fun _ => rangeGo body ex m (i + 1) () := by funext u; rfl
     rw [e, e2, hb i _ (by omega), drop_getD (by omega : i < l.length), List.find?_cons, ih (i + 1) (by omega)]
     cases q (l.getD i default) <;> rfl
 have := go l.length 0 (by omega)
 rw [List.drop_zero] at this
 exact this
theorem fpair_eq (l : List Report) (hl : l.length ≤ 9223372036854775807) : fog_view__pair l = some (pairR l) := by
 unfold fog_view__pair
 have go : ∀ (m i : Nat), i + m = l.length → rangeGo (fun i1 (s1 : Unit) k1 => must ((0 : Int) ≤ ((i1 : Int) + 1) ∧ (((i1 : Int) + 1) : Int) ≤ ((l.length : Nat) : Int)) <| (rangeGo (fun i4 (s4 : Unit) k4 => (bif (fog_clash (l.getD i1 default) ((l.drop (((i1 : Int) + 1)).toNat).getD i4 default)) then some (([(l.getD i1 default).Source, ((l.drop (((i1 : Int) + 1)).toNat).getD i4 default).Source] : List Int), true) else k4 ())) (fun (s4 : Unit) => k1 ()) ((l.drop (((i1 : Int) + 1)).toNat).length) 0 ())) (fun (s1 : Unit) => some ([], false)) m i () = some (pairR (l.drop i)) := by
   intro m
   induction m with
   | zero => intro i hi; rw [List.drop_of_length_le (by omega)]; rfl
   | succ m ih =>
     intro i hi
     have hlt : i < l.length := by omega
     conv => lhs; unfold rangeGo
     have et : ((i : Int) + 1).toNat = i + 1 := by omega
     rw [must_yes (by omega), et, ih (i + 1) (by omega)]
     rw [find_range (l := l.drop (i + 1)) (q := fun b => fog_clash (l.getD i default) b) (fun b => some ([(l.getD i default).Source, b.Source], true)) (fun j K _ => rfl)]
     rw [drop_getD hlt]
     conv => rhs; unfold pairR pairL
     cases (l.drop (i + 1)).find? (fun b => fog_clash (l.getD i default) b) with
     | none => rfl
     | some b => rfl
 have := go l.length 0 (by omega)
 rw [List.drop_zero] at this
 exact this
theorem pairR_two (l : List Report) : (pairR l).2 = (pairL l).isSome := by
 unfold pairR; cases pairL l <;> rfl
theorem pairL_none {l : List Report} : pairL l = none ↔ l.Pairwise (fun a b => fog_clash a b = false) := by
 induction l with
 | nil => simp [pairL]
 | cons a l ih =>
   rw [List.pairwise_cons]
   unfold pairL
   cases h : l.find? (fun b => fog_clash a b) with
   | some b =>
     have h1 := List.find?_some h
     have h2 := List.mem_of_find?_eq_some h
     simp only [reduceCtorEq, false_iff]
     intro hh
     have := hh.1 b h2
     rw [this] at h1; cases h1
   | none =>
     simp only
     rw [ih]
     rw [List.find?_eq_none] at h
     constructor
     · intro hp; exact ⟨fun b hb => by have := h b hb; simpa using this, hp⟩
     · exact fun hp => hp.2
def atMin (m : Int) (x : Report) : Bool := fog_within m x.From x.To
def nar (r : Range) (x : Report) : Range := ⟨max r.Lo x.Sight.Lo, min r.Hi x.Sight.Hi⟩
def sightL (v : List Report) (m : Int) : Range := (v.filter (atMin m)).foldl nar ⟨0, 5000⟩
theorem fsight_eq (v : List Report) (m : Int) : fog_view__sight v m = some (sightL v m) := by
 unfold fog_view__sight fog_view__of_1
 rw [emit_range (fun i => atMin m (v.getD i default)) (fun i => v.getD i default) (fun i r _ => rfl)]
 have e : ((List.range' 0 v.length).filter (fun i => atMin m (v.getD i default))).map (fun i => v.getD i default) = v.filter (atMin m) := by
   rw [show (fun i => atMin m (v.getD i default)) = atMin m ∘ (fun i => v.getD i default) from rfl, ← List.filter_map]
   congr 1
   refine List.ext_getElem (by simp) (fun i h1 h2 => ?_)
   simp [List.getElem?_eq_getElem h2]
 rw [e]
 show listGo _ _ (v.filter (atMin m)) _ = _
 unfold sightL
 generalize (⟨0, 5000⟩ : Range) = r
 induction v.filter (atMin m) generalizing r with
 | nil => rfl
 | cons x l ih => exact ih (nar r x)
end Go.Sp
end
/- Plain laws, fog: what is told of a clear district. No program in sight. -/
section
set_option linter.all false
namespace Go.Sp
open Go.Av
set_option maxRecDepth 100000
def argOk (q : fog_query) : Prop := 1 ≤ q.district ∧ q.district ≤ 9 ∧ 0 ≤ q.minute ∧ q.minute ≤ 1439 ∧ 0 ≤ q.time.Lo ∧ q.time.Lo ≤ q.time.Hi ∧ q.time.Hi ≤ 1439 ∧ 1 ≤ q.limit ∧ q.limit ≤ 5000
def dayOk (n m : Int) : Prop := 0 ≤ n ∧ n ≤ 100000 ∧ 0 ≤ m ∧ m ≤ 144001439
instance (q : fog_query) : Decidable (argOk q) := inferInstanceAs (Decidable (_ ∧ _))
instance (n m : Int) : Decidable (dayOk n m) := inferInstanceAs (Decidable (_ ∧ _))
end Go.Sp
end
/- Plain laws, fog: the document's tests, views, contradictions and sights. No program in sight. -/
section
set_option linter.all false
namespace Go.Sp
open Go.Av
set_option maxRecDepth 100000
theorem same_eq {fuel : Nat} (a b : List Int) (hf : a.length < fuel) (hl : a.length < 9223372036854775807) : gasolierref05_Same fuel a b = some (decide (a = b)) := by
 unfold gasolierref05_Same
 refine Wp.eq (wp_ifn (fun h => wp_some ?_) (fun h => ?_))
 · rw [decide_eq_false (fun e => h (by rw [e]))]
 have hlen : a.length = b.length := by omega
 refine wp_for1 a.length hf (fun i => ∀ j, j < i → a.getD j default = b.getD j default) (fun j hj => by omega) (fun i K hi hI hK => ?_)
 refine wp_ifd (fun hlt => ?_) (fun hge => wp_some ?_)
 · have hi' : i < a.length := by omega
   refine wp_must (by omega) (wp_must (by omega) ?_)
   simp only [Int.toNat_natCast]
   refine wp_ifn (fun h => wp_some ?_) (fun h => wp_mustI (by omega) (hK hi' (fun j hj => ?_)))
   · rw [decide_eq_false (fun e => h (by rw [e]))]
   · by_cases ej : j = i
     · subst ej; exact h
     · exact hI j (by omega)
 · rw [decide_eq_true (ext_getD hlen (fun i hi => hI i (by omega)))]
end Go.Sp
end
/- Plain laws, fog: FogSights, FogClashes. No program in sight. -/
section
set_option linter.all false
namespace Go.Sp
open Go.Av
set_option maxRecDepth 100000
theorem sane_ok : gasolierlaw05_sane 20000 = some true := by kernel_rfl
theorem foldl_ends : ∀ (l : List Report) (r : Range), ((l.foldl nar r).Lo = r.Lo ∨ ∃ x ∈ l, (l.foldl nar r).Lo = x.Sight.Lo) ∧ ((l.foldl nar r).Hi = r.Hi ∨ ∃ x ∈ l, (l.foldl nar r).Hi = x.Sight.Hi)
 | [], r => ⟨.inl rfl, .inl rfl⟩
 | x :: l, r => by
   obtain ⟨h1, h2⟩ := foldl_ends l (nar r x)
   have e1 : (nar r x).Lo = r.Lo ∨ (nar r x).Lo = x.Sight.Lo := by unfold nar; simp only; omega
   have e2 : (nar r x).Hi = r.Hi ∨ (nar r x).Hi = x.Sight.Hi := by unfold nar; simp only; omega
   rw [List.foldl_cons]
   constructor
   · rcases h1 with h | ⟨y, hy, h⟩
     · rcases e1 with e | e
       · exact .inl (h.trans e)
       · exact .inr ⟨x, List.mem_cons_self, h.trans e⟩
     · exact .inr ⟨y, List.mem_cons_of_mem _ hy, h⟩
   · rcases h2 with h | ⟨y, hy, h⟩
     · rcases e2 with e | e
       · exact .inl (h.trans e)
       · exact .inr ⟨x, List.mem_cons_self, h.trans e⟩
     · exact .inr ⟨y, List.mem_cons_of_mem _ hy, h⟩
theorem mem_ok {l : List Report} (h : RepsOk l) {x : Report} (hx : x ∈ l) : RepOk x := by
 obtain ⟨i, hi, rfl⟩ := mem_getD hx
 exact (h.all i hi).1
theorem seen_mem {l : List Report} {d n m : Int} {x : Report} (hx : x ∈ seeL l d n m) : x ∈ l ∧ seen d n m x = true := List.mem_filter.1 hx
end Go.Sp
end
/- Plain laws, fog: reports that are made, FogTrue, FogShown. No program in sight. -/
section
set_option linter.all false
namespace Go.Sp
open Go.Av
set_option maxRecDepth 100000
theorem wrapI_of {n : Int} (h : -9223372036854775808 ≤ n ∧ n ≤ 9223372036854775807) : wrapI n = n := by
 unfold wrapI
 split <;> omega
theorem mod5_eq (n : Int) {m : Int} (h0 : 0 < m) (h1 : m ≤ 1000000000000000000) : ∃ y, gasolierref05_Mod n m = some y ∧ 0 ≤ y ∧ y < m := by
 unfold gasolierref05_Mod
 have a1 := Int.tmod_lt_of_pos n h0
 have a2 : -m < Int.tmod n m := Int.lt_tmod_of_pos n h0
 rw [must_yes (by omega), must_yes (by unfold inI; omega), must_yes (by omega)]
 refine ⟨_, rfl, ?_, Int.tmod_lt_of_pos _ h0⟩
 exact Int.tmod_nonneg _ (by omega)
theorem mod5_zero {m : Int} (h0 : 0 < m) (h1 : m ≤ 1000000000000000000) : gasolierref05_Mod 0 m = some 0 := by
 unfold gasolierref05_Mod
 rw [must_yes (by omega), must_yes (by unfold inI; simp; omega), must_yes (by omega)]
 simp
theorem tdiv_small {m k : Int} (hk : 0 < k) (hm : -100000 ≤ m ∧ m ≤ 100000) : -100000 ≤ Int.tdiv m k ∧ Int.tdiv m k ≤ 100000 := by
 rcases Int.le_total 0 m with h | h
 · rw [Int.tdiv_eq_ediv_of_nonneg h]
   have := Int.ediv_nonneg h (Int.le_of_lt hk)
   have := Int.ediv_le_self k h
   omega
 · obtain ⟨n, rfl⟩ : ∃ n, m = -n := ⟨-m, by omega⟩
   have hn : 0 ≤ n := by omega
   rw [Int.neg_tdiv, Int.tdiv_eq_ediv_of_nonneg hn]
   have := Int.ediv_nonneg hn (Int.le_of_lt hk)
   have := Int.ediv_le_self k hn
   omega
theorem num_eq (l : List Int) (hl : l.length ≤ 1000000000000000000) (i : Int) : ∃ y, gasolierref05_Num l i = some y := by
 unfold gasolierref05_Num
 by_cases h : (l.length : Int) = 0
 · rw [decide_eq_true h]; exact ⟨0, rfl⟩
 · obtain ⟨y, e, h1, h2⟩ := mod5_eq i (m := (l.length : Int)) (by omega) (by omega)
   rw [decide_eq_false h, e]
   exact ⟨_, must_yes (by omega) _⟩
theorem true_ex (l : List Int) (hl : l.length ≤ 1000000000000000000) {d m : Int} (hd : 0 ≤ d ∧ d ≤ 100) (hm : -100000 ≤ m ∧ m ≤ 100000) : ∃ s, gasolierref05_True l d m = some s ∧ 0 ≤ s ∧ s < 900 := by
 unfold gasolierref05_True
 have h1 := tdiv_small (k := 90) (by omega) hm
 have h2 := tdiv_small (k := 60) (by omega) hm
 obtain ⟨y, e⟩ := num_eq l hl (wrapI (d + Int.tdiv m 90))
 rw [must_yes (by unfold inI; omega), e]
 simp only [bindO]
 rw [must_yes (by unfold inI; omega)]
 obtain ⟨z, e2, z1, z2⟩ := mod5_eq (wrapI (y + Int.tdiv m 60)) (m := 900) (by omega) (by omega)
 rw [e2]; exact ⟨z, rfl, z1, z2⟩
def tr (l : List Int) (d m : Int) : Int := (gasolierref05_True l d m).getD 0
theorem true_eq (l : List Int) (hl : l.length ≤ 1000000000000000000) {d m : Int} (hd : 0 ≤ d ∧ d ≤ 100) (hm : -100000 ≤ m ∧ m ≤ 100000) : gasolierref05_True l d m = some (tr l d m) ∧ 0 ≤ tr l d m ∧ tr l d m < 900 := by
 obtain ⟨s, e, h1, h2⟩ := true_ex l hl hd hm
 unfold tr; rw [e]; exact ⟨rfl, h1, h2⟩
theorem reach_wp {fuel : Nat} (l : List Int) (hl : l.length ≤ 1000000000000000000) {d a b : Int} (hd : 0 ≤ d ∧ d ≤ 100) (ha : 0 ≤ a ∧ a ≤ b ∧ b ≤ 2000) (hf : 2001 < fuel) :
   Wp (gasolierref05_reach fuel l d a b) (fun r => 0 ≤ r.Lo ∧ r.Lo ≤ r.Hi ∧ r.Hi < 900 ∧ ∀ m : Int, a ≤ m → m ≤ b → r.Lo ≤ tr l d m ∧ tr l d m ≤ r.Hi) := by
 unfold gasolierref05_reach
 refine wp_loop (fun s => a ≤ s.1 ∧ s.1 ≤ b + 1 ∧ 0 ≤ s.2.Lo ∧ 0 ≤ s.2.Hi ∧ s.2.Hi < 900 ∧ (s.1 = a ∨ s.2.Lo ≤ s.2.Hi) ∧ ∀ m : Int, a ≤ m → m < s.1 → s.2.Lo ≤ tr l d m ∧ tr l d m ≤ s.2.Hi) (fun s => (b + 1 - s.1).toNat) (by simp only; omega)
   ⟨by simp, by simp only; omega, by simp, by simp, by simp, .inl rfl, fun m h1 h2 => by simp only at h2; omega⟩ ?_
 rintro ⟨m0, r⟩ K ⟨i1, i2, i3, i4, i5, i6, i7⟩ hK
 simp only at i1 i2 i3 i4 i5 i6 i7 hK ⊢
 refine wp_ifd (fun hle => ?_) (fun hgt => wp_some ⟨i3, by omega, i5, fun m h1 h2 => i7 m h1 (by omega)⟩)
 obtain ⟨e, h1, h2⟩ := true_eq l hl hd (m := m0) (by omega)
 refine wp_bindE e (wp_mustI (by omega) (hK _ ⟨by simp only; omega, by simp only; omega, by simp only; omega, by simp only; omega, by simp only; omega, .inr (by simp only; omega), fun m q1 q2 => ?_⟩ (by simp only; omega)))
 simp only at q2 ⊢
 by_cases em : m = m0
 · subst em; omega
 · have := i7 m q1 (by omega); omega
structure Fine (i : Nat) (r : Report) : Prop where
 src : r.Source = 4 * (i : Int) + 3
 dist : 1 ≤ r.District ∧ r.District ≤ 3
 night : r.Night = 3 ∨ r.Night = 4
 from_ : 0 ≤ r.From ∧ r.From ≤ 1299
 to_ : r.From ≤ r.To ∧ r.To ≤ 1437
 sight : 0 ≤ r.Sight.Lo ∧ r.Sight.Lo ≤ r.Sight.Hi ∧ r.Sight.Hi ≤ 5000
 known : 4320 ≤ r.Known ∧ r.Known ≤ 5759
 till : r.Until = 0 ∨ r.Known < r.Until ∧ r.Until ≤ 7000
def Just (l : List Int) (r : Report) : Prop := r.Night = 3 ∧ r.Until = 0 ∧ ∀ m : Int, r.From ≤ m → m ≤ r.To → r.Sight.Lo ≤ tr l r.District m ∧ tr l r.District m ≤ r.Sight.Hi
theorem made_wp {fuel : Nat} (hf : 2001 < fuel) (p : List (Arr7 Int)) (l : List Int) (hl : l.length ≤ 1000000000000000000) :
   Wp (gasolierref05_Made fuel p l) (fun x => x.length ≤ 12 ∧ x.length ≤ p.length ∧ ∀ i, i < x.length → Fine i (rp x i) ∧ ((p.getD i default).x6 = 0 → Just l (rp x i))) := by
 unfold gasolierref05_Made
 refine wp_for 12 (by omega) (fun i x => x.length = i ∧ i ≤ p.length ∧ ∀ j, j < i → Fine j (rp x j) ∧ ((p.getD j default).x6 = 0 → Just l (rp x j))) ⟨rfl, by omega, fun j hj => by omega⟩ (fun i x K hi hI hK => ?_)
 obtain ⟨hlen, hip, hall⟩ := hI
 simp only at hK ⊢
 refine wp_if (p := (i : Int) < (p.length : Int) ∧ (i : Int) < 12) (by simp) (fun h => ?_) (fun h => wp_some ⟨by omega, by omega, fun j hj => hall j (by omega)⟩)
 simp only [Int.toNat_natCast]
 generalize hq : p.getD i default = q at *
 have ew : wrapI (4 * (i : Int)) = 4 * (i : Int) := wrapI_of (by omega)
 refine wp_must (by omega) ?_
 rw [ew]
 refine wp_mustI (by omega) ?_
 obtain ⟨a, ea, a1, a2⟩ := mod5_eq q.x0 (m := 3) (by omega) (by omega)
 obtain ⟨b, eb, b1, b2⟩ := mod5_eq q.x1 (m := 1300) (by omega) (by omega)
 obtain ⟨c, ec, c1, c2⟩ := mod5_eq q.x2 (m := 139) (by omega) (by omega)
 obtain ⟨d, ed, d1, d2⟩ := mod5_eq q.x3 (m := 300) (by omega) (by omega)
 obtain ⟨e, ee, e1, e2⟩ := mod5_eq q.x4 (m := 300) (by omega) (by omega)
 obtain ⟨f, ef, f1, f2⟩ := mod5_eq q.x6 (m := 7) (by omega) (by omega)
 obtain ⟨g, eg, g1, g2⟩ := mod5_eq q.x3 (m := 600) (by omega) (by omega)
 obtain ⟨o, eo, o1, o2⟩ := mod5_eq q.x4 (m := 60) (by omega) (by omega)
 obtain ⟨s, es, s1, s2⟩ := mod5_eq q.x6 (m := 11) (by omega) (by omega)
 obtain ⟨t, et, t1, t2⟩ := mod5_eq q.x5 (m := 1440) (by omega) (by omega)
 obtain ⟨u, eu, u1, u2⟩ := mod5_eq q.x6 (m := 5) (by omega) (by omega)
 obtain ⟨v, ev, v1, v2⟩ := mod5_eq (wrapI (q.x5 * 7)) (m := 600) (by omega) (by omega)
 have hzero : q.x6 = 0 → f = 0 ∧ s = 0 ∧ u = 0 := fun hz => by
   rw [hz, mod5_zero (by omega) (by omega)] at ef es eu
   exact ⟨(Option.some.inj ef).symm, (Option.some.inj es).symm, (Option.some.inj eu).symm⟩
 refine wp_bindE ea (wp_mustI (by omega) (wp_bindE eb (wp_bindE ec (wp_mustI (by omega) (wp_bind (reach_wp l hl (d := 1 + a) (a := b) (b := b + c) (by omega) (by omega) hf) (fun r hr => ?_))))))
 obtain ⟨r1, r2, r3, r4⟩ := hr
 refine wp_bindE ed (wp_mustI (by omega) (wp_bindE ee (wp_mustI (by omega) (wp_bindE ef ?_))))
 refine wp_join (fun z : Report => z.Source = 4 * (i : Int) + 3 ∧ z.District = 1 + a ∧ z.Night = 3 ∧ z.From = b ∧ z.To = b + c ∧ z.Known = 0 ∧ z.Until = 0 ∧ (0 ≤ z.Sight.Lo ∧ z.Sight.Lo ≤ z.Sight.Hi ∧ z.Sight.Hi ≤ 5000) ∧ (f ≠ 6 → ∀ m : Int, b ≤ m → m ≤ b + c → z.Sight.Lo ≤ tr l (1 + a) m ∧ tr l (1 + a) m ≤ z.Sight.Hi)) (fun K2 hK2 => ?_) (fun z hz => ?_)
 · refine wp_ifd (fun h6 => ?_) (fun h6 => ?_)
   · exact wp_bindE eg (wp_bindE eg (wp_bindE eo (wp_mustI (by omega) (hK2 _ ⟨rfl, rfl, rfl, rfl, rfl, rfl, rfl, ⟨by simp only; omega, by simp only; omega, by simp only; omega⟩, fun h => absurd h6 h⟩))))
   · refine hK2 _ ⟨rfl, rfl, rfl, rfl, rfl, rfl, rfl, ⟨by simp only; omega, by simp only; omega, by simp only; omega⟩, fun _ m m1 m2 => ?_⟩
     have := r4 m m1 m2
     simp only; omega
 obtain ⟨z1, z2, z3, z4, z5, z6, z7, z8, z9⟩ := hz
 refine wp_bindE es ?_
 refine wp_join (fun y : Report => y.Source = z.Source ∧ y.District = z.District ∧ (y.Night = 3 ∨ y.Night = 4) ∧ (s ≠ 10 → y.Night = 3) ∧ y.From = z.From ∧ y.To = z.To ∧ y.Sight = z.Sight ∧ y.Until = 0) (fun K2 hK2 => ?_) (fun y hy => ?_)
 · refine wp_ifd (fun h6 => ?_) (fun h6 => ?_)
   · exact hK2 _ ⟨rfl, rfl, .inr rfl, fun h => absurd h6 h, rfl, rfl, rfl, z7⟩
   · exact hK2 _ ⟨rfl, rfl, .inl z3, fun _ => z3, rfl, rfl, rfl, z7⟩
 obtain ⟨y1, y2, y3, y4, y5, y6, y7, y8⟩ := hy
 refine wp_bindE et (wp_mustI (by omega) (wp_bindE eu ?_))
 refine wp_join (fun x' : Report => x'.Source = y.Source ∧ x'.District = y.District ∧ x'.Night = y.Night ∧ x'.From = y.From ∧ x'.To = y.To ∧ x'.Sight = y.Sight ∧ x'.Known = 4320 + t ∧ (x'.Until = 0 ∨ x'.Known < x'.Until ∧ x'.Until ≤ 7000) ∧ (u ≠ 4 → x'.Until = 0)) (fun K2 hK2 => ?_) (fun x' hx' => ?_)
 · refine wp_ifd (fun h6 => ?_) (fun h6 => ?_)
   · exact wp_mustI (by omega) (wp_bindE ev (wp_mustI (by omega) (hK2 _ ⟨rfl, rfl, rfl, rfl, rfl, rfl, rfl, .inr ⟨by simp only; omega, by simp only; omega⟩, fun h => absurd h6 h⟩)))
   · exact hK2 _ ⟨rfl, rfl, rfl, rfl, rfl, rfl, rfl, .inl y8, fun _ => y8⟩
 obtain ⟨x1, x2, x3, x4, x5, x6, x7, x8, x9⟩ := hx'
 refine wp_mustR (by simp; omega) (wp_mustI (by omega) (hK _ (by omega) ⟨by simp [hlen], by omega, fun j hj => ?_⟩))
 unfold rp
 rw [getD_snoc]
 split
 · rename_i hjl
   have hji : j = i := by omega
   subst hji
   rw [hq]
   refine ⟨⟨by omega, by omega, by rw [x3]; exact y3, by omega, by omega, by rw [x6, y7]; exact z8, by omega, x8⟩, fun hz => ?_⟩
   obtain ⟨k1, k2, k3⟩ := hzero hz
   refine ⟨by rw [x3]; exact y4 (by omega), x9 (by omega), fun m m1 m2 => ?_⟩
   rw [x6, y7, x2, y2, z2]
   exact z9 (by omega) m (by omega) (by omega)
 · exact hall j (by omega)
theorem honest_wp {fuel : Nat} (p : List (Arr7 Int)) (hp : p.length * 56 ≤ 140737488351232) (hf : p.length < fuel) : Wp (gasolierref05_Honest fuel p) (fun x => x.length = p.length ∧ ∀ i, i < p.length → (x.getD i default).x6 = 0) := by
 unfold gasolierref05_Honest
 refine wp_for p.length hf (fun i x => x.length = i ∧ ∀ j, j < i → (x.getD j default).x6 = 0) ⟨rfl, fun j hj => by omega⟩ (fun i x K hi hI hK => ?_)
 obtain ⟨h1, h2⟩ := hI
 simp only at hK ⊢
 refine wp_ifd (fun hlt => ?_) (fun hge => wp_some ⟨by omega, fun j hj => h2 j (by omega)⟩)
 refine wp_must (by omega) (wp_mustR (by simp; omega) (wp_mustI (by omega) (hK _ (by omega) ⟨by simp [h1], fun j hj => ?_⟩)))
 rw [getD_snoc]
 split
 · rfl
 · exact h2 j (by omega)
theorem fine_ok {x : List Report} (hl : x.length ≤ 12) (h : ∀ i, i < x.length → Fine i (rp x i)) : RepsOk x := by
 refine ⟨by omega, fun i hi => ?_⟩
 have F := h i hi
 have f1 := F.src; have f2 := F.dist; have f3 := F.night; have f4 := F.from_; have f5 := F.to_; have f6 := F.sight; have f7 := F.known; have f8 := F.till
 refine ⟨⟨by omega, by omega, by omega, by omega, by omega, by omega, by omega⟩, fun h0 => ?_⟩
 have := (h (i - 1) (by omega)).src
 omega
theorem pair_true (f : Int → Int) {v : List Report} (h : ∀ r ∈ v, ∀ m : Int, r.From ≤ m → m ≤ r.To → r.Sight.Lo ≤ f m ∧ f m ≤ r.Sight.Hi) (h2 : ∀ r ∈ v, r.From ≤ r.To) : pairL v = none := by
 rw [pairL_none]
 refine List.Pairwise.imp_of_mem (R := fun _ _ => True) (fun {a b} ha hb _ => ?_) (List.pairwise_of_forall (fun _ _ => trivial))
 unfold fog_clash
 have a1 := h a ha; have b1 := h b hb
 have a2 := h2 a ha; have b2 := h2 b hb
 by_cases hm : a.From ≤ b.To ∧ b.From ≤ a.To
 · obtain ⟨m, m1, m2, m3, m4⟩ : ∃ m : Int, a.From ≤ m ∧ m ≤ a.To ∧ b.From ≤ m ∧ m ≤ b.To := by
     by_cases hc : a.From ≤ b.From
     · exact ⟨b.From, by omega, by omega, by omega, by omega⟩
     · exact ⟨a.From, by omega, by omega, by omega, by omega⟩
   have := a1 m m1 m2; have := b1 m m3 m4
   rw [decide_eq_true hm.1, decide_eq_true hm.2, decide_eq_false (by omega), decide_eq_false (by omega)]; rfl
 · by_cases h1 : a.From ≤ b.To
   · rw [decide_eq_false (p := b.From ≤ a.To) (by omega)]; simp
   · rw [decide_eq_false h1]; simp
theorem moment_eq (n : Int) : ∃ at_, gasolierlaw05_moment n = some at_ ∧ 4320 ≤ at_ ∧ at_ ≤ 5759 := by
 unfold gasolierlaw05_moment
 obtain ⟨y, e, h1, h2⟩ := mod5_eq n (m := 1440) (by omega) (by omega)
 rw [e]
 exact ⟨4320 + y, must_yes (by unfold inI; omega) _, by omega, by omega⟩
theorem below_vals (r : Range) (lim : Int) : (fog_below r lim = 1 ∧ r.Hi < lim) ∨ (fog_below r lim = 0 ∧ lim ≤ r.Lo ∧ ¬ r.Hi < lim) ∨ (fog_below r lim = 2 ∧ ¬ r.Hi < lim ∧ ¬ lim ≤ r.Lo) := by
 unfold fog_below
 by_cases a : r.Hi < lim
 · rw [decide_eq_true a]; exact .inl ⟨rfl, a⟩
 · by_cases b : lim ≤ r.Lo
   · rw [decide_eq_false a, decide_eq_true b]; exact .inr (.inl ⟨rfl, b, a⟩)
   · rw [decide_eq_false a, decide_eq_false b]; exact .inr (.inr ⟨rfl, a, b⟩)
end Go.Sp
end
/- Plain laws, fog: FogShown. No program in sight. -/
section
set_option linter.all false
namespace Go.Sp
open Go.Av
set_option maxRecDepth 100000
theorem has_eq {fuel : Nat} (l : List Int) (n : Int) (hf : l.length < fuel) (hl : l.length < 9223372036854775807) : gasolierref05_Has fuel l n = some (decide (n ∈ l)) := by
 unfold gasolierref05_Has
 refine (wp_for1 (P := fun r => r = decide (n ∈ l)) l.length hf (fun i => ∀ j, j < i → l.getD j default ≠ n) (fun j hj => by omega) (fun i K hi hI hK => ?_)).eq
 refine wp_ifd (fun hlt => ?_) (fun hge => wp_some ?_)
 · have hi' : i < l.length := by omega
   refine wp_must (by omega) ?_
   simp only [Int.toNat_natCast]
   refine wp_ifd (fun h => wp_some ?_) (fun h => wp_mustI (by omega) (hK hi' (fun j hj => ?_)))
   · rw [decide_eq_true (h ▸ getD_mem hi')]
   · by_cases ej : j = i
     · subst ej; exact h
     · exact hI j (by omega)
 · rw [decide_eq_false (fun hm => ?_)]
   obtain ⟨j, hj, e⟩ := mem_getD hm
   exact hI j (by omega) e
theorem clash_symm (a b : Report) : fog_clash a b = fog_clash b a := by
 unfold fog_clash
 rw [Bool.and_comm (decide (a.From ≤ b.To)), Bool.or_comm (decide (b.Sight.Hi < a.Sight.Lo))]
theorem clear_le {v : List Report} (h : pairL v = none) (hok : ∀ x ∈ v, x.Sight.Lo ≤ x.Sight.Hi) {x y : Report} (hx : x ∈ v) (hy : y ∈ v) {m : Int} (h1 : atMin m x = true) (h2 : atMin m y = true) : x.Sight.Lo ≤ y.Sight.Hi := by
 rw [pairL_none] at h
 have key : fog_clash x y = false ∨ x = y := by
   obtain ⟨i, hi, rfl⟩ := List.getElem_of_mem hx
   obtain ⟨j, hj, rfl⟩ := List.getElem_of_mem hy
   rcases Nat.lt_trichotomy i j with h' | h' | h'
   · exact .inl (List.pairwise_iff_getElem.1 h i j hi hj h')
   · subst h'; exact .inr rfl
   · left; rw [clash_symm]; exact List.pairwise_iff_getElem.1 h j i hj hi h'
 have a1 := fwithin_iff.1 h1
 have a2 := fwithin_iff.1 h2
 rcases key with k | rfl
 · unfold fog_clash at k
   rw [decide_eq_true (by omega : x.From ≤ y.To), decide_eq_true (by omega : y.From ≤ x.To)] at k
   simp at k; omega
 · exact hok x hx
theorem sight_clear {l : List Report} (R : RepsOk l) {d n mo : Int} (P : pairL (seeL l d n mo) = none) (m : Int) : (sightL (seeL l d n mo) m).Lo ≤ (sightL (seeL l d n mo) m).Hi := by
 obtain ⟨h1, h2⟩ := foldl_ends ((seeL l d n mo).filter (atMin m)) ⟨0, 5000⟩
 have hok : ∀ x ∈ seeL l d n mo, 0 ≤ x.Sight.Lo ∧ x.Sight.Lo ≤ x.Sight.Hi ∧ x.Sight.Hi ≤ 5000 := fun x hx => (mem_ok R (seen_mem hx).1).sight
 unfold sightL
 rcases h1 with h1 | ⟨x, hx, h1⟩
 · rcases h2 with h2 | ⟨y, hy, h2⟩
   · rw [h1, h2]; decide
   · have := hok y (List.mem_filter.1 hy).1; rw [h1, h2]; simp only; omega
 · rcases h2 with h2 | ⟨y, hy, h2⟩
   · have := hok x (List.mem_filter.1 hx).1; rw [h1, h2]; simp only; omega
   · rw [h1, h2]
     exact clear_le P (fun x hx => (hok x hx).2.1) (List.mem_filter.1 hx).1 (List.mem_filter.1 hy).1 (List.mem_filter.1 hx).2 (List.mem_filter.1 hy).2
end Go.Sp
end
/- Plain laws, fog: policies, the program's and the document's check. No program in sight. -/
section
set_option linter.all false
namespace Go.Sp
open Go.Av
set_option maxRecDepth 100000
def sd (l : List Send) (i : Nat) : Send := l.getD i default
def nd (p : List Node) (i : Nat) : Node := p.getD i default
def fol3 (n : Node) : List Int := [n.Yes, n.No, n.Maybe]
def SendsOk (l : List Send) : Prop := l.length ≤ 9 ∧ ∀ i, i < l.length → (1 ≤ (sd l i).District ∧ (sd l i).District ≤ 9) ∧ (1 ≤ (sd l i).Many ∧ (sd l i).Many ≤ 20) ∧ (0 < i → (sd l (i - 1)).District < (sd l i).District)
def NextOk (p : List Node) (i : Nat) (n : Node) (k : Int) : Prop := ((i : Int) + 1 ≤ k ∧ k ≤ (p.length : Int) - 1) ∧ ((nd p k.toNat).Test = true → n.Minute ≤ (nd p k.toNat).Minute)
instance (p : List Node) (i : Nat) (n : Node) (k : Int) : Decidable (NextOk p i n k) := inferInstanceAs (Decidable (_ ∧ _))
def LeafOk (n : Node) : Prop := (n.District = 0 ∧ n.Minute = 0 ∧ n.Limit = 0 ∧ n.Yes = 0 ∧ n.No = 0 ∧ n.Maybe = 0) ∧ SendsOk n.Sends
def TestHead (n : Node) : Prop := (1 ≤ n.District ∧ n.District ≤ 9) ∧ (0 ≤ n.Minute ∧ n.Minute ≤ 1439) ∧ (1 ≤ n.Limit ∧ n.Limit ≤ 5000) ∧ n.Sends.length = 0
def NodeOk (p : List Node) (i : Nat) : Prop := ((nd p i).Test = false → LeafOk (nd p i)) ∧ ((nd p i).Test = true → TestHead (nd p i) ∧ ∀ k ∈ fol3 (nd p i), NextOk p i (nd p i) k)
def nm (n : Node) : List Int := if n.Test then fol3 n else []
def names (p : List Node) : List Int := p.flatMap nm
structure PolOk (p : List Node) : Prop where
 len : 1 ≤ p.length ∧ p.length ≤ 31
 node : ∀ i, i < p.length → NodeOk p i
 nodup : (names p).Nodup
 count : (names p).length + 1 = p.length
theorem names_take {p : List Node} {i : Nat} (h : i < p.length) : names (p.take (i + 1)) = names (p.take i) ++ nm (nd p i) := by
 unfold names
 rw [take_getD h, List.flatMap_append]; simp [nd]
theorem sends_few {l : List Send} : ∀ {i : Nat}, (∀ j, j < i → (1 ≤ (sd l j).District ∧ (sd l j).District ≤ 9) ∧ (1 ≤ (sd l j).Many ∧ (sd l j).Many ≤ 20) ∧ (0 < j → (sd l (j - 1)).District < (sd l j).District)) → i ≤ 9 := by
 intro i h
 have key : ∀ j, j < i → (j : Int) + 1 ≤ (sd l j).District := by
   intro j
   induction j with
   | zero => intro hj; have := (h 0 hj).1; omega
   | succ j ih =>
     intro hj
     have h1 := ih (by omega)
     have h2 := (h (j + 1) hj).2.2 (by omega)
     have e : j + 1 - 1 = j := by omega
     rw [e] at h2
     omega
 by_cases h0 : i = 0
 · omega
 · have := key (i - 1) (by omega)
   have := (h (i - 1) (by omega)).1
   omega
theorem fareSends_eq (l : List Send) : Wp (fog_areSends l) (fun b => b = true ↔ SendsOk l) := by
 unfold fog_areSends
 refine wp_forall (fun i => (1 ≤ (sd l i).District ∧ (sd l i).District ≤ 9) ∧ (1 ≤ (sd l i).Many ∧ (sd l i).Many ≤ 20) ∧ (0 < i → (sd l (i - 1)).District < (sd l i).District)) (fun i K hi hI hK => ?_) (fun h => wp_some ?_)
 · have hi9 := sends_few hI
   refine wp_must (fun _ => by unfold inI; omega) (wp_must (fun h => by simp at h; omega) ?_)
   have e : (((i : Int) - 1)).toNat = i - 1 := by omega
   rw [e]
   refine wp_bif (fun hb => wp_some ?_) (fun hb => hK ?_)
   · constructor
     · intro h; cases h
     · rintro ⟨_, h⟩
       obtain ⟨h1, h2, h3⟩ := h i hi
       unfold sd at h1 h2 h3
       unfold fog_isDistrict at hb
       simp only [Bool.or_eq_true, Bool.and_eq_true, decide_eq_true_eq, Bool.not_eq_true', ← Bool.not_eq_true, fwithin_iff] at hb
       rcases hb with (hb | hb) | hb
       · exact absurd h1 hb
       · exact absurd h2 hb
       · have := h3 (by omega); omega
   · unfold fog_isDistrict at hb
     simp only [Bool.or_eq_false_iff, Bool.and_eq_false_iff, Bool.not_eq_false', decide_eq_false_iff_not, fwithin_iff] at hb
     unfold sd
     exact ⟨hb.1.1, hb.1.2, fun h0 => by rcases hb.2 with h | h <;> omega⟩
 · rw [decide_eq_true_eq]
   constructor
   · intro h9; exact ⟨by omega, h⟩
   · intro h9; have := h9.1; omega
theorem next_get (n : Node) (k : Int) : (fog_next n).get k = if k = 2 then some n.Maybe else if k = 0 then some n.No else if k = 1 then some n.Yes else none := rfl
theorem next_keys (n : Node) : (fog_next n).keys = [1, 0, 2] := rfl
theorem next_ok (n : Node) : (fog_next n).ok := by
 refine ⟨by rw [next_keys]; decide, rfl, fun k hk => ?_⟩
 rw [next_keys] at hk
 rw [next_get]
 rcases List.mem_cons.1 hk with rfl | hk
 · rfl
 · rcases List.mem_cons.1 hk with rfl | hk
   · rfl
   · rcases List.mem_cons.1 hk with rfl | hk
     · rfl
     · cases hk
theorem mapAny_of {chk : Int → Option Bool} {q : Int → Bool} : ∀ {l : List Int}, (∀ k ∈ l, chk k = some (q k)) → mapAny chk l = some (l.any q)
 | [], _ => rfl
 | k :: l, h => by
   unfold mapAny
   rw [h k List.mem_cons_self, mapAny_of (l := l) (fun j hj => h j (List.mem_cons_of_mem _ hj))]
   rfl
theorem mem_fol3 {n : Node} {P : Int → Prop} : (∀ k ∈ fol3 n, P k) ↔ P n.Yes ∧ P n.No ∧ P n.Maybe := by simp [fol3]
theorem nextOk_dec {p : List Node} {i : Nat} {n : Node} {k : Int} : (bif ((!(fog_within k ((i : Int) + 1) (((p.length : Nat) : Int) - 1))) || (((p.getD k.toNat default).Test) && (decide ((p.getD k.toNat default).Minute < n.Minute)))) then some true else some false) = some (!decide (NextOk p i n k)) := by
 by_cases h1 : (i : Int) + 1 ≤ k ∧ k ≤ ((p.length : Nat) : Int) - 1
 · rw [fwithin_iff.2 h1]
   cases ht : (p.getD k.toNat default).Test with
   | false => rw [decide_eq_true (p := NextOk p i n k) ⟨h1, fun h => by unfold nd at h; rw [ht] at h; cases h⟩]; rfl
   | true =>
     by_cases h2 : (p.getD k.toNat default).Minute < n.Minute
     · rw [decide_eq_true h2, decide_eq_false (fun h : NextOk p i n k => by have := h.2 ht; unfold nd at this; omega)]; rfl
     · rw [decide_eq_false h2, decide_eq_true (p := NextOk p i n k) ⟨h1, fun h => by unfold nd; omega⟩]; rfl
 · rw [Bool.eq_false_iff.2 (fun h => h1 (fwithin_iff.1 h)), decide_eq_false (fun h : NextOk p i n k => h1 h.1)]; rfl
theorem fisNode_wp (p : List Node) (i : Nat) (hi : i < p.length) (hl : p.length ≤ 31) : Wp (fog_isNode p (i : Int)) (fun b => b = true ↔ NodeOk p i) := by
 unfold fog_isNode
 refine wp_must (by omega) ?_
 simp only [Int.toNat_natCast]
 have en : p.getD i default = nd p i := rfl
 simp only [en]
 generalize hn : nd p i = n
 have hN : NodeOk p i ↔ (n.Test = false → LeafOk n) ∧ (n.Test = true → TestHead n ∧ ∀ k ∈ fol3 n, NextOk p i n k) := by unfold NodeOk; rw [hn]
 rw [hN]
 refine wp_bif (fun ht => ?_) (fun ht => ?_)
 · have ht : n.Test = false := by simpa using ht
   have hz : (((((decide (n.District = 0) && decide (n.Minute = 0)) && decide (n.Limit = 0)) && decide (n.Yes = 0)) && decide (n.No = 0)) && decide (n.Maybe = 0)) = true ↔ (n.District = 0 ∧ n.Minute = 0 ∧ n.Limit = 0 ∧ n.Yes = 0 ∧ n.No = 0 ∧ n.Maybe = 0) := by
     simp only [Bool.and_eq_true, decide_eq_true_eq, and_assoc]
   generalize (((((decide (n.District = 0) && decide (n.Minute = 0)) && decide (n.Limit = 0)) && decide (n.Yes = 0)) && decide (n.No = 0)) && decide (n.Maybe = 0)) = c at hz
   have hG : ∀ {q : Prop}, (q ↔ LeafOk n) → (q ↔ (n.Test = false → LeafOk n) ∧ (n.Test = true → TestHead n ∧ ∀ k ∈ fol3 n, NextOk p i n k)) := fun {q} h => by rw [h, ht]; simp
   cases c with
   | true =>
     refine wp_bind (fareSends_eq n.Sends) (fun b hb => wp_some (hG ?_))
     rw [Bool.true_and, hb]
     exact ⟨fun h => ⟨hz.1 rfl, h⟩, fun h => h.2⟩
   | false =>
     refine wp_offE rfl rfl (wp_some (hG ?_))
     rw [Bool.false_and]
     exact ⟨fun h => (nomatch h), fun h => (nomatch (hz.2 h.1))⟩
 · have ht : n.Test = true := by simpa using ht
   have hG : ∀ {q : Prop}, (q ↔ TestHead n ∧ ∀ k ∈ fol3 n, NextOk p i n k) → (q ↔ (n.Test = false → LeafOk n) ∧ (n.Test = true → TestHead n ∧ ∀ k ∈ fol3 n, NextOk p i n k)) := fun {q} h => by rw [h, ht]; simp
   refine wp_bif (fun hb => wp_some (hG ?_)) (fun hb => ?_)
   · refine ⟨fun h => (nomatch h), fun h => ?_⟩
     obtain ⟨h1, h2, h3, h4⟩ := h.1
     unfold fog_isDistrict fog_isMinute at hb
     simp only [Bool.or_eq_true, decide_eq_true_eq, Bool.not_eq_true', ← Bool.not_eq_true, fwithin_iff] at hb
     rcases hb with ((hb | hb) | hb) | hb
     · exact absurd h1 hb
     · exact absurd h2 hb
     · exact absurd h3 hb
     · omega
   · unfold fog_isDistrict fog_isMinute at hb
     simp only [Bool.or_eq_false_iff, Bool.not_eq_false', decide_eq_false_iff_not, fwithin_iff] at hb
     have hH : TestHead n := ⟨hb.1.1.1, hb.1.1.2, hb.1.2, by omega⟩
     refine wp_must (next_ok n) ?_
     rw [next_keys, mapAny_of (q := fun q => !decide (NextOk p i n (((fog_next n).get q).getD default))) (fun q hq => ?_)]
     · have hany : ∀ b, [1, 0, 2].any (fun q => !decide (NextOk p i n (((fog_next n).get q).getD default))) = b → (b = false ↔ ∀ k ∈ fol3 n, NextOk p i n k) := by
         intro b e
         have e1 : ((fog_next n).get 1).getD default = n.Yes := rfl
         have e2 : ((fog_next n).get 0).getD default = n.No := rfl
         have e3 : ((fog_next n).get 2).getD default = n.Maybe := rfl
         rw [mem_fol3, ← e]
         simp only [List.any_cons, List.any_nil, e1, e2, e3, Bool.or_false, Bool.or_eq_false_iff, Bool.not_eq_false', decide_eq_true_eq]
       refine wp_bif (fun hb => wp_some (hG ?_)) (fun hb => wp_some (hG ?_))
       · exact ⟨fun h => (nomatch h), fun h => (nomatch ((hany _ hb).2 h.2))⟩
       · exact ⟨fun _ => ⟨hH, (hany _ hb).1 rfl⟩, fun _ => rfl⟩
     · have e0 := nextOk_dec (p := p) (i := i) (n := n) (k := ((fog_next n).get q).getD default)
       refine (must_yes (by unfold inI; omega) _).trans ((must_yes (by unfold inI; omega) _).trans ((must_yes (fun h => ?_) _).trans ((must_yes (fun h => ?_) _).trans e0)))
       · simp only [Bool.not_not, fwithin_iff] at h; omega
       · simp only [Bool.not_not, Bool.and_eq_true, fwithin_iff] at h; omega
theorem fcheckPolicy_wp (p : List Node) : Wp (fog_CheckPolicy p) (fun r => (PolOk p ∧ r = 0) ∨ (¬ PolOk p ∧ r = 53)) := by
 unfold fog_CheckPolicy
 by_cases hlen : 1 ≤ p.length ∧ p.length ≤ 31
 · have hw : fog_within ((p.length : Nat) : Int) 1 31 = true := fwithin_iff.2 (by omega)
   rw [hw]
   refine wp_false rfl ?_
   refine wp_range (fun i (s : Mp Bool) => (∀ j, j < i → NodeOk p j) ∧ (names (p.take i)).Nodup ∧ s.card = (names (p.take i)).length ∧ ∀ k, s.get k = if k ∈ names (p.take i) then some true else none) ⟨fun j hj => by omega, by simp [names], rfl, fun k => by simp [names, Mp.empty]⟩ (fun i s K hi hI hK => ?_) (fun s hI => ?_)
   · obtain ⟨I1, I2, I3, I4⟩ := hI
     have et := names_take (p := p) hi
     have sub : ∀ {P : Prop}, ((names (p.take (i + 1))).Nodup → P) → ((names p).Nodup → P) := fun h hn => h (by
       have e : names p = names (p.take (i + 1)) ++ names (p.drop (i + 1)) := by unfold names; rw [← List.flatMap_append, List.take_append_drop]
       rw [e] at hn
       exact (List.nodup_append.1 hn).1)
     refine wp_joinU (wp_bind (fisNode_wp p i hi hlen.2) (fun b hb => wp_bif (fun h => wp_some (.inr ⟨fun V => ?_, rfl⟩)) (fun h => ?_)))
     · have := hb.2 (V.node i hi); rw [this] at h; cases h
     · have hN : NodeOk p i := hb.1 (by simpa using h)
       have I1' : ∀ j, j < i + 1 → NodeOk p j := fun j hj => by
         by_cases e : j = i
         · rw [e]; exact hN
         · exact I1 j (by omega)
       have en : p.getD i default = nd p i := rfl
       simp only [en]
       refine wp_bif (fun ht => hK _ ⟨I1', ?_⟩) (fun ht => ?_)
       · have e2 : nm (nd p i) = [] := by unfold nm; rw [if_neg (by simpa using ht)]
         rw [et, e2, List.append_nil]
         exact ⟨I2, I3, I4⟩
       · have e2 : nm (nd p i) = fol3 (nd p i) := by unfold nm; rw [if_pos (by simpa using ht)]
         show Wp (rangeGo _ _ (fol3 (nd p i)).length 0 s) _
         refine wp_range (fun m (s : Mp Bool) => (names (p.take i) ++ (fol3 (nd p i)).take m).Nodup ∧ s.card = (names (p.take i) ++ (fol3 (nd p i)).take m).length ∧ ∀ k, s.get k = if k ∈ names (p.take i) ++ (fol3 (nd p i)).take m then some true else none) (by rw [List.take_zero, List.append_nil]; exact ⟨I2, I3, I4⟩) (fun m s K2 hm hJ hK2 => ?_) (fun s hJ => hK _ ⟨I1', ?_⟩)
         · obtain ⟨J1, J2, J3⟩ := hJ
           have eL : ([(nd p i).Yes, (nd p i).No, (nd p i).Maybe] : List Int) = fol3 (nd p i) := rfl
           simp only [eL]
           generalize hx : (fol3 (nd p i)).getD m default = x
           have e3 : (fol3 (nd p i)).take (m + 1) = (fol3 (nd p i)).take m ++ [x] := by rw [take_getD hm, hx]
           by_cases hmem : x ∈ names (p.take i) ++ (fol3 (nd p i)).take m
           · refine wp_true (by rw [J3, if_pos hmem]; rfl) (wp_some (.inr ⟨fun V => ?_, rfl⟩))
             refine sub (P := False) (fun hn => ?_) V.nodup
             rw [et, e2, ← List.take_append_drop (m + 1) (fol3 (nd p i)), e3, ← List.append_assoc, ← List.append_assoc, List.nodup_append] at hn
             have hn1 := List.nodup_append.1 hn.1
             exact hn1.2.2 x hmem x (List.mem_singleton.2 rfl) rfl
           · refine wp_false (by rw [J3, if_neg hmem]; rfl) (hK2 _ ?_)
             rw [e3, ← List.append_assoc]
             refine ⟨?_, ?_, fun k => ?_⟩
             · rw [List.nodup_append]
               refine ⟨J1, by simp, fun a ha b hb => ?_⟩
               rw [List.mem_singleton] at hb
               intro e; rw [e, hb] at ha; exact hmem ha
             · unfold Mp.set
               simp only
               rw [J3, if_neg hmem, List.length_append, J2]; rfl
             · unfold Mp.set
               simp only
               by_cases hk : k = x
               · rw [if_pos hk, if_pos (by rw [hk]; simp)]
               · rw [if_neg hk, J3]
                 by_cases h4 : k ∈ names (p.take i) ++ (fol3 (nd p i)).take m
                 · rw [if_pos h4, if_pos (List.mem_append_left _ h4)]
                 · rw [if_neg h4, if_neg (fun h5 => by
                     rcases List.mem_append.1 h5 with h5 | h5
                     · exact h4 h5
                     · exact hk (List.mem_singleton.1 h5))]
         · rw [List.take_length] at hJ
           rw [et, e2]
           exact hJ
   · obtain ⟨I1, I2, I3, I4⟩ := hI
     rw [List.take_length] at I2 I3
     refine wp_mustI (by omega) (wp_ifn (fun h => wp_some (.inr ⟨fun V => ?_, rfl⟩)) (fun h => wp_some (.inl ⟨⟨hlen, I1, I2, by omega⟩, rfl⟩)))
     have := V.count; omega
 · have hw : fog_within ((p.length : Nat) : Int) 1 31 = false := Bool.eq_false_iff.2 (fun h => by have := fwithin_iff.1 h; omega)
   rw [hw]
   exact wp_true rfl (wp_some (.inr ⟨fun V => hlen V.len, rfl⟩))
theorem fpol_ok {p : List Node} (h : PolOk p) : fog_CheckPolicy p = some 0 := by
 obtain ⟨r, e, k⟩ := fcheckPolicy_wp p
 rcases k with ⟨_, k⟩ | ⟨k, _⟩
 · rw [e, k]
 · exact absurd h k
theorem fpol_bad {p : List Node} (h : ¬ PolOk p) : fog_CheckPolicy p = some 53 := by
 obtain ⟨r, e, k⟩ := fcheckPolicy_wp p
 rcases k with ⟨k, _⟩ | ⟨_, k⟩
 · exact absurd k h
 · rw [e, k]
end Go.Sp
end
/- Plain laws, fog: where a policy comes to, and where it still may. No program in sight. -/
section
set_option linter.all false
namespace Go.Sp
open Go.Av
set_option maxRecDepth 100000
def tellL (n : Node) (l : List Report) (night m : Int) : Int :=
 if (pairL (seeL l n.District night m)).isSome then 2 else fog_below (sightL (seeL l n.District night m) n.Minute) n.Limit
theorem tellL_vals (n : Node) (l : List Report) (night m : Int) : tellL n l night m = 0 ∨ tellL n l night m = 1 ∨ tellL n l night m = 2 := by
 unfold tellL
 split
 · exact .inr (.inr rfl)
 · rcases below_vals (sightL (seeL l n.District night m) n.Minute) n.Limit with h | h | h
   · exact .inr (.inl h.1)
   · exact .inl h.1
   · exact .inr (.inr h.1)
theorem ftell_eq {fuel : Nat} (n : Node) (l : List Report) (night m : Int) (hl : l.length ≤ 60) (hf : 61 < fuel) : fog_tell fuel n l night m = some (tellL n l night m) := by
 unfold fog_tell
 have hle : (seeL l n.District night m).length ≤ 60 := Nat.le_trans (List.length_filter_le _ _) hl
 refine Wp.eq (wp_bindE (fsee_eq fuel l _ _ _ hl (by omega)) (wp_bindE (fpair_eq _ (by omega)) ?_))
 unfold tellL
 rw [pairR_two]
 cases (pairL (seeL l n.District night m)).isSome
 · exact wp_false rfl (wp_bindE (fsight_eq _ _) (wp_some rfl))
 · exact wp_true rfl (wp_some rfl)
def nextL (n : Node) (a : Int) : Int := if a = 1 then n.Yes else if a = 0 then n.No else n.Maybe
theorem fnext_eq (n : Node) {a : Int} (h : a = 0 ∨ a = 1 ∨ a = 2) : ((fog_next n).get a).getD default = nextL n a := by
 rcases h with rfl | rfl | rfl <;> rfl
theorem next_mem (n : Node) (a : Int) : nextL n a ∈ fol3 n := by
 unfold nextL fol3
 split
 · simp
 · split <;> simp
def stamp (night : Int) (n : Node) : Int := night * 1440 + n.Minute
theorem stamp_eq {night : Int} {n : Node} (h : 0 ≤ night ∧ night ≤ 100000) (hm : 0 ≤ n.Minute ∧ n.Minute ≤ 1439) : fog_moment night n.Minute = some (stamp night n) := by
 unfold fog_moment stamp
 exact (must_yes (by unfold inI; omega) _).trans (must_yes (by unfold inI; omega) _)
theorem pol_test {p : List Node} (V : PolOk p) {i : Int} (h0 : 0 ≤ i) (h1 : i < p.length) (ht : (nd p i.toNat).Test = true) : TestHead (nd p i.toNat) ∧ ∀ k ∈ fol3 (nd p i.toNat), i + 1 ≤ k ∧ k ≤ (p.length : Int) - 1 ∧ ((nd p k.toNat).Test = true → (nd p i.toNat).Minute ≤ (nd p k.toNat).Minute) := by
 have := (V.node i.toNat (by omega)).2 ht
 refine ⟨this.1, fun k hk => ?_⟩
 have h := this.2 k hk
 unfold NextOk at h
 have e : ((i.toNat : Nat) : Int) = i := by omega
 rw [e] at h
 exact ⟨h.1.1, h.1.2, h.2⟩
theorem pol_one {p : List Node} (V : PolOk p) {i j : Int} (hi : 0 ≤ i ∧ i < p.length) (hj : 0 ≤ j ∧ j < p.length) (ti : (nd p i.toNat).Test = true) (tj : (nd p j.toNat).Test = true) {k : Int} (h1 : k ∈ fol3 (nd p i.toNat)) (h2 : k ∈ fol3 (nd p j.toNat)) : i = j := by
 have hn := V.nodup
 unfold names at hn
 rw [List.Nodup, List.pairwise_flatMap] at hn
 have key : ∀ {a b : Nat}, a < b → b < p.length → (nd p a).Test = true → (nd p b).Test = true → k ∈ fol3 (nd p a) → k ∈ fol3 (nd p b) → False := by
   intro a b hab hb ta tb ka kb
   have := List.pairwise_iff_getElem.1 hn.2 a b (by omega) hb hab
   have ea : p[a] = nd p a := by unfold nd; simp [List.getElem?_eq_getElem (show a < p.length by omega)]
   have eb : p[b] = nd p b := by unfold nd; simp [List.getElem?_eq_getElem hb]
   rw [ea, eb] at this
   refine this k (by unfold nm; rw [if_pos ta]; exact ka) k (by unfold nm; rw [if_pos tb]; exact kb) rfl
 rcases Nat.lt_trichotomy i.toNat j.toNat with h | h | h
 · exact (key h (by omega) ti tj h1 h2).elim
 · omega
 · exact (key h (by omega) tj ti h2 h1).elim
theorem fol_nodup {p : List Node} (V : PolOk p) {i : Int} (h0 : 0 ≤ i) (h1 : i < p.length) (ht : (nd p i.toNat).Test = true) : (fol3 (nd p i.toNat)).Nodup := by
 have hn := V.nodup
 unfold names at hn
 rw [List.Nodup, List.pairwise_flatMap] at hn
 have := hn.1 (nd p i.toNat) (getD_mem (by omega))
 unfold nm at this
 rw [if_pos ht] at this
 exact this
def stp (p : List Node) (l : List Report) (night i : Int) : Int := nextL (nd p i.toNat) (tellL (nd p i.toNat) l night (stamp night (nd p i.toNat)))
def pathL (p : List Node) (l : List Report) (night : Int) : Nat → Int → List Int
 | 0, _ => []
 | k + 1, i => if (nd p i.toNat).Test then stp p l night i :: pathL p l night k (stp p l night i) else []
theorem pathL_len (p : List Node) (l : List Report) (night : Int) : ∀ (k : Nat) (i : Int), (pathL p l night k i).length ≤ k
 | 0, _ => Nat.le_refl _
 | k + 1, i => by
   unfold pathL
   split
   · have := pathL_len p l night k (stp p l night i); simp only [List.length_cons]; omega
   · simp
theorem pathL_more {p : List Node} {l : List Report} {night : Int} (V : PolOk p) : ∀ (k k' : Nat) (i : Int), 0 ≤ i → i < p.length → p.length - i.toNat ≤ k → p.length - i.toNat ≤ k' → pathL p l night k i = pathL p l night k' i
 | 0, k', i, h0, h1, hk, hk' => by omega
 | k + 1, 0, i, h0, h1, hk, hk' => by omega
 | k + 1, k' + 1, i, h0, h1, hk, hk' => by
   unfold pathL
   by_cases ht : (nd p i.toNat).Test = true
   · rw [if_pos ht, if_pos ht]
     have := (pol_test V h0 h1 ht).2 _ (next_mem (nd p i.toNat) (tellL (nd p i.toNat) l night (stamp night (nd p i.toNat))))
     rw [pathL_more V k k' (stp p l night i) (by unfold stp; omega) (by unfold stp; omega) (by unfold stp; omega) (by unfold stp; omega)]
   · rw [if_neg ht, if_neg ht]
def pathF (p : List Node) (l : List Report) (night : Int) : List Int := 0 :: pathL p l night p.length 0
theorem path_loop {fuel : Nat} {p : List Node} {l : List Report} {night : Int} (V : PolOk p) {body : (Int × List Int) → ((Int × List Int) → Option (List Int)) → Option (List Int)} {P : List Int → Prop} (hf : 31 < fuel)
   (hb : ∀ (i : Int) (out : List Int) K, 0 ≤ i → i < p.length → out.length ≤ 31 → ((nd p i.toNat).Test = true → TestHead (nd p i.toNat) → Wp (K (stp p l night i, out ++ [stp p l night i])) P) → ((nd p i.toNat).Test = false → P out) → Wp (body (i, out) K) P) (hP : P (pathF p l night)) : Wp (loopGo body fuel (0, [0])) P := by
 refine wp_loop (fun s => 0 ≤ s.1 ∧ s.1 < p.length ∧ s.2 ++ pathL p l night (p.length - s.1.toNat) s.1 = pathF p l night ∧ s.2.length + (p.length - s.1.toNat) ≤ p.length + 1) (fun s => p.length - s.1.toNat) (by have := V.len; simp only; omega) ⟨by simp, by have := V.len; simp only; omega, rfl, by simp; omega⟩ ?_
 rintro ⟨i, out⟩ K ⟨h0, h1, h2, h3⟩ hK
 simp only at h0 h1 h2 h3 hK
 have hlen := V.len
 refine hb i out K h0 h1 (by omega) (fun ht hh => ?_) (fun ht => ?_)
 · have hn := (pol_test V h0 h1 ht).2 _ (next_mem (nd p i.toNat) (tellL (nd p i.toNat) l night (stamp night (nd p i.toNat))))
   have hs : i + 1 ≤ stp p l night i ∧ stp p l night i ≤ (p.length : Int) - 1 := ⟨hn.1, hn.2.1⟩
   refine hK _ ⟨by omega, by omega, ?_, by simp only [List.length_append, List.length_cons, List.length_nil]; omega⟩ (by omega)
   have e : p.length - i.toNat = (p.length - i.toNat - 1) + 1 := by omega
   rw [e] at h2
   unfold pathL at h2
   rw [if_pos ht] at h2
   rw [← h2, List.append_assoc, List.singleton_append, pathL_more V (p.length - (stp p l night i).toNat) (p.length - i.toNat - 1) _ (by omega) (by omega) (by omega) (by omega)]
 · have e : p.length - i.toNat = (p.length - i.toNat - 1) + 1 := by omega
   rw [e] at h2
   unfold pathL at h2
   rw [if_neg (by rw [ht]; simp), List.append_nil] at h2
   rw [h2]; exact hP
theorem fpath_eq {fuel : Nat} {p : List Node} {l : List Report} {night : Int} (V : PolOk p) (hl : l.length ≤ 60) (hn : 0 ≤ night ∧ night ≤ 100000) (hf : 61 < fuel) : fog_path fuel p l night = some (pathF p l night) := by
 unfold fog_path
 refine Wp.eq (path_loop V (l := l) (night := night) (by omega) (fun i out K h0 h1 ho hK hE => ?_) rfl)
 simp only
 refine wp_must (by omega) ?_
 have en : p.getD i.toNat default = nd p i.toNat := rfl
 simp only [en]
 refine wp_bif (fun ht => ?_) (fun ht => wp_some (hE ht))
 have hh := (pol_test V h0 h1 ht).1
 refine wp_must (by omega) (wp_must (by omega) (wp_must (by omega) (wp_bindE (stamp_eq hn hh.2.1) (wp_bindE (ftell_eq _ _ _ _ hl hf) ?_))))
 rw [fnext_eq _ (tellL_vals _ _ _ _)]
 exact wp_mustR (by simp; omega) (hK ht hh)
open Classical in
noncomputable def askR (p : List Node) (l : List Report) (night m : Int) : Int := if ¬ PolOk p then 53 else if ¬ RepsOk l then 51 else if ¬ (dayOk night m) then 6 else 0
theorem askR_zero {p : List Node} {l : List Report} {night m : Int} : askR p l night m = 0 ↔ PolOk p ∧ RepsOk l ∧ dayOk night m := by
 unfold askR
 constructor
 · intro h
   split at h
   · cases h
   · split at h
     · cases h
     · split at h
       · cases h
       · next h1 h2 h3 => exact ⟨Classical.not_not.1 h1, Classical.not_not.1 h2, Classical.not_not.1 h3⟩
 · rintro ⟨h1, h2, h3⟩
   rw [if_neg (fun h => h h1), if_neg (fun h => h h2), if_neg (fun h => h h3)]
theorem fasked_eq (p : List Node) (l : List Report) (night m : Int) : fog_asked p l night m = some (askR p l night m) := by
 unfold fog_asked askR
 refine Wp.eq ?_
 by_cases h1 : PolOk p
 · rw [if_neg (fun h => h h1)]
   refine wp_bindE (fpol_ok h1) (wp_false rfl ?_)
   by_cases h2 : RepsOk l
   · rw [if_neg (fun h => h h2)]
     refine wp_bindE (fcheck_ok h2) (wp_false rfl ?_)
     refine wp_bif (fun hb => ?_) (fun hb => ?_)
     · rw [if_pos (fun h3 : dayOk night m => ?_)]
       · exact wp_some rfl
       · unfold fog_isNight fog_isMoment at hb
         unfold dayOk at h3
         rw [fwithin_iff.2 (by omega), fwithin_iff.2 (by omega)] at hb
         cases hb
     · have h3 : dayOk night m := by
         unfold fog_isNight fog_isMoment at hb
         simp only [Bool.or_eq_false_iff, Bool.not_eq_false', fwithin_iff] at hb
         unfold dayOk; omega
       rw [if_neg (fun h => h h3)]
       exact wp_some rfl
   · rw [if_pos h2]
     exact wp_bindE (fcheck_bad h2) (wp_true rfl (wp_some rfl))
 · rw [if_pos h1]
   exact wp_bindE (fpol_bad h1) (wp_true rfl (wp_some rfl))
noncomputable def pathR (p : List Node) (l : List Report) (night : Int) : List Int × Int := if askR p l night 0 ≠ 0 then ([], askR p l night 0) else (pathF p l night, 0)
theorem fPath_eq {fuel : Nat} (p : List Node) (l : List Report) (night : Int) (hf : 61 < fuel) : fog_Path fuel p l night = some (pathR p l night) := by
 unfold fog_Path pathR
 refine Wp.eq (wp_bindE (fasked_eq p l night 0) (wp_ifn (fun h => ?_) (fun h => ?_)))
 · rw [if_pos h]; exact wp_some rfl
 · rw [if_neg (by simp [h])]
   obtain ⟨V, R, D⟩ := askR_zero.1 h
   exact wp_bindE (fpath_eq V R.len ⟨D.1, D.2.1⟩ hf) (wp_some rfl)
def suc (p : List Node) (l : List Report) (night now i : Int) : List Int :=
 if (nd p i.toNat).Test then
   (if now < stamp night (nd p i.toNat) ∧ tellL (nd p i.toNat) l night (min (stamp night (nd p i.toNat)) now) = 2 then fol3 (nd p i.toNat)
    else [nextL (nd p i.toNat) (tellL (nd p i.toNat) l night (min (stamp night (nd p i.toNat)) now))]) else []
theorem suc_sub {p : List Node} {l : List Report} {night now i k : Int} (h : k ∈ suc p l night now i) : (nd p i.toNat).Test = true ∧ k ∈ fol3 (nd p i.toNat) := by
 unfold suc at h
 split at h
 · next ht =>
   refine ⟨ht, ?_⟩
   split at h
   · exact h
   · rw [List.mem_singleton] at h; rw [h]; exact next_mem _ _
 · cases h
theorem suc_in {p : List Node} (V : PolOk p) {l : List Report} {night now i k : Int} (hi : 0 ≤ i ∧ i < p.length) (h : k ∈ suc p l night now i) : i < k ∧ k < p.length := by
 obtain ⟨ht, hk⟩ := suc_sub h
 have := (pol_test V hi.1 hi.2 ht).2 k hk
 omega
theorem suc_nodup {p : List Node} (V : PolOk p) {l : List Report} {night now i : Int} (hi : 0 ≤ i ∧ i < p.length) : (suc p l night now i).Nodup := by
 unfold suc
 split
 · next ht =>
   split
   · exact fol_nodup V hi.1 hi.2 ht
   · simp
 · exact .nil
inductive Reach (S : Int → List Int) : Int → Int → Prop
 | refl (a : Int) : Reach S a a
 | step {a b c : Int} : Reach S a b → c ∈ S b → Reach S a c
theorem Reach.trans {S : Int → List Int} {a b c : Int} (h1 : Reach S a b) (h2 : Reach S b c) : Reach S a c := by
 induction h2 with
 | refl => exact h1
 | step _ h ih => exact ih.step h
theorem Reach.mono {S T : Int → List Int} (h : ∀ i k, k ∈ S i → k ∈ T i) {a b : Int} (hr : Reach S a b) : Reach T a b := by
 induction hr with
 | refl => exact .refl _
 | step _ hc ih => exact ih.step (h _ _ hc)
theorem reach_in {p : List Node} (V : PolOk p) {l : List Report} {night now a b : Int} (h : Reach (suc p l night now) a b) (h0 : 0 ≤ a) (h1 : a < p.length) : a ≤ b ∧ b < p.length := by
 induction h with
 | refl => omega
 | step _ hc ih => have := suc_in V ⟨by omega, ih.2⟩ hc; omega
theorem reach_or {p : List Node} (V : PolOk p) {l : List Report} {night now a b j : Int} (ha : 0 ≤ a ∧ a < p.length) (hb : 0 ≤ b ∧ b < p.length) (h1 : Reach (suc p l night now) a j) (h2 : Reach (suc p l night now) b j) : Reach (suc p l night now) a b ∨ Reach (suc p l night now) b a := by
 induction h1 with
 | refl => exact .inr h2
 | step ha1 hc ih =>
   rename_i c k
   cases h2 with
   | refl => exact .inl (ha1.step hc)
   | step hb1 hc2 =>
     rename_i c2
     have i1 := reach_in V ha1 ha.1 ha.2
     have i2 := reach_in V hb1 hb.1 hb.2
     obtain ⟨t1, m1⟩ := suc_sub hc
     obtain ⟨t2, m2⟩ := suc_sub hc2
     have e := pol_one V (i := c) (j := c2) ⟨by omega, i1.2⟩ ⟨by omega, i2.2⟩ t1 t2 m1 m2
     rw [← e] at hb1
     exact ih hb1
theorem reach_disj {p : List Node} (V : PolOk p) {l : List Report} {night now i a b j : Int} (hi : 0 ≤ i ∧ i < p.length) (ha : a ∈ suc p l night now i) (hb : b ∈ suc p l night now i) (hab : a ≠ b) (h1 : Reach (suc p l night now) a j) (h2 : Reach (suc p l night now) b j) : False := by
 have key : ∀ {a b : Int}, a ∈ suc p l night now i → b ∈ suc p l night now i → a ≠ b → Reach (suc p l night now) a b → False := by
   intro a b ha hb hab h
   have ia := suc_in V hi ha
   have ib := suc_in V hi hb
   cases h with
   | refl => exact hab rfl
   | step h3 h4 =>
     rename_i c
     have ic := reach_in V h3 (by omega) ia.2
     obtain ⟨t1, m1⟩ := suc_sub h4
     obtain ⟨t2, m2⟩ := suc_sub hb
     have := pol_one V (i := c) (j := i) ⟨by omega, ic.2⟩ hi t1 t2 m1 m2
     omega
 have ia := suc_in V hi ha
 have ib := suc_in V hi hb
 rcases reach_or V ⟨by omega, ia.2⟩ ⟨by omega, ib.2⟩ h1 h2 with h | h
 · exact key ha hb hab h
 · exact key hb ha (fun e => hab e.symm) h
def dfs (p : List Node) (l : List Report) (night now : Int) : Nat → Int → List Int
 | 0, _ => []
 | k + 1, i => if (nd p i.toNat).Test then (suc p l night now i).flatMap (dfs p l night now k) else [i]
theorem dfs_mem {p : List Node} (V : PolOk p) {l : List Report} {night now : Int} : ∀ (k : Nat) (i j : Int), 0 ≤ i → i < p.length → p.length - i.toNat ≤ k → (j ∈ dfs p l night now k i ↔ Reach (suc p l night now) i j ∧ (nd p j.toNat).Test = false)
 | 0, i, j, h0, h1, hk => by omega
 | k + 1, i, j, h0, h1, hk => by
   unfold dfs
   by_cases ht : (nd p i.toNat).Test = true
   · rw [if_pos ht, List.mem_flatMap]
     constructor
     · rintro ⟨a, ha, h⟩
       have ia := suc_in V ⟨h0, h1⟩ ha
       rw [dfs_mem V k a j (by omega) ia.2 (by omega)] at h
       exact ⟨((Reach.refl i).step ha).trans h.1, h.2⟩
     · rintro ⟨h, hl⟩
       have : i = j ∨ ∃ a, a ∈ suc p l night now i ∧ Reach (suc p l night now) a j := by
         clear hl hk
         induction h with
         | refl => exact .inl rfl
         | step h hc ih =>
           rename_i c d
           rcases ih with rfl | ⟨a, ha, h'⟩
           · exact .inr ⟨d, hc, .refl _⟩
           · exact .inr ⟨a, ha, h'.step hc⟩
       rcases this with rfl | ⟨a, ha, h'⟩
       · rw [ht] at hl; cases hl
       · have ia := suc_in V ⟨h0, h1⟩ ha
         exact ⟨a, ha, (dfs_mem V k a j (by omega) ia.2 (by omega)).2 ⟨h', hl⟩⟩
   · rw [if_neg ht, List.mem_singleton]
     constructor
     · rintro rfl; exact ⟨.refl _, by simpa using ht⟩
     · rintro ⟨h, hl⟩
       have : i = j ∨ ∃ a, a ∈ suc p l night now i := by
         clear hl hk
         induction h with
         | refl => exact .inl rfl
         | step h hc ih =>
           rcases ih with rfl | h'
           · exact .inr ⟨_, hc⟩
           · exact .inr h'
       rcases this with rfl | ⟨a, ha⟩
       · rfl
       · exact absurd (suc_sub ha).1 ht
theorem dfs_nodup {p : List Node} (V : PolOk p) {l : List Report} {night now : Int} : ∀ (k : Nat) (i : Int), 0 ≤ i → i < p.length → p.length - i.toNat ≤ k → (dfs p l night now k i).Nodup
 | 0, i, h0, h1, hk => by omega
 | k + 1, i, h0, h1, hk => by
   unfold dfs
   by_cases ht : (nd p i.toNat).Test = true
   · rw [if_pos ht, List.Nodup, List.pairwise_flatMap]
     refine ⟨fun a ha => ?_, ?_⟩
     · have ia := suc_in V ⟨h0, h1⟩ ha
       exact dfs_nodup V k a (by omega) ia.2 (by omega)
     · have hn := suc_nodup V (l := l) (night := night) (now := now) ⟨h0, h1⟩
       refine List.Pairwise.imp_of_mem (fun {a b} ha hb hab x hx y hy e => ?_) hn
       have ia := suc_in V ⟨h0, h1⟩ ha
       have ib := suc_in V ⟨h0, h1⟩ hb
       rw [← e] at hy
       exact reach_disj V ⟨h0, h1⟩ ha hb hab ((dfs_mem V k a x (by omega) ia.2 (by omega)).1 hx).1 ((dfs_mem V k b x (by omega) ib.2 (by omega)).1 hy).1
   · rw [if_neg ht]; simp
theorem dfs_some {p : List Node} (V : PolOk p) {l : List Report} {night now : Int} : ∀ (k : Nat) (i : Int), 0 ≤ i → i < p.length → p.length - i.toNat ≤ k → dfs p l night now k i ≠ []
 | 0, i, h0, h1, hk => by omega
 | k + 1, i, h0, h1, hk => by
   unfold dfs
   by_cases ht : (nd p i.toNat).Test = true
   · rw [if_pos ht]
     have : ∃ a, a ∈ suc p l night now i := by
       unfold suc
       rw [if_pos ht]
       split
       · exact ⟨_, next_mem _ 1⟩
       · exact ⟨_, List.mem_singleton.2 rfl⟩
     obtain ⟨a, ha⟩ := this
     have ia := suc_in V ⟨h0, h1⟩ ha
     have := dfs_some V (l := l) (night := night) (now := now) k a (by omega) ia.2 (by omega)
     intro e
     rw [List.flatMap_eq_nil_iff] at e
     exact this (e a ha)
   · rw [if_neg ht]; simp
theorem dfs_len {p : List Node} (V : PolOk p) {l : List Report} {night now : Int} {k : Nat} (hk : p.length ≤ k) : (dfs p l night now k 0).length ≤ 31 := by
 have hlen := V.len
 have h1 := dfs_nodup V (l := l) (night := night) (now := now) k 0 (by omega) (by omega) (by omega)
 have h2 := nodup_le h1 (r := (List.range p.length).map (fun j : Nat => (j : Int))) (fun j hj => by
   have := ((dfs_mem V k 0 j (by omega) (by omega) (by omega)).1 hj).1
   have := reach_in V this (by omega) (by omega)
   rw [List.mem_map]
   exact ⟨j.toNat, List.mem_range.2 (by omega), by omega⟩)
 rw [List.length_map, List.length_range] at h2
 omega
def possL (p : List Node) (l : List Report) (night now : Int) : List Int := isort (dfs p l night now p.length 0)
theorem possL_mem {p : List Node} (V : PolOk p) {l : List Report} {night now j : Int} : j ∈ possL p l night now ↔ Reach (suc p l night now) 0 j ∧ (nd p j.toNat).Test = false := by
 have hlen := V.len
 unfold possL
 rw [(isort_perm _).mem_iff]
 exact dfs_mem V p.length 0 j (by omega) (by omega) (by omega)
theorem possL_nodup {p : List Node} (V : PolOk p) {l : List Report} {night now : Int} : (possL p l night now).Nodup := by
 have hlen := V.len
 unfold possL
 exact (isort_perm _).nodup_iff.2 (dfs_nodup V p.length 0 (by omega) (by omega) (by omega))
theorem possL_len {p : List Node} (V : PolOk p) {l : List Report} {night now : Int} : 0 < (possL p l night now).length ∧ (possL p l night now).length ≤ 31 := by
 have hlen := V.len
 unfold possL
 rw [isort_length]
 exact ⟨List.length_pos_iff.2 (dfs_some V p.length 0 (by omega) (by omega) (by omega)), dfs_len V (by omega)⟩
end Go.Sp
end
/- Plain laws, fog: the possible leaves by program and document; FogPolicies. No program in sight. -/
section
set_option linter.all false
namespace Go.Sp
open Go.Av
set_option maxRecDepth 100000
theorem nowL {p : List Node} {l : List Report} {night now i : Int} (ht : (nd p i.toNat).Test = true) : suc p l night now i =
   if now < stamp night (nd p i.toNat) ∧ tellL (nd p i.toNat) l night (min (stamp night (nd p i.toNat)) now) = 2 then fol3 (nd p i.toNat)
    else [nextL (nd p i.toNat) (tellL (nd p i.toNat) l night (min (stamp night (nd p i.toNat)) now))] := by
 unfold suc; rw [if_pos ht]
theorem flat_take (f : Int → List Int) (l : List Int) {i : Nat} (h : i < l.length) : (l.take (i + 1)).flatMap f = (l.take i).flatMap f ++ f (l.getD i default) := by
 rw [take_getD h, List.flatMap_append]; simp
theorem fposs_wp {fuel : Nat} {p : List Node} {l : List Report} {night now : Int} (V : PolOk p) (hl : l.length ≤ 60) (hn : 0 ≤ night ∧ night ≤ 100000) (hf : 61 < fuel) :
   ∀ (k : Nat) (i : Int) (out : List Int), 0 ≤ i → i < p.length → p.length - i.toNat ≤ k → (out ++ dfs p l night now k i).length ≤ 1000 → fog_possible_1_l fuel k i p out night l now = some (out ++ dfs p l night now k i)
 | 0, i, out, h0, h1, hk, _ => by omega
 | k + 1, i, out, h0, h1, hk, hr => by
   show fog_possible_1_l_F fuel (fog_possible_1_l fuel k) i p out night l now = _
   unfold fog_possible_1_l_F
   have en : p.getD i.toNat default = nd p i.toNat := rfl
   simp only [en]
   refine Wp.eq (wp_must (by omega) (wp_bif (fun ht => ?_) (fun ht => ?_)))
   · have ht : ¬ (nd p i.toNat).Test = true := by simpa using ht
     have e : dfs p l night now (k + 1) i = [i] := by unfold dfs; rw [if_neg ht]
     rw [e] at hr ⊢
     exact wp_mustR (by omega) (wp_some rfl)
   · have ht : (nd p i.toNat).Test = true := by simpa using ht
     have e : dfs p l night now (k + 1) i = (suc p l night now i).flatMap (dfs p l night now k) := by unfold dfs; rw [if_pos ht]
     rw [e] at hr ⊢
     have hh := pol_test V h0 h1 ht
     have hs : ∀ a, a ∈ fol3 (nd p i.toNat) → 0 ≤ a ∧ a < p.length ∧ p.length - a.toNat ≤ k := fun a ha => by have := hh.2 a ha; omega
     refine wp_bindE (stamp_eq hn hh.1.2.1) (wp_bindE (ftell_eq _ _ _ _ hl hf) ?_)
     rw [nowL ht] at hr ⊢
     refine wp_bif (fun hb => ?_) (fun hb => ?_)
     · simp only [Bool.and_eq_true, decide_eq_true_eq] at hb
       rw [if_pos hb] at hr ⊢
       show Wp (rangeGo _ _ (fol3 (nd p i.toNat)).length 0 out) _
       refine wp_range (fun m s => s = out ++ ((fol3 (nd p i.toNat)).take m).flatMap (dfs p l night now k)) (by simp) (fun m s K hm hI hK => ?_) (fun s hI => wp_some (by rw [hI, List.take_length]))
       have eL : ([(nd p i.toNat).Yes, (nd p i.toNat).No, (nd p i.toNat).Maybe] : List Int) = fol3 (nd p i.toNat) := rfl
       simp only [eL]
       have hx := hs _ (getD_mem hm)
       have et := flat_take (dfs p l night now k) _ hm
       refine wp_bindE (fposs_wp V hl hn hf k _ s hx.1 hx.2.1 hx.2.2 ?_) (hK _ ?_)
       · rw [hI, List.append_assoc, ← et]
         refine Nat.le_trans ?_ hr
         rw [List.length_append, List.length_append]
         have e5 : (fol3 (nd p i.toNat)).flatMap (dfs p l night now k) = ((fol3 (nd p i.toNat)).take (m + 1)).flatMap (dfs p l night now k) ++ ((fol3 (nd p i.toNat)).drop (m + 1)).flatMap (dfs p l night now k) := by rw [← List.flatMap_append, List.take_append_drop]
         rw [e5, List.length_append]; omega
       · rw [et, hI, List.append_assoc]
     · have hb' : ¬ (now < stamp night (nd p i.toNat) ∧ tellL (nd p i.toNat) l night (min (stamp night (nd p i.toNat)) now) = 2) := by
         rintro ⟨b1, b2⟩
         rw [decide_eq_true b1, decide_eq_true b2] at hb; cases hb
       rw [if_neg hb'] at hr ⊢
       simp only [List.flatMap_cons, List.flatMap_nil, List.append_nil] at hr ⊢
       rw [fnext_eq _ (tellL_vals _ _ _ _)]
       have hx := hs _ (next_mem (nd p i.toNat) (tellL (nd p i.toNat) l night (min (stamp night (nd p i.toNat)) now)))
       exact wp_bindE (fposs_wp V hl hn hf k _ out hx.1 hx.2.1 hx.2.2 hr) (wp_some rfl)
theorem dfs_more {p : List Node} {l : List Report} {night now : Int} (V : PolOk p) : ∀ (k k' : Nat) (i : Int), 0 ≤ i → i < p.length → p.length - i.toNat ≤ k → p.length - i.toNat ≤ k' → dfs p l night now k i = dfs p l night now k' i
 | 0, _, i, h0, h1, hk, _ => by omega
 | k + 1, 0, i, h0, h1, _, hk => by omega
 | k + 1, k' + 1, i, h0, h1, hk, hk' => by
   unfold dfs
   split
   · rw [List.flatMap_def, List.flatMap_def, List.map_congr_left fun a ha => ?_]
     have := suc_in V ⟨h0, h1⟩ ha
     exact dfs_more V k k' a (by omega) this.2 (by omega) (by omega)
   · rfl
theorem fpossible_eq {fuel : Nat} {p : List Node} {l : List Report} {night now : Int} (V : PolOk p) (hl : l.length ≤ 60) (hn : 0 ≤ night ∧ night ≤ 100000) (hf : 61 < fuel) : fog_possible fuel p l night now = some (possL p l night now) := by
 unfold fog_possible
 have hlen := V.len
 have hd := dfs_len V (l := l) (night := night) (now := now) (k := fuel) (by omega)
 have em := dfs_more V (l := l) (night := night) (now := now) fuel p.length 0 (by omega) (by omega) (by omega) (by omega)
 refine Wp.eq (wp_bindE (fposs_wp V hl hn hf fuel 0 [] (by omega) (by omega) (by omega) (by rw [List.nil_append]; omega)) ?_)
 rw [List.nil_append, em]
 rw [em] at hd
 refine wp_bindE (must_yes (by omega) _ : slices_Sort_int_l _ = _) (wp_must (isort_length _) (wp_some rfl))
noncomputable def possR (p : List Node) (l : List Report) (night now : Int) : List Int × Int := if askR p l night now ≠ 0 then ([], askR p l night now) else (possL p l night now, 0)
theorem fPossible_eq {fuel : Nat} (p : List Node) (l : List Report) (night now : Int) (hf : 61 < fuel) : fog_Possible fuel p l night now = some (possR p l night now) := by
 unfold fog_Possible possR
 refine Wp.eq (wp_bindE (fasked_eq p l night now) (wp_ifn (fun h => ?_) (fun h => ?_)))
 · rw [if_pos h]; exact wp_some rfl
 · rw [if_neg (by simp [h])]
   obtain ⟨V, R, D⟩ := askR_zero.1 h
   exact wp_bindE (fpossible_eq V R.len ⟨D.1, D.2.1⟩ hf) (wp_some rfl)
def manyL (n : Node) : Int := (n.Sends.map (·.Many)).sum
theorem sum_take {l : List Send} {i : Nat} (h : i < l.length) : ((l.take (i + 1)).map (·.Many)).sum = ((l.take i).map (·.Many)).sum + (sd l i).Many := by
 rw [take_getD h, List.map_append, List.sum_append]; simp [sd]
theorem sum_bound {l : List Send} (h : SendsOk l) : ∀ {i : Nat}, i ≤ l.length → 0 ≤ ((l.take i).map (·.Many)).sum ∧ ((l.take i).map (·.Many)).sum ≤ 20 * (i : Int) := by
 intro i
 induction i with
 | zero => intro _; simp
 | succ i ih =>
   intro hi
   have h1 := ih (by omega)
   have h2 := (h.2 i hi).2.1
   rw [sum_take hi]; omega
theorem fsum_wp (l : List Int) (h : ∀ i, i ≤ l.length → -1000000 ≤ (l.take i).sum ∧ (l.take i).sum ≤ 1000000) : fog_sum l = some l.sum := by
 unfold fog_sum
 refine Wp.eq (wp_range (fun i s => s = (l.take i).sum) (by simp) (fun i s K hi hI hK => ?_) (fun s hI => wp_some (by rw [hI, List.take_length])))
 have e : (l.take (i + 1)).sum = (l.take i).sum + l.getD i default := by rw [take_getD hi, List.sum_append]; simp
 have h2 := h (i + 1) hi
 rw [e] at h2
 rw [hI]
 exact wp_mustI (by omega) (hK _ e.symm)
theorem fmany_eq {n : Node} (h : SendsOk n.Sends) : fog_many n = some (manyL n) := by
 unfold fog_many
 have h9 := h.1
 refine Wp.eq (wp_range (fun i s => s = (n.Sends.take i).map (·.Many)) (by simp) (fun i s K hi hI hK => ?_) (fun s hI => ?_))
 · refine wp_mustR (by rw [hI]; simp; omega) (hK _ ?_)
   rw [hI, take_getD hi, List.map_append]; rfl
 · rw [List.take_length] at hI
   refine wp_bindE (fsum_wp s (fun i hi => ?_)) (wp_some (by rw [hI]; rfl))
   rw [hI] at hi ⊢
   rw [List.length_map] at hi
   have := sum_bound h hi
   rw [← List.map_take]; omega
theorem min_wp {fuel : Nat} {l : List Int} (h0 : 0 < l.length) (hf : l.length < fuel) (hl : l.length ≤ 1000000) : Wp (slices_Min_int fuel l) (fun r => r ∈ l ∧ ∀ x ∈ l, r ≤ x) := by
 unfold slices_Min_int
 refine wp_joinU (wp_false (by simp; omega) (wp_must (by omega) ?_))
 refine wp_loop (fun s : Int × Int => ∃ i : Nat, s.2 = (i : Int) ∧ 1 ≤ i ∧ i ≤ l.length ∧ s.1 ∈ l ∧ ∀ j, j < i → s.1 ≤ l.getD j default) (fun s => l.length - s.2.toNat) (show l.length - Int.toNat 1 < fuel by omega) ⟨1, rfl, by omega, by omega, getD_mem h0, fun j hj => (by have e0 : j = 0 := Nat.lt_one_iff.1 hj; rw [e0]; exact Int.le_refl _)⟩ ?_
 rintro ⟨r, s2⟩ K ⟨i, hi, i1, i2, i3, i4⟩ hK
 simp only at hi i3 i4 hK
 subst hi
 refine wp_ifd (fun hlt => ?_) (fun hge => wp_some ⟨i3, fun x hx => ?_⟩)
 · have hi' : i < l.length := by simp only at hlt; omega
   simp only [Int.toNat_natCast]
   refine wp_must (by omega) (wp_mustI (by omega) (hK _ ⟨i + 1, by simp, by omega, hi', ?_, fun j hj => ?_⟩ (by omega)))
   · simp only
     have hm : l.getD i default ∈ l := getD_mem hi'
     rcases Int.min_def r (l.getD i default) ▸ (show (if r ≤ l.getD i default then r else l.getD i default) = r ∨ (if r ≤ l.getD i default then r else l.getD i default) = l.getD i default by split <;> simp) with h | h
     · rw [h]; exact i3
     · rw [h]; exact hm
   · simp only
     by_cases e : j = i
     · rw [e]; omega
     · have := i4 j (by omega); omega
 · obtain ⟨j, hj, rfl⟩ := mem_getD hx
   simp only at hge
   exact i4 j (by omega)
theorem max_wp {fuel : Nat} {l : List Int} (h0 : 0 < l.length) (hf : l.length < fuel) (hl : l.length ≤ 1000000) : Wp (slices_Max_int fuel l) (fun r => r ∈ l ∧ ∀ x ∈ l, x ≤ r) := by
 unfold slices_Max_int
 refine wp_joinU (wp_false (by simp; omega) (wp_must (by omega) ?_))
 refine wp_loop (fun s : Int × Int => ∃ i : Nat, s.2 = (i : Int) ∧ 1 ≤ i ∧ i ≤ l.length ∧ s.1 ∈ l ∧ ∀ j, j < i → l.getD j default ≤ s.1) (fun s => l.length - s.2.toNat) (show l.length - Int.toNat 1 < fuel by omega) ⟨1, rfl, by omega, by omega, getD_mem h0, fun j hj => (by have e0 : j = 0 := Nat.lt_one_iff.1 hj; rw [e0]; exact Int.le_refl _)⟩ ?_
 rintro ⟨r, s2⟩ K ⟨i, hi, i1, i2, i3, i4⟩ hK
 simp only at hi i3 i4 hK
 subst hi
 refine wp_ifd (fun hlt => ?_) (fun hge => wp_some ⟨i3, fun x hx => ?_⟩)
 · have hi' : i < l.length := by simp only at hlt; omega
   simp only [Int.toNat_natCast]
   refine wp_must (by omega) (wp_mustI (by omega) (hK _ ⟨i + 1, by simp, by omega, hi', ?_, fun j hj => ?_⟩ (by omega)))
   · simp only
     have hm : l.getD i default ∈ l := getD_mem hi'
     rcases Int.max_def r (l.getD i default) ▸ (show (if r ≤ l.getD i default then l.getD i default else r) = r ∨ (if r ≤ l.getD i default then l.getD i default else r) = l.getD i default by split <;> simp) with h | h
     · rw [h]; exact i3
     · rw [h]; exact hm
   · simp only
     by_cases e : j = i
     · rw [e]; omega
     · have := i4 j (by omega); omega
 · obtain ⟨j, hj, rfl⟩ := mem_getD hx
   simp only at hge
   exact i4 j (by omega)
theorem poss_leaf {p : List Node} (V : PolOk p) {l : List Report} {night now j : Int} (h : j ∈ possL p l night now) : 0 ≤ j ∧ j < p.length ∧ SendsOk (nd p j.toNat).Sends := by
 have hlen := V.len
 obtain ⟨h1, h2⟩ := (possL_mem V).1 h
 have := reach_in V h1 (by omega) (by omega)
 exact ⟨this.1, this.2, ((V.node j.toNat (by omega)).1 h2).2⟩
def NeedP (p : List Node) (q : List Int) (r : Range) : Prop := ((∃ j ∈ q, r.Lo = manyL (nd p j.toNat)) ∧ ∀ j ∈ q, r.Lo ≤ manyL (nd p j.toNat)) ∧ ((∃ j ∈ q, r.Hi = manyL (nd p j.toNat)) ∧ ∀ j ∈ q, manyL (nd p j.toNat) ≤ r.Hi)
theorem fNeeds_wp {fuel : Nat} (p : List Node) (l : List Report) (night now : Int) (hf : 61 < fuel) : Wp (fog_Needs fuel p l night now) (fun r => (askR p l night now ≠ 0 ∧ r = (⟨0, 0⟩, askR p l night now)) ∨ (askR p l night now = 0 ∧ r.2 = 0 ∧ NeedP p (possL p l night now) r.1)) := by
 unfold fog_Needs
 refine wp_bindE (fasked_eq p l night now) (wp_ifn (fun h => wp_some (.inl ⟨h, rfl⟩)) (fun h => ?_))
 obtain ⟨V, R, D⟩ := askR_zero.1 h
 refine wp_bindE (fpossible_eq V R.len ⟨D.1, D.2.1⟩ hf) ?_
 have hq := possL_len V (l := l) (night := night) (now := now)
 have hq2 : ∀ j ∈ possL p l night now, 0 ≤ j ∧ j < p.length ∧ SendsOk (nd p j.toNat).Sends := fun j hj => poss_leaf V hj
 generalize possL p l night now = q at hq hq2 ⊢
 refine wp_range (fun i s => s = (q.take i).map (fun j => manyL (nd p j.toNat))) (by simp) (fun i s K hi hI hK => ?_) (fun s hI => ?_)
 · have hx := hq2 _ (getD_mem hi)
   have en : p.getD (q.getD i default).toNat default = nd p (q.getD i default).toNat := rfl
   rw [en]
   refine wp_must ⟨hx.1, hx.2.1⟩ (wp_bindE (fmany_eq hx.2.2) (wp_mustR (by rw [hI]; simp; omega) (hK _ ?_)))
   rw [hI, take_getD hi, List.map_append]; rfl
 · rw [List.take_length] at hI
   subst hI
   refine wp_bind (min_wp (by rw [List.length_map]; omega) (by rw [List.length_map]; omega) (by rw [List.length_map]; omega)) (fun lo h1 => wp_bind (max_wp (by rw [List.length_map]; omega) (by rw [List.length_map]; omega) (by rw [List.length_map]; omega)) (fun hi h2 => wp_some (.inr ⟨h, rfl, ?_⟩)))
   obtain ⟨a1, a2⟩ := h1
   obtain ⟨b1, b2⟩ := h2
   rw [List.mem_map] at a1 b1
   obtain ⟨j, hj, ej⟩ := a1
   obtain ⟨k, hk, ek⟩ := b1
   exact ⟨⟨⟨j, hj, ej.symm⟩, fun x hx => a2 _ (List.mem_map.2 ⟨x, hx, rfl⟩)⟩, ⟨k, hk, ek.symm⟩, fun x hx => b2 _ (List.mem_map.2 ⟨x, hx, rfl⟩)⟩
end Go.Sp
end
/- Plain laws, fog: made policies are valid. No program in sight. -/
section
set_option linter.all false
namespace Go.Sp
open Go.Av
set_option maxRecDepth 100000
theorem leaf_wp (a : Arr4 Int) : Wp (gasolierref05_leaf a) (fun n => n.Test = false ∧ LeafOk n) := by
 unfold gasolierref05_leaf
 obtain ⟨b, eb, b1, b2⟩ := mod5_eq a.x1 (m := 2) (by omega) (by omega)
 obtain ⟨c, ec, c1, c2⟩ := mod5_eq a.x2 (m := 3) (by omega) (by omega)
 obtain ⟨d, ed, d1, d2⟩ := mod5_eq a.x3 (m := 3) (by omega) (by omega)
 refine wp_join (fun s : List Send => s = [] ∨ s = [⟨1 + b, 1 + c⟩]) (fun K hK => wp_bif (fun _ => ?_) (fun _ => hK _ (.inl rfl))) (fun s hs => ?_)
 · exact wp_bindE eb (wp_mustI (by omega) (wp_bindE ec (wp_mustI (by omega) (wp_mustR (by simp) (hK _ (.inr rfl))))))
 · refine wp_join (fun s' : List Send => s' = s ∨ s' = s ++ [⟨3 + b, 1 + d⟩]) (fun K hK => wp_bif (fun _ => ?_) (fun _ => hK _ (.inl rfl))) (fun s' hs' => wp_some ⟨rfl, ⟨rfl, rfl, rfl, rfl, rfl, rfl⟩, ?_⟩)
   · exact wp_bindE eb (wp_mustI (by omega) (wp_bindE ed (wp_mustI (by omega) (wp_mustR (by rcases hs with rfl | rfl <;> simp) (hK _ (.inr rfl))))))
   · simp only
     rcases hs with rfl | rfl <;> rcases hs' with rfl | rfl
     · exact ⟨by simp, fun i hi => absurd hi (Nat.not_lt_zero _)⟩
     · refine ⟨by simp, fun i hi => ?_⟩
       have : i = 0 := by simpa using hi
       subst this
       refine ⟨?_, ?_, fun h => absurd h (Nat.lt_irrefl 0)⟩
       · show 1 ≤ 3 + b ∧ 3 + b ≤ 9; omega
       · show 1 ≤ 1 + d ∧ 1 + d ≤ 20; omega
     · refine ⟨by simp, fun i hi => ?_⟩
       have : i = 0 := by simpa using hi
       subst this
       refine ⟨?_, ?_, fun h => absurd h (Nat.lt_irrefl 0)⟩
       · show 1 ≤ 1 + b ∧ 1 + b ≤ 9; omega
       · show 1 ≤ 1 + c ∧ 1 + c ≤ 20; omega
     · refine ⟨by simp, fun i hi => ?_⟩
       have : i = 0 ∨ i = 1 := by simp at hi; omega
       rcases this with rfl | rfl
       · refine ⟨?_, ?_, fun h => absurd h (Nat.lt_irrefl 0)⟩
         · show 1 ≤ 1 + b ∧ 1 + b ≤ 9; omega
         · show 1 ≤ 1 + c ∧ 1 + c ≤ 20; omega
       · refine ⟨?_, ?_, fun _ => ?_⟩
         · show 1 ≤ 3 + b ∧ 3 + b ≤ 9; omega
         · show 1 ≤ 1 + d ∧ 1 + d ≤ 20; omega
         · show 1 + b < 3 + b; omega
def PreOk (out : List Node) (i j : Nat) : Prop := ((nd out j).Test = false → LeafOk (nd out j)) ∧ ((nd out j).Test = true → TestHead (nd out j) ∧ ∀ k ∈ fol3 (nd out j), ((j : Int) + 1 ≤ k ∧ k ≤ (out.length : Int) - 1) ∧ (k.toNat < i → (nd out k.toNat).Test = true → (nd out j).Minute ≤ (nd out k.toNat).Minute) ∧ (i ≤ k.toNat → (nd out j).Minute ≤ (nd out k.toNat).Minute))
structure Pre (t i : Nat) (out : List Node) : Prop where
 len : out.length = 1 + 3 * t
 few : t ≤ 4
 at_ : i ≤ out.length
 nms : names (out.take i) = (List.range (3 * t)).map (fun j : Nat => (j : Int) + 1)
 done : ∀ j, j < i → PreOk out i j
 rest : ∀ j, i ≤ j → j < out.length → (nd out j).Test = false ∧ 0 ≤ (nd out j).Minute ∧ (nd out j).Minute ≤ 1439
theorem pre_ok {t : Nat} {out : List Node} (h : Pre t out.length out) : PolOk out := by
 have hn := h.nms
 rw [List.take_length] at hn
 have hl := h.len
 have hf := h.few
 refine ⟨by omega, fun i hi => ?_, ?_, ?_⟩
 · obtain ⟨d1, d2⟩ := h.done i hi
   refine ⟨d1, fun ht => ⟨(d2 ht).1, fun k hk => ?_⟩⟩
   have := (d2 ht).2 k hk
   exact ⟨this.1, fun hk' => this.2.1 (by omega) hk'⟩
 · rw [hn]; exact nodup_inj List.nodup_range (fun x _ y _ h => by omega)
 · rw [hn]; simp; omega
theorem nd_set {out : List Node} {i j : Nat} {T : Node} (hi : i < out.length) : nd (out.set i T) j = if j = i then T else nd out j := getD_set out i j T default hi
theorem nd_app {out L : List Node} {j : Nat} : nd (out ++ L) j = if j < out.length then nd out j else nd L (j - out.length) := getD_append out L j default
theorem take_set_app {out L : List Node} {i : Nat} {T : Node} (hi : i < out.length) : (out.set i T ++ L).take (i + 1) = out.take i ++ [T] := by
 rw [List.take_append_of_le_length (by simp; omega), take_set_le hi]
theorem names_snoc (l : List Node) (T : Node) : names (l ++ [T]) = names l ++ nm T := by unfold names; rw [List.flatMap_append]; simp
theorem pre_leaf {t i : Nat} {out : List Node} {T : Node} (h : Pre t i out) (hi : i < out.length) (ht : T.Test = false) (hT : LeafOk T) : Pre t (i + 1) (out.set i T) := by
 refine ⟨by rw [List.length_set]; exact h.len, h.few, by rw [List.length_set]; exact hi, ?_, fun j hj => ?_, fun j hj hj2 => ?_⟩
 · rw [take_set_le hi, names_snoc, h.nms]
   have : nm T = [] := by unfold nm; rw [if_neg (by rw [ht]; simp)]
   rw [this, List.append_nil]
 · by_cases e : j = i
   · subst e
     have e2 : nd (out.set j T) j = T := by rw [nd_set hi, if_pos rfl]
     unfold PreOk
     rw [e2]
     exact ⟨fun _ => hT, fun h => by rw [ht] at h; cases h⟩
   · have e2 : nd (out.set i T) j = nd out j := by rw [nd_set hi, if_neg e]
     obtain ⟨d1, d2⟩ := h.done j (by omega)
     unfold PreOk
     rw [e2, List.length_set]
     refine ⟨d1, fun hj' => ⟨(d2 hj').1, fun k hk => ?_⟩⟩
     obtain ⟨g1, g2, g3⟩ := (d2 hj').2 k hk
     refine ⟨g1, fun hk1 => ?_, fun hk1 => ?_⟩
     · by_cases e3 : k.toNat = i
       · rw [nd_set hi, if_pos e3]; intro h; rw [ht] at h; cases h
       · rw [nd_set hi, if_neg e3]; exact g2 (by omega)
     · rw [nd_set hi, if_neg (by omega)]; exact g3 (by omega)
 · rw [List.length_set] at hj2
   rw [nd_set hi, if_neg (by omega)]
   exact h.rest j (by omega) hj2
def rawNode (m : Int) : Node := ⟨false, 0, m, 0, 0, 0, 0, []⟩
theorem pre_test {t i : Nat} {out : List Node} {T : Node} (h : Pre t i out) (hi : i < out.length) (h4 : t < 4) (ht : T.Test = true) (hT : TestHead T) (hf : fol3 T = [(out.length : Int), (out.length : Int) + 1, (out.length : Int) + 2]) (hm : (nd out i).Minute ≤ T.Minute) :
   Pre (t + 1) (i + 1) (out.set i T ++ List.replicate 3 (rawNode T.Minute)) := by
 have hl := h.len
 have hlen : (out.set i T ++ List.replicate 3 (rawNode T.Minute)).length = out.length + 3 := by simp
 have e0 : ∀ j, nd (out.set i T ++ List.replicate 3 (rawNode T.Minute)) j = if j < out.length then (if j = i then T else nd out j) else (if j < out.length + 3 then rawNode T.Minute else default) := by
   intro j
   rw [nd_app, List.length_set]
   by_cases hj : j < out.length
   · rw [if_pos hj, if_pos hj, nd_set hi]
   · rw [if_neg hj, if_neg hj]
     by_cases hj3 : j < out.length + 3
     · rw [if_pos hj3]
       have : j - out.length = 0 ∨ j - out.length = 1 ∨ j - out.length = 2 := by omega
       rcases this with e | e | e <;> rw [e] <;> rfl
     · rw [if_neg hj3]
       unfold nd
       rw [List.getD_eq_getElem?_getD, List.getElem?_eq_none (by simp; omega)]; rfl
 refine ⟨by rw [hlen]; omega, by omega, by rw [hlen]; omega, ?_, fun j hj => ?_, fun j hj hj2 => ?_⟩
 · rw [take_set_app hi, names_snoc, h.nms]
   have : nm T = fol3 T := by unfold nm; rw [if_pos ht]
   rw [this, hf, hl]
   have : 3 * (t + 1) = 3 * t + 1 + 1 + 1 := by omega
   rw [this, List.range_succ, List.range_succ, List.range_succ]
   simp only [List.map_append, List.map_cons, List.map_nil, List.append_assoc]
   congr 1
   simp only [List.singleton_append, List.cons.injEq, and_true]
   refine ⟨by omega, by omega, by omega⟩
 · by_cases e : j = i
   · subst e
     have e2 : nd (out.set j T ++ List.replicate 3 (rawNode T.Minute)) j = T := by rw [e0, if_pos hi, if_pos rfl]
     unfold PreOk
     rw [e2, hlen]
     refine ⟨fun h => (by rw [ht] at h; cases h), fun _ => ⟨hT, fun k hk => ?_⟩⟩
     have hk' : (out.length : Int) ≤ k ∧ k ≤ (out.length : Int) + 2 := by
       rw [hf] at hk
       simp only [List.mem_cons, List.not_mem_nil, or_false] at hk
       omega
     have e3 : nd (out.set j T ++ List.replicate 3 (rawNode T.Minute)) k.toNat = rawNode T.Minute := by rw [e0, if_neg (by omega), if_pos (by omega)]
     rw [e3]
     exact ⟨by omega, fun h => by omega, fun _ => Int.le_refl _⟩
   · have e2 : nd (out.set i T ++ List.replicate 3 (rawNode T.Minute)) j = nd out j := by rw [e0, if_pos (by omega), if_neg e]
     obtain ⟨d1, d2⟩ := h.done j (by omega)
     unfold PreOk
     rw [e2, hlen]
     refine ⟨d1, fun hj' => ⟨(d2 hj').1, fun k hk => ?_⟩⟩
     obtain ⟨g1, g2, g3⟩ := (d2 hj').2 k hk
     refine ⟨by omega, fun hk1 => ?_, fun hk1 => ?_⟩
     · by_cases e3 : k.toNat = i
       · rw [e0, if_pos (by omega), if_pos e3]; intro _
         have := g3 (by omega)
         rw [e3] at this; omega
       · rw [e0, if_pos (by omega), if_neg e3]; exact g2 (by omega)
     · rw [e0, if_pos (by omega), if_neg (by omega)]; exact g3 (by omega)
 · rw [hlen] at hj2
   rw [e0]
   by_cases hj3 : j < out.length
   · rw [if_pos hj3, if_neg (by omega)]; exact h.rest j (by omega) hj3
   · rw [if_neg hj3, if_pos hj2]
     exact ⟨rfl, hT.2.1⟩
theorem policy_wp {fuel : Nat} (hf : 100 < fuel) (q : List (Arr4 Int)) (hq : q.length ≤ 1000000000000000000) : Wp (gasolierref05_Policy fuel q) PolOk := by
 unfold gasolierref05_Policy
 refine wp_ifd (fun h0 => ?_) (fun h0 => ?_)
 · refine wp_bind (leaf_wp _) (fun n hn => wp_some ?_)
   refine pre_ok (t := 0) ?_
   have P0 : Pre 0 0 [rawNode 0] := ⟨rfl, by omega, by simp, rfl, fun j hj => by omega, fun j hj hj2 => by
     have : j = 0 := by simpa using hj2
     subst this; exact ⟨rfl, by decide⟩⟩
   exact pre_leaf P0 (by simp) hn.1 hn.2
 · have P0 : Pre 0 0 [rawNode 0] := ⟨rfl, by omega, by simp, rfl, fun j hj => by omega, fun j hj hj2 => by
     have : j = 0 := by simpa using hj2
     subst this; exact ⟨rfl, by decide⟩⟩
   refine wp_loop (fun s : Int × Int × List Node => ∃ t i : Nat, s.1 = (t : Int) ∧ s.2.1 = (i : Int) ∧ Pre t i s.2.2) (fun s => 14 - s.2.1.toNat) (by simp only; omega) ⟨0, 0, rfl, rfl, P0⟩ ?_
   rintro ⟨s1, s2, out⟩ K ⟨t, i, h1, h2, P⟩ hK
   simp only at h1 h2 P hK
   subst h1 h2
   have hl := P.len
   have h4 := P.few
   refine wp_ifd (fun hlt => ?_) (fun hge => wp_some ?_)
   · have hi : i < out.length := by simp only at hlt; omega
     obtain ⟨y, ey, y1, y2⟩ := mod5_eq (i : Int) (m := ((q.length : Nat) : Int)) (by omega) (by omega)
     refine wp_bindE ey (wp_must (by omega) (wp_must (by simp only; omega) ?_))
     generalize hg : q.getD y.toNat default = g
     have R := P.rest i (Nat.le_refl _) hi
     simp only [Int.toNat_natCast]
     have en : out.getD i default = nd out i := rfl
     simp only [en]
     refine wp_bif (fun hb => ?_) (fun hb => ?_)
     · have ht4 : t < 4 := by
         simp only [Bool.and_eq_true, decide_eq_true_eq] at hb; omega
       obtain ⟨a, ea, a1, a2⟩ := mod5_eq g.x1 (m := 3) (by omega) (by omega)
       obtain ⟨b, eb, b1, b2⟩ := mod5_eq g.x2 (m := 300) (by omega) (by omega)
       obtain ⟨c, ec, c1, c2⟩ := mod5_eq g.x3 (m := 900) (by omega) (by omega)
       refine wp_mustI (by omega) (wp_bindE ea (wp_mustI (by omega) (wp_bindE eb (wp_mustI (by omega) (wp_bindE ec (wp_mustI (by omega) (wp_mustI (by omega) (wp_mustI (by omega) (wp_must (by omega) ?_)))))))))
       generalize hT : (⟨true, (1 + a), (min 1439 ((nd out i).Minute + b)), (1 + c), ((out.length : Nat) : Int), (((out.length : Nat) : Int) + 1), (((out.length : Nat) : Int) + 2), []⟩ : Node) = T
       have hTt : T.Test = true := by rw [← hT]
       have hTm : T.Minute = min 1439 ((nd out i).Minute + b) := by rw [← hT]
       have hTh : TestHead T := by rw [← hT]; unfold TestHead; dsimp only; exact ⟨by omega, by omega, by omega, rfl⟩
       have hTf : fol3 T = [(out.length : Int), (out.length : Int) + 1, (out.length : Int) + 2] := by rw [← hT]; rfl
       have P' := pre_test P hi ht4 hTt hTh hTf (by omega)
       refine wp_for 3 (by omega) (fun m (o : List Node) => o = out.set i T ++ List.replicate m (rawNode T.Minute)) (by simp) (fun m o K2 hm hI hK2 => ?_)
       subst hI
       have hol : (out.set i T ++ List.replicate m (rawNode T.Minute)).length = out.length + m := by simp
       have hoi : (out.set i T ++ List.replicate m (rawNode T.Minute)).getD i default = T := by
         show nd _ i = T
         rw [nd_app, List.length_set, if_pos hi, nd_set hi, if_pos rfl]
       refine wp_ifd (fun hlt3 => ?_) (fun hge3 => ?_)
       · simp only [hoi]
         have er : (⟨false, 0, T.Minute, 0, 0, 0, 0, []⟩ : Node) = rawNode T.Minute := rfl
         simp only [er]
         refine wp_must (by simp only [hol]; omega) (wp_mustR (by rw [List.length_append, hol]; simp only [List.length_cons, List.length_nil]; omega) (wp_mustI (by omega) (hK2 _ (by simp only at hlt3; omega) ?_)))
         rw [List.append_assoc, ← List.replicate_succ']
       · have hm3 : m = 3 := by simp only at hge3; omega
         subst hm3
         refine wp_mustI (by omega) (hK _ ⟨t + 1, i + 1, by simp, by simp, P'⟩ (by simp only; omega))
     · refine wp_bind (leaf_wp g) (fun n hn => wp_must (by omega) (wp_mustI (by omega) (hK _ ⟨t, i + 1, rfl, by simp, pre_leaf P hi hn.1 hn.2⟩ (by simp only; omega))))
   · have hie : i = out.length := by have := P.at_; simp only at hge; omega
     rw [hie] at P
     exact pre_ok P
end Go.Sp
end
/- Plain laws, fog: no foresight. No program in sight. -/
section
set_option linter.all false
namespace Go.Sp
open Go.Av
set_option maxRecDepth 100000
theorem pathL_at {p : List Node} (V : PolOk p) (l : List Report) (night : Int) : ∀ (k : Nat) (i : Int), 0 ≤ i → i < p.length → p.length - i.toNat ≤ k →
   ∀ j, j < (i :: pathL p l night k i).length → (0 ≤ (i :: pathL p l night k i).getD j default ∧ (i :: pathL p l night k i).getD j default < p.length) ∧
     (j + 1 < (i :: pathL p l night k i).length ↔ (nd p ((i :: pathL p l night k i).getD j default).toNat).Test = true) ∧
     (j + 1 < (i :: pathL p l night k i).length → (i :: pathL p l night k i).getD (j + 1) default = stp p l night ((i :: pathL p l night k i).getD j default))
 | 0, i, h0, h1, hk => by omega
 | k + 1, i, h0, h1, hk => by
   intro j hj
   by_cases ht : (nd p i.toNat).Test = true
   · have e : pathL p l night (k + 1) i = stp p l night i :: pathL p l night k (stp p l night i) := by
       rw [pathL]; rw [if_pos ht]
     have hn := (pol_test V h0 h1 ht).2 _ (next_mem (nd p i.toNat) (tellL (nd p i.toNat) l night (stamp night (nd p i.toNat))))
     have hs : i + 1 ≤ stp p l night i ∧ stp p l night i ≤ (p.length : Int) - 1 := ⟨hn.1, hn.2.1⟩
     rw [e] at hj ⊢
     have ih := pathL_at V l night k (stp p l night i) (by omega) (by omega) (by omega)
     cases j with
     | zero => exact ⟨⟨h0, h1⟩, ⟨fun _ => ht, fun _ => by simp⟩, fun _ => rfl⟩
     | succ j =>
       obtain ⟨a1, a2, a3⟩ := ih j (by simpa using hj)
       refine ⟨a1, ?_, fun hj2 => a3 (by simpa using hj2)⟩
       rw [← show (j + 1 < (stp p l night i :: pathL p l night k (stp p l night i)).length ↔ j + 1 + 1 < (i :: stp p l night i :: pathL p l night k (stp p l night i)).length) by simp]
       exact a2
   · have e : pathL p l night (k + 1) i = [] := by rw [pathL]; rw [if_neg ht]
     rw [e] at hj ⊢
     have : j = 0 := by simpa using hj
     subst this
     exact ⟨⟨h0, h1⟩, ⟨fun h => by simp at h, fun h => absurd h ht⟩, fun h => by simp at h⟩
theorem pathF_at {p : List Node} (V : PolOk p) (l : List Report) (night : Int) {j : Nat} (hj : j < (pathF p l night).length) : (0 ≤ (pathF p l night).getD j default ∧ (pathF p l night).getD j default < p.length) ∧
     (j + 1 < (pathF p l night).length ↔ (nd p ((pathF p l night).getD j default).toNat).Test = true) ∧
     (j + 1 < (pathF p l night).length → (pathF p l night).getD (j + 1) default = stp p l night ((pathF p l night).getD j default)) := by
 have hlen := V.len
 exact pathL_at V l night p.length 0 (by omega) (by omega) (by omega) j hj
theorem pathF_len {p : List Node} (V : PolOk p) (l : List Report) (night : Int) : 0 < (pathF p l night).length ∧ (pathF p l night).length ≤ 32 := by
 have := pathL_len p l night p.length 0
 have := V.len
 unfold pathF
 rw [List.length_cons]; omega
theorem moment_of {n : Int} (h : 0 ≤ n ∧ n ≤ 1439) : gasolierlaw05_moment n = some (4320 + n) := by
 unfold gasolierlaw05_moment gasolierref05_Mod
 have e : Int.tmod (Int.tmod n 1440 + 1440) 1440 = n := by
   have h1 : Int.tmod n 1440 = n := Int.tmod_eq_of_lt h.1 (by omega)
   rw [h1, Int.tmod_eq_emod_of_nonneg (by omega)]; omega
 have e1 : Int.tmod n 1440 = n := Int.tmod_eq_of_lt h.1 (by omega)
 refine Wp.eq (wp_bindE ((must_yes (by omega) _).trans ((must_yes (by rw [e1]; unfold inI; omega) _).trans ((must_yes (by omega) _).trans (congrArg some e)))) (wp_mustI (by omega) (wp_some rfl)))
theorem askR_made {p : List Node} {x : List Report} {m : Int} (V : PolOk p) (R : RepsOk x) (h : 0 ≤ m ∧ m ≤ 144001439) : askR p x 3 m = 0 := askR_zero.2 ⟨V, R, by unfold dayOk; omega⟩
end Go.Sp
end
/- Plain laws, fog: what moves without a report. No program in sight. -/
section
set_option linter.all false
namespace Go.Sp
open Go.Av
set_option maxRecDepth 100000
def lastL (l : List Int) : Int := l.getD (l.length - 1) default
end Go.Sp
end
/- Plain laws, fog: what may still be, with true reports. No program in sight. -/
section
set_option linter.all false
namespace Go.Sp
open Go.Av
set_option maxRecDepth 100000
def Firm (x : List Report) : Prop := ∀ (n : Node) (a b : Int), a ≤ b → tellL n x 3 a ≠ 2 → tellL n x 3 b = tellL n x 3 a
theorem see_grow {l : List Int} {x : List Report} (J : ∀ r ∈ x, Just l r) {d a b : Int} (h : a ≤ b) : (seeL x d 3 a).Sublist (seeL x d 3 b) := by
 unfold seeL
 have e : x.filter (seen d 3 a) = (x.filter (seen d 3 b)).filter (seen d 3 a) := by
   rw [List.filter_filter]
   refine List.filter_congr fun r hr => ?_
   have hu := (J r hr).2.1
   unfold seen fog_counts
   rw [hu]
   by_cases hk : r.Known ≤ a
   · rw [decide_eq_true hk, decide_eq_true (show r.Known ≤ b by omega)]; simp
   · rw [decide_eq_false hk]; simp
 rw [e]
 exact List.filter_sublist
theorem sightL_grow {v w : List Report} (h : v.Sublist w) (m : Int) : (sightL v m).Lo ≤ (sightL w m).Lo ∧ (sightL w m).Hi ≤ (sightL v m).Hi := by
 have key : ∀ {v w : List Report}, v.Sublist w → ∀ (r r' : Range), r.Lo ≤ r'.Lo → r'.Hi ≤ r.Hi → (v.foldl nar r).Lo ≤ (w.foldl nar r').Lo ∧ (w.foldl nar r').Hi ≤ (v.foldl nar r).Hi := by
   intro v w h
   induction h with
   | slnil => intro r r' h1 h2; exact ⟨h1, h2⟩
   | cons a _ ih =>
     intro r r' h1 h2
     rw [List.foldl_cons]
     refine ih r (nar r' a) ?_ ?_
     · unfold nar; simp only; omega
     · unfold nar; simp only; omega
   | cons_cons a _ ih =>
     intro r r' h1 h2
     rw [List.foldl_cons, List.foldl_cons]
     refine ih (nar r a) (nar r' a) ?_ ?_
     · unfold nar; simp only; omega
     · unfold nar; simp only; omega
 unfold sightL
 exact key (h.filter _) _ _ (Int.le_refl _) (Int.le_refl _)
theorem pair_just {l : List Int} {x : List Report} (J : ∀ r ∈ x, Just l r) (FT : ∀ r ∈ x, r.From ≤ r.To) (D m : Int) : pairL (seeL x D 3 m) = none :=
 pair_true (fun k => tr l D k) (fun r hr k h1 h2 => by
   obtain ⟨q1, q2⟩ := seen_mem hr
   have hd : r.District = D := by unfold seen at q2; simp at q2; exact q2.1.1
   have := (J r q1).2.2 k h1 h2
   simpa [hd] using this) (fun r hr => FT r (seen_mem hr).1)
theorem firm_of {l : List Int} {x : List Report} (J : ∀ r ∈ x, Just l r) (FT : ∀ r ∈ x, r.From ≤ r.To) (hs : ∀ (n : Node) (b : Int), (sightL (seeL x n.District 3 b) n.Minute).Lo ≤ (sightL (seeL x n.District 3 b) n.Minute).Hi) : Firm x := by
 intro n a b hab h
 have p1 := pair_just J FT n.District a
 have p2 := pair_just J FT n.District b
 unfold tellL at h ⊢
 rw [p1] at h ⊢
 rw [p2]
 have hg := sightL_grow (see_grow J (d := n.District) hab) n.Minute
 have h1 := hs n b
 simp only [Option.isSome_none, Bool.false_eq_true, if_false] at h ⊢
 rcases below_vals (sightL (seeL x n.District 3 a) n.Minute) n.Limit with ⟨e, c⟩ | ⟨e, c, c2⟩ | ⟨e, _⟩
 · rcases below_vals (sightL (seeL x n.District 3 b) n.Minute) n.Limit with ⟨e', c'⟩ | ⟨e', c', c2'⟩ | ⟨e', c', c2'⟩
   · rw [e, e']
   · omega
   · omega
 · rcases below_vals (sightL (seeL x n.District 3 b) n.Minute) n.Limit with ⟨e', c'⟩ | ⟨e', c', c2'⟩ | ⟨e', c', c2'⟩
   · omega
   · rw [e, e']
   · omega
 · exact absurd e h
theorem suc_test {p : List Node} {l : List Report} {night now i k : Int} (ht : (nd p i.toNat).Test = true) : k ∈ suc p l night now i ↔
   (now < stamp night (nd p i.toNat) ∧ tellL (nd p i.toNat) l night now = 2 ∧ k ∈ fol3 (nd p i.toNat)) ∨
   (¬ (now < stamp night (nd p i.toNat) ∧ tellL (nd p i.toNat) l night now = 2) ∧ k = nextL (nd p i.toNat) (tellL (nd p i.toNat) l night (min (stamp night (nd p i.toNat)) now))) := by
 rw [nowL ht]
 by_cases h : now < stamp night (nd p i.toNat)
 · have e : min (stamp night (nd p i.toNat)) now = now := by omega
   rw [e]
   by_cases h2 : tellL (nd p i.toNat) l night now = 2
   · rw [if_pos ⟨h, h2⟩]
     exact ⟨fun hk => .inl ⟨h, h2, hk⟩, fun hk => hk.elim (fun hk => hk.2.2) (fun hk => absurd ⟨h, h2⟩ hk.1)⟩
   · rw [if_neg (fun hh => h2 hh.2), List.mem_singleton]
     exact ⟨fun hk => .inr ⟨fun hh => h2 hh.2, hk⟩, fun hk => hk.elim (fun hk => absurd hk.2.1 h2) (fun hk => hk.2)⟩
 · rw [if_neg (fun hh => h hh.1), List.mem_singleton]
   exact ⟨fun hk => .inr ⟨fun hh => h hh.1, hk⟩, fun hk => hk.elim (fun hk => absurd hk.1 h) (fun hk => hk.2)⟩
theorem suc_shrink {p : List Node} {x : List Report} (F : Firm x) {a b i k : Int} (hab : a ≤ b) (h : k ∈ suc p x 3 b i) : k ∈ suc p x 3 a i := by
 obtain ⟨ht, hk⟩ := suc_sub h
 rw [suc_test ht] at h ⊢
 generalize nd p i.toNat = n at *
 by_cases h1 : a < stamp 3 n
 · by_cases h2 : tellL n x 3 a = 2
   · exact .inl ⟨h1, h2, hk⟩
   · refine .inr ⟨fun hh => h2 hh.2, ?_⟩
     have e := F n a (min (stamp 3 n) b) (by omega) h2
     have e2 : min (stamp 3 n) a = a := by omega
     rw [e2]
     rcases h with ⟨g1, g2, _⟩ | ⟨_, g⟩
     · have := F n a b hab h2; rw [this] at g2; exact absurd g2 h2
     · rw [g, e]
 · refine .inr ⟨fun hh => h1 hh.1, ?_⟩
   have e2 : min (stamp 3 n) a = stamp 3 n := by omega
   have e3 : min (stamp 3 n) b = stamp 3 n := by omega
   rw [e2]
   rcases h with ⟨g1, _⟩ | ⟨_, g⟩
   · omega
   · rw [g, e3]
theorem suc_last {p : List Node} (V : PolOk p) {x : List Report} {i k c : Int} (hi : 0 ≤ i ∧ i < p.length) (ht : (nd p i.toNat).Test = true) (hc : 5759 ≤ c) : k ∈ suc p x 3 c i ↔ k = stp p x 3 i := by
 have hd := (pol_test V hi.1 hi.2 ht).1.2.1
 rw [suc_test ht]
 unfold stp
 have hs : stamp 3 (nd p i.toNat) ≤ c := by unfold stamp; omega
 have e2 : min (stamp 3 (nd p i.toNat)) c = stamp 3 (nd p i.toNat) := by omega
 rw [e2]
 exact ⟨fun h => h.elim (fun h => by omega) (fun h => h.2), fun h => .inr ⟨fun hh => by omega, h⟩⟩
theorem path_reach {p : List Node} (V : PolOk p) {x : List Report} (F : Firm x) {a : Int} (ha : a ≤ 5759) : ∀ j, j < (pathF p x 3).length → Reach (suc p x 3 a) 0 ((pathF p x 3).getD j default)
 | 0, _ => .refl _
 | j + 1, hj => by
   have ih := path_reach V F ha j (by omega)
   obtain ⟨a1, a2, a3⟩ := pathF_at V x 3 (j := j) (by omega)
   refine ih.step (suc_shrink F ha ((suc_last V a1 (a2.1 hj) (Int.le_refl _)).2 (a3 hj)))
theorem reach_path {p : List Node} (V : PolOk p) {x : List Report} {j : Int} (h : Reach (suc p x 3 5759) 0 j) : ∃ k, k < (pathF p x 3).length ∧ (pathF p x 3).getD k default = j := by
 have gen : ∀ {z j : Int}, Reach (suc p x 3 5759) z j → z = 0 → ∃ k, k < (pathF p x 3).length ∧ (pathF p x 3).getD k default = j := ?_
 · exact gen h rfl
 intro z j h h0
 induction h with
 | refl => subst h0; exact ⟨0, (pathF_len V x 3).1, rfl⟩
 | step _ hc ih =>
   obtain ⟨k, hk, e⟩ := ih
   obtain ⟨a1, a2, a3⟩ := pathF_at V x 3 (j := k) hk
   rw [e] at a1 a2 a3
   have ht := (suc_sub hc).1
   have hk1 := a2.2 ht
   refine ⟨k + 1, hk1, ?_⟩
   rw [a3 hk1]
   exact ((suc_last V a1 ht (Int.le_refl _)).1 hc).symm
theorem lastL_at {p : List Node} (V : PolOk p) (x : List Report) : (0 ≤ lastL (pathF p x 3) ∧ lastL (pathF p x 3) < p.length) ∧ (nd p (lastL (pathF p x 3)).toNat).Test = false := by
 have hl := pathF_len V x 3
 obtain ⟨a1, a2, a3⟩ := pathF_at V x 3 (j := (pathF p x 3).length - 1) (by omega)
 refine ⟨a1, ?_⟩
 cases h : (nd p (lastL (pathF p x 3)).toNat).Test with
 | false => rfl
 | true => have := a2.2 h; omega
theorem leaf_poss {p : List Node} (V : PolOk p) {x : List Report} (F : Firm x) {a : Int} (ha : a ≤ 5759) : lastL (pathF p x 3) ∈ possL p x 3 a := by
 have hl := pathF_len V x 3
 exact (possL_mem V).2 ⟨path_reach V F ha _ (by omega), (lastL_at V x).2⟩
theorem poss_last {p : List Node} (V : PolOk p) {x : List Report} (F : Firm x) : possL p x 3 5759 = [lastL (pathF p x 3)] := by
 have h1 : ∀ j ∈ possL p x 3 5759, j = lastL (pathF p x 3) := by
   intro j hj
   obtain ⟨h2, h3⟩ := (possL_mem V).1 hj
   obtain ⟨k, hk, e⟩ := reach_path V h2
   obtain ⟨a1, a2, a3⟩ := pathF_at V x 3 (j := k) hk
   rw [e, h3] at a2
   have : k = (pathF p x 3).length - 1 := by
     have : ¬ k + 1 < (pathF p x 3).length := fun h => by have := a2.1 h; cases this
     omega
   unfold lastL
   rw [← this, e]
 have hn := possL_nodup V (l := x) (night := 3) (now := 5759)
 have hm := leaf_poss V F (Int.le_refl 5759)
 generalize possL p x 3 5759 = q at *
 match q, h1, hn, hm with
 | [], _, _, hm => cases hm
 | [a], h1, _, _ => rw [h1 a List.mem_cons_self]
 | a :: b :: q, h1, hn, _ =>
   have e1 := h1 a List.mem_cons_self
   have e2 := h1 b (List.mem_cons_of_mem _ List.mem_cons_self)
   have := (List.nodup_cons.1 hn).1
   rw [e1, e2] at this
   exact absurd List.mem_cons_self this
theorem fogStill_true (l : List (Arr7 Int)) (q : List (Arr4 Int)) (n : Arr3 Int) (hp : l.length * 56 ≤ 140737488351232) (hq : q.length ≤ 1000000000000000000) {fuel : Nat} (hf : 20000 ≤ fuel) (hf2 : l.length < fuel) : gasolierlaw05_FogStill fuel l q n = some true := by
 unfold gasolierlaw05_FogStill
 refine Wp.eq (wp_bind (honest_wp l hp hf2) (fun l' hl' => wp_bind (made_wp (by omega) l' _ (by simp)) (fun x hx => wp_bind (policy_wp (by omega) q hq) (fun p V => ?_))))
 obtain ⟨x1, x2, x3⟩ := hx
 have R := fine_ok x1 (fun i hi => (x3 i hi).1)
 have J : ∀ r ∈ x, Just [n.x0, wrapI (3 * n.x0), 70] r := fun r hr => by
   obtain ⟨i, hi, rfl⟩ := mem_getD hr
   exact (x3 i hi).2 (hl'.2 i (by rw [← hl'.1]; omega))
 have FT : ∀ r ∈ x, r.From ≤ r.To := fun r hr => by
   obtain ⟨i, hi, rfl⟩ := mem_getD hr
   exact (x3 i hi).1.to_.1
 have F : Firm x := firm_of J FT (fun n b => sight_clear R (pair_just J FT n.District b) n.Minute)
 have ep : pathR p x 3 = (pathF p x 3, 0) := by unfold pathR; rw [if_neg (by simp [askR_made V R])]
 have eq_ : ∀ m : Int, 0 ≤ m ∧ m ≤ 5759 → possR p x 3 m = (possL p x 3 m, 0) := fun m hm => by unfold possR; rw [if_neg (by simp [askR_made V R (show 0 ≤ m ∧ m ≤ 144001439 by omega)])]
 obtain ⟨a, ea, a1, a2⟩ := moment_eq n.x1
 obtain ⟨d, ed, d1, d2⟩ := mod5_eq n.x2 (m := 700) (by omega) (by omega)
 have e9 : gasolierlaw05_moment 1439 = some 5759 := moment_of (by omega)
 have hb : a ≤ min (a + d) 5759 ∧ min (a + d) 5759 ≤ 5759 := by omega
 refine wp_bindE (fPath_eq p x 3 (by omega)) (wp_bindE ea (wp_bindE ed (wp_mustI (by omega) (wp_bindE e9 (wp_bindE (fPossible_eq p x 3 a (by omega)) (wp_bindE (fPossible_eq p x 3 _ (by omega)) (wp_bindE e9 (wp_bindE (fPossible_eq p x 3 5759 (by omega)) ?_))))))))
 generalize hbb : min (a + d) 5759 = b at hb ⊢
 rw [ep, eq_ a (by omega), eq_ b (by omega), eq_ 5759 (by omega), poss_last V F]
 have hl := pathF_len V x 3
 have q1 := leaf_poss V F (a := a) (by omega)
 have q2 := leaf_poss V F (a := b) (by omega)
 have hq1 := possL_len V (l := x) (night := 3) (now := a)
 have hq2 := possL_len V (l := x) (night := 3) (now := b)
 have hsub : ∀ j ∈ possL p x 3 b, j ∈ possL p x 3 a := fun j hj => by
   obtain ⟨h1, h2⟩ := (possL_mem V).1 hj
   exact (possL_mem V).2 ⟨h1.mono (fun i k hk => suc_shrink F hb.1 hk), h2⟩
 obtain ⟨hla, hlb⟩ := lastL_at V x
 have hleaf := ((V.node _ (by omega : (lastL (pathF p x 3)).toNat < p.length)).1 hlb).2
 have elast : (pathF p x 3).getD ((((pathF p x 3).length : Nat) : Int) - 1).toNat default = lastL (pathF p x 3) := by
   have : ((((pathF p x 3).length : Nat) : Int) - 1).toNat = (pathF p x 3).length - 1 := by omega
   rw [this]; rfl
 simp only [elast]
 refine wp_false (by simp; intro h; simp [h] at hl) (wp_mustI (by omega) (wp_must (by omega) ?_))
 generalize lastL (pathF p x 3) = leaf at *
 refine wp_bindE (has_eq _ _ (by omega) (by omega)) ?_
 rw [decide_eq_true q1]
 refine wp_onE rfl (has_eq _ _ (by omega) (by omega)) ?_
 rw [decide_eq_true q2]
 refine wp_onE rfl (same_eq _ _ (by simp; omega) (by simp)) ?_
 refine wp_false (by simp; omega) ?_
 refine wp_for1 (possL p x 3 b).length (by omega) (fun _ => True) trivial (fun j K hj _ hK => ?_)
 refine wp_ifd (fun hlt => ?_) (fun _ => ?_)
 · have hj' : j < (possL p x 3 b).length := by omega
   refine wp_must (by omega) ?_
   simp only [Int.toNat_natCast]
   refine wp_bindE (has_eq _ _ (by omega) (by omega)) ?_
   rw [decide_eq_true (hsub _ (getD_mem hj'))]
   exact wp_false rfl (wp_mustI (by omega) (hK hj' trivial))
 · obtain ⟨r, er, hr⟩ := fNeeds_wp (fuel := fuel) p x 3 a (by omega)
   have en : p.getD leaf.toNat default = nd p leaf.toNat := rfl
   simp only [en]
   have hNP : r.2 = 0 ∧ NeedP p (possL p x 3 a) r.1 := by
     rcases hr with ⟨h, _⟩ | ⟨_, h1, h2⟩
     · exact absurd (askR_made V R (show 0 ≤ a ∧ a ≤ 144001439 by omega)) h
     · exact ⟨h1, h2⟩
   have b1 := hNP.2.1.2 leaf q1
   have b2 := hNP.2.2.2 leaf q1
   have h9 := hleaf.1
   generalize nd p leaf.toNat = N at *
   refine wp_forS N.Sends.length (by omega) (fun i s => s = ((N.Sends.take i).map (·.Many)).sum) (by simp) (fun i s K2 hi hI hK2 => ?_)
   refine wp_must (by omega) (wp_ifd (fun hlt => ?_) (fun hge => ?_))
   · have hi' : i < N.Sends.length := by simp only at hlt; omega
     have h2 := sum_bound hleaf (i := i + 1) hi'
     have e := sum_take hi'
     rw [e] at h2
     unfold sd at h2 e
     simp only [Int.toNat_natCast]
     rw [hI]
     exact wp_must (by omega) (wp_must (by omega) (wp_mustI (by omega) (wp_mustI (by omega) (hK2 _ hi' e.symm))))
   · have hie : i = N.Sends.length := by simp only at hge; omega
     have hs : s = manyL N := by rw [hI, hie, List.take_length]; rfl
     refine wp_bindE er (wp_onE ?_ sane_ok (wp_some ?_))
     · simp only [Bool.and_eq_true, decide_eq_true_eq]
       rw [hs]; exact ⟨⟨hNP.1, b1⟩, b2⟩
     · simp only [Bool.and_eq_true, decide_eq_true_eq]
       rw [hs]; exact ⟨⟨⟨hNP.1, b1⟩, b2⟩, trivial⟩
end Go.Sp
end
