/- Texts of the framework, or of the plain law, one behind another. -/
import Derived.Test.YtoekhnngdocddaaGreatFr1
import Derived.Test.YtoekhnngdocddaaGreatFr4
import Derived.KernelRfl
/- Rules for plain laws: what a printed definition yields. No program in sight. -/
section
set_option linter.all false
namespace Go.Sp
open Go.Av
def Wp {R : Type} (x : Option R) (P : R → Prop) : Prop := ∃ r, x = some r ∧ P r
theorem Wp.eq {R : Type} {x : Option R} {v : R} (h : Wp x (· = v)) : x = some v := by
 obtain ⟨r, h1, h2⟩ := h; rw [h1, h2]
theorem Wp.of_eq {R : Type} {x : Option R} {v : R} {P : R → Prop} (h : x = some v) (hp : P v) : Wp x P := ⟨v, h, hp⟩
theorem Wp.mono {R : Type} {x : Option R} {P Q : R → Prop} (h : Wp x P) (hp : ∀ r, P r → Q r) : Wp x Q := by
 obtain ⟨r, h1, h2⟩ := h; exact ⟨r, h1, hp r h2⟩
theorem wp_some {R : Type} {r : R} {P : R → Prop} (h : P r) : Wp (some r) P := ⟨r, rfl, h⟩
theorem wp_must {R : Type} {c : Prop} [Decidable c] {x : Option R} {P : R → Prop} (h : c) (k : Wp x P) : Wp (must c x) P := by
 unfold must; rw [if_pos h]; exact k
theorem wp_bind {S R : Type} {x : Option S} {k : S → Option R} {P : R → Prop} {Q : S → Prop} (h : Wp x Q) (hk : ∀ s, Q s → Wp (k s) P) : Wp (bindO x k) P := by
 obtain ⟨r, h1, h2⟩ := h; rw [h1]; exact hk r h2
theorem wp_bindE {S R : Type} {x : Option S} {k : S → Option R} {P : R → Prop} {v : S} (h : x = some v) (hk : Wp (k v) P) : Wp (bindO x k) P := by
 rw [h]; exact hk
theorem wp_bif {R : Type} {b : Bool} {x y : Option R} {P : R → Prop} (h1 : b = true → Wp x P) (h2 : b = false → Wp y P) : Wp (bif b then x else y) P := by
 cases b
 · exact h2 rfl
 · exact h1 rfl
theorem wp_if {R : Type} {p : Prop} {b : Bool} {x y : Option R} {P : R → Prop} (hb : b = true ↔ p) (h1 : p → Wp x P) (h2 : ¬ p → Wp y P) : Wp (bif b then x else y) P :=
 wp_bif (fun h => h1 (hb.1 h)) (fun h => h2 (fun hp => by rw [hb.2 hp] at h; cases h))
theorem wp_ifd {R : Type} {p : Prop} [Decidable p] {x y : Option R} {P : R → Prop} (h1 : p → Wp x P) (h2 : ¬ p → Wp y P) : Wp (bif (decide p) then x else y) P :=
 wp_if (decide_eq_true_iff) h1 h2
theorem wp_ifn {R : Type} {p : Prop} [Decidable p] {x y : Option R} {P : R → Prop} (h1 : ¬ p → Wp x P) (h2 : p → Wp y P) : Wp (bif (!decide p) then x else y) P :=
 wp_bif (fun h => h1 (by simpa using h)) (fun h => h2 (by simpa using h))
theorem wp_true {R : Type} {b : Bool} {x y : Option R} {P : R → Prop} (h : b = true) (h1 : Wp x P) : Wp (bif b then x else y) P := by rw [h]; exact h1
theorem wp_false {R : Type} {b : Bool} {x y : Option R} {P : R → Prop} (h : b = false) (h1 : Wp y P) : Wp (bif b then x else y) P := by rw [h]; exact h1
theorem wp_join {S R : Type} {f : (S → Option R) → Option R} {k : S → Option R} {P : R → Prop} (G : S → Prop) (hf : ∀ K : S → Option R, (∀ s, G s → Wp (K s) P) → Wp (f K) P) (hk : ∀ s, G s → Wp (k s) P) : Wp (joinK f k) P := hf k hk
theorem wp_joinU {S R : Type} {f : (S → Option R) → Option R} {k : S → Option R} {P : R → Prop} (h : Wp (f k) P) : Wp (joinK f k) P := h
theorem wp_range {S R : Type} {body : Nat → S → (S → Option R) → Option R} {ex : S → Option R} {n : Nat} {s0 : S} {P : R → Prop} (Inv : Nat → S → Prop) (h0 : Inv 0 s0)
   (hb : ∀ (i : Nat) s (K : S → Option R), i < n → Inv i s → (∀ s', Inv (i + 1) s' → Wp (K s') P) → Wp (body i s K) P) (he : ∀ s, Inv n s → Wp (ex s) P) : Wp (rangeGo body ex n 0 s0) P := by
 have go : ∀ (m i : Nat), i + m = n → ∀ s, Inv i s → Wp (rangeGo body ex m i s) P := by
   intro m
   induction m with
   | zero => intro i hi s hs; have e : i = n := by omega
             subst e; exact he s hs
   | succ m ih => intro i hi s hs; exact hb i s _ (by omega) hs (fun s' h' => ih (i + 1) (by omega) s' h')
 exact go n 0 (by omega) s0 h0
theorem wp_loop {S R : Type} {body : S → (S → Option R) → Option R} {fuel : Nat} {s0 : S} {P : R → Prop} (Inv : S → Prop) (μ : S → Nat) (hf : μ s0 < fuel) (h0 : Inv s0)
   (hb : ∀ s (K : S → Option R), Inv s → (∀ s', Inv s' → μ s' < μ s → Wp (K s') P) → Wp (body s K) P) : Wp (loopGo body fuel s0) P := by
 have go : ∀ (f : Nat) s, Inv s → μ s < f → Wp (loopGo body f s) P := by
   intro f
   induction f with
   | zero => intro s _ h; omega
   | succ f ih => intro s hs hm; exact hb s _ hs (fun s' h' hl => ih s' h' (by omega))
 exact go fuel s0 h0 hf
theorem wp_for {S R : Type} {body : (Int × S) → ((Int × S) → Option R) → Option R} {fuel : Nat} {s0 : S} {P : R → Prop} (n : Nat) (hf : n < fuel) (Inv : Nat → S → Prop) (h0 : Inv 0 s0)
   (hb : ∀ (i : Nat) s (K : (Int × S) → Option R), i ≤ n → Inv i s → (∀ s', i < n → Inv (i + 1) s' → Wp (K ((i : Int) + 1, s')) P) → Wp (body ((i : Int), s) K) P) : Wp (loopGo body fuel (0, s0)) P := by
 have go : ∀ (f i : Nat) s, i ≤ n → n - i < f → Inv i s → Wp (loopGo body f ((i : Int), s)) P := by
   intro f
   induction f with
   | zero => intro i s _ h; omega
   | succ f ih => intro i s hi hm hs; exact hb i s _ hi hs (fun s' hl h' => ih (i + 1) s' (by omega) (by omega) h')
 exact go fuel 0 s0 (by omega) (by omega) h0
theorem wp_for1 {R : Type} {body : Int → (Int → Option R) → Option R} {fuel : Nat} {P : R → Prop} (n : Nat) (hf : n < fuel) (Inv : Nat → Prop) (h0 : Inv 0)
   (hb : ∀ (i : Nat) (K : Int → Option R), i ≤ n → Inv i → (i < n → Inv (i + 1) → Wp (K ((i : Int) + 1)) P) → Wp (body (i : Int) K) P) : Wp (loopGo body fuel 0) P := by
 have go : ∀ (f i : Nat), i ≤ n → n - i < f → Inv i → Wp (loopGo body f (i : Int)) P := by
   intro f
   induction f with
   | zero => intro i _ h; omega
   | succ f ih => intro i hi hm hs; exact hb i _ hi hs (fun hl h' => ih (i + 1) (by omega) (by omega) h')
 exact go fuel 0 (by omega) (by omega) h0
theorem wp_forS {S R : Type} {body : (S × Int) → ((S × Int) → Option R) → Option R} {fuel : Nat} {s0 : S} {P : R → Prop} (n : Nat) (hf : n < fuel) (Inv : Nat → S → Prop) (h0 : Inv 0 s0)
   (hb : ∀ (i : Nat) s (K : (S × Int) → Option R), i ≤ n → Inv i s → (∀ s', i < n → Inv (i + 1) s' → Wp (K (s', (i : Int) + 1)) P) → Wp (body (s, (i : Int)) K) P) : Wp (loopGo body fuel (s0, 0)) P := by
 have go : ∀ (f i : Nat) s, i ≤ n → n - i < f → Inv i s → Wp (loopGo body f (s, (i : Int))) P := by
   intro f
   induction f with
   | zero => intro i s _ h; omega
   | succ f ih => intro i s hi hm hs; exact hb i s _ hi hs (fun s' hl h' => ih (i + 1) s' (by omega) (by omega) h')
 exact go fuel 0 s0 (by omega) (by omega) h0
end Go.Sp
end
/- More rules for plain laws. No program in sight. -/
section
set_option linter.all false
namespace Go.Sp
open Go.Av
theorem wp_mustI {R : Type} {n : Int} {x : Option R} {P : R → Prop} (h : -9223372036854775808 ≤ n ∧ n ≤ 9223372036854775807) (k : Wp x P) : Wp (must (inI n) x) P := wp_must h k
theorem wp_mustR {R : Type} {n b : Nat} {x : Option R} {P : R → Prop} (h : n * b ≤ 140737488355328 ∧ n ≤ 9223372036854775807) (k : Wp x P) : Wp (must (room n b) x) P := wp_must h k
end Go.Sp
end
/- Rules for plain laws, more of them. No program in sight. -/
section
set_option linter.all false
namespace Go.Sp
open Go.Av
theorem wp_forall {R : Type} {body : Nat → Unit → (Unit → Option R) → Option R} {ex : Unit → Option R} {n : Nat} {P : R → Prop} (good : Nat → Prop)
   (hb : ∀ (i : Nat) (K : Option R), i < n → (∀ j, j < i → good j) → (good i → Wp K P) → Wp (body i () (fun _ => K)) P) (he : (∀ j, j < n → good j) → Wp (ex ()) P) : Wp (rangeGo body ex n 0 ()) P := by
 refine wp_range (fun i _ => ∀ j, j < i → good j) (fun j hj => by omega) (fun i s K hi hI hK => ?_) (fun s hs => he hs)
 have e : K = fun _ => K () := funext fun u => rfl
 rw [e]
 exact hb i (K ()) hi hI (fun g => hK () (fun j hj => by
   by_cases e : j = i
   · rw [e]; exact g
   · exact hI j (by omega)))
theorem wp_onE {S R : Type} {W : Bool} {x y : Option S} {k : S → Option R} {P : R → Prop} {v : S} (hW : W = true) (h : x = some v) (hk : Wp (k v) P) : Wp (bindO (bif W then x else y) k) P := by
 subst hW; rw [h]; exact hk
theorem wp_offE {S R : Type} {W : Bool} {x y : Option S} {k : S → Option R} {P : R → Prop} {v : S} (hW : W = false) (h : y = some v) (hk : Wp (k v) P) : Wp (bindO (bif W then x else y) k) P := by
 subst hW; rw [h]; exact hk
theorem must_yes {R : Type} {c : Prop} [Decidable c] (h : c) (x : Option R) : must c x = x := if_pos h
theorem getD_set {T : Type} (l : List T) (i j : Nat) (x d : T) (hi : i < l.length) : (l.set i x).getD j d = if j = i then x else l.getD j d := by
 simp only [List.getD_eq_getElem?_getD]
 by_cases e : j = i
 · subst e; rw [List.getElem?_set_self hi, if_pos rfl]; rfl
 · rw [List.getElem?_set_ne (fun h => e h.symm), if_neg e]
theorem getD_replicate {T : Type} (n i : Nat) (x : T) : (List.replicate n x).getD i x = x := by
 simp only [List.getD_eq_getElem?_getD, List.getElem?_replicate]
 split <;> rfl
theorem getD_mem {T : Type} [Inhabited T] {l : List T} {i : Nat} (h : i < l.length) : l.getD i default ∈ l := by
 rw [List.getD_eq_getElem?_getD, List.getElem?_eq_getElem h]; exact List.getElem_mem h
theorem mem_getD {T : Type} [Inhabited T] {l : List T} {x : T} (h : x ∈ l) : ∃ i, i < l.length ∧ l.getD i default = x := by
 obtain ⟨i, hi, rfl⟩ := List.getElem_of_mem h
 exact ⟨i, hi, by rw [List.getD_eq_getElem?_getD, List.getElem?_eq_getElem hi]; rfl⟩
theorem getD_take {T : Type} (l : List T) (n i : Nat) (d : T) : (l.take n).getD i d = if i < n then l.getD i d else d := by
 simp only [List.getD_eq_getElem?_getD, List.getElem?_take]
 split <;> rfl
theorem ext_getD {T : Type} [Inhabited T] {l r : List T} (hl : l.length = r.length) (h : ∀ i, i < l.length → l.getD i default = r.getD i default) : l = r := by
 refine List.ext_getElem hl (fun i h1 h2 => ?_)
 have := h i h1
 rw [List.getD_eq_getElem?_getD, List.getD_eq_getElem?_getD, List.getElem?_eq_getElem h1, List.getElem?_eq_getElem h2] at this
 exact this
theorem nodup_le {T : Type} [DecidableEq T] : ∀ {l r : List T}, l.Nodup → (∀ x ∈ l, x ∈ r) → l.length ≤ r.length
 | [], r, _, _ => Nat.zero_le _
 | x :: l, r, hn, hs => by
   have hx := hs x List.mem_cons_self
   rw [List.nodup_cons] at hn
   have := nodup_le (l := l) (r := r.erase x) hn.2 (fun y hy => (List.mem_erase_of_ne (fun (e : y = x) => hn.1 (e ▸ hy))).2 (hs y (List.mem_cons_of_mem _ hy)))
   rw [List.length_erase_of_mem hx] at this
   have := List.length_pos_of_mem hx
   simp only [List.length_cons]; omega
theorem nodup_inj {S T : Type} {f : S → T} : ∀ {l : List S}, l.Nodup → (∀ x ∈ l, ∀ y ∈ l, f x = f y → x = y) → (l.map f).Nodup
 | [], _, _ => List.nodup_nil
 | x :: l, hn, hi => by
   rw [List.nodup_cons] at hn
   rw [List.map_cons, List.nodup_cons]
   refine ⟨fun hm => ?_, nodup_inj hn.2 (fun a ha b hb => hi a (List.mem_cons_of_mem _ ha) b (List.mem_cons_of_mem _ hb))⟩
   obtain ⟨y, hy, e⟩ := List.mem_map.1 hm
   have := hi x List.mem_cons_self y (List.mem_cons_of_mem _ hy) e.symm
   exact hn.1 (this ▸ hy)
theorem emit_range {A : Type} {body : Nat → Unit → (Unit → Option (List A)) → Option (List A)} {n : Nat} (W : Nat → Bool) (x : Nat → A)
   (hb : ∀ (i : Nat) (r : Option (List A)), i < n → body i () (fun _ => r) = emitIf (W i) (x i) r) : rangeGo body (fun _ => some []) n 0 () = some (((List.range' 0 n).filter W).map x) := by
 have go : ∀ m i, i + m = n → rangeGo body (fun _ => some []) m i () = some (((List.range' i m).filter W).map x) := by
   intro m
   induction m with
   | zero => intro i _; rfl
   | succ m ih =>
     intro i hi
     have e : rangeGo body (fun _ => some []) (m + 1) i () = body i () (fun u => rangeGo body (fun _ => some []) m (i + 1) u) := rfl
     rw [e]
     have e2 : (fun u => rangeGo body (fun _ => some ([] : List A)) m (i + 1) u) = fun _ => some (((List.range' (i + 1) m).filter W).map x) := by
       funext u; exact ih (i + 1) (by omega)
     rw [e2, hb i _ (by omega), List.range'_succ, List.filter_cons]
     cases W i <;> rfl
 exact go n 0 (by omega)
end Go.Sp
end
/- Plain laws, fog: valid reports, what a view is, contradictions, the sight. No program in sight. -/
section
set_option linter.all false
namespace Go.Sp
open Go.Av
set_option maxRecDepth 100000
structure RepOk (x : Report) : Prop where
 src : 1 ≤ x.Source ∧ x.Source ≤ 99999
 dist : 1 ≤ x.District ∧ x.District ≤ 9
 night : 0 ≤ x.Night ∧ x.Night ≤ 100000
 time : 0 ≤ x.From ∧ x.From ≤ x.To ∧ x.To ≤ 1439
 sight : 0 ≤ x.Sight.Lo ∧ x.Sight.Lo ≤ x.Sight.Hi ∧ x.Sight.Hi ≤ 5000
 known : 0 ≤ x.Known ∧ x.Known ≤ 144001439
 till : x.Until = 0 ∨ (x.Known < x.Until ∧ 0 ≤ x.Until ∧ x.Until ≤ 144001439)
theorem fwithin_iff {a b c : Int} : fog_within a b c = true ↔ b ≤ a ∧ a ≤ c := by simp [fog_within]
theorem fcheck_or (x : Report) : fog_CheckReport x = 0 ∨ fog_CheckReport x = 50 := by
 unfold fog_CheckReport
 cases (((((((!(fog_within x.Source 1 99999)) || (!(fog_isDistrict x.District))) || (!(fog_isNight x.Night))) || (!(fog_isRange (⟨x.From, x.To⟩ : Range) 1439))) || (!(fog_isRange x.Sight 5000))) || (!(fog_isMoment x.Known))) || ((!decide (x.Until = 0)) && ((decide (x.Until ≤ x.Known)) || (!(fog_isMoment x.Until)))))
 · exact .inl rfl
 · exact .inr rfl
theorem frange_iff {r : Range} {c : Int} : fog_isRange r c = true ↔ 0 ≤ r.Lo ∧ r.Lo ≤ r.Hi ∧ r.Hi ≤ c := by simp [fog_isRange, and_assoc]
theorem fcheckReport_iff {x : Report} : fog_CheckReport x = 0 ↔ RepOk x := by
 have e : (bif (((((((!(fog_within x.Source 1 99999)) || (!(fog_isDistrict x.District))) || (!(fog_isNight x.Night))) || (!(fog_isRange (⟨x.From, x.To⟩ : Range) 1439))) || (!(fog_isRange x.Sight 5000))) || (!(fog_isMoment x.Known))) || ((!decide (x.Until = 0)) && ((decide (x.Until ≤ x.Known)) || (!(fog_isMoment x.Until))))) then (50 : Int) else 0) = 0 ↔ (((((((!(fog_within x.Source 1 99999)) || (!(fog_isDistrict x.District))) || (!(fog_isNight x.Night))) || (!(fog_isRange (⟨x.From, x.To⟩ : Range) 1439))) || (!(fog_isRange x.Sight 5000))) || (!(fog_isMoment x.Known))) || ((!decide (x.Until = 0)) && ((decide (x.Until ≤ x.Known)) || (!(fog_isMoment x.Until))))) = false := by
   generalize (((((((!(fog_within x.Source 1 99999)) || (!(fog_isDistrict x.District))) || (!(fog_isNight x.Night))) || (!(fog_isRange (⟨x.From, x.To⟩ : Range) 1439))) || (!(fog_isRange x.Sight 5000))) || (!(fog_isMoment x.Known))) || ((!decide (x.Until = 0)) && ((decide (x.Until ≤ x.Known)) || (!(fog_isMoment x.Until))))) = b
   cases b <;> simp
 unfold fog_CheckReport
 rw [e]
 simp only [fog_isDistrict, fog_isNight, fog_isMoment, Bool.or_eq_false_iff, Bool.and_eq_false_iff, Bool.not_eq_false', fwithin_iff, frange_iff, decide_eq_true_eq, decide_eq_false_iff_not]
 constructor
 · rintro ⟨⟨⟨⟨⟨⟨h1, h2⟩, h3⟩, h4⟩, h5⟩, h6⟩, h7⟩
   exact ⟨h1, h2, h3, h4, h5, h6, by rcases h7 with h7 | h7 <;> omega⟩
 · rintro ⟨h1, h2, h3, h4, h5, h6, h7⟩
   exact ⟨⟨⟨⟨⟨⟨h1, h2⟩, h3⟩, h4⟩, h5⟩, h6⟩, by omega⟩
def rp (l : List Report) (i : Nat) : Report := l.getD i default
structure RepsOk (l : List Report) : Prop where
 len : l.length ≤ 60
 all : ∀ i, i < l.length → RepOk (rp l i) ∧ (0 < i → (rp l (i - 1)).Source < (rp l i).Source)
theorem fcompare_nonneg (a b : Report) : 0 ≤ fog_compare a b ↔ b.Source ≤ a.Source := by
 unfold fog_compare cmp_Compare_int cmp_isNaN_int
 by_cases h1 : a.Source < b.Source
 · simp [h1]
 · by_cases h2 : b.Source < a.Source <;> simp [h1, h2] <;> omega
theorem fcheck_wp (l : List Report) : Wp (fog_Check l) (fun r => (RepsOk l ∧ r = 0) ∨ (¬ RepsOk l ∧ r = 51)) := by
 unfold fog_Check
 refine wp_ifd (fun h => wp_some (.inr ⟨fun V => by have := V.len; omega, rfl⟩)) (fun h => ?_)
 refine wp_forall (fun i => RepOk (rp l i) ∧ (0 < i → (rp l (i - 1)).Source < (rp l i).Source)) (fun i K hi _ hK => ?_) (fun h1 => wp_some (.inl ⟨⟨by omega, h1⟩, rfl⟩))
 refine wp_must (fun _ => by unfold inI; omega) ?_
 refine wp_must (fun h => by simp at h; omega) ?_
 have e : (((i : Int) - 1)).toNat = i - 1 := by omega
 rw [e]
 refine wp_bif (fun hb => wp_some (.inr ⟨fun V => ?_, rfl⟩)) (fun hb => ?_)
 · obtain ⟨a1, a2⟩ := V.all i hi
   unfold rp at a1 a2
   have a3 := fcheckReport_iff.2 a1
   simp only [a3, Bool.or_eq_true, Bool.and_eq_true, decide_eq_true_eq, Bool.not_eq_true', fcompare_nonneg] at hb
   rcases hb with hb | hb
   · simp at hb
   · have := a2 (by omega); omega
 · simp only [Bool.or_eq_false_iff, Bool.and_eq_false_iff, Bool.not_eq_false', decide_eq_true_eq, decide_eq_false_iff_not, fcompare_nonneg] at hb
   refine hK ⟨fcheckReport_iff.1 hb.1, fun h0 => ?_⟩
   unfold rp
   rcases hb.2 with h | h <;> omega
theorem fcheck_ok {l : List Report} (h : RepsOk l) : fog_Check l = some 0 := by
 obtain ⟨r, e, h1 | h1⟩ := fcheck_wp l
 · rw [e, h1.2]
 · exact absurd h h1.1
theorem fcheck_bad {l : List Report} (h : ¬ RepsOk l) : fog_Check l = some 51 := by
 obtain ⟨r, e, h1 | h1⟩ := fcheck_wp l
 · exact absurd h1.1 h
 · rw [e, h1.2]
theorem indexFunc_eq {T : Type} [Inhabited T] {p : T → Option Bool} {q : T → Bool} (hp : ∀ x, p x = some (q x)) (l : List T) :
   (rangeGo (fun i1 (s1 : Unit) k1 => bindO (p (l.getD i1 default)) fun y3 => (bif y3 then some (i1 : Int) else k1 ())) (fun (s1 : Unit) => some (-1)) l.length 0 () : Option Int) = some (match l.findIdx? q with | some i => (i : Int) | none => -1) := by
 refine (wp_forall (P := fun r => r = (match l.findIdx? q with | some i => (i : Int) | none => -1)) (fun i => q (l.getD i default) = false) (fun i K hi hb hK => ?_) (fun h1 => ?_)).eq
 · rw [hp]
   refine wp_bif (fun h => wp_some ?_) (fun h => hK h)
   have : l.findIdx? q = some i := by
     rw [List.findIdx?_eq_some_iff_getElem]
     refine ⟨hi, ?_, fun j hj => ?_⟩
     · rw [List.getD_eq_getElem?_getD, List.getElem?_eq_getElem hi] at h; exact h
     · have := hb j hj
       rw [List.getD_eq_getElem?_getD, List.getElem?_eq_getElem (by omega)] at this
       simpa using this
   rw [this]
 · refine wp_some ?_
   have : l.findIdx? q = none := by
     rw [List.findIdx?_eq_none_iff]
     intro x hx
     obtain ⟨i, hi, rfl⟩ := mem_getD hx
     exact h1 i hi
   rw [this]
theorem take_set_le {T : Type} {l : List T} {i : Nat} {x : T} (h : i < l.length) : (l.set i x).take (i + 1) = l.take i ++ [x] := by
 rw [List.take_add_one, List.getElem?_set_self h, List.take_set_of_le (Nat.le_refl _)]; rfl
theorem take_copyAt {T : Type} [Inhabited T] (l : List T) (a m : Nat) (f : Nat → T) (h : a ≤ l.length) : (copyAt l a m f).take a = l.take a := by
 refine ext_getD (by simp [copyAt]) (fun i hi => ?_)
 have hi' : i < a := by simp [copyAt] at hi; omega
 rw [getD_take, getD_take, if_pos hi', if_pos hi']
 unfold copyAt
 rw [List.getD_eq_getElem?_getD, List.getElem?_map, List.getElem?_range (by omega)]
 simp only [Option.map_some, Option.getD_some]
 rw [if_neg (by omega)]
theorem drop_getD {T : Type} [Inhabited T] {l : List T} {i : Nat} (h : i < l.length) : l.drop i = l.getD i default :: l.drop (i + 1) := by
 rw [List.getD_eq_getElem?_getD, List.getElem?_eq_getElem h]; exact List.drop_eq_getElem_cons h
theorem take_getD {T : Type} [Inhabited T] {l : List T} {i : Nat} (h : i < l.length) : l.take (i + 1) = l.take i ++ [l.getD i default] := by
 rw [List.take_add_one, List.getD_eq_getElem?_getD, List.getElem?_eq_getElem h]; rfl
theorem deleteFunc_eq {T : Type} [Inhabited T] (z : T) {p : T → Option Bool} {q : T → Bool} (hp : ∀ x, p x = some (q x)) (l : List T) (fuel : Nat) (hf : l.length < fuel) (hl : l.length < 9223372036854775807) :
   (bindO (rangeGo (fun i1 (s1 : Unit) k1 => bindO (p (l.getD i1 default)) fun y3 => (bif y3 then some (i1 : Int) else k1 ())) (fun (s1 : Unit) => some (-1)) l.length 0 () : Option Int) fun y1 => (bif (decide (y1 = (-1))) then some l else must (inI (y1 + 1)) <| (loopGo (fun (s5 : Int × Int × (List T)) k5 => (bif (decide (s5.2.1 < ((s5.2.2.length : Nat) : Int))) then must (0 ≤ (s5.2.1 : Int) ∧ (s5.2.1 : Int) < ((s5.2.2.length : Nat) : Int)) <| bindO (p (s5.2.2.getD (s5.2.1).toNat default)) fun y8 => (bif (!y8) then must (0 ≤ (s5.1 : Int) ∧ (s5.1 : Int) < ((s5.2.2.length : Nat) : Int)) <| must (inI (s5.1 + 1)) <| must (inI (s5.2.1 + 1)) <| k5 ((s5.1 + 1), (s5.2.1 + 1), (s5.2.2.set (s5.1).toNat (s5.2.2.getD (s5.2.1).toNat default))) else must (inI (s5.2.1 + 1)) <| k5 (s5.1, (s5.2.1 + 1), s5.2.2)) else must (0 < s5.2.2.length ∧ 0 ≤ (s5.1 : Int) ∧ (s5.1 : Int) ≤ ((s5.2.2.length : Nat) : Int)) <| must (0 < (copyAt s5.2.2 ((s5.1).toNat) (s5.2.2.length - (s5.1).toNat) (fun _ => z)).length ∧ 0 ≤ (s5.1 : Int) ∧ (s5.1 : Int) ≤ (((copyAt s5.2.2 ((s5.1).toNat) (s5.2.2.length - (s5.1).toNat) (fun _ => z)).length : Nat) : Int)) <| some ((copyAt s5.2.2 ((s5.1).toNat) (s5.2.2.length - (s5.1).toNat) (fun _ => z)).take ((s5.1).toNat)))) fuel (y1, (y1 + 1), l))) : Option (List T)) = some (l.filter (fun x => !q x)) := by
 rw [indexFunc_eq hp l]
 refine Wp.eq (wp_bindE rfl ?_)
 cases hi : l.findIdx? q with
 | none =>
   rw [List.findIdx?_eq_none_iff] at hi
   refine wp_true (by simp) (wp_some ?_)
   exact (List.filter_eq_self.2 (fun x hx => by rw [hi x hx]; rfl)).symm
 | some i =>
   rw [List.findIdx?_eq_some_iff_getElem] at hi
   obtain ⟨h1, h2, h3⟩ := hi
   refine wp_false (by simp) (wp_mustI (by simp only; omega) ?_)
   refine wp_loop (fun s => ∃ a b : Nat, s.1 = (a : Int) ∧ s.2.1 = (b : Int) ∧ a < b ∧ b ≤ l.length ∧ s.2.2.length = l.length ∧ s.2.2.take a = (l.take b).filter (fun x => !q x) ∧ s.2.2.drop b = l.drop b) (fun s => l.length - s.2.1.toNat) (by simp only; omega) ⟨i, i + 1, rfl, by simp, by omega, by omega, rfl, ?_, rfl⟩ ?_
   · rw [take_getD h1, List.filter_append]
     have e1 : (l.take i).filter (fun x => !q x) = l.take i := List.filter_eq_self.2 (fun x hx => by
       obtain ⟨j, hj, rfl⟩ := List.getElem_of_mem hx
       have hj' : j < i := by simp at hj; omega
       have := h3 j hj'
       simp only [List.getElem_take]
       simpa using this)
     have e2 : q (l.getD i default) = true := by rw [List.getD_eq_getElem?_getD, List.getElem?_eq_getElem h1]; exact h2
     rw [e1]; simp [e2, -List.getD_eq_getElem?_getD]
   · rintro ⟨s1, s2, s3⟩ K ⟨a, b, rfl, rfl, hab, hb, hlen, ht, hd⟩ hK
     simp only at hK ht hd hlen ⊢
     refine wp_ifd (fun hlt => ?_) (fun hge => ?_)
     · have hbl : b < l.length := by omega
       refine wp_must (by omega) ?_
       rw [hp]
       simp only [Int.toNat_natCast]
       have ex : s3.getD b default = l.getD b default := by
         have := drop_getD (l := s3) (i := b) (by omega)
         rw [hd, drop_getD hbl] at this
         exact (List.cons.inj this).1.symm
       have hd1 : s3.drop (b + 1) = l.drop (b + 1) := by
         have := drop_getD (l := s3) (i := b) (by omega)
         rw [hd, drop_getD hbl] at this
         exact (List.cons.inj this).2.symm
       refine wp_bindE rfl ?_
       rw [ex]
       refine wp_bif (fun hq => ?_) (fun hq => ?_)
       · refine wp_must (by omega) (wp_mustI (by omega) (wp_mustI (by omega) ?_))
         refine hK _ ⟨a + 1, b + 1, by simp, by simp, by omega, by omega, by simp [hlen], ?_, ?_⟩ (by simp only; omega)
         · rw [take_set_le (by omega), ht, take_getD hbl, List.filter_append]
           simp only [Bool.not_eq_true'] at hq
           simp [hq, -List.getD_eq_getElem?_getD]
         · rw [List.drop_set_of_lt (by omega)]; exact hd1
       · refine wp_mustI (by omega) (hK _ ⟨a, b + 1, rfl, by simp, by omega, by omega, hlen, ?_, hd1⟩ (by simp only; omega))
         rw [ht, take_getD hbl, List.filter_append]
         simp only [Bool.not_eq_false'] at hq
         simp [hq, -List.getD_eq_getElem?_getD]
     · refine wp_must (by omega) (wp_must ?_ (wp_some ?_))
       · rw [length_copyAt]; omega
       · simp only [Int.toNat_natCast]
         rw [take_copyAt _ _ _ _ (by omega), ht, List.take_of_length_le (by omega)]
def seen (d n m : Int) (x : Report) : Bool := (decide (x.District = d) && decide (x.Night = n)) && fog_counts x m
def seeL (l : List Report) (d n m : Int) : List Report := l.filter (seen d n m)
theorem fsee_eq (fuel : Nat) (l : List Report) (d n m : Int) (h : l.length ≤ 60) (hf : 60 < fuel) : fog_see fuel l d n m = some (seeL l d n m) := by
 unfold fog_see slices_Clone_Report
 refine Wp.eq (wp_bind (Q := fun r => r = l) (wp_mustR (by simp; omega) (wp_some (by simp))) ?_)
 rintro s rfl
 have e := deleteFunc_eq (⟨0, 0, 0, 0, 0, (⟨0, 0⟩ : Range), 0, 0⟩ : Report) (p := fun x0 => some (fog_see_1 x0 d n m)) (q := fun x => fog_see_1 x d n m) (fun _ => rfl) s fuel (by omega) (by omega)
 refine wp_bindE (v := s.filter (fun x => !fog_see_1 x d n m)) e (wp_some ?_)
 unfold seeL
 congr 1
 funext x
 unfold fog_see_1 seen
 cases decide (x.District = d) <;> cases decide (x.Night = n) <;> cases fog_counts x m <;> rfl
def pairL : List Report → Option (Report × Report)
 | [] => none
 | a :: l => match l.find? (fun b => fog_clash a b) with
   | some b => some (a, b)
   | none => pairL l
def pairR (l : List Report) : List Int × Bool := match pairL l with
 | some (a, b) => ([a.Source, b.Source], true)
 | none => ([], false)
theorem find_range {T R : Type} [Inhabited T] {l : List T} {q : T → Bool} {body : Nat → Unit → (Unit → Option R) → Option R} {ex : Unit → Option R} (f : T → Option R)
   (hb : ∀ (i : Nat) (K : Option R), i < l.length → body i () (fun _ => K) = bif q (l.getD i default) then f (l.getD i default) else K) :
   rangeGo body ex l.length 0 () = match l.find? q with | some x => f x | none => ex () := by
 have go : ∀ (m i : Nat), i + m = l.length → rangeGo body ex m i () = match (l.drop i).find? q with | some x => f x | none => ex () := by
   intro m
   induction m with
   | zero => intro i hi; rw [List.drop_of_length_le (by omega)]; rfl
   | succ m ih =>
     intro i hi
     have e : rangeGo body ex (m + 1) i () = body i () (fun u => rangeGo body ex m (i + 1) u) := rfl
     have e2 : (fun u => rangeGo body ex m (i + 1) u) = fun _ => rangeGo body ex m (i + 1) () := by funext u; rfl
     rw [e, e2, hb i _ (by omega), drop_getD (by omega : i < l.length), List.find?_cons, ih (i + 1) (by omega)]
     cases q (l.getD i default) <;> rfl
 have := go l.length 0 (by omega)
 rw [List.drop_zero] at this
 exact this
theorem fpair_eq (l : List Report) (hl : l.length ≤ 9223372036854775807) : fog_view__pair l = some (pairR l) := by
 unfold fog_view__pair
 have go : ∀ (m i : Nat), i + m = l.length → rangeGo (fun i1 (s1 : Unit) k1 => must ((0 : Int) ≤ ((i1 : Int) + 1) ∧ (((i1 : Int) + 1) : Int) ≤ ((l.length : Nat) : Int)) <| (rangeGo (fun i4 (s4 : Unit) k4 => (bif (fog_clash (l.getD i1 default) ((l.drop (((i1 : Int) + 1)).toNat).getD i4 default)) then some (([(l.getD i1 default).Source, ((l.drop (((i1 : Int) + 1)).toNat).getD i4 default).Source] : List Int), true) else k4 ())) (fun (s4 : Unit) => k1 ()) ((l.drop (((i1 : Int) + 1)).toNat).length) 0 ())) (fun (s1 : Unit) => some ([], false)) m i () = some (pairR (l.drop i)) := by
   intro m
   induction m with
   | zero => intro i hi; rw [List.drop_of_length_le (by omega)]; rfl
   | succ m ih =>
     intro i hi
     have hlt : i < l.length := by omega
     conv => lhs; unfold rangeGo
     have et : ((i : Int) + 1).toNat = i + 1 := by omega
     rw [must_yes (by omega), et, ih (i + 1) (by omega)]
     rw [find_range (l := l.drop (i + 1)) (q := fun b => fog_clash (l.getD i default) b) (fun b => some ([(l.getD i default).Source, b.Source], true)) (fun j K _ => rfl)]
     rw [drop_getD hlt]
     conv => rhs; unfold pairR pairL
     cases (l.drop (i + 1)).find? (fun b => fog_clash (l.getD i default) b) with
     | none => rfl
     | some b => rfl
 have := go l.length 0 (by omega)
 rw [List.drop_zero] at this
 exact this
theorem pairR_two (l : List Report) : (pairR l).2 = (pairL l).isSome := by
 unfold pairR; cases pairL l <;> rfl
def atMin (m : Int) (x : Report) : Bool := fog_within m x.From x.To
def nar (r : Range) (x : Report) : Range := ⟨max r.Lo x.Sight.Lo, min r.Hi x.Sight.Hi⟩
def sightL (v : List Report) (m : Int) : Range := (v.filter (atMin m)).foldl nar ⟨0, 5000⟩
theorem fsight_eq (v : List Report) (m : Int) : fog_view__sight v m = some (sightL v m) := by
 unfold fog_view__sight fog_view__of_1
 rw [emit_range (fun i => atMin m (v.getD i default)) (fun i => v.getD i default) (fun i r _ => rfl)]
 have e : ((List.range' 0 v.length).filter (fun i => atMin m (v.getD i default))).map (fun i => v.getD i default) = v.filter (atMin m) := by
   rw [show (fun i => atMin m (v.getD i default)) = atMin m ∘ (fun i => v.getD i default) from rfl, ← List.filter_map]
   congr 1
   refine List.ext_getElem (by simp) (fun i h1 h2 => ?_)
   simp [List.getElem?_eq_getElem h2]
 rw [e]
 show listGo _ _ (v.filter (atMin m)) _ = _
 unfold sightL
 generalize (⟨0, 5000⟩ : Range) = r
 induction v.filter (atMin m) generalizing r with
 | nil => rfl
 | cons x l ih => exact ih (nar r x)
end Go.Sp
end
/- Plain laws, fog: what is told of a clear district. No program in sight. -/
section
set_option linter.all false
namespace Go.Sp
open Go.Av
set_option maxRecDepth 100000
def argOk (q : fog_query) : Prop := 1 ≤ q.district ∧ q.district ≤ 9 ∧ 0 ≤ q.minute ∧ q.minute ≤ 1439 ∧ 0 ≤ q.time.Lo ∧ q.time.Lo ≤ q.time.Hi ∧ q.time.Hi ≤ 1439 ∧ 1 ≤ q.limit ∧ q.limit ≤ 5000
def dayOk (n m : Int) : Prop := 0 ≤ n ∧ n ≤ 100000 ∧ 0 ≤ m ∧ m ≤ 144001439
instance (q : fog_query) : Decidable (argOk q) := inferInstanceAs (Decidable (_ ∧ _))
instance (n m : Int) : Decidable (dayOk n m) := inferInstanceAs (Decidable (_ ∧ _))
end Go.Sp
end
/- Plain laws, fog: the document's tests, views, contradictions and sights. No program in sight. -/
section
set_option linter.all false
namespace Go.Sp
open Go.Av
set_option maxRecDepth 100000
theorem rin_iff {a b c : Int} : gasolierref05_In a b c = true ↔ b ≤ a ∧ a ≤ c := by simp [gasolierref05_In]
theorem rcheckReport_eq (x : Report) : gasolierref05_CheckReport x = fog_CheckReport x := by
 have e1 : gasolierref05_CheckReport x = 0 ∨ gasolierref05_CheckReport x = 50 := by
   unfold gasolierref05_CheckReport
   generalize (((((!(((gasolierref05_In x.Source 1 99999) && (gasolierref05_In x.District 1 9)) && (gasolierref05_In x.Night 0 100000))) || (!(((decide (0 ≤ x.From)) && (decide (x.From ≤ x.To))) && (decide (x.To ≤ 1439))))) || (!(((decide (0 ≤ x.Sight.Lo)) && (decide (x.Sight.Lo ≤ x.Sight.Hi))) && (decide (x.Sight.Hi ≤ 5000))))) || (!(gasolierref05_isMoment x.Known))) || ((!decide (x.Until = 0)) && ((decide (x.Until ≤ x.Known)) || (!(gasolierref05_isMoment x.Until))))) = b
   cases b
   · exact .inl rfl
   · exact .inr rfl
 have e2 : gasolierref05_CheckReport x = 0 ↔ RepOk x := by
   unfold gasolierref05_CheckReport
   generalize hb : (((((!(((gasolierref05_In x.Source 1 99999) && (gasolierref05_In x.District 1 9)) && (gasolierref05_In x.Night 0 100000))) || (!(((decide (0 ≤ x.From)) && (decide (x.From ≤ x.To))) && (decide (x.To ≤ 1439))))) || (!(((decide (0 ≤ x.Sight.Lo)) && (decide (x.Sight.Lo ≤ x.Sight.Hi))) && (decide (x.Sight.Hi ≤ 5000))))) || (!(gasolierref05_isMoment x.Known))) || ((!decide (x.Until = 0)) && ((decide (x.Until ≤ x.Known)) || (!(gasolierref05_isMoment x.Until))))) = b
   have hb' : b = false ↔ RepOk x := by
     rw [← hb]
     simp only [gasolierref05_isMoment, Bool.or_eq_false_iff, Bool.and_eq_false_iff, Bool.not_eq_false', Bool.and_eq_true, rin_iff, decide_eq_true_eq, decide_eq_false_iff_not]
     constructor
     · rintro ⟨⟨⟨⟨⟨⟨h1, h2⟩, h3⟩, ⟨h4, h5⟩, h6⟩, ⟨h7, h8⟩, h9⟩, h10⟩, h11⟩
       exact ⟨h1, h2, h3, ⟨h4, h5, h6⟩, ⟨h7, h8, h9⟩, h10, by omega⟩
     · rintro ⟨h1, h2, h3, ⟨h4, h5, h6⟩, ⟨h7, h8, h9⟩, h10, h11⟩
       exact ⟨⟨⟨⟨⟨⟨h1, h2⟩, h3⟩, ⟨h4, h5⟩, h6⟩, ⟨h7, h8⟩, h9⟩, h10⟩, by omega⟩
   rw [← hb']
   cases b <;> simp
 rcases fcheck_or x with h | h
 · rw [h]; exact e2.2 (fcheckReport_iff.1 h)
 · rcases e1 with h1 | h1
   · have := fcheckReport_iff.2 (e2.1 h1); omega
   · rw [h, h1]
theorem rcheck_wp {fuel : Nat} (l : List Report) (hf : 61 < fuel) : Wp (gasolierref05_Check fuel l) (fun r => (RepsOk l ∧ r = 0) ∨ (¬ RepsOk l ∧ r = 51)) := by
 unfold gasolierref05_Check
 refine wp_ifd (fun h => wp_some (.inr ⟨fun V => by have := V.len; omega, rfl⟩)) (fun h => ?_)
 refine wp_for1 l.length (by omega) (fun i => ∀ j, j < i → RepOk (rp l j) ∧ (0 < j → (rp l (j - 1)).Source < (rp l j).Source)) (fun j hj => by omega) (fun i K hi hI hK => ?_)
 refine wp_ifd (fun hlt => ?_) (fun hge => wp_some (.inl ⟨⟨by omega, fun j hj => hI j (by omega)⟩, rfl⟩))
 have hi' : i < l.length := by omega
 refine wp_must (by omega) (wp_must (fun _ => by unfold inI; omega) (wp_must (fun h => by simp at h; omega) (wp_must (fun _ => by omega) ?_)))
 have e : (((i : Int) - 1)).toNat = i - 1 := by omega
 rw [e]
 simp only [Int.toNat_natCast, rcheckReport_eq]
 refine wp_bif (fun hb => wp_some (.inr ⟨fun V => ?_, rfl⟩)) (fun hb => ?_)
 · obtain ⟨a1, a2⟩ := V.all i hi'
   unfold rp at a1 a2
   have a3 := fcheckReport_iff.2 a1
   simp only [a3, Bool.or_eq_true, Bool.and_eq_true, decide_eq_true_eq, Bool.not_eq_true'] at hb
   rcases hb with hb | hb
   · simp at hb
   · have := a2 (by omega); omega
 · simp only [Bool.or_eq_false_iff, Bool.and_eq_false_iff, Bool.not_eq_false', decide_eq_true_eq, decide_eq_false_iff_not] at hb
   refine wp_mustI (by omega) (hK hi' (fun j hj => ?_))
   by_cases ej : j = i
   · subst ej
     refine ⟨fcheckReport_iff.1 hb.1, fun h0 => ?_⟩
     unfold rp
     rcases hb.2 with h | h <;> omega
   · exact hI j (by omega)
theorem rcheck_ok {fuel : Nat} {l : List Report} (hf : 61 < fuel) (h : RepsOk l) : gasolierref05_Check fuel l = some 0 := by
 obtain ⟨r, e, h1 | h1⟩ := rcheck_wp l hf
 · rw [e, h1.2]
 · exact absurd h h1.1
theorem rcheck_bad {fuel : Nat} {l : List Report} (hf : 61 < fuel) (h : ¬ RepsOk l) : gasolierref05_Check fuel l = some 51 := by
 obtain ⟨r, e, h1 | h1⟩ := rcheck_wp l hf
 · exact absurd h1.1 h
 · rw [e, h1.2]
theorem rof_eq {fuel : Nat} (l : List Report) (a : gasolierref05_At) (hl : l.length ≤ 60) (hf : 61 < fuel) : gasolierref05_of fuel l a = some (seeL l a.District a.Night a.Moment) := by
 unfold gasolierref05_of
 refine (wp_for (P := fun r => r = seeL l a.District a.Night a.Moment) l.length (by omega) (fun i s => s = (l.take i).filter (seen a.District a.Night a.Moment)) (by simp) (fun i s K hi hI hK => ?_)).eq
 simp only at hK ⊢
 refine wp_ifd (fun hlt => ?_) (fun hge => wp_some ?_)
 · have hi' : i < l.length := by omega
   refine wp_must (by omega) (wp_must (fun _ => by omega) (wp_must (fun _ => by omega) ?_))
   simp only [Int.toNat_natCast]
   have et : (l.take (i + 1)).filter (seen a.District a.Night a.Moment) = (l.take i).filter (seen a.District a.Night a.Moment) ++ (if seen a.District a.Night a.Moment (l.getD i default) then [l.getD i default] else []) := by
     rw [take_getD hi', List.filter_append]; simp only [List.filter_cons, List.filter_nil]
   have hlen : s.length ≤ 60 := by
     rw [hI]; exact Nat.le_trans (List.length_filter_le _ _) (by simp; omega)
   refine wp_bif (fun hb => ?_) (fun hb => ?_)
   · refine wp_must (by omega) (wp_mustR (by simp; omega) (wp_mustI (by omega) (hK _ hi' ?_)))
     rw [et, if_pos (show seen a.District a.Night a.Moment (l.getD i default) = true from hb), hI]
   · refine wp_mustI (by omega) (hK _ hi' ?_)
     rw [et, if_neg (by rw [show seen a.District a.Night a.Moment (l.getD i default) = false from hb]; simp), hI, List.append_nil]
 · rw [hI, List.take_of_length_le (by omega)]; rfl
theorem find_loop {fuel : Nat} (l : List Report) (a : Report) (j0 : Nat) (hj0 : j0 ≤ l.length) (hf : l.length < fuel) (hl : l.length ≤ 60) {R : Type} {P : R → Prop} {body : Int → (Int → Option R) → Option R} {out : Option R} {yes : Report → Option R}
   (hb : ∀ (j : Nat) (K : Int → Option R), j < l.length → (fog_clash a (l.getD j default) = true → Wp (yes (l.getD j default)) P → Wp (body (j : Int) K) P) ∧ (fog_clash a (l.getD j default) = false → Wp (K ((j : Int) + 1)) P → Wp (body (j : Int) K) P))
   (he : ∀ (K : Int → Option R), Wp out P → Wp (body (l.length : Int) K) P)
   (h : Wp (match (l.drop j0).find? (fun b => fog_clash a b) with | some b => yes b | none => out) P) : Wp (loopGo body fuel (j0 : Int)) P := by
 refine wp_loop (fun s => ∃ j : Nat, s = (j : Int) ∧ j ≤ l.length ∧ Wp (match (l.drop j).find? (fun b => fog_clash a b) with | some b => yes b | none => out) P) (fun s => l.length - s.toNat) (by simp only [Int.toNat_natCast]; omega) ⟨j0, rfl, hj0, h⟩ ?_
 rintro s K ⟨j, rfl, hj, hw⟩ hK
 by_cases hlt : j < l.length
 · rw [drop_getD hlt, List.find?_cons] at hw
   obtain ⟨h1, h2⟩ := hb j K hlt
   cases hc : fog_clash a (l.getD j default) with
   | true => rw [hc] at hw; exact h1 hc hw
   | false => rw [hc] at hw; exact h2 hc (hK _ ⟨j + 1, by simp, by omega, hw⟩ (by simp only [Int.toNat_natCast]; omega))
 · have ej : j = l.length := by omega
   subst ej
   rw [List.drop_length] at hw
   exact he K hw
theorem pairR_cons (a : Report) (v : List Report) : pairR (a :: v) = match v.find? (fun b => fog_clash a b) with | some b => ([a.Source, b.Source], true) | none => pairR v := by
 conv => lhs; unfold pairR pairL
 cases v.find? (fun b => fog_clash a b) with
 | some b => rfl
 | none => rfl
theorem rclash_eq {fuel : Nat} (l : List Report) (hl : l.length ≤ 60) (hf : 61 < fuel) : gasolierref05_clash fuel l = some (pairR l).1 := by
 unfold gasolierref05_clash
 refine (wp_for1 (P := fun r => r = (pairR l).1) l.length (by omega) (fun i => pairR (l.drop i) = pairR l) (by simp) (fun i K hi hI hK => ?_)).eq
 refine wp_ifd (fun hlt => ?_) (fun hge => wp_some ?_)
 · have hi' : i < l.length := by omega
   refine wp_mustI (by omega) ?_
   have e1 : (i : Int) + 1 = ((i + 1 : Nat) : Int) := by simp
   rw [e1]
   refine find_loop l (l.getD i default) (i + 1) (by omega) (by omega) hl (yes := fun b => some [(l.getD i default).Source, b.Source]) (out := K ((i : Int) + 1)) (fun j K' hj => ⟨fun hc hw => ?_, fun hc hw => ?_⟩) (fun K' hw => ?_) ?_
   · simp only [Int.toNat_natCast]
     refine wp_true (by simp; omega) (wp_must (by omega) (wp_must (by omega) (wp_true hc (wp_must (by omega) (wp_must (by omega) hw)))))
   · simp only [Int.toNat_natCast]
     refine wp_true (by simp; omega) (wp_must (by omega) (wp_must (by omega) (wp_false hc (wp_mustI (by omega) hw))))
   · refine wp_false (by simp) (wp_mustI (by omega) hw)
   · have hp := hI
     rw [drop_getD hi'] at hp
     rw [pairR_cons] at hp
     cases hf2 : (l.drop (i + 1)).find? (fun b => fog_clash (l.getD i default) b) with
     | some b =>
       rw [hf2] at hp
       simp only at hp ⊢
       refine wp_some ?_
       rw [← hp]
     | none =>
       rw [hf2] at hp
       simp only at hp ⊢
       exact hK hi' hp
 · have : i = l.length := by omega
   subst this
   rw [List.drop_length] at hI
   rw [← hI]; rfl
theorem rsight_eq {fuel : Nat} (l : List Report) (m : Int) (hl : l.length ≤ 60) (hf : 61 < fuel) : gasolierref05_sight fuel l m = some (sightL l m) := by
 unfold gasolierref05_sight
 refine (wp_for (P := fun r => r = sightL l m) l.length (by omega) (fun i s => ((l.drop i).filter (atMin m)).foldl nar s = sightL l m) (by simp [sightL]) (fun i s K hi hI hK => ?_)).eq
 simp only at hK ⊢
 refine wp_ifd (fun hlt => ?_) (fun hge => wp_some ?_)
 · have hi' : i < l.length := by omega
   rw [drop_getD hi', List.filter_cons] at hI
   refine wp_must (by omega) (wp_must (by omega) ?_)
   simp only [Int.toNat_natCast]
   refine wp_bif (fun hb => ?_) (fun hb => ?_)
   · rw [if_pos (show atMin m (l.getD i default) = true from hb), List.foldl_cons] at hI
     exact wp_must (by omega) (wp_must (by omega) (wp_mustI (by omega) (hK _ hi' hI)))
   · rw [if_neg (by rw [show atMin m (l.getD i default) = false from hb]; simp)] at hI
     exact wp_mustI (by omega) (hK _ hi' hI)
 · rw [List.drop_of_length_le (by omega)] at hI; exact hI
theorem same_eq {fuel : Nat} (a b : List Int) (hf : a.length < fuel) (hl : a.length < 9223372036854775807) : gasolierref05_Same fuel a b = some (decide (a = b)) := by
 unfold gasolierref05_Same
 refine Wp.eq (wp_ifn (fun h => wp_some ?_) (fun h => ?_))
 · rw [decide_eq_false (fun e => h (by rw [e]))]
 have hlen : a.length = b.length := by omega
 refine wp_for1 a.length hf (fun i => ∀ j, j < i → a.getD j default = b.getD j default) (fun j hj => by omega) (fun i K hi hI hK => ?_)
 refine wp_ifd (fun hlt => ?_) (fun hge => wp_some ?_)
 · have hi' : i < a.length := by omega
   refine wp_must (by omega) (wp_must (by omega) ?_)
   simp only [Int.toNat_natCast]
   refine wp_ifn (fun h => wp_some ?_) (fun h => wp_mustI (by omega) (hK hi' (fun j hj => ?_)))
   · rw [decide_eq_false (fun e => h (by rw [e]))]
   · by_cases ej : j = i
     · subst ej; exact h
     · exact hI j (by omega)
 · rw [decide_eq_true (ext_getD hlen (fun i hi => hI i (by omega)))]
end Go.Sp
end
/- Plain laws, fog: FogSights, FogClashes. No program in sight. -/
section
set_option linter.all false
namespace Go.Sp
open Go.Av
set_option maxRecDepth 100000
theorem sane_ok : gasolierlaw05_sane 20000 = some true := by kernel_rfl
end Go.Sp
end
/- Plain laws, fog: reports that are made, FogTrue, FogShown. No program in sight. -/
section
set_option linter.all false
namespace Go.Sp
open Go.Av
set_option maxRecDepth 100000
structure Fine (i : Nat) (r : Report) : Prop where
 src : r.Source = 4 * (i : Int) + 3
 dist : 1 ≤ r.District ∧ r.District ≤ 3
 night : r.Night = 3 ∨ r.Night = 4
 from_ : 0 ≤ r.From ∧ r.From ≤ 1299
 to_ : r.From ≤ r.To ∧ r.To ≤ 1437
 sight : 0 ≤ r.Sight.Lo ∧ r.Sight.Lo ≤ r.Sight.Hi ∧ r.Sight.Hi ≤ 5000
 known : 4320 ≤ r.Known ∧ r.Known ≤ 5759
 till : r.Until = 0 ∨ r.Known < r.Until ∧ r.Until ≤ 7000
theorem below_vals (r : Range) (lim : Int) : (fog_below r lim = 1 ∧ r.Hi < lim) ∨ (fog_below r lim = 0 ∧ lim ≤ r.Lo ∧ ¬ r.Hi < lim) ∨ (fog_below r lim = 2 ∧ ¬ r.Hi < lim ∧ ¬ lim ≤ r.Lo) := by
 unfold fog_below
 by_cases a : r.Hi < lim
 · rw [decide_eq_true a]; exact .inl ⟨rfl, a⟩
 · by_cases b : lim ≤ r.Lo
   · rw [decide_eq_false a, decide_eq_true b]; exact .inr (.inl ⟨rfl, b, a⟩)
   · rw [decide_eq_false a, decide_eq_false b]; exact .inr (.inr ⟨rfl, a, b⟩)
end Go.Sp
end
/- Plain laws, fog: policies, the program's and the document's check. No program in sight. -/
section
set_option linter.all false
namespace Go.Sp
open Go.Av
set_option maxRecDepth 100000
def sd (l : List Send) (i : Nat) : Send := l.getD i default
def nd (p : List Node) (i : Nat) : Node := p.getD i default
def fol3 (n : Node) : List Int := [n.Yes, n.No, n.Maybe]
def SendsOk (l : List Send) : Prop := l.length ≤ 9 ∧ ∀ i, i < l.length → (1 ≤ (sd l i).District ∧ (sd l i).District ≤ 9) ∧ (1 ≤ (sd l i).Many ∧ (sd l i).Many ≤ 20) ∧ (0 < i → (sd l (i - 1)).District < (sd l i).District)
def NextOk (p : List Node) (i : Nat) (n : Node) (k : Int) : Prop := ((i : Int) + 1 ≤ k ∧ k ≤ (p.length : Int) - 1) ∧ ((nd p k.toNat).Test = true → n.Minute ≤ (nd p k.toNat).Minute)
instance (p : List Node) (i : Nat) (n : Node) (k : Int) : Decidable (NextOk p i n k) := inferInstanceAs (Decidable (_ ∧ _))
def LeafOk (n : Node) : Prop := (n.District = 0 ∧ n.Minute = 0 ∧ n.Limit = 0 ∧ n.Yes = 0 ∧ n.No = 0 ∧ n.Maybe = 0) ∧ SendsOk n.Sends
def TestHead (n : Node) : Prop := (1 ≤ n.District ∧ n.District ≤ 9) ∧ (0 ≤ n.Minute ∧ n.Minute ≤ 1439) ∧ (1 ≤ n.Limit ∧ n.Limit ≤ 5000) ∧ n.Sends.length = 0
def NodeOk (p : List Node) (i : Nat) : Prop := ((nd p i).Test = false → LeafOk (nd p i)) ∧ ((nd p i).Test = true → TestHead (nd p i) ∧ ∀ k ∈ fol3 (nd p i), NextOk p i (nd p i) k)
def nm (n : Node) : List Int := if n.Test then fol3 n else []
def names (p : List Node) : List Int := p.flatMap nm
structure PolOk (p : List Node) : Prop where
 len : 1 ≤ p.length ∧ p.length ≤ 31
 node : ∀ i, i < p.length → NodeOk p i
 nodup : (names p).Nodup
 count : (names p).length + 1 = p.length
theorem names_take {p : List Node} {i : Nat} (h : i < p.length) : names (p.take (i + 1)) = names (p.take i) ++ nm (nd p i) := by
 unfold names
 rw [take_getD h, List.flatMap_append]; simp [nd]
theorem sends_few {l : List Send} : ∀ {i : Nat}, (∀ j, j < i → (1 ≤ (sd l j).District ∧ (sd l j).District ≤ 9) ∧ (1 ≤ (sd l j).Many ∧ (sd l j).Many ≤ 20) ∧ (0 < j → (sd l (j - 1)).District < (sd l j).District)) → i ≤ 9 := by
 intro i h
 have key : ∀ j, j < i → (j : Int) + 1 ≤ (sd l j).District := by
   intro j
   induction j with
   | zero => intro hj; have := (h 0 hj).1; omega
   | succ j ih =>
     intro hj
     have h1 := ih (by omega)
     have h2 := (h (j + 1) hj).2.2 (by omega)
     have e : j + 1 - 1 = j := by omega
     rw [e] at h2
     omega
 by_cases h0 : i = 0
 · omega
 · have := key (i - 1) (by omega)
   have := (h (i - 1) (by omega)).1
   omega
theorem fareSends_eq (l : List Send) : Wp (fog_areSends l) (fun b => b = true ↔ SendsOk l) := by
 unfold fog_areSends
 refine wp_forall (fun i => (1 ≤ (sd l i).District ∧ (sd l i).District ≤ 9) ∧ (1 ≤ (sd l i).Many ∧ (sd l i).Many ≤ 20) ∧ (0 < i → (sd l (i - 1)).District < (sd l i).District)) (fun i K hi hI hK => ?_) (fun h => wp_some ?_)
 · have hi9 := sends_few hI
   refine wp_must (fun _ => by unfold inI; omega) (wp_must (fun h => by simp at h; omega) ?_)
   have e : (((i : Int) - 1)).toNat = i - 1 := by omega
   rw [e]
   refine wp_bif (fun hb => wp_some ?_) (fun hb => hK ?_)
   · constructor
     · intro h; cases h
     · rintro ⟨_, h⟩
       obtain ⟨h1, h2, h3⟩ := h i hi
       unfold sd at h1 h2 h3
       unfold fog_isDistrict at hb
       simp only [Bool.or_eq_true, Bool.and_eq_true, decide_eq_true_eq, Bool.not_eq_true', ← Bool.not_eq_true, fwithin_iff] at hb
       rcases hb with (hb | hb) | hb
       · exact absurd h1 hb
       · exact absurd h2 hb
       · have := h3 (by omega); omega
   · unfold fog_isDistrict at hb
     simp only [Bool.or_eq_false_iff, Bool.and_eq_false_iff, Bool.not_eq_false', decide_eq_false_iff_not, fwithin_iff] at hb
     unfold sd
     exact ⟨hb.1.1, hb.1.2, fun h0 => by rcases hb.2 with h | h <;> omega⟩
 · rw [decide_eq_true_eq]
   constructor
   · intro h9; exact ⟨by omega, h⟩
   · intro h9; have := h9.1; omega
theorem risLeaf_eq {fuel : Nat} (n : Node) (hf : 9 < fuel) : Wp (gasolierref05_isLeaf fuel n) (fun b => b = true ↔ LeafOk n) := by
 unfold gasolierref05_isLeaf
 refine wp_bif (fun hb => wp_some ?_) (fun hb => ?_)
 · constructor
   · intro h; cases h
   · rintro ⟨⟨h1, h2, h3, h4, h5, h6⟩, h7, _⟩
     simp [h1, h2, h3, h4, h5, h6] at hb; omega
 · simp only [Bool.or_eq_false_iff, Bool.not_eq_false', decide_eq_true_eq, decide_eq_false_iff_not] at hb
   obtain ⟨⟨⟨⟨⟨⟨h1, h2⟩, h3⟩, h4⟩, h5⟩, h6⟩, h7⟩ := hb
   refine wp_for1 n.Sends.length (by omega) (fun i => ∀ j, j < i → (1 ≤ (sd n.Sends j).District ∧ (sd n.Sends j).District ≤ 9) ∧ (1 ≤ (sd n.Sends j).Many ∧ (sd n.Sends j).Many ≤ 20) ∧ (0 < j → (sd n.Sends (j - 1)).District < (sd n.Sends j).District)) (fun j hj => by omega) (fun i K hi hI hK => ?_)
   refine wp_ifd (fun hlt => ?_) (fun hge => wp_some ?_)
   · have hi' : i < n.Sends.length := by omega
     refine wp_must (by omega) (wp_must (fun _ => by unfold inI; omega) (wp_must (fun h => by simp at h; omega) ?_))
     have e : (((i : Int) - 1)).toNat = i - 1 := by omega
     rw [e]
     simp only [Int.toNat_natCast]
     refine wp_bif (fun hb => wp_some ?_) (fun hb => wp_mustI (by omega) (hK hi' (fun j hj => ?_)))
     · constructor
       · intro h; cases h
       · rintro ⟨_, _, h⟩
         obtain ⟨h1, h2, h3⟩ := h i hi'
         unfold sd at h1 h2 h3
         simp only [Bool.or_eq_true, Bool.and_eq_true, decide_eq_true_eq, Bool.not_eq_true', ← Bool.not_eq_true, rin_iff] at hb
         rcases hb with (hb | hb) | hb
         · exact absurd h1 hb
         · exact absurd h2 hb
         · have := h3 (by omega); omega
     · by_cases ej : j = i
       · subst ej
         simp only [Bool.or_eq_false_iff, Bool.and_eq_false_iff, Bool.not_eq_false', decide_eq_false_iff_not, rin_iff] at hb
         unfold sd
         exact ⟨hb.1.1, hb.1.2, fun h0 => by rcases hb.2 with h | h <;> omega⟩
       · exact hI j (by omega)
   · refine ⟨fun _ => ⟨⟨h1, h2, h3, h4, h5, h6⟩, by omega, fun j hj => hI j (by omega)⟩, fun _ => rfl⟩
theorem next_get (n : Node) (k : Int) : (fog_next n).get k = if k = 2 then some n.Maybe else if k = 0 then some n.No else if k = 1 then some n.Yes else none := rfl
theorem next_keys (n : Node) : (fog_next n).keys = [1, 0, 2] := rfl
theorem next_ok (n : Node) : (fog_next n).ok := by
 refine ⟨by rw [next_keys]; decide, rfl, fun k hk => ?_⟩
 rw [next_keys] at hk
 rw [next_get]
 rcases List.mem_cons.1 hk with rfl | hk
 · rfl
 · rcases List.mem_cons.1 hk with rfl | hk
   · rfl
   · rcases List.mem_cons.1 hk with rfl | hk
     · rfl
     · cases hk
theorem mapAny_of {chk : Int → Option Bool} {q : Int → Bool} : ∀ {l : List Int}, (∀ k ∈ l, chk k = some (q k)) → mapAny chk l = some (l.any q)
 | [], _ => rfl
 | k :: l, h => by
   unfold mapAny
   rw [h k List.mem_cons_self, mapAny_of (l := l) (fun j hj => h j (List.mem_cons_of_mem _ hj))]
   rfl
theorem mem_fol3 {n : Node} {P : Int → Prop} : (∀ k ∈ fol3 n, P k) ↔ P n.Yes ∧ P n.No ∧ P n.Maybe := by simp [fol3]
theorem nextOk_dec {p : List Node} {i : Nat} {n : Node} {k : Int} : (bif ((!(fog_within k ((i : Int) + 1) (((p.length : Nat) : Int) - 1))) || (((p.getD k.toNat default).Test) && (decide ((p.getD k.toNat default).Minute < n.Minute)))) then some true else some false) = some (!decide (NextOk p i n k)) := by
 by_cases h1 : (i : Int) + 1 ≤ k ∧ k ≤ ((p.length : Nat) : Int) - 1
 · rw [fwithin_iff.2 h1]
   cases ht : (p.getD k.toNat default).Test with
   | false => rw [decide_eq_true (p := NextOk p i n k) ⟨h1, fun h => by unfold nd at h; rw [ht] at h; cases h⟩]; rfl
   | true =>
     by_cases h2 : (p.getD k.toNat default).Minute < n.Minute
     · rw [decide_eq_true h2, decide_eq_false (fun h : NextOk p i n k => by have := h.2 ht; unfold nd at this; omega)]; rfl
     · rw [decide_eq_false h2, decide_eq_true (p := NextOk p i n k) ⟨h1, fun h => by unfold nd; omega⟩]; rfl
 · rw [Bool.eq_false_iff.2 (fun h => h1 (fwithin_iff.1 h)), decide_eq_false (fun h : NextOk p i n k => h1 h.1)]; rfl
theorem fisNode_wp (p : List Node) (i : Nat) (hi : i < p.length) (hl : p.length ≤ 31) : Wp (fog_isNode p (i : Int)) (fun b => b = true ↔ NodeOk p i) := by
 unfold fog_isNode
 refine wp_must (by omega) ?_
 simp only [Int.toNat_natCast]
 have en : p.getD i default = nd p i := rfl
 simp only [en]
 generalize hn : nd p i = n
 have hN : NodeOk p i ↔ (n.Test = false → LeafOk n) ∧ (n.Test = true → TestHead n ∧ ∀ k ∈ fol3 n, NextOk p i n k) := by unfold NodeOk; rw [hn]
 rw [hN]
 refine wp_bif (fun ht => ?_) (fun ht => ?_)
 · have ht : n.Test = false := by simpa using ht
   have hz : (((((decide (n.District = 0) && decide (n.Minute = 0)) && decide (n.Limit = 0)) && decide (n.Yes = 0)) && decide (n.No = 0)) && decide (n.Maybe = 0)) = true ↔ (n.District = 0 ∧ n.Minute = 0 ∧ n.Limit = 0 ∧ n.Yes = 0 ∧ n.No = 0 ∧ n.Maybe = 0) := by
     simp only [Bool.and_eq_true, decide_eq_true_eq, and_assoc]
   generalize (((((decide (n.District = 0) && decide (n.Minute = 0)) && decide (n.Limit = 0)) && decide (n.Yes = 0)) && decide (n.No = 0)) && decide (n.Maybe = 0)) = c at hz
   have hG : ∀ {q : Prop}, (q ↔ LeafOk n) → (q ↔ (n.Test = false → LeafOk n) ∧ (n.Test = true → TestHead n ∧ ∀ k ∈ fol3 n, NextOk p i n k)) := fun {q} h => by rw [h, ht]; simp
   cases c with
   | true =>
     refine wp_bind (fareSends_eq n.Sends) (fun b hb => wp_some (hG ?_))
     rw [Bool.true_and, hb]
     exact ⟨fun h => ⟨hz.1 rfl, h⟩, fun h => h.2⟩
   | false =>
     refine wp_offE rfl rfl (wp_some (hG ?_))
     rw [Bool.false_and]
     exact ⟨fun h => (nomatch h), fun h => (nomatch (hz.2 h.1))⟩
 · have ht : n.Test = true := by simpa using ht
   have hG : ∀ {q : Prop}, (q ↔ TestHead n ∧ ∀ k ∈ fol3 n, NextOk p i n k) → (q ↔ (n.Test = false → LeafOk n) ∧ (n.Test = true → TestHead n ∧ ∀ k ∈ fol3 n, NextOk p i n k)) := fun {q} h => by rw [h, ht]; simp
   refine wp_bif (fun hb => wp_some (hG ?_)) (fun hb => ?_)
   · refine ⟨fun h => (nomatch h), fun h => ?_⟩
     obtain ⟨h1, h2, h3, h4⟩ := h.1
     unfold fog_isDistrict fog_isMinute at hb
     simp only [Bool.or_eq_true, decide_eq_true_eq, Bool.not_eq_true', ← Bool.not_eq_true, fwithin_iff] at hb
     rcases hb with ((hb | hb) | hb) | hb
     · exact absurd h1 hb
     · exact absurd h2 hb
     · exact absurd h3 hb
     · omega
   · unfold fog_isDistrict fog_isMinute at hb
     simp only [Bool.or_eq_false_iff, Bool.not_eq_false', decide_eq_false_iff_not, fwithin_iff] at hb
     have hH : TestHead n := ⟨hb.1.1.1, hb.1.1.2, hb.1.2, by omega⟩
     refine wp_must (next_ok n) ?_
     rw [next_keys, mapAny_of (q := fun q => !decide (NextOk p i n (((fog_next n).get q).getD default))) (fun q hq => ?_)]
     · have hany : ∀ b, [1, 0, 2].any (fun q => !decide (NextOk p i n (((fog_next n).get q).getD default))) = b → (b = false ↔ ∀ k ∈ fol3 n, NextOk p i n k) := by
         intro b e
         have e1 : ((fog_next n).get 1).getD default = n.Yes := rfl
         have e2 : ((fog_next n).get 0).getD default = n.No := rfl
         have e3 : ((fog_next n).get 2).getD default = n.Maybe := rfl
         rw [mem_fol3, ← e]
         simp only [List.any_cons, List.any_nil, e1, e2, e3, Bool.or_false, Bool.or_eq_false_iff, Bool.not_eq_false', decide_eq_true_eq]
       refine wp_bif (fun hb => wp_some (hG ?_)) (fun hb => wp_some (hG ?_))
       · exact ⟨fun h => (nomatch h), fun h => (nomatch ((hany _ hb).2 h.2))⟩
       · exact ⟨fun _ => ⟨hH, (hany _ hb).1 rfl⟩, fun _ => rfl⟩
     · have e0 := nextOk_dec (p := p) (i := i) (n := n) (k := ((fog_next n).get q).getD default)
       refine (must_yes (by unfold inI; omega) _).trans ((must_yes (by unfold inI; omega) _).trans ((must_yes (fun h => ?_) _).trans ((must_yes (fun h => ?_) _).trans e0)))
       · simp only [Bool.not_not, fwithin_iff] at h; omega
       · simp only [Bool.not_not, Bool.and_eq_true, fwithin_iff] at h; omega
theorem names_in {p : List Node} (h : ∀ i, i < p.length → NodeOk p i) {k : Int} (hk : k ∈ names p) : 1 ≤ k ∧ k ≤ (p.length : Int) - 1 := by
 unfold names at hk
 rw [List.mem_flatMap] at hk
 obtain ⟨n, hn, hk⟩ := hk
 obtain ⟨i, hi, rfl⟩ := mem_getD hn
 unfold nm at hk
 split at hk
 · next ht =>
   have := (((h i hi).2 ht).2 k hk).1
   omega
 · cases hk
def tens (p : List Node) : List Int := (List.range (p.length - 1)).map (fun j : Nat => (j : Int) + 1)
theorem tens_nodup (p : List Node) : (tens p).Nodup := nodup_inj List.nodup_range (fun x _ y _ h => by omega)
theorem mem_tens {p : List Node} {k : Int} : k ∈ tens p ↔ 1 ≤ k ∧ k ≤ (p.length : Int) - 1 := by
 unfold tens
 rw [List.mem_map]
 constructor
 · rintro ⟨j, hj, rfl⟩
   rw [List.mem_range] at hj; omega
 · intro h
   exact ⟨(k - 1).toNat, List.mem_range.2 (by omega), by omega⟩
theorem tens_len (p : List Node) : (tens p).length = p.length - 1 := by simp [tens]
theorem names_iff {p : List Node} (h1 : 1 ≤ p.length) (h : ∀ i, i < p.length → NodeOk p i) : ((names p).Nodup ∧ (names p).length + 1 = p.length) ↔ ∀ j : Nat, 1 ≤ j → j < p.length → (names p).count (j : Int) = 1 := by
 constructor
 · rintro ⟨hn, hl⟩ j hj1 hj
   have hm : (j : Int) ∈ names p := by
     apply Classical.byContradiction
     intro hno
     have := nodup_le (l := (j : Int) :: names p) (r := tens p) (List.nodup_cons.2 ⟨hno, hn⟩) (fun x hx => by
       rcases List.mem_cons.1 hx with rfl | hx
       · exact mem_tens.2 (by omega)
       · exact mem_tens.2 (names_in h hx))
     rw [tens_len, List.length_cons] at this
     omega
   exact Nat.le_antisymm (List.nodup_iff_count.1 hn _) (List.count_pos_iff.2 hm)
 · intro hc
   have hn : (names p).Nodup := by
     rw [List.nodup_iff_count]
     intro a
     by_cases ha : a ∈ names p
     · have h2 := names_in h ha
       have := hc a.toNat (by omega) (by omega)
       have e : ((a.toNat : Nat) : Int) = a := by omega
       rw [e] at this; omega
     · rw [List.count_eq_zero_of_not_mem ha]; omega
   refine ⟨hn, ?_⟩
   have a1 := nodup_le hn (fun x hx => mem_tens.2 (names_in h hx))
   have a2 := nodup_le (tens_nodup p) (r := names p) (fun x hx => by
     have h3 := mem_tens.1 hx
     have := hc x.toNat (by omega) (by omega)
     have e : ((x.toNat : Nat) : Int) = x := by omega
     rw [e] at this
     exact List.count_pos_iff.1 (by omega))
   rw [tens_len] at a1 a2
   omega
theorem fcheckPolicy_wp (p : List Node) : Wp (fog_CheckPolicy p) (fun r => (PolOk p ∧ r = 0) ∨ (¬ PolOk p ∧ r = 53)) := by
 unfold fog_CheckPolicy
 by_cases hlen : 1 ≤ p.length ∧ p.length ≤ 31
 · have hw : fog_within ((p.length : Nat) : Int) 1 31 = true := fwithin_iff.2 (by omega)
   rw [hw]
   refine wp_false rfl ?_
   refine wp_range (fun i (s : Mp Bool) => (∀ j, j < i → NodeOk p j) ∧ (names (p.take i)).Nodup ∧ s.card = (names (p.take i)).length ∧ ∀ k, s.get k = if k ∈ names (p.take i) then some true else none) ⟨fun j hj => by omega, by simp [names], rfl, fun k => by simp [names, Mp.empty]⟩ (fun i s K hi hI hK => ?_) (fun s hI => ?_)
   · obtain ⟨I1, I2, I3, I4⟩ := hI
     have et := names_take (p := p) hi
     have sub : ∀ {P : Prop}, ((names (p.take (i + 1))).Nodup → P) → ((names p).Nodup → P) := fun h hn => h (by
       have e : names p = names (p.take (i + 1)) ++ names (p.drop (i + 1)) := by unfold names; rw [← List.flatMap_append, List.take_append_drop]
       rw [e] at hn
       exact (List.nodup_append.1 hn).1)
     refine wp_joinU (wp_bind (fisNode_wp p i hi hlen.2) (fun b hb => wp_bif (fun h => wp_some (.inr ⟨fun V => ?_, rfl⟩)) (fun h => ?_)))
     · have := hb.2 (V.node i hi); rw [this] at h; cases h
     · have hN : NodeOk p i := hb.1 (by simpa using h)
       have I1' : ∀ j, j < i + 1 → NodeOk p j := fun j hj => by
         by_cases e : j = i
         · rw [e]; exact hN
         · exact I1 j (by omega)
       have en : p.getD i default = nd p i := rfl
       simp only [en]
       refine wp_bif (fun ht => hK _ ⟨I1', ?_⟩) (fun ht => ?_)
       · have e2 : nm (nd p i) = [] := by unfold nm; rw [if_neg (by simpa using ht)]
         rw [et, e2, List.append_nil]
         exact ⟨I2, I3, I4⟩
       · have e2 : nm (nd p i) = fol3 (nd p i) := by unfold nm; rw [if_pos (by simpa using ht)]
         show Wp (rangeGo _ _ (fol3 (nd p i)).length 0 s) _
         refine wp_range (fun m (s : Mp Bool) => (names (p.take i) ++ (fol3 (nd p i)).take m).Nodup ∧ s.card = (names (p.take i) ++ (fol3 (nd p i)).take m).length ∧ ∀ k, s.get k = if k ∈ names (p.take i) ++ (fol3 (nd p i)).take m then some true else none) (by rw [List.take_zero, List.append_nil]; exact ⟨I2, I3, I4⟩) (fun m s K2 hm hJ hK2 => ?_) (fun s hJ => hK _ ⟨I1', ?_⟩)
         · obtain ⟨J1, J2, J3⟩ := hJ
           have eL : ([(nd p i).Yes, (nd p i).No, (nd p i).Maybe] : List Int) = fol3 (nd p i) := rfl
           simp only [eL]
           generalize hx : (fol3 (nd p i)).getD m default = x
           have e3 : (fol3 (nd p i)).take (m + 1) = (fol3 (nd p i)).take m ++ [x] := by rw [take_getD hm, hx]
           by_cases hmem : x ∈ names (p.take i) ++ (fol3 (nd p i)).take m
           · refine wp_true (by rw [J3, if_pos hmem]; rfl) (wp_some (.inr ⟨fun V => ?_, rfl⟩))
             refine sub (P := False) (fun hn => ?_) V.nodup
             rw [et, e2, ← List.take_append_drop (m + 1) (fol3 (nd p i)), e3, ← List.append_assoc, ← List.append_assoc, List.nodup_append] at hn
             have hn1 := List.nodup_append.1 hn.1
             exact hn1.2.2 x hmem x (List.mem_singleton.2 rfl) rfl
           · refine wp_false (by rw [J3, if_neg hmem]; rfl) (hK2 _ ?_)
             rw [e3, ← List.append_assoc]
             refine ⟨?_, ?_, fun k => ?_⟩
             · rw [List.nodup_append]
               refine ⟨J1, by simp, fun a ha b hb => ?_⟩
               rw [List.mem_singleton] at hb
               intro e; rw [e, hb] at ha; exact hmem ha
             · unfold Mp.set
               simp only
               rw [J3, if_neg hmem, List.length_append, J2]; rfl
             · unfold Mp.set
               simp only
               by_cases hk : k = x
               · rw [if_pos hk, if_pos (by rw [hk]; simp)]
               · rw [if_neg hk, J3]
                 by_cases h4 : k ∈ names (p.take i) ++ (fol3 (nd p i)).take m
                 · rw [if_pos h4, if_pos (List.mem_append_left _ h4)]
                 · rw [if_neg h4, if_neg (fun h5 => by
                     rcases List.mem_append.1 h5 with h5 | h5
                     · exact h4 h5
                     · exact hk (List.mem_singleton.1 h5))]
         · rw [List.take_length] at hJ
           rw [et, e2]
           exact hJ
   · obtain ⟨I1, I2, I3, I4⟩ := hI
     rw [List.take_length] at I2 I3
     refine wp_mustI (by omega) (wp_ifn (fun h => wp_some (.inr ⟨fun V => ?_, rfl⟩)) (fun h => wp_some (.inl ⟨⟨hlen, I1, I2, by omega⟩, rfl⟩)))
     have := V.count; omega
 · have hw : fog_within ((p.length : Nat) : Int) 1 31 = false := Bool.eq_false_iff.2 (fun h => by have := fwithin_iff.1 h; omega)
   rw [hw]
   exact wp_true rfl (wp_some (.inr ⟨fun V => hlen V.len, rfl⟩))
theorem fpol_ok {p : List Node} (h : PolOk p) : fog_CheckPolicy p = some 0 := by
 obtain ⟨r, e, k⟩ := fcheckPolicy_wp p
 rcases k with ⟨_, k⟩ | ⟨k, _⟩
 · rw [e, k]
 · exact absurd h k
theorem fpol_bad {p : List Node} (h : ¬ PolOk p) : fog_CheckPolicy p = some 53 := by
 obtain ⟨r, e, k⟩ := fcheckPolicy_wp p
 rcases k with ⟨k, _⟩ | ⟨_, k⟩
 · exact absurd k h
 · rw [e, k]
theorem rcheckPolicy_wp {fuel : Nat} (p : List Node) (hf : 40 < fuel) : Wp (gasolierref05_CheckPolicy fuel p) (fun r => (PolOk p ∧ r = 0) ∨ (¬ PolOk p ∧ r = 53)) := by
 unfold gasolierref05_CheckPolicy
 by_cases hlen : 1 ≤ p.length ∧ p.length ≤ 31
 · have hw : gasolierref05_In ((p.length : Nat) : Int) 1 31 = true := rin_iff.2 (by omega)
   rw [hw]
   refine wp_false rfl (wp_must (by unfold room; omega) ?_)
   refine wp_for p.length (by omega) (fun i (s : List Int) => s.length = p.length ∧ (∀ j, j < i → NodeOk p j) ∧ ∀ j : Nat, j < p.length → s.getD j default = ((names (p.take i)).count (j : Int) : Nat)) ⟨by simp, fun j hj => by omega, fun j hj => (getD_replicate p.length j (0 : Int)).trans (by simp [names])⟩ (fun i s K hi hI hK => ?_)
   obtain ⟨I0, I1, I2⟩ := hI
   refine wp_ifd (fun hlt => ?_) (fun hge => ?_)
   · have hi' : i < p.length := by simp only at hlt; omega
     have et := names_take (p := p) hi'
     have en : p.getD i default = nd p i := rfl
     refine wp_join (fun s' : List Int => NodeOk p i ∧ s'.length = p.length ∧ ∀ j : Nat, j < p.length → s'.getD j default = ((names (p.take (i + 1))).count (j : Int) : Nat)) (fun K2 hK2 => ?_) (fun s' hs' => ?_)
     · refine wp_must (by simp only; omega) ?_
       simp only [Int.toNat_natCast, en]
       refine wp_bif (fun ht => ?_) (fun ht => ?_)
       · have ht : (nd p i).Test = false := by simpa using ht
         refine wp_bind (risLeaf_eq (nd p i) (by omega)) (fun b hb => wp_bif (fun h => wp_some (.inr ⟨fun V => ?_, rfl⟩)) (fun h => hK2 _ ⟨⟨fun _ => hb.1 (by simpa using h), fun h => by rw [ht] at h; cases h⟩, I0, ?_⟩))
         · have := hb.2 ((V.node i hi').1 ht); rw [this] at h; cases h
         · have e2 : nm (nd p i) = [] := by unfold nm; rw [if_neg (by simp [ht])]
           rw [et, e2, List.append_nil]; exact I2
       · have ht : (nd p i).Test = true := by simpa using ht
         have e2 : nm (nd p i) = fol3 (nd p i) := by unfold nm; rw [if_pos ht]
         refine wp_bif (fun hb => wp_some (.inr ⟨fun V => ?_, rfl⟩)) (fun hb => ?_)
         · obtain ⟨⟨h1, h2, h3, h4⟩, _⟩ := (V.node i hi').2 ht
           simp only [Bool.or_eq_true, decide_eq_true_eq, Bool.not_eq_true', ← Bool.not_eq_true, rin_iff] at hb
           rcases hb with ((hb | hb) | hb) | hb
           · exact absurd h1 hb
           · exact absurd h2 hb
           · exact absurd h3 hb
           · omega
         · simp only [Bool.or_eq_false_iff, Bool.not_eq_false', decide_eq_false_iff_not, rin_iff] at hb
           have hH : TestHead (nd p i) := ⟨hb.1.1.1, hb.1.1.2, hb.1.2, by omega⟩
           have eL : ([(gasolierref05_follows (nd p i)).x0, (gasolierref05_follows (nd p i)).x1, (gasolierref05_follows (nd p i)).x2] : List Int) = fol3 (nd p i) := rfl
           simp only [eL]
           refine wp_for 3 (by omega) (fun m (s' : List Int) => s'.length = p.length ∧ (∀ j, j < m → NextOk p i (nd p i) ((fol3 (nd p i)).getD j 0)) ∧ ∀ j : Nat, j < p.length → s'.getD j default = ((names (p.take i) ++ (fol3 (nd p i)).take m).count (j : Int) : Nat)) ⟨I0, fun j hj => by omega, by rw [List.take_zero, List.append_nil]; exact I2⟩ (fun m s' K3 hm hJ hK3 => ?_)
           obtain ⟨J0, J1, J2⟩ := hJ
           refine wp_ifd (fun hlt3 => ?_) (fun hge3 => ?_)
           · have hm' : m < 3 := by simp only at hlt3; omega
             simp only [Int.toNat_natCast, Nat.zero_add, Nat.mul_one]
             have hm3 : m < (fol3 (nd p i)).length := hm'
             have ex0 : (fol3 (nd p i)).getD m default = (fol3 (nd p i)).getD m 0 := rfl
             have hxm : (fol3 (nd p i)).getD m 0 ∈ fol3 (nd p i) := getD_mem (l := fol3 (nd p i)) hm3
             have e3 : (fol3 (nd p i)).take (m + 1) = (fol3 (nd p i)).take m ++ [(fol3 (nd p i)).getD m 0] := take_getD hm3
             have e0 := nextOk_dec (p := p) (i := i) (n := nd p i) (k := (fol3 (nd p i)).getD m 0)
             generalize hx : (fol3 (nd p i)).getD m 0 = x at hxm e3 e0
             refine wp_must (by omega) (wp_mustI (by omega) (wp_mustI (by omega) (wp_must (fun _ => by omega) (wp_must (fun h => ?_) (wp_must (fun _ => by omega) (wp_must (fun h => ?_) ?_))))))
             · simp only [Bool.not_not, rin_iff] at h; omega
             · simp only [Bool.not_not, Bool.and_eq_true, rin_iff] at h; omega
             · refine wp_bif (fun h => wp_some (.inr ⟨fun V => ?_, rfl⟩)) (fun h => ?_)
               · have hn := ((V.node i hi').2 ht).2 x hxm
                 rw [decide_eq_true hn] at e0
                 change ((!(fog_within x ((i : Int) + 1) (((p.length : Nat) : Int) - 1))) || (((p.getD x.toNat default).Test) && (decide ((p.getD x.toNat default).Minute < (nd p i).Minute)))) = true at h
                 rw [h] at e0; cases e0
               · change ((!(fog_within x ((i : Int) + 1) (((p.length : Nat) : Int) - 1))) || (((p.getD x.toNat default).Test) && (decide ((p.getD x.toNat default).Minute < (nd p i).Minute)))) = false at h
                 rw [h] at e0
                 have hn : NextOk p i (nd p i) x := by
                   have : decide (NextOk p i (nd p i) x) = true := by simpa using e0.symm
                   exact of_decide_eq_true this
                 have hx1 := hn.1
                 have hxl : x.toNat < s'.length := by omega
                 have ev : s'.getD x.toNat default = ((names (p.take i) ++ (fol3 (nd p i)).take m).count ((x.toNat : Nat) : Int) : Nat) := J2 x.toNat (by omega)
                 have hcl : (names (p.take i) ++ (fol3 (nd p i)).take m).count ((x.toNat : Nat) : Int) ≤ 1000 := by
                   refine Nat.le_trans List.count_le_length ?_
                   rw [List.length_append]
                   have a1 : ∀ (q : List Node), (names q).length ≤ 3 * q.length := by
                     intro q
                     induction q with
                     | nil => simp [names]
                     | cons y q ih =>
                       have : names (y :: q) = nm y ++ names q := rfl
                       rw [this, List.length_append, List.length_cons]
                       have : (nm y).length ≤ 3 := by unfold nm; split <;> simp [fol3]
                       omega
                   have a2 := a1 (p.take i)
                   have a3 : ((fol3 (nd p i)).take m).length ≤ 3 := by rw [List.length_take]; simp [fol3]; omega
                   have a4 : (p.take i).length ≤ 31 := by rw [List.length_take]; omega
                   omega
                 refine wp_must (by omega) (wp_must (by omega) (wp_mustI (by rw [ev]; omega) (wp_must (by omega) (wp_mustI (by omega) ?_))))
                 refine hK3 _ hm' ⟨by rw [List.length_set]; exact J0, fun j hj => ?_, fun j hj => ?_⟩
                 · by_cases e : j = m
                   · subst e; rw [hx]; exact hn
                   · exact J1 j (by omega)
                 · rw [getD_set _ _ _ _ _ hxl, e3, ← List.append_assoc, List.count_append]
                   by_cases e : j = x.toNat
                   · rw [if_pos e, ev, e]
                     have : ((x.toNat : Nat) : Int) = x := by omega
                     rw [this]; simp
                   · rw [if_neg e, J2 j hj]
                     have : List.count (j : Int) [x] = 0 := by
                       rw [List.count_eq_zero]
                       intro h; rw [List.mem_singleton] at h; omega
                     rw [this]; rfl
           · have hm' : m = 3 := by simp only at hge3; omega
             subst hm'
             refine hK2 _ ⟨⟨fun h => (by rw [ht] at h; cases h), fun _ => ⟨hH, fun k hk => ?_⟩⟩, J0, ?_⟩
             · obtain ⟨j, hj, e⟩ := mem_getD hk
               rw [← e]; exact J1 j hj
             · rw [et, e2]; exact J2
     · refine wp_mustI (by simp only; omega) (hK _ hi' ⟨hs'.2.1, fun j hj => ?_, hs'.2.2⟩)
       by_cases e : j = i
       · rw [e]; exact hs'.1
       · exact I1 j (by omega)
   · have hie : i = p.length := by simp only at hge; omega
     subst hie
     rw [List.take_length] at I2
     have hiff := names_iff hlen.1 I1
     refine wp_loop (fun (s5 : Int) => ∃ j : Nat, s5 = (j : Int) ∧ 1 ≤ j ∧ j ≤ p.length ∧ ∀ k : Nat, 1 ≤ k → k < j → (names p).count (k : Int) = 1) (fun s5 => p.length - s5.toNat) (by omega) ⟨1, rfl, by omega, hlen.1, fun k h1 h2 => by omega⟩ ?_
     rintro s5 K5 ⟨j, rfl, j1, j2, J⟩ hK5
     refine wp_ifd (fun hlt => ?_) (fun hge => wp_some (.inl ⟨?_, rfl⟩))
     · have hj' : j < p.length := by omega
       refine wp_must (by simp only; omega) ?_
       simp only [Int.toNat_natCast, I2 j hj']
       refine wp_ifn (fun h => wp_some (.inr ⟨fun V => ?_, rfl⟩)) (fun h => ?_)
       · have := hiff.1 ⟨V.nodup, V.count⟩ j j1 hj'
         rw [this] at h; exact h rfl
       · refine wp_mustI (by omega) (hK5 _ ⟨j + 1, by simp, by omega, by omega, fun k h1 h2 => ?_⟩ (by omega))
         by_cases e : k = j
         · rw [e]; omega
         · exact J k h1 (by omega)
     · have := hiff.2 (fun k h1 h2 => J k h1 (by omega))
       exact ⟨hlen, I1, this.1, this.2⟩
 · have hw : gasolierref05_In ((p.length : Nat) : Int) 1 31 = false := Bool.eq_false_iff.2 (fun h => by have := rin_iff.1 h; omega)
   rw [hw]
   exact wp_true rfl (wp_some (.inr ⟨fun V => hlen V.len, rfl⟩))
theorem rpol_ok {fuel : Nat} {p : List Node} (hf : 40 < fuel) (h : PolOk p) : gasolierref05_CheckPolicy fuel p = some 0 := by
 obtain ⟨r, e, k⟩ := rcheckPolicy_wp p hf
 rcases k with ⟨_, k⟩ | ⟨k, _⟩
 · rw [e, k]
 · exact absurd h k
theorem rpol_bad {fuel : Nat} {p : List Node} (hf : 40 < fuel) (h : ¬ PolOk p) : gasolierref05_CheckPolicy fuel p = some 53 := by
 obtain ⟨r, e, k⟩ := rcheckPolicy_wp p hf
 rcases k with ⟨k, _⟩ | ⟨_, k⟩
 · exact absurd k h
 · rw [e, k]
end Go.Sp
end
/- Plain laws, fog: where a policy comes to, and where it still may. No program in sight. -/
section
set_option linter.all false
namespace Go.Sp
open Go.Av
set_option maxRecDepth 100000
def tellL (n : Node) (l : List Report) (night m : Int) : Int :=
 if (pairL (seeL l n.District night m)).isSome then 2 else fog_below (sightL (seeL l n.District night m) n.Minute) n.Limit
theorem tellL_vals (n : Node) (l : List Report) (night m : Int) : tellL n l night m = 0 ∨ tellL n l night m = 1 ∨ tellL n l night m = 2 := by
 unfold tellL
 split
 · exact .inr (.inr rfl)
 · rcases below_vals (sightL (seeL l n.District night m) n.Minute) n.Limit with h | h | h
   · exact .inr (.inl h.1)
   · exact .inl h.1
   · exact .inr (.inr h.1)
theorem ftell_eq {fuel : Nat} (n : Node) (l : List Report) (night m : Int) (hl : l.length ≤ 60) (hf : 61 < fuel) : fog_tell fuel n l night m = some (tellL n l night m) := by
 unfold fog_tell
 have hle : (seeL l n.District night m).length ≤ 60 := Nat.le_trans (List.length_filter_le _ _) hl
 refine Wp.eq (wp_bindE (fsee_eq fuel l _ _ _ hl (by omega)) (wp_bindE (fpair_eq _ (by omega)) ?_))
 unfold tellL
 rw [pairR_two]
 cases (pairL (seeL l n.District night m)).isSome
 · exact wp_false rfl (wp_bindE (fsight_eq _ _) (wp_some rfl))
 · exact wp_true rfl (wp_some rfl)
theorem rtells_eq {fuel : Nat} (n : Node) (l : List Report) (a : gasolierref05_At) (hl : l.length ≤ 60) (hf : 61 < fuel) : gasolierref05_tells fuel n l a = some (tellL n l a.Night a.Moment) := by
 unfold gasolierref05_tells
 have hle : (seeL l n.District a.Night a.Moment).length ≤ 60 := Nat.le_trans (List.length_filter_le _ _) hl
 refine Wp.eq (wp_bindE (rof_eq l _ hl hf) (wp_bindE (rclash_eq _ hle hf) ?_))
 simp only
 unfold tellL pairR
 cases pairL (seeL l n.District a.Night a.Moment) with
 | none => exact wp_false (by simp) (wp_bindE (rsight_eq _ _ hle hf) (wp_some rfl))
 | some x => exact wp_true (by simp) (wp_some rfl)
def nextL (n : Node) (a : Int) : Int := if a = 1 then n.Yes else if a = 0 then n.No else n.Maybe
theorem fnext_eq (n : Node) {a : Int} (h : a = 0 ∨ a = 1 ∨ a = 2) : ((fog_next n).get a).getD default = nextL n a := by
 rcases h with rfl | rfl | rfl <;> rfl
theorem rnext_eq (n : Node) (a : Int) : gasolierref05_next n a = nextL n a := by
 unfold gasolierref05_next nextL
 by_cases h : a = 1
 · rw [decide_eq_true h, if_pos h]; rfl
 · rw [decide_eq_false h, if_neg h]
   by_cases h0 : a = 0
   · rw [decide_eq_true h0, if_pos h0]; rfl
   · rw [decide_eq_false h0, if_neg h0]; rfl
theorem next_mem (n : Node) (a : Int) : nextL n a ∈ fol3 n := by
 unfold nextL fol3
 split
 · simp
 · split <;> simp
def stamp (night : Int) (n : Node) : Int := night * 1440 + n.Minute
theorem stamp_eq {night : Int} {n : Node} (h : 0 ≤ night ∧ night ≤ 100000) (hm : 0 ≤ n.Minute ∧ n.Minute ≤ 1439) : fog_moment night n.Minute = some (stamp night n) := by
 unfold fog_moment stamp
 exact (must_yes (by unfold inI; omega) _).trans (must_yes (by unfold inI; omega) _)
theorem rstamp_eq {night : Int} {n : Node} (h : 0 ≤ night ∧ night ≤ 100000) (hm : 0 ≤ n.Minute ∧ n.Minute ≤ 1439) : gasolierref05_momentOf n night = some (stamp night n) := by
 unfold gasolierref05_momentOf stamp
 exact (must_yes (by unfold inI; omega) _).trans (must_yes (by unfold inI; omega) _)
theorem pol_test {p : List Node} (V : PolOk p) {i : Int} (h0 : 0 ≤ i) (h1 : i < p.length) (ht : (nd p i.toNat).Test = true) : TestHead (nd p i.toNat) ∧ ∀ k ∈ fol3 (nd p i.toNat), i + 1 ≤ k ∧ k ≤ (p.length : Int) - 1 ∧ ((nd p k.toNat).Test = true → (nd p i.toNat).Minute ≤ (nd p k.toNat).Minute) := by
 have := (V.node i.toNat (by omega)).2 ht
 refine ⟨this.1, fun k hk => ?_⟩
 have h := this.2 k hk
 unfold NextOk at h
 have e : ((i.toNat : Nat) : Int) = i := by omega
 rw [e] at h
 exact ⟨h.1.1, h.1.2, h.2⟩
theorem pol_one {p : List Node} (V : PolOk p) {i j : Int} (hi : 0 ≤ i ∧ i < p.length) (hj : 0 ≤ j ∧ j < p.length) (ti : (nd p i.toNat).Test = true) (tj : (nd p j.toNat).Test = true) {k : Int} (h1 : k ∈ fol3 (nd p i.toNat)) (h2 : k ∈ fol3 (nd p j.toNat)) : i = j := by
 have hn := V.nodup
 unfold names at hn
 rw [List.Nodup, List.pairwise_flatMap] at hn
 have key : ∀ {a b : Nat}, a < b → b < p.length → (nd p a).Test = true → (nd p b).Test = true → k ∈ fol3 (nd p a) → k ∈ fol3 (nd p b) → False := by
   intro a b hab hb ta tb ka kb
   have := List.pairwise_iff_getElem.1 hn.2 a b (by omega) hb hab
   have ea : p[a] = nd p a := by unfold nd; simp [List.getElem?_eq_getElem (show a < p.length by omega)]
   have eb : p[b] = nd p b := by unfold nd; simp [List.getElem?_eq_getElem hb]
   rw [ea, eb] at this
   refine this k (by unfold nm; rw [if_pos ta]; exact ka) k (by unfold nm; rw [if_pos tb]; exact kb) rfl
 rcases Nat.lt_trichotomy i.toNat j.toNat with h | h | h
 · exact (key h (by omega) ti tj h1 h2).elim
 · omega
 · exact (key h (by omega) tj ti h2 h1).elim
theorem fol_nodup {p : List Node} (V : PolOk p) {i : Int} (h0 : 0 ≤ i) (h1 : i < p.length) (ht : (nd p i.toNat).Test = true) : (fol3 (nd p i.toNat)).Nodup := by
 have hn := V.nodup
 unfold names at hn
 rw [List.Nodup, List.pairwise_flatMap] at hn
 have := hn.1 (nd p i.toNat) (getD_mem (by omega))
 unfold nm at this
 rw [if_pos ht] at this
 exact this
def stp (p : List Node) (l : List Report) (night i : Int) : Int := nextL (nd p i.toNat) (tellL (nd p i.toNat) l night (stamp night (nd p i.toNat)))
def pathL (p : List Node) (l : List Report) (night : Int) : Nat → Int → List Int
 | 0, _ => []
 | k + 1, i => if (nd p i.toNat).Test then stp p l night i :: pathL p l night k (stp p l night i) else []
theorem pathL_len (p : List Node) (l : List Report) (night : Int) : ∀ (k : Nat) (i : Int), (pathL p l night k i).length ≤ k
 | 0, _ => Nat.le_refl _
 | k + 1, i => by
   unfold pathL
   split
   · have := pathL_len p l night k (stp p l night i); simp only [List.length_cons]; omega
   · simp
theorem pathL_more {p : List Node} {l : List Report} {night : Int} (V : PolOk p) : ∀ (k k' : Nat) (i : Int), 0 ≤ i → i < p.length → p.length - i.toNat ≤ k → p.length - i.toNat ≤ k' → pathL p l night k i = pathL p l night k' i
 | 0, k', i, h0, h1, hk, hk' => by omega
 | k + 1, 0, i, h0, h1, hk, hk' => by omega
 | k + 1, k' + 1, i, h0, h1, hk, hk' => by
   unfold pathL
   by_cases ht : (nd p i.toNat).Test = true
   · rw [if_pos ht, if_pos ht]
     have := (pol_test V h0 h1 ht).2 _ (next_mem (nd p i.toNat) (tellL (nd p i.toNat) l night (stamp night (nd p i.toNat))))
     rw [pathL_more V k k' (stp p l night i) (by unfold stp; omega) (by unfold stp; omega) (by unfold stp; omega) (by unfold stp; omega)]
   · rw [if_neg ht, if_neg ht]
def pathF (p : List Node) (l : List Report) (night : Int) : List Int := 0 :: pathL p l night p.length 0
theorem path_loop {fuel : Nat} {p : List Node} {l : List Report} {night : Int} (V : PolOk p) {body : (Int × List Int) → ((Int × List Int) → Option (List Int)) → Option (List Int)} {P : List Int → Prop} (hf : 31 < fuel)
   (hb : ∀ (i : Int) (out : List Int) K, 0 ≤ i → i < p.length → out.length ≤ 31 → ((nd p i.toNat).Test = true → TestHead (nd p i.toNat) → Wp (K (stp p l night i, out ++ [stp p l night i])) P) → ((nd p i.toNat).Test = false → P out) → Wp (body (i, out) K) P) (hP : P (pathF p l night)) : Wp (loopGo body fuel (0, [0])) P := by
 refine wp_loop (fun s => 0 ≤ s.1 ∧ s.1 < p.length ∧ s.2 ++ pathL p l night (p.length - s.1.toNat) s.1 = pathF p l night ∧ s.2.length + (p.length - s.1.toNat) ≤ p.length + 1) (fun s => p.length - s.1.toNat) (by have := V.len; simp only; omega) ⟨by simp, by have := V.len; simp only; omega, rfl, by simp; omega⟩ ?_
 rintro ⟨i, out⟩ K ⟨h0, h1, h2, h3⟩ hK
 simp only at h0 h1 h2 h3 hK
 have hlen := V.len
 refine hb i out K h0 h1 (by omega) (fun ht hh => ?_) (fun ht => ?_)
 · have hn := (pol_test V h0 h1 ht).2 _ (next_mem (nd p i.toNat) (tellL (nd p i.toNat) l night (stamp night (nd p i.toNat))))
   have hs : i + 1 ≤ stp p l night i ∧ stp p l night i ≤ (p.length : Int) - 1 := ⟨hn.1, hn.2.1⟩
   refine hK _ ⟨by omega, by omega, ?_, by simp only [List.length_append, List.length_cons, List.length_nil]; omega⟩ (by omega)
   have e : p.length - i.toNat = (p.length - i.toNat - 1) + 1 := by omega
   rw [e] at h2
   unfold pathL at h2
   rw [if_pos ht] at h2
   rw [← h2, List.append_assoc, List.singleton_append, pathL_more V (p.length - (stp p l night i).toNat) (p.length - i.toNat - 1) _ (by omega) (by omega) (by omega) (by omega)]
 · have e : p.length - i.toNat = (p.length - i.toNat - 1) + 1 := by omega
   rw [e] at h2
   unfold pathL at h2
   rw [if_neg (by rw [ht]; simp), List.append_nil] at h2
   rw [h2]; exact hP
theorem fpath_eq {fuel : Nat} {p : List Node} {l : List Report} {night : Int} (V : PolOk p) (hl : l.length ≤ 60) (hn : 0 ≤ night ∧ night ≤ 100000) (hf : 61 < fuel) : fog_path fuel p l night = some (pathF p l night) := by
 unfold fog_path
 refine Wp.eq (path_loop V (l := l) (night := night) (by omega) (fun i out K h0 h1 ho hK hE => ?_) rfl)
 simp only
 refine wp_must (by omega) ?_
 have en : p.getD i.toNat default = nd p i.toNat := rfl
 simp only [en]
 refine wp_bif (fun ht => ?_) (fun ht => wp_some (hE ht))
 have hh := (pol_test V h0 h1 ht).1
 refine wp_must (by omega) (wp_must (by omega) (wp_must (by omega) (wp_bindE (stamp_eq hn hh.2.1) (wp_bindE (ftell_eq _ _ _ _ hl hf) ?_))))
 rw [fnext_eq _ (tellL_vals _ _ _ _)]
 exact wp_mustR (by simp; omega) (hK ht hh)
theorem rpath_eq {fuel : Nat} {p : List Node} {l : List Report} {night : Int} (V : PolOk p) (hl : l.length ≤ 60) (hn : 0 ≤ night ∧ night ≤ 100000) (hf : 61 < fuel) : gasolierref05_path fuel p l night = some (pathF p l night) := by
 unfold gasolierref05_path
 refine Wp.eq (path_loop V (l := l) (night := night) (by omega) (fun i out K h0 h1 ho hK hE => ?_) rfl)
 simp only
 refine wp_must (by omega) ?_
 have en : p.getD i.toNat default = nd p i.toNat := rfl
 simp only [en]
 refine wp_bif (fun ht => ?_) (fun ht => wp_some (hE ht))
 have hh := (pol_test V h0 h1 ht).1
 refine wp_must (by omega) (wp_must (by omega) (wp_must (by omega) (wp_bindE (rstamp_eq hn hh.2.1) (wp_bindE (rtells_eq _ _ _ hl hf) ?_))))
 rw [rnext_eq]
 exact wp_mustR (by simp; omega) (hK ht hh)
open Classical in
noncomputable def askR (p : List Node) (l : List Report) (night m : Int) : Int := if ¬ PolOk p then 53 else if ¬ RepsOk l then 51 else if ¬ (dayOk night m) then 6 else 0
theorem askR_zero {p : List Node} {l : List Report} {night m : Int} : askR p l night m = 0 ↔ PolOk p ∧ RepsOk l ∧ dayOk night m := by
 unfold askR
 constructor
 · intro h
   split at h
   · cases h
   · split at h
     · cases h
     · split at h
       · cases h
       · next h1 h2 h3 => exact ⟨Classical.not_not.1 h1, Classical.not_not.1 h2, Classical.not_not.1 h3⟩
 · rintro ⟨h1, h2, h3⟩
   rw [if_neg (fun h => h h1), if_neg (fun h => h h2), if_neg (fun h => h h3)]
theorem fasked_eq (p : List Node) (l : List Report) (night m : Int) : fog_asked p l night m = some (askR p l night m) := by
 unfold fog_asked askR
 refine Wp.eq ?_
 by_cases h1 : PolOk p
 · rw [if_neg (fun h => h h1)]
   refine wp_bindE (fpol_ok h1) (wp_false rfl ?_)
   by_cases h2 : RepsOk l
   · rw [if_neg (fun h => h h2)]
     refine wp_bindE (fcheck_ok h2) (wp_false rfl ?_)
     refine wp_bif (fun hb => ?_) (fun hb => ?_)
     · rw [if_pos (fun h3 : dayOk night m => ?_)]
       · exact wp_some rfl
       · unfold fog_isNight fog_isMoment at hb
         unfold dayOk at h3
         rw [fwithin_iff.2 (by omega), fwithin_iff.2 (by omega)] at hb
         cases hb
     · have h3 : dayOk night m := by
         unfold fog_isNight fog_isMoment at hb
         simp only [Bool.or_eq_false_iff, Bool.not_eq_false', fwithin_iff] at hb
         unfold dayOk; omega
       rw [if_neg (fun h => h h3)]
       exact wp_some rfl
   · rw [if_pos h2]
     exact wp_bindE (fcheck_bad h2) (wp_true rfl (wp_some rfl))
 · rw [if_pos h1]
   exact wp_bindE (fpol_bad h1) (wp_true rfl (wp_some rfl))
theorem rvalid_eq {fuel : Nat} (p : List Node) (l : List Report) (a : gasolierref05_At) (hf : 61 < fuel) : gasolierref05_valid fuel p l a = some (askR p l a.Night a.Moment) := by
 unfold gasolierref05_valid askR
 refine Wp.eq ?_
 by_cases h1 : PolOk p
 · rw [if_neg (fun h => h h1)]
   refine wp_bindE (rpol_ok (by omega) h1) (wp_false rfl ?_)
   by_cases h2 : RepsOk l
   · rw [if_neg (fun h => h h2)]
     refine wp_bindE (rcheck_ok hf h2) (wp_false rfl ?_)
     refine wp_bif (fun hb => ?_) (fun hb => ?_)
     · rw [if_pos (fun h3 : dayOk a.Night a.Moment => ?_)]
       · exact wp_some rfl
       · unfold gasolierref05_isMoment at hb
         unfold dayOk at h3
         rw [rin_iff.2 (by omega), rin_iff.2 (by omega)] at hb
         cases hb
     · have h3 : dayOk a.Night a.Moment := by
         unfold gasolierref05_isMoment at hb
         simp only [Bool.or_eq_false_iff, Bool.not_eq_false', rin_iff] at hb
         unfold dayOk; omega
       rw [if_neg (fun h => h h3)]
       exact wp_some rfl
   · rw [if_pos h2]
     exact wp_bindE (rcheck_bad hf h2) (wp_true rfl (wp_some rfl))
 · rw [if_pos h1]
   exact wp_bindE (rpol_bad (by omega) h1) (wp_true rfl (wp_some rfl))
noncomputable def pathR (p : List Node) (l : List Report) (night : Int) : List Int × Int := if askR p l night 0 ≠ 0 then ([], askR p l night 0) else (pathF p l night, 0)
theorem fPath_eq {fuel : Nat} (p : List Node) (l : List Report) (night : Int) (hf : 61 < fuel) : fog_Path fuel p l night = some (pathR p l night) := by
 unfold fog_Path pathR
 refine Wp.eq (wp_bindE (fasked_eq p l night 0) (wp_ifn (fun h => ?_) (fun h => ?_)))
 · rw [if_pos h]; exact wp_some rfl
 · rw [if_neg (by simp [h])]
   obtain ⟨V, R, D⟩ := askR_zero.1 h
   exact wp_bindE (fpath_eq V R.len ⟨D.1, D.2.1⟩ hf) (wp_some rfl)
theorem rPath_eq {fuel : Nat} (p : List Node) (l : List Report) (night : Int) (hf : 61 < fuel) : gasolierref05_Path fuel p l night = some (pathR p l night) := by
 unfold gasolierref05_Path pathR
 refine Wp.eq (wp_bindE (rvalid_eq p l _ hf) (wp_ifn (fun h => ?_) (fun h => ?_)))
 · rw [if_pos h]; exact wp_some rfl
 · rw [if_neg (by simp [h])]
   obtain ⟨V, R, D⟩ := askR_zero.1 h
   exact wp_bindE (rpath_eq V R.len ⟨D.1, D.2.1⟩ hf) (wp_some rfl)
def leafL (p : List Node) (n : Nat) : List Int := ((List.range n).filter (fun j => !(nd p j).Test)).map (fun j : Nat => (j : Int))
theorem leafL_succ (p : List Node) (n : Nat) : leafL p (n + 1) = leafL p n ++ (if (nd p n).Test then [] else [(n : Int)]) := by
 unfold leafL
 rw [List.range_succ, List.filter_append, List.map_append]
 congr 1
 cases h : (nd p n).Test <;> simp [h]
theorem leafL_len (p : List Node) (n : Nat) : (leafL p n).length ≤ n := by
 unfold leafL
 rw [List.length_map]
 exact Nat.le_trans (List.length_filter_le _ _) (by simp)
open Classical in
noncomputable def leavesR (p : List Node) : List Int × Int := if ¬ PolOk p then ([], 53) else (leafL p p.length, 0)
theorem fLeaves_eq (p : List Node) : fog_Leaves p = some (leavesR p) := by
 unfold fog_Leaves leavesR
 refine Wp.eq ?_
 by_cases h1 : PolOk p
 · rw [if_neg (fun h => h h1)]
   refine wp_bindE (fpol_ok h1) (wp_false rfl ?_)
   have hlen := h1.len
   refine wp_range (fun i s => s = leafL p i) rfl (fun i s K hi hI hK => ?_) (fun s hI => wp_some (by rw [hI]))
   have e := leafL_succ p i
   have hll := leafL_len p i
   have en : p.getD i default = nd p i := rfl
   rw [en]
   refine wp_bif (fun ht => wp_mustR (by rw [hI]; simp; omega) (hK _ ?_)) (fun ht => hK _ ?_)
   · rw [e, hI, if_neg (by simpa using ht)]
   · rw [e, hI, if_pos (by simpa using ht), List.append_nil]
 · rw [if_pos h1]
   exact wp_bindE (fpol_bad h1) (wp_true rfl (wp_some rfl))
theorem rLeaves_eq {fuel : Nat} (p : List Node) (hf : 61 < fuel) : gasolierref05_Leaves fuel p = some (leavesR p) := by
 unfold gasolierref05_Leaves leavesR
 refine Wp.eq ?_
 by_cases h1 : PolOk p
 · rw [if_neg (fun h => h h1)]
   refine wp_bindE (rpol_ok (by omega) h1) (wp_false rfl ?_)
   have hlen := h1.len
   refine wp_for p.length (by omega) (fun i s => s = leafL p i) rfl (fun i s K hi hI hK => ?_)
   have e := leafL_succ p i
   have hll := leafL_len p i
   simp only [Int.toNat_natCast]
   have en : p.getD i default = nd p i := rfl
   rw [en]
   refine wp_ifd (fun hlt => wp_must (by omega) ?_) (fun hge => wp_some ?_)
   · refine wp_bif (fun ht => wp_mustR (by rw [hI]; simp; omega) (wp_mustI (by omega) (hK _ (by omega) ?_))) (fun ht => wp_mustI (by omega) (hK _ (by omega) ?_))
     · rw [e, hI, if_neg (by simpa using ht)]
     · rw [e, hI, if_pos (by simpa using ht), List.append_nil]
   · have : i = p.length := by omega
     rw [hI, this]
 · rw [if_pos h1]
   exact wp_bindE (rpol_bad (by omega) h1) (wp_true rfl (wp_some rfl))
def suc (p : List Node) (l : List Report) (night now i : Int) : List Int :=
 if (nd p i.toNat).Test then
   (if now < stamp night (nd p i.toNat) ∧ tellL (nd p i.toNat) l night (min (stamp night (nd p i.toNat)) now) = 2 then fol3 (nd p i.toNat)
    else [nextL (nd p i.toNat) (tellL (nd p i.toNat) l night (min (stamp night (nd p i.toNat)) now))]) else []
theorem suc_sub {p : List Node} {l : List Report} {night now i k : Int} (h : k ∈ suc p l night now i) : (nd p i.toNat).Test = true ∧ k ∈ fol3 (nd p i.toNat) := by
 unfold suc at h
 split at h
 · next ht =>
   refine ⟨ht, ?_⟩
   split at h
   · exact h
   · rw [List.mem_singleton] at h; rw [h]; exact next_mem _ _
 · cases h
theorem suc_in {p : List Node} (V : PolOk p) {l : List Report} {night now i k : Int} (hi : 0 ≤ i ∧ i < p.length) (h : k ∈ suc p l night now i) : i < k ∧ k < p.length := by
 obtain ⟨ht, hk⟩ := suc_sub h
 have := (pol_test V hi.1 hi.2 ht).2 k hk
 omega
theorem suc_nodup {p : List Node} (V : PolOk p) {l : List Report} {night now i : Int} (hi : 0 ≤ i ∧ i < p.length) : (suc p l night now i).Nodup := by
 unfold suc
 split
 · next ht =>
   split
   · exact fol_nodup V hi.1 hi.2 ht
   · simp
 · exact .nil
inductive Reach (S : Int → List Int) : Int → Int → Prop
 | refl (a : Int) : Reach S a a
 | step {a b c : Int} : Reach S a b → c ∈ S b → Reach S a c
theorem Reach.trans {S : Int → List Int} {a b c : Int} (h1 : Reach S a b) (h2 : Reach S b c) : Reach S a c := by
 induction h2 with
 | refl => exact h1
 | step _ h ih => exact ih.step h
theorem Reach.mono {S T : Int → List Int} (h : ∀ i k, k ∈ S i → k ∈ T i) {a b : Int} (hr : Reach S a b) : Reach T a b := by
 induction hr with
 | refl => exact .refl _
 | step _ hc ih => exact ih.step (h _ _ hc)
theorem reach_in {p : List Node} (V : PolOk p) {l : List Report} {night now a b : Int} (h : Reach (suc p l night now) a b) (h0 : 0 ≤ a) (h1 : a < p.length) : a ≤ b ∧ b < p.length := by
 induction h with
 | refl => omega
 | step _ hc ih => have := suc_in V ⟨by omega, ih.2⟩ hc; omega
theorem reach_or {p : List Node} (V : PolOk p) {l : List Report} {night now a b j : Int} (ha : 0 ≤ a ∧ a < p.length) (hb : 0 ≤ b ∧ b < p.length) (h1 : Reach (suc p l night now) a j) (h2 : Reach (suc p l night now) b j) : Reach (suc p l night now) a b ∨ Reach (suc p l night now) b a := by
 induction h1 with
 | refl => exact .inr h2
 | step ha1 hc ih =>
   rename_i c k
   cases h2 with
   | refl => exact .inl (ha1.step hc)
   | step hb1 hc2 =>
     rename_i c2
     have i1 := reach_in V ha1 ha.1 ha.2
     have i2 := reach_in V hb1 hb.1 hb.2
     obtain ⟨t1, m1⟩ := suc_sub hc
     obtain ⟨t2, m2⟩ := suc_sub hc2
     have e := pol_one V (i := c) (j := c2) ⟨by omega, i1.2⟩ ⟨by omega, i2.2⟩ t1 t2 m1 m2
     rw [← e] at hb1
     exact ih hb1
theorem reach_disj {p : List Node} (V : PolOk p) {l : List Report} {night now i a b j : Int} (hi : 0 ≤ i ∧ i < p.length) (ha : a ∈ suc p l night now i) (hb : b ∈ suc p l night now i) (hab : a ≠ b) (h1 : Reach (suc p l night now) a j) (h2 : Reach (suc p l night now) b j) : False := by
 have key : ∀ {a b : Int}, a ∈ suc p l night now i → b ∈ suc p l night now i → a ≠ b → Reach (suc p l night now) a b → False := by
   intro a b ha hb hab h
   have ia := suc_in V hi ha
   have ib := suc_in V hi hb
   cases h with
   | refl => exact hab rfl
   | step h3 h4 =>
     rename_i c
     have ic := reach_in V h3 (by omega) ia.2
     obtain ⟨t1, m1⟩ := suc_sub h4
     obtain ⟨t2, m2⟩ := suc_sub hb
     have := pol_one V (i := c) (j := i) ⟨by omega, ic.2⟩ hi t1 t2 m1 m2
     omega
 have ia := suc_in V hi ha
 have ib := suc_in V hi hb
 rcases reach_or V ⟨by omega, ia.2⟩ ⟨by omega, ib.2⟩ h1 h2 with h | h
 · exact key ha hb hab h
 · exact key hb ha (fun e => hab e.symm) h
def dfs (p : List Node) (l : List Report) (night now : Int) : Nat → Int → List Int
 | 0, _ => []
 | k + 1, i => if (nd p i.toNat).Test then (suc p l night now i).flatMap (dfs p l night now k) else [i]
theorem dfs_mem {p : List Node} (V : PolOk p) {l : List Report} {night now : Int} : ∀ (k : Nat) (i j : Int), 0 ≤ i → i < p.length → p.length - i.toNat ≤ k → (j ∈ dfs p l night now k i ↔ Reach (suc p l night now) i j ∧ (nd p j.toNat).Test = false)
 | 0, i, j, h0, h1, hk => by omega
 | k + 1, i, j, h0, h1, hk => by
   unfold dfs
   by_cases ht : (nd p i.toNat).Test = true
   · rw [if_pos ht, List.mem_flatMap]
     constructor
     · rintro ⟨a, ha, h⟩
       have ia := suc_in V ⟨h0, h1⟩ ha
       rw [dfs_mem V k a j (by omega) ia.2 (by omega)] at h
       exact ⟨((Reach.refl i).step ha).trans h.1, h.2⟩
     · rintro ⟨h, hl⟩
       have : i = j ∨ ∃ a, a ∈ suc p l night now i ∧ Reach (suc p l night now) a j := by
         clear hl hk
         induction h with
         | refl => exact .inl rfl
         | step h hc ih =>
           rename_i c d
           rcases ih with rfl | ⟨a, ha, h'⟩
           · exact .inr ⟨d, hc, .refl _⟩
           · exact .inr ⟨a, ha, h'.step hc⟩
       rcases this with rfl | ⟨a, ha, h'⟩
       · rw [ht] at hl; cases hl
       · have ia := suc_in V ⟨h0, h1⟩ ha
         exact ⟨a, ha, (dfs_mem V k a j (by omega) ia.2 (by omega)).2 ⟨h', hl⟩⟩
   · rw [if_neg ht, List.mem_singleton]
     constructor
     · rintro rfl; exact ⟨.refl _, by simpa using ht⟩
     · rintro ⟨h, hl⟩
       have : i = j ∨ ∃ a, a ∈ suc p l night now i := by
         clear hl hk
         induction h with
         | refl => exact .inl rfl
         | step h hc ih =>
           rcases ih with rfl | h'
           · exact .inr ⟨_, hc⟩
           · exact .inr h'
       rcases this with rfl | ⟨a, ha⟩
       · rfl
       · exact absurd (suc_sub ha).1 ht
theorem dfs_nodup {p : List Node} (V : PolOk p) {l : List Report} {night now : Int} : ∀ (k : Nat) (i : Int), 0 ≤ i → i < p.length → p.length - i.toNat ≤ k → (dfs p l night now k i).Nodup
 | 0, i, h0, h1, hk => by omega
 | k + 1, i, h0, h1, hk => by
   unfold dfs
   by_cases ht : (nd p i.toNat).Test = true
   · rw [if_pos ht, List.Nodup, List.pairwise_flatMap]
     refine ⟨fun a ha => ?_, ?_⟩
     · have ia := suc_in V ⟨h0, h1⟩ ha
       exact dfs_nodup V k a (by omega) ia.2 (by omega)
     · have hn := suc_nodup V (l := l) (night := night) (now := now) ⟨h0, h1⟩
       refine List.Pairwise.imp_of_mem (fun {a b} ha hb hab x hx y hy e => ?_) hn
       have ia := suc_in V ⟨h0, h1⟩ ha
       have ib := suc_in V ⟨h0, h1⟩ hb
       rw [← e] at hy
       exact reach_disj V ⟨h0, h1⟩ ha hb hab ((dfs_mem V k a x (by omega) ia.2 (by omega)).1 hx).1 ((dfs_mem V k b x (by omega) ib.2 (by omega)).1 hy).1
   · rw [if_neg ht]; simp
theorem dfs_some {p : List Node} (V : PolOk p) {l : List Report} {night now : Int} : ∀ (k : Nat) (i : Int), 0 ≤ i → i < p.length → p.length - i.toNat ≤ k → dfs p l night now k i ≠ []
 | 0, i, h0, h1, hk => by omega
 | k + 1, i, h0, h1, hk => by
   unfold dfs
   by_cases ht : (nd p i.toNat).Test = true
   · rw [if_pos ht]
     have : ∃ a, a ∈ suc p l night now i := by
       unfold suc
       rw [if_pos ht]
       split
       · exact ⟨_, next_mem _ 1⟩
       · exact ⟨_, List.mem_singleton.2 rfl⟩
     obtain ⟨a, ha⟩ := this
     have ia := suc_in V ⟨h0, h1⟩ ha
     have := dfs_some V (l := l) (night := night) (now := now) k a (by omega) ia.2 (by omega)
     intro e
     rw [List.flatMap_eq_nil_iff] at e
     exact this (e a ha)
   · rw [if_neg ht]; simp
theorem dfs_len {p : List Node} (V : PolOk p) {l : List Report} {night now : Int} {k : Nat} (hk : p.length ≤ k) : (dfs p l night now k 0).length ≤ 31 := by
 have hlen := V.len
 have h1 := dfs_nodup V (l := l) (night := night) (now := now) k 0 (by omega) (by omega) (by omega)
 have h2 := nodup_le h1 (r := (List.range p.length).map (fun j : Nat => (j : Int))) (fun j hj => by
   have := ((dfs_mem V k 0 j (by omega) (by omega) (by omega)).1 hj).1
   have := reach_in V this (by omega) (by omega)
   rw [List.mem_map]
   exact ⟨j.toNat, List.mem_range.2 (by omega), by omega⟩)
 rw [List.length_map, List.length_range] at h2
 omega
def possL (p : List Node) (l : List Report) (night now : Int) : List Int := isort (dfs p l night now p.length 0)
theorem possL_mem {p : List Node} (V : PolOk p) {l : List Report} {night now j : Int} : j ∈ possL p l night now ↔ Reach (suc p l night now) 0 j ∧ (nd p j.toNat).Test = false := by
 have hlen := V.len
 unfold possL
 rw [(isort_perm _).mem_iff]
 exact dfs_mem V p.length 0 j (by omega) (by omega) (by omega)
theorem possL_nodup {p : List Node} (V : PolOk p) {l : List Report} {night now : Int} : (possL p l night now).Nodup := by
 have hlen := V.len
 unfold possL
 exact (isort_perm _).nodup_iff.2 (dfs_nodup V p.length 0 (by omega) (by omega) (by omega))
theorem possL_len {p : List Node} (V : PolOk p) {l : List Report} {night now : Int} : 0 < (possL p l night now).length ∧ (possL p l night now).length ≤ 31 := by
 have hlen := V.len
 unfold possL
 rw [isort_length]
 exact ⟨List.length_pos_iff.2 (dfs_some V p.length 0 (by omega) (by omega) (by omega)), dfs_len V (by omega)⟩
end Go.Sp
end
/- Plain laws, fog: the possible leaves by program and document; FogPolicies. No program in sight. -/
section
set_option linter.all false
namespace Go.Sp
open Go.Av
set_option maxRecDepth 100000
theorem nowL {p : List Node} {l : List Report} {night now i : Int} (ht : (nd p i.toNat).Test = true) : suc p l night now i =
   if now < stamp night (nd p i.toNat) ∧ tellL (nd p i.toNat) l night (min (stamp night (nd p i.toNat)) now) = 2 then fol3 (nd p i.toNat)
    else [nextL (nd p i.toNat) (tellL (nd p i.toNat) l night (min (stamp night (nd p i.toNat)) now))] := by
 unfold suc; rw [if_pos ht]
theorem flat_take (f : Int → List Int) (l : List Int) {i : Nat} (h : i < l.length) : (l.take (i + 1)).flatMap f = (l.take i).flatMap f ++ f (l.getD i default) := by
 rw [take_getD h, List.flatMap_append]; simp
theorem fposs_wp {fuel : Nat} {p : List Node} {l : List Report} {night now : Int} (V : PolOk p) (hl : l.length ≤ 60) (hn : 0 ≤ night ∧ night ≤ 100000) (hf : 61 < fuel) :
   ∀ (k : Nat) (i : Int) (out : List Int), 0 ≤ i → i < p.length → p.length - i.toNat ≤ k → (out ++ dfs p l night now k i).length ≤ 1000 → fog_possible_1_l fuel k i p out night l now = some (out ++ dfs p l night now k i)
 | 0, i, out, h0, h1, hk, _ => by omega
 | k + 1, i, out, h0, h1, hk, hr => by
   show fog_possible_1_l_F fuel (fog_possible_1_l fuel k) i p out night l now = _
   unfold fog_possible_1_l_F
   have en : p.getD i.toNat default = nd p i.toNat := rfl
   simp only [en]
   refine Wp.eq (wp_must (by omega) (wp_bif (fun ht => ?_) (fun ht => ?_)))
   · have ht : ¬ (nd p i.toNat).Test = true := by simpa using ht
     have e : dfs p l night now (k + 1) i = [i] := by unfold dfs; rw [if_neg ht]
     rw [e] at hr ⊢
     exact wp_mustR (by omega) (wp_some rfl)
   · have ht : (nd p i.toNat).Test = true := by simpa using ht
     have e : dfs p l night now (k + 1) i = (suc p l night now i).flatMap (dfs p l night now k) := by unfold dfs; rw [if_pos ht]
     rw [e] at hr ⊢
     have hh := pol_test V h0 h1 ht
     have hs : ∀ a, a ∈ fol3 (nd p i.toNat) → 0 ≤ a ∧ a < p.length ∧ p.length - a.toNat ≤ k := fun a ha => by have := hh.2 a ha; omega
     refine wp_bindE (stamp_eq hn hh.1.2.1) (wp_bindE (ftell_eq _ _ _ _ hl hf) ?_)
     rw [nowL ht] at hr ⊢
     refine wp_bif (fun hb => ?_) (fun hb => ?_)
     · simp only [Bool.and_eq_true, decide_eq_true_eq] at hb
       rw [if_pos hb] at hr ⊢
       show Wp (rangeGo _ _ (fol3 (nd p i.toNat)).length 0 out) _
       refine wp_range (fun m s => s = out ++ ((fol3 (nd p i.toNat)).take m).flatMap (dfs p l night now k)) (by simp) (fun m s K hm hI hK => ?_) (fun s hI => wp_some (by rw [hI, List.take_length]))
       have eL : ([(nd p i.toNat).Yes, (nd p i.toNat).No, (nd p i.toNat).Maybe] : List Int) = fol3 (nd p i.toNat) := rfl
       simp only [eL]
       have hx := hs _ (getD_mem hm)
       have et := flat_take (dfs p l night now k) _ hm
       refine wp_bindE (fposs_wp V hl hn hf k _ s hx.1 hx.2.1 hx.2.2 ?_) (hK _ ?_)
       · rw [hI, List.append_assoc, ← et]
         refine Nat.le_trans ?_ hr
         rw [List.length_append, List.length_append]
         have e5 : (fol3 (nd p i.toNat)).flatMap (dfs p l night now k) = ((fol3 (nd p i.toNat)).take (m + 1)).flatMap (dfs p l night now k) ++ ((fol3 (nd p i.toNat)).drop (m + 1)).flatMap (dfs p l night now k) := by rw [← List.flatMap_append, List.take_append_drop]
         rw [e5, List.length_append]; omega
       · rw [et, hI, List.append_assoc]
     · have hb' : ¬ (now < stamp night (nd p i.toNat) ∧ tellL (nd p i.toNat) l night (min (stamp night (nd p i.toNat)) now) = 2) := by
         rintro ⟨b1, b2⟩
         rw [decide_eq_true b1, decide_eq_true b2] at hb; cases hb
       rw [if_neg hb'] at hr ⊢
       simp only [List.flatMap_cons, List.flatMap_nil, List.append_nil] at hr ⊢
       rw [fnext_eq _ (tellL_vals _ _ _ _)]
       have hx := hs _ (next_mem (nd p i.toNat) (tellL (nd p i.toNat) l night (min (stamp night (nd p i.toNat)) now)))
       exact wp_bindE (fposs_wp V hl hn hf k _ out hx.1 hx.2.1 hx.2.2 hr) (wp_some rfl)
theorem dfs_more {p : List Node} {l : List Report} {night now : Int} (V : PolOk p) : ∀ (k k' : Nat) (i : Int), 0 ≤ i → i < p.length → p.length - i.toNat ≤ k → p.length - i.toNat ≤ k' → dfs p l night now k i = dfs p l night now k' i
 | 0, _, i, h0, h1, hk, _ => by omega
 | k + 1, 0, i, h0, h1, _, hk => by omega
 | k + 1, k' + 1, i, h0, h1, hk, hk' => by
   unfold dfs
   split
   · rw [List.flatMap_def, List.flatMap_def, List.map_congr_left fun a ha => ?_]
     have := suc_in V ⟨h0, h1⟩ ha
     exact dfs_more V k k' a (by omega) this.2 (by omega) (by omega)
   · rfl
theorem fpossible_eq {fuel : Nat} {p : List Node} {l : List Report} {night now : Int} (V : PolOk p) (hl : l.length ≤ 60) (hn : 0 ≤ night ∧ night ≤ 100000) (hf : 61 < fuel) : fog_possible fuel p l night now = some (possL p l night now) := by
 unfold fog_possible
 have hlen := V.len
 have hd := dfs_len V (l := l) (night := night) (now := now) (k := fuel) (by omega)
 have em := dfs_more V (l := l) (night := night) (now := now) fuel p.length 0 (by omega) (by omega) (by omega) (by omega)
 refine Wp.eq (wp_bindE (fposs_wp V hl hn hf fuel 0 [] (by omega) (by omega) (by omega) (by rw [List.nil_append]; omega)) ?_)
 rw [List.nil_append, em]
 rw [em] at hd
 refine wp_bindE (must_yes (by omega) _ : slices_Sort_int_l _ = _) (wp_must (isort_length _) (wp_some rfl))
theorem rpossible_wp {fuel : Nat} {p : List Node} {l : List Report} (a : gasolierref05_At) (V : PolOk p) (hl : l.length ≤ 60) (hn : 0 ≤ a.Night ∧ a.Night ≤ 100000) (hf : 61 < fuel) :
   Wp (gasolierref05_possible fuel p l a) (fun s => s.length = p.length ∧ ∀ j : Nat, j < p.length → (s.getD j default = true ↔ Reach (suc p l a.Night a.Moment) 0 (j : Int))) := by
 unfold gasolierref05_possible
 have hlen := V.len
 have reach_pred : ∀ {b : Int}, Reach (suc p l a.Night a.Moment) 0 b ↔ b = 0 ∨ ∃ c, Reach (suc p l a.Night a.Moment) 0 c ∧ b ∈ suc p l a.Night a.Moment c := by
   intro b
   constructor
   · intro h
     cases h with
     | refl => exact .inl rfl
     | step h1 h2 => exact .inr ⟨_, h1, h2⟩
   · rintro (rfl | ⟨c, h1, h2⟩)
     · exact .refl _
     · exact h1.step h2
 refine wp_must (by unfold room; omega) (wp_must (by simp; omega) ?_)
 refine wp_for p.length (by omega) (fun i (s : List Bool) => s.length = p.length ∧ ∀ j : Nat, j < p.length → (s.getD j default = true ↔ j = 0 ∨ ∃ c : Nat, c < i ∧ Reach (suc p l a.Night a.Moment) 0 (c : Int) ∧ (j : Int) ∈ suc p l a.Night a.Moment (c : Int))) ⟨by simp, fun j hj => ?_⟩ (fun i s K hi hI hK => ?_)
 · rw [getD_set _ _ _ _ _ (by simp; omega)]
   by_cases h : j = 0
   · rw [if_pos h]; exact ⟨fun _ => .inl h, fun _ => rfl⟩
   · rw [if_neg h]
     have : (List.replicate (((p.length : Nat) : Int)).toNat false).getD j default = false := getD_replicate p.length j false
     rw [this]
     exact ⟨fun h => (nomatch h), fun h' => by rcases h' with h' | ⟨c, hc, _⟩ <;> omega⟩
 · obtain ⟨I0, I1⟩ := hI
   refine wp_ifd (fun hlt => ?_) (fun hge => ?_)
   · have hi' : i < p.length := by simp only at hlt; omega
     have hR : s.getD i default = true ↔ Reach (suc p l a.Night a.Moment) 0 (i : Int) := by
       rw [I1 i hi', reach_pred]
       constructor
       · rintro (h | ⟨c, _, h⟩)
         · exact .inl (by omega)
         · exact .inr ⟨_, h⟩
       · rintro (h | ⟨c, h1, h2⟩)
         · exact .inl (by omega)
         · have := reach_in V h1 (by omega) (by omega)
           have h3 := suc_in V ⟨this.1, this.2⟩ h2
           refine .inr ⟨c.toNat, by omega, ?_⟩
           have e : ((c.toNat : Nat) : Int) = c := by omega
           rw [e]; exact ⟨h1, h2⟩
     refine wp_join (fun s' : List Bool => s'.length = p.length ∧ ∀ j : Nat, j < p.length → (s'.getD j default = true ↔ s.getD j default = true ∨ (s.getD i default = true ∧ (j : Int) ∈ suc p l a.Night a.Moment (i : Int)))) (fun K2 hK2 => ?_) (fun s' hs' => ?_)
     · refine wp_must (by first | omega | (simp only; omega)) (wp_must (fun _ => by first | omega | (simp only; omega)) ?_)
       have en : p.getD i default = nd p i := rfl
       simp only [Int.toNat_natCast, en]
       refine wp_bif (fun hb => hK2 _ ⟨I0, fun j hj => ⟨fun h => .inl h, fun h => ?_⟩⟩) (fun hb => ?_)
       · rcases h with h | ⟨h1, h2⟩
         · exact h
         · rw [h1] at hb
           have ht := (suc_sub h2).1
           simp only [Int.toNat_natCast] at ht
           rw [ht] at hb; cases hb
       · simp only [Bool.or_eq_false_iff, Bool.not_eq_false'] at hb
         obtain ⟨hm, ht⟩ := hb
         have hh := pol_test V (i := (i : Int)) (by omega) (by omega) (by simpa using ht)
         have hnow := nowL (p := p) (l := l) (night := a.Night) (now := a.Moment) (i := (i : Int)) (by simpa using ht)
         simp only [Int.toNat_natCast] at hh hnow
         have hs : ∀ k, k ∈ fol3 (nd p i) → 0 ≤ k ∧ k < p.length := fun k hk => by have := hh.2 k hk; omega
         have one : ∀ k, k ∈ fol3 (nd p i) → suc p l a.Night a.Moment (i : Int) = [k] → s.length = p.length ∧ ∀ j : Nat, j < p.length → ((s.set k.toNat true).getD j default = true ↔ s.getD j default = true ∨ (s.getD i default = true ∧ (j : Int) ∈ suc p l a.Night a.Moment (i : Int))) := by
           intro k hk e
           refine ⟨I0, fun j hj => ?_⟩
           have := hs k hk
           rw [getD_set _ _ _ _ _ (by omega), e, List.mem_singleton]
           by_cases h : j = k.toNat
           · rw [if_pos h]; exact ⟨fun _ => .inr ⟨hm, by omega⟩, fun _ => rfl⟩
           · rw [if_neg h]
             exact ⟨fun h => .inl h, fun h' => by
               rcases h' with h' | ⟨_, h'⟩
               · exact h'
               · omega⟩
         refine wp_must (by first | omega | (simp only; omega)) (wp_bindE (rstamp_eq hn hh.1.2.1) ?_)
         refine wp_ifd (fun hle => ?_) (fun hgt => ?_)
         · refine wp_must (by first | omega | (simp only; omega)) (wp_must (by first | omega | (simp only; omega)) (wp_bindE (rtells_eq _ _ _ hl hf) ?_))
           rw [rnext_eq]
           dsimp only
           have e0 : min (stamp a.Night (nd p i)) a.Moment = stamp a.Night (nd p i) := by omega
           rw [if_neg (by omega), e0] at hnow
           have h1 := hs _ (next_mem (nd p i) (tellL (nd p i) l a.Night (stamp a.Night (nd p i))))
           have h2 := one _ (next_mem _ _) hnow
           exact wp_must (by omega) (hK2 _ ⟨by rw [List.length_set]; exact I0, h2.2⟩)
         · have e0 : min (stamp a.Night (nd p i)) a.Moment = a.Moment := by omega
           rw [e0] at hnow
           refine wp_must (by first | omega | (simp only; omega)) (wp_bindE (rtells_eq _ _ _ hl hf) ?_)
           refine wp_ifn (fun h2 => ?_) (fun h2 => ?_)
           · rw [rnext_eq]
             rw [if_neg (by omega)] at hnow
             have h1 := hs _ (next_mem (nd p i) (tellL (nd p i) l a.Night a.Moment))
             have h2 := one _ (next_mem _ _) hnow
             exact wp_must (by first | omega | (simp only; omega)) (wp_must (by omega) (hK2 _ ⟨by rw [List.length_set]; exact I0, h2.2⟩))
           · rw [if_pos (by omega)] at hnow
             refine wp_must (by first | omega | (simp only; omega)) ?_
             have eL : ([(gasolierref05_follows (nd p i)).x0, (gasolierref05_follows (nd p i)).x1, (gasolierref05_follows (nd p i)).x2] : List Int) = fol3 (nd p i) := rfl
             simp only [eL]
             refine wp_for 3 (by omega) (fun m (s' : List Bool) => s'.length = p.length ∧ ∀ j : Nat, j < p.length → (s'.getD j default = true ↔ s.getD j default = true ∨ (j : Int) ∈ (fol3 (nd p i)).take m)) ⟨I0, fun j hj => by simp⟩ (fun m s' K3 hm3 hJ hK3 => ?_)
             obtain ⟨J0, J1⟩ := hJ
             refine wp_ifd (fun hlt3 => ?_) (fun hge3 => ?_)
             · have hm' : m < 3 := by simp only at hlt3; omega
               simp only [Int.toNat_natCast, Nat.zero_add, Nat.mul_one]
               have hm4 : m < (fol3 (nd p i)).length := hm'
               have hxm : (fol3 (nd p i)).getD m 0 ∈ fol3 (nd p i) := getD_mem (l := fol3 (nd p i)) hm4
               have e3 : (fol3 (nd p i)).take (m + 1) = (fol3 (nd p i)).take m ++ [(fol3 (nd p i)).getD m 0] := take_getD hm4
               generalize (fol3 (nd p i)).getD m 0 = x at hxm e3
               have hx := hs x hxm
               refine wp_must (by omega) (wp_must (by omega) (wp_mustI (by omega) (hK3 _ hm' ⟨by rw [List.length_set]; exact J0, fun j hj => ?_⟩)))
               rw [getD_set _ _ _ _ _ (by omega), e3, List.mem_append, List.mem_singleton]
               by_cases h : j = x.toNat
               · rw [if_pos h]; exact ⟨fun _ => .inr (.inr (by omega)), fun _ => rfl⟩
               · rw [if_neg h, J1 j hj]
                 constructor
                 · rintro (h' | h')
                   · exact .inl h'
                   · exact .inr (.inl h')
                 · rintro (h' | h' | h')
                   · exact .inl h'
                   · exact .inr h'
                   · omega
             · have hm' : m = 3 := by simp only at hge3; omega
               subst hm'
               refine hK2 _ ⟨J0, fun j hj => ?_⟩
               rw [J1 j hj, hnow]
               exact ⟨fun h => h.elim .inl (fun h => .inr ⟨hm, h⟩), fun h => h.elim .inl (fun h => .inr h.2)⟩
     · refine wp_mustI (by first | omega | (simp only; omega)) (hK _ hi' ⟨hs'.1, fun j hj => ?_⟩)
       rw [hs'.2 j hj, I1 j hj, hR]
       constructor
       · rintro ((h | ⟨c, h1, h2⟩) | ⟨h1, h2⟩)
         · exact .inl h
         · exact .inr ⟨c, by omega, h2⟩
         · exact .inr ⟨i, by omega, h1, h2⟩
       · rintro (h | ⟨c, h1, h2⟩)
         · exact .inl (.inl h)
         · by_cases e : c = i
           · subst e; exact .inr h2
           · exact .inl (.inr ⟨c, by omega, h2⟩)
   · have hie : i = p.length := by simp only at hge; omega
     refine wp_some ⟨I0, fun j hj => ?_⟩
     rw [I1 j hj, reach_pred]
     constructor
     · rintro (h | ⟨c, _, h⟩)
       · exact .inl (by omega)
       · exact .inr ⟨_, h⟩
     · rintro (h | ⟨c, h1, h2⟩)
       · exact .inl (by omega)
       · have := reach_in V h1 (by omega) (by omega)
         have h3 := suc_in V ⟨this.1, this.2⟩ h2
         refine .inr ⟨c.toNat, by omega, ?_⟩
         have e : ((c.toNat : Nat) : Int) = c := by omega
         rw [e]; exact ⟨h1, h2⟩
noncomputable def possR (p : List Node) (l : List Report) (night now : Int) : List Int × Int := if askR p l night now ≠ 0 then ([], askR p l night now) else (possL p l night now, 0)
theorem fPossible_eq {fuel : Nat} (p : List Node) (l : List Report) (night now : Int) (hf : 61 < fuel) : fog_Possible fuel p l night now = some (possR p l night now) := by
 unfold fog_Possible possR
 refine Wp.eq (wp_bindE (fasked_eq p l night now) (wp_ifn (fun h => ?_) (fun h => ?_)))
 · rw [if_pos h]; exact wp_some rfl
 · rw [if_neg (by simp [h])]
   obtain ⟨V, R, D⟩ := askR_zero.1 h
   exact wp_bindE (fpossible_eq V R.len ⟨D.1, D.2.1⟩ hf) (wp_some rfl)
def marked (p : List Node) (s : List Bool) (n : Nat) : List Int := ((List.range n).filter (fun j => s.getD j default && !(nd p j).Test)).map (fun j : Nat => (j : Int))
theorem marked_succ (p : List Node) (s : List Bool) (n : Nat) : marked p s (n + 1) = marked p s n ++ (if s.getD n default && !(nd p n).Test then [(n : Int)] else []) := by
 unfold marked
 rw [List.range_succ, List.filter_append, List.map_append]
 congr 1
 simp only [List.filter_cons, List.filter_nil]
 split <;> rfl
theorem marked_len (p : List Node) (s : List Bool) (n : Nat) : (marked p s n).length ≤ n := by
 unfold marked
 rw [List.length_map]
 exact Nat.le_trans (List.length_filter_le _ _) (by simp)
theorem marked_poss {p : List Node} {l : List Report} {night now : Int} (V : PolOk p) {s : List Bool} (h : ∀ j : Nat, j < p.length → (s.getD j default = true ↔ Reach (suc p l night now) 0 (j : Int))) : marked p s p.length = possL p l night now := by
 have hlen := V.len
 have hp : (marked p s p.length).Pairwise (· < ·) := by
   unfold marked
   rw [List.pairwise_map]
   exact (List.pairwise_lt_range.filter _).imp (fun h => by omega)
 refine sorted_unique ((List.perm_ext_iff_of_nodup (hp.imp (fun h => by omega)) (possL_nodup V)).2 (fun j => ?_)) (hp.imp (fun h => by omega)) (isort_sorted _)
 rw [possL_mem V]
 unfold marked
 simp only [List.mem_map, List.mem_filter, List.mem_range, Bool.and_eq_true, Bool.not_eq_true']
 constructor
 · rintro ⟨k, ⟨hk, h1, h2⟩, rfl⟩
   exact ⟨(h k hk).1 h1, h2⟩
 · rintro ⟨h1, h2⟩
   have := reach_in V h1 (by omega) (by omega)
   refine ⟨j.toNat, ⟨by omega, (h _ (by omega)).2 ?_, h2⟩, by omega⟩
   have e : ((j.toNat : Nat) : Int) = j := by omega
   rw [e]; exact h1
theorem rPossible_eq {fuel : Nat} (p : List Node) (l : List Report) (a : gasolierref05_At) (hf : 61 < fuel) : gasolierref05_Possible fuel p l a = some (possR p l a.Night a.Moment) := by
 unfold gasolierref05_Possible possR
 refine Wp.eq (wp_bindE (rvalid_eq p l a hf) (wp_ifn (fun h => ?_) (fun h => ?_)))
 · rw [if_pos h]; exact wp_some rfl
 · rw [if_neg (by simp [h])]
   obtain ⟨V, R, D⟩ := askR_zero.1 h
   have hlen := V.len
   refine wp_bind (rpossible_wp a V R.len ⟨D.1, D.2.1⟩ hf) (fun s hs => ?_)
   obtain ⟨s1, s2⟩ := hs
   have em := marked_poss V s2
   refine wp_for p.length (by omega) (fun i out => out = marked p s i) rfl (fun i out K hi hI hK => ?_)
   have e := marked_succ p s i
   have hml := marked_len p s i
   have en : p.getD i default = nd p i := rfl
   simp only [Int.toNat_natCast, en]
   refine wp_ifd (fun hlt => wp_must (by omega) (wp_must (fun _ => by omega) ?_)) (fun hge => wp_some ?_)
   · refine wp_bif (fun ht => wp_mustR (by rw [hI]; simp; omega) (wp_mustI (by omega) (hK _ (by omega) ?_))) (fun ht => wp_mustI (by omega) (hK _ (by omega) ?_))
     · rw [e, hI, if_pos ht]
     · rw [e, hI, if_neg (by rw [ht]; simp), List.append_nil]
   · have : i = p.length := by omega
     rw [hI, this, em]
def manyL (n : Node) : Int := (n.Sends.map (·.Many)).sum
theorem sum_take {l : List Send} {i : Nat} (h : i < l.length) : ((l.take (i + 1)).map (·.Many)).sum = ((l.take i).map (·.Many)).sum + (sd l i).Many := by
 rw [take_getD h, List.map_append, List.sum_append]; simp [sd]
theorem sum_bound {l : List Send} (h : SendsOk l) : ∀ {i : Nat}, i ≤ l.length → 0 ≤ ((l.take i).map (·.Many)).sum ∧ ((l.take i).map (·.Many)).sum ≤ 20 * (i : Int) := by
 intro i
 induction i with
 | zero => intro _; simp
 | succ i ih =>
   intro hi
   have h1 := ih (by omega)
   have h2 := (h.2 i hi).2.1
   rw [sum_take hi]; omega
theorem many_bound {n : Node} (h : SendsOk n.Sends) : 0 ≤ manyL n ∧ manyL n ≤ 180 := by
 have h1 := sum_bound h (Nat.le_refl n.Sends.length)
 rw [List.take_length] at h1
 have := h.1
 unfold manyL; omega
theorem fsum_wp (l : List Int) (h : ∀ i, i ≤ l.length → -1000000 ≤ (l.take i).sum ∧ (l.take i).sum ≤ 1000000) : fog_sum l = some l.sum := by
 unfold fog_sum
 refine Wp.eq (wp_range (fun i s => s = (l.take i).sum) (by simp) (fun i s K hi hI hK => ?_) (fun s hI => wp_some (by rw [hI, List.take_length])))
 have e : (l.take (i + 1)).sum = (l.take i).sum + l.getD i default := by rw [take_getD hi, List.sum_append]; simp
 have h2 := h (i + 1) hi
 rw [e] at h2
 rw [hI]
 exact wp_mustI (by omega) (hK _ e.symm)
theorem fmany_eq {n : Node} (h : SendsOk n.Sends) : fog_many n = some (manyL n) := by
 unfold fog_many
 have h9 := h.1
 refine Wp.eq (wp_range (fun i s => s = (n.Sends.take i).map (·.Many)) (by simp) (fun i s K hi hI hK => ?_) (fun s hI => ?_))
 · refine wp_mustR (by rw [hI]; simp; omega) (hK _ ?_)
   rw [hI, take_getD hi, List.map_append]; rfl
 · rw [List.take_length] at hI
   refine wp_bindE (fsum_wp s (fun i hi => ?_)) (wp_some (by rw [hI]; rfl))
   rw [hI] at hi ⊢
   rw [List.length_map] at hi
   have := sum_bound h hi
   rw [← List.map_take]; omega
theorem rneeds_eq {fuel : Nat} {n : Node} (h : SendsOk n.Sends) (hf : 61 < fuel) : gasolierref05_needs fuel n = some (manyL n) := by
 unfold gasolierref05_needs
 have h9 := h.1
 refine Wp.eq (wp_forS n.Sends.length (by omega) (fun i s => s = ((n.Sends.take i).map (·.Many)).sum) (by simp) (fun i s K hi hI hK => ?_))
 refine wp_ifd (fun hlt => ?_) (fun hge => wp_some ?_)
 · have hi' : i < n.Sends.length := by simp only at hlt; omega
   have h2 := sum_bound h (i := i + 1) hi'
   have e := sum_take hi'
   rw [e] at h2
   unfold sd at h2 e
   simp only [Int.toNat_natCast]
   rw [hI]
   exact wp_must (by omega) (wp_mustI (by omega) (wp_mustI (by omega) (hK _ hi' e.symm)))
 · have : i = n.Sends.length := by simp only at hge; omega
   rw [hI, this, List.take_length]; rfl
theorem min_wp {fuel : Nat} {l : List Int} (h0 : 0 < l.length) (hf : l.length < fuel) (hl : l.length ≤ 1000000) : Wp (slices_Min_int fuel l) (fun r => r ∈ l ∧ ∀ x ∈ l, r ≤ x) := by
 unfold slices_Min_int
 refine wp_joinU (wp_false (by simp; omega) (wp_must (by omega) ?_))
 refine wp_loop (fun s : Int × Int => ∃ i : Nat, s.2 = (i : Int) ∧ 1 ≤ i ∧ i ≤ l.length ∧ s.1 ∈ l ∧ ∀ j, j < i → s.1 ≤ l.getD j default) (fun s => l.length - s.2.toNat) (show l.length - Int.toNat 1 < fuel by omega) ⟨1, rfl, by omega, by omega, getD_mem h0, fun j hj => (by have e0 : j = 0 := Nat.lt_one_iff.1 hj; rw [e0]; exact Int.le_refl _)⟩ ?_
 rintro ⟨r, s2⟩ K ⟨i, hi, i1, i2, i3, i4⟩ hK
 simp only at hi i3 i4 hK
 subst hi
 refine wp_ifd (fun hlt => ?_) (fun hge => wp_some ⟨i3, fun x hx => ?_⟩)
 · have hi' : i < l.length := by simp only at hlt; omega
   simp only [Int.toNat_natCast]
   refine wp_must (by omega) (wp_mustI (by omega) (hK _ ⟨i + 1, by simp, by omega, hi', ?_, fun j hj => ?_⟩ (by omega)))
   · simp only
     have hm : l.getD i default ∈ l := getD_mem hi'
     rcases Int.min_def r (l.getD i default) ▸ (show (if r ≤ l.getD i default then r else l.getD i default) = r ∨ (if r ≤ l.getD i default then r else l.getD i default) = l.getD i default by split <;> simp) with h | h
     · rw [h]; exact i3
     · rw [h]; exact hm
   · simp only
     by_cases e : j = i
     · rw [e]; omega
     · have := i4 j (by omega); omega
 · obtain ⟨j, hj, rfl⟩ := mem_getD hx
   simp only at hge
   exact i4 j (by omega)
theorem max_wp {fuel : Nat} {l : List Int} (h0 : 0 < l.length) (hf : l.length < fuel) (hl : l.length ≤ 1000000) : Wp (slices_Max_int fuel l) (fun r => r ∈ l ∧ ∀ x ∈ l, x ≤ r) := by
 unfold slices_Max_int
 refine wp_joinU (wp_false (by simp; omega) (wp_must (by omega) ?_))
 refine wp_loop (fun s : Int × Int => ∃ i : Nat, s.2 = (i : Int) ∧ 1 ≤ i ∧ i ≤ l.length ∧ s.1 ∈ l ∧ ∀ j, j < i → l.getD j default ≤ s.1) (fun s => l.length - s.2.toNat) (show l.length - Int.toNat 1 < fuel by omega) ⟨1, rfl, by omega, by omega, getD_mem h0, fun j hj => (by have e0 : j = 0 := Nat.lt_one_iff.1 hj; rw [e0]; exact Int.le_refl _)⟩ ?_
 rintro ⟨r, s2⟩ K ⟨i, hi, i1, i2, i3, i4⟩ hK
 simp only at hi i3 i4 hK
 subst hi
 refine wp_ifd (fun hlt => ?_) (fun hge => wp_some ⟨i3, fun x hx => ?_⟩)
 · have hi' : i < l.length := by simp only at hlt; omega
   simp only [Int.toNat_natCast]
   refine wp_must (by omega) (wp_mustI (by omega) (hK _ ⟨i + 1, by simp, by omega, hi', ?_, fun j hj => ?_⟩ (by omega)))
   · simp only
     have hm : l.getD i default ∈ l := getD_mem hi'
     rcases Int.max_def r (l.getD i default) ▸ (show (if r ≤ l.getD i default then l.getD i default else r) = r ∨ (if r ≤ l.getD i default then l.getD i default else r) = l.getD i default by split <;> simp) with h | h
     · rw [h]; exact i3
     · rw [h]; exact hm
   · simp only
     by_cases e : j = i
     · rw [e]; omega
     · have := i4 j (by omega); omega
 · obtain ⟨j, hj, rfl⟩ := mem_getD hx
   simp only at hge
   exact i4 j (by omega)
theorem poss_leaf {p : List Node} (V : PolOk p) {l : List Report} {night now j : Int} (h : j ∈ possL p l night now) : 0 ≤ j ∧ j < p.length ∧ SendsOk (nd p j.toNat).Sends := by
 have hlen := V.len
 obtain ⟨h1, h2⟩ := (possL_mem V).1 h
 have := reach_in V h1 (by omega) (by omega)
 exact ⟨this.1, this.2, ((V.node j.toNat (by omega)).1 h2).2⟩
def NeedP (p : List Node) (q : List Int) (r : Range) : Prop := ((∃ j ∈ q, r.Lo = manyL (nd p j.toNat)) ∧ ∀ j ∈ q, r.Lo ≤ manyL (nd p j.toNat)) ∧ ((∃ j ∈ q, r.Hi = manyL (nd p j.toNat)) ∧ ∀ j ∈ q, manyL (nd p j.toNat) ≤ r.Hi)
theorem needP_one {p : List Node} {q : List Int} {r r' : Range} (h : NeedP p q r) (h' : NeedP p q r') : r = r' := by
 obtain ⟨⟨⟨a, ha, ea⟩, h1⟩, ⟨b, hb, eb⟩, h2⟩ := h
 obtain ⟨⟨⟨a', ha', ea'⟩, h1'⟩, ⟨b', hb', eb'⟩, h2'⟩ := h'
 have e1 : r.Lo = r'.Lo := by have := h1 a' ha'; have := h1' a ha; omega
 have e2 : r.Hi = r'.Hi := by have := h2 b' hb'; have := h2' b hb; omega
 cases r; cases r'; simp only at e1 e2; rw [e1, e2]
theorem fNeeds_wp {fuel : Nat} (p : List Node) (l : List Report) (night now : Int) (hf : 61 < fuel) : Wp (fog_Needs fuel p l night now) (fun r => (askR p l night now ≠ 0 ∧ r = (⟨0, 0⟩, askR p l night now)) ∨ (askR p l night now = 0 ∧ r.2 = 0 ∧ NeedP p (possL p l night now) r.1)) := by
 unfold fog_Needs
 refine wp_bindE (fasked_eq p l night now) (wp_ifn (fun h => wp_some (.inl ⟨h, rfl⟩)) (fun h => ?_))
 obtain ⟨V, R, D⟩ := askR_zero.1 h
 refine wp_bindE (fpossible_eq V R.len ⟨D.1, D.2.1⟩ hf) ?_
 have hq := possL_len V (l := l) (night := night) (now := now)
 have hq2 : ∀ j ∈ possL p l night now, 0 ≤ j ∧ j < p.length ∧ SendsOk (nd p j.toNat).Sends := fun j hj => poss_leaf V hj
 generalize possL p l night now = q at hq hq2 ⊢
 refine wp_range (fun i s => s = (q.take i).map (fun j => manyL (nd p j.toNat))) (by simp) (fun i s K hi hI hK => ?_) (fun s hI => ?_)
 · have hx := hq2 _ (getD_mem hi)
   have en : p.getD (q.getD i default).toNat default = nd p (q.getD i default).toNat := rfl
   rw [en]
   refine wp_must ⟨hx.1, hx.2.1⟩ (wp_bindE (fmany_eq hx.2.2) (wp_mustR (by rw [hI]; simp; omega) (hK _ ?_)))
   rw [hI, take_getD hi, List.map_append]; rfl
 · rw [List.take_length] at hI
   subst hI
   refine wp_bind (min_wp (by rw [List.length_map]; omega) (by rw [List.length_map]; omega) (by rw [List.length_map]; omega)) (fun lo h1 => wp_bind (max_wp (by rw [List.length_map]; omega) (by rw [List.length_map]; omega) (by rw [List.length_map]; omega)) (fun hi h2 => wp_some (.inr ⟨h, rfl, ?_⟩)))
   obtain ⟨a1, a2⟩ := h1
   obtain ⟨b1, b2⟩ := h2
   rw [List.mem_map] at a1 b1
   obtain ⟨j, hj, ej⟩ := a1
   obtain ⟨k, hk, ek⟩ := b1
   exact ⟨⟨⟨j, hj, ej.symm⟩, fun x hx => a2 _ (List.mem_map.2 ⟨x, hx, rfl⟩)⟩, ⟨k, hk, ek.symm⟩, fun x hx => b2 _ (List.mem_map.2 ⟨x, hx, rfl⟩)⟩
theorem rNeeds_wp {fuel : Nat} (p : List Node) (l : List Report) (a : gasolierref05_At) (hf : 61 < fuel) : Wp (gasolierref05_Needs fuel p l a) (fun r => (askR p l a.Night a.Moment ≠ 0 ∧ r = (⟨0, 0⟩, askR p l a.Night a.Moment)) ∨ (askR p l a.Night a.Moment = 0 ∧ r.2 = 0 ∧ NeedP p (possL p l a.Night a.Moment) r.1)) := by
 unfold gasolierref05_Needs
 refine wp_bindE (rPossible_eq p l a hf) ?_
 unfold possR
 by_cases h : askR p l a.Night a.Moment = 0
 · rw [if_neg (by simp [h])]
   refine wp_false rfl ?_
   obtain ⟨V, R, D⟩ := askR_zero.1 h
   have hq := possL_len V (l := l) (night := a.Night) (now := a.Moment)
   have hq2 : ∀ j ∈ possL p l a.Night a.Moment, 0 ≤ j ∧ j < p.length ∧ SendsOk (nd p j.toNat).Sends := fun j hj => poss_leaf V hj
   simp only
   generalize possL p l a.Night a.Moment = q at hq hq2 ⊢
   refine wp_for q.length (by omega) (fun i (s : Range) => ((s.Lo = 180 ∨ ∃ j ∈ q, s.Lo = manyL (nd p j.toNat)) ∧ ∀ j, j < i → s.Lo ≤ manyL (nd p (q.getD j default).toNat)) ∧ ((s.Hi = 0 ∨ ∃ j ∈ q, s.Hi = manyL (nd p j.toNat)) ∧ ∀ j, j < i → manyL (nd p (q.getD j default).toNat) ≤ s.Hi)) ⟨⟨.inl rfl, fun j hj => absurd hj (Nat.not_lt_zero _)⟩, .inl rfl, fun j hj => absurd hj (Nat.not_lt_zero _)⟩ (fun i s K hi hI hK => ?_)
   obtain ⟨⟨I1, I2⟩, I3, I4⟩ := hI
   refine wp_ifd (fun hlt => ?_) (fun hge => wp_some (.inr ⟨h, rfl, ?_⟩))
   · have hi' : i < q.length := by simp only at hlt; omega
     have hm : q.getD i default ∈ q := getD_mem hi'
     have hx := hq2 _ hm
     simp only [Int.toNat_natCast]
     have en : p.getD (q.getD i default).toNat default = nd p (q.getD i default).toNat := rfl
     rw [en]
     refine wp_must (by omega) (wp_must ⟨hx.1, hx.2.1⟩ (wp_bindE (rneeds_eq hx.2.2 hf) (wp_mustI (by omega) (hK _ hi' ⟨⟨?_, fun j hj => ?_⟩, ?_, fun j hj => ?_⟩))))
     · simp only
       by_cases hc : s.Lo ≤ manyL (nd p (q.getD i default).toNat)
       · rw [Int.min_eq_left hc]; exact I1
       · rw [Int.min_eq_right (by omega)]; exact .inr ⟨_, hm, rfl⟩
     · simp only
       by_cases e : j = i
       · rw [e]; omega
       · have := I2 j (by omega); omega
     · simp only
       by_cases hc : s.Hi ≤ manyL (nd p (q.getD i default).toNat)
       · rw [Int.max_eq_right hc]; exact .inr ⟨_, hm, rfl⟩
       · rw [Int.max_eq_left (by omega)]; exact I3
     · simp only
       by_cases e : j = i
       · rw [e]; omega
       · have := I4 j (by omega); omega
   · have hie : i = q.length := by simp only at hge; omega
     have J2 : ∀ x ∈ q, s.Lo ≤ manyL (nd p x.toNat) := fun x hx => by obtain ⟨j, hj, rfl⟩ := mem_getD hx; exact I2 j (by omega)
     have J4 : ∀ x ∈ q, manyL (nd p x.toNat) ≤ s.Hi := fun x hx => by obtain ⟨j, hj, rfl⟩ := mem_getD hx; exact I4 j (by omega)
     have hm : q.getD 0 default ∈ q := getD_mem hq.1
     have hb := many_bound (hq2 _ hm).2.2
     have k1 := J2 _ hm
     have k2 := J4 _ hm
     refine ⟨⟨?_, J2⟩, ?_, J4⟩
     · rcases I1 with h | h
       · exact ⟨_, hm, by simp only at k1 ⊢; omega⟩
       · exact h
     · rcases I3 with h | h
       · exact ⟨_, hm, by simp only at k2 ⊢; omega⟩
       · exact h
 · rw [if_pos h]
   exact wp_true (by simp [h]) (wp_some (.inl ⟨h, rfl⟩))
theorem rNeeds_eq {fuel : Nat} (p : List Node) (l : List Report) (a : gasolierref05_At) (hf : 61 < fuel) : ∃ r, fog_Needs fuel p l a.Night a.Moment = some r ∧ gasolierref05_Needs fuel p l a = some r := by
 obtain ⟨r, e, h⟩ := fNeeds_wp p l a.Night a.Moment hf
 obtain ⟨r', e', h'⟩ := rNeeds_wp p l a hf
 refine ⟨r, e, ?_⟩
 rw [e']
 rcases h with ⟨h1, h2⟩ | ⟨h1, h2, h3⟩
 · rcases h' with ⟨_, h2'⟩ | ⟨h1', _⟩
   · rw [h2, h2']
   · exact absurd h1' h1
 · rcases h' with ⟨h1', _⟩ | ⟨_, h2', h3'⟩
   · exact absurd h1 h1'
   · have := needP_one h3 h3'
     cases r; cases r'
     simp only at this h2 h2'
     rw [this, h2, h2']
theorem checkPolicy_eq {fuel : Nat} (p : List Node) (hf : 61 < fuel) : ∃ r, fog_CheckPolicy p = some r ∧ gasolierref05_CheckPolicy fuel p = some r := by
 by_cases h : PolOk p
 · exact ⟨0, fpol_ok h, rpol_ok (by omega) h⟩
 · exact ⟨53, fpol_bad h, rpol_bad (by omega) h⟩
theorem pathR_len (p : List Node) (l : List Report) (night : Int) : (pathR p l night).1.length ≤ 32 := by
 unfold pathR
 split
 · simp
 · next h =>
   obtain ⟨V, _⟩ := askR_zero.1 (Classical.not_not.1 h)
   have := pathL_len p l night p.length 0
   have := V.len
   simp only [pathF, List.length_cons]; omega
theorem possR_len (p : List Node) (l : List Report) (night now : Int) : (possR p l night now).1.length ≤ 32 := by
 unfold possR
 split
 · simp
 · next h =>
   obtain ⟨V, _⟩ := askR_zero.1 (Classical.not_not.1 h)
   have := (possL_len V (l := l) (night := night) (now := now)).2
   simp only; omega
theorem leavesR_len (p : List Node) : (leavesR p).1.length ≤ 32 := by
 unfold leavesR
 split
 · simp
 · next h =>
   have := (Classical.not_not.1 h).len
   have := leafL_len p p.length
   simp only; omega
theorem fogPolicies_true (p : List Node) (l : List Report) (a : gasolierref05_At) : gasolierlaw05_FogPolicies 20000 p l a = some true := by
 unfold gasolierlaw05_FogPolicies
 obtain ⟨n, n1, n2⟩ := rNeeds_eq p l a (fuel := 20000) (by omega)
 obtain ⟨c, c1, c2⟩ := checkPolicy_eq p (fuel := 20000) (by omega)
 have l1 := leavesR_len p
 have l2 := pathR_len p l a.Night
 have l3 := possR_len p l a.Night a.Moment
 refine Wp.eq (wp_bindE (fLeaves_eq p) (wp_bindE (rLeaves_eq p (by omega)) (wp_bindE (fPath_eq p l a.Night (by omega)) (wp_bindE (rPath_eq p l a.Night (by omega)) (wp_bindE (fPossible_eq p l _ _ (by omega)) (wp_bindE (rPossible_eq p l a (by omega)) (wp_bindE n1 (wp_bindE n2 (wp_bindE c1 (wp_bindE c2 ?_))))))))))
 refine wp_onE (by simp) (same_eq _ _ (by omega) (by omega)) (wp_onE (by simp) (same_eq _ _ (by omega) (by omega)) (wp_onE (by simp) (same_eq _ _ (by omega) (by omega)) (wp_onE (by simp) sane_ok (wp_some (by simp)))))
end Go.Sp
end
