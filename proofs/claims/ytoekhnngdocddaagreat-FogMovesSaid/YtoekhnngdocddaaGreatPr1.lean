/- Texts of the framework, or of the plain law, one behind another. -/
import Derived.Test.YtoekhnngdocddaaGreatFr1
import Derived.Test.YtoekhnngdocddaaGreatFr4
import Derived.KernelRfl
/- Rules for plain laws: what a printed definition yields. No program in sight. -/
section
set_option linter.all false
namespace Go.Sp
open Go.Av
def Wp {R : Type} (x : Option R) (P : R → Prop) : Prop := ∃ r, x = some r ∧ P r
theorem Wp.eq {R : Type} {x : Option R} {v : R} (h : Wp x (· = v)) : x = some v := by
 obtain ⟨r, h1, h2⟩ := h; rw [h1, h2]
theorem Wp.of_eq {R : Type} {x : Option R} {v : R} {P : R → Prop} (h : x = some v) (hp : P v) : Wp x P := ⟨v, h, hp⟩
theorem Wp.mono {R : Type} {x : Option R} {P Q : R → Prop} (h : Wp x P) (hp : ∀ r, P r → Q r) : Wp x Q := by
 obtain ⟨r, h1, h2⟩ := h; exact ⟨r, h1, hp r h2⟩
theorem wp_some {R : Type} {r : R} {P : R → Prop} (h : P r) : Wp (some r) P := ⟨r, rfl, h⟩
theorem wp_must {R : Type} {c : Prop} [Decidable c] {x : Option R} {P : R → Prop} (h : c) (k : Wp x P) : Wp (must c x) P := by
 unfold must; rw [if_pos h]; exact k
theorem wp_bind {S R : Type} {x : Option S} {k : S → Option R} {P : R → Prop} {Q : S → Prop} (h : Wp x Q) (hk : ∀ s, Q s → Wp (k s) P) : Wp (bindO x k) P := by
 obtain ⟨r, h1, h2⟩ := h; rw [h1]; exact hk r h2
theorem wp_bindE {S R : Type} {x : Option S} {k : S → Option R} {P : R → Prop} {v : S} (h : x = some v) (hk : Wp (k v) P) : Wp (bindO x k) P := by
 rw [h]; exact hk
theorem wp_bif {R : Type} {b : Bool} {x y : Option R} {P : R → Prop} (h1 : b = true → Wp x P) (h2 : b = false → Wp y P) : Wp (bif b then x else y) P := by
 cases b
 · exact h2 rfl
 · exact h1 rfl
theorem wp_if {R : Type} {p : Prop} {b : Bool} {x y : Option R} {P : R → Prop} (hb : b = true ↔ p) (h1 : p → Wp x P) (h2 : ¬ p → Wp y P) : Wp (bif b then x else y) P :=
 wp_bif (fun h => h1 (hb.1 h)) (fun h => h2 (fun hp => by rw [hb.2 hp] at h; cases h))
theorem wp_ifd {R : Type} {p : Prop} [Decidable p] {x y : Option R} {P : R → Prop} (h1 : p → Wp x P) (h2 : ¬ p → Wp y P) : Wp (bif (decide p) then x else y) P :=
 wp_if (decide_eq_true_iff) h1 h2
theorem wp_ifn {R : Type} {p : Prop} [Decidable p] {x y : Option R} {P : R → Prop} (h1 : ¬ p → Wp x P) (h2 : p → Wp y P) : Wp (bif (!decide p) then x else y) P :=
 wp_bif (fun h => h1 (by simpa using h)) (fun h => h2 (by simpa using h))
theorem wp_true {R : Type} {b : Bool} {x y : Option R} {P : R → Prop} (h : b = true) (h1 : Wp x P) : Wp (bif b then x else y) P := by rw [h]; exact h1
theorem wp_false {R : Type} {b : Bool} {x y : Option R} {P : R → Prop} (h : b = false) (h1 : Wp y P) : Wp (bif b then x else y) P := by rw [h]; exact h1
theorem wp_join {S R : Type} {f : (S → Option R) → Option R} {k : S → Option R} {P : R → Prop} (G : S → Prop) (hf : ∀ K : S → Option R, (∀ s, G s → Wp (K s) P) → Wp (f K) P) (hk : ∀ s, G s → Wp (k s) P) : Wp (joinK f k) P := hf k hk
theorem wp_joinU {S R : Type} {f : (S → Option R) → Option R} {k : S → Option R} {P : R → Prop} (h : Wp (f k) P) : Wp (joinK f k) P := h
theorem wp_range {S R : Type} {body : Nat → S → (S → Option R) → Option R} {ex : S → Option R} {n : Nat} {s0 : S} {P : R → Prop} (Inv : Nat → S → Prop) (h0 : Inv 0 s0)
   (hb : ∀ (i : Nat) s (K : S → Option R), i < n → Inv i s → (∀ s', Inv (i + 1) s' → Wp (K s') P) → Wp (body i s K) P) (he : ∀ s, Inv n s → Wp (ex s) P) : Wp (rangeGo body ex n 0 s0) P := by
 have go : ∀ (m i : Nat), i + m = n → ∀ s, Inv i s → Wp (rangeGo body ex m i s) P := by
   intro m
   induction m with
   | zero => intro i hi s hs; have e : i = n := by omega
             subst e; exact he s hs
   | succ m ih => intro i hi s hs; exact hb i s _ (by omega) hs (fun s' h' => ih (i + 1) (by omega) s' h')
 exact go n 0 (by omega) s0 h0
theorem wp_loop {S R : Type} {body : S → (S → Option R) → Option R} {fuel : Nat} {s0 : S} {P : R → Prop} (Inv : S → Prop) (μ : S → Nat) (hf : μ s0 < fuel) (h0 : Inv s0)
   (hb : ∀ s (K : S → Option R), Inv s → (∀ s', Inv s' → μ s' < μ s → Wp (K s') P) → Wp (body s K) P) : Wp (loopGo body fuel s0) P := by
 have go : ∀ (f : Nat) s, Inv s → μ s < f → Wp (loopGo body f s) P := by
   intro f
   induction f with
   | zero => intro s _ h; omega
   | succ f ih => intro s hs hm; exact hb s _ hs (fun s' h' hl => ih s' h' (by omega))
 exact go fuel s0 h0 hf
theorem wp_for {S R : Type} {body : (Int × S) → ((Int × S) → Option R) → Option R} {fuel : Nat} {s0 : S} {P : R → Prop} (n : Nat) (hf : n < fuel) (Inv : Nat → S → Prop) (h0 : Inv 0 s0)
   (hb : ∀ (i : Nat) s (K : (Int × S) → Option R), i ≤ n → Inv i s → (∀ s', i < n → Inv (i + 1) s' → Wp (K ((i : Int) + 1, s')) P) → Wp (body ((i : Int), s) K) P) : Wp (loopGo body fuel (0, s0)) P := by
 have go : ∀ (f i : Nat) s, i ≤ n → n - i < f → Inv i s → Wp (loopGo body f ((i : Int), s)) P := by
   intro f
   induction f with
   | zero => intro i s _ h; omega
   | succ f ih => intro i s hi hm hs; exact hb i s _ hi hs (fun s' hl h' => ih (i + 1) s' (by omega) (by omega) h')
 exact go fuel 0 s0 (by omega) (by omega) h0
theorem wp_for1 {R : Type} {body : Int → (Int → Option R) → Option R} {fuel : Nat} {P : R → Prop} (n : Nat) (hf : n < fuel) (Inv : Nat → Prop) (h0 : Inv 0)
   (hb : ∀ (i : Nat) (K : Int → Option R), i ≤ n → Inv i → (i < n → Inv (i + 1) → Wp (K ((i : Int) + 1)) P) → Wp (body (i : Int) K) P) : Wp (loopGo body fuel 0) P := by
 have go : ∀ (f i : Nat), i ≤ n → n - i < f → Inv i → Wp (loopGo body f (i : Int)) P := by
   intro f
   induction f with
   | zero => intro i _ h; omega
   | succ f ih => intro i hi hm hs; exact hb i _ hi hs (fun hl h' => ih (i + 1) (by omega) (by omega) h')
 exact go fuel 0 (by omega) (by omega) h0
theorem wp_forS {S R : Type} {body : (S × Int) → ((S × Int) → Option R) → Option R} {fuel : Nat} {s0 : S} {P : R → Prop} (n : Nat) (hf : n < fuel) (Inv : Nat → S → Prop) (h0 : Inv 0 s0)
   (hb : ∀ (i : Nat) s (K : (S × Int) → Option R), i ≤ n → Inv i s → (∀ s', i < n → Inv (i + 1) s' → Wp (K (s', (i : Int) + 1)) P) → Wp (body (s, (i : Int)) K) P) : Wp (loopGo body fuel (s0, 0)) P := by
 have go : ∀ (f i : Nat) s, i ≤ n → n - i < f → Inv i s → Wp (loopGo body f (s, (i : Int))) P := by
   intro f
   induction f with
   | zero => intro i s _ h; omega
   | succ f ih => intro i s hi hm hs; exact hb i s _ hi hs (fun s' hl h' => ih (i + 1) s' (by omega) (by omega) h')
 exact go fuel 0 s0 (by omega) (by omega) h0
end Go.Sp
end
/- More rules for plain laws. No program in sight. -/
section
set_option linter.all false
namespace Go.Sp
open Go.Av
theorem wp_mustI {R : Type} {n : Int} {x : Option R} {P : R → Prop} (h : -9223372036854775808 ≤ n ∧ n ≤ 9223372036854775807) (k : Wp x P) : Wp (must (inI n) x) P := wp_must h k
theorem wp_mustR {R : Type} {n b : Nat} {x : Option R} {P : R → Prop} (h : n * b ≤ 140737488355328 ∧ n ≤ 9223372036854775807) (k : Wp x P) : Wp (must (room n b) x) P := wp_must h k
theorem wp_on {S R : Type} [Inhabited S] {W : Bool} {x : Option S} {k : S → Option R} {P : R → Prop} {Q : S → Prop} (h : W = true → Wp x Q) (hk : ∀ s, (W = true → Q s) → Wp (k s) P) : Wp (bindO (bif W then x else some default) k) P := by
 cases W
 · exact hk _ (fun h => by cases h)
 · exact wp_bind (h rfl) (fun s hs => hk s (fun _ => hs))
end Go.Sp
end
/- Rules for plain laws, more of them. No program in sight. -/
section
set_option linter.all false
namespace Go.Sp
open Go.Av
theorem wp_forall {R : Type} {body : Nat → Unit → (Unit → Option R) → Option R} {ex : Unit → Option R} {n : Nat} {P : R → Prop} (good : Nat → Prop)
   (hb : ∀ (i : Nat) (K : Option R), i < n → (∀ j, j < i → good j) → (good i → Wp K P) → Wp (body i () (fun _ => K)) P) (he : (∀ j, j < n → good j) → Wp (ex ()) P) : Wp (rangeGo body ex n 0 ()) P := by
 refine wp_range (fun i _ => ∀ j, j < i → good j) (fun j hj => by omega) (fun i s K hi hI hK => ?_) (fun s hs => he hs)
 have e : K = fun _ => K () := funext fun u => rfl
 rw [e]
 exact hb i (K ()) hi hI (fun g => hK () (fun j hj => by
   by_cases e : j = i
   · rw [e]; exact g
   · exact hI j (by omega)))
theorem wp_onE {S R : Type} {W : Bool} {x y : Option S} {k : S → Option R} {P : R → Prop} {v : S} (hW : W = true) (h : x = some v) (hk : Wp (k v) P) : Wp (bindO (bif W then x else y) k) P := by
 subst hW; rw [h]; exact hk
theorem wp_offE {S R : Type} {W : Bool} {x y : Option S} {k : S → Option R} {P : R → Prop} {v : S} (hW : W = false) (h : y = some v) (hk : Wp (k v) P) : Wp (bindO (bif W then x else y) k) P := by
 subst hW; rw [h]; exact hk
theorem must_yes {R : Type} {c : Prop} [Decidable c] (h : c) (x : Option R) : must c x = x := if_pos h
theorem getD_set {T : Type} (l : List T) (i j : Nat) (x d : T) (hi : i < l.length) : (l.set i x).getD j d = if j = i then x else l.getD j d := by
 simp only [List.getD_eq_getElem?_getD]
 by_cases e : j = i
 · subst e; rw [List.getElem?_set_self hi, if_pos rfl]; rfl
 · rw [List.getElem?_set_ne (fun h => e h.symm), if_neg e]
theorem getD_replicate {T : Type} (n i : Nat) (x : T) : (List.replicate n x).getD i x = x := by
 simp only [List.getD_eq_getElem?_getD, List.getElem?_replicate]
 split <;> rfl
theorem getD_mem {T : Type} [Inhabited T] {l : List T} {i : Nat} (h : i < l.length) : l.getD i default ∈ l := by
 rw [List.getD_eq_getElem?_getD, List.getElem?_eq_getElem h]; exact List.getElem_mem h
theorem mem_getD {T : Type} [Inhabited T] {l : List T} {x : T} (h : x ∈ l) : ∃ i, i < l.length ∧ l.getD i default = x := by
 obtain ⟨i, hi, rfl⟩ := List.getElem_of_mem h
 exact ⟨i, hi, by rw [List.getD_eq_getElem?_getD, List.getElem?_eq_getElem hi]; rfl⟩
theorem getD_take {T : Type} (l : List T) (n i : Nat) (d : T) : (l.take n).getD i d = if i < n then l.getD i d else d := by
 simp only [List.getD_eq_getElem?_getD, List.getElem?_take]
 split <;> rfl
theorem ext_getD {T : Type} [Inhabited T] {l r : List T} (hl : l.length = r.length) (h : ∀ i, i < l.length → l.getD i default = r.getD i default) : l = r := by
 refine List.ext_getElem hl (fun i h1 h2 => ?_)
 have := h i h1
 rw [List.getD_eq_getElem?_getD, List.getD_eq_getElem?_getD, List.getElem?_eq_getElem h1, List.getElem?_eq_getElem h2] at this
 exact this
theorem nodup_le {T : Type} [DecidableEq T] : ∀ {l r : List T}, l.Nodup → (∀ x ∈ l, x ∈ r) → l.length ≤ r.length
 | [], r, _, _ => Nat.zero_le _
 | x :: l, r, hn, hs => by
   have hx := hs x List.mem_cons_self
   rw [List.nodup_cons] at hn
   have := nodup_le (l := l) (r := r.erase x) hn.2 (fun y hy => (List.mem_erase_of_ne (fun (e : y = x) => hn.1 (e ▸ hy))).2 (hs y (List.mem_cons_of_mem _ hy)))
   rw [List.length_erase_of_mem hx] at this
   have := List.length_pos_of_mem hx
   simp only [List.length_cons]; omega
theorem nodup_inj {S T : Type} {f : S → T} : ∀ {l : List S}, l.Nodup → (∀ x ∈ l, ∀ y ∈ l, f x = f y → x = y) → (l.map f).Nodup
 | [], _, _ => List.nodup_nil
 | x :: l, hn, hi => by
   rw [List.nodup_cons] at hn
   rw [List.map_cons, List.nodup_cons]
   refine ⟨fun hm => ?_, nodup_inj hn.2 (fun a ha b hb => hi a (List.mem_cons_of_mem _ ha) b (List.mem_cons_of_mem _ hb))⟩
   obtain ⟨y, hy, e⟩ := List.mem_map.1 hm
   have := hi x List.mem_cons_self y (List.mem_cons_of_mem _ hy) e.symm
   exact hn.1 (this ▸ hy)
theorem length_le_inj {S T : Type} [DecidableEq T] {l : List S} {r : List T} (f : S → T) (hn : l.Nodup) (hm : ∀ x ∈ l, f x ∈ r) (hi : ∀ x ∈ l, ∀ y ∈ l, f x = f y → x = y) : l.length ≤ r.length := by
 have := nodup_le (nodup_inj hn hi) (r := r) (fun y hy => by obtain ⟨x, hx, rfl⟩ := List.mem_map.1 hy; exact hm x hx)
 rwa [List.length_map] at this
theorem or_bit {n j k : Nat} : (n ||| 2 ^ j).testBit k = (n.testBit k || decide (k = j)) := by
 rw [Nat.testBit_or, Nat.testBit_two_pow]
 congr 1
 exact decide_eq_decide.2 eq_comm
theorem or_lt {n j m : Nat} (hn : n < 2 ^ m) (hj : j < m) : n ||| 2 ^ j < 2 ^ m := Nat.or_lt_two_pow hn (Nat.pow_lt_pow_right (by omega) hj)
theorem emit_range {A : Type} {body : Nat → Unit → (Unit → Option (List A)) → Option (List A)} {n : Nat} (W : Nat → Bool) (x : Nat → A)
   (hb : ∀ (i : Nat) (r : Option (List A)), i < n → body i () (fun _ => r) = emitIf (W i) (x i) r) : rangeGo body (fun _ => some []) n 0 () = some (((List.range' 0 n).filter W).map x) := by
 have go : ∀ m i, i + m = n → rangeGo body (fun _ => some []) m i () = some (((List.range' i m).filter W).map x) := by
   intro m
   induction m with
   | zero => intro i _; rfl
   | succ m ih =>
     intro i hi
     have e : rangeGo body (fun _ => some []) (m + 1) i () = body i () (fun u => rangeGo body (fun _ => some []) m (i + 1) u) := rfl
     rw [e]
     have e2 : (fun u => rangeGo body (fun _ => some ([] : List A)) m (i + 1) u) = fun _ => some (((List.range' (i + 1) m).filter W).map x) := by
       funext u; exact ih (i + 1) (by omega)
     rw [e2, hb i _ (by omega), List.range'_succ, List.filter_cons]
     cases W i <;> rfl
 exact go n 0 (by omega)
def mu (n : Nat) (P : Nat → Bool) : Nat := (List.range n).countP (fun k => !P k)
theorem mu_le (n : Nat) (P : Nat → Bool) : mu n P ≤ n := by
 have := List.countP_le_length (p := fun k => !P k) (l := List.range n)
 rwa [List.length_range] at this
theorem mu_mono {n : Nat} {P Q : Nat → Bool} (h : ∀ k, P k = true → Q k = true) : mu n Q ≤ mu n P :=
 List.countP_mono_left (fun k _ hk => by
   cases hP : P k with
   | false => rfl
   | true => rw [h k hP] at hk; cases hk)
theorem countP_lt {T : Type} {p q : T → Bool} {a : T} : ∀ {l : List T}, (∀ x, x ∈ l → p x = true → q x = true) → a ∈ l → q a = true → p a = false → l.countP p < l.countP q
 | x :: l, h, ha, hq, hp => by
   rw [List.countP_cons, List.countP_cons]
   have hm : l.countP p ≤ l.countP q := List.countP_mono_left (fun y hy => h y (List.mem_cons_of_mem _ hy))
   rcases List.mem_cons.1 ha with rfl | ha
   · rw [hp, hq]; simp; omega
   · have := countP_lt (l := l) (fun y hy => h y (List.mem_cons_of_mem _ hy)) ha hq hp
     have hx := h x List.mem_cons_self
     cases hpx : p x with
     | false => simp; omega
     | true => rw [hx hpx]; simp; omega
theorem mu_lt {n j : Nat} {P Q : Nat → Bool} (h : ∀ k, P k = true → Q k = true) (hj : j < n) (hP : P j = false) (hQ : Q j = true) : mu n Q < mu n P :=
 countP_lt (a := j) (fun k _ hk => by
   cases hPk : P k with
   | false => rfl
   | true => rw [h k hPk] at hk; cases hk) (List.mem_range.2 hj) (by rw [hP]; rfl) (by rw [hQ]; rfl)
end Go.Sp
end
/- Matchings: a search for a free partner, where others step aside; what it leaves. No program in sight. -/
section
set_option linter.all false
namespace Go.Sp
structure Ks where
 seen : Nat → Bool
 own : Nat → Int
 back : Nat → Int
def Ks.see (s : Ks) (j : Nat) : Ks := ⟨fun k => s.seen k || decide (k = j), s.own, s.back⟩
def Ks.give (s : Ks) (j i : Nat) : Ks := ⟨s.seen, fun k => if k = j then (i : Int) else s.own k, fun k => if k = i then (j : Int) else s.back k⟩
inductive Srch (adj : Nat → Nat → Prop) (m : Nat) : Nat → Nat → Ks → Bool → Ks → Prop
 | done {i j : Nat} {s : Ks} : m ≤ j → Srch adj m i j s false s
 | skip {i j : Nat} {s s' : Ks} {b : Bool} : j < m → (adj i j → s.seen j = true) → Srch adj m i (j + 1) s b s' → Srch adj m i j s b s'
 | free {i j : Nat} {s : Ks} : j < m → adj i j → s.seen j = false → s.own j < 0 → Srch adj m i j s true ((s.see j).give j i)
 | aug {i j o : Nat} {s s' : Ks} : j < m → adj i j → s.seen j = false → s.own j = (o : Int) → Srch adj m o 0 (s.see j) true s' → Srch adj m i j s true (s'.give j i)
 | fail {i j o : Nat} {s s1 s' : Ks} {b : Bool} : j < m → adj i j → s.seen j = false → s.own j = (o : Int) → Srch adj m o 0 (s.see j) false s1 → Srch adj m i (j + 1) s1 b s' → Srch adj m i j s b s'
variable {adj : Nat → Nat → Prop} {m : Nat}
theorem Srch.mono {i j : Nat} {s s' : Ks} {b : Bool} (H : Srch adj m i j s b s') : ∀ k, s.seen k = true → s'.seen k = true := by
 induction H with
 | done _ => exact fun k h => h
 | skip _ _ _ ih => exact ih
 | free => intro k h; show (_ || _) = true; rw [h]; rfl
 | aug _ _ _ _ _ ih => intro k h; exact ih k (by show (_ || _) = true; rw [h]; rfl)
 | fail _ _ _ _ _ _ ih1 ih2 => intro k h; exact ih2 k (ih1 k (by show (_ || _) = true; rw [h]; rfl))
theorem Srch.own_seen {i j : Nat} {s s' : Ks} {b : Bool} (H : Srch adj m i j s b s') : ∀ k, s.seen k = true → s'.own k = s.own k := by
 induction H with
 | done _ => exact fun k _ => rfl
 | skip _ _ _ ih => exact ih
 | @free i j s hj ha hs ho => intro k h; show (if k = j then _ else _) = _; rw [if_neg (fun e => by subst e; rw [hs] at h; cases h)]; rfl
 | @aug i j o s s' hj ha hs ho hr ih =>
   intro k h
   show (if k = j then _ else _) = _
   rw [if_neg (fun e => by subst e; rw [hs] at h; cases h)]
   exact ih k (by show (_ || _) = true; rw [h]; rfl)
 | @fail i j o s s1 s' b _ _ _ _ h1 _ ih1 ih2 =>
   intro k h
   have h' : (s.see j).seen k = true := by show (_ || _) = true; rw [h]; rfl
   rw [ih2 k (h1.mono k h'), ih1 k h']; rfl
theorem Srch.same {i j : Nat} {s s' : Ks} {b : Bool} (H : Srch adj m i j s b s') : b = false → s'.own = s.own ∧ s'.back = s.back := by
 induction H with
 | done _ => exact fun _ => ⟨rfl, rfl⟩
 | skip _ _ _ ih => exact ih
 | free => intro h; cases h
 | aug => intro h; cases h
 | fail _ _ _ _ _ _ ih1 ih2 => intro h; obtain ⟨a, b⟩ := ih2 h; obtain ⟨c, d⟩ := ih1 rfl; exact ⟨a.trans c, b.trans d⟩
theorem Srch.shut {i j : Nat} {s s' : Ks} {b : Bool} (H : Srch adj m i j s b s') : b = false → (∀ k, j ≤ k → k < m → adj i k → s'.seen k = true) ∧
   ∀ k, s'.seen k = true → s.seen k = false → k < m ∧ ∃ o : Nat, s.own k = (o : Int) ∧ ∀ q, q < m → adj o q → s'.seen q = true := by
 induction H with
 | done h => intro _; exact ⟨fun k h1 h2 => by omega, fun k h1 h2 => by rw [h1] at h2; cases h2⟩
 | @skip i j s s' b hj ha hr ih =>
   intro hb
   obtain ⟨h1, h2⟩ := ih hb
   refine ⟨fun k hk hm hadj => ?_, h2⟩
   by_cases e : k = j
   · subst e; exact hr.mono k (ha hadj)
   · exact h1 k (by omega) hm hadj
 | free => intro h; cases h
 | aug => intro h; cases h
 | @fail i j o s s1 s' b hj ha hs ho hr1 hr2 ih1 ih2 =>
   intro hb
   obtain ⟨a1, a2⟩ := ih1 rfl
   obtain ⟨b1, b2⟩ := ih2 hb
   have hsee : (s.see j).seen j = true := by show (_ || _) = true; simp
   have hown := (hr1.same rfl).1
   refine ⟨fun k hk hm hadj => ?_, fun k h1 h2 => ?_⟩
   · by_cases e : k = j
     · subst e; exact hr2.mono k (hr1.mono k hsee)
     · exact b1 k (by omega) hm hadj
   · by_cases e1 : s1.seen k = true
     · by_cases e : k = j
       · subst e
         exact ⟨hj, o, ho, fun q hq hadj => hr2.mono q (a1 q (Nat.zero_le _) hq hadj)⟩
       · obtain ⟨c0, o', c1, c2⟩ := a2 k e1 (by show (_ || _) = false; rw [h2]; simp [e])
         exact ⟨c0, o', c1, fun q hq hadj => hr2.mono q (c2 q hq hadj)⟩
     · obtain ⟨c0, o', c1, c2⟩ := b2 k h1 (by simpa using e1)
       rw [hown] at c1
       exact ⟨c0, o', c1, c2⟩
structure Mat (adj : Nat → Nat → Prop) (m : Nat) (s : Ks) : Prop where
 back : ∀ x : Nat, 0 ≤ s.back x → ∃ k : Nat, s.back x = (k : Int) ∧ k < m ∧ s.own k = (x : Int) ∧ adj x k
 own : ∀ k : Nat, k < m → 0 ≤ s.own k → ∃ x : Nat, s.own k = (x : Int) ∧ s.back x = (k : Int)
structure Done (adj : Nat → Nat → Prop) (m : Nat) (i : Nat) (s s' : Ks) : Prop where
 back : ∀ x : Nat, 0 ≤ s'.back x → ∃ k : Nat, s'.back x = (k : Int) ∧ k < m ∧ s'.own k = (x : Int) ∧ adj x k
 own : ∀ k : Nat, k < m → 0 ≤ s'.own k → ∃ x : Nat, s'.own k = (x : Int) ∧ (s'.back x = (k : Int) ∨ (x = i ∧ s.back i = (k : Int)))
 new : ∃ k : Nat, s'.back i = (k : Int) ∧ s.seen k = false
 rest : ∀ x : Nat, x ≠ i → (0 ≤ s'.back x ↔ 0 ≤ s.back x) ∧ (s'.back x = s.back x ∨ ∃ k : Nat, s.back x = (k : Int) ∧ s.seen k = false)
theorem Srch.win {i j : Nat} {s s' : Ks} {b : Bool} (H : Srch adj m i j s b s') : b = true → Mat adj m s → (∀ k : Nat, s.back i = (k : Int) → s.seen k = true) → Done adj m i s s' := by
 induction H with
 | done _ => intro h; cases h
 | skip _ _ _ ih => exact ih
 | @free i j s hj ha hs ho =>
   intro _ M hi
   refine ⟨fun x hx => ?_, fun k hk hx => ?_, ⟨j, by show (if i = i then _ else _) = _; rw [if_pos rfl], hs⟩, fun x hx => ?_⟩
   · by_cases e : x = i
     · subst e
       refine ⟨j, by show (if x = x then _ else _) = _; rw [if_pos rfl], hj, by show (if j = j then _ else _) = _; rw [if_pos rfl], ha⟩
     · have eb : ((s.see j).give j i).back x = s.back x := by show (if x = i then _ else _) = _; rw [if_neg e]; rfl
       rw [eb] at hx ⊢
       obtain ⟨k, h1, h2, h3, h4⟩ := M.back x hx
       refine ⟨k, h1, h2, ?_, h4⟩
       show (if k = j then _ else _) = _
       rw [if_neg (fun e => by subst e; omega)]; exact h3
   · by_cases e : k = j
     · subst e
       exact ⟨i, by show (if k = k then _ else _) = _; rw [if_pos rfl], .inl (by show (if i = i then _ else _) = _; rw [if_pos rfl])⟩
     · have eo : ((s.see j).give j i).own k = s.own k := by show (if k = j then _ else _) = _; rw [if_neg e]; rfl
       rw [eo] at hx ⊢
       obtain ⟨x, h1, h2⟩ := M.own k hk hx
       refine ⟨x, h1, ?_⟩
       by_cases e2 : x = i
       · subst e2; exact .inr ⟨rfl, h2⟩
       · left; show (if x = i then _ else _) = _; rw [if_neg e2]; exact h2
   · have eb : ((s.see j).give j i).back x = s.back x := by show (if x = i then _ else _) = _; rw [if_neg hx]; rfl
     rw [eb]
     exact ⟨Iff.rfl, .inl rfl⟩
 | @aug i j o s s' hj ha hs ho hr ih =>
   intro _ M hi
   have hbo : s.back o = (j : Int) := by
     obtain ⟨x, h1, h2⟩ := M.own j hj (by omega)
     have : x = o := by omega
     subst this; exact h2
   have hio : i ≠ o := fun e => by subst e; have := hi j hbo; rw [hs] at this; cases this
   have M2 : Mat adj m (s.see j) := ⟨M.back, M.own⟩
   have D := ih rfl M2 (fun k hk => by
     have : k = j := by have : (s.see j).back o = s.back o := rfl; omega
     subst this; show (_ || _) = true; simp)
   have hownj : s'.own j = (o : Int) := by rw [hr.own_seen j (by show (_ || _) = true; simp)]; exact ho
   obtain ⟨j', hj', hns⟩ := D.new
   have hjj : j' ≠ j := fun e => by subst e; have : (s.see j').seen j' = true := by show (_ || _) = true; simp
                                    rw [this] at hns; cases hns
   have hbi : s'.back i = s.back i := by
     rcases (D.rest i hio).2 with h | ⟨k, h1, h2⟩
     · exact h
     · have h3 := hi k h1
       have : (s.see j).seen k = true := by show (_ || _) = true; rw [h3]; rfl
       rw [this] at h2; cases h2
   refine ⟨fun x hx => ?_, fun k hk hx => ?_, ⟨j, by show (if i = i then _ else _) = _; rw [if_pos rfl], hs⟩, fun x hx => ?_⟩
   · by_cases e : x = i
     · subst e
       exact ⟨j, by show (if x = x then _ else _) = _; rw [if_pos rfl], hj, by show (if j = j then _ else _) = _; rw [if_pos rfl], ha⟩
     · have eb : (s'.give j i).back x = s'.back x := by show (if x = i then _ else _) = _; rw [if_neg e]
       rw [eb] at hx ⊢
       obtain ⟨k, h1, h2, h3, h4⟩ := D.back x hx
       refine ⟨k, h1, h2, ?_, h4⟩
       show (if k = j then _ else _) = _
       rw [if_neg (fun e => by
         subst e
         have : x = o := by omega
         subst this; omega)]
       exact h3
   · by_cases e : k = j
     · subst e
       exact ⟨i, by show (if k = k then _ else _) = _; rw [if_pos rfl], .inl (by show (if i = i then _ else _) = _; rw [if_pos rfl])⟩
     · have eo : (s'.give j i).own k = s'.own k := by show (if k = j then _ else _) = _; rw [if_neg e]
       rw [eo] at hx ⊢
       obtain ⟨x, h1, h2⟩ := D.own k hk hx
       refine ⟨x, h1, ?_⟩
       rcases h2 with h2 | ⟨h2, h3⟩
       · by_cases e2 : x = i
         · subst e2; exact .inr ⟨rfl, by rw [← hbi]; exact h2⟩
         · left; show (if x = i then _ else _) = _; rw [if_neg e2]; exact h2
       · exfalso
         have : (s.see j).back o = s.back o := rfl
         omega
   · have eb : (s'.give j i).back x = s'.back x := by show (if x = i then _ else _) = _; rw [if_neg hx]
     rw [eb]
     by_cases e : x = o
     · subst e
       exact ⟨⟨fun _ => by omega, fun _ => by omega⟩, .inr ⟨j, hbo, hs⟩⟩
     · obtain ⟨h1, h2⟩ := D.rest x e
       refine ⟨h1, ?_⟩
       rcases h2 with h2 | ⟨k, h2, h3⟩
       · exact .inl h2
       · exact .inr ⟨k, h2, by have : (s.seen k || decide (k = j)) = false := h3; simp at this; exact this.1⟩
 | @fail i j o s s1 s' b hj ha hs ho hr1 hr2 ih1 ih2 =>
   intro hb M hi
   obtain ⟨e1, e2⟩ := hr1.same rfl
   have e1 : s1.own = s.own := e1
   have e2 : s1.back = s.back := e2
   have hm : ∀ k, s.seen k = true → s1.seen k = true := fun k h => hr1.mono k (by show (_ || _) = true; rw [h]; rfl)
   have D := ih2 hb ⟨by rw [e1, e2]; exact M.back, by rw [e1, e2]; exact M.own⟩ (fun k hk => hm k (hi k (by rw [← e2]; exact hk)))
   have hf : ∀ k, s1.seen k = false → s.seen k = false := fun k h => by
     cases h' : s.seen k with
     | false => rfl
     | true => rw [hm k h'] at h; cases h
   refine ⟨D.back, by have := D.own; rwa [e2] at this, ?_, fun x hx => ?_⟩
   · obtain ⟨k, h1, h2⟩ := D.new; exact ⟨k, h1, hf k h2⟩
   · obtain ⟨h1, h2⟩ := D.rest x hx
     rw [e2] at h1 h2
     refine ⟨h1, ?_⟩
     rcases h2 with h2 | ⟨k, h2, h3⟩
     · exact .inl h2
     · exact .inr ⟨k, h2, hf k h3⟩
def Dead (adj : Nat → Nat → Prop) (m : Nat) (own : Nat → Int) (D : Nat → Prop) : Prop := ∀ k, k < m → D k → ∃ o : Nat, own k = (o : Int) ∧ ∀ q, q < m → adj o q → D q
theorem Srch.lost {i j : Nat} {s s' : Ks} {b : Bool} (H : Srch adj m i j s b s') {D : Nat → Prop} : Dead adj m s.own D → (∀ q, q < m → adj i q → D q) → b = false := by
 induction H with
 | done _ => intro _ _; rfl
 | skip _ _ _ ih => exact ih
 | @free i j s hj ha hs ho => intro hD hi; obtain ⟨o, h, _⟩ := hD j hj (hi j hj ha); omega
 | @aug i j o s s' hj ha hs ho hr ih =>
   intro hD hi
   obtain ⟨o', h, h2⟩ := hD j hj (hi j hj ha)
   have : o' = o := by omega
   subst this
   exact ih hD h2
 | @fail i j o s s1 s' b hj ha hs ho hr1 hr2 ih1 ih2 =>
   intro hD hi
   have e1 : s1.own = s.own := (hr1.same rfl).1
   exact ih2 (by rw [e1]; exact hD) hi
theorem Srch.kept {i j : Nat} {s s' : Ks} {b : Bool} (H : Srch adj m i j s b s') {D : Nat → Prop} : Dead adj m s.own D → ∀ k, k < m → D k → s'.own k = s.own k := by
 induction H with
 | done _ => intro _ k _ _; rfl
 | skip _ _ _ ih => exact ih
 | @free i j s hj ha hs ho =>
   intro hD k hk hd
   obtain ⟨o, h, _⟩ := hD k hk hd
   show (if k = j then _ else _) = _
   rw [if_neg (fun e => by subst e; omega)]; rfl
 | @aug i j o s s' hj ha hs ho hr ih =>
   intro hD k hk hd
   show (if k = j then _ else _) = _
   rw [if_neg (fun e => by
     subst e
     obtain ⟨o', h, h2⟩ := hD k hk hd
     have : o' = o := by omega
     subst this
     have := hr.lost hD h2
     cases this)]
   exact ih hD k hk hd
 | @fail i j o s s1 s' b hj ha hs ho hr1 hr2 ih1 ih2 =>
   intro hD k hk hd
   have e1 : s1.own = s.own := (hr1.same rfl).1
   rw [ih2 (by rw [e1]; exact hD) k hk hd, e1]
structure Kuhn (adj : Nat → Nat → Prop) (m : Nat) (n : Nat) (s : Ks) (D : Nat → Prop) : Prop where
 mat : Mat adj m s
 dead : Dead adj m s.own D
 lost : ∀ x : Nat, x < n → s.back x < 0 → ∀ q, q < m → adj x q → D q
 rest : ∀ x : Nat, n ≤ x → s.back x < 0
 lt : ∀ k, D k → k < m
theorem Kuhn.start {s : Ks} (h1 : ∀ k, s.own k < 0) (h2 : ∀ x, s.back x < 0) : Kuhn adj m 0 s (fun _ => False) :=
 ⟨⟨fun x hx => by have := h2 x; omega, fun k _ hx => by have := h1 k; omega⟩, fun k _ h => h.elim, fun x hx => by omega, fun x _ => h2 x, fun k h => h.elim⟩
theorem Kuhn.step {n : Nat} {s s' : Ks} {D : Nat → Prop} {b : Bool} (K : Kuhn adj m n s D) (hs : ∀ k, s.seen k = false) (H : Srch adj m n 0 s b s') : ∃ D', Kuhn adj m (n + 1) s' D' ∧ (b = true ↔ 0 ≤ s'.back n) ∧ ∀ x : Nat, x ≠ n → (0 ≤ s'.back x ↔ 0 ≤ s.back x) := by
 have hn := K.rest n (Nat.le_refl _)
 cases hb : b with
 | false =>
   obtain ⟨e1, e2⟩ := H.same hb
   obtain ⟨a1, a2⟩ := H.shut hb
   refine ⟨fun k => D k ∨ s'.seen k = true, ⟨⟨by rw [e1, e2]; exact K.mat.back, by rw [e1, e2]; exact K.mat.own⟩, fun k hk hd => ?_, fun x hx hbx q hq hadj => ?_, fun x hx => ?_, fun k hd => ?_⟩, ?_, fun x _ => by rw [e2]⟩
   · rw [e1]
     rcases hd with hd | hd
     · obtain ⟨o, h1, h2⟩ := K.dead k hk hd; exact ⟨o, h1, fun q hq ha => .inl (h2 q hq ha)⟩
     · obtain ⟨_, o, h1, h2⟩ := a2 k hd (hs k); exact ⟨o, h1, fun q hq ha => .inr (h2 q hq ha)⟩
   · by_cases e : x = n
     · subst e; exact .inr (a1 q (Nat.zero_le _) hq hadj)
     · rw [e2] at hbx; exact .inl (K.lost x (by omega) hbx q hq hadj)
   · rw [e2]; exact K.rest x (by omega)
   · rcases hd with hd | hd
     · exact K.lt k hd
     · exact (a2 k hd (hs k)).1
   · rw [e2]; constructor
     · intro h; cases h
     · intro h; omega
 | true =>
   have W := H.win hb K.mat (fun k hk => by omega)
   have hk := H.kept K.dead
   obtain ⟨k0, h0, _⟩ := W.new
   refine ⟨D, ⟨⟨W.back, fun k hkm hx => ?_⟩, fun k hkm hd => ?_, fun x hx hbx => ?_, fun x hx => ?_, K.lt⟩, ⟨fun _ => by omega, fun _ => rfl⟩, fun x hx => (W.rest x hx).1⟩
   · obtain ⟨x, h1, h2⟩ := W.own k hkm hx
     rcases h2 with h2 | ⟨rfl, h2⟩
     · exact ⟨x, h1, h2⟩
     · omega
   · rw [hk k hkm hd]; exact K.dead k hkm hd
   · have hxn : x ≠ n := fun e => by subst e; omega
     have := (W.rest x hxn).1
     exact K.lost x (by omega) (by omega)
   · have := (W.rest x (by omega)).1
     have := K.rest x (by omega)
     omega
end Go.Sp
end
/- Matchings: whether all of some can have one each; Hall's condition. No program in sight. -/
section
set_option linter.all false
namespace Go.Sp
set_option maxRecDepth 100000
theorem hallK {adj : Nat → Nat → Prop} {m i : Nat} {s s' : Ks} (M : Mat adj m s) (hs : ∀ k, s.seen k = false) (hi : s.back i < 0) (H : Srch adj m i 0 s false s') {R : Nat → Prop} (Ri : R i) (hR : ∀ x : Nat, 0 ≤ s.back x → R x) {g : Nat → Nat}
   (hg : ∀ x, R x → g x < m ∧ adj x (g x)) (hinj : ∀ x y, R x → R y → g x = g y → x = y) : False := by
 obtain ⟨a1, a2⟩ := H.shut rfl
 let S := (List.range m).filter (fun k => s'.seen k)
 have hS : ∀ k, k ∈ S → k < m ∧ ∃ o : Nat, s.own k = (o : Int) ∧ R o ∧ s.back o = (k : Int) ∧ ∀ q, q < m → adj o q → s'.seen q = true := fun k hk => by
   simp only [S, List.mem_filter, List.mem_range] at hk
   obtain ⟨h0, o, h1, h2⟩ := a2 k hk.2 (hs k)
   obtain ⟨x, h3, h4⟩ := M.own k h0 (by omega)
   have : x = o := by omega
   subst this
   exact ⟨h0, x, h1, hR x (by omega), h4, h2⟩
 have hle := length_le_inj (l := i :: S.map (fun k => (s.own k).toNat)) (r := S) g (List.nodup_cons.2 ⟨fun hm => ?_, nodup_inj (List.Pairwise.filter _ List.nodup_range) (fun x hx y hy e => ?_)⟩) (fun x hx => ?_) (fun x hx y hy e => ?_)
 · rw [List.length_cons, List.length_map] at hle; omega
 · obtain ⟨k, hk, e⟩ := List.mem_map.1 hm
   obtain ⟨_, o, h1, _, h2, _⟩ := hS k hk
   have : o = i := by omega
   subst this; omega
 · obtain ⟨_, o, h1, _, h2, _⟩ := hS x hx
   obtain ⟨_, o', h3, _, h4, _⟩ := hS y hy
   have : o = o' := by omega
   subst this; omega
 · rcases List.mem_cons.1 hx with rfl | hx
   · obtain ⟨h1, h2⟩ := hg x Ri
     simp only [S, List.mem_filter, List.mem_range]; exact ⟨h1, a1 _ (Nat.zero_le _) h1 h2⟩
   · obtain ⟨k, hk, rfl⟩ := List.mem_map.1 hx
     obtain ⟨_, o, h1, h2, _, h3⟩ := hS k hk
     obtain ⟨h4, h5⟩ := hg o h2
     rw [h1, Int.toNat_natCast]
     simp only [S, List.mem_filter, List.mem_range]; exact ⟨h4, h3 _ h4 h5⟩
 · have inR : ∀ x, x ∈ i :: S.map (fun k => (s.own k).toNat) → R x := fun x hx => by
     rcases List.mem_cons.1 hx with rfl | hx
     · exact Ri
     · obtain ⟨k, hk, rfl⟩ := List.mem_map.1 hx
       obtain ⟨_, o, h1, h2, _⟩ := hS k hk
       rw [h1, Int.toNat_natCast]; exact h2
   exact hinj x y (inR x hx) (inR y hy) e
theorem Done.matK {adj : Nat → Nat → Prop} {m i : Nat} {s s' : Ks} (W : Done adj m i s s') (hi : s.back i < 0) : Mat adj m s' := by
 refine ⟨W.back, fun k hkm hx => ?_⟩
 obtain ⟨x, h1, h2⟩ := W.own k hkm hx
 rcases h2 with h2 | ⟨rfl, h2⟩
 · exact ⟨x, h1, h2⟩
 · omega
theorem srchK_inner {adj : Nat → Nat → Prop} {m f : Nat} (ih : ∀ (i : Nat) (s : Ks), mu m s.seen < f → ∃ b s', Srch adj m i 0 s b s') (i : Nat) : ∀ (q j : Nat) (s : Ks), m - j ≤ q → mu m s.seen < f + 1 → ∃ b s', Srch adj m i j s b s'
 | 0, j, s, h, _ => ⟨false, s, .done (by omega)⟩
 | q + 1, j, s, h, hm => by
   by_cases hj : j < m
   · by_cases hc : adj i j → s.seen j = true
     · obtain ⟨b, s', h'⟩ := srchK_inner ih i q (j + 1) s (by omega) hm
       exact ⟨b, s', .skip hj hc h'⟩
     · have ha : adj i j := Classical.byContradiction fun h => hc (fun h' => absurd h' h)
       have hs : s.seen j = false := by
         cases h : s.seen j with
         | false => rfl
         | true => exact absurd (fun _ => h) hc
       by_cases ho : s.own j < 0
       · exact ⟨_, _, .free hj ha hs ho⟩
       · obtain ⟨o, ho⟩ := Int.eq_ofNat_of_zero_le (show 0 ≤ s.own j by omega)
         have hlt : mu m (s.see j).seen < mu m s.seen := mu_lt (j := j) (fun k h => by show (_ || _) = true; rw [h]; rfl) hj hs (by show (_ || _) = true; simp)
         obtain ⟨b, s1, h1⟩ := ih o (s.see j) (by omega)
         cases b with
         | true => exact ⟨_, _, .aug hj ha hs ho h1⟩
         | false =>
           have := mu_mono (n := m) h1.mono
           obtain ⟨b', s', h'⟩ := srchK_inner ih i q (j + 1) s1 (by omega) (by omega)
           exact ⟨b', s', .fail hj ha hs ho h1 h'⟩
   · exact ⟨false, s, .done (by omega)⟩
theorem srchK_ex {adj : Nat → Nat → Prop} {m : Nat} : ∀ (f i : Nat) (s : Ks), mu m s.seen < f → ∃ b s', Srch adj m i 0 s b s'
 | 0, _, _, h => by omega
 | f + 1, i, s, h => srchK_inner (srchK_ex f) i m 0 s (by omega) h
def InjK (adj : Nat → Nat → Prop) (m : Nat) (T : Nat → Prop) : Prop := ∃ g : Nat → Nat, (∀ k, T k → g k < m ∧ adj k (g k)) ∧ ∀ k k', T k → T k' → g k = g k' → k = k'
theorem tightK {adj : Nat → Nat → Prop} {m : Nat} {T : List Nat} (hno : ¬ InjK adj m (· ∈ T)) (hone : ∀ x ∈ T, InjK adj m (fun k => k ∈ T ∧ k ≠ x)) {N : List Nat} (hN : N.Nodup) (hN' : ∀ q ∈ N, q < m ∧ ∃ k ∈ T, adj k q) : N.length < T.length := by
 have hne : ∃ x, x ∈ T := by
   cases T with
   | nil => exact absurd ⟨fun _ => 0, fun k h => (by cases h), fun k k' h => (by cases h)⟩ hno
   | cons a l => exact ⟨a, List.mem_cons_self ..⟩
 obtain ⟨x, hx⟩ := hne
 obtain ⟨g, g1, g2⟩ := hone x hx
 classical
 let T' : Nat → Prop := fun k => k ∈ T ∧ k ≠ x
 let s : Ks := ⟨fun _ => false, fun k => if h : ∃ y, T' y ∧ g y = k then (h.choose : Int) else -1, fun y => if T' y then (g y : Int) else -1⟩
 have sown : ∀ y, T' y → s.own (g y) = (y : Int) := fun y hy => by
   have he : ∃ z, T' z ∧ g z = g y := ⟨y, hy, rfl⟩
   show (if h : ∃ z, T' z ∧ g z = g y then (h.choose : Int) else -1) = _
   rw [dif_pos he, g2 _ _ he.choose_spec.1 hy he.choose_spec.2]
 have M : Mat adj m s := by
   refine ⟨fun y hy => ?_, fun k hk hy => ?_⟩
   · have hy : (0 : Int) ≤ if T' y then (g y : Int) else -1 := hy
     by_cases h : T' y
     · exact ⟨g y, by show (if T' y then _ else _) = _; rw [if_pos h], (g1 y h).1, sown y h, (g1 y h).2⟩
     · rw [if_neg h] at hy; omega
   · have hy' : (0 : Int) ≤ if h : ∃ y, T' y ∧ g y = k then (h.choose : Int) else -1 := hy
     by_cases h : ∃ y, T' y ∧ g y = k
     · obtain ⟨y, h1, rfl⟩ := h
       exact ⟨y, sown y h1, by show (if T' y then _ else _) = _; rw [if_pos h1]⟩
     · rw [dif_neg h] at hy'; omega
 have hbx : s.back x < 0 := by
   show (if T' x then (g x : Int) else -1) < 0
   rw [if_neg (fun h => h.2 rfl)]; omega
 obtain ⟨b, s', H⟩ := srchK_ex (adj := adj) (m := m) (m + 1) x s (by have := mu_le m s.seen; omega)
 cases b with
 | true =>
   exfalso
   have W := H.win rfl M (fun k hk => by omega)
   have M' := W.matK hbx
   have hb : ∀ k, k ∈ T → 0 ≤ s'.back k := fun k hk => by
     by_cases e : k = x
     · subst e; obtain ⟨q, hq, _⟩ := W.new; omega
     · refine (W.rest k e).1.2 ?_
       show (0 : Int) ≤ if T' k then (g k : Int) else -1
       rw [if_pos ⟨hk, e⟩]; omega
   refine hno ⟨fun k => (s'.back k).toNat, fun k hk => ?_, fun k k' hk hk' e => ?_⟩
   · obtain ⟨q, h1, h2, _, h4⟩ := M'.back k (hb k hk)
     dsimp only; rw [h1, Int.toNat_natCast]; exact ⟨h2, h4⟩
   · obtain ⟨q, h1, _, h3, _⟩ := M'.back k (hb k hk)
     obtain ⟨q', h1', _, h3', _⟩ := M'.back k' (hb k' hk')
     dsimp only at e
     rw [h1, h1', Int.toNat_natCast, Int.toNat_natCast] at e
     subst e; omega
 | false =>
   obtain ⟨a1, a2⟩ := H.shut rfl
   let S := (List.range m).filter (fun k => s'.seen k)
   have hS : ∀ k, k ∈ S → ∃ o : Nat, s.own k = (o : Int) ∧ T' o ∧ g o = k ∧ ∀ q, q < m → adj o q → s'.seen q = true := fun k hk => by
     simp only [S, List.mem_filter, List.mem_range] at hk
     obtain ⟨h0, o, h1, h2⟩ := a2 k hk.2 rfl
     obtain ⟨y, h3, h4⟩ := M.own k h0 (by omega)
     have : y = o := by omega
     subst this
     have h4' : (if T' y then (g y : Int) else -1) = (k : Int) := h4
     by_cases h : T' y
     · rw [if_pos h] at h4'; exact ⟨y, h1, h, by omega, h2⟩
     · rw [if_neg h] at h4'; omega
   have hSn : S.Nodup := List.Pairwise.filter _ List.nodup_range
   let R := x :: S.map (fun k => (s.own k).toNat)
   have hRl : R.length = S.length + 1 := by simp only [R, List.length_cons, List.length_map]
   have hRn : R.Nodup := by
     refine List.nodup_cons.2 ⟨fun hm => ?_, nodup_inj hSn (fun y hy z hz e => ?_)⟩
     · obtain ⟨k, hk, e⟩ := List.mem_map.1 hm
       obtain ⟨o, h1, h2, _⟩ := hS k hk
       exact h2.2 (by omega)
     · obtain ⟨o, h1, _, h3, _⟩ := hS y hy
       obtain ⟨o', h1', _, h3', _⟩ := hS z hz
       have : o = o' := by omega
       subst this; omega
   have hRT : ∀ y ∈ R, y ∈ T := fun y hy => by
     rcases List.mem_cons.1 hy with rfl | hy
     · exact hx
     · obtain ⟨k, hk, rfl⟩ := List.mem_map.1 hy
       obtain ⟨o, h1, h2, _⟩ := hS k hk
       rw [h1, Int.toNat_natCast]; exact h2.1
   have hRs : ∀ y ∈ R, ∀ q, q < m → adj y q → q ∈ S := fun y hy q hq ha => by
     simp only [S, List.mem_filter, List.mem_range]
     refine ⟨hq, ?_⟩
     rcases List.mem_cons.1 hy with rfl | hy
     · exact a1 q (Nat.zero_le _) hq ha
     · obtain ⟨k, hk, rfl⟩ := List.mem_map.1 hy
       obtain ⟨o, h1, _, _, h4⟩ := hS k hk
       rw [h1, Int.toNat_natCast] at ha
       exact h4 q hq ha
   have hTR : ∀ y ∈ T, y ∈ R := fun y hy => by
     refine Classical.byContradiction fun hyR => ?_
     obtain ⟨h, h1, h2⟩ := hone y hy
     have inT : ∀ z ∈ R, z ∈ T ∧ z ≠ y := fun z hz => ⟨hRT z hz, fun e => hyR (e ▸ hz)⟩
     have := length_le_inj (r := S) h hRn (fun z hz => hRs z hz _ (h1 z (inT z hz)).1 (h1 z (inT z hz)).2) (fun z hz z' hz' e => h2 z z' (inT z hz) (inT z' hz') e)
     omega
   have h1 := nodup_le hN (r := S) (fun q hq => by
     obtain ⟨h, k, hk, ha⟩ := hN' q hq
     exact hRs k (hTR k hk) q h ha)
   have h2 := nodup_le hRn (r := T) hRT
   omega
theorem hall_few {adj : Nat → Nat → Prop} {m : Nat} : ∀ (n : Nat) (T : List Nat), T.length ≤ n → T.Nodup → ¬ InjK adj m (· ∈ T) → ∃ T' : List Nat, (∀ x ∈ T', x ∈ T) ∧ T'.Nodup ∧ ∀ N : List Nat, N.Nodup → (∀ q ∈ N, q < m ∧ ∃ k ∈ T', adj k q) → N.length < T'.length
 | 0, T, hl, _, h => by
   have : T = [] := List.length_eq_zero_iff.1 (by omega)
   subst this
   exact absurd ⟨fun _ => 0, fun k h => (by cases h), fun k k' h => (by cases h)⟩ h
 | n + 1, T, hl, hd, h => by
     classical
     by_cases hone : ∀ x ∈ T, InjK adj m (fun k => k ∈ T ∧ k ≠ x)
     · exact ⟨T, fun x hx => hx, hd, fun N hN hN' => tightK h hone hN hN'⟩
     · obtain ⟨x, hx, hxn⟩ : ∃ x, x ∈ T ∧ ¬ InjK adj m (fun k => k ∈ T ∧ k ≠ x) := by
         apply Classical.byContradiction
         intro hc
         exact hone fun x hx => Classical.byContradiction fun hh => hc ⟨x, hx, hh⟩
       have hmem : ∀ k, k ∈ T.filter (fun k => decide (k ≠ x)) ↔ k ∈ T ∧ k ≠ x := fun k => by rw [List.mem_filter]; simp
       have hlt : (T.filter (fun k => decide (k ≠ x))).length < T.length := by
         refine List.length_filter_lt_length_iff_exists.2 ⟨x, hx, by simp⟩
       obtain ⟨T', h1, h2, h3⟩ := hall_few n (T.filter (fun k => decide (k ≠ x))) (by omega) (List.Pairwise.filter _ hd) (fun ⟨g, g1, g2⟩ => hxn ⟨g, fun k hk => g1 k ((hmem k).2 hk), fun k k' hk hk' => g2 k k' ((hmem k).2 hk) ((hmem k').2 hk')⟩)
       exact ⟨T', fun y hy => ((hmem y).1 (h1 y hy)).1, h2, h3⟩
end Go.Sp
end
/- Plain laws, fog: valid reports, what a view is, contradictions, the sight. No program in sight. -/
section
set_option linter.all false
namespace Go.Sp
open Go.Av
set_option maxRecDepth 100000
structure RepOk (x : Report) : Prop where
 src : 1 ≤ x.Source ∧ x.Source ≤ 99999
 dist : 1 ≤ x.District ∧ x.District ≤ 9
 night : 0 ≤ x.Night ∧ x.Night ≤ 100000
 time : 0 ≤ x.From ∧ x.From ≤ x.To ∧ x.To ≤ 1439
 sight : 0 ≤ x.Sight.Lo ∧ x.Sight.Lo ≤ x.Sight.Hi ∧ x.Sight.Hi ≤ 5000
 known : 0 ≤ x.Known ∧ x.Known ≤ 144001439
 till : x.Until = 0 ∨ (x.Known < x.Until ∧ 0 ≤ x.Until ∧ x.Until ≤ 144001439)
theorem fwithin_iff {a b c : Int} : fog_within a b c = true ↔ b ≤ a ∧ a ≤ c := by simp [fog_within]
theorem fcheck_or (x : Report) : fog_CheckReport x = 0 ∨ fog_CheckReport x = 50 := by
 unfold fog_CheckReport
 cases (((((((!(fog_within x.Source 1 99999)) || (!(fog_isDistrict x.District))) || (!(fog_isNight x.Night))) || (!(fog_isRange (⟨x.From, x.To⟩ : Range) 1439))) || (!(fog_isRange x.Sight 5000))) || (!(fog_isMoment x.Known))) || ((!decide (x.Until = 0)) && ((decide (x.Until ≤ x.Known)) || (!(fog_isMoment x.Until)))))
 · exact .inl rfl
 · exact .inr rfl
theorem frange_iff {r : Range} {c : Int} : fog_isRange r c = true ↔ 0 ≤ r.Lo ∧ r.Lo ≤ r.Hi ∧ r.Hi ≤ c := by simp [fog_isRange, and_assoc]
theorem fcheckReport_iff {x : Report} : fog_CheckReport x = 0 ↔ RepOk x := by
 have e : (bif (((((((!(fog_within x.Source 1 99999)) || (!(fog_isDistrict x.District))) || (!(fog_isNight x.Night))) || (!(fog_isRange (⟨x.From, x.To⟩ : Range) 1439))) || (!(fog_isRange x.Sight 5000))) || (!(fog_isMoment x.Known))) || ((!decide (x.Until = 0)) && ((decide (x.Until ≤ x.Known)) || (!(fog_isMoment x.Until))))) then (50 : Int) else 0) = 0 ↔ (((((((!(fog_within x.Source 1 99999)) || (!(fog_isDistrict x.District))) || (!(fog_isNight x.Night))) || (!(fog_isRange (⟨x.From, x.To⟩ : Range) 1439))) || (!(fog_isRange x.Sight 5000))) || (!(fog_isMoment x.Known))) || ((!decide (x.Until = 0)) && ((decide (x.Until ≤ x.Known)) || (!(fog_isMoment x.Until))))) = false := by
   generalize (((((((!(fog_within x.Source 1 99999)) || (!(fog_isDistrict x.District))) || (!(fog_isNight x.Night))) || (!(fog_isRange (⟨x.From, x.To⟩ : Range) 1439))) || (!(fog_isRange x.Sight 5000))) || (!(fog_isMoment x.Known))) || ((!decide (x.Until = 0)) && ((decide (x.Until ≤ x.Known)) || (!(fog_isMoment x.Until))))) = b
   cases b <;> simp
 unfold fog_CheckReport
 rw [e]
 simp only [fog_isDistrict, fog_isNight, fog_isMoment, Bool.or_eq_false_iff, Bool.and_eq_false_iff, Bool.not_eq_false', fwithin_iff, frange_iff, decide_eq_true_eq, decide_eq_false_iff_not]
 constructor
 · rintro ⟨⟨⟨⟨⟨⟨h1, h2⟩, h3⟩, h4⟩, h5⟩, h6⟩, h7⟩
   exact ⟨h1, h2, h3, h4, h5, h6, by rcases h7 with h7 | h7 <;> omega⟩
 · rintro ⟨h1, h2, h3, h4, h5, h6, h7⟩
   exact ⟨⟨⟨⟨⟨⟨h1, h2⟩, h3⟩, h4⟩, h5⟩, h6⟩, by omega⟩
def rp (l : List Report) (i : Nat) : Report := l.getD i default
structure RepsOk (l : List Report) : Prop where
 len : l.length ≤ 60
 all : ∀ i, i < l.length → RepOk (rp l i) ∧ (0 < i → (rp l (i - 1)).Source < (rp l i).Source)
theorem fcompare_nonneg (a b : Report) : 0 ≤ fog_compare a b ↔ b.Source ≤ a.Source := by
 unfold fog_compare cmp_Compare_int cmp_isNaN_int
 by_cases h1 : a.Source < b.Source
 · simp [h1]
 · by_cases h2 : b.Source < a.Source <;> simp [h1, h2] <;> omega
theorem fcheck_wp (l : List Report) : Wp (fog_Check l) (fun r => (RepsOk l ∧ r = 0) ∨ (¬ RepsOk l ∧ r = 51)) := by
 unfold fog_Check
 refine wp_ifd (fun h => wp_some (.inr ⟨fun V => by have := V.len; omega, rfl⟩)) (fun h => ?_)
 refine wp_forall (fun i => RepOk (rp l i) ∧ (0 < i → (rp l (i - 1)).Source < (rp l i).Source)) (fun i K hi _ hK => ?_) (fun h1 => wp_some (.inl ⟨⟨by omega, h1⟩, rfl⟩))
 refine wp_must (fun _ => by unfold inI; omega) ?_
 refine wp_must (fun h => by simp at h; omega) ?_
 have e : (((i : Int) - 1)).toNat = i - 1 := by omega
 rw [e]
 refine wp_bif (fun hb => wp_some (.inr ⟨fun V => ?_, rfl⟩)) (fun hb => ?_)
 · obtain ⟨a1, a2⟩ := V.all i hi
   unfold rp at a1 a2
   have a3 := fcheckReport_iff.2 a1
   simp only [a3, Bool.or_eq_true, Bool.and_eq_true, decide_eq_true_eq, Bool.not_eq_true', fcompare_nonneg] at hb
   rcases hb with hb | hb
   · simp at hb
   · have := a2 (by omega); omega
 · simp only [Bool.or_eq_false_iff, Bool.and_eq_false_iff, Bool.not_eq_false', decide_eq_true_eq, decide_eq_false_iff_not, fcompare_nonneg] at hb
   refine hK ⟨fcheckReport_iff.1 hb.1, fun h0 => ?_⟩
   unfold rp
   rcases hb.2 with h | h <;> omega
theorem fcheck_ok {l : List Report} (h : RepsOk l) : fog_Check l = some 0 := by
 obtain ⟨r, e, h1 | h1⟩ := fcheck_wp l
 · rw [e, h1.2]
 · exact absurd h h1.1
theorem fcheck_bad {l : List Report} (h : ¬ RepsOk l) : fog_Check l = some 51 := by
 obtain ⟨r, e, h1 | h1⟩ := fcheck_wp l
 · exact absurd h1.1 h
 · rw [e, h1.2]
theorem indexFunc_eq {T : Type} [Inhabited T] {p : T → Option Bool} {q : T → Bool} (hp : ∀ x, p x = some (q x)) (l : List T) :
   (rangeGo (fun i1 (s1 : Unit) k1 => bindO (p (l.getD i1 default)) fun y3 => (bif y3 then some (i1 : Int) else k1 ())) (fun (s1 : Unit) => some (-1)) l.length 0 () : Option Int) = some (match l.findIdx? q with | some i => (i : Int) | none => -1) := by
 refine (wp_forall (P := fun r => r = (match l.findIdx? q with | some i => (i : Int) | none => -1)) (fun i => q (l.getD i default) = false) (fun i K hi hb hK => ?_) (fun h1 => ?_)).eq
 · rw [hp]
   refine wp_bif (fun h => wp_some ?_) (fun h => hK h)
   have : l.findIdx? q = some i := by
     rw [List.findIdx?_eq_some_iff_getElem]
     refine ⟨hi, ?_, fun j hj => ?_⟩
     · rw [List.getD_eq_getElem?_getD, List.getElem?_eq_getElem hi] at h; exact h
     · have := hb j hj
       rw [List.getD_eq_getElem?_getD, List.getElem?_eq_getElem (by omega)] at this
       simpa using this
   rw [this]
 · refine wp_some ?_
   have : l.findIdx? q = none := by
     rw [List.findIdx?_eq_none_iff]
     intro x hx
     obtain ⟨i, hi, rfl⟩ := mem_getD hx
     exact h1 i hi
   rw [this]
theorem take_set_le {T : Type} {l : List T} {i : Nat} {x : T} (h : i < l.length) : (l.set i x).take (i + 1) = l.take i ++ [x] := by
 rw [List.take_add_one, List.getElem?_set_self h, List.take_set_of_le (Nat.le_refl _)]; rfl
theorem take_copyAt {T : Type} [Inhabited T] (l : List T) (a m : Nat) (f : Nat → T) (h : a ≤ l.length) : (copyAt l a m f).take a = l.take a := by
 refine ext_getD (by simp [copyAt]) (fun i hi => ?_)
 have hi' : i < a := by simp [copyAt] at hi; omega
 rw [getD_take, getD_take, if_pos hi', if_pos hi']
 unfold copyAt
 rw [List.getD_eq_getElem?_getD, List.getElem?_map, List.getElem?_range (by omega)]
 simp only [Option.map_some, Option.getD_some]
 rw [if_neg (by omega)]
theorem drop_getD {T : Type} [Inhabited T] {l : List T} {i : Nat} (h : i < l.length) : l.drop i = l.getD i default :: l.drop (i + 1) := by
 rw [List.getD_eq_getElem?_getD, List.getElem?_eq_getElem h]; exact List.drop_eq_getElem_cons h
theorem take_getD {T : Type} [Inhabited T] {l : List T} {i : Nat} (h : i < l.length) : l.take (i + 1) = l.take i ++ [l.getD i default] := by
 rw [List.take_add_one, List.getD_eq_getElem?_getD, List.getElem?_eq_getElem h]; rfl
theorem deleteFunc_eq {T : Type} [Inhabited T] (z : T) {p : T → Option Bool} {q : T → Bool} (hp : ∀ x, p x = some (q x)) (l : List T) (fuel : Nat) (hf : l.length < fuel) (hl : l.length < 9223372036854775807) :
   (bindO (rangeGo (fun i1 (s1 : Unit) k1 => bindO (p (l.getD i1 default)) fun y3 => (bif y3 then some (i1 : Int) else k1 ())) (fun (s1 : Unit) => some (-1)) l.length 0 () : Option Int) fun y1 => (bif (decide (y1 = (-1))) then some l else must (inI (y1 + 1)) <| (loopGo (fun (s5 : Int × Int × (List T)) k5 => (bif (decide (s5.2.1 < ((s5.2.2.length : Nat) : Int))) then must (0 ≤ (s5.2.1 : Int) ∧ (s5.2.1 : Int) < ((s5.2.2.length : Nat) : Int)) <| bindO (p (s5.2.2.getD (s5.2.1).toNat default)) fun y8 => (bif (!y8) then must (0 ≤ (s5.1 : Int) ∧ (s5.1 : Int) < ((s5.2.2.length : Nat) : Int)) <| must (inI (s5.1 + 1)) <| must (inI (s5.2.1 + 1)) <| k5 ((s5.1 + 1), (s5.2.1 + 1), (s5.2.2.set (s5.1).toNat (s5.2.2.getD (s5.2.1).toNat default))) else must (inI (s5.2.1 + 1)) <| k5 (s5.1, (s5.2.1 + 1), s5.2.2)) else must (0 < s5.2.2.length ∧ 0 ≤ (s5.1 : Int) ∧ (s5.1 : Int) ≤ ((s5.2.2.length : Nat) : Int)) <| must (0 < (copyAt s5.2.2 ((s5.1).toNat) (s5.2.2.length - (s5.1).toNat) (fun _ => z)).length ∧ 0 ≤ (s5.1 : Int) ∧ (s5.1 : Int) ≤ (((copyAt s5.2.2 ((s5.1).toNat) (s5.2.2.length - (s5.1).toNat) (fun _ => z)).length : Nat) : Int)) <| some ((copyAt s5.2.2 ((s5.1).toNat) (s5.2.2.length - (s5.1).toNat) (fun _ => z)).take ((s5.1).toNat)))) fuel (y1, (y1 + 1), l))) : Option (List T)) = some (l.filter (fun x => !q x)) := by
 rw [indexFunc_eq hp l]
 refine Wp.eq (wp_bindE rfl ?_)
 cases hi : l.findIdx? q with
 | none =>
   rw [List.findIdx?_eq_none_iff] at hi
   refine wp_true (by simp) (wp_some ?_)
   exact (List.filter_eq_self.2 (fun x hx => by rw [hi x hx]; rfl)).symm
 | some i =>
   rw [List.findIdx?_eq_some_iff_getElem] at hi
   obtain ⟨h1, h2, h3⟩ := hi
   refine wp_false (by simp) (wp_mustI (by simp only; omega) ?_)
   refine wp_loop (fun s => ∃ a b : Nat, s.1 = (a : Int) ∧ s.2.1 = (b : Int) ∧ a < b ∧ b ≤ l.length ∧ s.2.2.length = l.length ∧ s.2.2.take a = (l.take b).filter (fun x => !q x) ∧ s.2.2.drop b = l.drop b) (fun s => l.length - s.2.1.toNat) (by simp only; omega) ⟨i, i + 1, rfl, by simp, by omega, by omega, rfl, ?_, rfl⟩ ?_
   · rw [take_getD h1, List.filter_append]
     have e1 : (l.take i).filter (fun x => !q x) = l.take i := List.filter_eq_self.2 (fun x hx => by
       obtain ⟨j, hj, rfl⟩ := List.getElem_of_mem hx
       have hj' : j < i := by simp at hj; omega
       have := h3 j hj'
       simp only [List.getElem_take]
       simpa using this)
     have e2 : q (l.getD i default) = true := by rw [List.getD_eq_getElem?_getD, List.getElem?_eq_getElem h1]; exact h2
     rw [e1]; simp [e2, -List.getD_eq_getElem?_getD]
   · rintro ⟨s1, s2, s3⟩ K ⟨a, b, rfl, rfl, hab, hb, hlen, ht, hd⟩ hK
     simp only at hK ht hd hlen ⊢
     refine wp_ifd (fun hlt => ?_) (fun hge => ?_)
     · have hbl : b < l.length := by omega
       refine wp_must (by omega) ?_
       rw [hp]
       simp only [Int.toNat_natCast]
       have ex : s3.getD b default = l.getD b default := by
         have := drop_getD (l := s3) (i := b) (by omega)
         rw [hd, drop_getD hbl] at this
         exact (List.cons.inj this).1.symm
       have hd1 : s3.drop (b + 1) = l.drop (b + 1) := by
         have := drop_getD (l := s3) (i := b) (by omega)
         rw [hd, drop_getD hbl] at this
         exact (List.cons.inj this).2.symm
       refine wp_bindE rfl ?_
       rw [ex]
       refine wp_bif (fun hq => ?_) (fun hq => ?_)
       · refine wp_must (by omega) (wp_mustI (by omega) (wp_mustI (by omega) ?_))
         refine hK _ ⟨a + 1, b + 1, by simp, by simp, by omega, by omega, by simp [hlen], ?_, ?_⟩ (by simp only; omega)
         · rw [take_set_le (by omega), ht, take_getD hbl, List.filter_append]
           simp only [Bool.not_eq_true'] at hq
           simp [hq, -List.getD_eq_getElem?_getD]
         · rw [List.drop_set_of_lt (by omega)]; exact hd1
       · refine wp_mustI (by omega) (hK _ ⟨a, b + 1, rfl, by simp, by omega, by omega, hlen, ?_, hd1⟩ (by simp only; omega))
         rw [ht, take_getD hbl, List.filter_append]
         simp only [Bool.not_eq_false'] at hq
         simp [hq, -List.getD_eq_getElem?_getD]
     · refine wp_must (by omega) (wp_must ?_ (wp_some ?_))
       · rw [length_copyAt]; omega
       · simp only [Int.toNat_natCast]
         rw [take_copyAt _ _ _ _ (by omega), ht, List.take_of_length_le (by omega)]
def seen (d n m : Int) (x : Report) : Bool := (decide (x.District = d) && decide (x.Night = n)) && fog_counts x m
def seeL (l : List Report) (d n m : Int) : List Report := l.filter (seen d n m)
theorem fsee_eq (fuel : Nat) (l : List Report) (d n m : Int) (h : l.length ≤ 60) (hf : 60 < fuel) : fog_see fuel l d n m = some (seeL l d n m) := by
 unfold fog_see slices_Clone_Report
 refine Wp.eq (wp_bind (Q := fun r => r = l) (wp_mustR (by simp; omega) (wp_some (by simp))) ?_)
 rintro s rfl
 have e := deleteFunc_eq (⟨0, 0, 0, 0, 0, (⟨0, 0⟩ : Range), 0, 0⟩ : Report) (p := fun x0 => some (fog_see_1 x0 d n m)) (q := fun x => fog_see_1 x d n m) (fun _ => rfl) s fuel (by omega) (by omega)
 refine wp_bindE (v := s.filter (fun x => !fog_see_1 x d n m)) e (wp_some ?_)
 unfold seeL
 congr 1
 funext x
 unfold fog_see_1 seen
 cases decide (x.District = d) <;> cases decide (x.Night = n) <;> cases fog_counts x m <;> rfl
def pairL : List Report → Option (Report × Report)
 | [] => none
 | a :: l => match l.find? (fun b => fog_clash a b) with
   | some b => some (a, b)
   | none => pairL l
def pairR (l : List Report) : List Int × Bool := match pairL l with
 | some (a, b) => ([a.Source, b.Source], true)
 | none => ([], false)
theorem find_range {T R : Type} [Inhabited T] {l : List T} {q : T → Bool} {body : Nat → Unit → (Unit → Option R) → Option R} {ex : Unit → Option R} (f : T → Option R)
   (hb : ∀ (i : Nat) (K : Option R), i < l.length → body i () (fun _ => K) = bif q (l.getD i default) then f (l.getD i default) else K) :
   rangeGo body ex l.length 0 () = match l.find? q with | some x => f x | none => ex () := by
 have go : ∀ (m i : Nat), i + m = l.length → rangeGo body ex m i () = match (l.drop i).find? q with | some x => f x | none => ex () := by
   intro m
   induction m with
   | zero => intro i hi; rw [List.drop_of_length_le (by omega)]; rfl
   | succ m ih =>
     intro i hi
     have e : rangeGo body ex (m + 1) i () = body i () (fun u => rangeGo body ex m (i + 1) u) := rfl
     have e2 : (fun u => rangeGo body ex m (i + 1) u) = fun _ => rangeGo body ex m (i + 1) () := by funext u; rfl
     rw [e, e2, hb i _ (by omega), drop_getD (by omega : i < l.length), List.find?_cons, ih (i + 1) (by omega)]
     cases q (l.getD i default) <;> rfl
 have := go l.length 0 (by omega)
 rw [List.drop_zero] at this
 exact this
theorem fpair_eq (l : List Report) (hl : l.length ≤ 9223372036854775807) : fog_view__pair l = some (pairR l) := by
 unfold fog_view__pair
 have go : ∀ (m i : Nat), i + m = l.length → rangeGo (fun i1 (s1 : Unit) k1 => must ((0 : Int) ≤ ((i1 : Int) + 1) ∧ (((i1 : Int) + 1) : Int) ≤ ((l.length : Nat) : Int)) <| (rangeGo (fun i4 (s4 : Unit) k4 => (bif (fog_clash (l.getD i1 default) ((l.drop (((i1 : Int) + 1)).toNat).getD i4 default)) then some (([(l.getD i1 default).Source, ((l.drop (((i1 : Int) + 1)).toNat).getD i4 default).Source] : List Int), true) else k4 ())) (fun (s4 : Unit) => k1 ()) ((l.drop (((i1 : Int) + 1)).toNat).length) 0 ())) (fun (s1 : Unit) => some ([], false)) m i () = some (pairR (l.drop i)) := by
   intro m
   induction m with
   | zero => intro i hi; rw [List.drop_of_length_le (by omega)]; rfl
   | succ m ih =>
     intro i hi
     have hlt : i < l.length := by omega
     conv => lhs; unfold rangeGo
     have et : ((i : Int) + 1).toNat = i + 1 := by omega
     rw [must_yes (by omega), et, ih (i + 1) (by omega)]
     rw [find_range (l := l.drop (i + 1)) (q := fun b => fog_clash (l.getD i default) b) (fun b => some ([(l.getD i default).Source, b.Source], true)) (fun j K _ => rfl)]
     rw [drop_getD hlt]
     conv => rhs; unfold pairR pairL
     cases (l.drop (i + 1)).find? (fun b => fog_clash (l.getD i default) b) with
     | none => rfl
     | some b => rfl
 have := go l.length 0 (by omega)
 rw [List.drop_zero] at this
 exact this
theorem pairR_two (l : List Report) : (pairR l).2 = (pairL l).isSome := by
 unfold pairR; cases pairL l <;> rfl
def atMin (m : Int) (x : Report) : Bool := fog_within m x.From x.To
def nar (r : Range) (x : Report) : Range := ⟨max r.Lo x.Sight.Lo, min r.Hi x.Sight.Hi⟩
def sightL (v : List Report) (m : Int) : Range := (v.filter (atMin m)).foldl nar ⟨0, 5000⟩
theorem fsight_eq (v : List Report) (m : Int) : fog_view__sight v m = some (sightL v m) := by
 unfold fog_view__sight fog_view__of_1
 rw [emit_range (fun i => atMin m (v.getD i default)) (fun i => v.getD i default) (fun i r _ => rfl)]
 have e : ((List.range' 0 v.length).filter (fun i => atMin m (v.getD i default))).map (fun i => v.getD i default) = v.filter (atMin m) := by
   rw [show (fun i => atMin m (v.getD i default)) = atMin m ∘ (fun i => v.getD i default) from rfl, ← List.filter_map]
   congr 1
   refine List.ext_getElem (by simp) (fun i h1 h2 => ?_)
   simp [List.getElem?_eq_getElem h2]
 rw [e]
 show listGo _ _ (v.filter (atMin m)) _ = _
 unfold sightL
 generalize (⟨0, 5000⟩ : Range) = r
 induction v.filter (atMin m) generalizing r with
 | nil => rfl
 | cons x l ih => exact ih (nar r x)
end Go.Sp
end
/- Plain laws, fog: what is told of a clear district. No program in sight. -/
section
set_option linter.all false
namespace Go.Sp
open Go.Av
set_option maxRecDepth 100000
def argOk (q : fog_query) : Prop := 1 ≤ q.district ∧ q.district ≤ 9 ∧ 0 ≤ q.minute ∧ q.minute ≤ 1439 ∧ 0 ≤ q.time.Lo ∧ q.time.Lo ≤ q.time.Hi ∧ q.time.Hi ≤ 1439 ∧ 1 ≤ q.limit ∧ q.limit ≤ 5000
def dayOk (n m : Int) : Prop := 0 ≤ n ∧ n ≤ 100000 ∧ 0 ≤ m ∧ m ≤ 144001439
instance (q : fog_query) : Decidable (argOk q) := inferInstanceAs (Decidable (_ ∧ _))
instance (n m : Int) : Decidable (dayOk n m) := inferInstanceAs (Decidable (_ ∧ _))
end Go.Sp
end
/- Plain laws, fog: the document's tests, views, contradictions and sights. No program in sight. -/
section
set_option linter.all false
namespace Go.Sp
open Go.Av
set_option maxRecDepth 100000
theorem rin_iff {a b c : Int} : gasolierref05_In a b c = true ↔ b ≤ a ∧ a ≤ c := by simp [gasolierref05_In]
theorem rcheckReport_eq (x : Report) : gasolierref05_CheckReport x = fog_CheckReport x := by
 have e1 : gasolierref05_CheckReport x = 0 ∨ gasolierref05_CheckReport x = 50 := by
   unfold gasolierref05_CheckReport
   generalize (((((!(((gasolierref05_In x.Source 1 99999) && (gasolierref05_In x.District 1 9)) && (gasolierref05_In x.Night 0 100000))) || (!(((decide (0 ≤ x.From)) && (decide (x.From ≤ x.To))) && (decide (x.To ≤ 1439))))) || (!(((decide (0 ≤ x.Sight.Lo)) && (decide (x.Sight.Lo ≤ x.Sight.Hi))) && (decide (x.Sight.Hi ≤ 5000))))) || (!(gasolierref05_isMoment x.Known))) || ((!decide (x.Until = 0)) && ((decide (x.Until ≤ x.Known)) || (!(gasolierref05_isMoment x.Until))))) = b
   cases b
   · exact .inl rfl
   · exact .inr rfl
 have e2 : gasolierref05_CheckReport x = 0 ↔ RepOk x := by
   unfold gasolierref05_CheckReport
   generalize hb : (((((!(((gasolierref05_In x.Source 1 99999) && (gasolierref05_In x.District 1 9)) && (gasolierref05_In x.Night 0 100000))) || (!(((decide (0 ≤ x.From)) && (decide (x.From ≤ x.To))) && (decide (x.To ≤ 1439))))) || (!(((decide (0 ≤ x.Sight.Lo)) && (decide (x.Sight.Lo ≤ x.Sight.Hi))) && (decide (x.Sight.Hi ≤ 5000))))) || (!(gasolierref05_isMoment x.Known))) || ((!decide (x.Until = 0)) && ((decide (x.Until ≤ x.Known)) || (!(gasolierref05_isMoment x.Until))))) = b
   have hb' : b = false ↔ RepOk x := by
     rw [← hb]
     simp only [gasolierref05_isMoment, Bool.or_eq_false_iff, Bool.and_eq_false_iff, Bool.not_eq_false', Bool.and_eq_true, rin_iff, decide_eq_true_eq, decide_eq_false_iff_not]
     constructor
     · rintro ⟨⟨⟨⟨⟨⟨h1, h2⟩, h3⟩, ⟨h4, h5⟩, h6⟩, ⟨h7, h8⟩, h9⟩, h10⟩, h11⟩
       exact ⟨h1, h2, h3, ⟨h4, h5, h6⟩, ⟨h7, h8, h9⟩, h10, by omega⟩
     · rintro ⟨h1, h2, h3, ⟨h4, h5, h6⟩, ⟨h7, h8, h9⟩, h10, h11⟩
       exact ⟨⟨⟨⟨⟨⟨h1, h2⟩, h3⟩, ⟨h4, h5⟩, h6⟩, ⟨h7, h8⟩, h9⟩, h10⟩, by omega⟩
   rw [← hb']
   cases b <;> simp
 rcases fcheck_or x with h | h
 · rw [h]; exact e2.2 (fcheckReport_iff.1 h)
 · rcases e1 with h1 | h1
   · have := fcheckReport_iff.2 (e2.1 h1); omega
   · rw [h, h1]
theorem rcheck_wp {fuel : Nat} (l : List Report) (hf : 61 < fuel) : Wp (gasolierref05_Check fuel l) (fun r => (RepsOk l ∧ r = 0) ∨ (¬ RepsOk l ∧ r = 51)) := by
 unfold gasolierref05_Check
 refine wp_ifd (fun h => wp_some (.inr ⟨fun V => by have := V.len; omega, rfl⟩)) (fun h => ?_)
 refine wp_for1 l.length (by omega) (fun i => ∀ j, j < i → RepOk (rp l j) ∧ (0 < j → (rp l (j - 1)).Source < (rp l j).Source)) (fun j hj => by omega) (fun i K hi hI hK => ?_)
 refine wp_ifd (fun hlt => ?_) (fun hge => wp_some (.inl ⟨⟨by omega, fun j hj => hI j (by omega)⟩, rfl⟩))
 have hi' : i < l.length := by omega
 refine wp_must (by omega) (wp_must (fun _ => by unfold inI; omega) (wp_must (fun h => by simp at h; omega) (wp_must (fun _ => by omega) ?_)))
 have e : (((i : Int) - 1)).toNat = i - 1 := by omega
 rw [e]
 simp only [Int.toNat_natCast, rcheckReport_eq]
 refine wp_bif (fun hb => wp_some (.inr ⟨fun V => ?_, rfl⟩)) (fun hb => ?_)
 · obtain ⟨a1, a2⟩ := V.all i hi'
   unfold rp at a1 a2
   have a3 := fcheckReport_iff.2 a1
   simp only [a3, Bool.or_eq_true, Bool.and_eq_true, decide_eq_true_eq, Bool.not_eq_true'] at hb
   rcases hb with hb | hb
   · simp at hb
   · have := a2 (by omega); omega
 · simp only [Bool.or_eq_false_iff, Bool.and_eq_false_iff, Bool.not_eq_false', decide_eq_true_eq, decide_eq_false_iff_not] at hb
   refine wp_mustI (by omega) (hK hi' (fun j hj => ?_))
   by_cases ej : j = i
   · subst ej
     refine ⟨fcheckReport_iff.1 hb.1, fun h0 => ?_⟩
     unfold rp
     rcases hb.2 with h | h <;> omega
   · exact hI j (by omega)
theorem rcheck_ok {fuel : Nat} {l : List Report} (hf : 61 < fuel) (h : RepsOk l) : gasolierref05_Check fuel l = some 0 := by
 obtain ⟨r, e, h1 | h1⟩ := rcheck_wp l hf
 · rw [e, h1.2]
 · exact absurd h h1.1
theorem rcheck_bad {fuel : Nat} {l : List Report} (hf : 61 < fuel) (h : ¬ RepsOk l) : gasolierref05_Check fuel l = some 51 := by
 obtain ⟨r, e, h1 | h1⟩ := rcheck_wp l hf
 · exact absurd h1.1 h
 · rw [e, h1.2]
theorem rof_eq {fuel : Nat} (l : List Report) (a : gasolierref05_At) (hl : l.length ≤ 60) (hf : 61 < fuel) : gasolierref05_of fuel l a = some (seeL l a.District a.Night a.Moment) := by
 unfold gasolierref05_of
 refine (wp_for (P := fun r => r = seeL l a.District a.Night a.Moment) l.length (by omega) (fun i s => s = (l.take i).filter (seen a.District a.Night a.Moment)) (by simp) (fun i s K hi hI hK => ?_)).eq
 simp only at hK ⊢
 refine wp_ifd (fun hlt => ?_) (fun hge => wp_some ?_)
 · have hi' : i < l.length := by omega
   refine wp_must (by omega) (wp_must (fun _ => by omega) (wp_must (fun _ => by omega) ?_))
   simp only [Int.toNat_natCast]
   have et : (l.take (i + 1)).filter (seen a.District a.Night a.Moment) = (l.take i).filter (seen a.District a.Night a.Moment) ++ (if seen a.District a.Night a.Moment (l.getD i default) then [l.getD i default] else []) := by
     rw [take_getD hi', List.filter_append]; simp only [List.filter_cons, List.filter_nil]
   have hlen : s.length ≤ 60 := by
     rw [hI]; exact Nat.le_trans (List.length_filter_le _ _) (by simp; omega)
   refine wp_bif (fun hb => ?_) (fun hb => ?_)
   · refine wp_must (by omega) (wp_mustR (by simp; omega) (wp_mustI (by omega) (hK _ hi' ?_)))
     rw [et, if_pos (show seen a.District a.Night a.Moment (l.getD i default) = true from hb), hI]
   · refine wp_mustI (by omega) (hK _ hi' ?_)
     rw [et, if_neg (by rw [show seen a.District a.Night a.Moment (l.getD i default) = false from hb]; simp), hI, List.append_nil]
 · rw [hI, List.take_of_length_le (by omega)]; rfl
theorem find_loop {fuel : Nat} (l : List Report) (a : Report) (j0 : Nat) (hj0 : j0 ≤ l.length) (hf : l.length < fuel) (hl : l.length ≤ 60) {R : Type} {P : R → Prop} {body : Int → (Int → Option R) → Option R} {out : Option R} {yes : Report → Option R}
   (hb : ∀ (j : Nat) (K : Int → Option R), j < l.length → (fog_clash a (l.getD j default) = true → Wp (yes (l.getD j default)) P → Wp (body (j : Int) K) P) ∧ (fog_clash a (l.getD j default) = false → Wp (K ((j : Int) + 1)) P → Wp (body (j : Int) K) P))
   (he : ∀ (K : Int → Option R), Wp out P → Wp (body (l.length : Int) K) P)
   (h : Wp (match (l.drop j0).find? (fun b => fog_clash a b) with | some b => yes b | none => out) P) : Wp (loopGo body fuel (j0 : Int)) P := by
 refine wp_loop (fun s => ∃ j : Nat, s = (j : Int) ∧ j ≤ l.length ∧ Wp (match (l.drop j).find? (fun b => fog_clash a b) with | some b => yes b | none => out) P) (fun s => l.length - s.toNat) (by simp only [Int.toNat_natCast]; omega) ⟨j0, rfl, hj0, h⟩ ?_
 rintro s K ⟨j, rfl, hj, hw⟩ hK
 by_cases hlt : j < l.length
 · rw [drop_getD hlt, List.find?_cons] at hw
   obtain ⟨h1, h2⟩ := hb j K hlt
   cases hc : fog_clash a (l.getD j default) with
   | true => rw [hc] at hw; exact h1 hc hw
   | false => rw [hc] at hw; exact h2 hc (hK _ ⟨j + 1, by simp, by omega, hw⟩ (by simp only [Int.toNat_natCast]; omega))
 · have ej : j = l.length := by omega
   subst ej
   rw [List.drop_length] at hw
   exact he K hw
theorem pairR_cons (a : Report) (v : List Report) : pairR (a :: v) = match v.find? (fun b => fog_clash a b) with | some b => ([a.Source, b.Source], true) | none => pairR v := by
 conv => lhs; unfold pairR pairL
 cases v.find? (fun b => fog_clash a b) with
 | some b => rfl
 | none => rfl
theorem rclash_eq {fuel : Nat} (l : List Report) (hl : l.length ≤ 60) (hf : 61 < fuel) : gasolierref05_clash fuel l = some (pairR l).1 := by
 unfold gasolierref05_clash
 refine (wp_for1 (P := fun r => r = (pairR l).1) l.length (by omega) (fun i => pairR (l.drop i) = pairR l) (by simp) (fun i K hi hI hK => ?_)).eq
 refine wp_ifd (fun hlt => ?_) (fun hge => wp_some ?_)
 · have hi' : i < l.length := by omega
   refine wp_mustI (by omega) ?_
   have e1 : (i : Int) + 1 = ((i + 1 : Nat) : Int) := by simp
   rw [e1]
   refine find_loop l (l.getD i default) (i + 1) (by omega) (by omega) hl (yes := fun b => some [(l.getD i default).Source, b.Source]) (out := K ((i : Int) + 1)) (fun j K' hj => ⟨fun hc hw => ?_, fun hc hw => ?_⟩) (fun K' hw => ?_) ?_
   · simp only [Int.toNat_natCast]
     refine wp_true (by simp; omega) (wp_must (by omega) (wp_must (by omega) (wp_true hc (wp_must (by omega) (wp_must (by omega) hw)))))
   · simp only [Int.toNat_natCast]
     refine wp_true (by simp; omega) (wp_must (by omega) (wp_must (by omega) (wp_false hc (wp_mustI (by omega) hw))))
   · refine wp_false (by simp) (wp_mustI (by omega) hw)
   · have hp := hI
     rw [drop_getD hi'] at hp
     rw [pairR_cons] at hp
     cases hf2 : (l.drop (i + 1)).find? (fun b => fog_clash (l.getD i default) b) with
     | some b =>
       rw [hf2] at hp
       simp only at hp ⊢
       refine wp_some ?_
       rw [← hp]
     | none =>
       rw [hf2] at hp
       simp only at hp ⊢
       exact hK hi' hp
 · have : i = l.length := by omega
   subst this
   rw [List.drop_length] at hI
   rw [← hI]; rfl
theorem rsight_eq {fuel : Nat} (l : List Report) (m : Int) (hl : l.length ≤ 60) (hf : 61 < fuel) : gasolierref05_sight fuel l m = some (sightL l m) := by
 unfold gasolierref05_sight
 refine (wp_for (P := fun r => r = sightL l m) l.length (by omega) (fun i s => ((l.drop i).filter (atMin m)).foldl nar s = sightL l m) (by simp [sightL]) (fun i s K hi hI hK => ?_)).eq
 simp only at hK ⊢
 refine wp_ifd (fun hlt => ?_) (fun hge => wp_some ?_)
 · have hi' : i < l.length := by omega
   rw [drop_getD hi', List.filter_cons] at hI
   refine wp_must (by omega) (wp_must (by omega) ?_)
   simp only [Int.toNat_natCast]
   refine wp_bif (fun hb => ?_) (fun hb => ?_)
   · rw [if_pos (show atMin m (l.getD i default) = true from hb), List.foldl_cons] at hI
     exact wp_must (by omega) (wp_must (by omega) (wp_mustI (by omega) (hK _ hi' hI)))
   · rw [if_neg (by rw [show atMin m (l.getD i default) = false from hb]; simp)] at hI
     exact wp_mustI (by omega) (hK _ hi' hI)
 · rw [List.drop_of_length_le (by omega)] at hI; exact hI
theorem same_eq {fuel : Nat} (a b : List Int) (hf : a.length < fuel) (hl : a.length < 9223372036854775807) : gasolierref05_Same fuel a b = some (decide (a = b)) := by
 unfold gasolierref05_Same
 refine Wp.eq (wp_ifn (fun h => wp_some ?_) (fun h => ?_))
 · rw [decide_eq_false (fun e => h (by rw [e]))]
 have hlen : a.length = b.length := by omega
 refine wp_for1 a.length hf (fun i => ∀ j, j < i → a.getD j default = b.getD j default) (fun j hj => by omega) (fun i K hi hI hK => ?_)
 refine wp_ifd (fun hlt => ?_) (fun hge => wp_some ?_)
 · have hi' : i < a.length := by omega
   refine wp_must (by omega) (wp_must (by omega) ?_)
   simp only [Int.toNat_natCast]
   refine wp_ifn (fun h => wp_some ?_) (fun h => wp_mustI (by omega) (hK hi' (fun j hj => ?_)))
   · rw [decide_eq_false (fun e => h (by rw [e]))]
   · by_cases ej : j = i
     · subst ej; exact h
     · exact hI j (by omega)
 · rw [decide_eq_true (ext_getD hlen (fun i hi => hI i (by omega)))]
end Go.Sp
end
/- Plain laws, fog: FogSights, FogClashes. No program in sight. -/
section
set_option linter.all false
namespace Go.Sp
open Go.Av
set_option maxRecDepth 100000
theorem sane_ok : gasolierlaw05_sane 20000 = some true := by kernel_rfl
theorem sightL_hi (v : List Report) (m : Int) : (sightL v m).Hi ≤ 5000 ∧ 0 ≤ (sightL v m).Lo := by
 have key : ∀ (l : List Report) (r : Range), (l.foldl nar r).Hi ≤ r.Hi ∧ r.Lo ≤ (l.foldl nar r).Lo := by
   intro l
   induction l with
   | nil => intro r; exact ⟨Int.le_refl _, Int.le_refl _⟩
   | cons x l ih =>
     intro r
     have := ih (nar r x)
     simp only [List.foldl_cons]
     unfold nar at this ⊢
     simp only at this
     omega
 exact key _ _
theorem mem_ok {l : List Report} (h : RepsOk l) {x : Report} (hx : x ∈ l) : RepOk x := by
 obtain ⟨i, hi, rfl⟩ := mem_getD hx
 exact (h.all i hi).1
theorem index_eq (l : List Int) (n : Int) : slices_Index_int l n = some (match l.findIdx? (fun x => decide (n = x)) with | some i => (i : Int) | none => -1) := by
 unfold slices_Index_int
 exact indexFunc_eq (p := fun x => some (decide (n = x))) (fun _ => rfl) l
theorem contains_eq (l : List Int) (n : Int) : slices_Contains_int l n = some (decide (n ∈ l)) := by
 unfold slices_Contains_int
 rw [index_eq]
 cases h : l.findIdx? (fun x => decide (n = x)) with
 | none =>
   rw [List.findIdx?_eq_none_iff] at h
   refine congrArg some ?_
   rw [decide_eq_false (by decide), decide_eq_false (fun hm => ?_)]
   have := h n hm; simp at this
 | some i =>
   rw [List.findIdx?_eq_some_iff_getElem] at h
   obtain ⟨h1, h2, _⟩ := h
   refine congrArg some ?_
   simp only
   rw [decide_eq_true (by omega), decide_eq_true]
   simp only [decide_eq_true_eq] at h2
   rw [h2]; exact List.getElem_mem h1
end Go.Sp
end
/- Plain laws, fog: reports that are made, FogTrue, FogShown. No program in sight. -/
section
set_option linter.all false
namespace Go.Sp
open Go.Av
set_option maxRecDepth 100000
structure Fine (i : Nat) (r : Report) : Prop where
 src : r.Source = 4 * (i : Int) + 3
 dist : 1 ≤ r.District ∧ r.District ≤ 3
 night : r.Night = 3 ∨ r.Night = 4
 from_ : 0 ≤ r.From ∧ r.From ≤ 1299
 to_ : r.From ≤ r.To ∧ r.To ≤ 1437
 sight : 0 ≤ r.Sight.Lo ∧ r.Sight.Lo ≤ r.Sight.Hi ∧ r.Sight.Hi ≤ 5000
 known : 4320 ≤ r.Known ∧ r.Known ≤ 5759
 till : r.Until = 0 ∨ r.Known < r.Until ∧ r.Until ≤ 7000
theorem below_vals (r : Range) (lim : Int) : (fog_below r lim = 1 ∧ r.Hi < lim) ∨ (fog_below r lim = 0 ∧ lim ≤ r.Lo ∧ ¬ r.Hi < lim) ∨ (fog_below r lim = 2 ∧ ¬ r.Hi < lim ∧ ¬ lim ≤ r.Lo) := by
 unfold fog_below
 by_cases a : r.Hi < lim
 · rw [decide_eq_true a]; exact .inl ⟨rfl, a⟩
 · by_cases b : lim ≤ r.Lo
   · rw [decide_eq_false a, decide_eq_true b]; exact .inr (.inl ⟨rfl, b, a⟩)
   · rw [decide_eq_false a, decide_eq_false b]; exact .inr (.inr ⟨rfl, a, b⟩)
end Go.Sp
end
/- Plain laws, fog: FogShown. No program in sight. -/
section
set_option linter.all false
namespace Go.Sp
open Go.Av
set_option maxRecDepth 100000
theorem has_eq {fuel : Nat} (l : List Int) (n : Int) (hf : l.length < fuel) (hl : l.length < 9223372036854775807) : gasolierref05_Has fuel l n = some (decide (n ∈ l)) := by
 unfold gasolierref05_Has
 refine (wp_for1 (P := fun r => r = decide (n ∈ l)) l.length hf (fun i => ∀ j, j < i → l.getD j default ≠ n) (fun j hj => by omega) (fun i K hi hI hK => ?_)).eq
 refine wp_ifd (fun hlt => ?_) (fun hge => wp_some ?_)
 · have hi' : i < l.length := by omega
   refine wp_must (by omega) ?_
   simp only [Int.toNat_natCast]
   refine wp_ifd (fun h => wp_some ?_) (fun h => wp_mustI (by omega) (hK hi' (fun j hj => ?_)))
   · rw [decide_eq_true (h ▸ getD_mem hi')]
   · by_cases ej : j = i
     · subst ej; exact h
     · exact hI j (by omega)
 · rw [decide_eq_false (fun hm => ?_)]
   obtain ⟨j, hj, e⟩ := mem_getD hm
   exact hI j (by omega) e
theorem inj_source {l : List Report} (h : l.Pairwise (fun a b => a.Source < b.Source)) {x y : Report} (hx : x ∈ l) (hy : y ∈ l) (e : x.Source = y.Source) : x = y := by
 obtain ⟨i, hi, rfl⟩ := List.getElem_of_mem hx
 obtain ⟨j, hj, rfl⟩ := List.getElem_of_mem hy
 rcases Nat.lt_trichotomy i j with h' | h' | h'
 · have := List.pairwise_iff_getElem.1 h i j hi hj h'; omega
 · subst h'; rfl
 · have := List.pairwise_iff_getElem.1 h j i hj hi h'; omega
theorem sorted_all {l : List Report} (h : RepsOk l) : l.Pairwise (fun a b => a.Source < b.Source) := by
 rw [List.pairwise_iff_getElem]
 intro i j hi hj hij
 have step : ∀ k, i + 1 + k < l.length → l[i].Source < (rp l (i + 1 + k)).Source := by
   intro k
   induction k with
   | zero =>
     intro hk
     have := (h.all (i + 1) hk).2 (by omega)
     have e : rp l (i + 1 - 1) = l[i] := by unfold rp; simp [List.getElem?_eq_getElem hi]
     rw [e] at this; exact this
   | succ k ih =>
     intro hk
     have h1 := ih (by omega)
     have h2 := (h.all (i + 1 + (k + 1)) hk).2 (by omega)
     have e : i + 1 + (k + 1) - 1 = i + 1 + k := by omega
     rw [e] at h2
     omega
 have := step (j - (i + 1)) (by omega)
 have e : i + 1 + (j - (i + 1)) = j := by omega
 rw [e] at this
 have e2 : rp l j = l[j] := by unfold rp; simp [List.getElem?_eq_getElem hj]
 rw [e2] at this; exact this
end Go.Sp
end
/- Plain laws, fog: policies, the program's and the document's check. No program in sight. -/
section
set_option linter.all false
namespace Go.Sp
open Go.Av
set_option maxRecDepth 100000
def sd (l : List Send) (i : Nat) : Send := l.getD i default
def nd (p : List Node) (i : Nat) : Node := p.getD i default
def fol3 (n : Node) : List Int := [n.Yes, n.No, n.Maybe]
def SendsOk (l : List Send) : Prop := l.length ≤ 9 ∧ ∀ i, i < l.length → (1 ≤ (sd l i).District ∧ (sd l i).District ≤ 9) ∧ (1 ≤ (sd l i).Many ∧ (sd l i).Many ≤ 20) ∧ (0 < i → (sd l (i - 1)).District < (sd l i).District)
def NextOk (p : List Node) (i : Nat) (n : Node) (k : Int) : Prop := ((i : Int) + 1 ≤ k ∧ k ≤ (p.length : Int) - 1) ∧ ((nd p k.toNat).Test = true → n.Minute ≤ (nd p k.toNat).Minute)
instance (p : List Node) (i : Nat) (n : Node) (k : Int) : Decidable (NextOk p i n k) := inferInstanceAs (Decidable (_ ∧ _))
def LeafOk (n : Node) : Prop := (n.District = 0 ∧ n.Minute = 0 ∧ n.Limit = 0 ∧ n.Yes = 0 ∧ n.No = 0 ∧ n.Maybe = 0) ∧ SendsOk n.Sends
def TestHead (n : Node) : Prop := (1 ≤ n.District ∧ n.District ≤ 9) ∧ (0 ≤ n.Minute ∧ n.Minute ≤ 1439) ∧ (1 ≤ n.Limit ∧ n.Limit ≤ 5000) ∧ n.Sends.length = 0
def NodeOk (p : List Node) (i : Nat) : Prop := ((nd p i).Test = false → LeafOk (nd p i)) ∧ ((nd p i).Test = true → TestHead (nd p i) ∧ ∀ k ∈ fol3 (nd p i), NextOk p i (nd p i) k)
def nm (n : Node) : List Int := if n.Test then fol3 n else []
def names (p : List Node) : List Int := p.flatMap nm
structure PolOk (p : List Node) : Prop where
 len : 1 ≤ p.length ∧ p.length ≤ 31
 node : ∀ i, i < p.length → NodeOk p i
 nodup : (names p).Nodup
 count : (names p).length + 1 = p.length
theorem names_take {p : List Node} {i : Nat} (h : i < p.length) : names (p.take (i + 1)) = names (p.take i) ++ nm (nd p i) := by
 unfold names
 rw [take_getD h, List.flatMap_append]; simp [nd]
theorem sends_few {l : List Send} : ∀ {i : Nat}, (∀ j, j < i → (1 ≤ (sd l j).District ∧ (sd l j).District ≤ 9) ∧ (1 ≤ (sd l j).Many ∧ (sd l j).Many ≤ 20) ∧ (0 < j → (sd l (j - 1)).District < (sd l j).District)) → i ≤ 9 := by
 intro i h
 have key : ∀ j, j < i → (j : Int) + 1 ≤ (sd l j).District := by
   intro j
   induction j with
   | zero => intro hj; have := (h 0 hj).1; omega
   | succ j ih =>
     intro hj
     have h1 := ih (by omega)
     have h2 := (h (j + 1) hj).2.2 (by omega)
     have e : j + 1 - 1 = j := by omega
     rw [e] at h2
     omega
 by_cases h0 : i = 0
 · omega
 · have := key (i - 1) (by omega)
   have := (h (i - 1) (by omega)).1
   omega
theorem fareSends_eq (l : List Send) : Wp (fog_areSends l) (fun b => b = true ↔ SendsOk l) := by
 unfold fog_areSends
 refine wp_forall (fun i => (1 ≤ (sd l i).District ∧ (sd l i).District ≤ 9) ∧ (1 ≤ (sd l i).Many ∧ (sd l i).Many ≤ 20) ∧ (0 < i → (sd l (i - 1)).District < (sd l i).District)) (fun i K hi hI hK => ?_) (fun h => wp_some ?_)
 · have hi9 := sends_few hI
   refine wp_must (fun _ => by unfold inI; omega) (wp_must (fun h => by simp at h; omega) ?_)
   have e : (((i : Int) - 1)).toNat = i - 1 := by omega
   rw [e]
   refine wp_bif (fun hb => wp_some ?_) (fun hb => hK ?_)
   · constructor
     · intro h; cases h
     · rintro ⟨_, h⟩
       obtain ⟨h1, h2, h3⟩ := h i hi
       unfold sd at h1 h2 h3
       unfold fog_isDistrict at hb
       simp only [Bool.or_eq_true, Bool.and_eq_true, decide_eq_true_eq, Bool.not_eq_true', ← Bool.not_eq_true, fwithin_iff] at hb
       rcases hb with (hb | hb) | hb
       · exact absurd h1 hb
       · exact absurd h2 hb
       · have := h3 (by omega); omega
   · unfold fog_isDistrict at hb
     simp only [Bool.or_eq_false_iff, Bool.and_eq_false_iff, Bool.not_eq_false', decide_eq_false_iff_not, fwithin_iff] at hb
     unfold sd
     exact ⟨hb.1.1, hb.1.2, fun h0 => by rcases hb.2 with h | h <;> omega⟩
 · rw [decide_eq_true_eq]
   constructor
   · intro h9; exact ⟨by omega, h⟩
   · intro h9; have := h9.1; omega
theorem risLeaf_eq {fuel : Nat} (n : Node) (hf : 9 < fuel) : Wp (gasolierref05_isLeaf fuel n) (fun b => b = true ↔ LeafOk n) := by
 unfold gasolierref05_isLeaf
 refine wp_bif (fun hb => wp_some ?_) (fun hb => ?_)
 · constructor
   · intro h; cases h
   · rintro ⟨⟨h1, h2, h3, h4, h5, h6⟩, h7, _⟩
     simp [h1, h2, h3, h4, h5, h6] at hb; omega
 · simp only [Bool.or_eq_false_iff, Bool.not_eq_false', decide_eq_true_eq, decide_eq_false_iff_not] at hb
   obtain ⟨⟨⟨⟨⟨⟨h1, h2⟩, h3⟩, h4⟩, h5⟩, h6⟩, h7⟩ := hb
   refine wp_for1 n.Sends.length (by omega) (fun i => ∀ j, j < i → (1 ≤ (sd n.Sends j).District ∧ (sd n.Sends j).District ≤ 9) ∧ (1 ≤ (sd n.Sends j).Many ∧ (sd n.Sends j).Many ≤ 20) ∧ (0 < j → (sd n.Sends (j - 1)).District < (sd n.Sends j).District)) (fun j hj => by omega) (fun i K hi hI hK => ?_)
   refine wp_ifd (fun hlt => ?_) (fun hge => wp_some ?_)
   · have hi' : i < n.Sends.length := by omega
     refine wp_must (by omega) (wp_must (fun _ => by unfold inI; omega) (wp_must (fun h => by simp at h; omega) ?_))
     have e : (((i : Int) - 1)).toNat = i - 1 := by omega
     rw [e]
     simp only [Int.toNat_natCast]
     refine wp_bif (fun hb => wp_some ?_) (fun hb => wp_mustI (by omega) (hK hi' (fun j hj => ?_)))
     · constructor
       · intro h; cases h
       · rintro ⟨_, _, h⟩
         obtain ⟨h1, h2, h3⟩ := h i hi'
         unfold sd at h1 h2 h3
         simp only [Bool.or_eq_true, Bool.and_eq_true, decide_eq_true_eq, Bool.not_eq_true', ← Bool.not_eq_true, rin_iff] at hb
         rcases hb with (hb | hb) | hb
         · exact absurd h1 hb
         · exact absurd h2 hb
         · have := h3 (by omega); omega
     · by_cases ej : j = i
       · subst ej
         simp only [Bool.or_eq_false_iff, Bool.and_eq_false_iff, Bool.not_eq_false', decide_eq_false_iff_not, rin_iff] at hb
         unfold sd
         exact ⟨hb.1.1, hb.1.2, fun h0 => by rcases hb.2 with h | h <;> omega⟩
       · exact hI j (by omega)
   · refine ⟨fun _ => ⟨⟨h1, h2, h3, h4, h5, h6⟩, by omega, fun j hj => hI j (by omega)⟩, fun _ => rfl⟩
theorem next_get (n : Node) (k : Int) : (fog_next n).get k = if k = 2 then some n.Maybe else if k = 0 then some n.No else if k = 1 then some n.Yes else none := rfl
theorem next_keys (n : Node) : (fog_next n).keys = [1, 0, 2] := rfl
theorem next_ok (n : Node) : (fog_next n).ok := by
 refine ⟨by rw [next_keys]; decide, rfl, fun k hk => ?_⟩
 rw [next_keys] at hk
 rw [next_get]
 rcases List.mem_cons.1 hk with rfl | hk
 · rfl
 · rcases List.mem_cons.1 hk with rfl | hk
   · rfl
   · rcases List.mem_cons.1 hk with rfl | hk
     · rfl
     · cases hk
theorem mapAny_of {chk : Int → Option Bool} {q : Int → Bool} : ∀ {l : List Int}, (∀ k ∈ l, chk k = some (q k)) → mapAny chk l = some (l.any q)
 | [], _ => rfl
 | k :: l, h => by
   unfold mapAny
   rw [h k List.mem_cons_self, mapAny_of (l := l) (fun j hj => h j (List.mem_cons_of_mem _ hj))]
   rfl
theorem mem_fol3 {n : Node} {P : Int → Prop} : (∀ k ∈ fol3 n, P k) ↔ P n.Yes ∧ P n.No ∧ P n.Maybe := by simp [fol3]
theorem nextOk_dec {p : List Node} {i : Nat} {n : Node} {k : Int} : (bif ((!(fog_within k ((i : Int) + 1) (((p.length : Nat) : Int) - 1))) || (((p.getD k.toNat default).Test) && (decide ((p.getD k.toNat default).Minute < n.Minute)))) then some true else some false) = some (!decide (NextOk p i n k)) := by
 by_cases h1 : (i : Int) + 1 ≤ k ∧ k ≤ ((p.length : Nat) : Int) - 1
 · rw [fwithin_iff.2 h1]
   cases ht : (p.getD k.toNat default).Test with
   | false => rw [decide_eq_true (p := NextOk p i n k) ⟨h1, fun h => by unfold nd at h; rw [ht] at h; cases h⟩]; rfl
   | true =>
     by_cases h2 : (p.getD k.toNat default).Minute < n.Minute
     · rw [decide_eq_true h2, decide_eq_false (fun h : NextOk p i n k => by have := h.2 ht; unfold nd at this; omega)]; rfl
     · rw [decide_eq_false h2, decide_eq_true (p := NextOk p i n k) ⟨h1, fun h => by unfold nd; omega⟩]; rfl
 · rw [Bool.eq_false_iff.2 (fun h => h1 (fwithin_iff.1 h)), decide_eq_false (fun h : NextOk p i n k => h1 h.1)]; rfl
theorem fisNode_wp (p : List Node) (i : Nat) (hi : i < p.length) (hl : p.length ≤ 31) : Wp (fog_isNode p (i : Int)) (fun b => b = true ↔ NodeOk p i) := by
 unfold fog_isNode
 refine wp_must (by omega) ?_
 simp only [Int.toNat_natCast]
 have en : p.getD i default = nd p i := rfl
 simp only [en]
 generalize hn : nd p i = n
 have hN : NodeOk p i ↔ (n.Test = false → LeafOk n) ∧ (n.Test = true → TestHead n ∧ ∀ k ∈ fol3 n, NextOk p i n k) := by unfold NodeOk; rw [hn]
 rw [hN]
 refine wp_bif (fun ht => ?_) (fun ht => ?_)
 · have ht : n.Test = false := by simpa using ht
   have hz : (((((decide (n.District = 0) && decide (n.Minute = 0)) && decide (n.Limit = 0)) && decide (n.Yes = 0)) && decide (n.No = 0)) && decide (n.Maybe = 0)) = true ↔ (n.District = 0 ∧ n.Minute = 0 ∧ n.Limit = 0 ∧ n.Yes = 0 ∧ n.No = 0 ∧ n.Maybe = 0) := by
     simp only [Bool.and_eq_true, decide_eq_true_eq, and_assoc]
   generalize (((((decide (n.District = 0) && decide (n.Minute = 0)) && decide (n.Limit = 0)) && decide (n.Yes = 0)) && decide (n.No = 0)) && decide (n.Maybe = 0)) = c at hz
   have hG : ∀ {q : Prop}, (q ↔ LeafOk n) → (q ↔ (n.Test = false → LeafOk n) ∧ (n.Test = true → TestHead n ∧ ∀ k ∈ fol3 n, NextOk p i n k)) := fun {q} h => by rw [h, ht]; simp
   cases c with
   | true =>
     refine wp_bind (fareSends_eq n.Sends) (fun b hb => wp_some (hG ?_))
     rw [Bool.true_and, hb]
     exact ⟨fun h => ⟨hz.1 rfl, h⟩, fun h => h.2⟩
   | false =>
     refine wp_offE rfl rfl (wp_some (hG ?_))
     rw [Bool.false_and]
     exact ⟨fun h => (nomatch h), fun h => (nomatch (hz.2 h.1))⟩
 · have ht : n.Test = true := by simpa using ht
   have hG : ∀ {q : Prop}, (q ↔ TestHead n ∧ ∀ k ∈ fol3 n, NextOk p i n k) → (q ↔ (n.Test = false → LeafOk n) ∧ (n.Test = true → TestHead n ∧ ∀ k ∈ fol3 n, NextOk p i n k)) := fun {q} h => by rw [h, ht]; simp
   refine wp_bif (fun hb => wp_some (hG ?_)) (fun hb => ?_)
   · refine ⟨fun h => (nomatch h), fun h => ?_⟩
     obtain ⟨h1, h2, h3, h4⟩ := h.1
     unfold fog_isDistrict fog_isMinute at hb
     simp only [Bool.or_eq_true, decide_eq_true_eq, Bool.not_eq_true', ← Bool.not_eq_true, fwithin_iff] at hb
     rcases hb with ((hb | hb) | hb) | hb
     · exact absurd h1 hb
     · exact absurd h2 hb
     · exact absurd h3 hb
     · omega
   · unfold fog_isDistrict fog_isMinute at hb
     simp only [Bool.or_eq_false_iff, Bool.not_eq_false', decide_eq_false_iff_not, fwithin_iff] at hb
     have hH : TestHead n := ⟨hb.1.1.1, hb.1.1.2, hb.1.2, by omega⟩
     refine wp_must (next_ok n) ?_
     rw [next_keys, mapAny_of (q := fun q => !decide (NextOk p i n (((fog_next n).get q).getD default))) (fun q hq => ?_)]
     · have hany : ∀ b, [1, 0, 2].any (fun q => !decide (NextOk p i n (((fog_next n).get q).getD default))) = b → (b = false ↔ ∀ k ∈ fol3 n, NextOk p i n k) := by
         intro b e
         have e1 : ((fog_next n).get 1).getD default = n.Yes := rfl
         have e2 : ((fog_next n).get 0).getD default = n.No := rfl
         have e3 : ((fog_next n).get 2).getD default = n.Maybe := rfl
         rw [mem_fol3, ← e]
         simp only [List.any_cons, List.any_nil, e1, e2, e3, Bool.or_false, Bool.or_eq_false_iff, Bool.not_eq_false', decide_eq_true_eq]
       refine wp_bif (fun hb => wp_some (hG ?_)) (fun hb => wp_some (hG ?_))
       · exact ⟨fun h => (nomatch h), fun h => (nomatch ((hany _ hb).2 h.2))⟩
       · exact ⟨fun _ => ⟨hH, (hany _ hb).1 rfl⟩, fun _ => rfl⟩
     · have e0 := nextOk_dec (p := p) (i := i) (n := n) (k := ((fog_next n).get q).getD default)
       refine (must_yes (by unfold inI; omega) _).trans ((must_yes (by unfold inI; omega) _).trans ((must_yes (fun h => ?_) _).trans ((must_yes (fun h => ?_) _).trans e0)))
       · simp only [Bool.not_not, fwithin_iff] at h; omega
       · simp only [Bool.not_not, Bool.and_eq_true, fwithin_iff] at h; omega
theorem names_in {p : List Node} (h : ∀ i, i < p.length → NodeOk p i) {k : Int} (hk : k ∈ names p) : 1 ≤ k ∧ k ≤ (p.length : Int) - 1 := by
 unfold names at hk
 rw [List.mem_flatMap] at hk
 obtain ⟨n, hn, hk⟩ := hk
 obtain ⟨i, hi, rfl⟩ := mem_getD hn
 unfold nm at hk
 split at hk
 · next ht =>
   have := (((h i hi).2 ht).2 k hk).1
   omega
 · cases hk
def tens (p : List Node) : List Int := (List.range (p.length - 1)).map (fun j : Nat => (j : Int) + 1)
theorem tens_nodup (p : List Node) : (tens p).Nodup := nodup_inj List.nodup_range (fun x _ y _ h => by omega)
theorem mem_tens {p : List Node} {k : Int} : k ∈ tens p ↔ 1 ≤ k ∧ k ≤ (p.length : Int) - 1 := by
 unfold tens
 rw [List.mem_map]
 constructor
 · rintro ⟨j, hj, rfl⟩
   rw [List.mem_range] at hj; omega
 · intro h
   exact ⟨(k - 1).toNat, List.mem_range.2 (by omega), by omega⟩
theorem tens_len (p : List Node) : (tens p).length = p.length - 1 := by simp [tens]
theorem names_iff {p : List Node} (h1 : 1 ≤ p.length) (h : ∀ i, i < p.length → NodeOk p i) : ((names p).Nodup ∧ (names p).length + 1 = p.length) ↔ ∀ j : Nat, 1 ≤ j → j < p.length → (names p).count (j : Int) = 1 := by
 constructor
 · rintro ⟨hn, hl⟩ j hj1 hj
   have hm : (j : Int) ∈ names p := by
     apply Classical.byContradiction
     intro hno
     have := nodup_le (l := (j : Int) :: names p) (r := tens p) (List.nodup_cons.2 ⟨hno, hn⟩) (fun x hx => by
       rcases List.mem_cons.1 hx with rfl | hx
       · exact mem_tens.2 (by omega)
       · exact mem_tens.2 (names_in h hx))
     rw [tens_len, List.length_cons] at this
     omega
   exact Nat.le_antisymm (List.nodup_iff_count.1 hn _) (List.count_pos_iff.2 hm)
 · intro hc
   have hn : (names p).Nodup := by
     rw [List.nodup_iff_count]
     intro a
     by_cases ha : a ∈ names p
     · have h2 := names_in h ha
       have := hc a.toNat (by omega) (by omega)
       have e : ((a.toNat : Nat) : Int) = a := by omega
       rw [e] at this; omega
     · rw [List.count_eq_zero_of_not_mem ha]; omega
   refine ⟨hn, ?_⟩
   have a1 := nodup_le hn (fun x hx => mem_tens.2 (names_in h hx))
   have a2 := nodup_le (tens_nodup p) (r := names p) (fun x hx => by
     have h3 := mem_tens.1 hx
     have := hc x.toNat (by omega) (by omega)
     have e : ((x.toNat : Nat) : Int) = x := by omega
     rw [e] at this
     exact List.count_pos_iff.1 (by omega))
   rw [tens_len] at a1 a2
   omega
theorem fcheckPolicy_wp (p : List Node) : Wp (fog_CheckPolicy p) (fun r => (PolOk p ∧ r = 0) ∨ (¬ PolOk p ∧ r = 53)) := by
 unfold fog_CheckPolicy
 by_cases hlen : 1 ≤ p.length ∧ p.length ≤ 31
 · have hw : fog_within ((p.length : Nat) : Int) 1 31 = true := fwithin_iff.2 (by omega)
   rw [hw]
   refine wp_false rfl ?_
   refine wp_range (fun i (s : Mp Bool) => (∀ j, j < i → NodeOk p j) ∧ (names (p.take i)).Nodup ∧ s.card = (names (p.take i)).length ∧ ∀ k, s.get k = if k ∈ names (p.take i) then some true else none) ⟨fun j hj => by omega, by simp [names], rfl, fun k => by simp [names, Mp.empty]⟩ (fun i s K hi hI hK => ?_) (fun s hI => ?_)
   · obtain ⟨I1, I2, I3, I4⟩ := hI
     have et := names_take (p := p) hi
     have sub : ∀ {P : Prop}, ((names (p.take (i + 1))).Nodup → P) → ((names p).Nodup → P) := fun h hn => h (by
       have e : names p = names (p.take (i + 1)) ++ names (p.drop (i + 1)) := by unfold names; rw [← List.flatMap_append, List.take_append_drop]
       rw [e] at hn
       exact (List.nodup_append.1 hn).1)
     refine wp_joinU (wp_bind (fisNode_wp p i hi hlen.2) (fun b hb => wp_bif (fun h => wp_some (.inr ⟨fun V => ?_, rfl⟩)) (fun h => ?_)))
     · have := hb.2 (V.node i hi); rw [this] at h; cases h
     · have hN : NodeOk p i := hb.1 (by simpa using h)
       have I1' : ∀ j, j < i + 1 → NodeOk p j := fun j hj => by
         by_cases e : j = i
         · rw [e]; exact hN
         · exact I1 j (by omega)
       have en : p.getD i default = nd p i := rfl
       simp only [en]
       refine wp_bif (fun ht => hK _ ⟨I1', ?_⟩) (fun ht => ?_)
       · have e2 : nm (nd p i) = [] := by unfold nm; rw [if_neg (by simpa using ht)]
         rw [et, e2, List.append_nil]
         exact ⟨I2, I3, I4⟩
       · have e2 : nm (nd p i) = fol3 (nd p i) := by unfold nm; rw [if_pos (by simpa using ht)]
         show Wp (rangeGo _ _ (fol3 (nd p i)).length 0 s) _
         refine wp_range (fun m (s : Mp Bool) => (names (p.take i) ++ (fol3 (nd p i)).take m).Nodup ∧ s.card = (names (p.take i) ++ (fol3 (nd p i)).take m).length ∧ ∀ k, s.get k = if k ∈ names (p.take i) ++ (fol3 (nd p i)).take m then some true else none) (by rw [List.take_zero, List.append_nil]; exact ⟨I2, I3, I4⟩) (fun m s K2 hm hJ hK2 => ?_) (fun s hJ => hK _ ⟨I1', ?_⟩)
         · obtain ⟨J1, J2, J3⟩ := hJ
           have eL : ([(nd p i).Yes, (nd p i).No, (nd p i).Maybe] : List Int) = fol3 (nd p i) := rfl
           simp only [eL]
           generalize hx : (fol3 (nd p i)).getD m default = x
           have e3 : (fol3 (nd p i)).take (m + 1) = (fol3 (nd p i)).take m ++ [x] := by rw [take_getD hm, hx]
           by_cases hmem : x ∈ names (p.take i) ++ (fol3 (nd p i)).take m
           · refine wp_true (by rw [J3, if_pos hmem]; rfl) (wp_some (.inr ⟨fun V => ?_, rfl⟩))
             refine sub (P := False) (fun hn => ?_) V.nodup
             rw [et, e2, ← List.take_append_drop (m + 1) (fol3 (nd p i)), e3, ← List.append_assoc, ← List.append_assoc, List.nodup_append] at hn
             have hn1 := List.nodup_append.1 hn.1
             exact hn1.2.2 x hmem x (List.mem_singleton.2 rfl) rfl
           · refine wp_false (by rw [J3, if_neg hmem]; rfl) (hK2 _ ?_)
             rw [e3, ← List.append_assoc]
             refine ⟨?_, ?_, fun k => ?_⟩
             · rw [List.nodup_append]
               refine ⟨J1, by simp, fun a ha b hb => ?_⟩
               rw [List.mem_singleton] at hb
               intro e; rw [e, hb] at ha; exact hmem ha
             · unfold Mp.set
               simp only
               rw [J3, if_neg hmem, List.length_append, J2]; rfl
             · unfold Mp.set
               simp only
               by_cases hk : k = x
               · rw [if_pos hk, if_pos (by rw [hk]; simp)]
               · rw [if_neg hk, J3]
                 by_cases h4 : k ∈ names (p.take i) ++ (fol3 (nd p i)).take m
                 · rw [if_pos h4, if_pos (List.mem_append_left _ h4)]
                 · rw [if_neg h4, if_neg (fun h5 => by
                     rcases List.mem_append.1 h5 with h5 | h5
                     · exact h4 h5
                     · exact hk (List.mem_singleton.1 h5))]
         · rw [List.take_length] at hJ
           rw [et, e2]
           exact hJ
   · obtain ⟨I1, I2, I3, I4⟩ := hI
     rw [List.take_length] at I2 I3
     refine wp_mustI (by omega) (wp_ifn (fun h => wp_some (.inr ⟨fun V => ?_, rfl⟩)) (fun h => wp_some (.inl ⟨⟨hlen, I1, I2, by omega⟩, rfl⟩)))
     have := V.count; omega
 · have hw : fog_within ((p.length : Nat) : Int) 1 31 = false := Bool.eq_false_iff.2 (fun h => by have := fwithin_iff.1 h; omega)
   rw [hw]
   exact wp_true rfl (wp_some (.inr ⟨fun V => hlen V.len, rfl⟩))
theorem fpol_ok {p : List Node} (h : PolOk p) : fog_CheckPolicy p = some 0 := by
 obtain ⟨r, e, k⟩ := fcheckPolicy_wp p
 rcases k with ⟨_, k⟩ | ⟨k, _⟩
 · rw [e, k]
 · exact absurd h k
theorem fpol_bad {p : List Node} (h : ¬ PolOk p) : fog_CheckPolicy p = some 53 := by
 obtain ⟨r, e, k⟩ := fcheckPolicy_wp p
 rcases k with ⟨k, _⟩ | ⟨_, k⟩
 · exact absurd k h
 · rw [e, k]
theorem rcheckPolicy_wp {fuel : Nat} (p : List Node) (hf : 40 < fuel) : Wp (gasolierref05_CheckPolicy fuel p) (fun r => (PolOk p ∧ r = 0) ∨ (¬ PolOk p ∧ r = 53)) := by
 unfold gasolierref05_CheckPolicy
 by_cases hlen : 1 ≤ p.length ∧ p.length ≤ 31
 · have hw : gasolierref05_In ((p.length : Nat) : Int) 1 31 = true := rin_iff.2 (by omega)
   rw [hw]
   refine wp_false rfl (wp_must (by unfold room; omega) ?_)
   refine wp_for p.length (by omega) (fun i (s : List Int) => s.length = p.length ∧ (∀ j, j < i → NodeOk p j) ∧ ∀ j : Nat, j < p.length → s.getD j default = ((names (p.take i)).count (j : Int) : Nat)) ⟨by simp, fun j hj => by omega, fun j hj => (getD_replicate p.length j (0 : Int)).trans (by simp [names])⟩ (fun i s K hi hI hK => ?_)
   obtain ⟨I0, I1, I2⟩ := hI
   refine wp_ifd (fun hlt => ?_) (fun hge => ?_)
   · have hi' : i < p.length := by simp only at hlt; omega
     have et := names_take (p := p) hi'
     have en : p.getD i default = nd p i := rfl
     refine wp_join (fun s' : List Int => NodeOk p i ∧ s'.length = p.length ∧ ∀ j : Nat, j < p.length → s'.getD j default = ((names (p.take (i + 1))).count (j : Int) : Nat)) (fun K2 hK2 => ?_) (fun s' hs' => ?_)
     · refine wp_must (by simp only; omega) ?_
       simp only [Int.toNat_natCast, en]
       refine wp_bif (fun ht => ?_) (fun ht => ?_)
       · have ht : (nd p i).Test = false := by simpa using ht
         refine wp_bind (risLeaf_eq (nd p i) (by omega)) (fun b hb => wp_bif (fun h => wp_some (.inr ⟨fun V => ?_, rfl⟩)) (fun h => hK2 _ ⟨⟨fun _ => hb.1 (by simpa using h), fun h => by rw [ht] at h; cases h⟩, I0, ?_⟩))
         · have := hb.2 ((V.node i hi').1 ht); rw [this] at h; cases h
         · have e2 : nm (nd p i) = [] := by unfold nm; rw [if_neg (by simp [ht])]
           rw [et, e2, List.append_nil]; exact I2
       · have ht : (nd p i).Test = true := by simpa using ht
         have e2 : nm (nd p i) = fol3 (nd p i) := by unfold nm; rw [if_pos ht]
         refine wp_bif (fun hb => wp_some (.inr ⟨fun V => ?_, rfl⟩)) (fun hb => ?_)
         · obtain ⟨⟨h1, h2, h3, h4⟩, _⟩ := (V.node i hi').2 ht
           simp only [Bool.or_eq_true, decide_eq_true_eq, Bool.not_eq_true', ← Bool.not_eq_true, rin_iff] at hb
           rcases hb with ((hb | hb) | hb) | hb
           · exact absurd h1 hb
           · exact absurd h2 hb
           · exact absurd h3 hb
           · omega
         · simp only [Bool.or_eq_false_iff, Bool.not_eq_false', decide_eq_false_iff_not, rin_iff] at hb
           have hH : TestHead (nd p i) := ⟨hb.1.1.1, hb.1.1.2, hb.1.2, by omega⟩
           have eL : ([(gasolierref05_follows (nd p i)).x0, (gasolierref05_follows (nd p i)).x1, (gasolierref05_follows (nd p i)).x2] : List Int) = fol3 (nd p i) := rfl
           simp only [eL]
           refine wp_for 3 (by omega) (fun m (s' : List Int) => s'.length = p.length ∧ (∀ j, j < m → NextOk p i (nd p i) ((fol3 (nd p i)).getD j 0)) ∧ ∀ j : Nat, j < p.length → s'.getD j default = ((names (p.take i) ++ (fol3 (nd p i)).take m).count (j : Int) : Nat)) ⟨I0, fun j hj => by omega, by rw [List.take_zero, List.append_nil]; exact I2⟩ (fun m s' K3 hm hJ hK3 => ?_)
           obtain ⟨J0, J1, J2⟩ := hJ
           refine wp_ifd (fun hlt3 => ?_) (fun hge3 => ?_)
           · have hm' : m < 3 := by simp only at hlt3; omega
             simp only [Int.toNat_natCast, Nat.zero_add, Nat.mul_one]
             have hm3 : m < (fol3 (nd p i)).length := hm'
             have ex0 : (fol3 (nd p i)).getD m default = (fol3 (nd p i)).getD m 0 := rfl
             have hxm : (fol3 (nd p i)).getD m 0 ∈ fol3 (nd p i) := getD_mem (l := fol3 (nd p i)) hm3
             have e3 : (fol3 (nd p i)).take (m + 1) = (fol3 (nd p i)).take m ++ [(fol3 (nd p i)).getD m 0] := take_getD hm3
             have e0 := nextOk_dec (p := p) (i := i) (n := nd p i) (k := (fol3 (nd p i)).getD m 0)
             generalize hx : (fol3 (nd p i)).getD m 0 = x at hxm e3 e0
             refine wp_must (by omega) (wp_mustI (by omega) (wp_mustI (by omega) (wp_must (fun _ => by omega) (wp_must (fun h => ?_) (wp_must (fun _ => by omega) (wp_must (fun h => ?_) ?_))))))
             · simp only [Bool.not_not, rin_iff] at h; omega
             · simp only [Bool.not_not, Bool.and_eq_true, rin_iff] at h; omega
             · refine wp_bif (fun h => wp_some (.inr ⟨fun V => ?_, rfl⟩)) (fun h => ?_)
               · have hn := ((V.node i hi').2 ht).2 x hxm
                 rw [decide_eq_true hn] at e0
                 change ((!(fog_within x ((i : Int) + 1) (((p.length : Nat) : Int) - 1))) || (((p.getD x.toNat default).Test) && (decide ((p.getD x.toNat default).Minute < (nd p i).Minute)))) = true at h
                 rw [h] at e0; cases e0
               · change ((!(fog_within x ((i : Int) + 1) (((p.length : Nat) : Int) - 1))) || (((p.getD x.toNat default).Test) && (decide ((p.getD x.toNat default).Minute < (nd p i).Minute)))) = false at h
                 rw [h] at e0
                 have hn : NextOk p i (nd p i) x := by
                   have : decide (NextOk p i (nd p i) x) = true := by simpa using e0.symm
                   exact of_decide_eq_true this
                 have hx1 := hn.1
                 have hxl : x.toNat < s'.length := by omega
                 have ev : s'.getD x.toNat default = ((names (p.take i) ++ (fol3 (nd p i)).take m).count ((x.toNat : Nat) : Int) : Nat) := J2 x.toNat (by omega)
                 have hcl : (names (p.take i) ++ (fol3 (nd p i)).take m).count ((x.toNat : Nat) : Int) ≤ 1000 := by
                   refine Nat.le_trans List.count_le_length ?_
                   rw [List.length_append]
                   have a1 : ∀ (q : List Node), (names q).length ≤ 3 * q.length := by
                     intro q
                     induction q with
                     | nil => simp [names]
                     | cons y q ih =>
                       have : names (y :: q) = nm y ++ names q := rfl
                       rw [this, List.length_append, List.length_cons]
                       have : (nm y).length ≤ 3 := by unfold nm; split <;> simp [fol3]
                       omega
                   have a2 := a1 (p.take i)
                   have a3 : ((fol3 (nd p i)).take m).length ≤ 3 := by rw [List.length_take]; simp [fol3]; omega
                   have a4 : (p.take i).length ≤ 31 := by rw [List.length_take]; omega
                   omega
                 refine wp_must (by omega) (wp_must (by omega) (wp_mustI (by rw [ev]; omega) (wp_must (by omega) (wp_mustI (by omega) ?_))))
                 refine hK3 _ hm' ⟨by rw [List.length_set]; exact J0, fun j hj => ?_, fun j hj => ?_⟩
                 · by_cases e : j = m
                   · subst e; rw [hx]; exact hn
                   · exact J1 j (by omega)
                 · rw [getD_set _ _ _ _ _ hxl, e3, ← List.append_assoc, List.count_append]
                   by_cases e : j = x.toNat
                   · rw [if_pos e, ev, e]
                     have : ((x.toNat : Nat) : Int) = x := by omega
                     rw [this]; simp
                   · rw [if_neg e, J2 j hj]
                     have : List.count (j : Int) [x] = 0 := by
                       rw [List.count_eq_zero]
                       intro h; rw [List.mem_singleton] at h; omega
                     rw [this]; rfl
           · have hm' : m = 3 := by simp only at hge3; omega
             subst hm'
             refine hK2 _ ⟨⟨fun h => (by rw [ht] at h; cases h), fun _ => ⟨hH, fun k hk => ?_⟩⟩, J0, ?_⟩
             · obtain ⟨j, hj, e⟩ := mem_getD hk
               rw [← e]; exact J1 j hj
             · rw [et, e2]; exact J2
     · refine wp_mustI (by simp only; omega) (hK _ hi' ⟨hs'.2.1, fun j hj => ?_, hs'.2.2⟩)
       by_cases e : j = i
       · rw [e]; exact hs'.1
       · exact I1 j (by omega)
   · have hie : i = p.length := by simp only at hge; omega
     subst hie
     rw [List.take_length] at I2
     have hiff := names_iff hlen.1 I1
     refine wp_loop (fun (s5 : Int) => ∃ j : Nat, s5 = (j : Int) ∧ 1 ≤ j ∧ j ≤ p.length ∧ ∀ k : Nat, 1 ≤ k → k < j → (names p).count (k : Int) = 1) (fun s5 => p.length - s5.toNat) (by omega) ⟨1, rfl, by omega, hlen.1, fun k h1 h2 => by omega⟩ ?_
     rintro s5 K5 ⟨j, rfl, j1, j2, J⟩ hK5
     refine wp_ifd (fun hlt => ?_) (fun hge => wp_some (.inl ⟨?_, rfl⟩))
     · have hj' : j < p.length := by omega
       refine wp_must (by simp only; omega) ?_
       simp only [Int.toNat_natCast, I2 j hj']
       refine wp_ifn (fun h => wp_some (.inr ⟨fun V => ?_, rfl⟩)) (fun h => ?_)
       · have := hiff.1 ⟨V.nodup, V.count⟩ j j1 hj'
         rw [this] at h; exact h rfl
       · refine wp_mustI (by omega) (hK5 _ ⟨j + 1, by simp, by omega, by omega, fun k h1 h2 => ?_⟩ (by omega))
         by_cases e : k = j
         · rw [e]; omega
         · exact J k h1 (by omega)
     · have := hiff.2 (fun k h1 h2 => J k h1 (by omega))
       exact ⟨hlen, I1, this.1, this.2⟩
 · have hw : gasolierref05_In ((p.length : Nat) : Int) 1 31 = false := Bool.eq_false_iff.2 (fun h => by have := rin_iff.1 h; omega)
   rw [hw]
   exact wp_true rfl (wp_some (.inr ⟨fun V => hlen V.len, rfl⟩))
theorem rpol_ok {fuel : Nat} {p : List Node} (hf : 40 < fuel) (h : PolOk p) : gasolierref05_CheckPolicy fuel p = some 0 := by
 obtain ⟨r, e, k⟩ := rcheckPolicy_wp p hf
 rcases k with ⟨_, k⟩ | ⟨k, _⟩
 · rw [e, k]
 · exact absurd h k
theorem rpol_bad {fuel : Nat} {p : List Node} (hf : 40 < fuel) (h : ¬ PolOk p) : gasolierref05_CheckPolicy fuel p = some 53 := by
 obtain ⟨r, e, k⟩ := rcheckPolicy_wp p hf
 rcases k with ⟨k, _⟩ | ⟨_, k⟩
 · exact absurd k h
 · rw [e, k]
end Go.Sp
end
/- Plain laws, fog: where a policy comes to, and where it still may. No program in sight. -/
section
set_option linter.all false
namespace Go.Sp
open Go.Av
set_option maxRecDepth 100000
def tellL (n : Node) (l : List Report) (night m : Int) : Int :=
 if (pairL (seeL l n.District night m)).isSome then 2 else fog_below (sightL (seeL l n.District night m) n.Minute) n.Limit
theorem tellL_vals (n : Node) (l : List Report) (night m : Int) : tellL n l night m = 0 ∨ tellL n l night m = 1 ∨ tellL n l night m = 2 := by
 unfold tellL
 split
 · exact .inr (.inr rfl)
 · rcases below_vals (sightL (seeL l n.District night m) n.Minute) n.Limit with h | h | h
   · exact .inr (.inl h.1)
   · exact .inl h.1
   · exact .inr (.inr h.1)
theorem ftell_eq {fuel : Nat} (n : Node) (l : List Report) (night m : Int) (hl : l.length ≤ 60) (hf : 61 < fuel) : fog_tell fuel n l night m = some (tellL n l night m) := by
 unfold fog_tell
 have hle : (seeL l n.District night m).length ≤ 60 := Nat.le_trans (List.length_filter_le _ _) hl
 refine Wp.eq (wp_bindE (fsee_eq fuel l _ _ _ hl (by omega)) (wp_bindE (fpair_eq _ (by omega)) ?_))
 unfold tellL
 rw [pairR_two]
 cases (pairL (seeL l n.District night m)).isSome
 · exact wp_false rfl (wp_bindE (fsight_eq _ _) (wp_some rfl))
 · exact wp_true rfl (wp_some rfl)
theorem rtells_eq {fuel : Nat} (n : Node) (l : List Report) (a : gasolierref05_At) (hl : l.length ≤ 60) (hf : 61 < fuel) : gasolierref05_tells fuel n l a = some (tellL n l a.Night a.Moment) := by
 unfold gasolierref05_tells
 have hle : (seeL l n.District a.Night a.Moment).length ≤ 60 := Nat.le_trans (List.length_filter_le _ _) hl
 refine Wp.eq (wp_bindE (rof_eq l _ hl hf) (wp_bindE (rclash_eq _ hle hf) ?_))
 simp only
 unfold tellL pairR
 cases pairL (seeL l n.District a.Night a.Moment) with
 | none => exact wp_false (by simp) (wp_bindE (rsight_eq _ _ hle hf) (wp_some rfl))
 | some x => exact wp_true (by simp) (wp_some rfl)
def nextL (n : Node) (a : Int) : Int := if a = 1 then n.Yes else if a = 0 then n.No else n.Maybe
theorem fnext_eq (n : Node) {a : Int} (h : a = 0 ∨ a = 1 ∨ a = 2) : ((fog_next n).get a).getD default = nextL n a := by
 rcases h with rfl | rfl | rfl <;> rfl
theorem rnext_eq (n : Node) (a : Int) : gasolierref05_next n a = nextL n a := by
 unfold gasolierref05_next nextL
 by_cases h : a = 1
 · rw [decide_eq_true h, if_pos h]; rfl
 · rw [decide_eq_false h, if_neg h]
   by_cases h0 : a = 0
   · rw [decide_eq_true h0, if_pos h0]; rfl
   · rw [decide_eq_false h0, if_neg h0]; rfl
theorem next_mem (n : Node) (a : Int) : nextL n a ∈ fol3 n := by
 unfold nextL fol3
 split
 · simp
 · split <;> simp
def stamp (night : Int) (n : Node) : Int := night * 1440 + n.Minute
theorem stamp_eq {night : Int} {n : Node} (h : 0 ≤ night ∧ night ≤ 100000) (hm : 0 ≤ n.Minute ∧ n.Minute ≤ 1439) : fog_moment night n.Minute = some (stamp night n) := by
 unfold fog_moment stamp
 exact (must_yes (by unfold inI; omega) _).trans (must_yes (by unfold inI; omega) _)
theorem rstamp_eq {night : Int} {n : Node} (h : 0 ≤ night ∧ night ≤ 100000) (hm : 0 ≤ n.Minute ∧ n.Minute ≤ 1439) : gasolierref05_momentOf n night = some (stamp night n) := by
 unfold gasolierref05_momentOf stamp
 exact (must_yes (by unfold inI; omega) _).trans (must_yes (by unfold inI; omega) _)
theorem pol_test {p : List Node} (V : PolOk p) {i : Int} (h0 : 0 ≤ i) (h1 : i < p.length) (ht : (nd p i.toNat).Test = true) : TestHead (nd p i.toNat) ∧ ∀ k ∈ fol3 (nd p i.toNat), i + 1 ≤ k ∧ k ≤ (p.length : Int) - 1 ∧ ((nd p k.toNat).Test = true → (nd p i.toNat).Minute ≤ (nd p k.toNat).Minute) := by
 have := (V.node i.toNat (by omega)).2 ht
 refine ⟨this.1, fun k hk => ?_⟩
 have h := this.2 k hk
 unfold NextOk at h
 have e : ((i.toNat : Nat) : Int) = i := by omega
 rw [e] at h
 exact ⟨h.1.1, h.1.2, h.2⟩
theorem pol_one {p : List Node} (V : PolOk p) {i j : Int} (hi : 0 ≤ i ∧ i < p.length) (hj : 0 ≤ j ∧ j < p.length) (ti : (nd p i.toNat).Test = true) (tj : (nd p j.toNat).Test = true) {k : Int} (h1 : k ∈ fol3 (nd p i.toNat)) (h2 : k ∈ fol3 (nd p j.toNat)) : i = j := by
 have hn := V.nodup
 unfold names at hn
 rw [List.Nodup, List.pairwise_flatMap] at hn
 have key : ∀ {a b : Nat}, a < b → b < p.length → (nd p a).Test = true → (nd p b).Test = true → k ∈ fol3 (nd p a) → k ∈ fol3 (nd p b) → False := by
   intro a b hab hb ta tb ka kb
   have := List.pairwise_iff_getElem.1 hn.2 a b (by omega) hb hab
   have ea : p[a] = nd p a := by unfold nd; simp [List.getElem?_eq_getElem (show a < p.length by omega)]
   have eb : p[b] = nd p b := by unfold nd; simp [List.getElem?_eq_getElem hb]
   rw [ea, eb] at this
   refine this k (by unfold nm; rw [if_pos ta]; exact ka) k (by unfold nm; rw [if_pos tb]; exact kb) rfl
 rcases Nat.lt_trichotomy i.toNat j.toNat with h | h | h
 · exact (key h (by omega) ti tj h1 h2).elim
 · omega
 · exact (key h (by omega) tj ti h2 h1).elim
theorem fol_nodup {p : List Node} (V : PolOk p) {i : Int} (h0 : 0 ≤ i) (h1 : i < p.length) (ht : (nd p i.toNat).Test = true) : (fol3 (nd p i.toNat)).Nodup := by
 have hn := V.nodup
 unfold names at hn
 rw [List.Nodup, List.pairwise_flatMap] at hn
 have := hn.1 (nd p i.toNat) (getD_mem (by omega))
 unfold nm at this
 rw [if_pos ht] at this
 exact this
def stp (p : List Node) (l : List Report) (night i : Int) : Int := nextL (nd p i.toNat) (tellL (nd p i.toNat) l night (stamp night (nd p i.toNat)))
def pathL (p : List Node) (l : List Report) (night : Int) : Nat → Int → List Int
 | 0, _ => []
 | k + 1, i => if (nd p i.toNat).Test then stp p l night i :: pathL p l night k (stp p l night i) else []
theorem pathL_len (p : List Node) (l : List Report) (night : Int) : ∀ (k : Nat) (i : Int), (pathL p l night k i).length ≤ k
 | 0, _ => Nat.le_refl _
 | k + 1, i => by
   unfold pathL
   split
   · have := pathL_len p l night k (stp p l night i); simp only [List.length_cons]; omega
   · simp
theorem pathL_more {p : List Node} {l : List Report} {night : Int} (V : PolOk p) : ∀ (k k' : Nat) (i : Int), 0 ≤ i → i < p.length → p.length - i.toNat ≤ k → p.length - i.toNat ≤ k' → pathL p l night k i = pathL p l night k' i
 | 0, k', i, h0, h1, hk, hk' => by omega
 | k + 1, 0, i, h0, h1, hk, hk' => by omega
 | k + 1, k' + 1, i, h0, h1, hk, hk' => by
   unfold pathL
   by_cases ht : (nd p i.toNat).Test = true
   · rw [if_pos ht, if_pos ht]
     have := (pol_test V h0 h1 ht).2 _ (next_mem (nd p i.toNat) (tellL (nd p i.toNat) l night (stamp night (nd p i.toNat))))
     rw [pathL_more V k k' (stp p l night i) (by unfold stp; omega) (by unfold stp; omega) (by unfold stp; omega) (by unfold stp; omega)]
   · rw [if_neg ht, if_neg ht]
def pathF (p : List Node) (l : List Report) (night : Int) : List Int := 0 :: pathL p l night p.length 0
theorem path_loop {fuel : Nat} {p : List Node} {l : List Report} {night : Int} (V : PolOk p) {body : (Int × List Int) → ((Int × List Int) → Option (List Int)) → Option (List Int)} {P : List Int → Prop} (hf : 31 < fuel)
   (hb : ∀ (i : Int) (out : List Int) K, 0 ≤ i → i < p.length → out.length ≤ 31 → ((nd p i.toNat).Test = true → TestHead (nd p i.toNat) → Wp (K (stp p l night i, out ++ [stp p l night i])) P) → ((nd p i.toNat).Test = false → P out) → Wp (body (i, out) K) P) (hP : P (pathF p l night)) : Wp (loopGo body fuel (0, [0])) P := by
 refine wp_loop (fun s => 0 ≤ s.1 ∧ s.1 < p.length ∧ s.2 ++ pathL p l night (p.length - s.1.toNat) s.1 = pathF p l night ∧ s.2.length + (p.length - s.1.toNat) ≤ p.length + 1) (fun s => p.length - s.1.toNat) (by have := V.len; simp only; omega) ⟨by simp, by have := V.len; simp only; omega, rfl, by simp; omega⟩ ?_
 rintro ⟨i, out⟩ K ⟨h0, h1, h2, h3⟩ hK
 simp only at h0 h1 h2 h3 hK
 have hlen := V.len
 refine hb i out K h0 h1 (by omega) (fun ht hh => ?_) (fun ht => ?_)
 · have hn := (pol_test V h0 h1 ht).2 _ (next_mem (nd p i.toNat) (tellL (nd p i.toNat) l night (stamp night (nd p i.toNat))))
   have hs : i + 1 ≤ stp p l night i ∧ stp p l night i ≤ (p.length : Int) - 1 := ⟨hn.1, hn.2.1⟩
   refine hK _ ⟨by omega, by omega, ?_, by simp only [List.length_append, List.length_cons, List.length_nil]; omega⟩ (by omega)
   have e : p.length - i.toNat = (p.length - i.toNat - 1) + 1 := by omega
   rw [e] at h2
   unfold pathL at h2
   rw [if_pos ht] at h2
   rw [← h2, List.append_assoc, List.singleton_append, pathL_more V (p.length - (stp p l night i).toNat) (p.length - i.toNat - 1) _ (by omega) (by omega) (by omega) (by omega)]
 · have e : p.length - i.toNat = (p.length - i.toNat - 1) + 1 := by omega
   rw [e] at h2
   unfold pathL at h2
   rw [if_neg (by rw [ht]; simp), List.append_nil] at h2
   rw [h2]; exact hP
theorem fpath_eq {fuel : Nat} {p : List Node} {l : List Report} {night : Int} (V : PolOk p) (hl : l.length ≤ 60) (hn : 0 ≤ night ∧ night ≤ 100000) (hf : 61 < fuel) : fog_path fuel p l night = some (pathF p l night) := by
 unfold fog_path
 refine Wp.eq (path_loop V (l := l) (night := night) (by omega) (fun i out K h0 h1 ho hK hE => ?_) rfl)
 simp only
 refine wp_must (by omega) ?_
 have en : p.getD i.toNat default = nd p i.toNat := rfl
 simp only [en]
 refine wp_bif (fun ht => ?_) (fun ht => wp_some (hE ht))
 have hh := (pol_test V h0 h1 ht).1
 refine wp_must (by omega) (wp_must (by omega) (wp_must (by omega) (wp_bindE (stamp_eq hn hh.2.1) (wp_bindE (ftell_eq _ _ _ _ hl hf) ?_))))
 rw [fnext_eq _ (tellL_vals _ _ _ _)]
 exact wp_mustR (by simp; omega) (hK ht hh)
theorem rpath_eq {fuel : Nat} {p : List Node} {l : List Report} {night : Int} (V : PolOk p) (hl : l.length ≤ 60) (hn : 0 ≤ night ∧ night ≤ 100000) (hf : 61 < fuel) : gasolierref05_path fuel p l night = some (pathF p l night) := by
 unfold gasolierref05_path
 refine Wp.eq (path_loop V (l := l) (night := night) (by omega) (fun i out K h0 h1 ho hK hE => ?_) rfl)
 simp only
 refine wp_must (by omega) ?_
 have en : p.getD i.toNat default = nd p i.toNat := rfl
 simp only [en]
 refine wp_bif (fun ht => ?_) (fun ht => wp_some (hE ht))
 have hh := (pol_test V h0 h1 ht).1
 refine wp_must (by omega) (wp_must (by omega) (wp_must (by omega) (wp_bindE (rstamp_eq hn hh.2.1) (wp_bindE (rtells_eq _ _ _ hl hf) ?_))))
 rw [rnext_eq]
 exact wp_mustR (by simp; omega) (hK ht hh)
open Classical in
noncomputable def askR (p : List Node) (l : List Report) (night m : Int) : Int := if ¬ PolOk p then 53 else if ¬ RepsOk l then 51 else if ¬ (dayOk night m) then 6 else 0
theorem askR_zero {p : List Node} {l : List Report} {night m : Int} : askR p l night m = 0 ↔ PolOk p ∧ RepsOk l ∧ dayOk night m := by
 unfold askR
 constructor
 · intro h
   split at h
   · cases h
   · split at h
     · cases h
     · split at h
       · cases h
       · next h1 h2 h3 => exact ⟨Classical.not_not.1 h1, Classical.not_not.1 h2, Classical.not_not.1 h3⟩
 · rintro ⟨h1, h2, h3⟩
   rw [if_neg (fun h => h h1), if_neg (fun h => h h2), if_neg (fun h => h h3)]
theorem fasked_eq (p : List Node) (l : List Report) (night m : Int) : fog_asked p l night m = some (askR p l night m) := by
 unfold fog_asked askR
 refine Wp.eq ?_
 by_cases h1 : PolOk p
 · rw [if_neg (fun h => h h1)]
   refine wp_bindE (fpol_ok h1) (wp_false rfl ?_)
   by_cases h2 : RepsOk l
   · rw [if_neg (fun h => h h2)]
     refine wp_bindE (fcheck_ok h2) (wp_false rfl ?_)
     refine wp_bif (fun hb => ?_) (fun hb => ?_)
     · rw [if_pos (fun h3 : dayOk night m => ?_)]
       · exact wp_some rfl
       · unfold fog_isNight fog_isMoment at hb
         unfold dayOk at h3
         rw [fwithin_iff.2 (by omega), fwithin_iff.2 (by omega)] at hb
         cases hb
     · have h3 : dayOk night m := by
         unfold fog_isNight fog_isMoment at hb
         simp only [Bool.or_eq_false_iff, Bool.not_eq_false', fwithin_iff] at hb
         unfold dayOk; omega
       rw [if_neg (fun h => h h3)]
       exact wp_some rfl
   · rw [if_pos h2]
     exact wp_bindE (fcheck_bad h2) (wp_true rfl (wp_some rfl))
 · rw [if_pos h1]
   exact wp_bindE (fpol_bad h1) (wp_true rfl (wp_some rfl))
theorem rvalid_eq {fuel : Nat} (p : List Node) (l : List Report) (a : gasolierref05_At) (hf : 61 < fuel) : gasolierref05_valid fuel p l a = some (askR p l a.Night a.Moment) := by
 unfold gasolierref05_valid askR
 refine Wp.eq ?_
 by_cases h1 : PolOk p
 · rw [if_neg (fun h => h h1)]
   refine wp_bindE (rpol_ok (by omega) h1) (wp_false rfl ?_)
   by_cases h2 : RepsOk l
   · rw [if_neg (fun h => h h2)]
     refine wp_bindE (rcheck_ok hf h2) (wp_false rfl ?_)
     refine wp_bif (fun hb => ?_) (fun hb => ?_)
     · rw [if_pos (fun h3 : dayOk a.Night a.Moment => ?_)]
       · exact wp_some rfl
       · unfold gasolierref05_isMoment at hb
         unfold dayOk at h3
         rw [rin_iff.2 (by omega), rin_iff.2 (by omega)] at hb
         cases hb
     · have h3 : dayOk a.Night a.Moment := by
         unfold gasolierref05_isMoment at hb
         simp only [Bool.or_eq_false_iff, Bool.not_eq_false', rin_iff] at hb
         unfold dayOk; omega
       rw [if_neg (fun h => h h3)]
       exact wp_some rfl
   · rw [if_pos h2]
     exact wp_bindE (rcheck_bad hf h2) (wp_true rfl (wp_some rfl))
 · rw [if_pos h1]
   exact wp_bindE (rpol_bad (by omega) h1) (wp_true rfl (wp_some rfl))
def suc (p : List Node) (l : List Report) (night now i : Int) : List Int :=
 if (nd p i.toNat).Test then
   (if now < stamp night (nd p i.toNat) ∧ tellL (nd p i.toNat) l night (min (stamp night (nd p i.toNat)) now) = 2 then fol3 (nd p i.toNat)
    else [nextL (nd p i.toNat) (tellL (nd p i.toNat) l night (min (stamp night (nd p i.toNat)) now))]) else []
theorem suc_sub {p : List Node} {l : List Report} {night now i k : Int} (h : k ∈ suc p l night now i) : (nd p i.toNat).Test = true ∧ k ∈ fol3 (nd p i.toNat) := by
 unfold suc at h
 split at h
 · next ht =>
   refine ⟨ht, ?_⟩
   split at h
   · exact h
   · rw [List.mem_singleton] at h; rw [h]; exact next_mem _ _
 · cases h
theorem suc_in {p : List Node} (V : PolOk p) {l : List Report} {night now i k : Int} (hi : 0 ≤ i ∧ i < p.length) (h : k ∈ suc p l night now i) : i < k ∧ k < p.length := by
 obtain ⟨ht, hk⟩ := suc_sub h
 have := (pol_test V hi.1 hi.2 ht).2 k hk
 omega
theorem suc_nodup {p : List Node} (V : PolOk p) {l : List Report} {night now i : Int} (hi : 0 ≤ i ∧ i < p.length) : (suc p l night now i).Nodup := by
 unfold suc
 split
 · next ht =>
   split
   · exact fol_nodup V hi.1 hi.2 ht
   · simp
 · exact .nil
inductive Reach (S : Int → List Int) : Int → Int → Prop
 | refl (a : Int) : Reach S a a
 | step {a b c : Int} : Reach S a b → c ∈ S b → Reach S a c
theorem Reach.trans {S : Int → List Int} {a b c : Int} (h1 : Reach S a b) (h2 : Reach S b c) : Reach S a c := by
 induction h2 with
 | refl => exact h1
 | step _ h ih => exact ih.step h
theorem Reach.mono {S T : Int → List Int} (h : ∀ i k, k ∈ S i → k ∈ T i) {a b : Int} (hr : Reach S a b) : Reach T a b := by
 induction hr with
 | refl => exact .refl _
 | step _ hc ih => exact ih.step (h _ _ hc)
theorem reach_in {p : List Node} (V : PolOk p) {l : List Report} {night now a b : Int} (h : Reach (suc p l night now) a b) (h0 : 0 ≤ a) (h1 : a < p.length) : a ≤ b ∧ b < p.length := by
 induction h with
 | refl => omega
 | step _ hc ih => have := suc_in V ⟨by omega, ih.2⟩ hc; omega
theorem reach_or {p : List Node} (V : PolOk p) {l : List Report} {night now a b j : Int} (ha : 0 ≤ a ∧ a < p.length) (hb : 0 ≤ b ∧ b < p.length) (h1 : Reach (suc p l night now) a j) (h2 : Reach (suc p l night now) b j) : Reach (suc p l night now) a b ∨ Reach (suc p l night now) b a := by
 induction h1 with
 | refl => exact .inr h2
 | step ha1 hc ih =>
   rename_i c k
   cases h2 with
   | refl => exact .inl (ha1.step hc)
   | step hb1 hc2 =>
     rename_i c2
     have i1 := reach_in V ha1 ha.1 ha.2
     have i2 := reach_in V hb1 hb.1 hb.2
     obtain ⟨t1, m1⟩ := suc_sub hc
     obtain ⟨t2, m2⟩ := suc_sub hc2
     have e := pol_one V (i := c) (j := c2) ⟨by omega, i1.2⟩ ⟨by omega, i2.2⟩ t1 t2 m1 m2
     rw [← e] at hb1
     exact ih hb1
theorem reach_disj {p : List Node} (V : PolOk p) {l : List Report} {night now i a b j : Int} (hi : 0 ≤ i ∧ i < p.length) (ha : a ∈ suc p l night now i) (hb : b ∈ suc p l night now i) (hab : a ≠ b) (h1 : Reach (suc p l night now) a j) (h2 : Reach (suc p l night now) b j) : False := by
 have key : ∀ {a b : Int}, a ∈ suc p l night now i → b ∈ suc p l night now i → a ≠ b → Reach (suc p l night now) a b → False := by
   intro a b ha hb hab h
   have ia := suc_in V hi ha
   have ib := suc_in V hi hb
   cases h with
   | refl => exact hab rfl
   | step h3 h4 =>
     rename_i c
     have ic := reach_in V h3 (by omega) ia.2
     obtain ⟨t1, m1⟩ := suc_sub h4
     obtain ⟨t2, m2⟩ := suc_sub hb
     have := pol_one V (i := c) (j := i) ⟨by omega, ic.2⟩ hi t1 t2 m1 m2
     omega
 have ia := suc_in V hi ha
 have ib := suc_in V hi hb
 rcases reach_or V ⟨by omega, ia.2⟩ ⟨by omega, ib.2⟩ h1 h2 with h | h
 · exact key ha hb hab h
 · exact key hb ha (fun e => hab e.symm) h
def dfs (p : List Node) (l : List Report) (night now : Int) : Nat → Int → List Int
 | 0, _ => []
 | k + 1, i => if (nd p i.toNat).Test then (suc p l night now i).flatMap (dfs p l night now k) else [i]
theorem dfs_mem {p : List Node} (V : PolOk p) {l : List Report} {night now : Int} : ∀ (k : Nat) (i j : Int), 0 ≤ i → i < p.length → p.length - i.toNat ≤ k → (j ∈ dfs p l night now k i ↔ Reach (suc p l night now) i j ∧ (nd p j.toNat).Test = false)
 | 0, i, j, h0, h1, hk => by omega
 | k + 1, i, j, h0, h1, hk => by
   unfold dfs
   by_cases ht : (nd p i.toNat).Test = true
   · rw [if_pos ht, List.mem_flatMap]
     constructor
     · rintro ⟨a, ha, h⟩
       have ia := suc_in V ⟨h0, h1⟩ ha
       rw [dfs_mem V k a j (by omega) ia.2 (by omega)] at h
       exact ⟨((Reach.refl i).step ha).trans h.1, h.2⟩
     · rintro ⟨h, hl⟩
       have : i = j ∨ ∃ a, a ∈ suc p l night now i ∧ Reach (suc p l night now) a j := by
         clear hl hk
         induction h with
         | refl => exact .inl rfl
         | step h hc ih =>
           rename_i c d
           rcases ih with rfl | ⟨a, ha, h'⟩
           · exact .inr ⟨d, hc, .refl _⟩
           · exact .inr ⟨a, ha, h'.step hc⟩
       rcases this with rfl | ⟨a, ha, h'⟩
       · rw [ht] at hl; cases hl
       · have ia := suc_in V ⟨h0, h1⟩ ha
         exact ⟨a, ha, (dfs_mem V k a j (by omega) ia.2 (by omega)).2 ⟨h', hl⟩⟩
   · rw [if_neg ht, List.mem_singleton]
     constructor
     · rintro rfl; exact ⟨.refl _, by simpa using ht⟩
     · rintro ⟨h, hl⟩
       have : i = j ∨ ∃ a, a ∈ suc p l night now i := by
         clear hl hk
         induction h with
         | refl => exact .inl rfl
         | step h hc ih =>
           rcases ih with rfl | h'
           · exact .inr ⟨_, hc⟩
           · exact .inr h'
       rcases this with rfl | ⟨a, ha⟩
       · rfl
       · exact absurd (suc_sub ha).1 ht
theorem dfs_nodup {p : List Node} (V : PolOk p) {l : List Report} {night now : Int} : ∀ (k : Nat) (i : Int), 0 ≤ i → i < p.length → p.length - i.toNat ≤ k → (dfs p l night now k i).Nodup
 | 0, i, h0, h1, hk => by omega
 | k + 1, i, h0, h1, hk => by
   unfold dfs
   by_cases ht : (nd p i.toNat).Test = true
   · rw [if_pos ht, List.Nodup, List.pairwise_flatMap]
     refine ⟨fun a ha => ?_, ?_⟩
     · have ia := suc_in V ⟨h0, h1⟩ ha
       exact dfs_nodup V k a (by omega) ia.2 (by omega)
     · have hn := suc_nodup V (l := l) (night := night) (now := now) ⟨h0, h1⟩
       refine List.Pairwise.imp_of_mem (fun {a b} ha hb hab x hx y hy e => ?_) hn
       have ia := suc_in V ⟨h0, h1⟩ ha
       have ib := suc_in V ⟨h0, h1⟩ hb
       rw [← e] at hy
       exact reach_disj V ⟨h0, h1⟩ ha hb hab ((dfs_mem V k a x (by omega) ia.2 (by omega)).1 hx).1 ((dfs_mem V k b x (by omega) ib.2 (by omega)).1 hy).1
   · rw [if_neg ht]; simp
theorem dfs_some {p : List Node} (V : PolOk p) {l : List Report} {night now : Int} : ∀ (k : Nat) (i : Int), 0 ≤ i → i < p.length → p.length - i.toNat ≤ k → dfs p l night now k i ≠ []
 | 0, i, h0, h1, hk => by omega
 | k + 1, i, h0, h1, hk => by
   unfold dfs
   by_cases ht : (nd p i.toNat).Test = true
   · rw [if_pos ht]
     have : ∃ a, a ∈ suc p l night now i := by
       unfold suc
       rw [if_pos ht]
       split
       · exact ⟨_, next_mem _ 1⟩
       · exact ⟨_, List.mem_singleton.2 rfl⟩
     obtain ⟨a, ha⟩ := this
     have ia := suc_in V ⟨h0, h1⟩ ha
     have := dfs_some V (l := l) (night := night) (now := now) k a (by omega) ia.2 (by omega)
     intro e
     rw [List.flatMap_eq_nil_iff] at e
     exact this (e a ha)
   · rw [if_neg ht]; simp
theorem dfs_len {p : List Node} (V : PolOk p) {l : List Report} {night now : Int} {k : Nat} (hk : p.length ≤ k) : (dfs p l night now k 0).length ≤ 31 := by
 have hlen := V.len
 have h1 := dfs_nodup V (l := l) (night := night) (now := now) k 0 (by omega) (by omega) (by omega)
 have h2 := nodup_le h1 (r := (List.range p.length).map (fun j : Nat => (j : Int))) (fun j hj => by
   have := ((dfs_mem V k 0 j (by omega) (by omega) (by omega)).1 hj).1
   have := reach_in V this (by omega) (by omega)
   rw [List.mem_map]
   exact ⟨j.toNat, List.mem_range.2 (by omega), by omega⟩)
 rw [List.length_map, List.length_range] at h2
 omega
def possL (p : List Node) (l : List Report) (night now : Int) : List Int := isort (dfs p l night now p.length 0)
theorem possL_mem {p : List Node} (V : PolOk p) {l : List Report} {night now j : Int} : j ∈ possL p l night now ↔ Reach (suc p l night now) 0 j ∧ (nd p j.toNat).Test = false := by
 have hlen := V.len
 unfold possL
 rw [(isort_perm _).mem_iff]
 exact dfs_mem V p.length 0 j (by omega) (by omega) (by omega)
theorem possL_nodup {p : List Node} (V : PolOk p) {l : List Report} {night now : Int} : (possL p l night now).Nodup := by
 have hlen := V.len
 unfold possL
 exact (isort_perm _).nodup_iff.2 (dfs_nodup V p.length 0 (by omega) (by omega) (by omega))
theorem possL_len {p : List Node} (V : PolOk p) {l : List Report} {night now : Int} : 0 < (possL p l night now).length ∧ (possL p l night now).length ≤ 31 := by
 have hlen := V.len
 unfold possL
 rw [isort_length]
 exact ⟨List.length_pos_iff.2 (dfs_some V p.length 0 (by omega) (by omega) (by omega)), dfs_len V (by omega)⟩
end Go.Sp
end
/- Plain laws, fog: the possible leaves by program and document; FogPolicies. No program in sight. -/
section
set_option linter.all false
namespace Go.Sp
open Go.Av
set_option maxRecDepth 100000
theorem nowL {p : List Node} {l : List Report} {night now i : Int} (ht : (nd p i.toNat).Test = true) : suc p l night now i =
   if now < stamp night (nd p i.toNat) ∧ tellL (nd p i.toNat) l night (min (stamp night (nd p i.toNat)) now) = 2 then fol3 (nd p i.toNat)
    else [nextL (nd p i.toNat) (tellL (nd p i.toNat) l night (min (stamp night (nd p i.toNat)) now))] := by
 unfold suc; rw [if_pos ht]
theorem flat_take (f : Int → List Int) (l : List Int) {i : Nat} (h : i < l.length) : (l.take (i + 1)).flatMap f = (l.take i).flatMap f ++ f (l.getD i default) := by
 rw [take_getD h, List.flatMap_append]; simp
theorem fposs_wp {fuel : Nat} {p : List Node} {l : List Report} {night now : Int} (V : PolOk p) (hl : l.length ≤ 60) (hn : 0 ≤ night ∧ night ≤ 100000) (hf : 61 < fuel) :
   ∀ (k : Nat) (i : Int) (out : List Int), 0 ≤ i → i < p.length → p.length - i.toNat ≤ k → (out ++ dfs p l night now k i).length ≤ 1000 → fog_possible_1_l fuel k i p out night l now = some (out ++ dfs p l night now k i)
 | 0, i, out, h0, h1, hk, _ => by omega
 | k + 1, i, out, h0, h1, hk, hr => by
   show fog_possible_1_l_F fuel (fog_possible_1_l fuel k) i p out night l now = _
   unfold fog_possible_1_l_F
   have en : p.getD i.toNat default = nd p i.toNat := rfl
   simp only [en]
   refine Wp.eq (wp_must (by omega) (wp_bif (fun ht => ?_) (fun ht => ?_)))
   · have ht : ¬ (nd p i.toNat).Test = true := by simpa using ht
     have e : dfs p l night now (k + 1) i = [i] := by unfold dfs; rw [if_neg ht]
     rw [e] at hr ⊢
     exact wp_mustR (by omega) (wp_some rfl)
   · have ht : (nd p i.toNat).Test = true := by simpa using ht
     have e : dfs p l night now (k + 1) i = (suc p l night now i).flatMap (dfs p l night now k) := by unfold dfs; rw [if_pos ht]
     rw [e] at hr ⊢
     have hh := pol_test V h0 h1 ht
     have hs : ∀ a, a ∈ fol3 (nd p i.toNat) → 0 ≤ a ∧ a < p.length ∧ p.length - a.toNat ≤ k := fun a ha => by have := hh.2 a ha; omega
     refine wp_bindE (stamp_eq hn hh.1.2.1) (wp_bindE (ftell_eq _ _ _ _ hl hf) ?_)
     rw [nowL ht] at hr ⊢
     refine wp_bif (fun hb => ?_) (fun hb => ?_)
     · simp only [Bool.and_eq_true, decide_eq_true_eq] at hb
       rw [if_pos hb] at hr ⊢
       show Wp (rangeGo _ _ (fol3 (nd p i.toNat)).length 0 out) _
       refine wp_range (fun m s => s = out ++ ((fol3 (nd p i.toNat)).take m).flatMap (dfs p l night now k)) (by simp) (fun m s K hm hI hK => ?_) (fun s hI => wp_some (by rw [hI, List.take_length]))
       have eL : ([(nd p i.toNat).Yes, (nd p i.toNat).No, (nd p i.toNat).Maybe] : List Int) = fol3 (nd p i.toNat) := rfl
       simp only [eL]
       have hx := hs _ (getD_mem hm)
       have et := flat_take (dfs p l night now k) _ hm
       refine wp_bindE (fposs_wp V hl hn hf k _ s hx.1 hx.2.1 hx.2.2 ?_) (hK _ ?_)
       · rw [hI, List.append_assoc, ← et]
         refine Nat.le_trans ?_ hr
         rw [List.length_append, List.length_append]
         have e5 : (fol3 (nd p i.toNat)).flatMap (dfs p l night now k) = ((fol3 (nd p i.toNat)).take (m + 1)).flatMap (dfs p l night now k) ++ ((fol3 (nd p i.toNat)).drop (m + 1)).flatMap (dfs p l night now k) := by rw [← List.flatMap_append, List.take_append_drop]
         rw [e5, List.length_append]; omega
       · rw [et, hI, List.append_assoc]
     · have hb' : ¬ (now < stamp night (nd p i.toNat) ∧ tellL (nd p i.toNat) l night (min (stamp night (nd p i.toNat)) now) = 2) := by
         rintro ⟨b1, b2⟩
         rw [decide_eq_true b1, decide_eq_true b2] at hb; cases hb
       rw [if_neg hb'] at hr ⊢
       simp only [List.flatMap_cons, List.flatMap_nil, List.append_nil] at hr ⊢
       rw [fnext_eq _ (tellL_vals _ _ _ _)]
       have hx := hs _ (next_mem (nd p i.toNat) (tellL (nd p i.toNat) l night (min (stamp night (nd p i.toNat)) now)))
       exact wp_bindE (fposs_wp V hl hn hf k _ out hx.1 hx.2.1 hx.2.2 hr) (wp_some rfl)
theorem dfs_more {p : List Node} {l : List Report} {night now : Int} (V : PolOk p) : ∀ (k k' : Nat) (i : Int), 0 ≤ i → i < p.length → p.length - i.toNat ≤ k → p.length - i.toNat ≤ k' → dfs p l night now k i = dfs p l night now k' i
 | 0, _, i, h0, h1, hk, _ => by omega
 | k + 1, 0, i, h0, h1, _, hk => by omega
 | k + 1, k' + 1, i, h0, h1, hk, hk' => by
   unfold dfs
   split
   · rw [List.flatMap_def, List.flatMap_def, List.map_congr_left fun a ha => ?_]
     have := suc_in V ⟨h0, h1⟩ ha
     exact dfs_more V k k' a (by omega) this.2 (by omega) (by omega)
   · rfl
theorem fpossible_eq {fuel : Nat} {p : List Node} {l : List Report} {night now : Int} (V : PolOk p) (hl : l.length ≤ 60) (hn : 0 ≤ night ∧ night ≤ 100000) (hf : 61 < fuel) : fog_possible fuel p l night now = some (possL p l night now) := by
 unfold fog_possible
 have hlen := V.len
 have hd := dfs_len V (l := l) (night := night) (now := now) (k := fuel) (by omega)
 have em := dfs_more V (l := l) (night := night) (now := now) fuel p.length 0 (by omega) (by omega) (by omega) (by omega)
 refine Wp.eq (wp_bindE (fposs_wp V hl hn hf fuel 0 [] (by omega) (by omega) (by omega) (by rw [List.nil_append]; omega)) ?_)
 rw [List.nil_append, em]
 rw [em] at hd
 refine wp_bindE (must_yes (by omega) _ : slices_Sort_int_l _ = _) (wp_must (isort_length _) (wp_some rfl))
theorem rpossible_wp {fuel : Nat} {p : List Node} {l : List Report} (a : gasolierref05_At) (V : PolOk p) (hl : l.length ≤ 60) (hn : 0 ≤ a.Night ∧ a.Night ≤ 100000) (hf : 61 < fuel) :
   Wp (gasolierref05_possible fuel p l a) (fun s => s.length = p.length ∧ ∀ j : Nat, j < p.length → (s.getD j default = true ↔ Reach (suc p l a.Night a.Moment) 0 (j : Int))) := by
 unfold gasolierref05_possible
 have hlen := V.len
 have reach_pred : ∀ {b : Int}, Reach (suc p l a.Night a.Moment) 0 b ↔ b = 0 ∨ ∃ c, Reach (suc p l a.Night a.Moment) 0 c ∧ b ∈ suc p l a.Night a.Moment c := by
   intro b
   constructor
   · intro h
     cases h with
     | refl => exact .inl rfl
     | step h1 h2 => exact .inr ⟨_, h1, h2⟩
   · rintro (rfl | ⟨c, h1, h2⟩)
     · exact .refl _
     · exact h1.step h2
 refine wp_must (by unfold room; omega) (wp_must (by simp; omega) ?_)
 refine wp_for p.length (by omega) (fun i (s : List Bool) => s.length = p.length ∧ ∀ j : Nat, j < p.length → (s.getD j default = true ↔ j = 0 ∨ ∃ c : Nat, c < i ∧ Reach (suc p l a.Night a.Moment) 0 (c : Int) ∧ (j : Int) ∈ suc p l a.Night a.Moment (c : Int))) ⟨by simp, fun j hj => ?_⟩ (fun i s K hi hI hK => ?_)
 · rw [getD_set _ _ _ _ _ (by simp; omega)]
   by_cases h : j = 0
   · rw [if_pos h]; exact ⟨fun _ => .inl h, fun _ => rfl⟩
   · rw [if_neg h]
     have : (List.replicate (((p.length : Nat) : Int)).toNat false).getD j default = false := getD_replicate p.length j false
     rw [this]
     exact ⟨fun h => (nomatch h), fun h' => by rcases h' with h' | ⟨c, hc, _⟩ <;> omega⟩
 · obtain ⟨I0, I1⟩ := hI
   refine wp_ifd (fun hlt => ?_) (fun hge => ?_)
   · have hi' : i < p.length := by simp only at hlt; omega
     have hR : s.getD i default = true ↔ Reach (suc p l a.Night a.Moment) 0 (i : Int) := by
       rw [I1 i hi', reach_pred]
       constructor
       · rintro (h | ⟨c, _, h⟩)
         · exact .inl (by omega)
         · exact .inr ⟨_, h⟩
       · rintro (h | ⟨c, h1, h2⟩)
         · exact .inl (by omega)
         · have := reach_in V h1 (by omega) (by omega)
           have h3 := suc_in V ⟨this.1, this.2⟩ h2
           refine .inr ⟨c.toNat, by omega, ?_⟩
           have e : ((c.toNat : Nat) : Int) = c := by omega
           rw [e]; exact ⟨h1, h2⟩
     refine wp_join (fun s' : List Bool => s'.length = p.length ∧ ∀ j : Nat, j < p.length → (s'.getD j default = true ↔ s.getD j default = true ∨ (s.getD i default = true ∧ (j : Int) ∈ suc p l a.Night a.Moment (i : Int)))) (fun K2 hK2 => ?_) (fun s' hs' => ?_)
     · refine wp_must (by first | omega | (simp only; omega)) (wp_must (fun _ => by first | omega | (simp only; omega)) ?_)
       have en : p.getD i default = nd p i := rfl
       simp only [Int.toNat_natCast, en]
       refine wp_bif (fun hb => hK2 _ ⟨I0, fun j hj => ⟨fun h => .inl h, fun h => ?_⟩⟩) (fun hb => ?_)
       · rcases h with h | ⟨h1, h2⟩
         · exact h
         · rw [h1] at hb
           have ht := (suc_sub h2).1
           simp only [Int.toNat_natCast] at ht
           rw [ht] at hb; cases hb
       · simp only [Bool.or_eq_false_iff, Bool.not_eq_false'] at hb
         obtain ⟨hm, ht⟩ := hb
         have hh := pol_test V (i := (i : Int)) (by omega) (by omega) (by simpa using ht)
         have hnow := nowL (p := p) (l := l) (night := a.Night) (now := a.Moment) (i := (i : Int)) (by simpa using ht)
         simp only [Int.toNat_natCast] at hh hnow
         have hs : ∀ k, k ∈ fol3 (nd p i) → 0 ≤ k ∧ k < p.length := fun k hk => by have := hh.2 k hk; omega
         have one : ∀ k, k ∈ fol3 (nd p i) → suc p l a.Night a.Moment (i : Int) = [k] → s.length = p.length ∧ ∀ j : Nat, j < p.length → ((s.set k.toNat true).getD j default = true ↔ s.getD j default = true ∨ (s.getD i default = true ∧ (j : Int) ∈ suc p l a.Night a.Moment (i : Int))) := by
           intro k hk e
           refine ⟨I0, fun j hj => ?_⟩
           have := hs k hk
           rw [getD_set _ _ _ _ _ (by omega), e, List.mem_singleton]
           by_cases h : j = k.toNat
           · rw [if_pos h]; exact ⟨fun _ => .inr ⟨hm, by omega⟩, fun _ => rfl⟩
           · rw [if_neg h]
             exact ⟨fun h => .inl h, fun h' => by
               rcases h' with h' | ⟨_, h'⟩
               · exact h'
               · omega⟩
         refine wp_must (by first | omega | (simp only; omega)) (wp_bindE (rstamp_eq hn hh.1.2.1) ?_)
         refine wp_ifd (fun hle => ?_) (fun hgt => ?_)
         · refine wp_must (by first | omega | (simp only; omega)) (wp_must (by first | omega | (simp only; omega)) (wp_bindE (rtells_eq _ _ _ hl hf) ?_))
           rw [rnext_eq]
           dsimp only
           have e0 : min (stamp a.Night (nd p i)) a.Moment = stamp a.Night (nd p i) := by omega
           rw [if_neg (by omega), e0] at hnow
           have h1 := hs _ (next_mem (nd p i) (tellL (nd p i) l a.Night (stamp a.Night (nd p i))))
           have h2 := one _ (next_mem _ _) hnow
           exact wp_must (by omega) (hK2 _ ⟨by rw [List.length_set]; exact I0, h2.2⟩)
         · have e0 : min (stamp a.Night (nd p i)) a.Moment = a.Moment := by omega
           rw [e0] at hnow
           refine wp_must (by first | omega | (simp only; omega)) (wp_bindE (rtells_eq _ _ _ hl hf) ?_)
           refine wp_ifn (fun h2 => ?_) (fun h2 => ?_)
           · rw [rnext_eq]
             rw [if_neg (by omega)] at hnow
             have h1 := hs _ (next_mem (nd p i) (tellL (nd p i) l a.Night a.Moment))
             have h2 := one _ (next_mem _ _) hnow
             exact wp_must (by first | omega | (simp only; omega)) (wp_must (by omega) (hK2 _ ⟨by rw [List.length_set]; exact I0, h2.2⟩))
           · rw [if_pos (by omega)] at hnow
             refine wp_must (by first | omega | (simp only; omega)) ?_
             have eL : ([(gasolierref05_follows (nd p i)).x0, (gasolierref05_follows (nd p i)).x1, (gasolierref05_follows (nd p i)).x2] : List Int) = fol3 (nd p i) := rfl
             simp only [eL]
             refine wp_for 3 (by omega) (fun m (s' : List Bool) => s'.length = p.length ∧ ∀ j : Nat, j < p.length → (s'.getD j default = true ↔ s.getD j default = true ∨ (j : Int) ∈ (fol3 (nd p i)).take m)) ⟨I0, fun j hj => by simp⟩ (fun m s' K3 hm3 hJ hK3 => ?_)
             obtain ⟨J0, J1⟩ := hJ
             refine wp_ifd (fun hlt3 => ?_) (fun hge3 => ?_)
             · have hm' : m < 3 := by simp only at hlt3; omega
               simp only [Int.toNat_natCast, Nat.zero_add, Nat.mul_one]
               have hm4 : m < (fol3 (nd p i)).length := hm'
               have hxm : (fol3 (nd p i)).getD m 0 ∈ fol3 (nd p i) := getD_mem (l := fol3 (nd p i)) hm4
               have e3 : (fol3 (nd p i)).take (m + 1) = (fol3 (nd p i)).take m ++ [(fol3 (nd p i)).getD m 0] := take_getD hm4
               generalize (fol3 (nd p i)).getD m 0 = x at hxm e3
               have hx := hs x hxm
               refine wp_must (by omega) (wp_must (by omega) (wp_mustI (by omega) (hK3 _ hm' ⟨by rw [List.length_set]; exact J0, fun j hj => ?_⟩)))
               rw [getD_set _ _ _ _ _ (by omega), e3, List.mem_append, List.mem_singleton]
               by_cases h : j = x.toNat
               · rw [if_pos h]; exact ⟨fun _ => .inr (.inr (by omega)), fun _ => rfl⟩
               · rw [if_neg h, J1 j hj]
                 constructor
                 · rintro (h' | h')
                   · exact .inl h'
                   · exact .inr (.inl h')
                 · rintro (h' | h' | h')
                   · exact .inl h'
                   · exact .inr h'
                   · omega
             · have hm' : m = 3 := by simp only at hge3; omega
               subst hm'
               refine hK2 _ ⟨J0, fun j hj => ?_⟩
               rw [J1 j hj, hnow]
               exact ⟨fun h => h.elim .inl (fun h => .inr ⟨hm, h⟩), fun h => h.elim .inl (fun h => .inr h.2)⟩
     · refine wp_mustI (by first | omega | (simp only; omega)) (hK _ hi' ⟨hs'.1, fun j hj => ?_⟩)
       rw [hs'.2 j hj, I1 j hj, hR]
       constructor
       · rintro ((h | ⟨c, h1, h2⟩) | ⟨h1, h2⟩)
         · exact .inl h
         · exact .inr ⟨c, by omega, h2⟩
         · exact .inr ⟨i, by omega, h1, h2⟩
       · rintro (h | ⟨c, h1, h2⟩)
         · exact .inl (.inl h)
         · by_cases e : c = i
           · subst e; exact .inr h2
           · exact .inl (.inr ⟨c, by omega, h2⟩)
   · have hie : i = p.length := by simp only at hge; omega
     refine wp_some ⟨I0, fun j hj => ?_⟩
     rw [I1 j hj, reach_pred]
     constructor
     · rintro (h | ⟨c, _, h⟩)
       · exact .inl (by omega)
       · exact .inr ⟨_, h⟩
     · rintro (h | ⟨c, h1, h2⟩)
       · exact .inl (by omega)
       · have := reach_in V h1 (by omega) (by omega)
         have h3 := suc_in V ⟨this.1, this.2⟩ h2
         refine .inr ⟨c.toNat, by omega, ?_⟩
         have e : ((c.toNat : Nat) : Int) = c := by omega
         rw [e]; exact ⟨h1, h2⟩
noncomputable def possR (p : List Node) (l : List Report) (night now : Int) : List Int × Int := if askR p l night now ≠ 0 then ([], askR p l night now) else (possL p l night now, 0)
def marked (p : List Node) (s : List Bool) (n : Nat) : List Int := ((List.range n).filter (fun j => s.getD j default && !(nd p j).Test)).map (fun j : Nat => (j : Int))
theorem marked_succ (p : List Node) (s : List Bool) (n : Nat) : marked p s (n + 1) = marked p s n ++ (if s.getD n default && !(nd p n).Test then [(n : Int)] else []) := by
 unfold marked
 rw [List.range_succ, List.filter_append, List.map_append]
 congr 1
 simp only [List.filter_cons, List.filter_nil]
 split <;> rfl
theorem marked_len (p : List Node) (s : List Bool) (n : Nat) : (marked p s n).length ≤ n := by
 unfold marked
 rw [List.length_map]
 exact Nat.le_trans (List.length_filter_le _ _) (by simp)
theorem marked_poss {p : List Node} {l : List Report} {night now : Int} (V : PolOk p) {s : List Bool} (h : ∀ j : Nat, j < p.length → (s.getD j default = true ↔ Reach (suc p l night now) 0 (j : Int))) : marked p s p.length = possL p l night now := by
 have hlen := V.len
 have hp : (marked p s p.length).Pairwise (· < ·) := by
   unfold marked
   rw [List.pairwise_map]
   exact (List.pairwise_lt_range.filter _).imp (fun h => by omega)
 refine sorted_unique ((List.perm_ext_iff_of_nodup (hp.imp (fun h => by omega)) (possL_nodup V)).2 (fun j => ?_)) (hp.imp (fun h => by omega)) (isort_sorted _)
 rw [possL_mem V]
 unfold marked
 simp only [List.mem_map, List.mem_filter, List.mem_range, Bool.and_eq_true, Bool.not_eq_true']
 constructor
 · rintro ⟨k, ⟨hk, h1, h2⟩, rfl⟩
   exact ⟨(h k hk).1 h1, h2⟩
 · rintro ⟨h1, h2⟩
   have := reach_in V h1 (by omega) (by omega)
   refine ⟨j.toNat, ⟨by omega, (h _ (by omega)).2 ?_, h2⟩, by omega⟩
   have e : ((j.toNat : Nat) : Int) = j := by omega
   rw [e]; exact h1
theorem rPossible_eq {fuel : Nat} (p : List Node) (l : List Report) (a : gasolierref05_At) (hf : 61 < fuel) : gasolierref05_Possible fuel p l a = some (possR p l a.Night a.Moment) := by
 unfold gasolierref05_Possible possR
 refine Wp.eq (wp_bindE (rvalid_eq p l a hf) (wp_ifn (fun h => ?_) (fun h => ?_)))
 · rw [if_pos h]; exact wp_some rfl
 · rw [if_neg (by simp [h])]
   obtain ⟨V, R, D⟩ := askR_zero.1 h
   have hlen := V.len
   refine wp_bind (rpossible_wp a V R.len ⟨D.1, D.2.1⟩ hf) (fun s hs => ?_)
   obtain ⟨s1, s2⟩ := hs
   have em := marked_poss V s2
   refine wp_for p.length (by omega) (fun i out => out = marked p s i) rfl (fun i out K hi hI hK => ?_)
   have e := marked_succ p s i
   have hml := marked_len p s i
   have en : p.getD i default = nd p i := rfl
   simp only [Int.toNat_natCast, en]
   refine wp_ifd (fun hlt => wp_must (by omega) (wp_must (fun _ => by omega) ?_)) (fun hge => wp_some ?_)
   · refine wp_bif (fun ht => wp_mustR (by rw [hI]; simp; omega) (wp_mustI (by omega) (hK _ (by omega) ?_))) (fun ht => wp_mustI (by omega) (hK _ (by omega) ?_))
     · rw [e, hI, if_pos ht]
     · rw [e, hI, if_neg (by rw [ht]; simp), List.append_nil]
   · have : i = p.length := by omega
     rw [hI, this, em]
theorem poss_leaf {p : List Node} (V : PolOk p) {l : List Report} {night now j : Int} (h : j ∈ possL p l night now) : 0 ≤ j ∧ j < p.length ∧ SendsOk (nd p j.toNat).Sends := by
 have hlen := V.len
 obtain ⟨h1, h2⟩ := (possL_mem V).1 h
 have := reach_in V h1 (by omega) (by omega)
 exact ⟨this.1, this.2, ((V.node j.toNat (by omega)).1 h2).2⟩
end Go.Sp
end
/- Plain laws, fog: made policies are valid. No program in sight. -/
section
set_option linter.all false
namespace Go.Sp
open Go.Av
set_option maxRecDepth 100000
def PreOk (out : List Node) (i j : Nat) : Prop := ((nd out j).Test = false → LeafOk (nd out j)) ∧ ((nd out j).Test = true → TestHead (nd out j) ∧ ∀ k ∈ fol3 (nd out j), ((j : Int) + 1 ≤ k ∧ k ≤ (out.length : Int) - 1) ∧ (k.toNat < i → (nd out k.toNat).Test = true → (nd out j).Minute ≤ (nd out k.toNat).Minute) ∧ (i ≤ k.toNat → (nd out j).Minute ≤ (nd out k.toNat).Minute))
structure Pre (t i : Nat) (out : List Node) : Prop where
 len : out.length = 1 + 3 * t
 few : t ≤ 4
 at_ : i ≤ out.length
 nms : names (out.take i) = (List.range (3 * t)).map (fun j : Nat => (j : Int) + 1)
 done : ∀ j, j < i → PreOk out i j
 rest : ∀ j, i ≤ j → j < out.length → (nd out j).Test = false ∧ 0 ≤ (nd out j).Minute ∧ (nd out j).Minute ≤ 1439
end Go.Sp
end
/- Plain laws, fog: no foresight. No program in sight. -/
section
set_option linter.all false
namespace Go.Sp
open Go.Av
set_option maxRecDepth 100000
theorem repsOk_of {l : List Report} (hl : l.length ≤ 60) (h : ∀ x ∈ l, RepOk x) (hp : l.Pairwise (fun a b => a.Source < b.Source)) : RepsOk l := by
 refine ⟨hl, fun i hi => ⟨h _ (getD_mem hi), fun h0 => ?_⟩⟩
 have := List.pairwise_iff_getElem.1 hp (i - 1) i (by omega) hi (by omega)
 have ea : l[i - 1] = rp l (i - 1) := by unfold rp; simp [List.getElem?_eq_getElem (show i - 1 < l.length by omega)]
 have eb : l[i] = rp l i := by unfold rp; simp [List.getElem?_eq_getElem hi]
 rw [ea, eb] at this; exact this
theorem repsOk_sub {l l' : List Report} (h : RepsOk l) (hs : l'.Sublist l) : RepsOk l' :=
 repsOk_of (Nat.le_trans hs.length_le h.len) (fun x hx => mem_ok h (hs.subset hx)) ((sorted_all h).sublist hs)
theorem pathF_len {p : List Node} (V : PolOk p) (l : List Report) (night : Int) : 0 < (pathF p l night).length ∧ (pathF p l night).length ≤ 32 := by
 have := pathL_len p l night p.length 0
 have := V.len
 unfold pathF
 rw [List.length_cons]; omega
end Go.Sp
end
/- Plain laws, fog: what moves without a report. No program in sight. -/
section
set_option linter.all false
namespace Go.Sp
open Go.Av
set_option maxRecDepth 100000
def lastL (l : List Int) : Int := l.getD (l.length - 1) default
def less (l : List Report) (i : Nat) : List Report := l.take i ++ l.drop (i + 1)
theorem less_sub (l : List Report) (i : Nat) : (less l i).Sublist l := by
 unfold less
 have h : (l.drop (i + 1)).Sublist (l.drop i) := by
   rw [show l.drop (i + 1) = (l.drop i).drop 1 by rw [List.drop_drop]]
   exact List.drop_sublist _ _
 have := (List.Sublist.refl (l.take i)).append h
 rwa [List.take_append_drop] at this
theorem less_split {l : List Report} {i : Nat} (h : i < l.length) : l = l.take i ++ (rp l i :: l.drop (i + 1)) := by
 have e := drop_getD (l := l) h
 unfold rp
 rw [← e, List.take_append_drop]
theorem less_filter {l : List Report} (h : RepsOk l) {i : Nat} (hi : i < l.length) : l.filter (fun x => !decide (x.Source = (rp l i).Source)) = less l i := by
 have hp := sorted_all h
 have e := less_split hi
 have hp2 := hp
 rw [e, List.pairwise_append, List.pairwise_cons] at hp2
 have key : ∀ s : Int, s = (rp l i).Source → l.filter (fun x => !decide (x.Source = s)) = less l i := by
   intro s es
   unfold less
   conv => lhs; rw [e]
   rw [List.filter_append, List.filter_cons, if_neg (by simp [es])]
   congr 1
   · rw [List.filter_eq_self]
     intro a ha
     have := hp2.2.2 a ha (rp l i) List.mem_cons_self
     simp; omega
   · rw [List.filter_eq_self]
     intro a ha
     have := hp2.2.1.1 a ha
     simp; omega
 exact key _ rfl
theorem indexRep_eq (l : List Report) (s : Int) : slices_IndexFunc_Report l (fun x0 => some (fog_Moved_1 x0 s)) = some (match l.findIdx? (fun x => decide (x.Source = s)) with | some i => (i : Int) | none => -1) := by
 unfold slices_IndexFunc_Report
 exact indexFunc_eq (p := fun x0 => some (fog_Moved_1 x0 s)) (q := fun x => decide (x.Source = s)) (fun _ => rfl) l
def movL (v w : List Report) (n : Nat) : List Int := ((List.range n).filter (fun m : Nat => (!((pairL v).isSome == (pairL w).isSome)) || ((!(pairL v).isSome) && (!((decide ((sightL v m).Lo = (sightL w m).Lo)) && (decide ((sightL v m).Hi = (sightL w m).Hi))))))).map (fun m : Nat => (m : Int))
theorem movL_succ (v w : List Report) (n : Nat) : movL v w (n + 1) = movL v w n ++ (if ((!((pairL v).isSome == (pairL w).isSome)) || ((!(pairL v).isSome) && (!((decide ((sightL v n).Lo = (sightL w n).Lo)) && (decide ((sightL v n).Hi = (sightL w n).Hi)))))) = true then [(n : Int)] else []) := by
 unfold movL
 rw [List.range_succ, List.filter_append, List.map_append]
 congr 1
 rw [List.filter_cons]
 split <;> rfl
theorem movL_len (v w : List Report) (n : Nat) : (movL v w n).length ≤ n := by
 unfold movL
 rw [List.length_map]
 exact Nat.le_trans (List.length_filter_le _ _) (by simp)
noncomputable def movedR (p : List Node) (l : List Report) (s night m : Int) : Bool × (List Int) × Int :=
 if askR p l night m ≠ 0 then (false, [], askR p l night m) else
 match l.findIdx? (fun x => decide (x.Source = s)) with
 | none => (false, [], 3)
 | some i => (!decide (lastL (pathF p l night) = lastL (pathF p (less l i) night)), movL (seeL l (rp l i).District night m) (seeL (less l i) (rp l i).District night m) 1440, 0)
theorem delete_less {l : List Report} {i : Nat} (hi : i < l.length) (hl : l.length ≤ 60) : slices_Delete_Report l (i : Int) ((i : Int) + 1) = some (less l i) := by
 unfold slices_Delete_Report
 have e1 : ((i : Int) + 1).toNat = i + 1 := by omega
 have e2 : (l.take i ++ l.drop (i + 1)).length = l.length - 1 := by simp; omega
 refine Wp.eq (wp_must (by omega) (wp_ifd (fun h => by omega) (fun _ => wp_must (by omega) (wp_must (by omega) (wp_must (by omega) ?_)))))
 simp only [Int.toNat_natCast, e1, e2]
 exact wp_must (by omega) (wp_some rfl)
theorem fMoved_eq {fuel : Nat} (p : List Node) (l : List Report) (s night m : Int) (hf : 61 < fuel) : fog_Moved fuel p l s night m = some (movedR p l s night m) := by
 unfold fog_Moved movedR
 refine Wp.eq (wp_bindE (fasked_eq p l night m) (wp_ifn (fun h => ?_) (fun h => ?_)))
 · rw [if_pos h]; exact wp_some rfl
 · rw [if_neg (by simp [h])]
   obtain ⟨V, R, D⟩ := askR_zero.1 h
   have hl := R.len
   refine wp_bindE (indexRep_eq l s) ?_
   cases hx : l.findIdx? (fun x => decide (x.Source = s)) with
   | none => exact wp_true (by simp) (wp_some rfl)
   | some i =>
     have hi : i < l.length := (List.findIdx?_eq_some_iff_getElem.1 hx).1
     simp only
     refine wp_false (by simp) (wp_bindE (v := l) (must_yes (by unfold room; simp; omega) _) (wp_mustI (by omega) (wp_bindE (delete_less hi hl) ?_)))
     have R2 := repsOk_sub R (less_sub l i)
     have hl2 := R2.len
     refine wp_bindE (fpath_eq V hl ⟨D.1, D.2.1⟩ hf) (wp_bindE (fpath_eq V hl2 ⟨D.1, D.2.1⟩ hf) (wp_must (by omega) (wp_bindE (fsee_eq fuel l _ _ _ hl (by omega)) (wp_must (by omega) (wp_bindE (fsee_eq fuel _ _ _ _ hl2 (by omega)) ?_)))))
     have e0 : (l.getD ((i : Int)).toNat default).District = (rp l i).District := rfl
     rw [e0]
     have hv : (seeL l (rp l i).District night m).length ≤ 60 := Nat.le_trans (List.length_filter_le _ _) hl
     have hw : (seeL (less l i) (rp l i).District night m).length ≤ 60 := Nat.le_trans (List.length_filter_le _ _) hl2
     generalize seeL l (rp l i).District night m = v at hv ⊢
     generalize seeL (less l i) (rp l i).District night m = w at hw ⊢
     refine wp_bindE (fpair_eq v (by omega)) (wp_bindE (fpair_eq w (by omega)) ?_)
     rw [pairR_two, pairR_two]
     refine wp_range (fun j s => s = movL v w j) rfl (fun j s K hj hI hK => ?_) (fun s hI => ?_)
     · have es := movL_succ v w j
       have hml := movL_len v w j
       have room_ : (s ++ [(j : Int)]).length * 8 ≤ 140737488355328 ∧ (s ++ [(j : Int)]).length ≤ 9223372036854775807 := by rw [hI]; simp; omega
       cases hb : ((!(!((pairL v).isSome == (pairL w).isSome))) && (!(pairL v).isSome)) with
       | true =>
         refine wp_onE rfl (fsight_eq _ _) (wp_onE rfl (fsight_eq _ _) (wp_bif (fun hc => wp_mustR room_ (hK _ ?_)) (fun hc => hK _ ?_)))
         · rw [es, if_pos hc, hI]
         · rw [es, if_neg (by rw [hc]; simp), List.append_nil, hI]
       | false =>
         refine wp_offE rfl rfl (wp_offE rfl rfl (wp_bif (fun hc => wp_mustR room_ (hK _ ?_)) (fun hc => hK _ ?_)))
         · have : ((!((pairL v).isSome == (pairL w).isSome)) || ((!(pairL v).isSome) && (!((decide ((sightL v j).Lo = (sightL w j).Lo)) && (decide ((sightL v j).Hi = (sightL w j).Hi)))))) = true := by
             cases h1 : (pairL v).isSome <;> cases h2 : (pairL w).isSome <;> simp [h1, h2] at hb hc ⊢
           rw [es, if_pos this, hI]
         · have : ((!((pairL v).isSome == (pairL w).isSome)) || ((!(pairL v).isSome) && (!((decide ((sightL v j).Lo = (sightL w j).Lo)) && (decide ((sightL v j).Hi = (sightL w j).Hi)))))) = false := by
             cases h1 : (pairL v).isSome <;> cases h2 : (pairL w).isSome <;> simp [h1, h2] at hb hc ⊢
           rw [es, if_neg (by rw [this]; simp), List.append_nil, hI]
     · have a1 := pathF_len V l night
       have a2 := pathF_len V (less l i) night
       refine wp_mustI (by omega) (wp_must (by omega) (wp_mustI (by omega) (wp_must (by omega) (wp_some ?_))))
       rw [hI]
       have e1 : ((((pathF p l night).length : Nat) : Int) - 1).toNat = (pathF p l night).length - 1 := by omega
       have e2 : ((((pathF p (less l i) night).length : Nat) : Int) - 1).toNat = (pathF p (less l i) night).length - 1 := by omega
       rw [e1, e2]; rfl
end Go.Sp
end
/- Plain laws, fog: what may still be, with true reports. No program in sight. -/
section
set_option linter.all false
namespace Go.Sp
open Go.Av
set_option maxRecDepth 100000
end Go.Sp
end
/- Plain laws, fog: runners, and whether they can be given to places. No program in sight. -/
section
set_option linter.all false
namespace Go.Sp
open Go.Av
set_option maxRecDepth 100000
def rn (r : List Runner) (j : Nat) : Runner := r.getD j default
structure RunOk (r : List Runner) (i : Nat) : Prop where
 id_ : 1 ≤ (rn r i).Id ∧ (rn r i).Id ≤ 99
 up : 0 < i → (rn r (i - 1)).Id < (rn r i).Id
 len : 1 ≤ (rn r i).Districts.length ∧ (rn r i).Districts.length ≤ 9
 dist : ∀ k, k < (rn r i).Districts.length → (1 ≤ (rn r i).Districts.getD k default ∧ (rn r i).Districts.getD k default ≤ 9) ∧ (0 < k → (rn r i).Districts.getD (k - 1) default < (rn r i).Districts.getD k default)
structure RunsOk (r : List Runner) : Prop where
 len : r.length ≤ 20
 all : ∀ i, i < r.length → RunOk r i
theorem fcheckRunners_wp (r : List Runner) : Wp (fog_CheckRunners r) (fun e => (RunsOk r ∧ e = 0) ∨ (¬ RunsOk r ∧ e = 54)) := by
 unfold fog_CheckRunners
 refine wp_ifd (fun h => wp_some (.inr ⟨fun V => by have := V.len; omega, rfl⟩)) (fun h => ?_)
 refine wp_forall (fun i => RunOk r i) (fun i K hi hI hK => ?_) (fun h2 => wp_some (.inl ⟨⟨by omega, h2⟩, rfl⟩))
 have en : r.getD i default = rn r i := rfl
 have e1 : (((i : Int) - 1)).toNat = i - 1 := by omega
 have en1 : r.getD (i - 1) default = rn r (i - 1) := rfl
 refine wp_must (fun _ => by unfold inI; omega) (wp_must (fun h => by simp at h; omega) ?_)
 rw [e1, en, en1]
 refine wp_bif (fun hb => wp_some (.inr ⟨fun V => ?_, rfl⟩)) (fun hb => ?_)
 · have O := V.all i hi
   simp only [Bool.or_eq_true, Bool.and_eq_true, decide_eq_true_eq, Bool.not_eq_true', ← Bool.not_eq_true, fwithin_iff] at hb
   have o1 := O.id_; have o2 := O.up; have o3 := O.len
   rcases hb with (hb | hb) | hb
   · exact hb o1
   · have := o2 (by omega); omega
   · exact hb (by omega)
 · simp only [Bool.or_eq_false_iff, Bool.and_eq_false_iff, Bool.not_eq_false', decide_eq_false_iff_not, fwithin_iff] at hb
   obtain ⟨⟨b1, b2⟩, b3⟩ := hb
   refine wp_forall (fun k => (1 ≤ (rn r i).Districts.getD k default ∧ (rn r i).Districts.getD k default ≤ 9) ∧ (0 < k → (rn r i).Districts.getD (k - 1) default < (rn r i).Districts.getD k default)) (fun k K2 hk _ hK2 => ?_) (fun h3 => hK ⟨b1, fun h0 => by rcases b2 with b | b <;> omega, by omega, h3⟩)
   have e2 : (((k : Int) - 1)).toNat = k - 1 := by omega
   refine wp_must (fun _ => by unfold inI; omega) (wp_must (fun h => by simp at h; omega) ?_)
   rw [e2]
   unfold fog_isDistrict
   refine wp_bif (fun hc => wp_some (.inr ⟨fun V => ?_, rfl⟩)) (fun hc => hK2 ?_)
   · have := (V.all i hi).dist k hk
     simp only [Bool.or_eq_true, Bool.and_eq_true, decide_eq_true_eq, Bool.not_eq_true', ← Bool.not_eq_true, fwithin_iff] at hc
     rcases hc with hc | hc
     · exact hc this.1
     · have := this.2 (by omega); omega
   · simp only [Bool.or_eq_false_iff, Bool.and_eq_false_iff, Bool.not_eq_false', decide_eq_false_iff_not, fwithin_iff] at hc
     exact ⟨hc.1, fun h0 => by rcases hc.2 with b | b <;> omega⟩
theorem frun_ok {r : List Runner} (h : RunsOk r) : fog_CheckRunners r = some 0 := by
 obtain ⟨x, e, k⟩ := fcheckRunners_wp r
 rcases k with ⟨_, k⟩ | ⟨k, _⟩
 · rw [e, k]
 · exact absurd h k
theorem frun_bad {r : List Runner} (h : ¬ RunsOk r) : fog_CheckRunners r = some 54 := by
 obtain ⟨x, e, k⟩ := fcheckRunners_wp r
 rcases k with ⟨k, _⟩ | ⟨_, k⟩
 · exact absurd k h
 · rw [e, k]
def sbl (s : List Bool) : Nat → Bool := fun k => s.getD k false
def owl (s : List Int) : Nat → Int := fun k => s.getD k (-1)
def madj (r : List Runner) (P : List Int) (bar : List Bool) (i j : Nat) : Prop := bar.getD j default = false ∧ P.getD i default ∈ (rn r j).Districts
structure GS (r : List Runner) (P : List Int) (bar : List Bool) (g : fog_giver) : Prop where
 run : g.runners = r
 pl : g.places = P
 bar_ : g.barred = bar
 len : g.of.length = r.length
 lt : ∀ j, j < r.length → g.of.getD j default < P.length
theorem getD_any {T : Type} {l : List T} {i : Nat} (h : i < l.length) (d e : T) : l.getD i d = l.getD i e := by
 rw [List.getD_eq_getElem?_getD, List.getD_eq_getElem?_getD, List.getElem?_eq_getElem h]; rfl
theorem sbl_set {s : List Bool} {j : Nat} (h : j < s.length) : sbl (s.set j true) = fun k => sbl s k || decide (k = j) := by
 funext k
 unfold sbl
 rw [getD_set _ _ _ _ _ h]
 by_cases e : k = j
 · simp [e]
 · simp [e]
theorem owl_set {s : List Int} {j : Nat} {x : Int} (h : j < s.length) : owl (s.set j x) = fun k => if k = j then x else owl s k := by
 funext k
 unfold owl
 rw [getD_set _ _ _ _ _ h]
theorem may_eq {r : List Runner} {P : List Int} {bar : List Bool} {g : fog_giver} (h1 : g.runners = r) (h2 : g.places = P) (h3 : g.barred = bar) (hb : bar.length = r.length) {i j : Nat} (hi : i < P.length) (hj : j < r.length) : fog_giver__may g (j : Int) (i : Int) = some (!(bar.getD j default) && decide (P.getD i default ∈ (rn r j).Districts)) := by
 unfold fog_giver__may
 rw [h1, h2, h3]
 refine Wp.eq (wp_must (by omega) (wp_must (fun _ => by omega) (wp_must (fun _ => by omega) ?_)))
 simp only [Int.toNat_natCast]
 cases h : bar.getD j default with
 | true => exact wp_offE rfl rfl (wp_some rfl)
 | false => exact wp_onE rfl (contains_eq _ _) (wp_some rfl)
theorem step_wp {r : List Runner} {P : List Int} {bar : List Bool} (hr : r.length ≤ 20) (hb : bar.length = r.length) (fuel : Nat) :
   ∀ (f i : Nat) (g : fog_giver) (seen : List Bool) (back : Nat → Int), i < P.length → GS r P bar g → seen.length = r.length → mu r.length (sbl seen) < f →
     Wp (fog_giver__step_l fuel f g (i : Int) seen) (fun y => GS r P bar y.2.1 ∧ y.2.2.length = r.length ∧ ∃ back', Srch (madj r P bar) r.length i 0 ⟨sbl seen, owl g.of, back⟩ y.1 ⟨sbl y.2.2, owl y.2.1.of, back'⟩)
 | 0, i, g, seen, back, _, _, _, h => by omega
 | f + 1, i, g, seen, back, hi, G, hsl, hmu => by
   have ih := step_wp hr hb fuel f (P := P)
   show Wp (fog_giver__step_l_F fuel (fog_giver__step_l fuel f) g (i : Int) seen) _
   unfold fog_giver__step_l_F
   rw [G.run, G.pl, G.bar_]
   refine wp_must (by omega) ?_
   refine wp_range (fun j (s : (List Int) × (List Bool) × (List Bool) × (List Runner) × (List Int)) => GS r P bar ⟨s.2.2.2.1, s.2.2.2.2, s.1, s.2.1⟩ ∧ s.2.2.1.length = r.length ∧ mu r.length (sbl s.2.2.1) ≤ mu r.length (sbl seen) ∧ ∃ bk, ∀ b s', Srch (madj r P bar) r.length i j ⟨sbl s.2.2.1, owl s.1, bk⟩ b s' → Srch (madj r P bar) r.length i 0 ⟨sbl seen, owl g.of, back⟩ b s')
     ⟨⟨rfl, rfl, rfl, G.len, G.lt⟩, hsl, Nat.le_refl _, back, fun _ _ h => h⟩ (fun j s K hj hI hK => ?_) (fun s hI => ?_)
   · obtain ⟨of1, bar1, seen1, run1, pl1⟩ := s
     obtain ⟨G1, hs1, hmu1, bk, hsr⟩ := hI
     dsimp only at G1 hs1 hmu1 hsr hK ⊢
     refine wp_join (fun s : (List Runner) × (List Int) × (List Int) × (List Bool) × (List Bool) => GS r P bar ⟨s.1, s.2.1, s.2.2.1, s.2.2.2.1⟩ ∧ s.2.2.2.2.length = r.length ∧ mu r.length (sbl s.2.2.2.2) ≤ mu r.length (sbl seen) ∧ ∃ bk, ∀ b s', Srch (madj r P bar) r.length i (j + 1) ⟨sbl s.2.2.2.2, owl s.2.2.1, bk⟩ b s' → Srch (madj r P bar) r.length i 0 ⟨sbl seen, owl g.of, back⟩ b s') (fun K2 hK2 => ?_) (fun s hs => hK _ hs)
     have hof := G1.len
     have hlt := G1.lt j hj
     dsimp only at hof hlt
     have em := may_eq G1.run G1.pl G1.bar_ hb hi hj
     have esb : sbl seen1 j = seen1.getD j default := rfl
     have eow : owl of1 j = of1.getD j default := getD_any (by omega) _ _
     refine wp_must (by omega) ?_
     cases hs : seen1.getD j default with
     | true =>
       refine wp_offE rfl rfl (wp_true rfl (hK2 _ ⟨G1, hs1, hmu1, bk, fun b s' h => hsr b s' (.skip hj (fun _ => by show sbl seen1 j = true; rw [esb, hs]) h)⟩))
     | false =>
       refine wp_onE rfl em ?_
       refine wp_bif (fun hc => hK2 _ ⟨G1, hs1, hmu1, bk, fun b s' h => hsr b s' (.skip hj (fun ha => ?_) h)⟩) (fun hc => ?_)
       · exfalso
         rw [ha.1, decide_eq_true ha.2] at hc; cases hc
       · have hadj : madj r P bar i j := by
           simp only [Bool.false_or, Bool.not_eq_false', Bool.and_eq_true, Bool.not_eq_true', decide_eq_true_eq] at hc
           exact hc
         have hsee : ∀ bk', (⟨sbl (seen1.set j true), owl of1, bk'⟩ : Ks) = Ks.see ⟨sbl seen1, owl of1, bk'⟩ j := fun bk' => by unfold Ks.see; rw [sbl_set (by omega)]
         have hmu2 : mu r.length (sbl (seen1.set j true)) < mu r.length (sbl seen1) := by
           rw [sbl_set (by omega)]
           exact mu_lt (j := j) (fun k h => by simp [h]) hj (by rw [esb, hs]) (by simp)
         refine wp_must (by omega) (wp_must (by omega) (wp_must (fun _ => by omega) ?_))
         have hs2 : (seen1.set j true).length = r.length := by rw [List.length_set]; exact hs1
         refine wp_bind (Q := fun y : Bool × fog_giver × List Bool => GS r P bar y.2.1 ∧ y.2.2.length = r.length ∧ mu r.length (sbl y.2.2) ≤ mu r.length (sbl seen1) ∧ ((of1.getD j default < 0 ∧ y = (default, ⟨run1, pl1, of1, bar1⟩, seen1.set j true)) ∨ ∃ (o : Nat) (bk' : Nat → Int), of1.getD j default = (o : Int) ∧ Srch (madj r P bar) r.length o 0 (Ks.see ⟨sbl seen1, owl of1, bk⟩ j) y.1 ⟨sbl y.2.2, owl y.2.1.of, bk'⟩)) ?_ (fun y hy => ?_)
         · by_cases h0 : of1.getD j default < 0
           · rw [decide_eq_true h0]
             exact wp_some ⟨G1, hs2, Nat.le_of_lt hmu2, .inl ⟨h0, rfl⟩⟩
           · rw [decide_eq_false h0]
             obtain ⟨o, ho⟩ := Int.eq_ofNat_of_zero_le (show 0 ≤ of1.getD j default by omega)
             rw [ho]
             refine (ih o ⟨run1, pl1, of1, bar1⟩ (seen1.set j true) bk (by omega) G1 hs2 (by omega)).mono (fun y hy => ?_)
             obtain ⟨y1, y2, bk', y3⟩ := hy
             rw [hsee] at y3
             refine ⟨y1, y2, ?_, .inr ⟨o, bk', rfl, y3⟩⟩
             have := mu_mono (n := r.length) y3.mono
             refine Nat.le_trans this ?_
             have e := congrArg Ks.seen (hsee bk)
             have e' : (Ks.see ⟨sbl seen1, owl of1, bk⟩ j).seen = sbl (seen1.set j true) := e.symm
             rw [e']; exact Nat.le_of_lt hmu2
         · obtain ⟨b, g3, seen3⟩ := y
           obtain ⟨G3, hs3, hmu3, hy⟩ := hy
           dsimp only at G3 hs3 hmu3 hy ⊢
           have hof3 := G3.len
           refine wp_must (by omega) (wp_must (by omega) (wp_bif (fun hb' => wp_must (by omega) (wp_some ?_)) (fun hb' => ?_)))
           · refine ⟨⟨G3.run, G3.pl, G3.bar_, by dsimp only; rw [List.length_set]; exact hof3, fun k hk => ?_⟩, hs3, ?_⟩
             · dsimp only
               rw [getD_set _ _ _ _ _ (by omega)]
               split
               · omega
               · exact G3.lt k hk
             · dsimp only
               rcases hy with ⟨h0, e⟩ | ⟨o, bk', h0, h1⟩
               · cases e
                 refine ⟨(Ks.give (Ks.see ⟨sbl seen1, owl of1, bk⟩ j) j i).back, hsr _ _ ?_⟩
                 have := Srch.free (adj := madj r P bar) (m := r.length) (s := ⟨sbl seen1, owl of1, bk⟩) hj hadj (by show sbl seen1 j = false; rw [esb, hs]) (by show owl of1 j < 0; omega)
                 rw [← hsee bk] at this
                 rw [owl_set (by omega)]
                 exact this
               · rw [decide_eq_false (by omega)] at hb'
                 have hb' : b = true := by simpa using hb'
                 subst hb'
                 refine ⟨(Ks.give ⟨sbl seen3, owl g3.of, bk'⟩ j i).back, hsr _ _ ?_⟩
                 rw [owl_set (by omega)]
                 exact Srch.aug (s := ⟨sbl seen1, owl of1, bk⟩) hj hadj (by show sbl seen1 j = false; rw [esb, hs]) (by show owl of1 j = (o : Int); omega) h1
           · rcases hy with ⟨h0, e⟩ | ⟨o, bk', h0, h1⟩
             · rw [decide_eq_true h0] at hb'; cases hb'
             · have hb2 : b = false := by
                 cases b with
                 | false => rfl
                 | true => simp at hb'
               subst hb2
               refine hK2 _ ⟨⟨G3.run, G3.pl, G3.bar_, hof3, G3.lt⟩, hs3, by dsimp only; omega, bk', fun b' s' h => hsr _ _ (.fail (s := ⟨sbl seen1, owl of1, bk⟩) hj hadj (by show sbl seen1 j = false; rw [esb, hs]) (by show owl of1 j = (o : Int); omega) h1 h)⟩
   · obtain ⟨h1, h2, _, bk, h3⟩ := hI
     exact wp_some ⟨h1, h2, bk, h3 _ _ (.done (Nat.le_refl _))⟩
def Full (r : List Runner) (P : List Int) (bar : List Bool) (k : Nat) : Prop := InjK (madj r P bar) r.length (fun i => k ≤ i ∧ i < P.length)
structure GF (r : List Runner) (P : List Int) (bar : List Bool) (g : fog_giver) : Prop where
 run : g.runners = r
 pl : g.places = P
 bar_ : g.barred = bar
 len : g.of.length = r.length
theorem GS.gf {r : List Runner} {P : List Int} {bar : List Bool} {g : fog_giver} (h : GS r P bar g) : GF r P bar g := ⟨h.run, h.pl, h.bar_, h.len⟩
theorem full_wp {r : List Runner} {P : List Int} {bar : List Bool} {g : fog_giver} (hr : r.length ≤ 20) (hP : P.length ≤ 1000) (hb : bar.length = r.length) {fuel : Nat} (hf : 1100 < fuel) {k : Nat} (hk : k ≤ P.length) (G : GF r P bar g) :
   Wp (fog_giver__full_l fuel g (k : Int)) (fun y => (y.1 = true ↔ Full r P bar k) ∧ GF r P bar y.2) := by
 unfold fog_giver__full_l
 rw [G.run, G.pl, G.bar_]
 have hgl := G.len
 refine wp_must (by omega) ?_
 refine wp_range (fun j (s : List Int) => s.length = r.length ∧ ∀ q, q < j → s.getD q default = -1) ⟨hgl, fun q hq => by omega⟩ (fun j s K hj hI hK => ?_) (fun s hI => ?_)
 · refine wp_must (by omega) (hK _ ⟨by rw [List.length_set]; exact hI.1, fun q hq => ?_⟩)
   rw [getD_set _ _ _ _ _ (by omega)]
   by_cases e : q = j
   · rw [if_pos e]
   · rw [if_neg e]; exact hI.2 q (by omega)
 · obtain ⟨hsl, hs⟩ := hI
   rw [hgl] at hs
   have hown : ∀ q, owl s q = -1 := fun q => by
     unfold owl
     by_cases h : q < s.length
     · rw [getD_any h (-1) default]; exact hs q (by omega)
     · rw [List.getD_eq_getElem?_getD, List.getElem?_eq_none (by omega)]; rfl
   refine wp_loop (fun t : Int × (List Int) × (List Bool) × (List Runner) × (List Int) => ∃ (i : Nat) (back : Nat → Int), t.1 = (i : Int) ∧ k ≤ i ∧ i ≤ P.length ∧ GS r P bar ⟨t.2.2.2.1, t.2.2.2.2, t.2.1, t.2.2.1⟩ ∧ Mat (madj r P bar) r.length ⟨fun _ => false, owl t.2.1, back⟩ ∧ ∀ x : Nat, 0 ≤ back x ↔ k ≤ x ∧ x < i)
     (fun t => P.length - t.1.toNat) (by simp only; omega) ⟨k, fun _ => -1, rfl, Nat.le_refl _, hk, ⟨rfl, rfl, rfl, hsl, fun j hj => by dsimp only; rw [hs j hj]; omega⟩, ⟨fun x hx => absurd hx (by show ¬ (0 : Int) ≤ -1; omega), fun q _ hx => absurd hx (by show ¬ 0 ≤ owl s q; rw [hown]; omega)⟩, fun x => ⟨fun h => absurd h (by show ¬ (0 : Int) ≤ -1; omega), fun h => by omega⟩⟩ ?_
   rintro ⟨t1, of1, bar1, run1, pl1⟩ K ⟨i, back, rfl, hki, hiP, G1, M, hbk⟩ hK
   dsimp only at G1 M hK ⊢
   have e1 := G1.run; have e2 := G1.pl; have e3 := G1.bar_
   dsimp only at e1 e2 e3
   refine wp_ifd (fun hlt => ?_) (fun hge => wp_some ⟨⟨fun _ => ?_, fun _ => rfl⟩, G1.gf⟩)
   · have hi : i < P.length := by rw [e2] at hlt; omega
     have hrl : run1.length = r.length := by rw [e1]
     refine wp_must (by rw [hrl]; unfold room; omega) ?_
     have hz : ∀ q, sbl (List.replicate (((run1.length : Nat) : Int)).toNat false) q = false := fun q => getD_replicate _ _ _
     have hzf : sbl (List.replicate (((run1.length : Nat) : Int)).toNat false) = fun _ => false := funext hz
     refine wp_bind (step_wp hr hb fuel fuel i ⟨run1, pl1, of1, bar1⟩ (List.replicate (((run1.length : Nat) : Int)).toNat false) back hi G1 (by rw [List.length_replicate, hrl]; rfl) (by have := mu_le r.length (sbl (List.replicate (((run1.length : Nat) : Int)).toNat false)); omega)) (fun y hy => ?_)
     obtain ⟨G2, hs2, back', H⟩ := hy
     rw [hzf] at H
     have hbi : back i < 0 := by
       apply Classical.byContradiction; intro h
       have := (hbk i).1 (by omega); omega
     cases hy1 : y.1 with
     | false =>
       rw [hy1] at H
       refine wp_true rfl (wp_some ⟨⟨fun h => (by cases h), fun ⟨g', g1, g2⟩ => ?_⟩, G2.gf⟩)
       exact (hallK M (fun _ => rfl) hbi H (R := fun x => k ≤ x ∧ x < P.length) ⟨hki, hi⟩ (fun x hx => by have := (hbk x).1 hx; omega) (g := g') g1 g2).elim
     | true =>
       rw [hy1] at H
       have W := H.win rfl M (fun q hq => by have hq : back i = (q : Int) := hq; omega)
       have hg2 := G2
       refine wp_false rfl (wp_mustI (by omega) (hK _ ⟨i + 1, back', by simp, by omega, hi, ⟨G2.run, G2.pl, G2.bar_, G2.len, G2.lt⟩, ?_, fun x => ?_⟩ (by simp only; omega)))
       · have := W.matK hbi
         exact ⟨this.back, this.own⟩
       · by_cases ex : x = i
         · subst ex
           obtain ⟨q, hq, _⟩ := W.new
           have hq : back' x = (q : Int) := hq
           exact ⟨fun _ => by omega, fun _ => by omega⟩
         · have : (0 ≤ back' x ↔ 0 ≤ back x) := (W.rest x ex).1
           rw [this, hbk x]; omega
   · have hie : i = P.length := by rw [e2] at hge; omega
     refine ⟨fun x => (back x).toNat, fun x hx => ?_, fun x y hx hy e => ?_⟩
     · obtain ⟨q, q1, q2, q3, q4⟩ := M.back x ((hbk x).2 (by omega))
       have q1 : back x = (q : Int) := q1
       dsimp only
       rw [q1, Int.toNat_natCast]; exact ⟨q2, q4⟩
     · obtain ⟨q, q1, q2, q3, q4⟩ := M.back x ((hbk x).2 (by omega))
       obtain ⟨q', q1', q2', q3', q4'⟩ := M.back y ((hbk y).2 (by omega))
       have q1 : back x = (q : Int) := q1
       have q1' : back y = (q' : Int) := q1'
       dsimp only at e
       rw [q1, q1', Int.toNat_natCast, Int.toNat_natCast] at e
       subst e
       have q3 : owl of1 q = (x : Int) := q3
       have q3' : owl of1 q = (y : Int) := q3'
       omega
def plL (l : List Send) : List Int := l.flatMap (fun s => List.replicate s.Many.toNat s.District)
theorem plL_take {l : List Send} {i : Nat} (h : i < l.length) : plL (l.take (i + 1)) = plL (l.take i) ++ List.replicate (sd l i).Many.toNat (sd l i).District := by
 unfold plL
 rw [take_getD h, List.flatMap_append]; simp [sd]
theorem plL_len {l : List Send} (h : SendsOk l) : ∀ {i : Nat}, i ≤ l.length → (plL (l.take i)).length ≤ 20 * i := by
 intro i
 induction i with
 | zero => intro _; simp [plL]
 | succ i ih =>
   intro hi
   have h1 := ih (by omega)
   have h2 := (h.2 i hi).2.1
   rw [plL_take hi, List.length_append, List.length_replicate]; omega
theorem plL_le {l : List Send} (h : SendsOk l) : (plL l).length ≤ 180 := by
 have h1 := plL_len h (Nat.le_refl l.length)
 rw [List.take_length] at h1
 have := h.1
 omega
theorem fplaces_eq {n : Node} (h : SendsOk n.Sends) : fog_places n = some (plL n.Sends) := by
 unfold fog_places
 have h9 := h.1
 refine Wp.eq (wp_range (fun i s => s = plL (n.Sends.take i)) (by simp [plL]) (fun i s K hi hI hK => ?_) (fun s hI => wp_some (by rw [hI, List.take_length])))
 have hm := (h.2 i hi).2.1
 have hl := plL_len h (i := i) (by omega)
 have en : n.Sends.getD i default = sd n.Sends i := rfl
 rw [en]
 refine wp_must (by omega) (wp_range (fun k t => t = s ++ List.replicate k (sd n.Sends i).District) (by simp) (fun k t K2 hk hJ hK2 => ?_) (fun t hJ => hK _ ?_))
 · refine wp_mustR (by rw [hJ, hI, List.length_append, List.length_append, List.length_replicate]; simp only [List.length_cons, List.length_nil]; omega) (hK2 _ ?_)
   rw [hJ, List.append_assoc, ← List.replicate_succ']
 · rw [hJ, hI, plL_take hi]
def nobar (r : List Runner) : List Bool := List.replicate r.length false
def Fit1 (r : List Runner) (P : List Int) (bar : List Bool) (k j : Nat) : Prop := madj r P bar k j ∧ Full r P (bar.set j true) (k + 1)
inductive Gre (r : List Runner) (P : List Int) : Nat → List Nat → List Bool → Prop
 | nil : Gre r P 0 [] (nobar r)
 | snoc {k : Nat} {js : List Nat} {bar : List Bool} {j : Nat} : Gre r P k js bar → k < P.length → j < r.length → Fit1 r P bar k j → (∀ q, q < j → ¬ Fit1 r P bar k q) → Gre r P (k + 1) (js ++ [j]) (bar.set j true)
theorem Gre.len {r : List Runner} {P : List Int} {k : Nat} {js : List Nat} {bar : List Bool} (h : Gre r P k js bar) : js.length = k ∧ bar.length = r.length := by
 induction h with
 | nil => exact ⟨rfl, by simp [nobar]⟩
 | snoc _ _ _ _ _ ih => exact ⟨by simp [ih.1], by rw [List.length_set]; exact ih.2⟩
theorem Gre.one {r : List Runner} {P : List Int} {k : Nat} {js : List Nat} {bar : List Bool} (h : Gre r P k js bar) : ∀ {js' : List Nat} {bar' : List Bool}, Gre r P k js' bar' → js = js' ∧ bar = bar' := by
 induction h with
 | nil => intro js' bar' h'; cases h'; exact ⟨rfl, rfl⟩
 | @snoc k js bar j h1 h2 h3 h4 h5 ih =>
   intro js' bar' h'
   cases h' with
   | @snoc _ js2 bar2 j2 g1 g2 g3 g4 g5 =>
     obtain ⟨e1, e2⟩ := ih g1
     subst e1 e2
     rcases Nat.lt_trichotomy j j2 with h | h | h
     · exact absurd h4 (g5 j h)
     · subst h; exact ⟨rfl, rfl⟩
     · exact absurd g4 (h5 j2 h)
theorem Gre.full {r : List Runner} {P : List Int} {k : Nat} {js : List Nat} {bar : List Bool} (h : Gre r P k js bar) (h0 : Full r P (nobar r) 0) : Full r P bar k := by
 cases h with
 | nil => exact h0
 | snoc _ _ _ h _ => exact h.2
theorem full_fit {r : List Runner} {P : List Int} {bar : List Bool} (hb : bar.length = r.length) {k : Nat} (hk : k < P.length) (h : Full r P bar k) : ∃ j, j < r.length ∧ Fit1 r P bar k j := by
 obtain ⟨g, g1, g2⟩ := h
 have hk0 := g1 k ⟨Nat.le_refl _, hk⟩
 refine ⟨g k, hk0.1, hk0.2, g, fun i hi => ?_, fun i i' hi hi' e => g2 i i' ⟨by omega, hi.2⟩ ⟨by omega, hi'.2⟩ e⟩
 have hi0 := g1 i ⟨by omega, hi.2⟩
 refine ⟨hi0.1, ?_, hi0.2.2⟩
 rw [getD_set _ _ _ _ _ (by omega), if_neg (fun e => ?_)]
 · exact hi0.2.1
 · have := g2 i k ⟨by omega, hi.2⟩ ⟨Nat.le_refl _, hk⟩ e; omega
theorem set_back {bar : List Bool} {j : Nat} (h : bar.getD j default = false) : (bar.set j true).set j false = bar := by
 rw [List.set_set]
 refine List.ext_getElem (by simp) (fun i h1 h2 => ?_)
 rw [List.getElem_set]
 split
 · next e =>
   subst e
   rw [List.getD_eq_getElem?_getD, List.getElem?_eq_getElem h2] at h
   exact h.symm
 · rfl
def GaveR (r : List Runner) (P : List Int) (y : List Int × Bool) : Prop := (¬ Full r P (nobar r) 0 ∧ y = ([], false)) ∨ (Full r P (nobar r) 0 ∧ ∃ js bar, Gre r P P.length js bar ∧ y = (js.map (fun j => (rn r j).Id), true))
theorem give_wp {r : List Runner} (R : RunsOk r) {n : Node} (h : SendsOk n.Sends) {fuel : Nat} (hf : 1100 < fuel) : Wp (fog_give fuel n r) (GaveR r (plL n.Sends)) := by
 unfold fog_give
 have hr := R.len
 have hP := plL_le h
 refine wp_bindE (fplaces_eq h) ?_
 generalize hPe : plL n.Sends = P at hP ⊢
 refine wp_must (by unfold room; omega) (wp_must (by unfold room; omega) ?_)
 have G0 : GF r P (nobar r) ⟨r, P, List.replicate (((r.length : Nat) : Int)).toNat (0 : Int), List.replicate (((r.length : Nat) : Int)).toNat (false : Bool)⟩ := ⟨rfl, rfl, rfl, by simp⟩
 refine wp_bind (full_wp hr (by omega) (by simp [nobar]) hf (k := 0) (Nat.zero_le _) G0) (fun y hy => ?_)
 obtain ⟨y1, y2⟩ := hy
 cases hy1 : y.1 with
 | false => exact wp_true rfl (wp_some (.inl ⟨fun h => (by have := y1.2 h; rw [hy1] at this; cases this), rfl⟩))
 | true =>
   have hF := y1.1 hy1
   refine wp_false rfl ?_
   rw [y2.pl]
   refine wp_must (by omega) ?_
   refine wp_range (fun k (s : (List Int) × (List Bool) × (List Int) × (List Runner) × (List Int)) => GF r P s.2.1 ⟨s.2.2.2.1, s.2.2.2.2, s.1, s.2.1⟩ ∧ ∃ js, Gre r P k js s.2.1 ∧ s.2.2.1 = js.map (fun j => (rn r j).Id))
     ⟨⟨y2.run, rfl, rfl, y2.len⟩, [], by rw [y2.bar_]; exact .nil, rfl⟩ (fun k s K hk hI hK => ?_) (fun s hI => ?_)
   · obtain ⟨of1, bar1, out, run1, pl1⟩ := s
     obtain ⟨G1, js, hG, ho⟩ := hI
     dsimp only at G1 hG ho hK ⊢
     have hbl := hG.len.2
     have hjl := hG.len.1
     have hfull := hG.full hF
     obtain ⟨j0, hj0, hfit0⟩ := full_fit hbl hk hfull
     refine wp_join (fun s : (List Int) × (List Bool) × (List Runner) × (List Int) × (List Int) => GF r P s.2.1 ⟨s.2.2.1, s.2.2.2.1, s.1, s.2.1⟩ ∧ ∃ js, Gre r P (k + 1) js s.2.1 ∧ s.2.2.2.2 = js.map (fun j => (rn r j).Id)) (fun K2 hK2 => ?_) (fun s hs => hK _ hs)
     refine wp_range (fun j (s : (List Int) × (List Bool) × (List Runner) × (List Int)) => s.2.1 = bar1 ∧ GF r P bar1 ⟨s.2.2.1, s.2.2.2, s.1, s.2.1⟩ ∧ ∀ q, q < j → ¬ Fit1 r P bar1 k q)
       ⟨rfl, G1, fun q hq => by omega⟩ (fun j s K3 hj hJ hK3 => ?_) (fun s hJ => absurd hfit0 (hJ.2.2 j0 hj0))
     obtain ⟨of2, bar2, run2, pl2⟩ := s
     obtain ⟨eb, G2, hno⟩ := hJ
     dsimp only at eb
     subst eb
     dsimp only at G2 hno hK3 hK2 ⊢
     refine wp_join (fun s : (List Int) × (List Bool) × (List Runner) × (List Int) => s.2.1 = bar2 ∧ GF r P bar2 ⟨s.2.2.1, s.2.2.2, s.1, s.2.1⟩ ∧ ∀ q, q < j + 1 → ¬ Fit1 r P bar2 k q) (fun K4 hK4 => ?_) (fun s hs => hK3 _ hs)
     have em := may_eq G2.run G2.pl G2.bar_ hbl hk hj
     refine wp_bindE em (wp_bif (fun hc => hK4 _ ⟨rfl, G2, fun q hq => ?_⟩) (fun hc => ?_))
     · by_cases e : q = j
       · subst e
         rintro ⟨⟨a1, a2⟩, _⟩
         rw [a1, decide_eq_true a2] at hc; cases hc
       · exact hno q (by omega)
     · have hadj : madj r P bar2 k j := by
         simp only [Bool.not_eq_false', Bool.and_eq_true, Bool.not_eq_true', decide_eq_true_eq] at hc
         exact hc
       refine wp_must (by omega) ?_
       have G3 : GF r P (bar2.set j true) ⟨run2, pl2, of2, bar2.set j true⟩ := ⟨G2.run, G2.pl, rfl, G2.len⟩
       have e1 : ((k : Int) + 1) = ((k + 1 : Nat) : Int) := by omega
       rw [e1]
       refine wp_bind (full_wp hr (by omega) (by rw [List.length_set]; exact hbl) hf (k := k + 1) hk G3) (fun z hz => ?_)
       obtain ⟨z1, z2⟩ := hz
       refine wp_bif (fun hzt => ?_) (fun hzf => ?_)
       · refine wp_mustR (by rw [ho]; simp; omega) (hK2 _ ⟨⟨z2.run, z2.pl, rfl, z2.len⟩, js ++ [j], ?_, ?_⟩)
         · dsimp only
           rw [z2.bar_]
           exact .snoc hG hk hj ⟨hadj, z1.1 hzt⟩ hno
         · dsimp only
           rw [ho, List.map_append]; rfl
       · have ez : z.2.barred.set j false = bar2 := by rw [z2.bar_]; exact set_back hadj.1
         refine wp_must (by rw [z2.bar_, List.length_set]; omega) (hK4 _ ⟨ez, ⟨z2.run, z2.pl, ez, z2.len⟩, fun q hq => ?_⟩)
         by_cases e : q = j
         · subst e
           intro hfit
           have := z1.2 hfit.2
           rw [this] at hzf; cases hzf
         · exact hno q (by omega)
   · obtain ⟨G1, js, hG, ho⟩ := hI
     exact wp_some (.inr ⟨hF, js, _, hG, by rw [ho]⟩)
end Go.Sp
end
/- Plain laws, fog: Assign; FogKept. No program in sight. -/
section
set_option linter.all false
namespace Go.Sp
open Go.Av
set_option maxRecDepth 100000
def KeptP (p : List Node) (r : List Runner) (q : List Int) : Prop := ∀ j ∈ q, Full r (plL (nd p j.toNat).Sends) (nobar r) 0
noncomputable instance (p : List Node) (r : List Runner) (q : List Int) : Decidable (KeptP p r q) := Classical.propDecidable _
open Classical in
noncomputable def keptR (p : List Node) (r : List Runner) (l : List Report) (night m : Int) : Bool × Int :=
 if ¬ PolOk p then (false, 53) else if ¬ RunsOk r then (false, 54) else if askR p l night m ≠ 0 then (false, askR p l night m) else (decide (KeptP p r (possL p l night m)), 0)
theorem fKept_eq {fuel : Nat} (p : List Node) (r : List Runner) (l : List Report) (night m : Int) (hf : 1100 < fuel) : fog_Kept fuel p r l night m = some (keptR p r l night m) := by
 unfold fog_Kept keptR
 refine Wp.eq ?_
 by_cases h1 : PolOk p
 · rw [if_neg (fun h => h h1)]
   refine wp_bindE (fpol_ok h1) (wp_false rfl ?_)
   by_cases h2 : RunsOk r
   · rw [if_neg (fun h => h h2)]
     refine wp_bindE (frun_ok h2) (wp_false rfl (wp_bindE (fasked_eq p l night m) (wp_ifn (fun h => ?_) (fun h => ?_))))
     · rw [if_pos h]; exact wp_some rfl
     · rw [if_neg (by simp [h])]
       obtain ⟨V, R, D⟩ := askR_zero.1 h
       refine wp_bindE (fpossible_eq V R.len ⟨D.1, D.2.1⟩ (by omega)) ?_
       have hq2 : ∀ j ∈ possL p l night m, 0 ≤ j ∧ j < p.length ∧ SendsOk (nd p j.toNat).Sends := fun j hj => poss_leaf V hj
       generalize possL p l night m = q at hq2 ⊢
       refine wp_forall (fun i => Full r (plL (nd p (q.getD i default).toNat).Sends) (nobar r) 0) (fun i K hi _ hK => ?_) (fun hall => wp_some ?_)
       · have hx := hq2 _ (getD_mem hi)
         have en : p.getD (q.getD i default).toNat default = nd p (q.getD i default).toNat := rfl
         rw [en]
         refine wp_must ⟨hx.1, hx.2.1⟩ (wp_bind (give_wp h2 hx.2.2 hf) (fun z hz => ?_))
         rcases hz with ⟨hn, rfl⟩ | ⟨hF, js, bar, hG, rfl⟩
         · refine wp_true rfl (wp_some ?_)
           rw [decide_eq_false (p := KeptP p r q) (fun hh => hn (hh _ (getD_mem hi)))]
         · exact wp_false rfl (hK hF)
       · rw [decide_eq_true (p := KeptP p r q) (fun j hj => ?_)]
         obtain ⟨i, hi, rfl⟩ := mem_getD hj
         exact hall i hi
   · rw [if_pos h2]
     exact wp_bindE (frun_bad h2) (wp_true rfl (wp_some rfl))
 · rw [if_pos h1]
   exact wp_bindE (fpol_bad h1) (wp_true rfl (wp_some rfl))
end Go.Sp
end
/- Plain laws, fog: too few runners; Hall's condition; the program's and the document's search for it. No program in sight. -/
section
set_option linter.all false
namespace Go.Sp
open Go.Av
set_option maxRecDepth 100000
def hasD (D : Int → Bool) (x : Runner) : Bool := x.Districts.any D
def needD (S : List Send) (D : Int → Bool) : Int := (S.map (fun s => if D s.District then s.Many else 0)).sum
def canD (L : List Runner) (D : Int → Bool) : Nat := (L.filter (hasD D)).length
def Lack (S : List Send) (L : List Runner) : Prop := ∃ D : Int → Bool, (canD L D : Int) < needD S D
def leftL (r : List Runner) (bar : List Bool) : List Runner := ((List.range r.length).filter (fun j => !bar.getD j default)).map (rn r)
theorem need_plL (D : Int → Bool) : ∀ {S : List Send}, (∀ s ∈ S, 0 ≤ s.Many) → needD S D = (((plL S).filter D).length : Int)
 | [], _ => rfl
 | s :: S, h => by
   have ih := need_plL D (S := S) (fun x hx => h x (List.mem_cons_of_mem _ hx))
   have h0 := h s List.mem_cons_self
   have e1 : plL (s :: S) = List.replicate s.Many.toNat s.District ++ plL S := rfl
   have e2 : needD (s :: S) D = (if D s.District then s.Many else 0) + needD S D := by unfold needD; rw [List.map_cons, List.sum_cons]
   rw [e1, e2, List.filter_append, List.length_append, List.filter_replicate, ih]
   cases D s.District
   · simp
   · simp; omega
theorem can_left (r : List Runner) (bar : List Bool) (D : Int → Bool) : canD (leftL r bar) D = ((List.range r.length).filter (fun j => !bar.getD j default && hasD D (rn r j))).length := by
 unfold canD leftL
 rw [List.filter_map, List.length_map, List.filter_filter]
 congr 1
 exact List.filter_congr fun j _ => by rw [Bool.and_comm]; rfl
theorem drop_range (P : List Int) (k : Nat) : P.drop k = (List.range' k (P.length - k)).map (fun i => P.getD i default) := by
 refine List.ext_getElem (by simp) (fun i h1 h2 => ?_)
 rw [List.length_drop] at h1
 simp [List.getElem?_eq_getElem (show k + i < P.length by omega)]
theorem full_lack {r : List Runner} {P : List Int} {bar : List Bool} {k : Nat} {S : List Send} (hS : ∀ s ∈ S, 0 ≤ s.Many) (e : plL S = P.drop k) : Full r P bar k ↔ ¬ Lack S (leftL r bar) := by
 have hI : ∀ D : Int → Bool, needD S D = (((List.range' k (P.length - k)).filter (fun i => D (P.getD i default))).length : Int) := fun D => by
   rw [need_plL D hS, e, drop_range, List.filter_map, List.length_map]; rfl
 have hnd : ∀ D : Int → Bool, ((List.range' k (P.length - k)).filter (fun i => D (P.getD i default))).Nodup := fun D => List.Pairwise.filter _ List.nodup_range'
 have hm : ∀ i, i ∈ List.range' k (P.length - k) ↔ k ≤ i ∧ i < P.length := fun i => by rw [List.mem_range'_1]; omega
 constructor
 · rintro ⟨g, g1, g2⟩ ⟨D, hD⟩
   rw [hI D, can_left] at hD
   have := length_le_inj (r := (List.range r.length).filter (fun j => !bar.getD j default && hasD D (rn r j))) g (hnd D) (fun i hi => ?_) (fun i hi i' hi' ee => ?_)
   · omega
   · obtain ⟨a, b⟩ := List.mem_filter.1 hi
     obtain ⟨c1, c2, c3⟩ := g1 i ((hm i).1 a)
     rw [List.mem_filter, List.mem_range]
     refine ⟨c1, ?_⟩
     rw [c2]
     simp only [Bool.not_false, Bool.true_and]
     unfold hasD
     rw [List.any_eq_true]
     exact ⟨_, c3, b⟩
   · exact g2 i i' ((hm i).1 (List.mem_filter.1 hi).1) ((hm i').1 (List.mem_filter.1 hi').1) ee
 · intro hno
   apply Classical.byContradiction
   intro hF
   obtain ⟨T', t1, t2, t3⟩ := hall_few (adj := madj r P bar) (m := r.length) _ (List.range' k (P.length - k)) (Nat.le_refl _) List.nodup_range' (fun ⟨g, g1, g2⟩ => hF ⟨g, fun i hi => g1 i ((hm i).2 hi), fun i i' hi hi' => g2 i i' ((hm i).2 hi) ((hm i').2 hi')⟩)
   refine hno ⟨fun d => T'.any (fun i => decide (P.getD i default = d)), ?_⟩
   rw [hI, can_left]
   have h3 := t3 ((List.range r.length).filter (fun j => !bar.getD j default && hasD (fun d => T'.any (fun i => decide (P.getD i default = d))) (rn r j))) (List.Pairwise.filter _ List.nodup_range) (fun q hq => ?_)
   · have h4 := nodup_le t2 (r := (List.range' k (P.length - k)).filter (fun i => T'.any (fun i' => decide (P.getD i' default = P.getD i default)))) (fun i hi => by
       rw [List.mem_filter, List.any_eq_true]
       exact ⟨t1 i hi, i, hi, decide_eq_true rfl⟩)
     omega
   · rw [List.mem_filter, List.mem_range, Bool.and_eq_true, Bool.not_eq_true'] at hq
     obtain ⟨h1, h2, h3⟩ := hq
     unfold hasD at h3
     rw [List.any_eq_true] at h3
     obtain ⟨d, hd, h4⟩ := h3
     rw [List.any_eq_true] at h4
     obtain ⟨i, hi, h5⟩ := h4
     exact ⟨h1, i, hi, h2, by rw [of_decide_eq_true h5]; exact hd⟩
theorem mask_ex (W : Nat → Bool) : ∀ n : Nat, ∃ m : Nat, m < 2 ^ n ∧ ∀ i, i < n → m.testBit i = W i
 | 0 => ⟨0, by simp, fun i hi => by omega⟩
 | n + 1 => by
   obtain ⟨m, h1, h2⟩ := mask_ex W n
   have hp : 2 ^ (n + 1) = 2 ^ n + 2 ^ n := by rw [Nat.pow_succ]; omega
   cases hW : W n with
   | false =>
     refine ⟨m, by omega, fun i hi => ?_⟩
     by_cases e : i = n
     · rw [e, Nat.testBit_lt_two_pow h1, hW]
     · exact h2 i (by omega)
   | true =>
     refine ⟨m ||| 2 ^ n, or_lt (by omega) (by omega), fun i hi => ?_⟩
     rw [or_bit]
     by_cases e : i = n
     · rw [e, hW]; simp
     · rw [h2 i (by omega), decide_eq_false e, Bool.or_false]
theorem bit_and (m i : Nat) : decide ((((m : Int).toNat &&& ((1 : Int) * 2 ^ ((i : Int)).toNat).toNat : Nat) : Int) = 0) = !m.testBit i := by
 have e : ((1 : Int) * 2 ^ ((i : Int)).toNat).toNat = 2 ^ i := by
   rw [Int.one_mul, Int.toNat_natCast]
   have : (2 : Int) ^ i = ((2 ^ i : Nat) : Int) := by simp
   rw [this, Int.toNat_natCast]
 rw [e, Int.toNat_natCast]
 cases h : m.testBit i with
 | false =>
   have : m &&& 2 ^ i = 0 := Nat.eq_of_testBit_eq (fun j => by
     rw [Nat.testBit_and, Nat.testBit_two_pow, Nat.zero_testBit]
     by_cases ej : i = j
     · rw [← ej, h]; rfl
     · rw [decide_eq_false ej, Bool.and_false])
   rw [this]; rfl
 | true =>
   refine decide_eq_false (fun h0 => ?_)
   have h0 : m &&& 2 ^ i = 0 := by omega
   have h1 : (m &&& 2 ^ i).testBit i = true := by rw [Nat.testBit_and, Nat.testBit_two_pow, h, decide_eq_true rfl]; rfl
   rw [h0, Nat.zero_testBit] at h1; cases h1
def needW (S : List Send) (W : Nat → Bool) (n : Nat) : Int := ((List.range n).map (fun i => if W i then (sd S i).Many else 0)).sum
def hasW (S : List Send) (W : Nat → Bool) (n : Nat) (x : Runner) : Bool := (List.range n).any (fun i => W i && decide ((sd S i).District ∈ x.Districts))
def LackW (S : List Send) (L : List Runner) (W : Nat → Bool) : Prop := ((L.filter (hasW S W S.length)).length : Int) < needW S W S.length
instance (S : List Send) (L : List Runner) (W : Nat → Bool) : Decidable (LackW S L W) := inferInstanceAs (Decidable (_ < _))
theorem needW_succ (S : List Send) (W : Nat → Bool) (n : Nat) : needW S W (n + 1) = needW S W n + if W n then (sd S n).Many else 0 := by
 unfold needW
 rw [List.range_succ, List.map_append, List.sum_append]; simp
theorem needW_D (S : List Send) (D : Int → Bool) : needW S (fun i => D (sd S i).District) S.length = needD S D := by
 have key : ∀ n, n ≤ S.length → needW S (fun i => D (sd S i).District) n = needD (S.take n) D := by
   intro n
   induction n with
   | zero => intro _; rfl
   | succ n ih =>
     intro hn
     rw [needW_succ, ih (by omega), take_getD hn]
     unfold needD
     rw [List.map_append, List.sum_append]
     simp [sd]
 rw [key _ (Nat.le_refl _), List.take_length]
theorem needW_congr {S : List Send} {W W' : Nat → Bool} {n : Nat} (h : ∀ i, i < n → W i = W' i) : needW S W n = needW S W' n := by
 unfold needW
 refine congrArg List.sum (List.map_congr_left fun i hi => ?_)
 rw [h i (List.mem_range.1 hi)]
theorem hasW_congr {S : List Send} {W W' : Nat → Bool} {n : Nat} (h : ∀ i, i < n → W i = W' i) : hasW S W n = hasW S W' n := by
 funext x
 unfold hasW
 rw [Bool.eq_iff_iff, List.any_eq_true, List.any_eq_true]
 constructor
 · rintro ⟨i, hi, e⟩; exact ⟨i, hi, by rw [← h i (List.mem_range.1 hi)]; exact e⟩
 · rintro ⟨i, hi, e⟩; exact ⟨i, hi, by rw [h i (List.mem_range.1 hi)]; exact e⟩
theorem needW_le {S : List Send} (hS : ∀ i, i < S.length → 0 ≤ (sd S i).Many) {W W' : Nat → Bool} : ∀ {n : Nat}, n ≤ S.length → (∀ i, i < n → W i = true → W' i = true) → needW S W n ≤ needW S W' n
 | 0, _, _ => Int.le_refl _
 | n + 1, hn, h => by
   have ih := needW_le hS (W := W) (W' := W') (n := n) (by omega) (fun i hi => h i (by omega))
   have h0 := hS n hn
   rw [needW_succ, needW_succ]
   cases h1 : W n with
   | true => rw [h n (by omega) h1]; simp; omega
   | false => cases W' n <;> simp <;> omega
theorem lack_mask {S : List Send} (hS : ∀ i, i < S.length → 0 ≤ (sd S i).Many) (L : List Runner) : Lack S L ↔ ∃ m : Nat, m < 2 ^ S.length ∧ LackW S L m.testBit := by
 constructor
 · rintro ⟨D, hD⟩
   obtain ⟨m, h1, h2⟩ := mask_ex (fun i => D (sd S i).District) S.length
   refine ⟨m, h1, ?_⟩
   unfold LackW
   rw [needW_congr h2, hasW_congr h2, needW_D]
   refine Int.lt_of_le_of_lt ?_ hD
   have : (L.filter (hasW S (fun i => D (sd S i).District) S.length)).Sublist (L.filter (hasD D)) := by
     have e : L.filter (hasW S (fun i => D (sd S i).District) S.length) = (L.filter (hasD D)).filter (hasW S (fun i => D (sd S i).District) S.length) := by
       rw [List.filter_filter]
       refine List.filter_congr fun x _ => ?_
       cases hw : hasW S (fun i => D (sd S i).District) S.length x with
       | false => simp
       | true =>
         unfold hasW at hw
         rw [List.any_eq_true] at hw
         obtain ⟨i, hi, e⟩ := hw
         simp only [Bool.and_eq_true, decide_eq_true_eq] at e
         have : hasD D x = true := by
           unfold hasD
           rw [List.any_eq_true]
           exact ⟨_, e.2, e.1⟩
         rw [this]; rfl
     rw [e]; exact List.filter_sublist
   have := this.length_le
   unfold canD
   omega
 · rintro ⟨m, h1, h2⟩
   refine ⟨fun d => (List.range S.length).any (fun i => m.testBit i && decide ((sd S i).District = d)), ?_⟩
   unfold LackW at h2
   rw [← needW_D]
   have e1 := needW_le hS (W := m.testBit) (W' := fun i => (List.range S.length).any (fun i' => m.testBit i' && decide ((sd S i').District = (sd S i).District))) (Nat.le_refl _) (fun i hi h => by
     rw [List.any_eq_true]
     exact ⟨i, List.mem_range.2 hi, by rw [h, decide_eq_true rfl]; rfl⟩)
   have e2 : hasD (fun d => (List.range S.length).any (fun i => m.testBit i && decide ((sd S i).District = d))) = hasW S m.testBit S.length := by
     funext x
     unfold hasD hasW
     rw [Bool.eq_iff_iff, List.any_eq_true, List.any_eq_true]
     constructor
     · rintro ⟨d, hd, h⟩
       rw [List.any_eq_true] at h
       obtain ⟨i, hi, h⟩ := h
       simp only [Bool.and_eq_true, decide_eq_true_eq] at h
       exact ⟨i, hi, by rw [h.1, decide_eq_true (h.2 ▸ hd)]; rfl⟩
     · rintro ⟨i, hi, h⟩
       simp only [Bool.and_eq_true, decide_eq_true_eq] at h
       exact ⟨_, h.2, List.any_eq_true.2 ⟨i, hi, by rw [h.1, decide_eq_true rfl]; rfl⟩⟩
   unfold canD
   rw [e2]
   omega
theorem needW_bound {S : List Send} (hS : ∀ i, i < S.length → 0 ≤ (sd S i).Many ∧ (sd S i).Many ≤ 20) (W : Nat → Bool) : ∀ {n : Nat}, n ≤ S.length → 0 ≤ needW S W n ∧ needW S W n ≤ 20 * (n : Int)
 | 0, _ => by simp [needW]
 | n + 1, hn => by
   have ih := needW_bound hS W (n := n) (by omega)
   have h0 := hS n hn
   rw [needW_succ]
   split <;> omega
theorem pow9 {n : Nat} (h : n ≤ 9) : 1 ≤ 2 ^ n ∧ 2 ^ n ≤ 512 := by
 have h1 : 2 ^ n ≤ 2 ^ 9 := Nat.pow_le_pow_right (by omega) h
 have h2 : 0 < 2 ^ n := Nat.pow_pos (by omega)
 have h3 : (2 ^ 9 : Nat) = 512 := by decide
 omega
theorem pow9i {n : Nat} : ((1 : Int) * 2 ^ ((n : Int)).toNat) = ((2 ^ n : Nat) : Int) := by simp
theorem rfew_wp {fuel : Nat} (hf : 1100 < fuel) {S : List Send} {L : List Runner} (hS9 : S.length ≤ 9) (hS : ∀ i, i < S.length → 0 ≤ (sd S i).Many ∧ (sd S i).Many ≤ 20) (hL : L.length ≤ 20) (hLd : ∀ x ∈ L, x.Districts.length ≤ 9) :
   Wp (gasolierref05_few fuel L S) (fun b => b = true ↔ Lack S L) := by
 unfold gasolierref05_few
 have hp := pow9 hS9
 have hlm := lack_mask (fun i hi => (hS i hi).1) L
 refine wp_for1 (2 ^ S.length) (by omega) (fun m => ∀ q, q < m → ¬ LackW S L q.testBit) (fun q hq => by omega) (fun m K hm hI hK => ?_)
 refine wp_must ⟨by omega, by omega, by rw [pow9i]; unfold inI; omega⟩ ?_
 rw [pow9i]
 refine wp_ifd (fun hlt => ?_) (fun hge => wp_some ⟨fun h => (by cases h), fun h => ?_⟩)
 · have hm' : m < 2 ^ S.length := by omega
   have hbit : ∀ i : Nat, i < S.length → (0 ≤ (i : Int) ∧ (i : Int) < 64 ∧ inI ((1 : Int) * 2 ^ ((i : Int)).toNat)) ∧ (0 ≤ (m : Int) ∧ 0 ≤ (((1 : Int) * 2 ^ ((i : Int)).toNat) : Int) ∧ inI (m : Int) ∧ inI ((1 : Int) * 2 ^ ((i : Int)).toNat)) := fun i hi => by
     have := pow9 (n := i) (by omega)
     rw [pow9i]; unfold inI
     refine ⟨⟨by omega, by omega, by omega, by omega⟩, by omega, by omega, ⟨by omega, by omega⟩, by omega, by omega⟩
   refine wp_forS S.length (by omega) (fun i s => s = needW S m.testBit i) rfl (fun i s K2 hi hI2 hK2 => ?_)
   have hb := needW_bound hS m.testBit (n := i) hi
   refine wp_ifd (fun hlt2 => ?_) (fun hge2 => ?_)
   · have hi' : i < S.length := by dsimp only at hlt2; omega
     have hMi := hS i hi'
     obtain ⟨c1, c2⟩ := hbit i hi'
     have es := needW_succ S m.testBit i
     dsimp only
     rw [bit_and]
     refine wp_must c1 (wp_must c2 (wp_bif (fun hbt => ?_) (fun hbt => ?_)))
     · have hbt : m.testBit i = true := by simpa using hbt
       rw [if_pos hbt] at es
       have en : (S.getD ((i : Int)).toNat default).Many = (sd S i).Many := rfl
       rw [en, hI2]
       exact wp_must (by omega) (wp_mustI (by omega) (wp_mustI (by omega) (hK2 _ hi' es.symm)))
     · have hbt : ¬ m.testBit i = true := by simpa using hbt
       rw [if_neg hbt, Int.add_zero] at es
       exact wp_mustI (by omega) (hK2 _ hi' (by rw [hI2, es]))
   · have hie : i = S.length := by dsimp only at hge2; omega
     subst hie
     refine wp_forS L.length (by omega) (fun j c => c = (((L.take j).filter (hasW S m.testBit S.length)).length : Int)) rfl (fun j c K3 hj hJ hK3 => ?_)
     have hcl : ((L.take j).filter (hasW S m.testBit S.length)).length ≤ 20 := Nat.le_trans (List.length_filter_le _ _) (by rw [List.length_take]; omega)
     refine wp_ifd (fun hlt3 => ?_) (fun hge3 => ?_)
     · have hj' : j < L.length := by dsimp only at hlt3; omega
       have et : (L.take (j + 1)).filter (hasW S m.testBit S.length) = (L.take j).filter (hasW S m.testBit S.length) ++ (if hasW S m.testBit S.length (L.getD j default) then [L.getD j default] else []) := by
         rw [take_getD hj', List.filter_append]; congr 1; rw [List.filter_cons]; split <;> rfl
       refine wp_forS S.length (by omega) (fun i b => b = hasW S m.testBit i (L.getD j default)) rfl (fun i b K4 hi hB hK4 => ?_)
       refine wp_ifd (fun hlt4 => ?_) (fun hge4 => ?_)
       · have hi' : i < S.length := by dsimp only at hlt4; omega
         obtain ⟨c1, c2⟩ := hbit i hi'
         dsimp only
         rw [bit_and]
         refine wp_must (fun _ => c1) (wp_must (fun _ => c2) (wp_must (fun _ => by omega) (wp_must (fun _ => by omega) ?_)))
         have hw : hasW S m.testBit (i + 1) (L.getD j default) = (hasW S m.testBit i (L.getD j default) || (m.testBit i && decide ((sd S i).District ∈ (L.getD j default).Districts))) := by
           unfold hasW
           rw [List.range_succ, List.any_append]; simp
         refine wp_on (Q := fun y => y = decide ((sd S i).District ∈ (L.getD j default).Districts)) (fun _ => Wp.of_eq (has_eq _ _ (by have := hLd _ (getD_mem hj'); simp only [Int.toNat_natCast]; omega) (by have := hLd _ (getD_mem hj'); simp only [Int.toNat_natCast]; omega)) rfl) (fun y hy => ?_)
         refine wp_mustI (by omega) (hK4 _ hi' ?_)
         rw [hw, hB, Bool.not_not]
         rw [hB] at hy
         cases h1 : hasW S m.testBit i (L.getD j default) with
         | true => rfl
         | false =>
           rw [h1] at hy
           cases h2 : m.testBit i with
           | false => rfl
           | true =>
             rw [h2] at hy
             rw [hy rfl]
       · have hie : i = S.length := by dsimp only at hge4; omega
         rw [hie] at hB
         rw [hB] at *
         refine wp_bif (fun hc => wp_mustI (by dsimp only; rw [hJ]; omega) (wp_mustI (by omega) (hK3 _ hj' ?_))) (fun hc => wp_mustI (by omega) (hK3 _ hj' ?_))
         · dsimp only at hc ⊢
           rw [et, if_pos hc, hJ]; simp
         · dsimp only at hc ⊢
           rw [et, if_neg (by rw [hc]; simp), hJ]; simp
     · have hje : j = L.length := by dsimp only at hge3; omega
       rw [hje, List.take_length] at hJ
       refine wp_ifd (fun hlk => wp_some ⟨fun _ => hlm.2 ⟨m, hm', ?_⟩, fun _ => rfl⟩) (fun hlk => wp_mustI (by omega) (hK hm' (fun q hq => ?_)))
       · dsimp only at hlk
         unfold LackW
         rw [hJ, hI2] at hlk; exact hlk
       · by_cases eq : q = m
         · dsimp only at hlk
           rw [eq]
           unfold LackW
           rw [hJ, hI2] at hlk; exact hlk
         · exact hI q (by omega)
 · obtain ⟨q, hq, h⟩ := hlm.1 h
   exact absurd h (hI q (by omega))
end Go.Sp
end
/- Plain laws, fog: too few runners, by the program; Short, CheckShort, CheckAssign. No program in sight. -/
section
set_option linter.all false
namespace Go.Sp
open Go.Av
set_option maxRecDepth 100000
theorem sd_mem {S : List Send} {s : Send} (h : s ∈ S) : ∃ i, i < S.length ∧ sd S i = s := mem_getD h
theorem sends_nn {S : List Send} (h : SendsOk S) : ∀ s ∈ S, 0 ≤ s.Many := fun s hs => by
 obtain ⟨i, hi, rfl⟩ := sd_mem hs
 have := (h.2 i hi).2.1; omega
def inL (ds : List Int) : Int → Bool := fun d => decide (d ∈ ds)
def dsL (T : List Send) : List Int := T.map (·.District)
end Go.Sp
end
/- Plain laws, fog: Short and CheckShort, by program and document. No program in sight. -/
section
set_option linter.all false
namespace Go.Sp
open Go.Av
set_option maxRecDepth 100000
theorem rise_few {l : List Int} : ∀ {i : Nat}, (∀ j, j < i → (1 ≤ l.getD j default ∧ l.getD j default ≤ 9) ∧ (0 < j → l.getD (j - 1) default < l.getD j default)) → i ≤ 9 := by
 intro i h
 have key : ∀ j, j < i → (j : Int) + 1 ≤ l.getD j default := by
   intro j
   induction j with
   | zero => intro hj; have := (h 0 hj).1; omega
   | succ j ih =>
     intro hj
     have h1 := ih (by omega)
     have h2 := (h (j + 1) hj).2 (by omega)
     have e : j + 1 - 1 = j := by omega
     rw [e] at h2
     omega
 by_cases h0 : i = 0
 · omega
 · have := key (i - 1) (by omega)
   have := (h (i - 1) (by omega)).1
   omega
def Rise9 (l : List Int) : Prop := ∀ j, j < l.length → (1 ≤ l.getD j default ∧ l.getD j default ≤ 9) ∧ (0 < j → l.getD (j - 1) default < l.getD j default)
theorem rrising_wp {fuel : Nat} (hf : 20 < fuel) (l : List Int) : Wp (gasolierref05_rising fuel l 1 9) (fun b => b = true ↔ Rise9 l) := by
 unfold gasolierref05_rising
 refine wp_loop (fun s : Int => ∃ i : Nat, s = (i : Int) ∧ i ≤ l.length ∧ ∀ j, j < i → (1 ≤ l.getD j default ∧ l.getD j default ≤ 9) ∧ (0 < j → l.getD (j - 1) default < l.getD j default)) (fun s => 10 - s.toNat) (by omega) ⟨0, rfl, Nat.zero_le _, fun j hj => by omega⟩ ?_
 rintro s K ⟨i, rfl, hi, hI⟩ hK
 have h9 := rise_few hI
 refine wp_ifd (fun hlt => ?_) (fun hge => wp_some ⟨fun _ j hj => hI j (by omega), fun _ => rfl⟩)
 have hi' : i < l.length := by omega
 have e1 : (((i : Int) - 1)).toNat = i - 1 := by omega
 refine wp_must (by omega) (wp_must (fun _ => by unfold inI; omega) (wp_must (fun h => by simp at h; omega) (wp_must (fun _ => by omega) ?_)))
 rw [e1]
 simp only [Int.toNat_natCast]
 refine wp_bif (fun hb => wp_some ⟨fun h => (by cases h), fun h => ?_⟩) (fun hb => ?_)
 · have := h i hi'
   simp only [Bool.or_eq_true, Bool.and_eq_true, decide_eq_true_eq, Bool.not_eq_true', ← Bool.not_eq_true, rin_iff] at hb
   rcases hb with hb | hb
   · exact absurd this.1 hb
   · have := this.2 (by omega); omega
 · simp only [Bool.or_eq_false_iff, Bool.and_eq_false_iff, Bool.not_eq_false', decide_eq_false_iff_not, rin_iff] at hb
   have hN : ∀ j, j < i + 1 → (1 ≤ l.getD j default ∧ l.getD j default ≤ 9) ∧ (0 < j → l.getD (j - 1) default < l.getD j default) := fun j hj => by
     by_cases e : j = i
     · subst e; exact ⟨hb.1, fun h0 => by rcases hb.2 with h | h <;> omega⟩
     · exact hI j (by omega)
   have h9' := rise_few hN
   exact wp_mustI (by omega) (hK _ ⟨i + 1, by simp, hi', hN⟩ (by omega))
theorem rise_len {l : List Int} (h : Rise9 l) : l.length ≤ 9 := rise_few (fun j hj => h j hj)
theorem rcheckRunners_wp {fuel : Nat} (hf : 40 < fuel) (r : List Runner) : Wp (gasolierref05_CheckRunners fuel r) (fun e => (RunsOk r ∧ e = 0) ∨ (¬ RunsOk r ∧ e = 54)) := by
 unfold gasolierref05_CheckRunners
 refine wp_ifd (fun h => wp_some (.inr ⟨fun V => by have := V.len; omega, rfl⟩)) (fun h => ?_)
 refine wp_for1 r.length (by omega) (fun i => ∀ j, j < i → RunOk r j) (fun j hj => by omega) (fun i K hi hI hK => ?_)
 refine wp_ifd (fun hlt => ?_) (fun hge => wp_some (.inl ⟨⟨by omega, fun j hj => hI j (by omega)⟩, rfl⟩))
 have hi' : i < r.length := by omega
 have e1 : (((i : Int) - 1)).toNat = i - 1 := by omega
 have en : r.getD i default = rn r i := rfl
 have en1 : r.getD (i - 1) default = rn r (i - 1) := rfl
 refine wp_must (by omega) (wp_must (fun _ => by unfold inI; omega) (wp_must (fun h => by simp at h; omega) (wp_must (fun _ => by omega) (wp_must (fun _ => by omega) (wp_must (fun _ => by omega) ?_)))))
 simp only [Int.toNat_natCast, e1, en, en1]
 refine wp_on (Q := fun b => b = true ↔ Rise9 (rn r i).Districts) (fun _ => rrising_wp (by omega) _) (fun b hb => ?_)
 refine wp_bif (fun hc => wp_some (.inr ⟨fun V => ?_, rfl⟩)) (fun hc => ?_)
 · have O := V.all i hi'
   have o1 := O.id_; have o2 := O.up; have o3 := O.len; have o4 := O.dist
   have g1 : gasolierref05_In (rn r i).Id 1 99 = true := rin_iff.2 o1
   have g2 : (decide (0 < (i : Int)) && decide ((rn r i).Id ≤ (rn r (i - 1)).Id)) = false := by
     by_cases h0 : 0 < i
     · have := o2 h0
       rw [decide_eq_false (show ¬ (rn r i).Id ≤ (rn r (i - 1)).Id by omega), Bool.and_false]
     · rw [decide_eq_false (show ¬ 0 < (i : Int) by omega), Bool.false_and]
   have g3 : decide ((((rn r i).Districts.length : Nat) : Int) = 0) = false := decide_eq_false (by omega)
   rw [g1, g2, g3] at hb hc
   have := (hb rfl).2 o4
   rw [this] at hc; cases hc
 · simp only [Bool.or_eq_false_iff] at hc
   obtain ⟨⟨⟨c1, c2⟩, c3⟩, c4⟩ := hc
   have hr9 := (hb (by rw [c1, c2, c3]; rfl)).1 (by simpa using c4)
   have c1 := rin_iff.1 (show gasolierref05_In (rn r i).Id 1 99 = true by simpa using c1)
   have c3 := of_decide_eq_false c3
   rw [Bool.and_eq_false_iff, decide_eq_false_iff_not, decide_eq_false_iff_not] at c2
   have hl := rise_len hr9
   refine wp_mustI (by omega) (hK hi' (fun j hj => ?_))
   by_cases e : j = i
   · subst e
     exact ⟨c1, fun h0 => by rcases c2 with h | h <;> omega, by omega, hr9⟩
   · exact hI j (by omega)
theorem rrun_eq {fuel : Nat} (hf : 40 < fuel) (r : List Runner) : gasolierref05_CheckRunners fuel r = fog_CheckRunners r := by
 obtain ⟨x, e, k⟩ := rcheckRunners_wp hf r
 rw [e]
 rcases k with ⟨k, rfl⟩ | ⟨k, rfl⟩
 · exact (frun_ok k).symm
 · exact (frun_bad k).symm
end Go.Sp
end
/- Plain laws, fog: CheckShort and CheckAssign, by program and document. No program in sight. -/
section
set_option linter.all false
namespace Go.Sp
open Go.Av
set_option maxRecDepth 100000
structure CSOk (S : List Send) (r : List Runner) (ds : List Int) : Prop where
 some_ : 0 < ds.length
 all : ∀ k, k < ds.length → ds.getD k default ∈ dsL S ∧ (0 < k → ds.getD (k - 1) default < ds.getD k default)
 few : (canD r (inL ds) : Int) < needD S (inL ds)
end Go.Sp
end
/- Plain laws, fog: CheckAssign and Assign by the document; FogRunners. No program in sight. -/
section
set_option linter.all false
namespace Go.Sp
open Go.Av
set_option maxRecDepth 100000
structure CAOk (r : List Runner) (P : List Int) (ids : List Int) : Prop where
 len : ids.length = P.length
 all : ∀ k, k < ids.length → (∃ j, j < r.length ∧ (rn r j).Id = ids.getD k default ∧ P.getD k default ∈ (rn r j).Districts) ∧ ∀ k', k' < k → ids.getD k' default ≠ ids.getD k default
end Go.Sp
end
/- Plain laws, fog: Assign by the document; FogRunners, FogEither. No program in sight. -/
section
set_option linter.all false
namespace Go.Sp
open Go.Av
set_option maxRecDepth 100000
theorem left_nobar (r : List Runner) : leftL r (nobar r) = r := by
 unfold leftL nobar
 have e : (List.range r.length).filter (fun j => !(List.replicate r.length false).getD j default) = List.range r.length := by
   rw [List.filter_eq_self]
   intro j _
   have : (List.replicate r.length false).getD j default = false := getD_replicate r.length j false
   rw [this]; rfl
 rw [e]
 refine List.ext_getElem (by simp) (fun i h1 h2 => ?_)
 simp [rn, List.getElem?_eq_getElem h2]
structure SkOk (S : List Send) (i : Nat) (Sk : List Send) : Prop where
 len : Sk.length = S.length
 dist : ∀ j, j < S.length → (sd Sk j).District = (sd S j).District ∧ (0 ≤ (sd Sk j).Many ∧ (sd Sk j).Many ≤ 20) ∧ (j < i → (sd Sk j).Many = 0)
end Go.Sp
end
/- Plain laws, fog: FogMoves. No program in sight. -/
section
set_option linter.all false
namespace Go.Sp
open Go.Av
set_option maxRecDepth 100000
theorem rKept_eq {fuel : Nat} (hf : 1100 < fuel) (t : gasolierref05_Town) (l : List Report) (a : gasolierref05_At) : gasolierref05_Kept fuel t l a = some (keptR t.Policy t.Runners l a.Night a.Moment) := by
 obtain ⟨p, r⟩ := t
 unfold gasolierref05_Kept keptR
 dsimp only
 refine Wp.eq ?_
 by_cases h1 : PolOk p
 · rw [if_neg (fun h => h h1)]
   refine wp_bindE (rpol_ok (by omega) h1) (wp_false rfl ?_)
   by_cases h2 : RunsOk r
   · rw [if_neg (fun h => h h2)]
     refine wp_bindE ((rrun_eq (by omega) r).trans (frun_ok h2)) (wp_false rfl (wp_bindE (rPossible_eq p l a (by omega)) ?_))
     by_cases h : askR p l a.Night a.Moment = 0
     · have ep : possR p l a.Night a.Moment = (possL p l a.Night a.Moment, 0) := by unfold possR; rw [if_neg (by simp [h])]
       rw [ep, if_neg (by simp [h])]
       refine wp_false rfl ?_
       obtain ⟨V, R, D⟩ := askR_zero.1 h
       have hr := h2.len
       have hLd : ∀ x ∈ r, x.Districts.length ≤ 9 := fun x hx => by
         obtain ⟨j, hj, rfl⟩ := mem_getD hx
         exact (h2.all j hj).len.2
       have hq := possL_len V (l := l) (night := a.Night) (now := a.Moment)
       have hq2 : ∀ j ∈ possL p l a.Night a.Moment, 0 ≤ j ∧ j < p.length ∧ SendsOk (nd p j.toNat).Sends := fun j hj => poss_leaf V hj
       dsimp only
       generalize possL p l a.Night a.Moment = q at hq hq2 ⊢
       have hx : ∀ i, i < q.length → (Full r (plL (nd p (q.getD i default).toNat).Sends) (nobar r) 0 ↔ ¬ Lack (nd p (q.getD i default).toNat).Sends r) := fun i hi => by
         have h3 := hq2 _ (getD_mem hi)
         have := full_lack (r := r) (P := plL (nd p (q.getD i default).toNat).Sends) (bar := nobar r) (k := 0) (S := (nd p (q.getD i default).toNat).Sends) (sends_nn h3.2.2) rfl
         rwa [left_nobar] at this
       refine wp_for1 q.length (by omega) (fun i => ∀ k, k < i → Full r (plL (nd p (q.getD k default).toNat).Sends) (nobar r) 0) (fun k hk => by omega) (fun i K hi hI hK => ?_)
       refine wp_ifd (fun hlt => ?_) (fun hge => wp_some ?_)
       · have hi' : i < q.length := by omega
         have h3 := hq2 _ (getD_mem hi')
         have en : p.getD (q.getD i default).toNat default = nd p (q.getD i default).toNat := rfl
         simp only [Int.toNat_natCast, en]
         refine wp_must (by omega) (wp_must ⟨h3.1, h3.2.1⟩ (wp_bind (rfew_wp hf h3.2.2.1 (fun k hk => by have := (h3.2.2.2 k hk).2.1; omega) hr hLd) (fun b hb => ?_)))
         cases b with
         | true =>
           refine wp_true rfl (wp_some ?_)
           rw [decide_eq_false (p := KeptP p r q) (fun hh => (hx i hi').1 (hh _ (getD_mem hi')) (hb.1 rfl))]
         | false =>
           refine wp_false rfl (wp_mustI (by omega) (hK hi' (fun k hk => ?_)))
           by_cases e : k = i
           · rw [e]; exact (hx i hi').2 (fun hl => nomatch (hb.2 hl))
           · exact hI k (by omega)
       · rw [decide_eq_true (p := KeptP p r q) (fun j hj => ?_)]
         obtain ⟨i', hi', rfl⟩ := mem_getD hj
         exact hI i' (by omega)
     · have ep : possR p l a.Night a.Moment = ([], askR p l a.Night a.Moment) := by unfold possR; rw [if_pos h]
       rw [ep, if_pos h]
       exact wp_true (by simp [h]) (wp_some rfl)
   · rw [if_pos h2]
     exact wp_bindE ((rrun_eq (by omega) r).trans (frun_bad h2)) (wp_true rfl (wp_some rfl))
 · rw [if_pos h1]
   exact wp_bindE (rpol_bad (by omega) h1) (wp_true rfl (wp_some rfl))
theorem rtold_wp {fuel : Nat} (hf : 1500 < fuel) (l : List Report) (a : gasolierref05_At) (hl : l.length ≤ 60) : Wp (gasolierref05_told fuel l a) (fun s => s.length = 1440 ∧ ∀ m, m < 1440 → s.getD m default = if (pairL (seeL l a.District a.Night a.Moment)).isSome then ⟨-1, -1⟩ else sightL (seeL l a.District a.Night a.Moment) m) := by
 unfold gasolierref05_told
 have hv : (seeL l a.District a.Night a.Moment).length ≤ 60 := Nat.le_trans (List.length_filter_le _ _) hl
 refine wp_must ⟨by omega, by omega, by unfold room; omega⟩ (wp_bindE (rof_eq l a hl (by omega)) (wp_bindE (rclash_eq _ hv (by omega)) ?_))
 generalize seeL l a.District a.Night a.Moment = v at hv ⊢
 have hpr : decide (0 < (((pairR v).1.length : Nat) : Int)) = (pairL v).isSome := by
   unfold pairR
   cases pairL v with
   | none => rfl
   | some x => simp
 refine wp_for 1440 (by omega) (fun i s => s.length = 1440 ∧ ∀ m, m < i → s.getD m default = if (pairL v).isSome then (⟨-1, -1⟩ : Range) else sightL v m) ⟨by simp, fun m hm => by omega⟩ (fun i s K hi hI hK => ?_)
 obtain ⟨I1, I2⟩ := hI
 refine wp_ifd (fun hlt => ?_) (fun hge => wp_some ⟨I1, fun m hm => I2 m (by rw [I1] at hge; omega)⟩)
 have hi' : i < 1440 := by rw [I1] at hlt; omega
 refine wp_must (by simp only; omega) ?_
 simp only [Int.toNat_natCast, hpr]
 refine wp_bif (fun hc => ?_) (fun hc => ?_)
 · have hp : (pairL v).isSome = false := by simpa using hc
   have key : ∀ s' : List Range, s' = (s.set i (⟨-1, -1⟩ : Range)).set i (sightL v i) → s'.length = 1440 ∧ ∀ m, m < i + 1 → s'.getD m default = if (pairL v).isSome then (⟨-1, -1⟩ : Range) else sightL v m := by
     rintro s' rfl
     refine ⟨by rw [List.length_set, List.length_set]; exact I1, fun m hm => ?_⟩
     rw [getD_set _ _ _ _ _ (by rw [List.length_set]; omega), getD_set _ _ _ _ _ (by omega)]
     by_cases e : m = i
     · subst e; rw [if_pos rfl, hp]; rfl
     · rw [if_neg e, if_neg e]; exact I2 m (by omega)
   exact wp_bindE (rsight_eq v _ hv (by omega)) (wp_must (by rw [List.length_set]; omega) (wp_mustI (by omega) (hK _ hi' (key _ rfl))))
 · have hp : (pairL v).isSome = true := by simpa using hc
   have key : ∀ s' : List Range, s' = s.set i (⟨-1, -1⟩ : Range) → s'.length = 1440 ∧ ∀ m, m < i + 1 → s'.getD m default = if (pairL v).isSome then (⟨-1, -1⟩ : Range) else sightL v m := by
     rintro s' rfl
     refine ⟨by rw [List.length_set]; exact I1, fun m hm => ?_⟩
     rw [getD_set _ _ _ _ _ (by omega)]
     by_cases e : m = i
     · rw [if_pos e, hp]; rfl
     · rw [if_neg e]; exact I2 m (by omega)
   exact wp_mustI (by omega) (hK _ hi' (key _ rfl))
theorem rMoved_eq {fuel : Nat} (hf : 1500 < fuel) (p : List Node) (l : List Report) (a : gasolierref05_Source) : gasolierref05_Moved fuel p l a = some (movedR p l a.Source a.Night a.Moment) := by
 unfold gasolierref05_Moved movedR
 refine Wp.eq (wp_bindE (rvalid_eq p l _ (by omega)) (wp_ifn (fun h => ?_) (fun h => ?_)))
 · rw [if_pos h]; exact wp_some rfl
 · rw [if_neg (by simp only at h; simp [h])]
   obtain ⟨V, R, D⟩ := askR_zero.1 h
   dsimp only at D
   have hl := R.len
   refine wp_loop (fun s : Int × Int × List Report => ∃ i : Nat, s.2.1 = (i : Int) ∧ i ≤ l.length ∧ s.2.2 = (l.take i).filter (fun x => !decide (x.Source = a.Source)) ∧ ((∀ j, j < i → (rp l j).Source ≠ a.Source) → s.1 = 0) ∧ ∀ j, j < i → (rp l j).Source = a.Source → s.1 = (rp l j).District) (fun s => l.length - s.2.1.toNat) (by simp only; omega) ⟨0, rfl, Nat.zero_le _, rfl, fun _ => rfl, fun j hj => absurd hj (Nat.not_lt_zero _)⟩ ?_
   rintro ⟨d, s2, out⟩ K ⟨i, rfl, hi, ho, hd0, hd1⟩ hK
   dsimp only at ho hd0 hd1 hK ⊢
   have hol : out.length ≤ 60 := by rw [ho]; exact Nat.le_trans (List.length_filter_le _ _) (by rw [List.length_take]; omega)
   refine wp_ifd (fun hlt => ?_) (fun hge => ?_)
   · have hi' : i < l.length := by omega
     have et : (l.take (i + 1)).filter (fun x => !decide (x.Source = a.Source)) = (l.take i).filter (fun x => !decide (x.Source = a.Source)) ++ (if (!decide ((rp l i).Source = a.Source)) = true then [rp l i] else []) := by
       rw [take_getD hi', List.filter_append]; congr 1; rw [List.filter_cons]; show (if (!decide ((rp l i).Source = a.Source)) = true then _ else _) = _; split <;> rfl
     have en : l.getD i default = rp l i := rfl
     simp only [Int.toNat_natCast, en]
     refine wp_must (by omega) (wp_ifd (fun he => wp_must (by omega) (wp_mustI (by omega) (hK _ ⟨i + 1, by simp, hi', ?_, fun hh => absurd he (hh i (by omega)), fun j hj hje => ?_⟩ (by simp only; omega)))) (fun hne => wp_must (by omega) (wp_mustR (by simp; omega) (wp_mustI (by omega) (hK _ ⟨i + 1, by simp, hi', ?_, fun hh => hd0 (fun j hj => hh j (by omega)), fun j hj hje => ?_⟩ (by simp only; omega))))))
     · simp only
       rw [et, decide_eq_true he, ho]; simp
     · simp only
       have h1 := inj_source (sorted_all R) (getD_mem (l := l) (i := i) hi') (getD_mem (l := l) (i := j) (by omega)) (by show (rp l i).Source = (rp l j).Source; rw [he, hje])
       have h1 : rp l i = rp l j := h1
       rw [h1]
     · simp only
       rw [et, decide_eq_false hne, ho]; simp
     · by_cases e : j = i
       · subst e; exact absurd hje hne
       · exact hd1 j (by omega) hje
   · have hie : i = l.length := by omega
     subst hie
     rw [List.take_length] at ho
     cases hx : l.findIdx? (fun x => decide (x.Source = a.Source)) with
     | none =>
       have hz : d = 0 := hd0 (fun j hj e => by
         rw [List.findIdx?_eq_none_iff] at hx
         have := hx (rp l j) (getD_mem hj)
         rw [decide_eq_true e] at this; cases this)
       exact wp_true (by rw [hz]; rfl) (wp_some rfl)
     | some i =>
       rw [List.findIdx?_eq_some_iff_getElem] at hx
       obtain ⟨hi', hie, _⟩ := hx
       have ei : l[i] = rp l i := by unfold rp; simp [List.getElem?_eq_getElem hi']
       rw [ei] at hie
       have hie := of_decide_eq_true hie
       have hd := hd1 i hi' hie
       have hdp := (R.all i hi').1.dist
       have hout : out = less l i := by rw [ho, ← hie]; exact less_filter R hi'
       have R2 := repsOk_sub R (less_sub l i)
       have hl2 := R2.len
       rw [hout, hd]
       simp only
       refine wp_false (by simp; omega) (wp_bindE (rpath_eq V hl ⟨D.1, D.2.1⟩ (by omega)) (wp_bindE (rpath_eq V hl2 ⟨D.1, D.2.1⟩ (by omega)) (wp_bind (rtold_wp hf l ⟨(rp l i).District, a.Night, a.Moment⟩ hl) (fun u hu => wp_bind (rtold_wp hf (less l i) ⟨(rp l i).District, a.Night, a.Moment⟩ hl2) (fun w hw => ?_)))))
       obtain ⟨u1, u2⟩ := hu
       obtain ⟨w1, w2⟩ := hw
       dsimp only at u2 w2
       have s1 := fun m => sightL_hi (seeL l (rp l i).District a.Night a.Moment) m
       have s2 := fun m => sightL_hi (seeL (less l i) (rp l i).District a.Night a.Moment) m
       generalize seeL l (rp l i).District a.Night a.Moment = v1 at u2 s1 ⊢
       generalize seeL (less l i) (rp l i).District a.Night a.Moment = v2 at w2 s2 ⊢
       refine wp_for 1440 (by omega) (fun m s => s = movL v1 v2 m) rfl (fun m s K2 hm hI hK2 => ?_)
       have es := movL_succ v1 v2 m
       have hml := movL_len v1 v2 m
       refine wp_ifd (fun hlt2 => ?_) (fun hge2 => ?_)
       · have hm' : m < 1440 := by simp only [u1] at hlt2; omega
         simp only [Int.toNat_natCast]
         refine wp_must (by omega) (wp_must (by omega) ?_)
         have hdec : (!((decide ((u.getD m default).Lo = (w.getD m default).Lo)) && (decide ((u.getD m default).Hi = (w.getD m default).Hi)))) = ((!((pairL v1).isSome == (pairL v2).isSome)) || ((!(pairL v1).isSome) && (!((decide ((sightL v1 m).Lo = (sightL v2 m).Lo)) && (decide ((sightL v1 m).Hi = (sightL v2 m).Hi)))))) := by
           rw [u2 m hm', w2 m hm']
           have a1 := s1 m; have a2 := s2 m
           cases (pairL v1).isSome <;> cases (pairL v2).isSome
           · simp
           · simp; omega
           · simp; omega
           · simp
         rw [hdec]
         refine wp_bif (fun hc => wp_mustR (by rw [hI]; simp; omega) (wp_mustI (by omega) (hK2 _ hm' ?_))) (fun hc => wp_mustI (by omega) (hK2 _ hm' ?_))
         · rw [es, if_pos hc, hI]
         · rw [es, if_neg (by rw [hc]; simp), List.append_nil, hI]
       · have hme : m = 1440 := by simp only [u1] at hge2; omega
         subst hme
         have a1 := pathF_len V l a.Night
         have a2 := pathF_len V (less l i) a.Night
         refine wp_mustI (by omega) (wp_must (by omega) (wp_mustI (by omega) (wp_must (by omega) (wp_some ?_))))
         simp only
         rw [hI]
         have e1 : ((((pathF p l a.Night).length : Nat) : Int) - 1).toNat = (pathF p l a.Night).length - 1 := by omega
         have e2 : ((((pathF p (less l i) a.Night).length : Nat) : Int) - 1).toNat = (pathF p (less l i) a.Night).length - 1 := by omega
         rw [e1, e2]; rfl
theorem movedR_len (p : List Node) (l : List Report) (s night m : Int) : (movedR p l s night m).2.1.length ≤ 1440 := by
 unfold movedR
 split
 · simp
 · cases l.findIdx? (fun x => decide (x.Source = s)) with
   | none => simp
   | some i => exact movL_len _ _ _
theorem fogMoves_true (t : gasolierref05_Town) (l : List Report) (s : gasolierref05_Source) : gasolierlaw05_FogMoves 20000 t l s = some true := by
 unfold gasolierlaw05_FogMoves
 have hl := movedR_len t.Policy l s.Source s.Night s.Moment
 refine Wp.eq (wp_bindE (fKept_eq t.Policy t.Runners l s.Night s.Moment (by omega)) (wp_bindE (rKept_eq (by omega) t l _) (wp_bindE (fMoved_eq t.Policy l s.Source s.Night s.Moment (by omega)) (wp_bindE (rMoved_eq (by omega) t.Policy l s) ?_))))
 refine wp_onE (by simp) (same_eq _ _ (by omega) (by omega)) (wp_onE (by simp) sane_ok (wp_some (by simp)))
end Go.Sp
end
