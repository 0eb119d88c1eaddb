/- Texts of the framework, or of the plain law, one behind another. -/
import Derived.Test.YtoekhnngdocddaaFr1
import Derived.Test.YtoekhnngdocddaaFr4
import Derived.KernelRfl
/- Rules for plain laws: what a printed definition yields. No program in sight. -/
section
set_option linter.all false
namespace Go.Sp
open Go.Av
def Wp {R : Type} (x : Option R) (P : R → Prop) : Prop := ∃ r, x = some r ∧ P r
theorem Wp.eq {R : Type} {x : Option R} {v : R} (h : Wp x (· = v)) : x = some v := by
 obtain ⟨r, h1, h2⟩ := h; rw [h1, h2]
theorem Wp.of_eq {R : Type} {x : Option R} {v : R} {P : R → Prop} (h : x = some v) (hp : P v) : Wp x P := ⟨v, h, hp⟩
theorem Wp.mono {R : Type} {x : Option R} {P Q : R → Prop} (h : Wp x P) (hp : ∀ r, P r → Q r) : Wp x Q := by
 obtain ⟨r, h1, h2⟩ := h; exact ⟨r, h1, hp r h2⟩
theorem wp_some {R : Type} {r : R} {P : R → Prop} (h : P r) : Wp (some r) P := ⟨r, rfl, h⟩
theorem wp_must {R : Type} {c : Prop} [Decidable c] {x : Option R} {P : R → Prop} (h : c) (k : Wp x P) : Wp (must c x) P := by
 unfold must; rw [if_pos h]; exact k
theorem wp_bind {S R : Type} {x : Option S} {k : S → Option R} {P : R → Prop} {Q : S → Prop} (h : Wp x Q) (hk : ∀ s, Q s → Wp (k s) P) : Wp (bindO x k) P := by
 obtain ⟨r, h1, h2⟩ := h; rw [h1]; exact hk r h2
theorem wp_bindE {S R : Type} {x : Option S} {k : S → Option R} {P : R → Prop} {v : S} (h : x = some v) (hk : Wp (k v) P) : Wp (bindO x k) P := by
 rw [h]; exact hk
theorem wp_bif {R : Type} {b : Bool} {x y : Option R} {P : R → Prop} (h1 : b = true → Wp x P) (h2 : b = false → Wp y P) : Wp (bif b then x else y) P := by
 cases b
 · exact h2 rfl
 · exact h1 rfl
theorem wp_if {R : Type} {p : Prop} {b : Bool} {x y : Option R} {P : R → Prop} (hb : b = true ↔ p) (h1 : p → Wp x P) (h2 : ¬ p → Wp y P) : Wp (bif b then x else y) P :=
 wp_bif (fun h => h1 (hb.1 h)) (fun h => h2 (fun hp => by rw [hb.2 hp] at h; cases h))
theorem wp_ifd {R : Type} {p : Prop} [Decidable p] {x y : Option R} {P : R → Prop} (h1 : p → Wp x P) (h2 : ¬ p → Wp y P) : Wp (bif (decide p) then x else y) P :=
 wp_if (decide_eq_true_iff) h1 h2
theorem wp_ifn {R : Type} {p : Prop} [Decidable p] {x y : Option R} {P : R → Prop} (h1 : ¬ p → Wp x P) (h2 : p → Wp y P) : Wp (bif (!decide p) then x else y) P :=
 wp_bif (fun h => h1 (by simpa using h)) (fun h => h2 (by simpa using h))
theorem wp_true {R : Type} {b : Bool} {x y : Option R} {P : R → Prop} (h : b = true) (h1 : Wp x P) : Wp (bif b then x else y) P := by rw [h]; exact h1
theorem wp_false {R : Type} {b : Bool} {x y : Option R} {P : R → Prop} (h : b = false) (h1 : Wp y P) : Wp (bif b then x else y) P := by rw [h]; exact h1
theorem wp_join {S R : Type} {f : (S → Option R) → Option R} {k : S → Option R} {P : R → Prop} (G : S → Prop) (hf : ∀ K : S → Option R, (∀ s, G s → Wp (K s) P) → Wp (f K) P) (hk : ∀ s, G s → Wp (k s) P) : Wp (joinK f k) P := hf k hk
theorem wp_joinU {S R : Type} {f : (S → Option R) → Option R} {k : S → Option R} {P : R → Prop} (h : Wp (f k) P) : Wp (joinK f k) P := h
theorem wp_range {S R : Type} {body : Nat → S → (S → Option R) → Option R} {ex : S → Option R} {n : Nat} {s0 : S} {P : R → Prop} (Inv : Nat → S → Prop) (h0 : Inv 0 s0)
   (hb : ∀ (i : Nat) s (K : S → Option R), i < n → Inv i s → (∀ s', Inv (i + 1) s' → Wp (K s') P) → Wp (body i s K) P) (he : ∀ s, Inv n s → Wp (ex s) P) : Wp (rangeGo body ex n 0 s0) P := by
 have go : ∀ (m i : Nat), i + m = n → ∀ s, Inv i s → Wp (rangeGo body ex m i s) P := by
   intro m
   induction m with
   | zero => intro i hi s hs; have e : i = n := by omega
             subst e; exact he s hs
   | succ m ih => intro i hi s hs; exact hb i s _ (by omega) hs (fun s' h' => ih (i + 1) (by omega) s' h')
 exact go n 0 (by omega) s0 h0
theorem wp_loop {S R : Type} {body : S → (S → Option R) → Option R} {fuel : Nat} {s0 : S} {P : R → Prop} (Inv : S → Prop) (μ : S → Nat) (hf : μ s0 < fuel) (h0 : Inv s0)
   (hb : ∀ s (K : S → Option R), Inv s → (∀ s', Inv s' → μ s' < μ s → Wp (K s') P) → Wp (body s K) P) : Wp (loopGo body fuel s0) P := by
 have go : ∀ (f : Nat) s, Inv s → μ s < f → Wp (loopGo body f s) P := by
   intro f
   induction f with
   | zero => intro s _ h; omega
   | succ f ih => intro s hs hm; exact hb s _ hs (fun s' h' hl => ih s' h' (by omega))
 exact go fuel s0 h0 hf
theorem wp_for {S R : Type} {body : (Int × S) → ((Int × S) → Option R) → Option R} {fuel : Nat} {s0 : S} {P : R → Prop} (n : Nat) (hf : n < fuel) (Inv : Nat → S → Prop) (h0 : Inv 0 s0)
   (hb : ∀ (i : Nat) s (K : (Int × S) → Option R), i ≤ n → Inv i s → (∀ s', i < n → Inv (i + 1) s' → Wp (K ((i : Int) + 1, s')) P) → Wp (body ((i : Int), s) K) P) : Wp (loopGo body fuel (0, s0)) P := by
 have go : ∀ (f i : Nat) s, i ≤ n → n - i < f → Inv i s → Wp (loopGo body f ((i : Int), s)) P := by
   intro f
   induction f with
   | zero => intro i s _ h; omega
   | succ f ih => intro i s hi hm hs; exact hb i s _ hi hs (fun s' hl h' => ih (i + 1) s' (by omega) (by omega) h')
 exact go fuel 0 s0 (by omega) (by omega) h0
theorem wp_forS {S R : Type} {body : (S × Int) → ((S × Int) → Option R) → Option R} {fuel : Nat} {s0 : S} {P : R → Prop} (n : Nat) (hf : n < fuel) (Inv : Nat → S → Prop) (h0 : Inv 0 s0)
   (hb : ∀ (i : Nat) s (K : (S × Int) → Option R), i ≤ n → Inv i s → (∀ s', i < n → Inv (i + 1) s' → Wp (K (s', (i : Int) + 1)) P) → Wp (body (s, (i : Int)) K) P) : Wp (loopGo body fuel (s0, 0)) P := by
 have go : ∀ (f i : Nat) s, i ≤ n → n - i < f → Inv i s → Wp (loopGo body f (s, (i : Int))) P := by
   intro f
   induction f with
   | zero => intro i s _ h; omega
   | succ f ih => intro i s hi hm hs; exact hb i s _ hi hs (fun s' hl h' => ih (i + 1) s' (by omega) (by omega) h')
 exact go fuel 0 s0 (by omega) (by omega) h0
end Go.Sp
end
/- More rules for plain laws. No program in sight. -/
section
set_option linter.all false
namespace Go.Sp
open Go.Av
theorem wp_mustI {R : Type} {n : Int} {x : Option R} {P : R → Prop} (h : -9223372036854775808 ≤ n ∧ n ≤ 9223372036854775807) (k : Wp x P) : Wp (must (inI n) x) P := wp_must h k
theorem wp_mustR {R : Type} {n b : Nat} {x : Option R} {P : R → Prop} (h : n * b ≤ 140737488355328 ∧ n ≤ 9223372036854775807) (k : Wp x P) : Wp (must (room n b) x) P := wp_must h k
end Go.Sp
end
/- Rules for plain laws, more of them. No program in sight. -/
section
set_option linter.all false
namespace Go.Sp
open Go.Av
theorem wp_forall {R : Type} {body : Nat → Unit → (Unit → Option R) → Option R} {ex : Unit → Option R} {n : Nat} {P : R → Prop} (good : Nat → Prop)
   (hb : ∀ (i : Nat) (K : Option R), i < n → (∀ j, j < i → good j) → (good i → Wp K P) → Wp (body i () (fun _ => K)) P) (he : (∀ j, j < n → good j) → Wp (ex ()) P) : Wp (rangeGo body ex n 0 ()) P := by
 refine wp_range (fun i _ => ∀ j, j < i → good j) (fun j hj => by omega) (fun i s K hi hI hK => ?_) (fun s hs => he hs)
 have e : K = fun _ => K () := funext fun u => rfl
 rw [e]
 exact hb i (K ()) hi hI (fun g => hK () (fun j hj => by
   by_cases e : j = i
   · rw [e]; exact g
   · exact hI j (by omega)))
theorem wp_onE {S R : Type} {W : Bool} {x y : Option S} {k : S → Option R} {P : R → Prop} {v : S} (hW : W = true) (h : x = some v) (hk : Wp (k v) P) : Wp (bindO (bif W then x else y) k) P := by
 subst hW; rw [h]; exact hk
theorem wp_offE {S R : Type} {W : Bool} {x y : Option S} {k : S → Option R} {P : R → Prop} {v : S} (hW : W = false) (h : y = some v) (hk : Wp (k v) P) : Wp (bindO (bif W then x else y) k) P := by
 subst hW; rw [h]; exact hk
theorem must_yes {R : Type} {c : Prop} [Decidable c] (h : c) (x : Option R) : must c x = x := if_pos h
theorem getD_set {T : Type} (l : List T) (i j : Nat) (x d : T) (hi : i < l.length) : (l.set i x).getD j d = if j = i then x else l.getD j d := by
 simp only [List.getD_eq_getElem?_getD]
 by_cases e : j = i
 · subst e; rw [List.getElem?_set_self hi, if_pos rfl]; rfl
 · rw [List.getElem?_set_ne (fun h => e h.symm), if_neg e]
theorem getD_snoc {T : Type} (l : List T) (x d : T) (i : Nat) : (l ++ [x]).getD i d = if i = l.length then x else l.getD i d := by
 simp only [List.getD_eq_getElem?_getD]
 rcases Nat.lt_trichotomy i l.length with h | h | h
 · rw [List.getElem?_append_left h, if_neg (by omega)]
 · subst h; simp
 · rw [if_neg (by omega), List.getElem?_eq_none (by simp; omega), List.getElem?_eq_none (by omega)]
theorem getD_replicate {T : Type} (n i : Nat) (x : T) : (List.replicate n x).getD i x = x := by
 simp only [List.getD_eq_getElem?_getD, List.getElem?_replicate]
 split <;> rfl
theorem getD_mem {T : Type} [Inhabited T] {l : List T} {i : Nat} (h : i < l.length) : l.getD i default ∈ l := by
 rw [List.getD_eq_getElem?_getD, List.getElem?_eq_getElem h]; exact List.getElem_mem h
theorem mem_getD {T : Type} [Inhabited T] {l : List T} {x : T} (h : x ∈ l) : ∃ i, i < l.length ∧ l.getD i default = x := by
 obtain ⟨i, hi, rfl⟩ := List.getElem_of_mem h
 exact ⟨i, hi, by rw [List.getD_eq_getElem?_getD, List.getElem?_eq_getElem hi]; rfl⟩
theorem getD_take {T : Type} (l : List T) (n i : Nat) (d : T) : (l.take n).getD i d = if i < n then l.getD i d else d := by
 simp only [List.getD_eq_getElem?_getD, List.getElem?_take]
 split <;> rfl
theorem getD_append {T : Type} (l r : List T) (i : Nat) (d : T) : (l ++ r).getD i d = if i < l.length then l.getD i d else r.getD (i - l.length) d := by
 simp only [List.getD_eq_getElem?_getD]
 split
 · rename_i h; rw [List.getElem?_append_left h]
 · rename_i h; rw [List.getElem?_append_right (by omega)]
theorem ext_getD {T : Type} [Inhabited T] {l r : List T} (hl : l.length = r.length) (h : ∀ i, i < l.length → l.getD i default = r.getD i default) : l = r := by
 refine List.ext_getElem hl (fun i h1 h2 => ?_)
 have := h i h1
 rw [List.getD_eq_getElem?_getD, List.getD_eq_getElem?_getD, List.getElem?_eq_getElem h1, List.getElem?_eq_getElem h2] at this
 exact this
theorem nodup_le {T : Type} [DecidableEq T] : ∀ {l r : List T}, l.Nodup → (∀ x ∈ l, x ∈ r) → l.length ≤ r.length
 | [], r, _, _ => Nat.zero_le _
 | x :: l, r, hn, hs => by
   have hx := hs x List.mem_cons_self
   rw [List.nodup_cons] at hn
   have := nodup_le (l := l) (r := r.erase x) hn.2 (fun y hy => (List.mem_erase_of_ne (fun (e : y = x) => hn.1 (e ▸ hy))).2 (hs y (List.mem_cons_of_mem _ hy)))
   rw [List.length_erase_of_mem hx] at this
   have := List.length_pos_of_mem hx
   simp only [List.length_cons]; omega
theorem nodup_inj {S T : Type} {f : S → T} : ∀ {l : List S}, l.Nodup → (∀ x ∈ l, ∀ y ∈ l, f x = f y → x = y) → (l.map f).Nodup
 | [], _, _ => List.nodup_nil
 | x :: l, hn, hi => by
   rw [List.nodup_cons] at hn
   rw [List.map_cons, List.nodup_cons]
   refine ⟨fun hm => ?_, nodup_inj hn.2 (fun a ha b hb => hi a (List.mem_cons_of_mem _ ha) b (List.mem_cons_of_mem _ hb))⟩
   obtain ⟨y, hy, e⟩ := List.mem_map.1 hm
   have := hi x List.mem_cons_self y (List.mem_cons_of_mem _ hy) e.symm
   exact hn.1 (this ▸ hy)
theorem length_le_inj {S T : Type} [DecidableEq T] {l : List S} {r : List T} (f : S → T) (hn : l.Nodup) (hm : ∀ x ∈ l, f x ∈ r) (hi : ∀ x ∈ l, ∀ y ∈ l, f x = f y → x = y) : l.length ≤ r.length := by
 have := nodup_le (nodup_inj hn hi) (r := r) (fun y hy => by obtain ⟨x, hx, rfl⟩ := List.mem_map.1 hy; exact hm x hx)
 rwa [List.length_map] at this
theorem emit_range {A : Type} {body : Nat → Unit → (Unit → Option (List A)) → Option (List A)} {n : Nat} (W : Nat → Bool) (x : Nat → A)
   (hb : ∀ (i : Nat) (r : Option (List A)), i < n → body i () (fun _ => r) = emitIf (W i) (x i) r) : rangeGo body (fun _ => some []) n 0 () = some (((List.range' 0 n).filter W).map x) := by
 have go : ∀ m i, i + m = n → rangeGo body (fun _ => some []) m i () = some (((List.range' i m).filter W).map x) := by
   intro m
   induction m with
   | zero => intro i _; rfl
   | succ m ih =>
     intro i hi
     have e : rangeGo body (fun _ => some []) (m + 1) i () = body i () (fun u => rangeGo body (fun _ => some []) m (i + 1) u) := rfl
     rw [e]
     have e2 : (fun u => rangeGo body (fun _ => some ([] : List A)) m (i + 1) u) = fun _ => some (((List.range' (i + 1) m).filter W).map x) := by
       funext u; exact ih (i + 1) (by omega)
     rw [e2, hb i _ (by omega), List.range'_succ, List.filter_cons]
     cases W i <;> rfl
 exact go n 0 (by omega)
def mu (n : Nat) (P : Nat → Bool) : Nat := (List.range n).countP (fun k => !P k)
theorem mu_le (n : Nat) (P : Nat → Bool) : mu n P ≤ n := by
 have := List.countP_le_length (p := fun k => !P k) (l := List.range n)
 rwa [List.length_range] at this
theorem mu_mono {n : Nat} {P Q : Nat → Bool} (h : ∀ k, P k = true → Q k = true) : mu n Q ≤ mu n P :=
 List.countP_mono_left (fun k _ hk => by
   cases hP : P k with
   | false => rfl
   | true => rw [h k hP] at hk; cases hk)
theorem countP_lt {T : Type} {p q : T → Bool} {a : T} : ∀ {l : List T}, (∀ x, x ∈ l → p x = true → q x = true) → a ∈ l → q a = true → p a = false → l.countP p < l.countP q
 | x :: l, h, ha, hq, hp => by
   rw [List.countP_cons, List.countP_cons]
   have hm : l.countP p ≤ l.countP q := List.countP_mono_left (fun y hy => h y (List.mem_cons_of_mem _ hy))
   rcases List.mem_cons.1 ha with rfl | ha
   · rw [hp, hq]; simp; omega
   · have := countP_lt (l := l) (fun y hy => h y (List.mem_cons_of_mem _ hy)) ha hq hp
     have hx := h x List.mem_cons_self
     cases hpx : p x with
     | false => simp; omega
     | true => rw [hx hpx]; simp; omega
theorem mu_lt {n j : Nat} {P Q : Nat → Bool} (h : ∀ k, P k = true → Q k = true) (hj : j < n) (hP : P j = false) (hQ : Q j = true) : mu n Q < mu n P :=
 countP_lt (a := j) (fun k _ hk => by
   cases hPk : P k with
   | false => rfl
   | true => rw [h k hPk] at hk; cases hk) (List.mem_range.2 hj) (by rw [hP]; rfl) (by rw [hQ]; rfl)
end Go.Sp
end
/- Matchings: a search for a free partner, where others step aside; what it leaves. No program in sight. -/
section
set_option linter.all false
namespace Go.Sp
structure Ks where
 seen : Nat → Bool
 own : Nat → Int
 back : Nat → Int
def Ks.see (s : Ks) (j : Nat) : Ks := ⟨fun k => s.seen k || decide (k = j), s.own, s.back⟩
def Ks.give (s : Ks) (j i : Nat) : Ks := ⟨s.seen, fun k => if k = j then (i : Int) else s.own k, fun k => if k = i then (j : Int) else s.back k⟩
inductive Srch (adj : Nat → Nat → Prop) (m : Nat) : Nat → Nat → Ks → Bool → Ks → Prop
 | done {i j : Nat} {s : Ks} : m ≤ j → Srch adj m i j s false s
 | skip {i j : Nat} {s s' : Ks} {b : Bool} : j < m → (adj i j → s.seen j = true) → Srch adj m i (j + 1) s b s' → Srch adj m i j s b s'
 | free {i j : Nat} {s : Ks} : j < m → adj i j → s.seen j = false → s.own j < 0 → Srch adj m i j s true ((s.see j).give j i)
 | aug {i j o : Nat} {s s' : Ks} : j < m → adj i j → s.seen j = false → s.own j = (o : Int) → Srch adj m o 0 (s.see j) true s' → Srch adj m i j s true (s'.give j i)
 | fail {i j o : Nat} {s s1 s' : Ks} {b : Bool} : j < m → adj i j → s.seen j = false → s.own j = (o : Int) → Srch adj m o 0 (s.see j) false s1 → Srch adj m i (j + 1) s1 b s' → Srch adj m i j s b s'
variable {adj : Nat → Nat → Prop} {m : Nat}
theorem Srch.mono {i j : Nat} {s s' : Ks} {b : Bool} (H : Srch adj m i j s b s') : ∀ k, s.seen k = true → s'.seen k = true := by
 induction H with
 | done _ => exact fun k h => h
 | skip _ _ _ ih => exact ih
 | free => intro k h; show (_ || _) = true; rw [h]; rfl
 | aug _ _ _ _ _ ih => intro k h; exact ih k (by show (_ || _) = true; rw [h]; rfl)
 | fail _ _ _ _ _ _ ih1 ih2 => intro k h; exact ih2 k (ih1 k (by show (_ || _) = true; rw [h]; rfl))
theorem Srch.own_seen {i j : Nat} {s s' : Ks} {b : Bool} (H : Srch adj m i j s b s') : ∀ k, s.seen k = true → s'.own k = s.own k := by
 induction H with
 | done _ => exact fun k _ => rfl
 | skip _ _ _ ih => exact ih
 | @free i j s hj ha hs ho => intro k h; show (if k = j then _ else _) = _; rw [if_neg (fun e => by subst e; rw [hs] at h; cases h)]; rfl
 | @aug i j o s s' hj ha hs ho hr ih =>
   intro k h
   show (if k = j then _ else _) = _
   rw [if_neg (fun e => by subst e; rw [hs] at h; cases h)]
   exact ih k (by show (_ || _) = true; rw [h]; rfl)
 | @fail i j o s s1 s' b _ _ _ _ h1 _ ih1 ih2 =>
   intro k h
   have h' : (s.see j).seen k = true := by show (_ || _) = true; rw [h]; rfl
   rw [ih2 k (h1.mono k h'), ih1 k h']; rfl
theorem Srch.same {i j : Nat} {s s' : Ks} {b : Bool} (H : Srch adj m i j s b s') : b = false → s'.own = s.own ∧ s'.back = s.back := by
 induction H with
 | done _ => exact fun _ => ⟨rfl, rfl⟩
 | skip _ _ _ ih => exact ih
 | free => intro h; cases h
 | aug => intro h; cases h
 | fail _ _ _ _ _ _ ih1 ih2 => intro h; obtain ⟨a, b⟩ := ih2 h; obtain ⟨c, d⟩ := ih1 rfl; exact ⟨a.trans c, b.trans d⟩
theorem Srch.shut {i j : Nat} {s s' : Ks} {b : Bool} (H : Srch adj m i j s b s') : b = false → (∀ k, j ≤ k → k < m → adj i k → s'.seen k = true) ∧
   ∀ k, s'.seen k = true → s.seen k = false → k < m ∧ ∃ o : Nat, s.own k = (o : Int) ∧ ∀ q, q < m → adj o q → s'.seen q = true := by
 induction H with
 | done h => intro _; exact ⟨fun k h1 h2 => by omega, fun k h1 h2 => by rw [h1] at h2; cases h2⟩
 | @skip i j s s' b hj ha hr ih =>
   intro hb
   obtain ⟨h1, h2⟩ := ih hb
   refine ⟨fun k hk hm hadj => ?_, h2⟩
   by_cases e : k = j
   · subst e; exact hr.mono k (ha hadj)
   · exact h1 k (by omega) hm hadj
 | free => intro h; cases h
 | aug => intro h; cases h
 | @fail i j o s s1 s' b hj ha hs ho hr1 hr2 ih1 ih2 =>
   intro hb
   obtain ⟨a1, a2⟩ := ih1 rfl
   obtain ⟨b1, b2⟩ := ih2 hb
   have hsee : (s.see j).seen j = true := by show (_ || _) = true; simp
   have hown := (hr1.same rfl).1
   refine ⟨fun k hk hm hadj => ?_, fun k h1 h2 => ?_⟩
   · by_cases e : k = j
     · subst e; exact hr2.mono k (hr1.mono k hsee)
     · exact b1 k (by omega) hm hadj
   · by_cases e1 : s1.seen k = true
     · by_cases e : k = j
       · subst e
         exact ⟨hj, o, ho, fun q hq hadj => hr2.mono q (a1 q (Nat.zero_le _) hq hadj)⟩
       · obtain ⟨c0, o', c1, c2⟩ := a2 k e1 (by show (_ || _) = false; rw [h2]; simp [e])
         exact ⟨c0, o', c1, fun q hq hadj => hr2.mono q (c2 q hq hadj)⟩
     · obtain ⟨c0, o', c1, c2⟩ := b2 k h1 (by simpa using e1)
       rw [hown] at c1
       exact ⟨c0, o', c1, c2⟩
structure Mat (adj : Nat → Nat → Prop) (m : Nat) (s : Ks) : Prop where
 back : ∀ x : Nat, 0 ≤ s.back x → ∃ k : Nat, s.back x = (k : Int) ∧ k < m ∧ s.own k = (x : Int) ∧ adj x k
 own : ∀ k : Nat, k < m → 0 ≤ s.own k → ∃ x : Nat, s.own k = (x : Int) ∧ s.back x = (k : Int)
structure Done (adj : Nat → Nat → Prop) (m : Nat) (i : Nat) (s s' : Ks) : Prop where
 back : ∀ x : Nat, 0 ≤ s'.back x → ∃ k : Nat, s'.back x = (k : Int) ∧ k < m ∧ s'.own k = (x : Int) ∧ adj x k
 own : ∀ k : Nat, k < m → 0 ≤ s'.own k → ∃ x : Nat, s'.own k = (x : Int) ∧ (s'.back x = (k : Int) ∨ (x = i ∧ s.back i = (k : Int)))
 new : ∃ k : Nat, s'.back i = (k : Int) ∧ s.seen k = false
 rest : ∀ x : Nat, x ≠ i → (0 ≤ s'.back x ↔ 0 ≤ s.back x) ∧ (s'.back x = s.back x ∨ ∃ k : Nat, s.back x = (k : Int) ∧ s.seen k = false)
theorem Srch.win {i j : Nat} {s s' : Ks} {b : Bool} (H : Srch adj m i j s b s') : b = true → Mat adj m s → (∀ k : Nat, s.back i = (k : Int) → s.seen k = true) → Done adj m i s s' := by
 induction H with
 | done _ => intro h; cases h
 | skip _ _ _ ih => exact ih
 | @free i j s hj ha hs ho =>
   intro _ M hi
   refine ⟨fun x hx => ?_, fun k hk hx => ?_, ⟨j, by show (if i = i then _ else _) = _; rw [if_pos rfl], hs⟩, fun x hx => ?_⟩
   · by_cases e : x = i
     · subst e
       refine ⟨j, by show (if x = x then _ else _) = _; rw [if_pos rfl], hj, by show (if j = j then _ else _) = _; rw [if_pos rfl], ha⟩
     · have eb : ((s.see j).give j i).back x = s.back x := by show (if x = i then _ else _) = _; rw [if_neg e]; rfl
       rw [eb] at hx ⊢
       obtain ⟨k, h1, h2, h3, h4⟩ := M.back x hx
       refine ⟨k, h1, h2, ?_, h4⟩
       show (if k = j then _ else _) = _
       rw [if_neg (fun e => by subst e; omega)]; exact h3
   · by_cases e : k = j
     · subst e
       exact ⟨i, by show (if k = k then _ else _) = _; rw [if_pos rfl], .inl (by show (if i = i then _ else _) = _; rw [if_pos rfl])⟩
     · have eo : ((s.see j).give j i).own k = s.own k := by show (if k = j then _ else _) = _; rw [if_neg e]; rfl
       rw [eo] at hx ⊢
       obtain ⟨x, h1, h2⟩ := M.own k hk hx
       refine ⟨x, h1, ?_⟩
       by_cases e2 : x = i
       · subst e2; exact .inr ⟨rfl, h2⟩
       · left; show (if x = i then _ else _) = _; rw [if_neg e2]; exact h2
   · have eb : ((s.see j).give j i).back x = s.back x := by show (if x = i then _ else _) = _; rw [if_neg hx]; rfl
     rw [eb]
     exact ⟨Iff.rfl, .inl rfl⟩
 | @aug i j o s s' hj ha hs ho hr ih =>
   intro _ M hi
   have hbo : s.back o = (j : Int) := by
     obtain ⟨x, h1, h2⟩ := M.own j hj (by omega)
     have : x = o := by omega
     subst this; exact h2
   have hio : i ≠ o := fun e => by subst e; have := hi j hbo; rw [hs] at this; cases this
   have M2 : Mat adj m (s.see j) := ⟨M.back, M.own⟩
   have D := ih rfl M2 (fun k hk => by
     have : k = j := by have : (s.see j).back o = s.back o := rfl; omega
     subst this; show (_ || _) = true; simp)
   have hownj : s'.own j = (o : Int) := by rw [hr.own_seen j (by show (_ || _) = true; simp)]; exact ho
   obtain ⟨j', hj', hns⟩ := D.new
   have hjj : j' ≠ j := fun e => by subst e; have : (s.see j').seen j' = true := by show (_ || _) = true; simp
                                    rw [this] at hns; cases hns
   have hbi : s'.back i = s.back i := by
     rcases (D.rest i hio).2 with h | ⟨k, h1, h2⟩
     · exact h
     · have h3 := hi k h1
       have : (s.see j).seen k = true := by show (_ || _) = true; rw [h3]; rfl
       rw [this] at h2; cases h2
   refine ⟨fun x hx => ?_, fun k hk hx => ?_, ⟨j, by show (if i = i then _ else _) = _; rw [if_pos rfl], hs⟩, fun x hx => ?_⟩
   · by_cases e : x = i
     · subst e
       exact ⟨j, by show (if x = x then _ else _) = _; rw [if_pos rfl], hj, by show (if j = j then _ else _) = _; rw [if_pos rfl], ha⟩
     · have eb : (s'.give j i).back x = s'.back x := by show (if x = i then _ else _) = _; rw [if_neg e]
       rw [eb] at hx ⊢
       obtain ⟨k, h1, h2, h3, h4⟩ := D.back x hx
       refine ⟨k, h1, h2, ?_, h4⟩
       show (if k = j then _ else _) = _
       rw [if_neg (fun e => by
         subst e
         have : x = o := by omega
         subst this; omega)]
       exact h3
   · by_cases e : k = j
     · subst e
       exact ⟨i, by show (if k = k then _ else _) = _; rw [if_pos rfl], .inl (by show (if i = i then _ else _) = _; rw [if_pos rfl])⟩
     · have eo : (s'.give j i).own k = s'.own k := by show (if k = j then _ else _) = _; rw [if_neg e]
       rw [eo] at hx ⊢
       obtain ⟨x, h1, h2⟩ := D.own k hk hx
       refine ⟨x, h1, ?_⟩
       rcases h2 with h2 | ⟨h2, h3⟩
       · by_cases e2 : x = i
         · subst e2; exact .inr ⟨rfl, by rw [← hbi]; exact h2⟩
         · left; show (if x = i then _ else _) = _; rw [if_neg e2]; exact h2
       · exfalso
         have : (s.see j).back o = s.back o := rfl
         omega
   · have eb : (s'.give j i).back x = s'.back x := by show (if x = i then _ else _) = _; rw [if_neg hx]
     rw [eb]
     by_cases e : x = o
     · subst e
       exact ⟨⟨fun _ => by omega, fun _ => by omega⟩, .inr ⟨j, hbo, hs⟩⟩
     · obtain ⟨h1, h2⟩ := D.rest x e
       refine ⟨h1, ?_⟩
       rcases h2 with h2 | ⟨k, h2, h3⟩
       · exact .inl h2
       · exact .inr ⟨k, h2, by have : (s.seen k || decide (k = j)) = false := h3; simp at this; exact this.1⟩
 | @fail i j o s s1 s' b hj ha hs ho hr1 hr2 ih1 ih2 =>
   intro hb M hi
   obtain ⟨e1, e2⟩ := hr1.same rfl
   have e1 : s1.own = s.own := e1
   have e2 : s1.back = s.back := e2
   have hm : ∀ k, s.seen k = true → s1.seen k = true := fun k h => hr1.mono k (by show (_ || _) = true; rw [h]; rfl)
   have D := ih2 hb ⟨by rw [e1, e2]; exact M.back, by rw [e1, e2]; exact M.own⟩ (fun k hk => hm k (hi k (by rw [← e2]; exact hk)))
   have hf : ∀ k, s1.seen k = false → s.seen k = false := fun k h => by
     cases h' : s.seen k with
     | false => rfl
     | true => rw [hm k h'] at h; cases h
   refine ⟨D.back, by have := D.own; rwa [e2] at this, ?_, fun x hx => ?_⟩
   · obtain ⟨k, h1, h2⟩ := D.new; exact ⟨k, h1, hf k h2⟩
   · obtain ⟨h1, h2⟩ := D.rest x hx
     rw [e2] at h1 h2
     refine ⟨h1, ?_⟩
     rcases h2 with h2 | ⟨k, h2, h3⟩
     · exact .inl h2
     · exact .inr ⟨k, h2, hf k h3⟩
def Dead (adj : Nat → Nat → Prop) (m : Nat) (own : Nat → Int) (D : Nat → Prop) : Prop := ∀ k, k < m → D k → ∃ o : Nat, own k = (o : Int) ∧ ∀ q, q < m → adj o q → D q
theorem Srch.lost {i j : Nat} {s s' : Ks} {b : Bool} (H : Srch adj m i j s b s') {D : Nat → Prop} : Dead adj m s.own D → (∀ q, q < m → adj i q → D q) → b = false := by
 induction H with
 | done _ => intro _ _; rfl
 | skip _ _ _ ih => exact ih
 | @free i j s hj ha hs ho => intro hD hi; obtain ⟨o, h, _⟩ := hD j hj (hi j hj ha); omega
 | @aug i j o s s' hj ha hs ho hr ih =>
   intro hD hi
   obtain ⟨o', h, h2⟩ := hD j hj (hi j hj ha)
   have : o' = o := by omega
   subst this
   exact ih hD h2
 | @fail i j o s s1 s' b hj ha hs ho hr1 hr2 ih1 ih2 =>
   intro hD hi
   have e1 : s1.own = s.own := (hr1.same rfl).1
   exact ih2 (by rw [e1]; exact hD) hi
theorem Srch.kept {i j : Nat} {s s' : Ks} {b : Bool} (H : Srch adj m i j s b s') {D : Nat → Prop} : Dead adj m s.own D → ∀ k, k < m → D k → s'.own k = s.own k := by
 induction H with
 | done _ => intro _ k _ _; rfl
 | skip _ _ _ ih => exact ih
 | @free i j s hj ha hs ho =>
   intro hD k hk hd
   obtain ⟨o, h, _⟩ := hD k hk hd
   show (if k = j then _ else _) = _
   rw [if_neg (fun e => by subst e; omega)]; rfl
 | @aug i j o s s' hj ha hs ho hr ih =>
   intro hD k hk hd
   show (if k = j then _ else _) = _
   rw [if_neg (fun e => by
     subst e
     obtain ⟨o', h, h2⟩ := hD k hk hd
     have : o' = o := by omega
     subst this
     have := hr.lost hD h2
     cases this)]
   exact ih hD k hk hd
 | @fail i j o s s1 s' b hj ha hs ho hr1 hr2 ih1 ih2 =>
   intro hD k hk hd
   have e1 : s1.own = s.own := (hr1.same rfl).1
   rw [ih2 (by rw [e1]; exact hD) k hk hd, e1]
structure Kuhn (adj : Nat → Nat → Prop) (m : Nat) (n : Nat) (s : Ks) (D : Nat → Prop) : Prop where
 mat : Mat adj m s
 dead : Dead adj m s.own D
 lost : ∀ x : Nat, x < n → s.back x < 0 → ∀ q, q < m → adj x q → D q
 rest : ∀ x : Nat, n ≤ x → s.back x < 0
 lt : ∀ k, D k → k < m
theorem Kuhn.start {s : Ks} (h1 : ∀ k, s.own k < 0) (h2 : ∀ x, s.back x < 0) : Kuhn adj m 0 s (fun _ => False) :=
 ⟨⟨fun x hx => by have := h2 x; omega, fun k _ hx => by have := h1 k; omega⟩, fun k _ h => h.elim, fun x hx => by omega, fun x _ => h2 x, fun k h => h.elim⟩
theorem Kuhn.step {n : Nat} {s s' : Ks} {D : Nat → Prop} {b : Bool} (K : Kuhn adj m n s D) (hs : ∀ k, s.seen k = false) (H : Srch adj m n 0 s b s') : ∃ D', Kuhn adj m (n + 1) s' D' ∧ (b = true ↔ 0 ≤ s'.back n) ∧ ∀ x : Nat, x ≠ n → (0 ≤ s'.back x ↔ 0 ≤ s.back x) := by
 have hn := K.rest n (Nat.le_refl _)
 cases hb : b with
 | false =>
   obtain ⟨e1, e2⟩ := H.same hb
   obtain ⟨a1, a2⟩ := H.shut hb
   refine ⟨fun k => D k ∨ s'.seen k = true, ⟨⟨by rw [e1, e2]; exact K.mat.back, by rw [e1, e2]; exact K.mat.own⟩, fun k hk hd => ?_, fun x hx hbx q hq hadj => ?_, fun x hx => ?_, fun k hd => ?_⟩, ?_, fun x _ => by rw [e2]⟩
   · rw [e1]
     rcases hd with hd | hd
     · obtain ⟨o, h1, h2⟩ := K.dead k hk hd; exact ⟨o, h1, fun q hq ha => .inl (h2 q hq ha)⟩
     · obtain ⟨_, o, h1, h2⟩ := a2 k hd (hs k); exact ⟨o, h1, fun q hq ha => .inr (h2 q hq ha)⟩
   · by_cases e : x = n
     · subst e; exact .inr (a1 q (Nat.zero_le _) hq hadj)
     · rw [e2] at hbx; exact .inl (K.lost x (by omega) hbx q hq hadj)
   · rw [e2]; exact K.rest x (by omega)
   · rcases hd with hd | hd
     · exact K.lt k hd
     · exact (a2 k hd (hs k)).1
   · rw [e2]; constructor
     · intro h; cases h
     · intro h; omega
 | true =>
   have W := H.win hb K.mat (fun k hk => by omega)
   have hk := H.kept K.dead
   obtain ⟨k0, h0, _⟩ := W.new
   refine ⟨D, ⟨⟨W.back, fun k hkm hx => ?_⟩, fun k hkm hd => ?_, fun x hx hbx => ?_, fun x hx => ?_, K.lt⟩, ⟨fun _ => by omega, fun _ => rfl⟩, fun x hx => (W.rest x hx).1⟩
   · obtain ⟨x, h1, h2⟩ := W.own k hkm hx
     rcases h2 with h2 | ⟨rfl, h2⟩
     · exact ⟨x, h1, h2⟩
     · omega
   · rw [hk k hkm hd]; exact K.dead k hkm hd
   · have hxn : x ≠ n := fun e => by subst e; omega
     have := (W.rest x hxn).1
     exact K.lost x (by omega) (by omega)
   · have := (W.rest x (by omega)).1
     have := K.rest x (by omega)
     omega
end Go.Sp
end
/- Matchings: whether all of some can have one each; Hall's condition. No program in sight. -/
section
set_option linter.all false
namespace Go.Sp
set_option maxRecDepth 100000
theorem hallK {adj : Nat → Nat → Prop} {m i : Nat} {s s' : Ks} (M : Mat adj m s) (hs : ∀ k, s.seen k = false) (hi : s.back i < 0) (H : Srch adj m i 0 s false s') {R : Nat → Prop} (Ri : R i) (hR : ∀ x : Nat, 0 ≤ s.back x → R x) {g : Nat → Nat}
   (hg : ∀ x, R x → g x < m ∧ adj x (g x)) (hinj : ∀ x y, R x → R y → g x = g y → x = y) : False := by
 obtain ⟨a1, a2⟩ := H.shut rfl
 let S := (List.range m).filter (fun k => s'.seen k)
 have hS : ∀ k, k ∈ S → k < m ∧ ∃ o : Nat, s.own k = (o : Int) ∧ R o ∧ s.back o = (k : Int) ∧ ∀ q, q < m → adj o q → s'.seen q = true := fun k hk => by
   simp only [S, List.mem_filter, List.mem_range] at hk
   obtain ⟨h0, o, h1, h2⟩ := a2 k hk.2 (hs k)
   obtain ⟨x, h3, h4⟩ := M.own k h0 (by omega)
   have : x = o := by omega
   subst this
   exact ⟨h0, x, h1, hR x (by omega), h4, h2⟩
 have hle := length_le_inj (l := i :: S.map (fun k => (s.own k).toNat)) (r := S) g (List.nodup_cons.2 ⟨fun hm => ?_, nodup_inj (List.Pairwise.filter _ List.nodup_range) (fun x hx y hy e => ?_)⟩) (fun x hx => ?_) (fun x hx y hy e => ?_)
 · rw [List.length_cons, List.length_map] at hle; omega
 · obtain ⟨k, hk, e⟩ := List.mem_map.1 hm
   obtain ⟨_, o, h1, _, h2, _⟩ := hS k hk
   have : o = i := by omega
   subst this; omega
 · obtain ⟨_, o, h1, _, h2, _⟩ := hS x hx
   obtain ⟨_, o', h3, _, h4, _⟩ := hS y hy
   have : o = o' := by omega
   subst this; omega
 · rcases List.mem_cons.1 hx with rfl | hx
   · obtain ⟨h1, h2⟩ := hg x Ri
     simp only [S, List.mem_filter, List.mem_range]; exact ⟨h1, a1 _ (Nat.zero_le _) h1 h2⟩
   · obtain ⟨k, hk, rfl⟩ := List.mem_map.1 hx
     obtain ⟨_, o, h1, h2, _, h3⟩ := hS k hk
     obtain ⟨h4, h5⟩ := hg o h2
     rw [h1, Int.toNat_natCast]
     simp only [S, List.mem_filter, List.mem_range]; exact ⟨h4, h3 _ h4 h5⟩
 · have inR : ∀ x, x ∈ i :: S.map (fun k => (s.own k).toNat) → R x := fun x hx => by
     rcases List.mem_cons.1 hx with rfl | hx
     · exact Ri
     · obtain ⟨k, hk, rfl⟩ := List.mem_map.1 hx
       obtain ⟨_, o, h1, h2, _⟩ := hS k hk
       rw [h1, Int.toNat_natCast]; exact h2
   exact hinj x y (inR x hx) (inR y hy) e
theorem Done.matK {adj : Nat → Nat → Prop} {m i : Nat} {s s' : Ks} (W : Done adj m i s s') (hi : s.back i < 0) : Mat adj m s' := by
 refine ⟨W.back, fun k hkm hx => ?_⟩
 obtain ⟨x, h1, h2⟩ := W.own k hkm hx
 rcases h2 with h2 | ⟨rfl, h2⟩
 · exact ⟨x, h1, h2⟩
 · omega
def InjK (adj : Nat → Nat → Prop) (m : Nat) (T : Nat → Prop) : Prop := ∃ g : Nat → Nat, (∀ k, T k → g k < m ∧ adj k (g k)) ∧ ∀ k k', T k → T k' → g k = g k' → k = k'
end Go.Sp
end
/- Plain laws, fog: valid reports, what a view is, contradictions, the sight. No program in sight. -/
section
set_option linter.all false
namespace Go.Sp
open Go.Av
set_option maxRecDepth 100000
structure RepOk (x : Report) : Prop where
 src : 1 ≤ x.Source ∧ x.Source ≤ 99999
 dist : 1 ≤ x.District ∧ x.District ≤ 9
 night : 0 ≤ x.Night ∧ x.Night ≤ 100000
 time : 0 ≤ x.From ∧ x.From ≤ x.To ∧ x.To ≤ 1439
 sight : 0 ≤ x.Sight.Lo ∧ x.Sight.Lo ≤ x.Sight.Hi ∧ x.Sight.Hi ≤ 5000
 known : 0 ≤ x.Known ∧ x.Known ≤ 144001439
 till : x.Until = 0 ∨ (x.Known < x.Until ∧ 0 ≤ x.Until ∧ x.Until ≤ 144001439)
theorem fwithin_iff {a b c : Int} : fog_within a b c = true ↔ b ≤ a ∧ a ≤ c := by simp [fog_within]
theorem frange_iff {r : Range} {c : Int} : fog_isRange r c = true ↔ 0 ≤ r.Lo ∧ r.Lo ≤ r.Hi ∧ r.Hi ≤ c := by simp [fog_isRange, and_assoc]
theorem fcheckReport_iff {x : Report} : fog_CheckReport x = 0 ↔ RepOk x := by
 have e : (bif (((((((!(fog_within x.Source 1 99999)) || (!(fog_isDistrict x.District))) || (!(fog_isNight x.Night))) || (!(fog_isRange (⟨x.From, x.To⟩ : Range) 1439))) || (!(fog_isRange x.Sight 5000))) || (!(fog_isMoment x.Known))) || ((!decide (x.Until = 0)) && ((decide (x.Until ≤ x.Known)) || (!(fog_isMoment x.Until))))) then (50 : Int) else 0) = 0 ↔ (((((((!(fog_within x.Source 1 99999)) || (!(fog_isDistrict x.District))) || (!(fog_isNight x.Night))) || (!(fog_isRange (⟨x.From, x.To⟩ : Range) 1439))) || (!(fog_isRange x.Sight 5000))) || (!(fog_isMoment x.Known))) || ((!decide (x.Until = 0)) && ((decide (x.Until ≤ x.Known)) || (!(fog_isMoment x.Until))))) = false := by
   generalize (((((((!(fog_within x.Source 1 99999)) || (!(fog_isDistrict x.District))) || (!(fog_isNight x.Night))) || (!(fog_isRange (⟨x.From, x.To⟩ : Range) 1439))) || (!(fog_isRange x.Sight 5000))) || (!(fog_isMoment x.Known))) || ((!decide (x.Until = 0)) && ((decide (x.Until ≤ x.Known)) || (!(fog_isMoment x.Until))))) = b
   cases b <;> simp
 unfold fog_CheckReport
 rw [e]
 simp only [fog_isDistrict, fog_isNight, fog_isMoment, Bool.or_eq_false_iff, Bool.and_eq_false_iff, Bool.not_eq_false', fwithin_iff, frange_iff, decide_eq_true_eq, decide_eq_false_iff_not]
 constructor
 · rintro ⟨⟨⟨⟨⟨⟨h1, h2⟩, h3⟩, h4⟩, h5⟩, h6⟩, h7⟩
   exact ⟨h1, h2, h3, h4, h5, h6, by rcases h7 with h7 | h7 <;> omega⟩
 · rintro ⟨h1, h2, h3, h4, h5, h6, h7⟩
   exact ⟨⟨⟨⟨⟨⟨h1, h2⟩, h3⟩, h4⟩, h5⟩, h6⟩, by omega⟩
def rp (l : List Report) (i : Nat) : Report := l.getD i default
structure RepsOk (l : List Report) : Prop where
 len : l.length ≤ 60
 all : ∀ i, i < l.length → RepOk (rp l i) ∧ (0 < i → (rp l (i - 1)).Source < (rp l i).Source)
theorem fcompare_nonneg (a b : Report) : 0 ≤ fog_compare a b ↔ b.Source ≤ a.Source := by
 unfold fog_compare cmp_Compare_int cmp_isNaN_int
 by_cases h1 : a.Source < b.Source
 · simp [h1]
 · by_cases h2 : b.Source < a.Source <;> simp [h1, h2] <;> omega
theorem fcheck_wp (l : List Report) : Wp (fog_Check l) (fun r => (RepsOk l ∧ r = 0) ∨ (¬ RepsOk l ∧ r = 51)) := by
 unfold fog_Check
 refine wp_ifd (fun h => wp_some (.inr ⟨fun V => by have := V.len; omega, rfl⟩)) (fun h => ?_)
 refine wp_forall (fun i => RepOk (rp l i) ∧ (0 < i → (rp l (i - 1)).Source < (rp l i).Source)) (fun i K hi _ hK => ?_) (fun h1 => wp_some (.inl ⟨⟨by omega, h1⟩, rfl⟩))
 refine wp_must (fun _ => by unfold inI; omega) ?_
 refine wp_must (fun h => by simp at h; omega) ?_
 have e : (((i : Int) - 1)).toNat = i - 1 := by omega
 rw [e]
 refine wp_bif (fun hb => wp_some (.inr ⟨fun V => ?_, rfl⟩)) (fun hb => ?_)
 · obtain ⟨a1, a2⟩ := V.all i hi
   unfold rp at a1 a2
   have a3 := fcheckReport_iff.2 a1
   simp only [a3, Bool.or_eq_true, Bool.and_eq_true, decide_eq_true_eq, Bool.not_eq_true', fcompare_nonneg] at hb
   rcases hb with hb | hb
   · simp at hb
   · have := a2 (by omega); omega
 · simp only [Bool.or_eq_false_iff, Bool.and_eq_false_iff, Bool.not_eq_false', decide_eq_true_eq, decide_eq_false_iff_not, fcompare_nonneg] at hb
   refine hK ⟨fcheckReport_iff.1 hb.1, fun h0 => ?_⟩
   unfold rp
   rcases hb.2 with h | h <;> omega
theorem fcheck_ok {l : List Report} (h : RepsOk l) : fog_Check l = some 0 := by
 obtain ⟨r, e, h1 | h1⟩ := fcheck_wp l
 · rw [e, h1.2]
 · exact absurd h h1.1
theorem fcheck_bad {l : List Report} (h : ¬ RepsOk l) : fog_Check l = some 51 := by
 obtain ⟨r, e, h1 | h1⟩ := fcheck_wp l
 · exact absurd h1.1 h
 · rw [e, h1.2]
theorem indexFunc_eq {T : Type} [Inhabited T] {p : T → Option Bool} {q : T → Bool} (hp : ∀ x, p x = some (q x)) (l : List T) :
   (rangeGo (fun i1 (s1 : Unit) k1 => bindO (p (l.getD i1 default)) fun y3 => (bif y3 then some (i1 : Int) else k1 ())) (fun (s1 : Unit) => some (-1)) l.length 0 () : Option Int) = some (match l.findIdx? q with | some i => (i : Int) | none => -1) := by
 refine (wp_forall (P := fun r => r = (match l.findIdx? q with | some i => (i : Int) | none => -1)) (fun i => q (l.getD i default) = false) (fun i K hi hb hK => ?_) (fun h1 => ?_)).eq
 · rw [hp]
   refine wp_bif (fun h => wp_some ?_) (fun h => hK h)
   have : l.findIdx? q = some i := by
     rw [List.findIdx?_eq_some_iff_getElem]
     refine ⟨hi, ?_, fun j hj => ?_⟩
     · rw [List.getD_eq_getElem?_getD, List.getElem?_eq_getElem hi] at h; exact h
     · have := hb j hj
       rw [List.getD_eq_getElem?_getD, List.getElem?_eq_getElem (by omega)] at this
       simpa using this
   rw [this]
 · refine wp_some ?_
   have : l.findIdx? q = none := by
     rw [List.findIdx?_eq_none_iff]
     intro x hx
     obtain ⟨i, hi, rfl⟩ := mem_getD hx
     exact h1 i hi
   rw [this]
theorem take_set_le {T : Type} {l : List T} {i : Nat} {x : T} (h : i < l.length) : (l.set i x).take (i + 1) = l.take i ++ [x] := by
 rw [List.take_add_one, List.getElem?_set_self h, List.take_set_of_le (Nat.le_refl _)]; rfl
theorem take_copyAt {T : Type} [Inhabited T] (l : List T) (a m : Nat) (f : Nat → T) (h : a ≤ l.length) : (copyAt l a m f).take a = l.take a := by
 refine ext_getD (by simp [copyAt]) (fun i hi => ?_)
 have hi' : i < a := by simp [copyAt] at hi; omega
 rw [getD_take, getD_take, if_pos hi', if_pos hi']
 unfold copyAt
 rw [List.getD_eq_getElem?_getD, List.getElem?_map, List.getElem?_range (by omega)]
 simp only [Option.map_some, Option.getD_some]
 rw [if_neg (by omega)]
theorem drop_getD {T : Type} [Inhabited T] {l : List T} {i : Nat} (h : i < l.length) : l.drop i = l.getD i default :: l.drop (i + 1) := by
 rw [List.getD_eq_getElem?_getD, List.getElem?_eq_getElem h]; exact List.drop_eq_getElem_cons h
theorem take_getD {T : Type} [Inhabited T] {l : List T} {i : Nat} (h : i < l.length) : l.take (i + 1) = l.take i ++ [l.getD i default] := by
 rw [List.take_add_one, List.getD_eq_getElem?_getD, List.getElem?_eq_getElem h]; rfl
theorem deleteFunc_eq {T : Type} [Inhabited T] (z : T) {p : T → Option Bool} {q : T → Bool} (hp : ∀ x, p x = some (q x)) (l : List T) (fuel : Nat) (hf : l.length < fuel) (hl : l.length < 9223372036854775807) :
   (bindO (rangeGo (fun i1 (s1 : Unit) k1 => bindO (p (l.getD i1 default)) fun y3 => (bif y3 then some (i1 : Int) else k1 ())) (fun (s1 : Unit) => some (-1)) l.length 0 () : Option Int) fun y1 => (bif (decide (y1 = (-1))) then some l else must (inI (y1 + 1)) <| (loopGo (fun (s5 : Int × Int × (List T)) k5 => (bif (decide (s5.2.1 < ((s5.2.2.length : Nat) : Int))) then must (0 ≤ (s5.2.1 : Int) ∧ (s5.2.1 : Int) < ((s5.2.2.length : Nat) : Int)) <| bindO (p (s5.2.2.getD (s5.2.1).toNat default)) fun y8 => (bif (!y8) then must (0 ≤ (s5.1 : Int) ∧ (s5.1 : Int) < ((s5.2.2.length : Nat) : Int)) <| must (inI (s5.1 + 1)) <| must (inI (s5.2.1 + 1)) <| k5 ((s5.1 + 1), (s5.2.1 + 1), (s5.2.2.set (s5.1).toNat (s5.2.2.getD (s5.2.1).toNat default))) else must (inI (s5.2.1 + 1)) <| k5 (s5.1, (s5.2.1 + 1), s5.2.2)) else must (0 < s5.2.2.length ∧ 0 ≤ (s5.1 : Int) ∧ (s5.1 : Int) ≤ ((s5.2.2.length : Nat) : Int)) <| must (0 < (copyAt s5.2.2 ((s5.1).toNat) (s5.2.2.length - (s5.1).toNat) (fun _ => z)).length ∧ 0 ≤ (s5.1 : Int) ∧ (s5.1 : Int) ≤ (((copyAt s5.2.2 ((s5.1).toNat) (s5.2.2.length - (s5.1).toNat) (fun _ => z)).length : Nat) : Int)) <| some ((copyAt s5.2.2 ((s5.1).toNat) (s5.2.2.length - (s5.1).toNat) (fun _ => z)).take ((s5.1).toNat)))) fuel (y1, (y1 + 1), l))) : Option (List T)) = some (l.filter (fun x => !q x)) := by
 rw [indexFunc_eq hp l]
 refine Wp.eq (wp_bindE rfl ?_)
 cases hi : l.findIdx? q with
 | none =>
   rw [List.findIdx?_eq_none_iff] at hi
   refine wp_true (by simp) (wp_some ?_)
   exact (List.filter_eq_self.2 (fun x hx => by rw [hi x hx]; rfl)).symm
 | some i =>
   rw [List.findIdx?_eq_some_iff_getElem] at hi
   obtain ⟨h1, h2, h3⟩ := hi
   refine wp_false (by simp) (wp_mustI (by simp only; omega) ?_)
   refine wp_loop (fun s => ∃ a b : Nat, s.1 = (a : Int) ∧ s.2.1 = (b : Int) ∧ a < b ∧ b ≤ l.length ∧ s.2.2.length = l.length ∧ s.2.2.take a = (l.take b).filter (fun x => !q x) ∧ s.2.2.drop b = l.drop b) (fun s => l.length - s.2.1.toNat) (by simp only; omega) ⟨i, i + 1, rfl, by simp, by omega, by omega, rfl, ?_, rfl⟩ ?_
   · rw [take_getD h1, List.filter_append]
     have e1 : (l.take i).filter (fun x => !q x) = l.take i := List.filter_eq_self.2 (fun x hx => by
       obtain ⟨j, hj, rfl⟩ := List.getElem_of_mem hx
       have hj' : j < i := by simp at hj; omega
       have := h3 j hj'
       simp only [List.getElem_take]
       simpa using this)
     have e2 : q (l.getD i default) = true := by rw [List.getD_eq_getElem?_getD, List.getElem?_eq_getElem h1]; exact h2
     rw [e1]; simp [e2, -List.getD_eq_getElem?_getD]
   · rintro ⟨s1, s2, s3⟩ K ⟨a, b, rfl, rfl, hab, hb, hlen, ht, hd⟩ hK
     simp only at hK ht hd hlen ⊢
     refine wp_ifd (fun hlt => ?_) (fun hge => ?_)
     · have hbl : b < l.length := by omega
       refine wp_must (by omega) ?_
       rw [hp]
       simp only [Int.toNat_natCast]
       have ex : s3.getD b default = l.getD b default := by
         have := drop_getD (l := s3) (i := b) (by omega)
         rw [hd, drop_getD hbl] at this
         exact (List.cons.inj this).1.symm
       have hd1 : s3.drop (b + 1) = l.drop (b + 1) := by
         have := drop_getD (l := s3) (i := b) (by omega)
         rw [hd, drop_getD hbl] at this
         exact (List.cons.inj this).2.symm
       refine wp_bindE rfl ?_
       rw [ex]
       refine wp_bif (fun hq => ?_) (fun hq => ?_)
       · refine wp_must (by omega) (wp_mustI (by omega) (wp_mustI (by omega) ?_))
         refine hK _ ⟨a + 1, b + 1, by simp, by simp, by omega, by omega, by simp [hlen], ?_, ?_⟩ (by simp only; omega)
         · rw [take_set_le (by omega), ht, take_getD hbl, List.filter_append]
           simp only [Bool.not_eq_true'] at hq
           simp [hq, -List.getD_eq_getElem?_getD]
         · rw [List.drop_set_of_lt (by omega)]; exact hd1
       · refine wp_mustI (by omega) (hK _ ⟨a, b + 1, rfl, by simp, by omega, by omega, hlen, ?_, hd1⟩ (by simp only; omega))
         rw [ht, take_getD hbl, List.filter_append]
         simp only [Bool.not_eq_false'] at hq
         simp [hq, -List.getD_eq_getElem?_getD]
     · refine wp_must (by omega) (wp_must ?_ (wp_some ?_))
       · rw [length_copyAt]; omega
       · simp only [Int.toNat_natCast]
         rw [take_copyAt _ _ _ _ (by omega), ht, List.take_of_length_le (by omega)]
def seen (d n m : Int) (x : Report) : Bool := (decide (x.District = d) && decide (x.Night = n)) && fog_counts x m
def seeL (l : List Report) (d n m : Int) : List Report := l.filter (seen d n m)
theorem fsee_eq (fuel : Nat) (l : List Report) (d n m : Int) (h : l.length ≤ 60) (hf : 60 < fuel) : fog_see fuel l d n m = some (seeL l d n m) := by
 unfold fog_see slices_Clone_Report
 refine Wp.eq (wp_bind (Q := fun r => r = l) (wp_mustR (by simp; omega) (wp_some (by simp))) ?_)
 rintro s rfl
 have e := deleteFunc_eq (⟨0, 0, 0, 0, 0, (⟨0, 0⟩ : Range), 0, 0⟩ : Report) (p := fun x0 => some (fog_see_1 x0 d n m)) (q := fun x => fog_see_1 x d n m) (fun _ => rfl) s fuel (by omega) (by omega)
 refine wp_bindE (v := s.filter (fun x => !fog_see_1 x d n m)) e (wp_some ?_)
 unfold seeL
 congr 1
 funext x
 unfold fog_see_1 seen
 cases decide (x.District = d) <;> cases decide (x.Night = n) <;> cases fog_counts x m <;> rfl
def pairL : List Report → Option (Report × Report)
 | [] => none
 | a :: l => match l.find? (fun b => fog_clash a b) with
   | some b => some (a, b)
   | none => pairL l
def pairR (l : List Report) : List Int × Bool := match pairL l with
 | some (a, b) => ([a.Source, b.Source], true)
 | none => ([], false)
theorem find_range {T R : Type} [Inhabited T] {l : List T} {q : T → Bool} {body : Nat → Unit → (Unit → Option R) → Option R} {ex : Unit → Option R} (f : T → Option R)
   (hb : ∀ (i : Nat) (K : Option R), i < l.length → body i () (fun _ => K) = bif q (l.getD i default) then f (l.getD i default) else K) :
   rangeGo body ex l.length 0 () = match l.find? q with | some x => f x | none => ex () := by
 have go : ∀ (m i : Nat), i + m = l.length → rangeGo body ex m i () = match (l.drop i).find? q with | some x => f x | none => ex () := by
   intro m
   induction m with
   | zero => intro i hi; rw [List.drop_of_length_le (by omega)]; rfl
   | succ m ih =>
     intro i hi
     have e : rangeGo body ex (m + 1) i () = body i () (fun u => rangeGo body ex m (i + 1) u) := rfl
     have e2 : (fun u => rangeGo body ex m (i + 1) u) = fun _ => rangeGo body ex m (i + 1) () := by funext u; rfl
     rw [e, e2, hb i _ (by omega), drop_getD (by omega : i < l.length), List.find?_cons, ih (i + 1) (by omega)]
     cases q (l.getD i default) <;> rfl
 have := go l.length 0 (by omega)
 rw [List.drop_zero] at this
 exact this
theorem fpair_eq (l : List Report) (hl : l.length ≤ 9223372036854775807) : fog_view__pair l = some (pairR l) := by
 unfold fog_view__pair
 have go : ∀ (m i : Nat), i + m = l.length → rangeGo (fun i1 (s1 : Unit) k1 => must ((0 : Int) ≤ ((i1 : Int) + 1) ∧ (((i1 : Int) + 1) : Int) ≤ ((l.length : Nat) : Int)) <| (rangeGo (fun i4 (s4 : Unit) k4 => (bif (fog_clash (l.getD i1 default) ((l.drop (((i1 : Int) + 1)).toNat).getD i4 default)) then some (([(l.getD i1 default).Source, ((l.drop (((i1 : Int) + 1)).toNat).getD i4 default).Source] : List Int), true) else k4 ())) (fun (s4 : Unit) => k1 ()) ((l.drop (((i1 : Int) + 1)).toNat).length) 0 ())) (fun (s1 : Unit) => some ([], false)) m i () = some (pairR (l.drop i)) := by
   intro m
   induction m with
   | zero => intro i hi; rw [List.drop_of_length_le (by omega)]; rfl
   | succ m ih =>
     intro i hi
     have hlt : i < l.length := by omega
     conv => lhs; unfold rangeGo
     have et : ((i : Int) + 1).toNat = i + 1 := by omega
     rw [must_yes (by omega), et, ih (i + 1) (by omega)]
     rw [find_range (l := l.drop (i + 1)) (q := fun b => fog_clash (l.getD i default) b) (fun b => some ([(l.getD i default).Source, b.Source], true)) (fun j K _ => rfl)]
     rw [drop_getD hlt]
     conv => rhs; unfold pairR pairL
     cases (l.drop (i + 1)).find? (fun b => fog_clash (l.getD i default) b) with
     | none => rfl
     | some b => rfl
 have := go l.length 0 (by omega)
 rw [List.drop_zero] at this
 exact this
theorem pairR_two (l : List Report) : (pairR l).2 = (pairL l).isSome := by
 unfold pairR; cases pairL l <;> rfl
def atMin (m : Int) (x : Report) : Bool := fog_within m x.From x.To
def nar (r : Range) (x : Report) : Range := ⟨max r.Lo x.Sight.Lo, min r.Hi x.Sight.Hi⟩
def sightL (v : List Report) (m : Int) : Range := (v.filter (atMin m)).foldl nar ⟨0, 5000⟩
theorem fsight_eq (v : List Report) (m : Int) : fog_view__sight v m = some (sightL v m) := by
 unfold fog_view__sight fog_view__of_1
 rw [emit_range (fun i => atMin m (v.getD i default)) (fun i => v.getD i default) (fun i r _ => rfl)]
 have e : ((List.range' 0 v.length).filter (fun i => atMin m (v.getD i default))).map (fun i => v.getD i default) = v.filter (atMin m) := by
   rw [show (fun i => atMin m (v.getD i default)) = atMin m ∘ (fun i => v.getD i default) from rfl, ← List.filter_map]
   congr 1
   refine List.ext_getElem (by simp) (fun i h1 h2 => ?_)
   simp [List.getElem?_eq_getElem h2]
 rw [e]
 show listGo _ _ (v.filter (atMin m)) _ = _
 unfold sightL
 generalize (⟨0, 5000⟩ : Range) = r
 induction v.filter (atMin m) generalizing r with
 | nil => rfl
 | cons x l ih => exact ih (nar r x)
end Go.Sp
end
/- Plain laws, fog: what is told of a clear district. No program in sight. -/
section
set_option linter.all false
namespace Go.Sp
open Go.Av
set_option maxRecDepth 100000
def argOk (q : fog_query) : Prop := 1 ≤ q.district ∧ q.district ≤ 9 ∧ 0 ≤ q.minute ∧ q.minute ≤ 1439 ∧ 0 ≤ q.time.Lo ∧ q.time.Lo ≤ q.time.Hi ∧ q.time.Hi ≤ 1439 ∧ 1 ≤ q.limit ∧ q.limit ≤ 5000
def dayOk (n m : Int) : Prop := 0 ≤ n ∧ n ≤ 100000 ∧ 0 ≤ m ∧ m ≤ 144001439
instance (q : fog_query) : Decidable (argOk q) := inferInstanceAs (Decidable (_ ∧ _))
instance (n m : Int) : Decidable (dayOk n m) := inferInstanceAs (Decidable (_ ∧ _))
end Go.Sp
end
/- Plain laws, fog: the document's tests, views, contradictions and sights. No program in sight. -/
section
set_option linter.all false
namespace Go.Sp
open Go.Av
set_option maxRecDepth 100000
end Go.Sp
end
/- Plain laws, fog: FogSights, FogClashes. No program in sight. -/
section
set_option linter.all false
namespace Go.Sp
open Go.Av
set_option maxRecDepth 100000
theorem sane_ok : gasolierlaw05_sane 20000 = some true := by kernel_rfl
theorem index_eq (l : List Int) (n : Int) : slices_Index_int l n = some (match l.findIdx? (fun x => decide (n = x)) with | some i => (i : Int) | none => -1) := by
 unfold slices_Index_int
 exact indexFunc_eq (p := fun x => some (decide (n = x))) (fun _ => rfl) l
theorem contains_eq (l : List Int) (n : Int) : slices_Contains_int l n = some (decide (n ∈ l)) := by
 unfold slices_Contains_int
 rw [index_eq]
 cases h : l.findIdx? (fun x => decide (n = x)) with
 | none =>
   rw [List.findIdx?_eq_none_iff] at h
   refine congrArg some ?_
   rw [decide_eq_false (by decide), decide_eq_false (fun hm => ?_)]
   have := h n hm; simp at this
 | some i =>
   rw [List.findIdx?_eq_some_iff_getElem] at h
   obtain ⟨h1, h2, _⟩ := h
   refine congrArg some ?_
   simp only
   rw [decide_eq_true (by omega), decide_eq_true]
   simp only [decide_eq_true_eq] at h2
   rw [h2]; exact List.getElem_mem h1
end Go.Sp
end
/- Plain laws, fog: reports that are made, FogTrue, FogShown. No program in sight. -/
section
set_option linter.all false
namespace Go.Sp
open Go.Av
set_option maxRecDepth 100000
theorem wrapI_of {n : Int} (h : -9223372036854775808 ≤ n ∧ n ≤ 9223372036854775807) : wrapI n = n := by
 unfold wrapI
 split <;> omega
theorem mod5_eq (n : Int) {m : Int} (h0 : 0 < m) (h1 : m ≤ 1000000000000000000) : ∃ y, gasolierref05_Mod n m = some y ∧ 0 ≤ y ∧ y < m := by
 unfold gasolierref05_Mod
 have a1 := Int.tmod_lt_of_pos n h0
 have a2 : -m < Int.tmod n m := Int.lt_tmod_of_pos n h0
 rw [must_yes (by omega), must_yes (by unfold inI; omega), must_yes (by omega)]
 refine ⟨_, rfl, ?_, Int.tmod_lt_of_pos _ h0⟩
 exact Int.tmod_nonneg _ (by omega)
theorem mod5_zero {m : Int} (h0 : 0 < m) (h1 : m ≤ 1000000000000000000) : gasolierref05_Mod 0 m = some 0 := by
 unfold gasolierref05_Mod
 rw [must_yes (by omega), must_yes (by unfold inI; simp; omega), must_yes (by omega)]
 simp
theorem tdiv_small {m k : Int} (hk : 0 < k) (hm : -100000 ≤ m ∧ m ≤ 100000) : -100000 ≤ Int.tdiv m k ∧ Int.tdiv m k ≤ 100000 := by
 rcases Int.le_total 0 m with h | h
 · rw [Int.tdiv_eq_ediv_of_nonneg h]
   have := Int.ediv_nonneg h (Int.le_of_lt hk)
   have := Int.ediv_le_self k h
   omega
 · obtain ⟨n, rfl⟩ : ∃ n, m = -n := ⟨-m, by omega⟩
   have hn : 0 ≤ n := by omega
   rw [Int.neg_tdiv, Int.tdiv_eq_ediv_of_nonneg hn]
   have := Int.ediv_nonneg hn (Int.le_of_lt hk)
   have := Int.ediv_le_self k hn
   omega
theorem num_eq (l : List Int) (hl : l.length ≤ 1000000000000000000) (i : Int) : ∃ y, gasolierref05_Num l i = some y := by
 unfold gasolierref05_Num
 by_cases h : (l.length : Int) = 0
 · rw [decide_eq_true h]; exact ⟨0, rfl⟩
 · obtain ⟨y, e, h1, h2⟩ := mod5_eq i (m := (l.length : Int)) (by omega) (by omega)
   rw [decide_eq_false h, e]
   exact ⟨_, must_yes (by omega) _⟩
theorem true_ex (l : List Int) (hl : l.length ≤ 1000000000000000000) {d m : Int} (hd : 0 ≤ d ∧ d ≤ 100) (hm : -100000 ≤ m ∧ m ≤ 100000) : ∃ s, gasolierref05_True l d m = some s ∧ 0 ≤ s ∧ s < 900 := by
 unfold gasolierref05_True
 have h1 := tdiv_small (k := 90) (by omega) hm
 have h2 := tdiv_small (k := 60) (by omega) hm
 obtain ⟨y, e⟩ := num_eq l hl (wrapI (d + Int.tdiv m 90))
 rw [must_yes (by unfold inI; omega), e]
 simp only [bindO]
 rw [must_yes (by unfold inI; omega)]
 obtain ⟨z, e2, z1, z2⟩ := mod5_eq (wrapI (y + Int.tdiv m 60)) (m := 900) (by omega) (by omega)
 rw [e2]; exact ⟨z, rfl, z1, z2⟩
def tr (l : List Int) (d m : Int) : Int := (gasolierref05_True l d m).getD 0
theorem true_eq (l : List Int) (hl : l.length ≤ 1000000000000000000) {d m : Int} (hd : 0 ≤ d ∧ d ≤ 100) (hm : -100000 ≤ m ∧ m ≤ 100000) : gasolierref05_True l d m = some (tr l d m) ∧ 0 ≤ tr l d m ∧ tr l d m < 900 := by
 obtain ⟨s, e, h1, h2⟩ := true_ex l hl hd hm
 unfold tr; rw [e]; exact ⟨rfl, h1, h2⟩
theorem reach_wp {fuel : Nat} (l : List Int) (hl : l.length ≤ 1000000000000000000) {d a b : Int} (hd : 0 ≤ d ∧ d ≤ 100) (ha : 0 ≤ a ∧ a ≤ b ∧ b ≤ 2000) (hf : 2001 < fuel) :
   Wp (gasolierref05_reach fuel l d a b) (fun r => 0 ≤ r.Lo ∧ r.Lo ≤ r.Hi ∧ r.Hi < 900 ∧ ∀ m : Int, a ≤ m → m ≤ b → r.Lo ≤ tr l d m ∧ tr l d m ≤ r.Hi) := by
 unfold gasolierref05_reach
 refine wp_loop (fun s => a ≤ s.1 ∧ s.1 ≤ b + 1 ∧ 0 ≤ s.2.Lo ∧ 0 ≤ s.2.Hi ∧ s.2.Hi < 900 ∧ (s.1 = a ∨ s.2.Lo ≤ s.2.Hi) ∧ ∀ m : Int, a ≤ m → m < s.1 → s.2.Lo ≤ tr l d m ∧ tr l d m ≤ s.2.Hi) (fun s => (b + 1 - s.1).toNat) (by simp only; omega)
   ⟨by simp, by simp only; omega, by simp, by simp, by simp, .inl rfl, fun m h1 h2 => by simp only at h2; omega⟩ ?_
 rintro ⟨m0, r⟩ K ⟨i1, i2, i3, i4, i5, i6, i7⟩ hK
 simp only at i1 i2 i3 i4 i5 i6 i7 hK ⊢
 refine wp_ifd (fun hle => ?_) (fun hgt => wp_some ⟨i3, by omega, i5, fun m h1 h2 => i7 m h1 (by omega)⟩)
 obtain ⟨e, h1, h2⟩ := true_eq l hl hd (m := m0) (by omega)
 refine wp_bindE e (wp_mustI (by omega) (hK _ ⟨by simp only; omega, by simp only; omega, by simp only; omega, by simp only; omega, by simp only; omega, .inr (by simp only; omega), fun m q1 q2 => ?_⟩ (by simp only; omega)))
 simp only at q2 ⊢
 by_cases em : m = m0
 · subst em; omega
 · have := i7 m q1 (by omega); omega
structure Fine (i : Nat) (r : Report) : Prop where
 src : r.Source = 4 * (i : Int) + 3
 dist : 1 ≤ r.District ∧ r.District ≤ 3
 night : r.Night = 3 ∨ r.Night = 4
 from_ : 0 ≤ r.From ∧ r.From ≤ 1299
 to_ : r.From ≤ r.To ∧ r.To ≤ 1437
 sight : 0 ≤ r.Sight.Lo ∧ r.Sight.Lo ≤ r.Sight.Hi ∧ r.Sight.Hi ≤ 5000
 known : 4320 ≤ r.Known ∧ r.Known ≤ 5759
 till : r.Until = 0 ∨ r.Known < r.Until ∧ r.Until ≤ 7000
def Just (l : List Int) (r : Report) : Prop := r.Night = 3 ∧ r.Until = 0 ∧ ∀ m : Int, r.From ≤ m → m ≤ r.To → r.Sight.Lo ≤ tr l r.District m ∧ tr l r.District m ≤ r.Sight.Hi
theorem made_wp {fuel : Nat} (hf : 2001 < fuel) (p : List (Arr7 Int)) (l : List Int) (hl : l.length ≤ 1000000000000000000) :
   Wp (gasolierref05_Made fuel p l) (fun x => x.length ≤ 12 ∧ x.length ≤ p.length ∧ ∀ i, i < x.length → Fine i (rp x i) ∧ ((p.getD i default).x6 = 0 → Just l (rp x i))) := by
 unfold gasolierref05_Made
 refine wp_for 12 (by omega) (fun i x => x.length = i ∧ i ≤ p.length ∧ ∀ j, j < i → Fine j (rp x j) ∧ ((p.getD j default).x6 = 0 → Just l (rp x j))) ⟨rfl, by omega, fun j hj => by omega⟩ (fun i x K hi hI hK => ?_)
 obtain ⟨hlen, hip, hall⟩ := hI
 simp only at hK ⊢
 refine wp_if (p := (i : Int) < (p.length : Int) ∧ (i : Int) < 12) (by simp) (fun h => ?_) (fun h => wp_some ⟨by omega, by omega, fun j hj => hall j (by omega)⟩)
 simp only [Int.toNat_natCast]
 generalize hq : p.getD i default = q at *
 have ew : wrapI (4 * (i : Int)) = 4 * (i : Int) := wrapI_of (by omega)
 refine wp_must (by omega) ?_
 rw [ew]
 refine wp_mustI (by omega) ?_
 obtain ⟨a, ea, a1, a2⟩ := mod5_eq q.x0 (m := 3) (by omega) (by omega)
 obtain ⟨b, eb, b1, b2⟩ := mod5_eq q.x1 (m := 1300) (by omega) (by omega)
 obtain ⟨c, ec, c1, c2⟩ := mod5_eq q.x2 (m := 139) (by omega) (by omega)
 obtain ⟨d, ed, d1, d2⟩ := mod5_eq q.x3 (m := 300) (by omega) (by omega)
 obtain ⟨e, ee, e1, e2⟩ := mod5_eq q.x4 (m := 300) (by omega) (by omega)
 obtain ⟨f, ef, f1, f2⟩ := mod5_eq q.x6 (m := 7) (by omega) (by omega)
 obtain ⟨g, eg, g1, g2⟩ := mod5_eq q.x3 (m := 600) (by omega) (by omega)
 obtain ⟨o, eo, o1, o2⟩ := mod5_eq q.x4 (m := 60) (by omega) (by omega)
 obtain ⟨s, es, s1, s2⟩ := mod5_eq q.x6 (m := 11) (by omega) (by omega)
 obtain ⟨t, et, t1, t2⟩ := mod5_eq q.x5 (m := 1440) (by omega) (by omega)
 obtain ⟨u, eu, u1, u2⟩ := mod5_eq q.x6 (m := 5) (by omega) (by omega)
 obtain ⟨v, ev, v1, v2⟩ := mod5_eq (wrapI (q.x5 * 7)) (m := 600) (by omega) (by omega)
 have hzero : q.x6 = 0 → f = 0 ∧ s = 0 ∧ u = 0 := fun hz => by
   rw [hz, mod5_zero (by omega) (by omega)] at ef es eu
   exact ⟨(Option.some.inj ef).symm, (Option.some.inj es).symm, (Option.some.inj eu).symm⟩
 refine wp_bindE ea (wp_mustI (by omega) (wp_bindE eb (wp_bindE ec (wp_mustI (by omega) (wp_bind (reach_wp l hl (d := 1 + a) (a := b) (b := b + c) (by omega) (by omega) hf) (fun r hr => ?_))))))
 obtain ⟨r1, r2, r3, r4⟩ := hr
 refine wp_bindE ed (wp_mustI (by omega) (wp_bindE ee (wp_mustI (by omega) (wp_bindE ef ?_))))
 refine wp_join (fun z : Report => z.Source = 4 * (i : Int) + 3 ∧ z.District = 1 + a ∧ z.Night = 3 ∧ z.From = b ∧ z.To = b + c ∧ z.Known = 0 ∧ z.Until = 0 ∧ (0 ≤ z.Sight.Lo ∧ z.Sight.Lo ≤ z.Sight.Hi ∧ z.Sight.Hi ≤ 5000) ∧ (f ≠ 6 → ∀ m : Int, b ≤ m → m ≤ b + c → z.Sight.Lo ≤ tr l (1 + a) m ∧ tr l (1 + a) m ≤ z.Sight.Hi)) (fun K2 hK2 => ?_) (fun z hz => ?_)
 · refine wp_ifd (fun h6 => ?_) (fun h6 => ?_)
   · exact wp_bindE eg (wp_bindE eg (wp_bindE eo (wp_mustI (by omega) (hK2 _ ⟨rfl, rfl, rfl, rfl, rfl, rfl, rfl, ⟨by simp only; omega, by simp only; omega, by simp only; omega⟩, fun h => absurd h6 h⟩))))
   · refine hK2 _ ⟨rfl, rfl, rfl, rfl, rfl, rfl, rfl, ⟨by simp only; omega, by simp only; omega, by simp only; omega⟩, fun _ m m1 m2 => ?_⟩
     have := r4 m m1 m2
     simp only; omega
 obtain ⟨z1, z2, z3, z4, z5, z6, z7, z8, z9⟩ := hz
 refine wp_bindE es ?_
 refine wp_join (fun y : Report => y.Source = z.Source ∧ y.District = z.District ∧ (y.Night = 3 ∨ y.Night = 4) ∧ (s ≠ 10 → y.Night = 3) ∧ y.From = z.From ∧ y.To = z.To ∧ y.Sight = z.Sight ∧ y.Until = 0) (fun K2 hK2 => ?_) (fun y hy => ?_)
 · refine wp_ifd (fun h6 => ?_) (fun h6 => ?_)
   · exact hK2 _ ⟨rfl, rfl, .inr rfl, fun h => absurd h6 h, rfl, rfl, rfl, z7⟩
   · exact hK2 _ ⟨rfl, rfl, .inl z3, fun _ => z3, rfl, rfl, rfl, z7⟩
 obtain ⟨y1, y2, y3, y4, y5, y6, y7, y8⟩ := hy
 refine wp_bindE et (wp_mustI (by omega) (wp_bindE eu ?_))
 refine wp_join (fun x' : Report => x'.Source = y.Source ∧ x'.District = y.District ∧ x'.Night = y.Night ∧ x'.From = y.From ∧ x'.To = y.To ∧ x'.Sight = y.Sight ∧ x'.Known = 4320 + t ∧ (x'.Until = 0 ∨ x'.Known < x'.Until ∧ x'.Until ≤ 7000) ∧ (u ≠ 4 → x'.Until = 0)) (fun K2 hK2 => ?_) (fun x' hx' => ?_)
 · refine wp_ifd (fun h6 => ?_) (fun h6 => ?_)
   · exact wp_mustI (by omega) (wp_bindE ev (wp_mustI (by omega) (hK2 _ ⟨rfl, rfl, rfl, rfl, rfl, rfl, rfl, .inr ⟨by simp only; omega, by simp only; omega⟩, fun h => absurd h6 h⟩)))
   · exact hK2 _ ⟨rfl, rfl, rfl, rfl, rfl, rfl, rfl, .inl y8, fun _ => y8⟩
 obtain ⟨x1, x2, x3, x4, x5, x6, x7, x8, x9⟩ := hx'
 refine wp_mustR (by simp; omega) (wp_mustI (by omega) (hK _ (by omega) ⟨by simp [hlen], by omega, fun j hj => ?_⟩))
 unfold rp
 rw [getD_snoc]
 split
 · rename_i hjl
   have hji : j = i := by omega
   subst hji
   rw [hq]
   refine ⟨⟨by omega, by omega, by rw [x3]; exact y3, by omega, by omega, by rw [x6, y7]; exact z8, by omega, x8⟩, fun hz => ?_⟩
   obtain ⟨k1, k2, k3⟩ := hzero hz
   refine ⟨by rw [x3]; exact y4 (by omega), x9 (by omega), fun m m1 m2 => ?_⟩
   rw [x6, y7, x2, y2, z2]
   exact z9 (by omega) m (by omega) (by omega)
 · exact hall j (by omega)
theorem fine_ok {x : List Report} (hl : x.length ≤ 12) (h : ∀ i, i < x.length → Fine i (rp x i)) : RepsOk x := by
 refine ⟨by omega, fun i hi => ?_⟩
 have F := h i hi
 have f1 := F.src; have f2 := F.dist; have f3 := F.night; have f4 := F.from_; have f5 := F.to_; have f6 := F.sight; have f7 := F.known; have f8 := F.till
 refine ⟨⟨by omega, by omega, by omega, by omega, by omega, by omega, by omega⟩, fun h0 => ?_⟩
 have := (h (i - 1) (by omega)).src
 omega
theorem moment_eq (n : Int) : ∃ at_, gasolierlaw05_moment n = some at_ ∧ 4320 ≤ at_ ∧ at_ ≤ 5759 := by
 unfold gasolierlaw05_moment
 obtain ⟨y, e, h1, h2⟩ := mod5_eq n (m := 1440) (by omega) (by omega)
 rw [e]
 exact ⟨4320 + y, must_yes (by unfold inI; omega) _, by omega, by omega⟩
theorem below_vals (r : Range) (lim : Int) : (fog_below r lim = 1 ∧ r.Hi < lim) ∨ (fog_below r lim = 0 ∧ lim ≤ r.Lo ∧ ¬ r.Hi < lim) ∨ (fog_below r lim = 2 ∧ ¬ r.Hi < lim ∧ ¬ lim ≤ r.Lo) := by
 unfold fog_below
 by_cases a : r.Hi < lim
 · rw [decide_eq_true a]; exact .inl ⟨rfl, a⟩
 · by_cases b : lim ≤ r.Lo
   · rw [decide_eq_false a, decide_eq_true b]; exact .inr (.inl ⟨rfl, b, a⟩)
   · rw [decide_eq_false a, decide_eq_false b]; exact .inr (.inr ⟨rfl, a, b⟩)
end Go.Sp
end
/- Plain laws, fog: FogShown. No program in sight. -/
section
set_option linter.all false
namespace Go.Sp
open Go.Av
set_option maxRecDepth 100000
end Go.Sp
end
/- Plain laws, fog: policies, the program's and the document's check. No program in sight. -/
section
set_option linter.all false
namespace Go.Sp
open Go.Av
set_option maxRecDepth 100000
def sd (l : List Send) (i : Nat) : Send := l.getD i default
def nd (p : List Node) (i : Nat) : Node := p.getD i default
def fol3 (n : Node) : List Int := [n.Yes, n.No, n.Maybe]
def SendsOk (l : List Send) : Prop := l.length ≤ 9 ∧ ∀ i, i < l.length → (1 ≤ (sd l i).District ∧ (sd l i).District ≤ 9) ∧ (1 ≤ (sd l i).Many ∧ (sd l i).Many ≤ 20) ∧ (0 < i → (sd l (i - 1)).District < (sd l i).District)
def NextOk (p : List Node) (i : Nat) (n : Node) (k : Int) : Prop := ((i : Int) + 1 ≤ k ∧ k ≤ (p.length : Int) - 1) ∧ ((nd p k.toNat).Test = true → n.Minute ≤ (nd p k.toNat).Minute)
instance (p : List Node) (i : Nat) (n : Node) (k : Int) : Decidable (NextOk p i n k) := inferInstanceAs (Decidable (_ ∧ _))
def LeafOk (n : Node) : Prop := (n.District = 0 ∧ n.Minute = 0 ∧ n.Limit = 0 ∧ n.Yes = 0 ∧ n.No = 0 ∧ n.Maybe = 0) ∧ SendsOk n.Sends
def TestHead (n : Node) : Prop := (1 ≤ n.District ∧ n.District ≤ 9) ∧ (0 ≤ n.Minute ∧ n.Minute ≤ 1439) ∧ (1 ≤ n.Limit ∧ n.Limit ≤ 5000) ∧ n.Sends.length = 0
def NodeOk (p : List Node) (i : Nat) : Prop := ((nd p i).Test = false → LeafOk (nd p i)) ∧ ((nd p i).Test = true → TestHead (nd p i) ∧ ∀ k ∈ fol3 (nd p i), NextOk p i (nd p i) k)
def nm (n : Node) : List Int := if n.Test then fol3 n else []
def names (p : List Node) : List Int := p.flatMap nm
structure PolOk (p : List Node) : Prop where
 len : 1 ≤ p.length ∧ p.length ≤ 31
 node : ∀ i, i < p.length → NodeOk p i
 nodup : (names p).Nodup
 count : (names p).length + 1 = p.length
theorem names_take {p : List Node} {i : Nat} (h : i < p.length) : names (p.take (i + 1)) = names (p.take i) ++ nm (nd p i) := by
 unfold names
 rw [take_getD h, List.flatMap_append]; simp [nd]
theorem sends_few {l : List Send} : ∀ {i : Nat}, (∀ j, j < i → (1 ≤ (sd l j).District ∧ (sd l j).District ≤ 9) ∧ (1 ≤ (sd l j).Many ∧ (sd l j).Many ≤ 20) ∧ (0 < j → (sd l (j - 1)).District < (sd l j).District)) → i ≤ 9 := by
 intro i h
 have key : ∀ j, j < i → (j : Int) + 1 ≤ (sd l j).District := by
   intro j
   induction j with
   | zero => intro hj; have := (h 0 hj).1; omega
   | succ j ih =>
     intro hj
     have h1 := ih (by omega)
     have h2 := (h (j + 1) hj).2.2 (by omega)
     have e : j + 1 - 1 = j := by omega
     rw [e] at h2
     omega
 by_cases h0 : i = 0
 · omega
 · have := key (i - 1) (by omega)
   have := (h (i - 1) (by omega)).1
   omega
theorem fareSends_eq (l : List Send) : Wp (fog_areSends l) (fun b => b = true ↔ SendsOk l) := by
 unfold fog_areSends
 refine wp_forall (fun i => (1 ≤ (sd l i).District ∧ (sd l i).District ≤ 9) ∧ (1 ≤ (sd l i).Many ∧ (sd l i).Many ≤ 20) ∧ (0 < i → (sd l (i - 1)).District < (sd l i).District)) (fun i K hi hI hK => ?_) (fun h => wp_some ?_)
 · have hi9 := sends_few hI
   refine wp_must (fun _ => by unfold inI; omega) (wp_must (fun h => by simp at h; omega) ?_)
   have e : (((i : Int) - 1)).toNat = i - 1 := by omega
   rw [e]
   refine wp_bif (fun hb => wp_some ?_) (fun hb => hK ?_)
   · constructor
     · intro h; cases h
     · rintro ⟨_, h⟩
       obtain ⟨h1, h2, h3⟩ := h i hi
       unfold sd at h1 h2 h3
       unfold fog_isDistrict at hb
       simp only [Bool.or_eq_true, Bool.and_eq_true, decide_eq_true_eq, Bool.not_eq_true', ← Bool.not_eq_true, fwithin_iff] at hb
       rcases hb with (hb | hb) | hb
       · exact absurd h1 hb
       · exact absurd h2 hb
       · have := h3 (by omega); omega
   · unfold fog_isDistrict at hb
     simp only [Bool.or_eq_false_iff, Bool.and_eq_false_iff, Bool.not_eq_false', decide_eq_false_iff_not, fwithin_iff] at hb
     unfold sd
     exact ⟨hb.1.1, hb.1.2, fun h0 => by rcases hb.2 with h | h <;> omega⟩
 · rw [decide_eq_true_eq]
   constructor
   · intro h9; exact ⟨by omega, h⟩
   · intro h9; have := h9.1; omega
theorem next_get (n : Node) (k : Int) : (fog_next n).get k = if k = 2 then some n.Maybe else if k = 0 then some n.No else if k = 1 then some n.Yes else none := rfl
theorem next_keys (n : Node) : (fog_next n).keys = [1, 0, 2] := rfl
theorem next_ok (n : Node) : (fog_next n).ok := by
 refine ⟨by rw [next_keys]; decide, rfl, fun k hk => ?_⟩
 rw [next_keys] at hk
 rw [next_get]
 rcases List.mem_cons.1 hk with rfl | hk
 · rfl
 · rcases List.mem_cons.1 hk with rfl | hk
   · rfl
   · rcases List.mem_cons.1 hk with rfl | hk
     · rfl
     · cases hk
theorem mapAny_of {chk : Int → Option Bool} {q : Int → Bool} : ∀ {l : List Int}, (∀ k ∈ l, chk k = some (q k)) → mapAny chk l = some (l.any q)
 | [], _ => rfl
 | k :: l, h => by
   unfold mapAny
   rw [h k List.mem_cons_self, mapAny_of (l := l) (fun j hj => h j (List.mem_cons_of_mem _ hj))]
   rfl
theorem mem_fol3 {n : Node} {P : Int → Prop} : (∀ k ∈ fol3 n, P k) ↔ P n.Yes ∧ P n.No ∧ P n.Maybe := by simp [fol3]
theorem nextOk_dec {p : List Node} {i : Nat} {n : Node} {k : Int} : (bif ((!(fog_within k ((i : Int) + 1) (((p.length : Nat) : Int) - 1))) || (((p.getD k.toNat default).Test) && (decide ((p.getD k.toNat default).Minute < n.Minute)))) then some true else some false) = some (!decide (NextOk p i n k)) := by
 by_cases h1 : (i : Int) + 1 ≤ k ∧ k ≤ ((p.length : Nat) : Int) - 1
 · rw [fwithin_iff.2 h1]
   cases ht : (p.getD k.toNat default).Test with
   | false => rw [decide_eq_true (p := NextOk p i n k) ⟨h1, fun h => by unfold nd at h; rw [ht] at h; cases h⟩]; rfl
   | true =>
     by_cases h2 : (p.getD k.toNat default).Minute < n.Minute
     · rw [decide_eq_true h2, decide_eq_false (fun h : NextOk p i n k => by have := h.2 ht; unfold nd at this; omega)]; rfl
     · rw [decide_eq_false h2, decide_eq_true (p := NextOk p i n k) ⟨h1, fun h => by unfold nd; omega⟩]; rfl
 · rw [Bool.eq_false_iff.2 (fun h => h1 (fwithin_iff.1 h)), decide_eq_false (fun h : NextOk p i n k => h1 h.1)]; rfl
theorem fisNode_wp (p : List Node) (i : Nat) (hi : i < p.length) (hl : p.length ≤ 31) : Wp (fog_isNode p (i : Int)) (fun b => b = true ↔ NodeOk p i) := by
 unfold fog_isNode
 refine wp_must (by omega) ?_
 simp only [Int.toNat_natCast]
 have en : p.getD i default = nd p i := rfl
 simp only [en]
 generalize hn : nd p i = n
 have hN : NodeOk p i ↔ (n.Test = false → LeafOk n) ∧ (n.Test = true → TestHead n ∧ ∀ k ∈ fol3 n, NextOk p i n k) := by unfold NodeOk; rw [hn]
 rw [hN]
 refine wp_bif (fun ht => ?_) (fun ht => ?_)
 · have ht : n.Test = false := by simpa using ht
   have hz : (((((decide (n.District = 0) && decide (n.Minute = 0)) && decide (n.Limit = 0)) && decide (n.Yes = 0)) && decide (n.No = 0)) && decide (n.Maybe = 0)) = true ↔ (n.District = 0 ∧ n.Minute = 0 ∧ n.Limit = 0 ∧ n.Yes = 0 ∧ n.No = 0 ∧ n.Maybe = 0) := by
     simp only [Bool.and_eq_true, decide_eq_true_eq, and_assoc]
   generalize (((((decide (n.District = 0) && decide (n.Minute = 0)) && decide (n.Limit = 0)) && decide (n.Yes = 0)) && decide (n.No = 0)) && decide (n.Maybe = 0)) = c at hz
   have hG : ∀ {q : Prop}, (q ↔ LeafOk n) → (q ↔ (n.Test = false → LeafOk n) ∧ (n.Test = true → TestHead n ∧ ∀ k ∈ fol3 n, NextOk p i n k)) := fun {q} h => by rw [h, ht]; simp
   cases c with
   | true =>
     refine wp_bind (fareSends_eq n.Sends) (fun b hb => wp_some (hG ?_))
     rw [Bool.true_and, hb]
     exact ⟨fun h => ⟨hz.1 rfl, h⟩, fun h => h.2⟩
   | false =>
     refine wp_offE rfl rfl (wp_some (hG ?_))
     rw [Bool.false_and]
     exact ⟨fun h => (nomatch h), fun h => (nomatch (hz.2 h.1))⟩
 · have ht : n.Test = true := by simpa using ht
   have hG : ∀ {q : Prop}, (q ↔ TestHead n ∧ ∀ k ∈ fol3 n, NextOk p i n k) → (q ↔ (n.Test = false → LeafOk n) ∧ (n.Test = true → TestHead n ∧ ∀ k ∈ fol3 n, NextOk p i n k)) := fun {q} h => by rw [h, ht]; simp
   refine wp_bif (fun hb => wp_some (hG ?_)) (fun hb => ?_)
   · refine ⟨fun h => (nomatch h), fun h => ?_⟩
     obtain ⟨h1, h2, h3, h4⟩ := h.1
     unfold fog_isDistrict fog_isMinute at hb
     simp only [Bool.or_eq_true, decide_eq_true_eq, Bool.not_eq_true', ← Bool.not_eq_true, fwithin_iff] at hb
     rcases hb with ((hb | hb) | hb) | hb
     · exact absurd h1 hb
     · exact absurd h2 hb
     · exact absurd h3 hb
     · omega
   · unfold fog_isDistrict fog_isMinute at hb
     simp only [Bool.or_eq_false_iff, Bool.not_eq_false', decide_eq_false_iff_not, fwithin_iff] at hb
     have hH : TestHead n := ⟨hb.1.1.1, hb.1.1.2, hb.1.2, by omega⟩
     refine wp_must (next_ok n) ?_
     rw [next_keys, mapAny_of (q := fun q => !decide (NextOk p i n (((fog_next n).get q).getD default))) (fun q hq => ?_)]
     · have hany : ∀ b, [1, 0, 2].any (fun q => !decide (NextOk p i n (((fog_next n).get q).getD default))) = b → (b = false ↔ ∀ k ∈ fol3 n, NextOk p i n k) := by
         intro b e
         have e1 : ((fog_next n).get 1).getD default = n.Yes := rfl
         have e2 : ((fog_next n).get 0).getD default = n.No := rfl
         have e3 : ((fog_next n).get 2).getD default = n.Maybe := rfl
         rw [mem_fol3, ← e]
         simp only [List.any_cons, List.any_nil, e1, e2, e3, Bool.or_false, Bool.or_eq_false_iff, Bool.not_eq_false', decide_eq_true_eq]
       refine wp_bif (fun hb => wp_some (hG ?_)) (fun hb => wp_some (hG ?_))
       · exact ⟨fun h => (nomatch h), fun h => (nomatch ((hany _ hb).2 h.2))⟩
       · exact ⟨fun _ => ⟨hH, (hany _ hb).1 rfl⟩, fun _ => rfl⟩
     · have e0 := nextOk_dec (p := p) (i := i) (n := n) (k := ((fog_next n).get q).getD default)
       refine (must_yes (by unfold inI; omega) _).trans ((must_yes (by unfold inI; omega) _).trans ((must_yes (fun h => ?_) _).trans ((must_yes (fun h => ?_) _).trans e0)))
       · simp only [Bool.not_not, fwithin_iff] at h; omega
       · simp only [Bool.not_not, Bool.and_eq_true, fwithin_iff] at h; omega
theorem fcheckPolicy_wp (p : List Node) : Wp (fog_CheckPolicy p) (fun r => (PolOk p ∧ r = 0) ∨ (¬ PolOk p ∧ r = 53)) := by
 unfold fog_CheckPolicy
 by_cases hlen : 1 ≤ p.length ∧ p.length ≤ 31
 · have hw : fog_within ((p.length : Nat) : Int) 1 31 = true := fwithin_iff.2 (by omega)
   rw [hw]
   refine wp_false rfl ?_
   refine wp_range (fun i (s : Mp Bool) => (∀ j, j < i → NodeOk p j) ∧ (names (p.take i)).Nodup ∧ s.card = (names (p.take i)).length ∧ ∀ k, s.get k = if k ∈ names (p.take i) then some true else none) ⟨fun j hj => by omega, by simp [names], rfl, fun k => by simp [names, Mp.empty]⟩ (fun i s K hi hI hK => ?_) (fun s hI => ?_)
   · obtain ⟨I1, I2, I3, I4⟩ := hI
     have et := names_take (p := p) hi
     have sub : ∀ {P : Prop}, ((names (p.take (i + 1))).Nodup → P) → ((names p).Nodup → P) := fun h hn => h (by
       have e : names p = names (p.take (i + 1)) ++ names (p.drop (i + 1)) := by unfold names; rw [← List.flatMap_append, List.take_append_drop]
       rw [e] at hn
       exact (List.nodup_append.1 hn).1)
     refine wp_joinU (wp_bind (fisNode_wp p i hi hlen.2) (fun b hb => wp_bif (fun h => wp_some (.inr ⟨fun V => ?_, rfl⟩)) (fun h => ?_)))
     · have := hb.2 (V.node i hi); rw [this] at h; cases h
     · have hN : NodeOk p i := hb.1 (by simpa using h)
       have I1' : ∀ j, j < i + 1 → NodeOk p j := fun j hj => by
         by_cases e : j = i
         · rw [e]; exact hN
         · exact I1 j (by omega)
       have en : p.getD i default = nd p i := rfl
       simp only [en]
       refine wp_bif (fun ht => hK _ ⟨I1', ?_⟩) (fun ht => ?_)
       · have e2 : nm (nd p i) = [] := by unfold nm; rw [if_neg (by simpa using ht)]
         rw [et, e2, List.append_nil]
         exact ⟨I2, I3, I4⟩
       · have e2 : nm (nd p i) = fol3 (nd p i) := by unfold nm; rw [if_pos (by simpa using ht)]
         show Wp (rangeGo _ _ (fol3 (nd p i)).length 0 s) _
         refine wp_range (fun m (s : Mp Bool) => (names (p.take i) ++ (fol3 (nd p i)).take m).Nodup ∧ s.card = (names (p.take i) ++ (fol3 (nd p i)).take m).length ∧ ∀ k, s.get k = if k ∈ names (p.take i) ++ (fol3 (nd p i)).take m then some true else none) (by rw [List.take_zero, List.append_nil]; exact ⟨I2, I3, I4⟩) (fun m s K2 hm hJ hK2 => ?_) (fun s hJ => hK _ ⟨I1', ?_⟩)
         · obtain ⟨J1, J2, J3⟩ := hJ
           have eL : ([(nd p i).Yes, (nd p i).No, (nd p i).Maybe] : List Int) = fol3 (nd p i) := rfl
           simp only [eL]
           generalize hx : (fol3 (nd p i)).getD m default = x
           have e3 : (fol3 (nd p i)).take (m + 1) = (fol3 (nd p i)).take m ++ [x] := by rw [take_getD hm, hx]
           by_cases hmem : x ∈ names (p.take i) ++ (fol3 (nd p i)).take m
           · refine wp_true (by rw [J3, if_pos hmem]; rfl) (wp_some (.inr ⟨fun V => ?_, rfl⟩))
             refine sub (P := False) (fun hn => ?_) V.nodup
             rw [et, e2, ← List.take_append_drop (m + 1) (fol3 (nd p i)), e3, ← List.append_assoc, ← List.append_assoc, List.nodup_append] at hn
             have hn1 := List.nodup_append.1 hn.1
             exact hn1.2.2 x hmem x (List.mem_singleton.2 rfl) rfl
           · refine wp_false (by rw [J3, if_neg hmem]; rfl) (hK2 _ ?_)
             rw [e3, ← List.append_assoc]
             refine ⟨?_, ?_, fun k => ?_⟩
             · rw [List.nodup_append]
               refine ⟨J1, by simp, fun a ha b hb => ?_⟩
               rw [List.mem_singleton] at hb
               intro e; rw [e, hb] at ha; exact hmem ha
             · unfold Mp.set
               simp only
               rw [J3, if_neg hmem, List.length_append, J2]; rfl
             · unfold Mp.set
               simp only
               by_cases hk : k = x
               · rw [if_pos hk, if_pos (by rw [hk]; simp)]
               · rw [if_neg hk, J3]
                 by_cases h4 : k ∈ names (p.take i) ++ (fol3 (nd p i)).take m
                 · rw [if_pos h4, if_pos (List.mem_append_left _ h4)]
                 · rw [if_neg h4, if_neg (fun h5 => by
                     rcases List.mem_append.1 h5 with h5 | h5
                     · exact h4 h5
                     · exact hk (List.mem_singleton.1 h5))]
         · rw [List.take_length] at hJ
           rw [et, e2]
           exact hJ
   · obtain ⟨I1, I2, I3, I4⟩ := hI
     rw [List.take_length] at I2 I3
     refine wp_mustI (by omega) (wp_ifn (fun h => wp_some (.inr ⟨fun V => ?_, rfl⟩)) (fun h => wp_some (.inl ⟨⟨hlen, I1, I2, by omega⟩, rfl⟩)))
     have := V.count; omega
 · have hw : fog_within ((p.length : Nat) : Int) 1 31 = false := Bool.eq_false_iff.2 (fun h => by have := fwithin_iff.1 h; omega)
   rw [hw]
   exact wp_true rfl (wp_some (.inr ⟨fun V => hlen V.len, rfl⟩))
theorem fpol_ok {p : List Node} (h : PolOk p) : fog_CheckPolicy p = some 0 := by
 obtain ⟨r, e, k⟩ := fcheckPolicy_wp p
 rcases k with ⟨_, k⟩ | ⟨k, _⟩
 · rw [e, k]
 · exact absurd h k
theorem fpol_bad {p : List Node} (h : ¬ PolOk p) : fog_CheckPolicy p = some 53 := by
 obtain ⟨r, e, k⟩ := fcheckPolicy_wp p
 rcases k with ⟨k, _⟩ | ⟨_, k⟩
 · exact absurd k h
 · rw [e, k]
end Go.Sp
end
/- Plain laws, fog: where a policy comes to, and where it still may. No program in sight. -/
section
set_option linter.all false
namespace Go.Sp
open Go.Av
set_option maxRecDepth 100000
def tellL (n : Node) (l : List Report) (night m : Int) : Int :=
 if (pairL (seeL l n.District night m)).isSome then 2 else fog_below (sightL (seeL l n.District night m) n.Minute) n.Limit
theorem tellL_vals (n : Node) (l : List Report) (night m : Int) : tellL n l night m = 0 ∨ tellL n l night m = 1 ∨ tellL n l night m = 2 := by
 unfold tellL
 split
 · exact .inr (.inr rfl)
 · rcases below_vals (sightL (seeL l n.District night m) n.Minute) n.Limit with h | h | h
   · exact .inr (.inl h.1)
   · exact .inl h.1
   · exact .inr (.inr h.1)
theorem ftell_eq {fuel : Nat} (n : Node) (l : List Report) (night m : Int) (hl : l.length ≤ 60) (hf : 61 < fuel) : fog_tell fuel n l night m = some (tellL n l night m) := by
 unfold fog_tell
 have hle : (seeL l n.District night m).length ≤ 60 := Nat.le_trans (List.length_filter_le _ _) hl
 refine Wp.eq (wp_bindE (fsee_eq fuel l _ _ _ hl (by omega)) (wp_bindE (fpair_eq _ (by omega)) ?_))
 unfold tellL
 rw [pairR_two]
 cases (pairL (seeL l n.District night m)).isSome
 · exact wp_false rfl (wp_bindE (fsight_eq _ _) (wp_some rfl))
 · exact wp_true rfl (wp_some rfl)
def nextL (n : Node) (a : Int) : Int := if a = 1 then n.Yes else if a = 0 then n.No else n.Maybe
theorem fnext_eq (n : Node) {a : Int} (h : a = 0 ∨ a = 1 ∨ a = 2) : ((fog_next n).get a).getD default = nextL n a := by
 rcases h with rfl | rfl | rfl <;> rfl
theorem next_mem (n : Node) (a : Int) : nextL n a ∈ fol3 n := by
 unfold nextL fol3
 split
 · simp
 · split <;> simp
def stamp (night : Int) (n : Node) : Int := night * 1440 + n.Minute
theorem stamp_eq {night : Int} {n : Node} (h : 0 ≤ night ∧ night ≤ 100000) (hm : 0 ≤ n.Minute ∧ n.Minute ≤ 1439) : fog_moment night n.Minute = some (stamp night n) := by
 unfold fog_moment stamp
 exact (must_yes (by unfold inI; omega) _).trans (must_yes (by unfold inI; omega) _)
theorem pol_test {p : List Node} (V : PolOk p) {i : Int} (h0 : 0 ≤ i) (h1 : i < p.length) (ht : (nd p i.toNat).Test = true) : TestHead (nd p i.toNat) ∧ ∀ k ∈ fol3 (nd p i.toNat), i + 1 ≤ k ∧ k ≤ (p.length : Int) - 1 ∧ ((nd p k.toNat).Test = true → (nd p i.toNat).Minute ≤ (nd p k.toNat).Minute) := by
 have := (V.node i.toNat (by omega)).2 ht
 refine ⟨this.1, fun k hk => ?_⟩
 have h := this.2 k hk
 unfold NextOk at h
 have e : ((i.toNat : Nat) : Int) = i := by omega
 rw [e] at h
 exact ⟨h.1.1, h.1.2, h.2⟩
theorem pol_one {p : List Node} (V : PolOk p) {i j : Int} (hi : 0 ≤ i ∧ i < p.length) (hj : 0 ≤ j ∧ j < p.length) (ti : (nd p i.toNat).Test = true) (tj : (nd p j.toNat).Test = true) {k : Int} (h1 : k ∈ fol3 (nd p i.toNat)) (h2 : k ∈ fol3 (nd p j.toNat)) : i = j := by
 have hn := V.nodup
 unfold names at hn
 rw [List.Nodup, List.pairwise_flatMap] at hn
 have key : ∀ {a b : Nat}, a < b → b < p.length → (nd p a).Test = true → (nd p b).Test = true → k ∈ fol3 (nd p a) → k ∈ fol3 (nd p b) → False := by
   intro a b hab hb ta tb ka kb
   have := List.pairwise_iff_getElem.1 hn.2 a b (by omega) hb hab
   have ea : p[a] = nd p a := by unfold nd; simp [List.getElem?_eq_getElem (show a < p.length by omega)]
   have eb : p[b] = nd p b := by unfold nd; simp [List.getElem?_eq_getElem hb]
   rw [ea, eb] at this
   refine this k (by unfold nm; rw [if_pos ta]; exact ka) k (by unfold nm; rw [if_pos tb]; exact kb) rfl
 rcases Nat.lt_trichotomy i.toNat j.toNat with h | h | h
 · exact (key h (by omega) ti tj h1 h2).elim
 · omega
 · exact (key h (by omega) tj ti h2 h1).elim
theorem fol_nodup {p : List Node} (V : PolOk p) {i : Int} (h0 : 0 ≤ i) (h1 : i < p.length) (ht : (nd p i.toNat).Test = true) : (fol3 (nd p i.toNat)).Nodup := by
 have hn := V.nodup
 unfold names at hn
 rw [List.Nodup, List.pairwise_flatMap] at hn
 have := hn.1 (nd p i.toNat) (getD_mem (by omega))
 unfold nm at this
 rw [if_pos ht] at this
 exact this
open Classical in
noncomputable def askR (p : List Node) (l : List Report) (night m : Int) : Int := if ¬ PolOk p then 53 else if ¬ RepsOk l then 51 else if ¬ (dayOk night m) then 6 else 0
theorem askR_zero {p : List Node} {l : List Report} {night m : Int} : askR p l night m = 0 ↔ PolOk p ∧ RepsOk l ∧ dayOk night m := by
 unfold askR
 constructor
 · intro h
   split at h
   · cases h
   · split at h
     · cases h
     · split at h
       · cases h
       · next h1 h2 h3 => exact ⟨Classical.not_not.1 h1, Classical.not_not.1 h2, Classical.not_not.1 h3⟩
 · rintro ⟨h1, h2, h3⟩
   rw [if_neg (fun h => h h1), if_neg (fun h => h h2), if_neg (fun h => h h3)]
theorem fasked_eq (p : List Node) (l : List Report) (night m : Int) : fog_asked p l night m = some (askR p l night m) := by
 unfold fog_asked askR
 refine Wp.eq ?_
 by_cases h1 : PolOk p
 · rw [if_neg (fun h => h h1)]
   refine wp_bindE (fpol_ok h1) (wp_false rfl ?_)
   by_cases h2 : RepsOk l
   · rw [if_neg (fun h => h h2)]
     refine wp_bindE (fcheck_ok h2) (wp_false rfl ?_)
     refine wp_bif (fun hb => ?_) (fun hb => ?_)
     · rw [if_pos (fun h3 : dayOk night m => ?_)]
       · exact wp_some rfl
       · unfold fog_isNight fog_isMoment at hb
         unfold dayOk at h3
         rw [fwithin_iff.2 (by omega), fwithin_iff.2 (by omega)] at hb
         cases hb
     · have h3 : dayOk night m := by
         unfold fog_isNight fog_isMoment at hb
         simp only [Bool.or_eq_false_iff, Bool.not_eq_false', fwithin_iff] at hb
         unfold dayOk; omega
       rw [if_neg (fun h => h h3)]
       exact wp_some rfl
   · rw [if_pos h2]
     exact wp_bindE (fcheck_bad h2) (wp_true rfl (wp_some rfl))
 · rw [if_pos h1]
   exact wp_bindE (fpol_bad h1) (wp_true rfl (wp_some rfl))
def suc (p : List Node) (l : List Report) (night now i : Int) : List Int :=
 if (nd p i.toNat).Test then
   (if now < stamp night (nd p i.toNat) ∧ tellL (nd p i.toNat) l night (min (stamp night (nd p i.toNat)) now) = 2 then fol3 (nd p i.toNat)
    else [nextL (nd p i.toNat) (tellL (nd p i.toNat) l night (min (stamp night (nd p i.toNat)) now))]) else []
theorem suc_sub {p : List Node} {l : List Report} {night now i k : Int} (h : k ∈ suc p l night now i) : (nd p i.toNat).Test = true ∧ k ∈ fol3 (nd p i.toNat) := by
 unfold suc at h
 split at h
 · next ht =>
   refine ⟨ht, ?_⟩
   split at h
   · exact h
   · rw [List.mem_singleton] at h; rw [h]; exact next_mem _ _
 · cases h
theorem suc_in {p : List Node} (V : PolOk p) {l : List Report} {night now i k : Int} (hi : 0 ≤ i ∧ i < p.length) (h : k ∈ suc p l night now i) : i < k ∧ k < p.length := by
 obtain ⟨ht, hk⟩ := suc_sub h
 have := (pol_test V hi.1 hi.2 ht).2 k hk
 omega
theorem suc_nodup {p : List Node} (V : PolOk p) {l : List Report} {night now i : Int} (hi : 0 ≤ i ∧ i < p.length) : (suc p l night now i).Nodup := by
 unfold suc
 split
 · next ht =>
   split
   · exact fol_nodup V hi.1 hi.2 ht
   · simp
 · exact .nil
inductive Reach (S : Int → List Int) : Int → Int → Prop
 | refl (a : Int) : Reach S a a
 | step {a b c : Int} : Reach S a b → c ∈ S b → Reach S a c
theorem Reach.trans {S : Int → List Int} {a b c : Int} (h1 : Reach S a b) (h2 : Reach S b c) : Reach S a c := by
 induction h2 with
 | refl => exact h1
 | step _ h ih => exact ih.step h
theorem Reach.mono {S T : Int → List Int} (h : ∀ i k, k ∈ S i → k ∈ T i) {a b : Int} (hr : Reach S a b) : Reach T a b := by
 induction hr with
 | refl => exact .refl _
 | step _ hc ih => exact ih.step (h _ _ hc)
theorem reach_in {p : List Node} (V : PolOk p) {l : List Report} {night now a b : Int} (h : Reach (suc p l night now) a b) (h0 : 0 ≤ a) (h1 : a < p.length) : a ≤ b ∧ b < p.length := by
 induction h with
 | refl => omega
 | step _ hc ih => have := suc_in V ⟨by omega, ih.2⟩ hc; omega
theorem reach_or {p : List Node} (V : PolOk p) {l : List Report} {night now a b j : Int} (ha : 0 ≤ a ∧ a < p.length) (hb : 0 ≤ b ∧ b < p.length) (h1 : Reach (suc p l night now) a j) (h2 : Reach (suc p l night now) b j) : Reach (suc p l night now) a b ∨ Reach (suc p l night now) b a := by
 induction h1 with
 | refl => exact .inr h2
 | step ha1 hc ih =>
   rename_i c k
   cases h2 with
   | refl => exact .inl (ha1.step hc)
   | step hb1 hc2 =>
     rename_i c2
     have i1 := reach_in V ha1 ha.1 ha.2
     have i2 := reach_in V hb1 hb.1 hb.2
     obtain ⟨t1, m1⟩ := suc_sub hc
     obtain ⟨t2, m2⟩ := suc_sub hc2
     have e := pol_one V (i := c) (j := c2) ⟨by omega, i1.2⟩ ⟨by omega, i2.2⟩ t1 t2 m1 m2
     rw [← e] at hb1
     exact ih hb1
theorem reach_disj {p : List Node} (V : PolOk p) {l : List Report} {night now i a b j : Int} (hi : 0 ≤ i ∧ i < p.length) (ha : a ∈ suc p l night now i) (hb : b ∈ suc p l night now i) (hab : a ≠ b) (h1 : Reach (suc p l night now) a j) (h2 : Reach (suc p l night now) b j) : False := by
 have key : ∀ {a b : Int}, a ∈ suc p l night now i → b ∈ suc p l night now i → a ≠ b → Reach (suc p l night now) a b → False := by
   intro a b ha hb hab h
   have ia := suc_in V hi ha
   have ib := suc_in V hi hb
   cases h with
   | refl => exact hab rfl
   | step h3 h4 =>
     rename_i c
     have ic := reach_in V h3 (by omega) ia.2
     obtain ⟨t1, m1⟩ := suc_sub h4
     obtain ⟨t2, m2⟩ := suc_sub hb
     have := pol_one V (i := c) (j := i) ⟨by omega, ic.2⟩ hi t1 t2 m1 m2
     omega
 have ia := suc_in V hi ha
 have ib := suc_in V hi hb
 rcases reach_or V ⟨by omega, ia.2⟩ ⟨by omega, ib.2⟩ h1 h2 with h | h
 · exact key ha hb hab h
 · exact key hb ha (fun e => hab e.symm) h
def dfs (p : List Node) (l : List Report) (night now : Int) : Nat → Int → List Int
 | 0, _ => []
 | k + 1, i => if (nd p i.toNat).Test then (suc p l night now i).flatMap (dfs p l night now k) else [i]
theorem dfs_mem {p : List Node} (V : PolOk p) {l : List Report} {night now : Int} : ∀ (k : Nat) (i j : Int), 0 ≤ i → i < p.length → p.length - i.toNat ≤ k → (j ∈ dfs p l night now k i ↔ Reach (suc p l night now) i j ∧ (nd p j.toNat).Test = false)
 | 0, i, j, h0, h1, hk => by omega
 | k + 1, i, j, h0, h1, hk => by
   unfold dfs
   by_cases ht : (nd p i.toNat).Test = true
   · rw [if_pos ht, List.mem_flatMap]
     constructor
     · rintro ⟨a, ha, h⟩
       have ia := suc_in V ⟨h0, h1⟩ ha
       rw [dfs_mem V k a j (by omega) ia.2 (by omega)] at h
       exact ⟨((Reach.refl i).step ha).trans h.1, h.2⟩
     · rintro ⟨h, hl⟩
       have : i = j ∨ ∃ a, a ∈ suc p l night now i ∧ Reach (suc p l night now) a j := by
         clear hl hk
         induction h with
         | refl => exact .inl rfl
         | step h hc ih =>
           rename_i c d
           rcases ih with rfl | ⟨a, ha, h'⟩
           · exact .inr ⟨d, hc, .refl _⟩
           · exact .inr ⟨a, ha, h'.step hc⟩
       rcases this with rfl | ⟨a, ha, h'⟩
       · rw [ht] at hl; cases hl
       · have ia := suc_in V ⟨h0, h1⟩ ha
         exact ⟨a, ha, (dfs_mem V k a j (by omega) ia.2 (by omega)).2 ⟨h', hl⟩⟩
   · rw [if_neg ht, List.mem_singleton]
     constructor
     · rintro rfl; exact ⟨.refl _, by simpa using ht⟩
     · rintro ⟨h, hl⟩
       have : i = j ∨ ∃ a, a ∈ suc p l night now i := by
         clear hl hk
         induction h with
         | refl => exact .inl rfl
         | step h hc ih =>
           rcases ih with rfl | h'
           · exact .inr ⟨_, hc⟩
           · exact .inr h'
       rcases this with rfl | ⟨a, ha⟩
       · rfl
       · exact absurd (suc_sub ha).1 ht
theorem dfs_nodup {p : List Node} (V : PolOk p) {l : List Report} {night now : Int} : ∀ (k : Nat) (i : Int), 0 ≤ i → i < p.length → p.length - i.toNat ≤ k → (dfs p l night now k i).Nodup
 | 0, i, h0, h1, hk => by omega
 | k + 1, i, h0, h1, hk => by
   unfold dfs
   by_cases ht : (nd p i.toNat).Test = true
   · rw [if_pos ht, List.Nodup, List.pairwise_flatMap]
     refine ⟨fun a ha => ?_, ?_⟩
     · have ia := suc_in V ⟨h0, h1⟩ ha
       exact dfs_nodup V k a (by omega) ia.2 (by omega)
     · have hn := suc_nodup V (l := l) (night := night) (now := now) ⟨h0, h1⟩
       refine List.Pairwise.imp_of_mem (fun {a b} ha hb hab x hx y hy e => ?_) hn
       have ia := suc_in V ⟨h0, h1⟩ ha
       have ib := suc_in V ⟨h0, h1⟩ hb
       rw [← e] at hy
       exact reach_disj V ⟨h0, h1⟩ ha hb hab ((dfs_mem V k a x (by omega) ia.2 (by omega)).1 hx).1 ((dfs_mem V k b x (by omega) ib.2 (by omega)).1 hy).1
   · rw [if_neg ht]; simp
theorem dfs_some {p : List Node} (V : PolOk p) {l : List Report} {night now : Int} : ∀ (k : Nat) (i : Int), 0 ≤ i → i < p.length → p.length - i.toNat ≤ k → dfs p l night now k i ≠ []
 | 0, i, h0, h1, hk => by omega
 | k + 1, i, h0, h1, hk => by
   unfold dfs
   by_cases ht : (nd p i.toNat).Test = true
   · rw [if_pos ht]
     have : ∃ a, a ∈ suc p l night now i := by
       unfold suc
       rw [if_pos ht]
       split
       · exact ⟨_, next_mem _ 1⟩
       · exact ⟨_, List.mem_singleton.2 rfl⟩
     obtain ⟨a, ha⟩ := this
     have ia := suc_in V ⟨h0, h1⟩ ha
     have := dfs_some V (l := l) (night := night) (now := now) k a (by omega) ia.2 (by omega)
     intro e
     rw [List.flatMap_eq_nil_iff] at e
     exact this (e a ha)
   · rw [if_neg ht]; simp
theorem dfs_len {p : List Node} (V : PolOk p) {l : List Report} {night now : Int} {k : Nat} (hk : p.length ≤ k) : (dfs p l night now k 0).length ≤ 31 := by
 have hlen := V.len
 have h1 := dfs_nodup V (l := l) (night := night) (now := now) k 0 (by omega) (by omega) (by omega)
 have h2 := nodup_le h1 (r := (List.range p.length).map (fun j : Nat => (j : Int))) (fun j hj => by
   have := ((dfs_mem V k 0 j (by omega) (by omega) (by omega)).1 hj).1
   have := reach_in V this (by omega) (by omega)
   rw [List.mem_map]
   exact ⟨j.toNat, List.mem_range.2 (by omega), by omega⟩)
 rw [List.length_map, List.length_range] at h2
 omega
def possL (p : List Node) (l : List Report) (night now : Int) : List Int := isort (dfs p l night now p.length 0)
theorem possL_mem {p : List Node} (V : PolOk p) {l : List Report} {night now j : Int} : j ∈ possL p l night now ↔ Reach (suc p l night now) 0 j ∧ (nd p j.toNat).Test = false := by
 have hlen := V.len
 unfold possL
 rw [(isort_perm _).mem_iff]
 exact dfs_mem V p.length 0 j (by omega) (by omega) (by omega)
theorem possL_len {p : List Node} (V : PolOk p) {l : List Report} {night now : Int} : 0 < (possL p l night now).length ∧ (possL p l night now).length ≤ 31 := by
 have hlen := V.len
 unfold possL
 rw [isort_length]
 exact ⟨List.length_pos_iff.2 (dfs_some V p.length 0 (by omega) (by omega) (by omega)), dfs_len V (by omega)⟩
end Go.Sp
end
/- Plain laws, fog: the possible leaves by program and document; FogPolicies. No program in sight. -/
section
set_option linter.all false
namespace Go.Sp
open Go.Av
set_option maxRecDepth 100000
theorem nowL {p : List Node} {l : List Report} {night now i : Int} (ht : (nd p i.toNat).Test = true) : suc p l night now i =
   if now < stamp night (nd p i.toNat) ∧ tellL (nd p i.toNat) l night (min (stamp night (nd p i.toNat)) now) = 2 then fol3 (nd p i.toNat)
    else [nextL (nd p i.toNat) (tellL (nd p i.toNat) l night (min (stamp night (nd p i.toNat)) now))] := by
 unfold suc; rw [if_pos ht]
theorem flat_take (f : Int → List Int) (l : List Int) {i : Nat} (h : i < l.length) : (l.take (i + 1)).flatMap f = (l.take i).flatMap f ++ f (l.getD i default) := by
 rw [take_getD h, List.flatMap_append]; simp
theorem fposs_wp {fuel : Nat} {p : List Node} {l : List Report} {night now : Int} (V : PolOk p) (hl : l.length ≤ 60) (hn : 0 ≤ night ∧ night ≤ 100000) (hf : 61 < fuel) :
   ∀ (k : Nat) (i : Int) (out : List Int), 0 ≤ i → i < p.length → p.length - i.toNat ≤ k → (out ++ dfs p l night now k i).length ≤ 1000 → fog_possible_1_l fuel k i p out night l now = some (out ++ dfs p l night now k i)
 | 0, i, out, h0, h1, hk, _ => by omega
 | k + 1, i, out, h0, h1, hk, hr => by
   show fog_possible_1_l_F fuel (fog_possible_1_l fuel k) i p out night l now = _
   unfold fog_possible_1_l_F
   have en : p.getD i.toNat default = nd p i.toNat := rfl
   simp only [en]
   refine Wp.eq (wp_must (by omega) (wp_bif (fun ht => ?_) (fun ht => ?_)))
   · have ht : ¬ (nd p i.toNat).Test = true := by simpa using ht
     have e : dfs p l night now (k + 1) i = [i] := by unfold dfs; rw [if_neg ht]
     rw [e] at hr ⊢
     exact wp_mustR (by omega) (wp_some rfl)
   · have ht : (nd p i.toNat).Test = true := by simpa using ht
     have e : dfs p l night now (k + 1) i = (suc p l night now i).flatMap (dfs p l night now k) := by unfold dfs; rw [if_pos ht]
     rw [e] at hr ⊢
     have hh := pol_test V h0 h1 ht
     have hs : ∀ a, a ∈ fol3 (nd p i.toNat) → 0 ≤ a ∧ a < p.length ∧ p.length - a.toNat ≤ k := fun a ha => by have := hh.2 a ha; omega
     refine wp_bindE (stamp_eq hn hh.1.2.1) (wp_bindE (ftell_eq _ _ _ _ hl hf) ?_)
     rw [nowL ht] at hr ⊢
     refine wp_bif (fun hb => ?_) (fun hb => ?_)
     · simp only [Bool.and_eq_true, decide_eq_true_eq] at hb
       rw [if_pos hb] at hr ⊢
       show Wp (rangeGo _ _ (fol3 (nd p i.toNat)).length 0 out) _
       refine wp_range (fun m s => s = out ++ ((fol3 (nd p i.toNat)).take m).flatMap (dfs p l night now k)) (by simp) (fun m s K hm hI hK => ?_) (fun s hI => wp_some (by rw [hI, List.take_length]))
       have eL : ([(nd p i.toNat).Yes, (nd p i.toNat).No, (nd p i.toNat).Maybe] : List Int) = fol3 (nd p i.toNat) := rfl
       simp only [eL]
       have hx := hs _ (getD_mem hm)
       have et := flat_take (dfs p l night now k) _ hm
       refine wp_bindE (fposs_wp V hl hn hf k _ s hx.1 hx.2.1 hx.2.2 ?_) (hK _ ?_)
       · rw [hI, List.append_assoc, ← et]
         refine Nat.le_trans ?_ hr
         rw [List.length_append, List.length_append]
         have e5 : (fol3 (nd p i.toNat)).flatMap (dfs p l night now k) = ((fol3 (nd p i.toNat)).take (m + 1)).flatMap (dfs p l night now k) ++ ((fol3 (nd p i.toNat)).drop (m + 1)).flatMap (dfs p l night now k) := by rw [← List.flatMap_append, List.take_append_drop]
         rw [e5, List.length_append]; omega
       · rw [et, hI, List.append_assoc]
     · have hb' : ¬ (now < stamp night (nd p i.toNat) ∧ tellL (nd p i.toNat) l night (min (stamp night (nd p i.toNat)) now) = 2) := by
         rintro ⟨b1, b2⟩
         rw [decide_eq_true b1, decide_eq_true b2] at hb; cases hb
       rw [if_neg hb'] at hr ⊢
       simp only [List.flatMap_cons, List.flatMap_nil, List.append_nil] at hr ⊢
       rw [fnext_eq _ (tellL_vals _ _ _ _)]
       have hx := hs _ (next_mem (nd p i.toNat) (tellL (nd p i.toNat) l night (min (stamp night (nd p i.toNat)) now)))
       exact wp_bindE (fposs_wp V hl hn hf k _ out hx.1 hx.2.1 hx.2.2 hr) (wp_some rfl)
theorem dfs_more {p : List Node} {l : List Report} {night now : Int} (V : PolOk p) : ∀ (k k' : Nat) (i : Int), 0 ≤ i → i < p.length → p.length - i.toNat ≤ k → p.length - i.toNat ≤ k' → dfs p l night now k i = dfs p l night now k' i
 | 0, _, i, h0, h1, hk, _ => by omega
 | k + 1, 0, i, h0, h1, _, hk => by omega
 | k + 1, k' + 1, i, h0, h1, hk, hk' => by
   unfold dfs
   split
   · rw [List.flatMap_def, List.flatMap_def, List.map_congr_left fun a ha => ?_]
     have := suc_in V ⟨h0, h1⟩ ha
     exact dfs_more V k k' a (by omega) this.2 (by omega) (by omega)
   · rfl
theorem fpossible_eq {fuel : Nat} {p : List Node} {l : List Report} {night now : Int} (V : PolOk p) (hl : l.length ≤ 60) (hn : 0 ≤ night ∧ night ≤ 100000) (hf : 61 < fuel) : fog_possible fuel p l night now = some (possL p l night now) := by
 unfold fog_possible
 have hlen := V.len
 have hd := dfs_len V (l := l) (night := night) (now := now) (k := fuel) (by omega)
 have em := dfs_more V (l := l) (night := night) (now := now) fuel p.length 0 (by omega) (by omega) (by omega) (by omega)
 refine Wp.eq (wp_bindE (fposs_wp V hl hn hf fuel 0 [] (by omega) (by omega) (by omega) (by rw [List.nil_append]; omega)) ?_)
 rw [List.nil_append, em]
 rw [em] at hd
 refine wp_bindE (must_yes (by omega) _ : slices_Sort_int_l _ = _) (wp_must (isort_length _) (wp_some rfl))
noncomputable def possR (p : List Node) (l : List Report) (night now : Int) : List Int × Int := if askR p l night now ≠ 0 then ([], askR p l night now) else (possL p l night now, 0)
theorem fPossible_eq {fuel : Nat} (p : List Node) (l : List Report) (night now : Int) (hf : 61 < fuel) : fog_Possible fuel p l night now = some (possR p l night now) := by
 unfold fog_Possible possR
 refine Wp.eq (wp_bindE (fasked_eq p l night now) (wp_ifn (fun h => ?_) (fun h => ?_)))
 · rw [if_pos h]; exact wp_some rfl
 · rw [if_neg (by simp [h])]
   obtain ⟨V, R, D⟩ := askR_zero.1 h
   exact wp_bindE (fpossible_eq V R.len ⟨D.1, D.2.1⟩ hf) (wp_some rfl)
theorem poss_leaf {p : List Node} (V : PolOk p) {l : List Report} {night now j : Int} (h : j ∈ possL p l night now) : 0 ≤ j ∧ j < p.length ∧ SendsOk (nd p j.toNat).Sends := by
 have hlen := V.len
 obtain ⟨h1, h2⟩ := (possL_mem V).1 h
 have := reach_in V h1 (by omega) (by omega)
 exact ⟨this.1, this.2, ((V.node j.toNat (by omega)).1 h2).2⟩
end Go.Sp
end
/- Plain laws, fog: made policies are valid. No program in sight. -/
section
set_option linter.all false
namespace Go.Sp
open Go.Av
set_option maxRecDepth 100000
theorem leaf_wp (a : Arr4 Int) : Wp (gasolierref05_leaf a) (fun n => n.Test = false ∧ LeafOk n) := by
 unfold gasolierref05_leaf
 obtain ⟨b, eb, b1, b2⟩ := mod5_eq a.x1 (m := 2) (by omega) (by omega)
 obtain ⟨c, ec, c1, c2⟩ := mod5_eq a.x2 (m := 3) (by omega) (by omega)
 obtain ⟨d, ed, d1, d2⟩ := mod5_eq a.x3 (m := 3) (by omega) (by omega)
 refine wp_join (fun s : List Send => s = [] ∨ s = [⟨1 + b, 1 + c⟩]) (fun K hK => wp_bif (fun _ => ?_) (fun _ => hK _ (.inl rfl))) (fun s hs => ?_)
 · exact wp_bindE eb (wp_mustI (by omega) (wp_bindE ec (wp_mustI (by omega) (wp_mustR (by simp) (hK _ (.inr rfl))))))
 · refine wp_join (fun s' : List Send => s' = s ∨ s' = s ++ [⟨3 + b, 1 + d⟩]) (fun K hK => wp_bif (fun _ => ?_) (fun _ => hK _ (.inl rfl))) (fun s' hs' => wp_some ⟨rfl, ⟨rfl, rfl, rfl, rfl, rfl, rfl⟩, ?_⟩)
   · exact wp_bindE eb (wp_mustI (by omega) (wp_bindE ed (wp_mustI (by omega) (wp_mustR (by rcases hs with rfl | rfl <;> simp) (hK _ (.inr rfl))))))
   · simp only
     rcases hs with rfl | rfl <;> rcases hs' with rfl | rfl
     · exact ⟨by simp, fun i hi => absurd hi (Nat.not_lt_zero _)⟩
     · refine ⟨by simp, fun i hi => ?_⟩
       have : i = 0 := by simpa using hi
       subst this
       refine ⟨?_, ?_, fun h => absurd h (Nat.lt_irrefl 0)⟩
       · show 1 ≤ 3 + b ∧ 3 + b ≤ 9; omega
       · show 1 ≤ 1 + d ∧ 1 + d ≤ 20; omega
     · refine ⟨by simp, fun i hi => ?_⟩
       have : i = 0 := by simpa using hi
       subst this
       refine ⟨?_, ?_, fun h => absurd h (Nat.lt_irrefl 0)⟩
       · show 1 ≤ 1 + b ∧ 1 + b ≤ 9; omega
       · show 1 ≤ 1 + c ∧ 1 + c ≤ 20; omega
     · refine ⟨by simp, fun i hi => ?_⟩
       have : i = 0 ∨ i = 1 := by simp at hi; omega
       rcases this with rfl | rfl
       · refine ⟨?_, ?_, fun h => absurd h (Nat.lt_irrefl 0)⟩
         · show 1 ≤ 1 + b ∧ 1 + b ≤ 9; omega
         · show 1 ≤ 1 + c ∧ 1 + c ≤ 20; omega
       · refine ⟨?_, ?_, fun _ => ?_⟩
         · show 1 ≤ 3 + b ∧ 3 + b ≤ 9; omega
         · show 1 ≤ 1 + d ∧ 1 + d ≤ 20; omega
         · show 1 + b < 3 + b; omega
def PreOk (out : List Node) (i j : Nat) : Prop := ((nd out j).Test = false → LeafOk (nd out j)) ∧ ((nd out j).Test = true → TestHead (nd out j) ∧ ∀ k ∈ fol3 (nd out j), ((j : Int) + 1 ≤ k ∧ k ≤ (out.length : Int) - 1) ∧ (k.toNat < i → (nd out k.toNat).Test = true → (nd out j).Minute ≤ (nd out k.toNat).Minute) ∧ (i ≤ k.toNat → (nd out j).Minute ≤ (nd out k.toNat).Minute))
structure Pre (t i : Nat) (out : List Node) : Prop where
 len : out.length = 1 + 3 * t
 few : t ≤ 4
 at_ : i ≤ out.length
 nms : names (out.take i) = (List.range (3 * t)).map (fun j : Nat => (j : Int) + 1)
 done : ∀ j, j < i → PreOk out i j
 rest : ∀ j, i ≤ j → j < out.length → (nd out j).Test = false ∧ 0 ≤ (nd out j).Minute ∧ (nd out j).Minute ≤ 1439
theorem pre_ok {t : Nat} {out : List Node} (h : Pre t out.length out) : PolOk out := by
 have hn := h.nms
 rw [List.take_length] at hn
 have hl := h.len
 have hf := h.few
 refine ⟨by omega, fun i hi => ?_, ?_, ?_⟩
 · obtain ⟨d1, d2⟩ := h.done i hi
   refine ⟨d1, fun ht => ⟨(d2 ht).1, fun k hk => ?_⟩⟩
   have := (d2 ht).2 k hk
   exact ⟨this.1, fun hk' => this.2.1 (by omega) hk'⟩
 · rw [hn]; exact nodup_inj List.nodup_range (fun x _ y _ h => by omega)
 · rw [hn]; simp; omega
theorem nd_set {out : List Node} {i j : Nat} {T : Node} (hi : i < out.length) : nd (out.set i T) j = if j = i then T else nd out j := getD_set out i j T default hi
theorem nd_app {out L : List Node} {j : Nat} : nd (out ++ L) j = if j < out.length then nd out j else nd L (j - out.length) := getD_append out L j default
theorem take_set_app {out L : List Node} {i : Nat} {T : Node} (hi : i < out.length) : (out.set i T ++ L).take (i + 1) = out.take i ++ [T] := by
 rw [List.take_append_of_le_length (by simp; omega), take_set_le hi]
theorem names_snoc (l : List Node) (T : Node) : names (l ++ [T]) = names l ++ nm T := by unfold names; rw [List.flatMap_append]; simp
theorem pre_leaf {t i : Nat} {out : List Node} {T : Node} (h : Pre t i out) (hi : i < out.length) (ht : T.Test = false) (hT : LeafOk T) : Pre t (i + 1) (out.set i T) := by
 refine ⟨by rw [List.length_set]; exact h.len, h.few, by rw [List.length_set]; exact hi, ?_, fun j hj => ?_, fun j hj hj2 => ?_⟩
 · rw [take_set_le hi, names_snoc, h.nms]
   have : nm T = [] := by unfold nm; rw [if_neg (by rw [ht]; simp)]
   rw [this, List.append_nil]
 · by_cases e : j = i
   · subst e
     have e2 : nd (out.set j T) j = T := by rw [nd_set hi, if_pos rfl]
     unfold PreOk
     rw [e2]
     exact ⟨fun _ => hT, fun h => by rw [ht] at h; cases h⟩
   · have e2 : nd (out.set i T) j = nd out j := by rw [nd_set hi, if_neg e]
     obtain ⟨d1, d2⟩ := h.done j (by omega)
     unfold PreOk
     rw [e2, List.length_set]
     refine ⟨d1, fun hj' => ⟨(d2 hj').1, fun k hk => ?_⟩⟩
     obtain ⟨g1, g2, g3⟩ := (d2 hj').2 k hk
     refine ⟨g1, fun hk1 => ?_, fun hk1 => ?_⟩
     · by_cases e3 : k.toNat = i
       · rw [nd_set hi, if_pos e3]; intro h; rw [ht] at h; cases h
       · rw [nd_set hi, if_neg e3]; exact g2 (by omega)
     · rw [nd_set hi, if_neg (by omega)]; exact g3 (by omega)
 · rw [List.length_set] at hj2
   rw [nd_set hi, if_neg (by omega)]
   exact h.rest j (by omega) hj2
def rawNode (m : Int) : Node := ⟨false, 0, m, 0, 0, 0, 0, []⟩
theorem pre_test {t i : Nat} {out : List Node} {T : Node} (h : Pre t i out) (hi : i < out.length) (h4 : t < 4) (ht : T.Test = true) (hT : TestHead T) (hf : fol3 T = [(out.length : Int), (out.length : Int) + 1, (out.length : Int) + 2]) (hm : (nd out i).Minute ≤ T.Minute) :
   Pre (t + 1) (i + 1) (out.set i T ++ List.replicate 3 (rawNode T.Minute)) := by
 have hl := h.len
 have hlen : (out.set i T ++ List.replicate 3 (rawNode T.Minute)).length = out.length + 3 := by simp
 have e0 : ∀ j, nd (out.set i T ++ List.replicate 3 (rawNode T.Minute)) j = if j < out.length then (if j = i then T else nd out j) else (if j < out.length + 3 then rawNode T.Minute else default) := by
   intro j
   rw [nd_app, List.length_set]
   by_cases hj : j < out.length
   · rw [if_pos hj, if_pos hj, nd_set hi]
   · rw [if_neg hj, if_neg hj]
     by_cases hj3 : j < out.length + 3
     · rw [if_pos hj3]
       have : j - out.length = 0 ∨ j - out.length = 1 ∨ j - out.length = 2 := by omega
       rcases this with e | e | e <;> rw [e] <;> rfl
     · rw [if_neg hj3]
       unfold nd
       rw [List.getD_eq_getElem?_getD, List.getElem?_eq_none (by simp; omega)]; rfl
 refine ⟨by rw [hlen]; omega, by omega, by rw [hlen]; omega, ?_, fun j hj => ?_, fun j hj hj2 => ?_⟩
 · rw [take_set_app hi, names_snoc, h.nms]
   have : nm T = fol3 T := by unfold nm; rw [if_pos ht]
   rw [this, hf, hl]
   have : 3 * (t + 1) = 3 * t + 1 + 1 + 1 := by omega
   rw [this, List.range_succ, List.range_succ, List.range_succ]
   simp only [List.map_append, List.map_cons, List.map_nil, List.append_assoc]
   congr 1
   simp only [List.singleton_append, List.cons.injEq, and_true]
   refine ⟨by omega, by omega, by omega⟩
 · by_cases e : j = i
   · subst e
     have e2 : nd (out.set j T ++ List.replicate 3 (rawNode T.Minute)) j = T := by rw [e0, if_pos hi, if_pos rfl]
     unfold PreOk
     rw [e2, hlen]
     refine ⟨fun h => (by rw [ht] at h; cases h), fun _ => ⟨hT, fun k hk => ?_⟩⟩
     have hk' : (out.length : Int) ≤ k ∧ k ≤ (out.length : Int) + 2 := by
       rw [hf] at hk
       simp only [List.mem_cons, List.not_mem_nil, or_false] at hk
       omega
     have e3 : nd (out.set j T ++ List.replicate 3 (rawNode T.Minute)) k.toNat = rawNode T.Minute := by rw [e0, if_neg (by omega), if_pos (by omega)]
     rw [e3]
     exact ⟨by omega, fun h => by omega, fun _ => Int.le_refl _⟩
   · have e2 : nd (out.set i T ++ List.replicate 3 (rawNode T.Minute)) j = nd out j := by rw [e0, if_pos (by omega), if_neg e]
     obtain ⟨d1, d2⟩ := h.done j (by omega)
     unfold PreOk
     rw [e2, hlen]
     refine ⟨d1, fun hj' => ⟨(d2 hj').1, fun k hk => ?_⟩⟩
     obtain ⟨g1, g2, g3⟩ := (d2 hj').2 k hk
     refine ⟨by omega, fun hk1 => ?_, fun hk1 => ?_⟩
     · by_cases e3 : k.toNat = i
       · rw [e0, if_pos (by omega), if_pos e3]; intro _
         have := g3 (by omega)
         rw [e3] at this; omega
       · rw [e0, if_pos (by omega), if_neg e3]; exact g2 (by omega)
     · rw [e0, if_pos (by omega), if_neg (by omega)]; exact g3 (by omega)
 · rw [hlen] at hj2
   rw [e0]
   by_cases hj3 : j < out.length
   · rw [if_pos hj3, if_neg (by omega)]; exact h.rest j (by omega) hj3
   · rw [if_neg hj3, if_pos hj2]
     exact ⟨rfl, hT.2.1⟩
theorem policy_wp {fuel : Nat} (hf : 100 < fuel) (q : List (Arr4 Int)) (hq : q.length ≤ 1000000000000000000) : Wp (gasolierref05_Policy fuel q) PolOk := by
 unfold gasolierref05_Policy
 refine wp_ifd (fun h0 => ?_) (fun h0 => ?_)
 · refine wp_bind (leaf_wp _) (fun n hn => wp_some ?_)
   refine pre_ok (t := 0) ?_
   have P0 : Pre 0 0 [rawNode 0] := ⟨rfl, by omega, by simp, rfl, fun j hj => by omega, fun j hj hj2 => by
     have : j = 0 := by simpa using hj2
     subst this; exact ⟨rfl, by decide⟩⟩
   exact pre_leaf P0 (by simp) hn.1 hn.2
 · have P0 : Pre 0 0 [rawNode 0] := ⟨rfl, by omega, by simp, rfl, fun j hj => by omega, fun j hj hj2 => by
     have : j = 0 := by simpa using hj2
     subst this; exact ⟨rfl, by decide⟩⟩
   refine wp_loop (fun s : Int × Int × List Node => ∃ t i : Nat, s.1 = (t : Int) ∧ s.2.1 = (i : Int) ∧ Pre t i s.2.2) (fun s => 14 - s.2.1.toNat) (by simp only; omega) ⟨0, 0, rfl, rfl, P0⟩ ?_
   rintro ⟨s1, s2, out⟩ K ⟨t, i, h1, h2, P⟩ hK
   simp only at h1 h2 P hK
   subst h1 h2
   have hl := P.len
   have h4 := P.few
   refine wp_ifd (fun hlt => ?_) (fun hge => wp_some ?_)
   · have hi : i < out.length := by simp only at hlt; omega
     obtain ⟨y, ey, y1, y2⟩ := mod5_eq (i : Int) (m := ((q.length : Nat) : Int)) (by omega) (by omega)
     refine wp_bindE ey (wp_must (by omega) (wp_must (by simp only; omega) ?_))
     generalize hg : q.getD y.toNat default = g
     have R := P.rest i (Nat.le_refl _) hi
     simp only [Int.toNat_natCast]
     have en : out.getD i default = nd out i := rfl
     simp only [en]
     refine wp_bif (fun hb => ?_) (fun hb => ?_)
     · have ht4 : t < 4 := by
         simp only [Bool.and_eq_true, decide_eq_true_eq] at hb; omega
       obtain ⟨a, ea, a1, a2⟩ := mod5_eq g.x1 (m := 3) (by omega) (by omega)
       obtain ⟨b, eb, b1, b2⟩ := mod5_eq g.x2 (m := 300) (by omega) (by omega)
       obtain ⟨c, ec, c1, c2⟩ := mod5_eq g.x3 (m := 900) (by omega) (by omega)
       refine wp_mustI (by omega) (wp_bindE ea (wp_mustI (by omega) (wp_bindE eb (wp_mustI (by omega) (wp_bindE ec (wp_mustI (by omega) (wp_mustI (by omega) (wp_mustI (by omega) (wp_must (by omega) ?_)))))))))
       generalize hT : (⟨true, (1 + a), (min 1439 ((nd out i).Minute + b)), (1 + c), ((out.length : Nat) : Int), (((out.length : Nat) : Int) + 1), (((out.length : Nat) : Int) + 2), []⟩ : Node) = T
       have hTt : T.Test = true := by rw [← hT]
       have hTm : T.Minute = min 1439 ((nd out i).Minute + b) := by rw [← hT]
       have hTh : TestHead T := by rw [← hT]; unfold TestHead; dsimp only; exact ⟨by omega, by omega, by omega, rfl⟩
       have hTf : fol3 T = [(out.length : Int), (out.length : Int) + 1, (out.length : Int) + 2] := by rw [← hT]; rfl
       have P' := pre_test P hi ht4 hTt hTh hTf (by omega)
       refine wp_for 3 (by omega) (fun m (o : List Node) => o = out.set i T ++ List.replicate m (rawNode T.Minute)) (by simp) (fun m o K2 hm hI hK2 => ?_)
       subst hI
       have hol : (out.set i T ++ List.replicate m (rawNode T.Minute)).length = out.length + m := by simp
       have hoi : (out.set i T ++ List.replicate m (rawNode T.Minute)).getD i default = T := by
         show nd _ i = T
         rw [nd_app, List.length_set, if_pos hi, nd_set hi, if_pos rfl]
       refine wp_ifd (fun hlt3 => ?_) (fun hge3 => ?_)
       · simp only [hoi]
         have er : (⟨false, 0, T.Minute, 0, 0, 0, 0, []⟩ : Node) = rawNode T.Minute := rfl
         simp only [er]
         refine wp_must (by simp only [hol]; omega) (wp_mustR (by rw [List.length_append, hol]; simp only [List.length_cons, List.length_nil]; omega) (wp_mustI (by omega) (hK2 _ (by simp only at hlt3; omega) ?_)))
         rw [List.append_assoc, ← List.replicate_succ']
       · have hm3 : m = 3 := by simp only at hge3; omega
         subst hm3
         refine wp_mustI (by omega) (hK _ ⟨t + 1, i + 1, by simp, by simp, P'⟩ (by simp only; omega))
     · refine wp_bind (leaf_wp g) (fun n hn => wp_must (by omega) (wp_mustI (by omega) (hK _ ⟨t, i + 1, rfl, by simp, pre_leaf P hi hn.1 hn.2⟩ (by simp only; omega))))
   · have hie : i = out.length := by have := P.at_; simp only at hge; omega
     rw [hie] at P
     exact pre_ok P
end Go.Sp
end
/- Plain laws, fog: no foresight. No program in sight. -/
section
set_option linter.all false
namespace Go.Sp
open Go.Av
set_option maxRecDepth 100000
theorem askR_made {p : List Node} {x : List Report} {m : Int} (V : PolOk p) (R : RepsOk x) (h : 0 ≤ m ∧ m ≤ 144001439) : askR p x 3 m = 0 := askR_zero.2 ⟨V, R, by unfold dayOk; omega⟩
end Go.Sp
end
/- Plain laws, fog: what moves without a report. No program in sight. -/
section
set_option linter.all false
namespace Go.Sp
open Go.Av
set_option maxRecDepth 100000
end Go.Sp
end
/- Plain laws, fog: what may still be, with true reports. No program in sight. -/
section
set_option linter.all false
namespace Go.Sp
open Go.Av
set_option maxRecDepth 100000
end Go.Sp
end
/- Plain laws, fog: runners, and whether they can be given to places. No program in sight. -/
section
set_option linter.all false
namespace Go.Sp
open Go.Av
set_option maxRecDepth 100000
def rn (r : List Runner) (j : Nat) : Runner := r.getD j default
structure RunOk (r : List Runner) (i : Nat) : Prop where
 id_ : 1 ≤ (rn r i).Id ∧ (rn r i).Id ≤ 99
 up : 0 < i → (rn r (i - 1)).Id < (rn r i).Id
 len : 1 ≤ (rn r i).Districts.length ∧ (rn r i).Districts.length ≤ 9
 dist : ∀ k, k < (rn r i).Districts.length → (1 ≤ (rn r i).Districts.getD k default ∧ (rn r i).Districts.getD k default ≤ 9) ∧ (0 < k → (rn r i).Districts.getD (k - 1) default < (rn r i).Districts.getD k default)
structure RunsOk (r : List Runner) : Prop where
 len : r.length ≤ 20
 all : ∀ i, i < r.length → RunOk r i
theorem fcheckRunners_wp (r : List Runner) : Wp (fog_CheckRunners r) (fun e => (RunsOk r ∧ e = 0) ∨ (¬ RunsOk r ∧ e = 54)) := by
 unfold fog_CheckRunners
 refine wp_ifd (fun h => wp_some (.inr ⟨fun V => by have := V.len; omega, rfl⟩)) (fun h => ?_)
 refine wp_forall (fun i => RunOk r i) (fun i K hi hI hK => ?_) (fun h2 => wp_some (.inl ⟨⟨by omega, h2⟩, rfl⟩))
 have en : r.getD i default = rn r i := rfl
 have e1 : (((i : Int) - 1)).toNat = i - 1 := by omega
 have en1 : r.getD (i - 1) default = rn r (i - 1) := rfl
 refine wp_must (fun _ => by unfold inI; omega) (wp_must (fun h => by simp at h; omega) ?_)
 rw [e1, en, en1]
 refine wp_bif (fun hb => wp_some (.inr ⟨fun V => ?_, rfl⟩)) (fun hb => ?_)
 · have O := V.all i hi
   simp only [Bool.or_eq_true, Bool.and_eq_true, decide_eq_true_eq, Bool.not_eq_true', ← Bool.not_eq_true, fwithin_iff] at hb
   have o1 := O.id_; have o2 := O.up; have o3 := O.len
   rcases hb with (hb | hb) | hb
   · exact hb o1
   · have := o2 (by omega); omega
   · exact hb (by omega)
 · simp only [Bool.or_eq_false_iff, Bool.and_eq_false_iff, Bool.not_eq_false', decide_eq_false_iff_not, fwithin_iff] at hb
   obtain ⟨⟨b1, b2⟩, b3⟩ := hb
   refine wp_forall (fun k => (1 ≤ (rn r i).Districts.getD k default ∧ (rn r i).Districts.getD k default ≤ 9) ∧ (0 < k → (rn r i).Districts.getD (k - 1) default < (rn r i).Districts.getD k default)) (fun k K2 hk _ hK2 => ?_) (fun h3 => hK ⟨b1, fun h0 => by rcases b2 with b | b <;> omega, by omega, h3⟩)
   have e2 : (((k : Int) - 1)).toNat = k - 1 := by omega
   refine wp_must (fun _ => by unfold inI; omega) (wp_must (fun h => by simp at h; omega) ?_)
   rw [e2]
   unfold fog_isDistrict
   refine wp_bif (fun hc => wp_some (.inr ⟨fun V => ?_, rfl⟩)) (fun hc => hK2 ?_)
   · have := (V.all i hi).dist k hk
     simp only [Bool.or_eq_true, Bool.and_eq_true, decide_eq_true_eq, Bool.not_eq_true', ← Bool.not_eq_true, fwithin_iff] at hc
     rcases hc with hc | hc
     · exact hc this.1
     · have := this.2 (by omega); omega
   · simp only [Bool.or_eq_false_iff, Bool.and_eq_false_iff, Bool.not_eq_false', decide_eq_false_iff_not, fwithin_iff] at hc
     exact ⟨hc.1, fun h0 => by rcases hc.2 with b | b <;> omega⟩
theorem frun_ok {r : List Runner} (h : RunsOk r) : fog_CheckRunners r = some 0 := by
 obtain ⟨x, e, k⟩ := fcheckRunners_wp r
 rcases k with ⟨_, k⟩ | ⟨k, _⟩
 · rw [e, k]
 · exact absurd h k
theorem frun_bad {r : List Runner} (h : ¬ RunsOk r) : fog_CheckRunners r = some 54 := by
 obtain ⟨x, e, k⟩ := fcheckRunners_wp r
 rcases k with ⟨k, _⟩ | ⟨_, k⟩
 · exact absurd k h
 · rw [e, k]
def sbl (s : List Bool) : Nat → Bool := fun k => s.getD k false
def owl (s : List Int) : Nat → Int := fun k => s.getD k (-1)
def madj (r : List Runner) (P : List Int) (bar : List Bool) (i j : Nat) : Prop := bar.getD j default = false ∧ P.getD i default ∈ (rn r j).Districts
structure GS (r : List Runner) (P : List Int) (bar : List Bool) (g : fog_giver) : Prop where
 run : g.runners = r
 pl : g.places = P
 bar_ : g.barred = bar
 len : g.of.length = r.length
 lt : ∀ j, j < r.length → g.of.getD j default < P.length
theorem getD_any {T : Type} {l : List T} {i : Nat} (h : i < l.length) (d e : T) : l.getD i d = l.getD i e := by
 rw [List.getD_eq_getElem?_getD, List.getD_eq_getElem?_getD, List.getElem?_eq_getElem h]; rfl
theorem sbl_set {s : List Bool} {j : Nat} (h : j < s.length) : sbl (s.set j true) = fun k => sbl s k || decide (k = j) := by
 funext k
 unfold sbl
 rw [getD_set _ _ _ _ _ h]
 by_cases e : k = j
 · simp [e]
 · simp [e]
theorem owl_set {s : List Int} {j : Nat} {x : Int} (h : j < s.length) : owl (s.set j x) = fun k => if k = j then x else owl s k := by
 funext k
 unfold owl
 rw [getD_set _ _ _ _ _ h]
theorem may_eq {r : List Runner} {P : List Int} {bar : List Bool} {g : fog_giver} (h1 : g.runners = r) (h2 : g.places = P) (h3 : g.barred = bar) (hb : bar.length = r.length) {i j : Nat} (hi : i < P.length) (hj : j < r.length) : fog_giver__may g (j : Int) (i : Int) = some (!(bar.getD j default) && decide (P.getD i default ∈ (rn r j).Districts)) := by
 unfold fog_giver__may
 rw [h1, h2, h3]
 refine Wp.eq (wp_must (by omega) (wp_must (fun _ => by omega) (wp_must (fun _ => by omega) ?_)))
 simp only [Int.toNat_natCast]
 cases h : bar.getD j default with
 | true => exact wp_offE rfl rfl (wp_some rfl)
 | false => exact wp_onE rfl (contains_eq _ _) (wp_some rfl)
theorem step_wp {r : List Runner} {P : List Int} {bar : List Bool} (hr : r.length ≤ 20) (hb : bar.length = r.length) (fuel : Nat) :
   ∀ (f i : Nat) (g : fog_giver) (seen : List Bool) (back : Nat → Int), i < P.length → GS r P bar g → seen.length = r.length → mu r.length (sbl seen) < f →
     Wp (fog_giver__step_l fuel f g (i : Int) seen) (fun y => GS r P bar y.2.1 ∧ y.2.2.length = r.length ∧ ∃ back', Srch (madj r P bar) r.length i 0 ⟨sbl seen, owl g.of, back⟩ y.1 ⟨sbl y.2.2, owl y.2.1.of, back'⟩)
 | 0, i, g, seen, back, _, _, _, h => by omega
 | f + 1, i, g, seen, back, hi, G, hsl, hmu => by
   have ih := step_wp hr hb fuel f (P := P)
   show Wp (fog_giver__step_l_F fuel (fog_giver__step_l fuel f) g (i : Int) seen) _
   unfold fog_giver__step_l_F
   rw [G.run, G.pl, G.bar_]
   refine wp_must (by omega) ?_
   refine wp_range (fun j (s : (List Int) × (List Bool) × (List Bool) × (List Runner) × (List Int)) => GS r P bar ⟨s.2.2.2.1, s.2.2.2.2, s.1, s.2.1⟩ ∧ s.2.2.1.length = r.length ∧ mu r.length (sbl s.2.2.1) ≤ mu r.length (sbl seen) ∧ ∃ bk, ∀ b s', Srch (madj r P bar) r.length i j ⟨sbl s.2.2.1, owl s.1, bk⟩ b s' → Srch (madj r P bar) r.length i 0 ⟨sbl seen, owl g.of, back⟩ b s')
     ⟨⟨rfl, rfl, rfl, G.len, G.lt⟩, hsl, Nat.le_refl _, back, fun _ _ h => h⟩ (fun j s K hj hI hK => ?_) (fun s hI => ?_)
   · obtain ⟨of1, bar1, seen1, run1, pl1⟩ := s
     obtain ⟨G1, hs1, hmu1, bk, hsr⟩ := hI
     dsimp only at G1 hs1 hmu1 hsr hK ⊢
     refine wp_join (fun s : (List Runner) × (List Int) × (List Int) × (List Bool) × (List Bool) => GS r P bar ⟨s.1, s.2.1, s.2.2.1, s.2.2.2.1⟩ ∧ s.2.2.2.2.length = r.length ∧ mu r.length (sbl s.2.2.2.2) ≤ mu r.length (sbl seen) ∧ ∃ bk, ∀ b s', Srch (madj r P bar) r.length i (j + 1) ⟨sbl s.2.2.2.2, owl s.2.2.1, bk⟩ b s' → Srch (madj r P bar) r.length i 0 ⟨sbl seen, owl g.of, back⟩ b s') (fun K2 hK2 => ?_) (fun s hs => hK _ hs)
     have hof := G1.len
     have hlt := G1.lt j hj
     dsimp only at hof hlt
     have em := may_eq G1.run G1.pl G1.bar_ hb hi hj
     have esb : sbl seen1 j = seen1.getD j default := rfl
     have eow : owl of1 j = of1.getD j default := getD_any (by omega) _ _
     refine wp_must (by omega) ?_
     cases hs : seen1.getD j default with
     | true =>
       refine wp_offE rfl rfl (wp_true rfl (hK2 _ ⟨G1, hs1, hmu1, bk, fun b s' h => hsr b s' (.skip hj (fun _ => by show sbl seen1 j = true; rw [esb, hs]) h)⟩))
     | false =>
       refine wp_onE rfl em ?_
       refine wp_bif (fun hc => hK2 _ ⟨G1, hs1, hmu1, bk, fun b s' h => hsr b s' (.skip hj (fun ha => ?_) h)⟩) (fun hc => ?_)
       · exfalso
         rw [ha.1, decide_eq_true ha.2] at hc; cases hc
       · have hadj : madj r P bar i j := by
           simp only [Bool.false_or, Bool.not_eq_false', Bool.and_eq_true, Bool.not_eq_true', decide_eq_true_eq] at hc
           exact hc
         have hsee : ∀ bk', (⟨sbl (seen1.set j true), owl of1, bk'⟩ : Ks) = Ks.see ⟨sbl seen1, owl of1, bk'⟩ j := fun bk' => by unfold Ks.see; rw [sbl_set (by omega)]
         have hmu2 : mu r.length (sbl (seen1.set j true)) < mu r.length (sbl seen1) := by
           rw [sbl_set (by omega)]
           exact mu_lt (j := j) (fun k h => by simp [h]) hj (by rw [esb, hs]) (by simp)
         refine wp_must (by omega) (wp_must (by omega) (wp_must (fun _ => by omega) ?_))
         have hs2 : (seen1.set j true).length = r.length := by rw [List.length_set]; exact hs1
         refine wp_bind (Q := fun y : Bool × fog_giver × List Bool => GS r P bar y.2.1 ∧ y.2.2.length = r.length ∧ mu r.length (sbl y.2.2) ≤ mu r.length (sbl seen1) ∧ ((of1.getD j default < 0 ∧ y = (default, ⟨run1, pl1, of1, bar1⟩, seen1.set j true)) ∨ ∃ (o : Nat) (bk' : Nat → Int), of1.getD j default = (o : Int) ∧ Srch (madj r P bar) r.length o 0 (Ks.see ⟨sbl seen1, owl of1, bk⟩ j) y.1 ⟨sbl y.2.2, owl y.2.1.of, bk'⟩)) ?_ (fun y hy => ?_)
         · by_cases h0 : of1.getD j default < 0
           · rw [decide_eq_true h0]
             exact wp_some ⟨G1, hs2, Nat.le_of_lt hmu2, .inl ⟨h0, rfl⟩⟩
           · rw [decide_eq_false h0]
             obtain ⟨o, ho⟩ := Int.eq_ofNat_of_zero_le (show 0 ≤ of1.getD j default by omega)
             rw [ho]
             refine (ih o ⟨run1, pl1, of1, bar1⟩ (seen1.set j true) bk (by omega) G1 hs2 (by omega)).mono (fun y hy => ?_)
             obtain ⟨y1, y2, bk', y3⟩ := hy
             rw [hsee] at y3
             refine ⟨y1, y2, ?_, .inr ⟨o, bk', rfl, y3⟩⟩
             have := mu_mono (n := r.length) y3.mono
             refine Nat.le_trans this ?_
             have e := congrArg Ks.seen (hsee bk)
             have e' : (Ks.see ⟨sbl seen1, owl of1, bk⟩ j).seen = sbl (seen1.set j true) := e.symm
             rw [e']; exact Nat.le_of_lt hmu2
         · obtain ⟨b, g3, seen3⟩ := y
           obtain ⟨G3, hs3, hmu3, hy⟩ := hy
           dsimp only at G3 hs3 hmu3 hy ⊢
           have hof3 := G3.len
           refine wp_must (by omega) (wp_must (by omega) (wp_bif (fun hb' => wp_must (by omega) (wp_some ?_)) (fun hb' => ?_)))
           · refine ⟨⟨G3.run, G3.pl, G3.bar_, by dsimp only; rw [List.length_set]; exact hof3, fun k hk => ?_⟩, hs3, ?_⟩
             · dsimp only
               rw [getD_set _ _ _ _ _ (by omega)]
               split
               · omega
               · exact G3.lt k hk
             · dsimp only
               rcases hy with ⟨h0, e⟩ | ⟨o, bk', h0, h1⟩
               · cases e
                 refine ⟨(Ks.give (Ks.see ⟨sbl seen1, owl of1, bk⟩ j) j i).back, hsr _ _ ?_⟩
                 have := Srch.free (adj := madj r P bar) (m := r.length) (s := ⟨sbl seen1, owl of1, bk⟩) hj hadj (by show sbl seen1 j = false; rw [esb, hs]) (by show owl of1 j < 0; omega)
                 rw [← hsee bk] at this
                 rw [owl_set (by omega)]
                 exact this
               · rw [decide_eq_false (by omega)] at hb'
                 have hb' : b = true := by simpa using hb'
                 subst hb'
                 refine ⟨(Ks.give ⟨sbl seen3, owl g3.of, bk'⟩ j i).back, hsr _ _ ?_⟩
                 rw [owl_set (by omega)]
                 exact Srch.aug (s := ⟨sbl seen1, owl of1, bk⟩) hj hadj (by show sbl seen1 j = false; rw [esb, hs]) (by show owl of1 j = (o : Int); omega) h1
           · rcases hy with ⟨h0, e⟩ | ⟨o, bk', h0, h1⟩
             · rw [decide_eq_true h0] at hb'; cases hb'
             · have hb2 : b = false := by
                 cases b with
                 | false => rfl
                 | true => simp at hb'
               subst hb2
               refine hK2 _ ⟨⟨G3.run, G3.pl, G3.bar_, hof3, G3.lt⟩, hs3, by dsimp only; omega, bk', fun b' s' h => hsr _ _ (.fail (s := ⟨sbl seen1, owl of1, bk⟩) hj hadj (by show sbl seen1 j = false; rw [esb, hs]) (by show owl of1 j = (o : Int); omega) h1 h)⟩
   · obtain ⟨h1, h2, _, bk, h3⟩ := hI
     exact wp_some ⟨h1, h2, bk, h3 _ _ (.done (Nat.le_refl _))⟩
def Full (r : List Runner) (P : List Int) (bar : List Bool) (k : Nat) : Prop := InjK (madj r P bar) r.length (fun i => k ≤ i ∧ i < P.length)
structure GF (r : List Runner) (P : List Int) (bar : List Bool) (g : fog_giver) : Prop where
 run : g.runners = r
 pl : g.places = P
 bar_ : g.barred = bar
 len : g.of.length = r.length
theorem GS.gf {r : List Runner} {P : List Int} {bar : List Bool} {g : fog_giver} (h : GS r P bar g) : GF r P bar g := ⟨h.run, h.pl, h.bar_, h.len⟩
theorem full_wp {r : List Runner} {P : List Int} {bar : List Bool} {g : fog_giver} (hr : r.length ≤ 20) (hP : P.length ≤ 1000) (hb : bar.length = r.length) {fuel : Nat} (hf : 1100 < fuel) {k : Nat} (hk : k ≤ P.length) (G : GF r P bar g) :
   Wp (fog_giver__full_l fuel g (k : Int)) (fun y => (y.1 = true ↔ Full r P bar k) ∧ GF r P bar y.2) := by
 unfold fog_giver__full_l
 rw [G.run, G.pl, G.bar_]
 have hgl := G.len
 refine wp_must (by omega) ?_
 refine wp_range (fun j (s : List Int) => s.length = r.length ∧ ∀ q, q < j → s.getD q default = -1) ⟨hgl, fun q hq => by omega⟩ (fun j s K hj hI hK => ?_) (fun s hI => ?_)
 · refine wp_must (by omega) (hK _ ⟨by rw [List.length_set]; exact hI.1, fun q hq => ?_⟩)
   rw [getD_set _ _ _ _ _ (by omega)]
   by_cases e : q = j
   · rw [if_pos e]
   · rw [if_neg e]; exact hI.2 q (by omega)
 · obtain ⟨hsl, hs⟩ := hI
   rw [hgl] at hs
   have hown : ∀ q, owl s q = -1 := fun q => by
     unfold owl
     by_cases h : q < s.length
     · rw [getD_any h (-1) default]; exact hs q (by omega)
     · rw [List.getD_eq_getElem?_getD, List.getElem?_eq_none (by omega)]; rfl
   refine wp_loop (fun t : Int × (List Int) × (List Bool) × (List Runner) × (List Int) => ∃ (i : Nat) (back : Nat → Int), t.1 = (i : Int) ∧ k ≤ i ∧ i ≤ P.length ∧ GS r P bar ⟨t.2.2.2.1, t.2.2.2.2, t.2.1, t.2.2.1⟩ ∧ Mat (madj r P bar) r.length ⟨fun _ => false, owl t.2.1, back⟩ ∧ ∀ x : Nat, 0 ≤ back x ↔ k ≤ x ∧ x < i)
     (fun t => P.length - t.1.toNat) (by simp only; omega) ⟨k, fun _ => -1, rfl, Nat.le_refl _, hk, ⟨rfl, rfl, rfl, hsl, fun j hj => by dsimp only; rw [hs j hj]; omega⟩, ⟨fun x hx => absurd hx (by show ¬ (0 : Int) ≤ -1; omega), fun q _ hx => absurd hx (by show ¬ 0 ≤ owl s q; rw [hown]; omega)⟩, fun x => ⟨fun h => absurd h (by show ¬ (0 : Int) ≤ -1; omega), fun h => by omega⟩⟩ ?_
   rintro ⟨t1, of1, bar1, run1, pl1⟩ K ⟨i, back, rfl, hki, hiP, G1, M, hbk⟩ hK
   dsimp only at G1 M hK ⊢
   have e1 := G1.run; have e2 := G1.pl; have e3 := G1.bar_
   dsimp only at e1 e2 e3
   refine wp_ifd (fun hlt => ?_) (fun hge => wp_some ⟨⟨fun _ => ?_, fun _ => rfl⟩, G1.gf⟩)
   · have hi : i < P.length := by rw [e2] at hlt; omega
     have hrl : run1.length = r.length := by rw [e1]
     refine wp_must (by rw [hrl]; unfold room; omega) ?_
     have hz : ∀ q, sbl (List.replicate (((run1.length : Nat) : Int)).toNat false) q = false := fun q => getD_replicate _ _ _
     have hzf : sbl (List.replicate (((run1.length : Nat) : Int)).toNat false) = fun _ => false := funext hz
     refine wp_bind (step_wp hr hb fuel fuel i ⟨run1, pl1, of1, bar1⟩ (List.replicate (((run1.length : Nat) : Int)).toNat false) back hi G1 (by rw [List.length_replicate, hrl]; rfl) (by have := mu_le r.length (sbl (List.replicate (((run1.length : Nat) : Int)).toNat false)); omega)) (fun y hy => ?_)
     obtain ⟨G2, hs2, back', H⟩ := hy
     rw [hzf] at H
     have hbi : back i < 0 := by
       apply Classical.byContradiction; intro h
       have := (hbk i).1 (by omega); omega
     cases hy1 : y.1 with
     | false =>
       rw [hy1] at H
       refine wp_true rfl (wp_some ⟨⟨fun h => (by cases h), fun ⟨g', g1, g2⟩ => ?_⟩, G2.gf⟩)
       exact (hallK M (fun _ => rfl) hbi H (R := fun x => k ≤ x ∧ x < P.length) ⟨hki, hi⟩ (fun x hx => by have := (hbk x).1 hx; omega) (g := g') g1 g2).elim
     | true =>
       rw [hy1] at H
       have W := H.win rfl M (fun q hq => by have hq : back i = (q : Int) := hq; omega)
       have hg2 := G2
       refine wp_false rfl (wp_mustI (by omega) (hK _ ⟨i + 1, back', by simp, by omega, hi, ⟨G2.run, G2.pl, G2.bar_, G2.len, G2.lt⟩, ?_, fun x => ?_⟩ (by simp only; omega)))
       · have := W.matK hbi
         exact ⟨this.back, this.own⟩
       · by_cases ex : x = i
         · subst ex
           obtain ⟨q, hq, _⟩ := W.new
           have hq : back' x = (q : Int) := hq
           exact ⟨fun _ => by omega, fun _ => by omega⟩
         · have : (0 ≤ back' x ↔ 0 ≤ back x) := (W.rest x ex).1
           rw [this, hbk x]; omega
   · have hie : i = P.length := by rw [e2] at hge; omega
     refine ⟨fun x => (back x).toNat, fun x hx => ?_, fun x y hx hy e => ?_⟩
     · obtain ⟨q, q1, q2, q3, q4⟩ := M.back x ((hbk x).2 (by omega))
       have q1 : back x = (q : Int) := q1
       dsimp only
       rw [q1, Int.toNat_natCast]; exact ⟨q2, q4⟩
     · obtain ⟨q, q1, q2, q3, q4⟩ := M.back x ((hbk x).2 (by omega))
       obtain ⟨q', q1', q2', q3', q4'⟩ := M.back y ((hbk y).2 (by omega))
       have q1 : back x = (q : Int) := q1
       have q1' : back y = (q' : Int) := q1'
       dsimp only at e
       rw [q1, q1', Int.toNat_natCast, Int.toNat_natCast] at e
       subst e
       have q3 : owl of1 q = (x : Int) := q3
       have q3' : owl of1 q = (y : Int) := q3'
       omega
def plL (l : List Send) : List Int := l.flatMap (fun s => List.replicate s.Many.toNat s.District)
theorem plL_take {l : List Send} {i : Nat} (h : i < l.length) : plL (l.take (i + 1)) = plL (l.take i) ++ List.replicate (sd l i).Many.toNat (sd l i).District := by
 unfold plL
 rw [take_getD h, List.flatMap_append]; simp [sd]
theorem plL_len {l : List Send} (h : SendsOk l) : ∀ {i : Nat}, i ≤ l.length → (plL (l.take i)).length ≤ 20 * i := by
 intro i
 induction i with
 | zero => intro _; simp [plL]
 | succ i ih =>
   intro hi
   have h1 := ih (by omega)
   have h2 := (h.2 i hi).2.1
   rw [plL_take hi, List.length_append, List.length_replicate]; omega
theorem plL_le {l : List Send} (h : SendsOk l) : (plL l).length ≤ 180 := by
 have h1 := plL_len h (Nat.le_refl l.length)
 rw [List.take_length] at h1
 have := h.1
 omega
theorem fplaces_eq {n : Node} (h : SendsOk n.Sends) : fog_places n = some (plL n.Sends) := by
 unfold fog_places
 have h9 := h.1
 refine Wp.eq (wp_range (fun i s => s = plL (n.Sends.take i)) (by simp [plL]) (fun i s K hi hI hK => ?_) (fun s hI => wp_some (by rw [hI, List.take_length])))
 have hm := (h.2 i hi).2.1
 have hl := plL_len h (i := i) (by omega)
 have en : n.Sends.getD i default = sd n.Sends i := rfl
 rw [en]
 refine wp_must (by omega) (wp_range (fun k t => t = s ++ List.replicate k (sd n.Sends i).District) (by simp) (fun k t K2 hk hJ hK2 => ?_) (fun t hJ => hK _ ?_))
 · refine wp_mustR (by rw [hJ, hI, List.length_append, List.length_append, List.length_replicate]; simp only [List.length_cons, List.length_nil]; omega) (hK2 _ ?_)
   rw [hJ, List.append_assoc, ← List.replicate_succ']
 · rw [hJ, hI, plL_take hi]
def nobar (r : List Runner) : List Bool := List.replicate r.length false
def Fit1 (r : List Runner) (P : List Int) (bar : List Bool) (k j : Nat) : Prop := madj r P bar k j ∧ Full r P (bar.set j true) (k + 1)
inductive Gre (r : List Runner) (P : List Int) : Nat → List Nat → List Bool → Prop
 | nil : Gre r P 0 [] (nobar r)
 | snoc {k : Nat} {js : List Nat} {bar : List Bool} {j : Nat} : Gre r P k js bar → k < P.length → j < r.length → Fit1 r P bar k j → (∀ q, q < j → ¬ Fit1 r P bar k q) → Gre r P (k + 1) (js ++ [j]) (bar.set j true)
theorem Gre.len {r : List Runner} {P : List Int} {k : Nat} {js : List Nat} {bar : List Bool} (h : Gre r P k js bar) : js.length = k ∧ bar.length = r.length := by
 induction h with
 | nil => exact ⟨rfl, by simp [nobar]⟩
 | snoc _ _ _ _ _ ih => exact ⟨by simp [ih.1], by rw [List.length_set]; exact ih.2⟩
theorem Gre.one {r : List Runner} {P : List Int} {k : Nat} {js : List Nat} {bar : List Bool} (h : Gre r P k js bar) : ∀ {js' : List Nat} {bar' : List Bool}, Gre r P k js' bar' → js = js' ∧ bar = bar' := by
 induction h with
 | nil => intro js' bar' h'; cases h'; exact ⟨rfl, rfl⟩
 | @snoc k js bar j h1 h2 h3 h4 h5 ih =>
   intro js' bar' h'
   cases h' with
   | @snoc _ js2 bar2 j2 g1 g2 g3 g4 g5 =>
     obtain ⟨e1, e2⟩ := ih g1
     subst e1 e2
     rcases Nat.lt_trichotomy j j2 with h | h | h
     · exact absurd h4 (g5 j h)
     · subst h; exact ⟨rfl, rfl⟩
     · exact absurd g4 (h5 j2 h)
theorem Gre.full {r : List Runner} {P : List Int} {k : Nat} {js : List Nat} {bar : List Bool} (h : Gre r P k js bar) (h0 : Full r P (nobar r) 0) : Full r P bar k := by
 cases h with
 | nil => exact h0
 | snoc _ _ _ h _ => exact h.2
theorem full_fit {r : List Runner} {P : List Int} {bar : List Bool} (hb : bar.length = r.length) {k : Nat} (hk : k < P.length) (h : Full r P bar k) : ∃ j, j < r.length ∧ Fit1 r P bar k j := by
 obtain ⟨g, g1, g2⟩ := h
 have hk0 := g1 k ⟨Nat.le_refl _, hk⟩
 refine ⟨g k, hk0.1, hk0.2, g, fun i hi => ?_, fun i i' hi hi' e => g2 i i' ⟨by omega, hi.2⟩ ⟨by omega, hi'.2⟩ e⟩
 have hi0 := g1 i ⟨by omega, hi.2⟩
 refine ⟨hi0.1, ?_, hi0.2.2⟩
 rw [getD_set _ _ _ _ _ (by omega), if_neg (fun e => ?_)]
 · exact hi0.2.1
 · have := g2 i k ⟨by omega, hi.2⟩ ⟨Nat.le_refl _, hk⟩ e; omega
theorem set_back {bar : List Bool} {j : Nat} (h : bar.getD j default = false) : (bar.set j true).set j false = bar := by
 rw [List.set_set]
 refine List.ext_getElem (by simp) (fun i h1 h2 => ?_)
 rw [List.getElem_set]
 split
 · next e =>
   subst e
   rw [List.getD_eq_getElem?_getD, List.getElem?_eq_getElem h2] at h
   exact h.symm
 · rfl
def GaveR (r : List Runner) (P : List Int) (y : List Int × Bool) : Prop := (¬ Full r P (nobar r) 0 ∧ y = ([], false)) ∨ (Full r P (nobar r) 0 ∧ ∃ js bar, Gre r P P.length js bar ∧ y = (js.map (fun j => (rn r j).Id), true))
theorem give_wp {r : List Runner} (R : RunsOk r) {n : Node} (h : SendsOk n.Sends) {fuel : Nat} (hf : 1100 < fuel) : Wp (fog_give fuel n r) (GaveR r (plL n.Sends)) := by
 unfold fog_give
 have hr := R.len
 have hP := plL_le h
 refine wp_bindE (fplaces_eq h) ?_
 generalize hPe : plL n.Sends = P at hP ⊢
 refine wp_must (by unfold room; omega) (wp_must (by unfold room; omega) ?_)
 have G0 : GF r P (nobar r) ⟨r, P, List.replicate (((r.length : Nat) : Int)).toNat (0 : Int), List.replicate (((r.length : Nat) : Int)).toNat (false : Bool)⟩ := ⟨rfl, rfl, rfl, by simp⟩
 refine wp_bind (full_wp hr (by omega) (by simp [nobar]) hf (k := 0) (Nat.zero_le _) G0) (fun y hy => ?_)
 obtain ⟨y1, y2⟩ := hy
 cases hy1 : y.1 with
 | false => exact wp_true rfl (wp_some (.inl ⟨fun h => (by have := y1.2 h; rw [hy1] at this; cases this), rfl⟩))
 | true =>
   have hF := y1.1 hy1
   refine wp_false rfl ?_
   rw [y2.pl]
   refine wp_must (by omega) ?_
   refine wp_range (fun k (s : (List Int) × (List Bool) × (List Int) × (List Runner) × (List Int)) => GF r P s.2.1 ⟨s.2.2.2.1, s.2.2.2.2, s.1, s.2.1⟩ ∧ ∃ js, Gre r P k js s.2.1 ∧ s.2.2.1 = js.map (fun j => (rn r j).Id))
     ⟨⟨y2.run, rfl, rfl, y2.len⟩, [], by rw [y2.bar_]; exact .nil, rfl⟩ (fun k s K hk hI hK => ?_) (fun s hI => ?_)
   · obtain ⟨of1, bar1, out, run1, pl1⟩ := s
     obtain ⟨G1, js, hG, ho⟩ := hI
     dsimp only at G1 hG ho hK ⊢
     have hbl := hG.len.2
     have hjl := hG.len.1
     have hfull := hG.full hF
     obtain ⟨j0, hj0, hfit0⟩ := full_fit hbl hk hfull
     refine wp_join (fun s : (List Int) × (List Bool) × (List Runner) × (List Int) × (List Int) => GF r P s.2.1 ⟨s.2.2.1, s.2.2.2.1, s.1, s.2.1⟩ ∧ ∃ js, Gre r P (k + 1) js s.2.1 ∧ s.2.2.2.2 = js.map (fun j => (rn r j).Id)) (fun K2 hK2 => ?_) (fun s hs => hK _ hs)
     refine wp_range (fun j (s : (List Int) × (List Bool) × (List Runner) × (List Int)) => s.2.1 = bar1 ∧ GF r P bar1 ⟨s.2.2.1, s.2.2.2, s.1, s.2.1⟩ ∧ ∀ q, q < j → ¬ Fit1 r P bar1 k q)
       ⟨rfl, G1, fun q hq => by omega⟩ (fun j s K3 hj hJ hK3 => ?_) (fun s hJ => absurd hfit0 (hJ.2.2 j0 hj0))
     obtain ⟨of2, bar2, run2, pl2⟩ := s
     obtain ⟨eb, G2, hno⟩ := hJ
     dsimp only at eb
     subst eb
     dsimp only at G2 hno hK3 hK2 ⊢
     refine wp_join (fun s : (List Int) × (List Bool) × (List Runner) × (List Int) => s.2.1 = bar2 ∧ GF r P bar2 ⟨s.2.2.1, s.2.2.2, s.1, s.2.1⟩ ∧ ∀ q, q < j + 1 → ¬ Fit1 r P bar2 k q) (fun K4 hK4 => ?_) (fun s hs => hK3 _ hs)
     have em := may_eq G2.run G2.pl G2.bar_ hbl hk hj
     refine wp_bindE em (wp_bif (fun hc => hK4 _ ⟨rfl, G2, fun q hq => ?_⟩) (fun hc => ?_))
     · by_cases e : q = j
       · subst e
         rintro ⟨⟨a1, a2⟩, _⟩
         rw [a1, decide_eq_true a2] at hc; cases hc
       · exact hno q (by omega)
     · have hadj : madj r P bar2 k j := by
         simp only [Bool.not_eq_false', Bool.and_eq_true, Bool.not_eq_true', decide_eq_true_eq] at hc
         exact hc
       refine wp_must (by omega) ?_
       have G3 : GF r P (bar2.set j true) ⟨run2, pl2, of2, bar2.set j true⟩ := ⟨G2.run, G2.pl, rfl, G2.len⟩
       have e1 : ((k : Int) + 1) = ((k + 1 : Nat) : Int) := by omega
       rw [e1]
       refine wp_bind (full_wp hr (by omega) (by rw [List.length_set]; exact hbl) hf (k := k + 1) hk G3) (fun z hz => ?_)
       obtain ⟨z1, z2⟩ := hz
       refine wp_bif (fun hzt => ?_) (fun hzf => ?_)
       · refine wp_mustR (by rw [ho]; simp; omega) (hK2 _ ⟨⟨z2.run, z2.pl, rfl, z2.len⟩, js ++ [j], ?_, ?_⟩)
         · dsimp only
           rw [z2.bar_]
           exact .snoc hG hk hj ⟨hadj, z1.1 hzt⟩ hno
         · dsimp only
           rw [ho, List.map_append]; rfl
       · have ez : z.2.barred.set j false = bar2 := by rw [z2.bar_]; exact set_back hadj.1
         refine wp_must (by rw [z2.bar_, List.length_set]; omega) (hK4 _ ⟨ez, ⟨z2.run, z2.pl, ez, z2.len⟩, fun q hq => ?_⟩)
         by_cases e : q = j
         · subst e
           intro hfit
           have := z1.2 hfit.2
           rw [this] at hzf; cases hzf
         · exact hno q (by omega)
   · obtain ⟨G1, js, hG, ho⟩ := hI
     exact wp_some (.inr ⟨hF, js, _, hG, by rw [ho]⟩)
end Go.Sp
end
/- Plain laws, fog: Assign; FogKept. No program in sight. -/
section
set_option linter.all false
namespace Go.Sp
open Go.Av
set_option maxRecDepth 100000
theorem pow2_in (d : Nat) (h : d < 60) : (1 : Int) ≤ (1 : Int) * 2 ^ d ∧ (1 : Int) * 2 ^ d ≤ 1152921504606846976 := by
 have h1 : (2 : Int) ^ d = ((2 ^ d : Nat) : Int) := by simp
 have h2 : 2 ^ d ≤ 2 ^ 60 := Nat.pow_le_pow_right (by omega) (by omega)
 have h3 : 0 < 2 ^ d := Nat.pow_pos (by omega)
 rw [h1]
 have h4 : (2 ^ 60 : Nat) = 1152921504606846976 := by decide
 omega
theorem runners_wp {fuel : Nat} (hf : 100 < fuel) (l : List Int) : Wp (gasolierref05_Runners fuel l) RunsOk := by
 unfold gasolierref05_Runners
 refine wp_for 8 (by omega) (fun i s => s.length = i ∧ ∀ j, j < i → RunOk s j ∧ (rn s j).Id = 2 * (j : Int) + 1) ⟨rfl, fun j hj => by omega⟩ (fun i s K hi hI hK => ?_)
 obtain ⟨h1, h2⟩ := hI
 refine wp_if (p := (i : Int) < (l.length : Int) ∧ (i : Int) < 8) (by simp) (fun h => ?_) (fun h => wp_some ⟨by dsimp only; omega, fun j hj => (h2 j (by dsimp only at hj; omega)).1⟩)
 have add : ∀ ds : List Int, (1 ≤ ds.length ∧ ds.length ≤ 9) → (∀ k, k < ds.length → (1 ≤ ds.getD k default ∧ ds.getD k default ≤ 9) ∧ (0 < k → ds.getD (k - 1) default < ds.getD k default)) →
     ((s ++ [(⟨2 * (i : Int) + 1, ds⟩ : Runner)]).length = i + 1 ∧ ∀ j, j < i + 1 → RunOk (s ++ [(⟨2 * (i : Int) + 1, ds⟩ : Runner)]) j ∧ (rn (s ++ [(⟨2 * (i : Int) + 1, ds⟩ : Runner)]) j).Id = 2 * (j : Int) + 1) := by
   intro ds d1 d2
   refine ⟨by simp [h1], fun j hj => ?_⟩
   have e : ∀ q, q < i → rn (s ++ [(⟨2 * (i : Int) + 1, ds⟩ : Runner)]) q = rn s q := fun q hq => by unfold rn; rw [getD_snoc, if_neg (by omega)]
   have e' : rn (s ++ [(⟨2 * (i : Int) + 1, ds⟩ : Runner)]) i = ⟨2 * (i : Int) + 1, ds⟩ := by unfold rn; rw [getD_snoc, if_pos h1.symm]
   by_cases ej : j = i
   · subst ej
     refine ⟨⟨by rw [e']; dsimp only; omega, fun h0 => ?_, by rw [e']; exact d1, by rw [e']; exact d2⟩, by rw [e']⟩
     rw [e', e _ (by omega), (h2 (j - 1) (by omega)).2]; dsimp only; omega
   · obtain ⟨g1, g2⟩ := h2 j (by omega)
     refine ⟨⟨by rw [e _ (by omega)]; exact g1.id_, fun h0 => ?_, by rw [e _ (by omega)]; exact g1.len, by rw [e _ (by omega)]; exact g1.dist⟩, by rw [e _ (by omega)]; exact g2⟩
     rw [e _ (by omega), e _ (by omega)]; exact g1.up h0
 refine wp_mustI (by omega) (wp_mustI (by omega) ?_)
 refine wp_loop (fun t : Int × List Int => ∃ d : Nat, t.1 = (d : Int) ∧ 1 ≤ d ∧ d ≤ 5 ∧ t.2.length ≤ 4 ∧ t.2.length + 1 ≤ d ∧ ∀ k, k < t.2.length → (1 ≤ t.2.getD k default ∧ t.2.getD k default < d) ∧ (0 < k → t.2.getD (k - 1) default < t.2.getD k default)) (fun t => 5 - t.1.toNat) (by simp only; omega) ⟨1, rfl, by omega, by omega, by simp, by simp, fun k hk => absurd hk (Nat.not_lt_zero _)⟩ ?_
 rintro ⟨t1, ds⟩ K2 ⟨d, rfl, d1, d2, d3, d4, d5⟩ hK2
 dsimp only at d3 d4 d5 hK2 ⊢
 refine wp_ifd (fun hle => ?_) (fun hgt => ?_)
 · have hd4 : d ≤ 4 := by omega
   have hp := pow2_in d (by omega)
   refine wp_must (by omega) (wp_must ⟨by omega, by omega, by unfold inI; simp only [Int.toNat_natCast]; omega⟩ ?_)
   refine wp_bif (fun _ => wp_mustR (by simp; omega) (wp_mustI (by omega) (hK2 _ ⟨d + 1, by simp, by omega, by omega, by simp; omega, by simp; omega, fun k hk => ?_⟩ (by simp only; omega)))) (fun _ => wp_mustI (by omega) (hK2 _ ⟨d + 1, by simp, by omega, by omega, d3, by dsimp only; omega, fun k hk => ?_⟩ (by simp only; omega)))
   · dsimp only at hk ⊢
     rw [List.length_append, List.length_cons, List.length_nil] at hk
     rw [getD_snoc, getD_snoc]
     by_cases ek : k = ds.length
     · rw [if_pos ek]
       refine ⟨by omega, fun h0 => ?_⟩
       rw [if_neg (by omega)]
       exact (d5 (k - 1) (by omega)).1.2
     · rw [if_neg ek, if_neg (by omega)]
       have := d5 k (by omega)
       exact ⟨⟨this.1.1, by omega⟩, this.2⟩
   · have := d5 k hk
     dsimp only
     exact ⟨⟨this.1.1, by omega⟩, this.2⟩
 · refine wp_ifd (fun h0 => ?_) (fun h0 => ?_)
   · obtain ⟨y, ey, y1, y2⟩ := mod5_eq (l.getD ((i : Int)).toNat default) (m := 4) (by omega) (by omega)
     refine wp_must (by omega) (wp_bindE ey (wp_mustI (by omega) (wp_mustR (by simp; omega) (wp_mustI (by omega) (hK _ (by omega) (add _ (by simp) (fun k hk => ?_)))))))
     have : k = 0 := by simpa using hk
     subst this
     exact ⟨by show 1 ≤ 1 + y ∧ 1 + y ≤ 9; omega, fun h => absurd h (Nat.lt_irrefl 0)⟩
   · refine wp_mustR (by simp; omega) (wp_mustI (by omega) (hK _ (by omega) (add ds (by omega) (fun k hk => ?_))))
     have := d5 k hk
     exact ⟨⟨this.1.1, by omega⟩, this.2⟩
open Classical in
noncomputable def leafR (p : List Node) (r : List Runner) (at_ : Int) : Int := if ¬ PolOk p then 53 else if ¬ RunsOk r then 54 else if 0 ≤ at_ ∧ at_ < p.length ∧ (nd p at_.toNat).Test = false then 0 else 55
theorem leafR_zero {p : List Node} {r : List Runner} {at_ : Int} : leafR p r at_ = 0 ↔ PolOk p ∧ RunsOk r ∧ 0 ≤ at_ ∧ at_ < p.length ∧ (nd p at_.toNat).Test = false := by
 unfold leafR
 by_cases h1 : PolOk p
 · rw [if_neg (fun h => h h1)]
   by_cases h2 : RunsOk r
   · rw [if_neg (fun h => h h2)]
     split
     · next h => exact ⟨fun _ => ⟨h1, h2, h⟩, fun _ => rfl⟩
     · next h => exact ⟨fun h => by omega, fun hh => absurd hh.2.2 h⟩
   · rw [if_pos h2]; exact ⟨fun h => by omega, fun h => absurd h.2.1 h2⟩
 · rw [if_pos h1]; exact ⟨fun h => by omega, fun h => absurd h.1 h1⟩
theorem fleaf_wp (p : List Node) (r : List Runner) (at_ : Int) : Wp (fog_leaf p r at_) (fun y => y.2 = leafR p r at_ ∧ (leafR p r at_ = 0 → y.1 = nd p at_.toNat)) := by
 unfold fog_leaf leafR
 by_cases h1 : PolOk p
 · rw [if_neg (fun h => h h1)]
   refine wp_bindE (fpol_ok h1) (wp_false rfl ?_)
   by_cases h2 : RunsOk r
   · rw [if_neg (fun h => h h2)]
     have hlen := h1.len
     refine wp_bindE (frun_ok h2) (wp_false rfl (wp_mustI (by omega) (wp_must (fun h => by simp only [Bool.not_not, fwithin_iff] at h; omega) ?_)))
     have en : p.getD at_.toNat default = nd p at_.toNat := rfl
     simp only [en]
     refine wp_bif (fun hb => ?_) (fun hb => ?_)
     · rw [if_neg (fun hh => ?_)]
       · exact wp_some ⟨rfl, fun h => by omega⟩
       · rw [fwithin_iff.2 (by omega), hh.2.2] at hb; cases hb
     · simp only [Bool.or_eq_false_iff, Bool.not_eq_false', fwithin_iff] at hb
       rw [if_pos ⟨hb.1.1, by omega, hb.2⟩]
       exact wp_must (by omega) (wp_some ⟨rfl, fun _ => rfl⟩)
   · rw [if_pos h2]
     exact wp_bindE (frun_bad h2) (wp_true rfl (wp_some ⟨rfl, fun h => by omega⟩))
 · rw [if_pos h1]
   exact wp_bindE (fpol_bad h1) (wp_true rfl (wp_some ⟨rfl, fun h => by omega⟩))
theorem leaf_sends {p : List Node} (V : PolOk p) {i : Int} (h0 : 0 ≤ i) (h1 : i < p.length) (ht : (nd p i.toNat).Test = false) : SendsOk (nd p i.toNat).Sends := ((V.node i.toNat (by omega)).1 ht).2
def AssR (p : List Node) (r : List Runner) (at_ : Int) (y : List Int × Int) : Prop :=
 (leafR p r at_ ≠ 0 ∧ y = ([], leafR p r at_)) ∨ (leafR p r at_ = 0 ∧ ((¬ Full r (plL (nd p at_.toNat).Sends) (nobar r) 0 ∧ y = ([], 57)) ∨
   (Full r (plL (nd p at_.toNat).Sends) (nobar r) 0 ∧ ∃ js bar, Gre r (plL (nd p at_.toNat).Sends) (plL (nd p at_.toNat).Sends).length js bar ∧ y = (js.map (fun j => (rn r j).Id), 0))))
theorem assign_wp {fuel : Nat} (p : List Node) (r : List Runner) (at_ : Int) (hf : 1100 < fuel) : Wp (fog_Assign fuel p r at_) (AssR p r at_) := by
 unfold fog_Assign
 refine wp_bind (fleaf_wp p r at_) (fun y hy => ?_)
 obtain ⟨y1, y2⟩ := hy
 rw [y1]
 refine wp_ifn (fun h => wp_some (.inl ⟨h, rfl⟩)) (fun h => ?_)
 rw [y2 h]
 obtain ⟨V, R, h0, h1, ht⟩ := leafR_zero.1 h
 refine wp_bind (give_wp R (leaf_sends V h0 h1 ht) hf) (fun z hz => ?_)
 rcases hz with ⟨hn, rfl⟩ | ⟨hF, js, bar, hG, rfl⟩
 · exact wp_true rfl (wp_some (.inr ⟨h, .inl ⟨hn, rfl⟩⟩))
 · exact wp_false rfl (wp_some (.inr ⟨h, .inr ⟨hF, js, bar, hG, rfl⟩⟩))
def KeptP (p : List Node) (r : List Runner) (q : List Int) : Prop := ∀ j ∈ q, Full r (plL (nd p j.toNat).Sends) (nobar r) 0
noncomputable instance (p : List Node) (r : List Runner) (q : List Int) : Decidable (KeptP p r q) := Classical.propDecidable _
open Classical in
noncomputable def keptR (p : List Node) (r : List Runner) (l : List Report) (night m : Int) : Bool × Int :=
 if ¬ PolOk p then (false, 53) else if ¬ RunsOk r then (false, 54) else if askR p l night m ≠ 0 then (false, askR p l night m) else (decide (KeptP p r (possL p l night m)), 0)
theorem fKept_eq {fuel : Nat} (p : List Node) (r : List Runner) (l : List Report) (night m : Int) (hf : 1100 < fuel) : fog_Kept fuel p r l night m = some (keptR p r l night m) := by
 unfold fog_Kept keptR
 refine Wp.eq ?_
 by_cases h1 : PolOk p
 · rw [if_neg (fun h => h h1)]
   refine wp_bindE (fpol_ok h1) (wp_false rfl ?_)
   by_cases h2 : RunsOk r
   · rw [if_neg (fun h => h h2)]
     refine wp_bindE (frun_ok h2) (wp_false rfl (wp_bindE (fasked_eq p l night m) (wp_ifn (fun h => ?_) (fun h => ?_))))
     · rw [if_pos h]; exact wp_some rfl
     · rw [if_neg (by simp [h])]
       obtain ⟨V, R, D⟩ := askR_zero.1 h
       refine wp_bindE (fpossible_eq V R.len ⟨D.1, D.2.1⟩ (by omega)) ?_
       have hq2 : ∀ j ∈ possL p l night m, 0 ≤ j ∧ j < p.length ∧ SendsOk (nd p j.toNat).Sends := fun j hj => poss_leaf V hj
       generalize possL p l night m = q at hq2 ⊢
       refine wp_forall (fun i => Full r (plL (nd p (q.getD i default).toNat).Sends) (nobar r) 0) (fun i K hi _ hK => ?_) (fun hall => wp_some ?_)
       · have hx := hq2 _ (getD_mem hi)
         have en : p.getD (q.getD i default).toNat default = nd p (q.getD i default).toNat := rfl
         rw [en]
         refine wp_must ⟨hx.1, hx.2.1⟩ (wp_bind (give_wp h2 hx.2.2 hf) (fun z hz => ?_))
         rcases hz with ⟨hn, rfl⟩ | ⟨hF, js, bar, hG, rfl⟩
         · refine wp_true rfl (wp_some ?_)
           rw [decide_eq_false (p := KeptP p r q) (fun hh => hn (hh _ (getD_mem hi)))]
         · exact wp_false rfl (hK hF)
       · rw [decide_eq_true (p := KeptP p r q) (fun j hj => ?_)]
         obtain ⟨i, hi, rfl⟩ := mem_getD hj
         exact hall i hi
   · rw [if_pos h2]
     exact wp_bindE (frun_bad h2) (wp_true rfl (wp_some rfl))
 · rw [if_pos h1]
   exact wp_bindE (fpol_bad h1) (wp_true rfl (wp_some rfl))
theorem fogKept_true (l : List (Arr7 Int)) (q : List (Arr4 Int)) (who : List Int) (hq : q.length ≤ 1000000000000000000) (hw : who.length ≤ 1000000000000000000) : gasolierlaw05_FogKept 20000 l q who = some true := by
 unfold gasolierlaw05_FogKept
 refine Wp.eq (wp_bind (made_wp (by omega) l who hw) (fun x hx => wp_bind (policy_wp (by omega) q hq) (fun p V => wp_bind (runners_wp (by omega) who) (fun r RR => ?_))))
 obtain ⟨x1, x2, x3⟩ := hx
 have R := fine_ok x1 (fun i hi => (x3 i hi).1)
 obtain ⟨y, ey⟩ := num_eq who hw 1
 obtain ⟨at_, em, m1, m2⟩ := moment_eq (wrapI (y * 7))
 have ea := askR_made V R (show 0 ≤ at_ ∧ at_ ≤ 144001439 by omega)
 have e1 : possR p x 3 at_ = (possL p x 3 at_, 0) := by unfold possR; rw [if_neg (by simp [ea])]
 have e2 : (keptR p r x 3 at_).2 = 0 ∧ ((keptR p r x 3 at_).1 = true ↔ KeptP p r (possL p x 3 at_)) := by
   unfold keptR
   rw [if_neg (fun h => h V), if_neg (fun h => h RR), if_neg (by simp [ea])]
   exact ⟨rfl, decide_eq_true_iff⟩
 refine wp_bindE ey (wp_bindE em (wp_bindE (fPossible_eq p x 3 at_ (by omega)) (wp_bindE (fKept_eq p r x 3 at_ (by omega)) ?_)))
 rw [e1]
 obtain ⟨e2, e3⟩ := e2
 have hq1 := possL_len V (l := x) (night := 3) (now := at_)
 have hq2 : ∀ j ∈ possL p x 3 at_, 0 ≤ j ∧ j < p.length ∧ (nd p j.toNat).Test = false := fun j hj => by
   have h1 := poss_leaf V hj
   exact ⟨h1.1, h1.2.1, ((possL_mem V).1 hj).2⟩
 refine wp_false (by rw [e2]; simp; intro h; simp [h] at hq1) ?_
 dsimp only
 generalize possL p x 3 at_ = ps at hq1 hq2 e3 ⊢
 refine wp_forS ps.length (by omega) (fun i b => (b = true ↔ ∀ k, k < i → Full r (plL (nd p (ps.getD k default).toNat).Sends) (nobar r) 0)) ⟨fun _ k hk => by omega, fun _ => rfl⟩ (fun i b K hi hI hK => ?_)
 refine wp_ifd (fun hlt => ?_) (fun hge => ?_)
 · have hi' : i < ps.length := by simp only at hlt; omega
   simp only [Int.toNat_natCast]
   have hx := hq2 _ (getD_mem hi')
   refine wp_must (by omega) (wp_bind (assign_wp p r _ (by omega)) (fun z hz => ?_))
   have hl0 := leafR_zero.2 ⟨V, RR, hx⟩
   rcases hz with ⟨h, _⟩ | ⟨_, ⟨hn, rfl⟩ | ⟨hF, js, bar, hG, rfl⟩⟩
   · exact absurd hl0 h
   · refine wp_false rfl (wp_mustI (by omega) (hK _ hi' ⟨fun h => ?_, fun h => absurd (h i (by omega)) hn⟩))
     simp at h
   · refine wp_false rfl (wp_mustI (by omega) (hK _ hi' ?_))
     dsimp only
     rw [decide_eq_true rfl, Bool.and_true, hI]
     constructor
     · intro h k hk
       by_cases e : k = i
       · subst e; exact hF
       · exact h k (by omega)
     · exact fun h k hk => h k (by omega)
 · have hie : i = ps.length := by simp only at hge; omega
   have hbb : (b == (keptR p r x 3 at_).1) = true := by
     rw [beq_iff_eq, Bool.eq_iff_iff, hI, e3]
     constructor
     · intro h j hj
       obtain ⟨k, hk, rfl⟩ := mem_getD hj
       exact h k (by omega)
     · intro h k hk
       exact h _ (getD_mem (by omega))
   simp only [hbb]
   exact wp_onE rfl sane_ok (wp_some rfl)
end Go.Sp
end
