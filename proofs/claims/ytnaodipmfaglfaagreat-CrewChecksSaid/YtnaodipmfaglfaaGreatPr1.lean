/- Texts of the framework, or of the plain law, one behind another. -/
import Derived.Test.YtnaodipmfaglfaaGreatFr1
import Derived.Test.YtnaodipmfaglfaaGreatFr4
import Derived.KernelRfl
/- Rules for plain laws: what a printed definition yields. No program in sight. -/
section
set_option linter.all false
namespace Go.Sp
open Go.Av
def Wp {R : Type} (x : Option R) (P : R → Prop) : Prop := ∃ r, x = some r ∧ P r
theorem Wp.eq {R : Type} {x : Option R} {v : R} (h : Wp x (· = v)) : x = some v := by
 obtain ⟨r, h1, h2⟩ := h; rw [h1, h2]
theorem Wp.of_eq {R : Type} {x : Option R} {v : R} {P : R → Prop} (h : x = some v) (hp : P v) : Wp x P := ⟨v, h, hp⟩
theorem Wp.mono {R : Type} {x : Option R} {P Q : R → Prop} (h : Wp x P) (hp : ∀ r, P r → Q r) : Wp x Q := by
 obtain ⟨r, h1, h2⟩ := h; exact ⟨r, h1, hp r h2⟩
theorem wp_some {R : Type} {r : R} {P : R → Prop} (h : P r) : Wp (some r) P := ⟨r, rfl, h⟩
theorem wp_must {R : Type} {c : Prop} [Decidable c] {x : Option R} {P : R → Prop} (h : c) (k : Wp x P) : Wp (must c x) P := by
 unfold must; rw [if_pos h]; exact k
theorem wp_bind {S R : Type} {x : Option S} {k : S → Option R} {P : R → Prop} {Q : S → Prop} (h : Wp x Q) (hk : ∀ s, Q s → Wp (k s) P) : Wp (bindO x k) P := by
 obtain ⟨r, h1, h2⟩ := h; rw [h1]; exact hk r h2
theorem wp_bindE {S R : Type} {x : Option S} {k : S → Option R} {P : R → Prop} {v : S} (h : x = some v) (hk : Wp (k v) P) : Wp (bindO x k) P := by
 rw [h]; exact hk
theorem wp_bif {R : Type} {b : Bool} {x y : Option R} {P : R → Prop} (h1 : b = true → Wp x P) (h2 : b = false → Wp y P) : Wp (bif b then x else y) P := by
 cases b
 · exact h2 rfl
 · exact h1 rfl
theorem wp_if {R : Type} {p : Prop} {b : Bool} {x y : Option R} {P : R → Prop} (hb : b = true ↔ p) (h1 : p → Wp x P) (h2 : ¬ p → Wp y P) : Wp (bif b then x else y) P :=
 wp_bif (fun h => h1 (hb.1 h)) (fun h => h2 (fun hp => by rw [hb.2 hp] at h; cases h))
theorem wp_ifd {R : Type} {p : Prop} [Decidable p] {x y : Option R} {P : R → Prop} (h1 : p → Wp x P) (h2 : ¬ p → Wp y P) : Wp (bif (decide p) then x else y) P :=
 wp_if (decide_eq_true_iff) h1 h2
theorem wp_true {R : Type} {b : Bool} {x y : Option R} {P : R → Prop} (h : b = true) (h1 : Wp x P) : Wp (bif b then x else y) P := by rw [h]; exact h1
theorem wp_false {R : Type} {b : Bool} {x y : Option R} {P : R → Prop} (h : b = false) (h1 : Wp y P) : Wp (bif b then x else y) P := by rw [h]; exact h1
theorem wp_joinU {S R : Type} {f : (S → Option R) → Option R} {k : S → Option R} {P : R → Prop} (h : Wp (f k) P) : Wp (joinK f k) P := h
theorem wp_range {S R : Type} {body : Nat → S → (S → Option R) → Option R} {ex : S → Option R} {n : Nat} {s0 : S} {P : R → Prop} (Inv : Nat → S → Prop) (h0 : Inv 0 s0)
   (hb : ∀ (i : Nat) s (K : S → Option R), i < n → Inv i s → (∀ s', Inv (i + 1) s' → Wp (K s') P) → Wp (body i s K) P) (he : ∀ s, Inv n s → Wp (ex s) P) : Wp (rangeGo body ex n 0 s0) P := by
 have go : ∀ (m i : Nat), i + m = n → ∀ s, Inv i s → Wp (rangeGo body ex m i s) P := by
   intro m
   induction m with
   | zero => intro i hi s hs; have e : i = n := by omega
             subst e; exact he s hs
   | succ m ih => intro i hi s hs; exact hb i s _ (by omega) hs (fun s' h' => ih (i + 1) (by omega) s' h')
 exact go n 0 (by omega) s0 h0
theorem wp_loop {S R : Type} {body : S → (S → Option R) → Option R} {fuel : Nat} {s0 : S} {P : R → Prop} (Inv : S → Prop) (μ : S → Nat) (hf : μ s0 < fuel) (h0 : Inv s0)
   (hb : ∀ s (K : S → Option R), Inv s → (∀ s', Inv s' → μ s' < μ s → Wp (K s') P) → Wp (body s K) P) : Wp (loopGo body fuel s0) P := by
 have go : ∀ (f : Nat) s, Inv s → μ s < f → Wp (loopGo body f s) P := by
   intro f
   induction f with
   | zero => intro s _ h; omega
   | succ f ih => intro s hs hm; exact hb s _ hs (fun s' h' hl => ih s' h' (by omega))
 exact go fuel s0 h0 hf
end Go.Sp
end
/- More rules for plain laws. No program in sight. -/
section
set_option linter.all false
namespace Go.Sp
open Go.Av
theorem wp_mustI {R : Type} {n : Int} {x : Option R} {P : R → Prop} (h : -9223372036854775808 ≤ n ∧ n ≤ 9223372036854775807) (k : Wp x P) : Wp (must (inI n) x) P := wp_must h k
theorem wp_mustR {R : Type} {n b : Nat} {x : Option R} {P : R → Prop} (h : n * b ≤ 140737488355328 ∧ n ≤ 9223372036854775807) (k : Wp x P) : Wp (must (room n b) x) P := wp_must h k
theorem wp_mustW {R : Type} {w : Prop} [Decidable w] {n : Int} {x : Option R} {P : R → Prop} (h : w → -9223372036854775808 ≤ n ∧ n ≤ 9223372036854775807) (k : Wp x P) : Wp (must (w → inI n) x) P := wp_must h k
theorem wp_on {S R : Type} [Inhabited S] {W : Bool} {x : Option S} {k : S → Option R} {P : R → Prop} {Q : S → Prop} (h : W = true → Wp x Q) (hk : ∀ s, (W = true → Q s) → Wp (k s) P) : Wp (bindO (bif W then x else some default) k) P := by
 cases W
 · exact hk _ (fun h => by cases h)
 · exact wp_bind (h rfl) (fun s hs => hk s (fun _ => hs))
end Go.Sp
end
/- Rules for plain laws, more of them. No program in sight. -/
section
set_option linter.all false
namespace Go.Sp
open Go.Av
theorem wp_forall {R : Type} {body : Nat → Unit → (Unit → Option R) → Option R} {ex : Unit → Option R} {n : Nat} {P : R → Prop} (good : Nat → Prop)
   (hb : ∀ (i : Nat) (K : Option R), i < n → (∀ j, j < i → good j) → (good i → Wp K P) → Wp (body i () (fun _ => K)) P) (he : (∀ j, j < n → good j) → Wp (ex ()) P) : Wp (rangeGo body ex n 0 ()) P := by
 refine wp_range (fun i _ => ∀ j, j < i → good j) (fun j hj => by omega) (fun i s K hi hI hK => ?_) (fun s hs => he hs)
 have e : K = fun _ => K () := funext fun u => rfl
 rw [e]
 exact hb i (K ()) hi hI (fun g => hK () (fun j hj => by
   by_cases e : j = i
   · rw [e]; exact g
   · exact hI j (by omega)))
theorem wp_onE {S R : Type} {W : Bool} {x y : Option S} {k : S → Option R} {P : R → Prop} {v : S} (hW : W = true) (h : x = some v) (hk : Wp (k v) P) : Wp (bindO (bif W then x else y) k) P := by
 subst hW; rw [h]; exact hk
theorem wp_offE {S R : Type} {W : Bool} {x y : Option S} {k : S → Option R} {P : R → Prop} {v : S} (hW : W = false) (h : y = some v) (hk : Wp (k v) P) : Wp (bindO (bif W then x else y) k) P := by
 subst hW; rw [h]; exact hk
theorem must_yes {R : Type} {c : Prop} [Decidable c] (h : c) (x : Option R) : must c x = x := if_pos h
theorem getD_set {T : Type} (l : List T) (i j : Nat) (x d : T) (hi : i < l.length) : (l.set i x).getD j d = if j = i then x else l.getD j d := by
 simp only [List.getD_eq_getElem?_getD]
 by_cases e : j = i
 · subst e; rw [List.getElem?_set_self hi, if_pos rfl]; rfl
 · rw [List.getElem?_set_ne (fun h => e h.symm), if_neg e]
theorem getD_mem {T : Type} [Inhabited T] {l : List T} {i : Nat} (h : i < l.length) : l.getD i default ∈ l := by
 rw [List.getD_eq_getElem?_getD, List.getElem?_eq_getElem h]; exact List.getElem_mem h
theorem mem_getD {T : Type} [Inhabited T] {l : List T} {x : T} (h : x ∈ l) : ∃ i, i < l.length ∧ l.getD i default = x := by
 obtain ⟨i, hi, rfl⟩ := List.getElem_of_mem h
 exact ⟨i, hi, by rw [List.getD_eq_getElem?_getD, List.getElem?_eq_getElem hi]; rfl⟩
theorem getD_take {T : Type} (l : List T) (n i : Nat) (d : T) : (l.take n).getD i d = if i < n then l.getD i d else d := by
 simp only [List.getD_eq_getElem?_getD, List.getElem?_take]
 split <;> rfl
theorem getD_drop {T : Type} (l : List T) (n i : Nat) (d : T) : (l.drop n).getD i d = l.getD (n + i) d := by
 simp only [List.getD_eq_getElem?_getD, List.getElem?_drop]
theorem ext_getD {T : Type} [Inhabited T] {l r : List T} (hl : l.length = r.length) (h : ∀ i, i < l.length → l.getD i default = r.getD i default) : l = r := by
 refine List.ext_getElem hl (fun i h1 h2 => ?_)
 have := h i h1
 rw [List.getD_eq_getElem?_getD, List.getD_eq_getElem?_getD, List.getElem?_eq_getElem h1, List.getElem?_eq_getElem h2] at this
 exact this
theorem nodup_le {T : Type} [DecidableEq T] : ∀ {l r : List T}, l.Nodup → (∀ x ∈ l, x ∈ r) → l.length ≤ r.length
 | [], r, _, _ => Nat.zero_le _
 | x :: l, r, hn, hs => by
   have hx := hs x List.mem_cons_self
   rw [List.nodup_cons] at hn
   have := nodup_le (l := l) (r := r.erase x) hn.2 (fun y hy => (List.mem_erase_of_ne (fun (e : y = x) => hn.1 (e ▸ hy))).2 (hs y (List.mem_cons_of_mem _ hy)))
   rw [List.length_erase_of_mem hx] at this
   have := List.length_pos_of_mem hx
   simp only [List.length_cons]; omega
theorem nodup_inj {S T : Type} {f : S → T} : ∀ {l : List S}, l.Nodup → (∀ x ∈ l, ∀ y ∈ l, f x = f y → x = y) → (l.map f).Nodup
 | [], _, _ => List.nodup_nil
 | x :: l, hn, hi => by
   rw [List.nodup_cons] at hn
   rw [List.map_cons, List.nodup_cons]
   refine ⟨fun hm => ?_, nodup_inj hn.2 (fun a ha b hb => hi a (List.mem_cons_of_mem _ ha) b (List.mem_cons_of_mem _ hb))⟩
   obtain ⟨y, hy, e⟩ := List.mem_map.1 hm
   have := hi x List.mem_cons_self y (List.mem_cons_of_mem _ hy) e.symm
   exact hn.1 (this ▸ hy)
theorem length_le_inj {S T : Type} [DecidableEq T] {l : List S} {r : List T} (f : S → T) (hn : l.Nodup) (hm : ∀ x ∈ l, f x ∈ r) (hi : ∀ x ∈ l, ∀ y ∈ l, f x = f y → x = y) : l.length ≤ r.length := by
 have := nodup_le (nodup_inj hn hi) (r := r) (fun y hy => by obtain ⟨x, hx, rfl⟩ := List.mem_map.1 hy; exact hm x hx)
 rwa [List.length_map] at this
theorem fdiv_bit {x : Int} {j : Nat} (h : 0 ≤ x) : Int.fdiv x (2 ^ j) = ((x.toNat >>> j : Nat) : Int) := by
 obtain ⟨n, rfl⟩ := Int.eq_ofNat_of_zero_le h
 rw [Int.toNat_natCast, Nat.shiftRight_eq_div_pow]
 have : (2 : Int) ^ j = ((2 ^ j : Nat) : Int) := by simp
 rw [this, Int.fdiv_eq_ediv_of_nonneg _ (Int.natCast_nonneg _)]
 exact (Int.natCast_ediv _ _).symm
theorem or_lt {n j m : Nat} (hn : n < 2 ^ m) (hj : j < m) : n ||| 2 ^ j < 2 ^ m := Nat.or_lt_two_pow hn (Nat.pow_lt_pow_right (by omega) hj)
def mu (n : Nat) (P : Nat → Bool) : Nat := (List.range n).countP (fun k => !P k)
theorem mu_le (n : Nat) (P : Nat → Bool) : mu n P ≤ n := by
 have := List.countP_le_length (p := fun k => !P k) (l := List.range n)
 rwa [List.length_range] at this
theorem mu_mono {n : Nat} {P Q : Nat → Bool} (h : ∀ k, P k = true → Q k = true) : mu n Q ≤ mu n P :=
 List.countP_mono_left (fun k _ hk => by
   cases hP : P k with
   | false => rfl
   | true => rw [h k hP] at hk; cases hk)
theorem countP_lt {T : Type} {p q : T → Bool} {a : T} : ∀ {l : List T}, (∀ x, x ∈ l → p x = true → q x = true) → a ∈ l → q a = true → p a = false → l.countP p < l.countP q
 | x :: l, h, ha, hq, hp => by
   rw [List.countP_cons, List.countP_cons]
   have hm : l.countP p ≤ l.countP q := List.countP_mono_left (fun y hy => h y (List.mem_cons_of_mem _ hy))
   rcases List.mem_cons.1 ha with rfl | ha
   · rw [hp, hq]; simp; omega
   · have := countP_lt (l := l) (fun y hy => h y (List.mem_cons_of_mem _ hy)) ha hq hp
     have hx := h x List.mem_cons_self
     cases hpx : p x with
     | false => simp; omega
     | true => rw [hx hpx]; simp; omega
theorem mu_lt {n j : Nat} {P Q : Nat → Bool} (h : ∀ k, P k = true → Q k = true) (hj : j < n) (hP : P j = false) (hQ : Q j = true) : mu n Q < mu n P :=
 countP_lt (a := j) (fun k _ hk => by
   cases hPk : P k with
   | false => rfl
   | true => rw [h k hPk] at hk; cases hk) (List.mem_range.2 hj) (by rw [hP]; rfl) (by rw [hQ]; rfl)
end Go.Sp
end
/- Matchings: a search for a free partner, where others step aside; what it leaves. No program in sight. -/
section
set_option linter.all false
namespace Go.Sp
structure Ks where
 seen : Nat → Bool
 own : Nat → Int
 back : Nat → Int
def Ks.see (s : Ks) (j : Nat) : Ks := ⟨fun k => s.seen k || decide (k = j), s.own, s.back⟩
def Ks.give (s : Ks) (j i : Nat) : Ks := ⟨s.seen, fun k => if k = j then (i : Int) else s.own k, fun k => if k = i then (j : Int) else s.back k⟩
inductive Srch (adj : Nat → Nat → Prop) (m : Nat) : Nat → Nat → Ks → Bool → Ks → Prop
 | done {i j : Nat} {s : Ks} : m ≤ j → Srch adj m i j s false s
 | skip {i j : Nat} {s s' : Ks} {b : Bool} : j < m → (adj i j → s.seen j = true) → Srch adj m i (j + 1) s b s' → Srch adj m i j s b s'
 | free {i j : Nat} {s : Ks} : j < m → adj i j → s.seen j = false → s.own j < 0 → Srch adj m i j s true ((s.see j).give j i)
 | aug {i j o : Nat} {s s' : Ks} : j < m → adj i j → s.seen j = false → s.own j = (o : Int) → Srch adj m o 0 (s.see j) true s' → Srch adj m i j s true (s'.give j i)
 | fail {i j o : Nat} {s s1 s' : Ks} {b : Bool} : j < m → adj i j → s.seen j = false → s.own j = (o : Int) → Srch adj m o 0 (s.see j) false s1 → Srch adj m i (j + 1) s1 b s' → Srch adj m i j s b s'
variable {adj : Nat → Nat → Prop} {m : Nat}
theorem Srch.mono {i j : Nat} {s s' : Ks} {b : Bool} (H : Srch adj m i j s b s') : ∀ k, s.seen k = true → s'.seen k = true := by
 induction H with
 | done _ => exact fun k h => h
 | skip _ _ _ ih => exact ih
 | free => intro k h; show (_ || _) = true; rw [h]; rfl
 | aug _ _ _ _ _ ih => intro k h; exact ih k (by show (_ || _) = true; rw [h]; rfl)
 | fail _ _ _ _ _ _ ih1 ih2 => intro k h; exact ih2 k (ih1 k (by show (_ || _) = true; rw [h]; rfl))
theorem Srch.own_seen {i j : Nat} {s s' : Ks} {b : Bool} (H : Srch adj m i j s b s') : ∀ k, s.seen k = true → s'.own k = s.own k := by
 induction H with
 | done _ => exact fun k _ => rfl
 | skip _ _ _ ih => exact ih
 | @free i j s hj ha hs ho => intro k h; show (if k = j then _ else _) = _; rw [if_neg (fun e => by subst e; rw [hs] at h; cases h)]; rfl
 | @aug i j o s s' hj ha hs ho hr ih =>
   intro k h
   show (if k = j then _ else _) = _
   rw [if_neg (fun e => by subst e; rw [hs] at h; cases h)]
   exact ih k (by show (_ || _) = true; rw [h]; rfl)
 | @fail i j o s s1 s' b _ _ _ _ h1 _ ih1 ih2 =>
   intro k h
   have h' : (s.see j).seen k = true := by show (_ || _) = true; rw [h]; rfl
   rw [ih2 k (h1.mono k h'), ih1 k h']; rfl
theorem Srch.same {i j : Nat} {s s' : Ks} {b : Bool} (H : Srch adj m i j s b s') : b = false → s'.own = s.own ∧ s'.back = s.back := by
 induction H with
 | done _ => exact fun _ => ⟨rfl, rfl⟩
 | skip _ _ _ ih => exact ih
 | free => intro h; cases h
 | aug => intro h; cases h
 | fail _ _ _ _ _ _ ih1 ih2 => intro h; obtain ⟨a, b⟩ := ih2 h; obtain ⟨c, d⟩ := ih1 rfl; exact ⟨a.trans c, b.trans d⟩
theorem Srch.shut {i j : Nat} {s s' : Ks} {b : Bool} (H : Srch adj m i j s b s') : b = false → (∀ k, j ≤ k → k < m → adj i k → s'.seen k = true) ∧
   ∀ k, s'.seen k = true → s.seen k = false → k < m ∧ ∃ o : Nat, s.own k = (o : Int) ∧ ∀ q, q < m → adj o q → s'.seen q = true := by
 induction H with
 | done h => intro _; exact ⟨fun k h1 h2 => by omega, fun k h1 h2 => by rw [h1] at h2; cases h2⟩
 | @skip i j s s' b hj ha hr ih =>
   intro hb
   obtain ⟨h1, h2⟩ := ih hb
   refine ⟨fun k hk hm hadj => ?_, h2⟩
   by_cases e : k = j
   · subst e; exact hr.mono k (ha hadj)
   · exact h1 k (by omega) hm hadj
 | free => intro h; cases h
 | aug => intro h; cases h
 | @fail i j o s s1 s' b hj ha hs ho hr1 hr2 ih1 ih2 =>
   intro hb
   obtain ⟨a1, a2⟩ := ih1 rfl
   obtain ⟨b1, b2⟩ := ih2 hb
   have hsee : (s.see j).seen j = true := by show (_ || _) = true; simp
   have hown := (hr1.same rfl).1
   refine ⟨fun k hk hm hadj => ?_, fun k h1 h2 => ?_⟩
   · by_cases e : k = j
     · subst e; exact hr2.mono k (hr1.mono k hsee)
     · exact b1 k (by omega) hm hadj
   · by_cases e1 : s1.seen k = true
     · by_cases e : k = j
       · subst e
         exact ⟨hj, o, ho, fun q hq hadj => hr2.mono q (a1 q (Nat.zero_le _) hq hadj)⟩
       · obtain ⟨c0, o', c1, c2⟩ := a2 k e1 (by show (_ || _) = false; rw [h2]; simp [e])
         exact ⟨c0, o', c1, fun q hq hadj => hr2.mono q (c2 q hq hadj)⟩
     · obtain ⟨c0, o', c1, c2⟩ := b2 k h1 (by simpa using e1)
       rw [hown] at c1
       exact ⟨c0, o', c1, c2⟩
structure Mat (adj : Nat → Nat → Prop) (m : Nat) (s : Ks) : Prop where
 back : ∀ x : Nat, 0 ≤ s.back x → ∃ k : Nat, s.back x = (k : Int) ∧ k < m ∧ s.own k = (x : Int) ∧ adj x k
 own : ∀ k : Nat, k < m → 0 ≤ s.own k → ∃ x : Nat, s.own k = (x : Int) ∧ s.back x = (k : Int)
structure Done (adj : Nat → Nat → Prop) (m : Nat) (i : Nat) (s s' : Ks) : Prop where
 back : ∀ x : Nat, 0 ≤ s'.back x → ∃ k : Nat, s'.back x = (k : Int) ∧ k < m ∧ s'.own k = (x : Int) ∧ adj x k
 own : ∀ k : Nat, k < m → 0 ≤ s'.own k → ∃ x : Nat, s'.own k = (x : Int) ∧ (s'.back x = (k : Int) ∨ (x = i ∧ s.back i = (k : Int)))
 new : ∃ k : Nat, s'.back i = (k : Int) ∧ s.seen k = false
 rest : ∀ x : Nat, x ≠ i → (0 ≤ s'.back x ↔ 0 ≤ s.back x) ∧ (s'.back x = s.back x ∨ ∃ k : Nat, s.back x = (k : Int) ∧ s.seen k = false)
theorem Srch.win {i j : Nat} {s s' : Ks} {b : Bool} (H : Srch adj m i j s b s') : b = true → Mat adj m s → (∀ k : Nat, s.back i = (k : Int) → s.seen k = true) → Done adj m i s s' := by
 induction H with
 | done _ => intro h; cases h
 | skip _ _ _ ih => exact ih
 | @free i j s hj ha hs ho =>
   intro _ M hi
   refine ⟨fun x hx => ?_, fun k hk hx => ?_, ⟨j, by show (if i = i then _ else _) = _; rw [if_pos rfl], hs⟩, fun x hx => ?_⟩
   · by_cases e : x = i
     · subst e
       refine ⟨j, by show (if x = x then _ else _) = _; rw [if_pos rfl], hj, by show (if j = j then _ else _) = _; rw [if_pos rfl], ha⟩
     · have eb : ((s.see j).give j i).back x = s.back x := by show (if x = i then _ else _) = _; rw [if_neg e]; rfl
       rw [eb] at hx ⊢
       obtain ⟨k, h1, h2, h3, h4⟩ := M.back x hx
       refine ⟨k, h1, h2, ?_, h4⟩
       show (if k = j then _ else _) = _
       rw [if_neg (fun e => by subst e; omega)]; exact h3
   · by_cases e : k = j
     · subst e
       exact ⟨i, by show (if k = k then _ else _) = _; rw [if_pos rfl], .inl (by show (if i = i then _ else _) = _; rw [if_pos rfl])⟩
     · have eo : ((s.see j).give j i).own k = s.own k := by show (if k = j then _ else _) = _; rw [if_neg e]; rfl
       rw [eo] at hx ⊢
       obtain ⟨x, h1, h2⟩ := M.own k hk hx
       refine ⟨x, h1, ?_⟩
       by_cases e2 : x = i
       · subst e2; exact .inr ⟨rfl, h2⟩
       · left; show (if x = i then _ else _) = _; rw [if_neg e2]; exact h2
   · have eb : ((s.see j).give j i).back x = s.back x := by show (if x = i then _ else _) = _; rw [if_neg hx]; rfl
     rw [eb]
     exact ⟨Iff.rfl, .inl rfl⟩
 | @aug i j o s s' hj ha hs ho hr ih =>
   intro _ M hi
   have hbo : s.back o = (j : Int) := by
     obtain ⟨x, h1, h2⟩ := M.own j hj (by omega)
     have : x = o := by omega
     subst this; exact h2
   have hio : i ≠ o := fun e => by subst e; have := hi j hbo; rw [hs] at this; cases this
   have M2 : Mat adj m (s.see j) := ⟨M.back, M.own⟩
   have D := ih rfl M2 (fun k hk => by
     have : k = j := by have : (s.see j).back o = s.back o := rfl; omega
     subst this; show (_ || _) = true; simp)
   have hownj : s'.own j = (o : Int) := by rw [hr.own_seen j (by show (_ || _) = true; simp)]; exact ho
   obtain ⟨j', hj', hns⟩ := D.new
   have hjj : j' ≠ j := fun e => by subst e; have : (s.see j').seen j' = true := by show (_ || _) = true; simp
                                    rw [this] at hns; cases hns
   have hbi : s'.back i = s.back i := by
     rcases (D.rest i hio).2 with h | ⟨k, h1, h2⟩
     · exact h
     · have h3 := hi k h1
       have : (s.see j).seen k = true := by show (_ || _) = true; rw [h3]; rfl
       rw [this] at h2; cases h2
   refine ⟨fun x hx => ?_, fun k hk hx => ?_, ⟨j, by show (if i = i then _ else _) = _; rw [if_pos rfl], hs⟩, fun x hx => ?_⟩
   · by_cases e : x = i
     · subst e
       exact ⟨j, by show (if x = x then _ else _) = _; rw [if_pos rfl], hj, by show (if j = j then _ else _) = _; rw [if_pos rfl], ha⟩
     · have eb : (s'.give j i).back x = s'.back x := by show (if x = i then _ else _) = _; rw [if_neg e]
       rw [eb] at hx ⊢
       obtain ⟨k, h1, h2, h3, h4⟩ := D.back x hx
       refine ⟨k, h1, h2, ?_, h4⟩
       show (if k = j then _ else _) = _
       rw [if_neg (fun e => by
         subst e
         have : x = o := by omega
         subst this; omega)]
       exact h3
   · by_cases e : k = j
     · subst e
       exact ⟨i, by show (if k = k then _ else _) = _; rw [if_pos rfl], .inl (by show (if i = i then _ else _) = _; rw [if_pos rfl])⟩
     · have eo : (s'.give j i).own k = s'.own k := by show (if k = j then _ else _) = _; rw [if_neg e]
       rw [eo] at hx ⊢
       obtain ⟨x, h1, h2⟩ := D.own k hk hx
       refine ⟨x, h1, ?_⟩
       rcases h2 with h2 | ⟨h2, h3⟩
       · by_cases e2 : x = i
         · subst e2; exact .inr ⟨rfl, by rw [← hbi]; exact h2⟩
         · left; show (if x = i then _ else _) = _; rw [if_neg e2]; exact h2
       · exfalso
         have : (s.see j).back o = s.back o := rfl
         omega
   · have eb : (s'.give j i).back x = s'.back x := by show (if x = i then _ else _) = _; rw [if_neg hx]
     rw [eb]
     by_cases e : x = o
     · subst e
       exact ⟨⟨fun _ => by omega, fun _ => by omega⟩, .inr ⟨j, hbo, hs⟩⟩
     · obtain ⟨h1, h2⟩ := D.rest x e
       refine ⟨h1, ?_⟩
       rcases h2 with h2 | ⟨k, h2, h3⟩
       · exact .inl h2
       · exact .inr ⟨k, h2, by have : (s.seen k || decide (k = j)) = false := h3; simp at this; exact this.1⟩
 | @fail i j o s s1 s' b hj ha hs ho hr1 hr2 ih1 ih2 =>
   intro hb M hi
   obtain ⟨e1, e2⟩ := hr1.same rfl
   have e1 : s1.own = s.own := e1
   have e2 : s1.back = s.back := e2
   have hm : ∀ k, s.seen k = true → s1.seen k = true := fun k h => hr1.mono k (by show (_ || _) = true; rw [h]; rfl)
   have D := ih2 hb ⟨by rw [e1, e2]; exact M.back, by rw [e1, e2]; exact M.own⟩ (fun k hk => hm k (hi k (by rw [← e2]; exact hk)))
   have hf : ∀ k, s1.seen k = false → s.seen k = false := fun k h => by
     cases h' : s.seen k with
     | false => rfl
     | true => rw [hm k h'] at h; cases h
   refine ⟨D.back, by have := D.own; rwa [e2] at this, ?_, fun x hx => ?_⟩
   · obtain ⟨k, h1, h2⟩ := D.new; exact ⟨k, h1, hf k h2⟩
   · obtain ⟨h1, h2⟩ := D.rest x hx
     rw [e2] at h1 h2
     refine ⟨h1, ?_⟩
     rcases h2 with h2 | ⟨k, h2, h3⟩
     · exact .inl h2
     · exact .inr ⟨k, h2, hf k h3⟩
def Dead (adj : Nat → Nat → Prop) (m : Nat) (own : Nat → Int) (D : Nat → Prop) : Prop := ∀ k, k < m → D k → ∃ o : Nat, own k = (o : Int) ∧ ∀ q, q < m → adj o q → D q
theorem Srch.lost {i j : Nat} {s s' : Ks} {b : Bool} (H : Srch adj m i j s b s') {D : Nat → Prop} : Dead adj m s.own D → (∀ q, q < m → adj i q → D q) → b = false := by
 induction H with
 | done _ => intro _ _; rfl
 | skip _ _ _ ih => exact ih
 | @free i j s hj ha hs ho => intro hD hi; obtain ⟨o, h, _⟩ := hD j hj (hi j hj ha); omega
 | @aug i j o s s' hj ha hs ho hr ih =>
   intro hD hi
   obtain ⟨o', h, h2⟩ := hD j hj (hi j hj ha)
   have : o' = o := by omega
   subst this
   exact ih hD h2
 | @fail i j o s s1 s' b hj ha hs ho hr1 hr2 ih1 ih2 =>
   intro hD hi
   have e1 : s1.own = s.own := (hr1.same rfl).1
   exact ih2 (by rw [e1]; exact hD) hi
theorem Srch.kept {i j : Nat} {s s' : Ks} {b : Bool} (H : Srch adj m i j s b s') {D : Nat → Prop} : Dead adj m s.own D → ∀ k, k < m → D k → s'.own k = s.own k := by
 induction H with
 | done _ => intro _ k _ _; rfl
 | skip _ _ _ ih => exact ih
 | @free i j s hj ha hs ho =>
   intro hD k hk hd
   obtain ⟨o, h, _⟩ := hD k hk hd
   show (if k = j then _ else _) = _
   rw [if_neg (fun e => by subst e; omega)]; rfl
 | @aug i j o s s' hj ha hs ho hr ih =>
   intro hD k hk hd
   show (if k = j then _ else _) = _
   rw [if_neg (fun e => by
     subst e
     obtain ⟨o', h, h2⟩ := hD k hk hd
     have : o' = o := by omega
     subst this
     have := hr.lost hD h2
     cases this)]
   exact ih hD k hk hd
 | @fail i j o s s1 s' b hj ha hs ho hr1 hr2 ih1 ih2 =>
   intro hD k hk hd
   have e1 : s1.own = s.own := (hr1.same rfl).1
   rw [ih2 (by rw [e1]; exact hD) k hk hd, e1]
structure Kuhn (adj : Nat → Nat → Prop) (m : Nat) (n : Nat) (s : Ks) (D : Nat → Prop) : Prop where
 mat : Mat adj m s
 dead : Dead adj m s.own D
 lost : ∀ x : Nat, x < n → s.back x < 0 → ∀ q, q < m → adj x q → D q
 rest : ∀ x : Nat, n ≤ x → s.back x < 0
 lt : ∀ k, D k → k < m
theorem Kuhn.start {s : Ks} (h1 : ∀ k, s.own k < 0) (h2 : ∀ x, s.back x < 0) : Kuhn adj m 0 s (fun _ => False) :=
 ⟨⟨fun x hx => by have := h2 x; omega, fun k _ hx => by have := h1 k; omega⟩, fun k _ h => h.elim, fun x hx => by omega, fun x _ => h2 x, fun k h => h.elim⟩
theorem Kuhn.step {n : Nat} {s s' : Ks} {D : Nat → Prop} {b : Bool} (K : Kuhn adj m n s D) (hs : ∀ k, s.seen k = false) (H : Srch adj m n 0 s b s') : ∃ D', Kuhn adj m (n + 1) s' D' ∧ (b = true ↔ 0 ≤ s'.back n) ∧ ∀ x : Nat, x ≠ n → (0 ≤ s'.back x ↔ 0 ≤ s.back x) := by
 have hn := K.rest n (Nat.le_refl _)
 cases hb : b with
 | false =>
   obtain ⟨e1, e2⟩ := H.same hb
   obtain ⟨a1, a2⟩ := H.shut hb
   refine ⟨fun k => D k ∨ s'.seen k = true, ⟨⟨by rw [e1, e2]; exact K.mat.back, by rw [e1, e2]; exact K.mat.own⟩, fun k hk hd => ?_, fun x hx hbx q hq hadj => ?_, fun x hx => ?_, fun k hd => ?_⟩, ?_, fun x _ => by rw [e2]⟩
   · rw [e1]
     rcases hd with hd | hd
     · obtain ⟨o, h1, h2⟩ := K.dead k hk hd; exact ⟨o, h1, fun q hq ha => .inl (h2 q hq ha)⟩
     · obtain ⟨_, o, h1, h2⟩ := a2 k hd (hs k); exact ⟨o, h1, fun q hq ha => .inr (h2 q hq ha)⟩
   · by_cases e : x = n
     · subst e; exact .inr (a1 q (Nat.zero_le _) hq hadj)
     · rw [e2] at hbx; exact .inl (K.lost x (by omega) hbx q hq hadj)
   · rw [e2]; exact K.rest x (by omega)
   · rcases hd with hd | hd
     · exact K.lt k hd
     · exact (a2 k hd (hs k)).1
   · rw [e2]; constructor
     · intro h; cases h
     · intro h; omega
 | true =>
   have W := H.win hb K.mat (fun k hk => by omega)
   have hk := H.kept K.dead
   obtain ⟨k0, h0, _⟩ := W.new
   refine ⟨D, ⟨⟨W.back, fun k hkm hx => ?_⟩, fun k hkm hd => ?_, fun x hx hbx => ?_, fun x hx => ?_, K.lt⟩, ⟨fun _ => by omega, fun _ => rfl⟩, fun x hx => (W.rest x hx).1⟩
   · obtain ⟨x, h1, h2⟩ := W.own k hkm hx
     rcases h2 with h2 | ⟨rfl, h2⟩
     · exact ⟨x, h1, h2⟩
     · omega
   · rw [hk k hkm hd]; exact K.dead k hkm hd
   · have hxn : x ≠ n := fun e => by subst e; omega
     have := (W.rest x hxn).1
     exact K.lost x (by omega) (by omega)
   · have := (W.rest x (by omega)).1
     have := K.rest x (by omega)
     omega
end Go.Sp
end
/- Chains and cuts: as many in the greatest cut as are nobody's. No program in sight. -/
section
set_option linter.all false
namespace Go.Sp
theorem nodup_filter {T : Type} (p : T → Bool) {l : List T} (h : l.Nodup) : (l.filter p).Nodup := List.Pairwise.filter p h
structure IsCut (adj : Nat → Nat → Prop) (n : Nat) (S : List Nat) : Prop where
 nd : S.Nodup
 lt : ∀ x ∈ S, x < n
 apart : ∀ x ∈ S, ∀ y ∈ S, ¬ adj x y
structure Ord (adj : Nat → Nat → Prop) (n : Nat) (rank : Nat → Int) : Prop where
 lt : ∀ x y, adj x y → x < n ∧ y < n
 up : ∀ x y, adj x y → rank x < rank y
 trans : ∀ x y z, adj x y → adj y z → adj x z
inductive Ch (back : Nat → Int) : Nat → Nat → Prop
 | refl (x : Nat) : Ch back x x
 | step {x y z : Nat} : back x = (y : Int) → Ch back y z → Ch back x z
section
variable {adj : Nat → Nat → Prop} {n : Nat} {rank : Nat → Int} {s : Ks}
theorem Mat.edge {m : Nat} (M : Mat adj m s) {x y : Nat} (h : s.back x = (y : Int)) : y < m ∧ s.own y = (x : Int) ∧ adj x y := by
 obtain ⟨k, h1, h2, h3, h4⟩ := M.back x (by omega)
 have : k = y := by omega
 subst this; exact ⟨h2, h3, h4⟩
theorem Ch.edge (M : Mat adj n s) (O : Ord adj n rank) {x y : Nat} (h : Ch s.back x y) : x = y ∨ adj x y := by
 induction h with
 | refl x => exact .inl rfl
 | step h1 _ ih =>
   right
   have h3 := (M.edge h1).2.2
   rcases ih with rfl | h4
   · exact h3
   · exact O.trans _ _ _ h3 h4
def loose (n : Nat) (back : Nat → Int) : List Nat := (List.range n).filter (fun x => decide (back x < 0))
end
end Go.Sp
end
/- Binary search, and insertion into a sorted list. No program in sight. -/
section
set_option linter.all false
namespace Go.Sp
open Go.Av
def bsF {T E : Type} [Inhabited T] (fuel : Nat) (p0 : List T) (p1 : E) (p2 : T → E → Option Int) : Option (Int × Bool) :=
 (loopGo (fun (s1 : Int × Int) k1 => (bif (decide (s1.2 < s1.1)) then must (inI (s1.2 + s1.1)) <| must (inU (s1.2 + s1.1)) <| must (inI (Int.fdiv (s1.2 + s1.1) (2 ^ (1 : Int).toNat))) <| must (0 ≤ ((Int.fdiv (s1.2 + s1.1) (2 ^ (1 : Int).toNat)) : Int) ∧ ((Int.fdiv (s1.2 + s1.1) (2 ^ (1 : Int).toNat)) : Int) < ((p0.length : Nat) : Int)) <| bindO (p2 (p0.getD ((Int.fdiv (s1.2 + s1.1) (2 ^ (1 : Int).toNat))).toNat default) p1) fun y7 => (bif (decide (y7 < 0)) then must (inI ((Int.fdiv (s1.2 + s1.1) (2 ^ (1 : Int).toNat)) + 1)) <| k1 (s1.1, ((Int.fdiv (s1.2 + s1.1) (2 ^ (1 : Int).toNat)) + 1)) else k1 ((Int.fdiv (s1.2 + s1.1) (2 ^ (1 : Int).toNat)), s1.2)) else must (((decide (s1.2 < ((p0.length : Nat) : Int))) = true → (0 ≤ (s1.2 : Int) ∧ (s1.2 : Int) < ((p0.length : Nat) : Int)))) <| bindO ((bif (decide (s1.2 < ((p0.length : Nat) : Int))) then p2 (p0.getD (s1.2).toNat default) p1 else some default)) fun y12 => some (s1.2, ((decide (s1.2 < ((p0.length : Nat) : Int))) && (decide (y12 = 0)))))) fuel (((p0.length : Nat) : Int), 0))
theorem bsF_eq {T E : Type} [Inhabited T] {fuel : Nat} (l : List T) (x : E) {p2 : T → E → Option Int} {c : T → Int} (hp : ∀ t, p2 t x = some (c t)) {k : Nat} (hk : k ≤ l.length)
   (h1 : ∀ i, i < k → c (l.getD i default) < 0) (h2 : ∀ i, k ≤ i → i < l.length → 0 ≤ c (l.getD i default)) (hl : l.length ≤ 1000000000) (hf : l.length < fuel) :
   bsF fuel l x p2 = some ((k : Int), decide (k < l.length) && decide (c (l.getD k default) = 0)) := by
 unfold bsF
 refine Wp.eq (wp_loop (fun s => ∃ lo hi : Nat, s = ((hi : Int), (lo : Int)) ∧ lo ≤ k ∧ k ≤ hi ∧ hi ≤ l.length) (fun s => (s.1 - s.2).toNat) (by simp only; omega) ⟨0, l.length, rfl, by omega, hk, by omega⟩ ?_)
 rintro _ K ⟨lo, hi, rfl, a1, a2, a3⟩ hK
 simp only at hK ⊢
 refine wp_ifd (fun hlt => ?_) (fun hge => ?_)
 · have e2 : Int.fdiv ((lo : Int) + hi) (2 ^ (1 : Int).toNat) = (((lo + hi) / 2 : Nat) : Int) := by
     rw [show (1 : Int).toNat = 1 from rfl, fdiv_bit (by omega), show ((lo : Int) + hi).toNat = lo + hi by omega, Nat.shiftRight_eq_div_pow]
   rw [e2]
   generalize hm : (lo + hi) / 2 = m
   refine wp_mustI (by omega) (wp_must (by unfold inU; omega) (wp_mustI (by omega) (wp_must (by omega) (wp_bindE (hp _) ?_))))
   rw [Int.toNat_natCast]
   refine wp_ifd (fun hc => ?_) (fun hc => ?_)
   · refine wp_mustI (by omega) (hK _ ⟨m + 1, hi, by simp, ?_, a2, a3⟩ (by simp only; omega))
     rcases Nat.lt_or_ge m k with h | h
     · omega
     · have := h2 m h (by omega); omega
   · refine hK _ ⟨lo, m, rfl, a1, ?_, by omega⟩ (by simp only; omega)
     rcases Nat.lt_or_ge m k with h | h
     · exact absurd (h1 m h) hc
     · exact h
 · have elo : lo = k := by omega
   subst elo
   refine wp_must (fun h => by have := of_decide_eq_true h; omega) ?_
   by_cases hlt : (lo : Int) < (l.length : Int)
   · refine wp_onE (by simp; omega) (hp _) (wp_some ?_)
     rw [Int.toNat_natCast]
     congr 2
     simp
   · refine wp_offE (by simp; omega) rfl (wp_some ?_)
     have e1 : decide ((lo : Int) < (l.length : Int)) = false := by simp; omega
     have e2 : decide (lo < l.length) = false := by simp; omega
     rw [e1, e2]; rfl
theorem split_ex {A : Nat → Prop} : ∀ (n : Nat), (∀ i j, i < j → j < n → A j → A i) → ∃ k, k ≤ n ∧ (∀ i, i < k → A i) ∧ ∀ i, k ≤ i → i < n → ¬ A i
 | 0, _ => ⟨0, Nat.le_refl _, fun i h => absurd h (Nat.not_lt_zero _), fun i _ h => absurd h (Nat.not_lt_zero _)⟩
 | n + 1, hm => by
   obtain ⟨k, h1, h2, h3⟩ := split_ex n (fun i j hij hj => hm i j hij (by omega))
   by_cases hn : A n
   · refine ⟨n + 1, Nat.le_refl _, fun i hi => ?_, fun i h4 h5 => by omega⟩
     rcases Nat.lt_or_ge i n with h | h
     · exact hm i n h (by omega) hn
     · have : i = n := by omega
       rw [this]; exact hn
   · refine ⟨k, by omega, h2, fun i h4 h5 => ?_⟩
     rcases Nat.lt_or_ge i n with h | h
     · exact h3 i h4 h
     · have : i = n := by omega
       rw [this]; exact hn
theorem while_split {T : Type} [Inhabited T] {p : T → Bool} : ∀ (l : List T) (k : Nat), k ≤ l.length → (∀ i, i < k → p (l.getD i default) = true) → (k < l.length → p (l.getD k default) = false) → l.takeWhile p = l.take k ∧ l.dropWhile p = l.drop k
 | [], k, hk, _, _ => by simp
 | a :: l, 0, hk, h1, h2 => by
   have := h2 (by simp)
   simp at this
   simp [this]
 | a :: l, k + 1, hk, h1, h2 => by
   have h0 := h1 0 (by omega)
   simp at h0
   obtain ⟨q1, q2⟩ := while_split l k (by simpa using hk) (fun i hi => by simpa using h1 (i + 1) (by omega)) (fun hi => by simpa using h2 (by simpa using hi))
   simp [h0, q1, q2]
theorem sorted_ext {T : Type} (f : T → Int) : ∀ {a b : List T}, a.Pairwise (fun x y => f x < f y) → b.Pairwise (fun x y => f x < f y) → (∀ z, z ∈ a ↔ z ∈ b) → a = b
 | [], [], _, _, _ => rfl
 | [], y :: b, _, _, h => by have := (h y).2 (by simp); simp at this
 | x :: a, [], _, _, h => by have := (h x).1 (by simp); simp at this
 | x :: a, y :: b, ha, hb, h => by
   rw [List.pairwise_cons] at ha hb
   have hxy : x = y := by
     rcases List.mem_cons.1 ((h x).1 (by simp)) with e | e
     · exact e
     · rcases List.mem_cons.1 ((h y).2 (by simp)) with e2 | e2
       · exact e2.symm
       · have h1 := hb.1 x e; have h2 := ha.1 y e2; omega
   subst hxy
   congr 1
   refine sorted_ext f ha.2 hb.2 (fun z => ?_)
   constructor
   · intro hz
     rcases List.mem_cons.1 ((h z).1 (by simp [hz])) with e | e
     · have := ha.1 z hz; rw [e] at this; omega
     · exact e
   · intro hz
     rcases List.mem_cons.1 ((h z).2 (by simp [hz])) with e | e
     · have := hb.1 z hz; rw [e] at this; omega
     · exact e
def insK {T : Type} (f : T → Int) (l : List T) (x : T) : List T := l.takeWhile (fun y => decide (f y < f x)) ++ [x] ++ l.dropWhile (fun y => decide (f y < f x))
theorem insK_len {T : Type} (f : T → Int) (l : List T) (x : T) : (insK f l x).length = l.length + 1 := by
 unfold insK
 have : (l.takeWhile (fun y => decide (f y < f x)) ++ l.dropWhile (fun y => decide (f y < f x))).length = l.length := by rw [List.takeWhile_append_dropWhile]
 simp only [List.length_append, List.length_singleton] at this ⊢
 omega
theorem adj_sorted {T : Type} [Inhabited T] (f : T → Int) {l : List T} (h : ∀ i, 0 < i → i < l.length → f (l.getD (i - 1) default) < f (l.getD i default)) : l.Pairwise (fun a b => f a < f b) := by
 rw [List.pairwise_iff_getElem]
 intro i j hi hj hij
 have step : ∀ k, i + 1 + k < l.length → f l[i] < f (l.getD (i + 1 + k) default) := by
   intro k
   induction k with
   | zero =>
     intro hk
     have := h (i + 1) (by omega) hk
     have e : l.getD (i + 1 - 1) default = l[i] := by simp [List.getElem?_eq_getElem hi]
     rw [e] at this; exact this
   | succ k ih =>
     intro hk
     have h1 := ih (by omega)
     have h2 := h (i + 1 + (k + 1)) (by omega) hk
     have e : i + 1 + (k + 1) - 1 = i + 1 + k := by omega
     rw [e] at h2; omega
 have := step (j - i - 1) (by omega)
 have e : i + 1 + (j - i - 1) = j := by omega
 rw [e] at this
 simpa [List.getElem?_eq_getElem hj] using this
theorem sorted_lt {T : Type} [Inhabited T] {f : T → Int} {l : List T} (hs : l.Pairwise (fun a b => f a < f b)) {i j : Nat} (hij : i < j) (hj : j < l.length) : f (l.getD i default) < f (l.getD j default) := by
 have := List.pairwise_iff_getElem.1 hs i j (by omega) hj hij
 simpa [List.getElem?_eq_getElem hj, List.getElem?_eq_getElem (show i < l.length by omega)] using this
theorem sorted_inj {T : Type} [Inhabited T] {f : T → Int} {l : List T} (hs : l.Pairwise (fun a b => f a < f b)) {x y : T} (hx : x ∈ l) (hy : y ∈ l) (e : f x = f y) : x = y := by
 obtain ⟨i, hi, rfl⟩ := mem_getD hx
 obtain ⟨j, hj, rfl⟩ := mem_getD hy
 rcases Nat.lt_trichotomy i j with q | q | q
 · have := sorted_lt hs q hj; omega
 · rw [q]
 · have := sorted_lt hs q hi; omega
theorem split_sorted {T : Type} [Inhabited T] (f : T → Int) {l : List T} (hs : l.Pairwise (fun a b => f a < f b)) (s : Int) : ∃ k, k ≤ l.length ∧ (∀ i, i < k → f (l.getD i default) < s) ∧ (∀ i, k ≤ i → i < l.length → ¬ f (l.getD i default) < s) ∧
   ((∀ y ∈ l, f y ≠ s) ↔ ¬ (k < l.length ∧ f (l.getD k default) = s)) ∧ l.takeWhile (fun y => decide (f y < s)) = l.take k ∧ l.dropWhile (fun y => decide (f y < s)) = l.drop k := by
 obtain ⟨k, k1, k2, k3⟩ := split_ex (A := fun i => f (l.getD i default) < s) l.length (fun i j hij hj h => Int.lt_trans (sorted_lt hs hij hj) h)
 refine ⟨k, k1, k2, k3, ⟨fun h hk => h _ (getD_mem hk.1) hk.2, fun h y hy e => ?_⟩, while_split l k k1 (fun i hi => decide_eq_true (k2 i hi)) (fun hk => decide_eq_false (k3 k (Nat.le_refl _) hk))⟩
 obtain ⟨i, hi, rfl⟩ := mem_getD hy
 rcases Nat.lt_trichotomy i k with hik | hik | hik
 · have := k2 i hik; omega
 · subst hik; exact h ⟨hi, e⟩
 · have h1 := sorted_lt hs hik hi
   have h2 := k3 k (Nat.le_refl _) (by omega)
   omega
theorem mid_getD {T : Type} [Inhabited T] {l : List T} {k : Nat} (hk : k < l.length) : l = l.take k ++ l.getD k default :: l.drop (k + 1) := by
 have := List.take_append_drop k l
 rw [List.drop_eq_getElem_cons hk] at this
 rw [List.getD_eq_getElem?_getD, List.getElem?_eq_getElem hk]
 exact this.symm
theorem cut_memK {T : Type} [Inhabited T] {l : List T} {k : Nat} (hk : k < l.length) (hd : l.Nodup) (z : T) : z ∈ l.take k ++ l.drop (k + 1) ↔ z ∈ l ∧ z ≠ l.getD k default := by
 have e := mid_getD hk
 generalize hy : l.getD k default = y at e ⊢
 generalize l.take k = A at e ⊢
 generalize l.drop (k + 1) = B at e ⊢
 subst e
 unfold List.Nodup at hd
 rw [List.pairwise_append, List.pairwise_cons] at hd
 have hd2 : y ∉ A ++ B ∧ True := ⟨fun h => by
   rcases List.mem_append.1 h with h | h
   · exact hd.2.2 y h y (by simp) rfl
   · exact hd.2.1.1 y h rfl, trivial⟩
 simp only [List.mem_append, List.mem_cons] at hd2 ⊢
 constructor
 · intro h
   refine ⟨by rcases h with h | h <;> simp [h], fun ez => hd2.1 (ez ▸ h)⟩
 · rintro ⟨h | h | h, hne⟩
   · exact .inl h
   · exact absurd h hne
   · exact .inr h
theorem cut_sub {T : Type} (l : List T) (k : Nat) : (l.take k ++ l.drop (k + 1)).Sublist l := by
 have := List.Sublist.append (List.Sublist.refl (l.take k)) (List.drop_sublist_drop_left l (Nat.le_succ k))
 rwa [List.take_append_drop] at this
theorem sorted_nodup {T : Type} {f : T → Int} {l : List T} (hs : l.Pairwise (fun a b => f a < f b)) : l.Nodup := hs.imp (fun h e => by rw [e] at h; omega)
theorem cut_filter {T : Type} [Inhabited T] {f : T → Int} {l : List T} (hs : l.Pairwise (fun a b => f a < f b)) {k : Nat} (hk : k < l.length) {s : Int} (e : f (l.getD k default) = s) : l.take k ++ l.drop (k + 1) = l.filter (fun y => !decide (f y = s)) := by
 refine sorted_ext f (hs.sublist (cut_sub l k)) (hs.filter _) (fun z => ?_)
 rw [cut_memK hk (sorted_nodup hs), List.mem_filter]
 simp only [Bool.not_eq_true', decide_eq_false_iff_not]
 refine and_congr_right fun hz => not_congr ⟨fun h => by rw [h]; exact e, fun h => sorted_inj hs hz (getD_mem hk) (h.trans e.symm)⟩
end Go.Sp
end
/- slices.IndexFunc and slices.DeleteFunc, as they are printed. No program in sight. -/
section
set_option linter.all false
namespace Go.Sp
open Go.Av
set_option maxRecDepth 100000
theorem indexFunc_eq {T : Type} [Inhabited T] {p : T → Option Bool} {q : T → Bool} (hp : ∀ x, p x = some (q x)) (l : List T) :
   (rangeGo (fun i1 (s1 : Unit) k1 => bindO (p (l.getD i1 default)) fun y3 => (bif y3 then some (i1 : Int) else k1 ())) (fun (s1 : Unit) => some (-1)) l.length 0 () : Option Int) = some (match l.findIdx? q with | some i => (i : Int) | none => -1) := by
 refine (wp_forall (P := fun r => r = (match l.findIdx? q with | some i => (i : Int) | none => -1)) (fun i => q (l.getD i default) = false) (fun i K hi hb hK => ?_) (fun h1 => ?_)).eq
 · rw [hp]
   refine wp_bif (fun h => wp_some ?_) (fun h => hK h)
   have : l.findIdx? q = some i := by
     rw [List.findIdx?_eq_some_iff_getElem]
     refine ⟨hi, ?_, fun j hj => ?_⟩
     · rw [List.getD_eq_getElem?_getD, List.getElem?_eq_getElem hi] at h; exact h
     · have := hb j hj
       rw [List.getD_eq_getElem?_getD, List.getElem?_eq_getElem (by omega)] at this
       simpa using this
   rw [this]
 · refine wp_some ?_
   have : l.findIdx? q = none := by
     rw [List.findIdx?_eq_none_iff]
     intro x hx
     obtain ⟨i, hi, rfl⟩ := mem_getD hx
     exact h1 i hi
   rw [this]
theorem take_set_le {T : Type} {l : List T} {i : Nat} {x : T} (h : i < l.length) : (l.set i x).take (i + 1) = l.take i ++ [x] := by
 rw [List.take_add_one, List.getElem?_set_self h, List.take_set_of_le (Nat.le_refl _)]; rfl
theorem take_copyAt {T : Type} [Inhabited T] (l : List T) (a m : Nat) (f : Nat → T) (h : a ≤ l.length) : (copyAt l a m f).take a = l.take a := by
 refine ext_getD (by simp [copyAt]) (fun i hi => ?_)
 have hi' : i < a := by simp [copyAt] at hi; omega
 rw [getD_take, getD_take, if_pos hi', if_pos hi']
 unfold copyAt
 rw [List.getD_eq_getElem?_getD, List.getElem?_map, List.getElem?_range (by omega)]
 simp only [Option.map_some, Option.getD_some]
 rw [if_neg (by omega)]
theorem drop_getD {T : Type} [Inhabited T] {l : List T} {i : Nat} (h : i < l.length) : l.drop i = l.getD i default :: l.drop (i + 1) := by
 rw [List.getD_eq_getElem?_getD, List.getElem?_eq_getElem h]; exact List.drop_eq_getElem_cons h
theorem take_getD {T : Type} [Inhabited T] {l : List T} {i : Nat} (h : i < l.length) : l.take (i + 1) = l.take i ++ [l.getD i default] := by
 rw [List.take_add_one, List.getD_eq_getElem?_getD, List.getElem?_eq_getElem h]; rfl
theorem deleteFunc_eq {T : Type} [Inhabited T] (z : T) {p : T → Option Bool} {q : T → Bool} (hp : ∀ x, p x = some (q x)) (l : List T) (fuel : Nat) (hf : l.length < fuel) (hl : l.length < 9223372036854775807) :
   (bindO (rangeGo (fun i1 (s1 : Unit) k1 => bindO (p (l.getD i1 default)) fun y3 => (bif y3 then some (i1 : Int) else k1 ())) (fun (s1 : Unit) => some (-1)) l.length 0 () : Option Int) fun y1 => (bif (decide (y1 = (-1))) then some l else must (inI (y1 + 1)) <| (loopGo (fun (s5 : Int × Int × (List T)) k5 => (bif (decide (s5.2.1 < ((s5.2.2.length : Nat) : Int))) then must (0 ≤ (s5.2.1 : Int) ∧ (s5.2.1 : Int) < ((s5.2.2.length : Nat) : Int)) <| bindO (p (s5.2.2.getD (s5.2.1).toNat default)) fun y8 => (bif (!y8) then must (0 ≤ (s5.1 : Int) ∧ (s5.1 : Int) < ((s5.2.2.length : Nat) : Int)) <| must (inI (s5.1 + 1)) <| must (inI (s5.2.1 + 1)) <| k5 ((s5.1 + 1), (s5.2.1 + 1), (s5.2.2.set (s5.1).toNat (s5.2.2.getD (s5.2.1).toNat default))) else must (inI (s5.2.1 + 1)) <| k5 (s5.1, (s5.2.1 + 1), s5.2.2)) else must (0 < s5.2.2.length ∧ 0 ≤ (s5.1 : Int) ∧ (s5.1 : Int) ≤ ((s5.2.2.length : Nat) : Int)) <| must (0 < (copyAt s5.2.2 ((s5.1).toNat) (s5.2.2.length - (s5.1).toNat) (fun _ => z)).length ∧ 0 ≤ (s5.1 : Int) ∧ (s5.1 : Int) ≤ (((copyAt s5.2.2 ((s5.1).toNat) (s5.2.2.length - (s5.1).toNat) (fun _ => z)).length : Nat) : Int)) <| some ((copyAt s5.2.2 ((s5.1).toNat) (s5.2.2.length - (s5.1).toNat) (fun _ => z)).take ((s5.1).toNat)))) fuel (y1, (y1 + 1), l))) : Option (List T)) = some (l.filter (fun x => !q x)) := by
 rw [indexFunc_eq hp l]
 refine Wp.eq (wp_bindE rfl ?_)
 cases hi : l.findIdx? q with
 | none =>
   rw [List.findIdx?_eq_none_iff] at hi
   refine wp_true (by simp) (wp_some ?_)
   exact (List.filter_eq_self.2 (fun x hx => by rw [hi x hx]; rfl)).symm
 | some i =>
   rw [List.findIdx?_eq_some_iff_getElem] at hi
   obtain ⟨h1, h2, h3⟩ := hi
   refine wp_false (by simp) (wp_mustI (by simp only; omega) ?_)
   refine wp_loop (fun s => ∃ a b : Nat, s.1 = (a : Int) ∧ s.2.1 = (b : Int) ∧ a < b ∧ b ≤ l.length ∧ s.2.2.length = l.length ∧ s.2.2.take a = (l.take b).filter (fun x => !q x) ∧ s.2.2.drop b = l.drop b) (fun s => l.length - s.2.1.toNat) (by simp only; omega) ⟨i, i + 1, rfl, by simp, by omega, by omega, rfl, ?_, rfl⟩ ?_
   · rw [take_getD h1, List.filter_append]
     have e1 : (l.take i).filter (fun x => !q x) = l.take i := List.filter_eq_self.2 (fun x hx => by
       obtain ⟨j, hj, rfl⟩ := List.getElem_of_mem hx
       have hj' : j < i := by simp at hj; omega
       have := h3 j hj'
       simp only [List.getElem_take]
       simpa using this)
     have e2 : q (l.getD i default) = true := by rw [List.getD_eq_getElem?_getD, List.getElem?_eq_getElem h1]; exact h2
     rw [e1]; simp [e2, -List.getD_eq_getElem?_getD]
   · rintro ⟨s1, s2, s3⟩ K ⟨a, b, rfl, rfl, hab, hb, hlen, ht, hd⟩ hK
     simp only at hK ht hd hlen ⊢
     refine wp_ifd (fun hlt => ?_) (fun hge => ?_)
     · have hbl : b < l.length := by omega
       refine wp_must (by omega) ?_
       rw [hp]
       simp only [Int.toNat_natCast]
       have ex : s3.getD b default = l.getD b default := by
         have := drop_getD (l := s3) (i := b) (by omega)
         rw [hd, drop_getD hbl] at this
         exact (List.cons.inj this).1.symm
       have hd1 : s3.drop (b + 1) = l.drop (b + 1) := by
         have := drop_getD (l := s3) (i := b) (by omega)
         rw [hd, drop_getD hbl] at this
         exact (List.cons.inj this).2.symm
       refine wp_bindE rfl ?_
       rw [ex]
       refine wp_bif (fun hq => ?_) (fun hq => ?_)
       · refine wp_must (by omega) (wp_mustI (by omega) (wp_mustI (by omega) ?_))
         refine hK _ ⟨a + 1, b + 1, by simp, by simp, by omega, by omega, by simp [hlen], ?_, ?_⟩ (by simp only; omega)
         · rw [take_set_le (by omega), ht, take_getD hbl, List.filter_append]
           simp only [Bool.not_eq_true'] at hq
           simp [hq, -List.getD_eq_getElem?_getD]
         · rw [List.drop_set_of_lt (by omega)]; exact hd1
       · refine wp_mustI (by omega) (hK _ ⟨a, b + 1, rfl, by simp, by omega, by omega, hlen, ?_, hd1⟩ (by simp only; omega))
         rw [ht, take_getD hbl, List.filter_append]
         simp only [Bool.not_eq_false'] at hq
         simp [hq, -List.getD_eq_getElem?_getD]
     · refine wp_must (by omega) (wp_must ?_ (wp_some ?_))
       · rw [length_copyAt]; omega
       · simp only [Int.toNat_natCast]
         rw [take_copyAt _ _ _ _ (by omega), ht, List.take_of_length_le (by omega)]
end Go.Sp
end
/- Plain laws, crew: what a valid crew is. No program in sight. -/
section
set_option linter.all false
namespace Go.Sp
open Go.Av
set_option maxRecDepth 100000
def tv (t : List (List Range)) (a b : Nat) : Range := (t.getD a default).getD b default
structure TravelOk (t : List (List Range)) : Prop where
 len : t.length ≤ 12
 row : ∀ a, a < t.length → (t.getD a default).length = t.length
 diag : ∀ a, a < t.length → (tv t a a).Lo = 0 ∧ (tv t a a).Hi = 0
 rng : ∀ a b, a < t.length → b < t.length → 0 ≤ (tv t a b).Lo ∧ (tv t a b).Lo ≤ (tv t a b).Hi ∧ (tv t a b).Hi ≤ 600
 tri : ∀ a b c, a < t.length → b < t.length → c < t.length → (tv t a c).Lo ≤ (tv t a b).Lo + (tv t b c).Lo ∧ (tv t a c).Hi ≤ (tv t a b).Hi + (tv t b c).Hi
def TaskOk (t : Task) : Prop := 1 ≤ t.Lamp ∧ t.Lamp ≤ 999 ∧ 0 ≤ t.Place ∧ t.Place ≤ 11 ∧ 0 ≤ t.At ∧ t.At ≤ 1439 ∧ 1 ≤ t.Serve ∧ t.Serve ≤ 120
def HandOk (h : Hand) : Prop := 1 ≤ h.Id ∧ h.Id ≤ 99 ∧ 0 ≤ h.From ∧ h.From ≤ h.To ∧ h.To ≤ 1439
def tk (c : Crew) (i : Nat) : Task := c.Tasks.getD i default
def hd (c : Crew) (i : Nat) : Hand := c.Hands.getD i default
structure Valid (c : Crew) : Prop where
 tasks : c.Tasks.length ≤ 24
 hands : c.Hands.length ≤ 16
 travel : TravelOk c.Travel
 task : ∀ i, i < c.Tasks.length → TaskOk (tk c i) ∧ (tk c i).Place < c.Travel.length ∧ (0 < i → (tk c (i - 1)).Lamp < (tk c i).Lamp)
 hand : ∀ i, i < c.Hands.length → HandOk (hd c i) ∧ (0 < i → (hd c (i - 1)).Id < (hd c i).Id)
theorem in_iff {a b c : Int} : crew_in a b c = true ↔ b ≤ a ∧ a ≤ c := by simp [crew_in]
theorem within_iff {a b c : Int} : gasolierref01_Within a b c = true ↔ b ≤ a ∧ a ≤ c := by simp [gasolierref01_Within]
theorem checkTask_iff {t : Task} : crew_CheckTask t = 0 ↔ TaskOk t := by
 unfold crew_CheckTask TaskOk crew_isMinute
 by_cases h1 : crew_in t.Lamp 1 999 = true <;> by_cases h2 : crew_in t.Place 0 11 = true <;> by_cases h3 : crew_in t.At 0 1439 = true <;> by_cases h4 : crew_in t.Serve 1 120 = true <;>
   simp [h1, h2, h3, h4] <;> simp only [in_iff] at h1 h2 h3 h4 <;> omega
theorem refTask_eq (t : Task) : gasolierref04_CheckTask t = crew_CheckTask t := by
 unfold gasolierref04_CheckTask crew_CheckTask crew_isMinute gasolierref01_Within crew_in; rfl
theorem checkHand_iff {t : Hand} : crew_CheckHand t = 0 ↔ HandOk t := by
 unfold crew_CheckHand HandOk crew_isMinute
 by_cases h1 : crew_in t.Id 1 99 = true <;> by_cases h2 : crew_in t.From 0 1439 = true <;> by_cases h3 : crew_in t.To t.From 1439 = true <;>
   simp [h1, h2, h3] <;> simp only [in_iff] at h1 h2 h3 <;> omega
theorem refHand_eq (t : Hand) : gasolierref04_CheckHand t = crew_CheckHand t := by
 unfold gasolierref04_CheckHand crew_CheckHand crew_isMinute gasolierref01_Within crew_in gasolierref01_IsRange
 by_cases h1 : 1 ≤ t.Id <;> by_cases h2 : t.Id ≤ 99 <;> by_cases h3 : 0 ≤ t.From <;> by_cases h4 : t.From ≤ t.To <;> by_cases h5 : t.To ≤ 1439 <;> by_cases h6 : t.From ≤ 1439 <;> simp [h1, h2, h3, h4, h5, h6] <;> omega
theorem range_zero {r : Range} : ((decide (r.Lo = 0)) && (decide (r.Hi = 0))) = true ↔ r.Lo = 0 ∧ r.Hi = 0 := by simp
theorem isTravel_wp (t : List (List Range)) : Wp (crew_isTravel t) (fun r => r = true ↔ TravelOk t) := by
 unfold crew_isTravel
 refine wp_ifd (fun h => wp_some ⟨fun h => (by cases h), fun T => by have := T.len; omega⟩) (fun h => ?_)
 refine wp_forall (fun a => (t.getD a default).length = t.length ∧ ((tv t a a).Lo = 0 ∧ (tv t a a).Hi = 0) ∧ ∀ b, b < t.length → 0 ≤ (tv t a b).Lo ∧ (tv t a b).Lo ≤ (tv t a b).Hi ∧ (tv t a b).Hi ≤ 600) (fun a K ha _ hK => ?_) (fun h1 => ?_)
 · refine wp_must (fun hl => by simp [-List.getD_eq_getElem?_getD] at hl; omega) ?_
   refine wp_bif (fun hb => ?_) (fun hb => ?_)
   · refine wp_some ⟨fun h => (by cases h), fun T => ?_⟩
     have h1 := T.row a ha
     have h2 := T.diag a ha
     unfold tv at h2
     simp [h2, -List.getD_eq_getElem?_getD] at hb
     omega
   · have hb' : (t.getD a default).length = t.length ∧ ((tv t a a).Lo = 0 ∧ (tv t a a).Hi = 0) := by
       simp only [Bool.or_eq_false_iff, Bool.not_eq_false'] at hb
       exact ⟨by have := hb.1; simp [-List.getD_eq_getElem?_getD] at this; omega, range_zero.1 hb.2⟩
     refine wp_forall (fun b => 0 ≤ (tv t a b).Lo ∧ (tv t a b).Lo ≤ (tv t a b).Hi ∧ (tv t a b).Hi ≤ 600) (fun b K' hb2 _ hK' => ?_) (fun h2 => ?_)
     · refine wp_bif (fun hc => ?_) (fun hc => ?_)
       · refine wp_some ⟨fun h => (by cases h), fun T => ?_⟩
         have := T.rng a b ha (by omega)
         unfold tv at this
         simp only [Bool.or_eq_true, Bool.not_eq_true', decide_eq_true_eq] at hc
         rcases hc with hc | hc
         · have : crew_in (((t.getD a default).getD b default).Lo) 0 (((t.getD a default).getD b default).Hi) = true := in_iff.2 (by omega)
           rw [hc] at this; cases this
         · omega
       · refine hK' ?_
         simp only [Bool.or_eq_false_iff, Bool.not_eq_false', decide_eq_false_iff_not] at hc
         have := in_iff.1 hc.1
         unfold tv; omega
     · exact hK ⟨hb'.1, hb'.2, fun b hb => h2 b (by omega)⟩
 · refine wp_forall (fun a => ∀ b c, b < t.length → c < t.length → (tv t a c).Lo ≤ (tv t a b).Lo + (tv t b c).Lo ∧ (tv t a c).Hi ≤ (tv t a b).Hi + (tv t b c).Hi) (fun a K ha _ hK => ?_) (fun h2 => ?_)
   · refine wp_forall (fun b => ∀ c, c < t.length → (tv t a c).Lo ≤ (tv t a b).Lo + (tv t b c).Lo ∧ (tv t a c).Hi ≤ (tv t a b).Hi + (tv t b c).Hi) (fun b K' hb _ hK' => ?_) (fun h3 => hK (fun b c hb hc => h3 b hb c hc))
     refine wp_forall (fun c => (tv t a c).Lo ≤ (tv t a b).Lo + (tv t b c).Lo ∧ (tv t a c).Hi ≤ (tv t a b).Hi + (tv t b c).Hi) (fun c K'' hc _ hK'' => ?_) (fun h3 => hK' h3)
     have r1 := (h1 a ha).1
     have r2 := (h1 b hb).1
     have q1 := (h1 a ha).2.2 b hb
     have q2 := (h1 b hb).2.2 c hc
     have q3 := (h1 a ha).2.2 c hc
     have e : ∀ a b, ((t.getD a default).getD b default) = tv t a b := fun _ _ => rfl
     simp only [e]
     repeat (first | (refine wp_must ?_ ?_; · omega) | (refine wp_mustI ?_ ?_; · omega) | (refine wp_must ?_ ?_; · (intro _; omega)) | (refine wp_mustW ?_ ?_; · (intro _; omega)))
     refine wp_bif (fun hd => ?_) (fun hd => ?_)
     · refine wp_some ⟨fun h => (by cases h), fun T => ?_⟩
       have := T.tri a b c ha hb hc
       simp only [Bool.or_eq_true, decide_eq_true_eq] at hd
       omega
     · refine hK'' ?_
       simp only [Bool.or_eq_false_iff, decide_eq_false_iff_not] at hd
       omega
   · exact wp_some ⟨fun _ => ⟨by omega, fun a ha => (h1 a ha).1, fun a ha => (h1 a ha).2.1, fun a b ha hb => (h1 a ha).2.2 b hb, fun a b c ha hb hc => h2 a ha b c hb hc⟩, fun _ => rfl⟩
theorem refTravel_eq (t : List (List Range)) : gasolierref04_isTravel t = crew_isTravel t := by
 unfold gasolierref04_isTravel crew_isTravel
 have e : ∀ r : Range, (!(gasolierref01_IsRange r 0 600)) = ((!(crew_in r.Lo 0 r.Hi)) || (decide (600 < r.Hi))) := by
   intro r
   have : gasolierref01_IsRange r 0 600 = !((!(crew_in r.Lo 0 r.Hi)) || (decide (600 < r.Hi))) := by
     unfold gasolierref01_IsRange crew_in
     by_cases h : r.Hi ≤ 600
     · rw [decide_eq_true h, decide_eq_false (by omega : ¬ 600 < r.Hi)]; simp
     · rw [decide_eq_false h, decide_eq_true (by omega : 600 < r.Hi)]; simp
   rw [this, Bool.not_not]
 simp only [e]
theorem check_wp (c : Crew) : Wp (crew_Check c) (fun r => (Valid c ∧ r = 0) ∨ (¬ Valid c ∧ r = 42)) := by
 unfold crew_Check
 refine wp_on (Q := fun r => r = true ↔ TravelOk c.Travel) (fun _ => isTravel_wp c.Travel) (fun y hy => ?_)
 refine wp_bif (fun hb => wp_some (.inr ⟨fun V => ?_, rfl⟩)) (fun hb => ?_)
 · have h1 := V.tasks; have h2 := V.hands
   have e : (decide (24 < ((c.Tasks.length : Nat) : Int)) || decide (16 < ((c.Hands.length : Nat) : Int))) = false := by simp; omega
   rw [e] at hb hy
   have := (hy rfl).2 V.travel
   rw [this] at hb; cases hb
 · simp only [Bool.or_eq_false_iff, Bool.not_eq_false', decide_eq_false_iff_not] at hb
   have T := (hy (by simp [hb.1.1, hb.1.2])).1 hb.2
   refine wp_forall (fun i => TaskOk (tk c i) ∧ (tk c i).Place < c.Travel.length ∧ (0 < i → (tk c (i - 1)).Lamp < (tk c i).Lamp)) (fun i K hi _ hK => ?_) (fun h1 => ?_)
   · refine wp_must (fun _ => by unfold inI; omega) ?_
     refine wp_must (fun h => by simp at h; omega) ?_
     have e : (((i : Int) - 1)).toNat = i - 1 := by omega
     rw [e]
     refine wp_bif (fun hb2 => wp_some (.inr ⟨fun V => ?_, rfl⟩)) (fun hb2 => ?_)
     · obtain ⟨a1, a2, a3⟩ := V.task i hi
       unfold tk at a1 a2 a3
       have a4 := checkTask_iff.2 a1
       simp only [a4, Bool.or_eq_true, Bool.and_eq_true, decide_eq_true_eq, Bool.not_eq_true'] at hb2
       simp [-List.getD_eq_getElem?_getD] at hb2
       omega
     · simp only [Bool.or_eq_false_iff, Bool.and_eq_false_iff, Bool.not_eq_false', decide_eq_true_eq, decide_eq_false_iff_not] at hb2
       refine hK ⟨checkTask_iff.1 hb2.1.1, by unfold tk; omega, fun h0 => ?_⟩
       unfold tk
       rcases hb2.2 with h | h <;> omega
   · refine wp_forall (fun i => HandOk (hd c i) ∧ (0 < i → (hd c (i - 1)).Id < (hd c i).Id)) (fun i K hi _ hK => ?_) (fun h2 => wp_some (.inl ⟨⟨by omega, by omega, T, h1, h2⟩, rfl⟩))
     refine wp_must (fun _ => by unfold inI; omega) ?_
     refine wp_must (fun h => by simp at h; omega) ?_
     have e : (((i : Int) - 1)).toNat = i - 1 := by omega
     rw [e]
     refine wp_bif (fun hb2 => wp_some (.inr ⟨fun V => ?_, rfl⟩)) (fun hb2 => ?_)
     · obtain ⟨a1, a3⟩ := V.hand i hi
       unfold hd at a1 a3
       have a4 := checkHand_iff.2 a1
       simp only [a4, Bool.or_eq_true, Bool.and_eq_true, decide_eq_true_eq, Bool.not_eq_true'] at hb2
       simp [-List.getD_eq_getElem?_getD] at hb2
       omega
     · simp only [Bool.or_eq_false_iff, Bool.and_eq_false_iff, Bool.not_eq_false', decide_eq_true_eq, decide_eq_false_iff_not] at hb2
       refine hK ⟨checkHand_iff.1 hb2.1, fun h0 => ?_⟩
       unfold hd
       rcases hb2.2 with h | h <;> omega
theorem refCheck_eq (c : Crew) : gasolierref04_Check c = crew_Check c := by
 unfold gasolierref04_Check crew_Check
 simp only [refTask_eq, refHand_eq, refTravel_eq]
noncomputable def chk (c : Crew) : Int := @ite _ (Valid c) (Classical.propDecidable _) 0 42
theorem chk_valid {c : Crew} (h : Valid c) : chk c = 0 := if_pos h
theorem chk_not {c : Crew} (h : ¬ Valid c) : chk c = 42 := if_neg h
theorem check_eq (c : Crew) : crew_Check c = some (chk c) := by
 refine Wp.eq ((check_wp c).mono (fun r h => ?_))
 rcases h with ⟨h, rfl⟩ | ⟨h, rfl⟩
 · exact (chk_valid h).symm
 · exact (chk_not h).symm
theorem rcheck_eq (c : Crew) : gasolierref04_Check c = some (chk c) := (refCheck_eq c).trans (check_eq c)
end Go.Sp
end
/- Plain laws, crew: which task follows which; the plan. No program in sight. -/
section
set_option linter.all false
namespace Go.Sp
open Go.Av
set_option maxRecDepth 100000
def EndOf (e : Range → Int) : Prop := e = Range.Lo ∨ e = Range.Hi
def gap (c : Crew) (e : Range → Int) (i j : Nat) : Int := (tk c j).At - (tk c i).At - (tk c i).Serve - e (tv c.Travel (tk c i).Place.toNat (tk c j).Place.toNat)
def fol (c : Crew) (e : Range → Int) (i j : Nat) : Prop := i < c.Tasks.length ∧ j < c.Tasks.length ∧ 0 ≤ gap c e i j
instance (c : Crew) (e : Range → Int) (i j : Nat) : Decidable (fol c e i j) := inferInstanceAs (Decidable (_ ∧ _ ∧ _))
theorem Valid.place {c : Crew} (V : Valid c) {i : Nat} (hi : i < c.Tasks.length) : 0 ≤ (tk c i).Place ∧ (tk c i).Place.toNat < c.Travel.length ∧ ((tk c i).Place.toNat : Int) = (tk c i).Place := by
 obtain ⟨a, b, _⟩ := V.task i hi
 unfold TaskOk at a; omega
theorem Valid.end {c : Crew} (V : Valid c) {e : Range → Int} (he : EndOf e) {i j : Nat} (hi : i < c.Tasks.length) (hj : j < c.Tasks.length) : 0 ≤ e (tv c.Travel (tk c i).Place.toNat (tk c j).Place.toNat) ∧ e (tv c.Travel (tk c i).Place.toNat (tk c j).Place.toNat) ≤ 600 := by
 have := V.travel.rng _ _ (V.place hi).2.1 (V.place hj).2.1
 rcases he with rfl | rfl <;> omega
theorem Valid.at {c : Crew} (V : Valid c) {i : Nat} (hi : i < c.Tasks.length) : 0 ≤ (tk c i).At ∧ (tk c i).At ≤ 1439 ∧ 1 ≤ (tk c i).Serve ∧ (tk c i).Serve ≤ 120 := by
 obtain ⟨a, _, _⟩ := V.task i hi
 unfold TaskOk at a; omega
theorem fol_at {c : Crew} (V : Valid c) {e : Range → Int} (he : EndOf e) {i j : Nat} (h : fol c e i j) : (tk c i).At < (tk c j).At := by
 obtain ⟨hi, hj, h⟩ := h
 have := V.end he hi hj
 have := V.at hi
 unfold gap at h; omega
theorem fol_irrefl {c : Crew} (V : Valid c) {e : Range → Int} (he : EndOf e) {i : Nat} : ¬ fol c e i i := fun h => by have := fol_at V he h; omega
theorem fol_trans {c : Crew} (V : Valid c) {e : Range → Int} (he : EndOf e) {i j k : Nat} (h1 : fol c e i j) (h2 : fol c e j k) : fol c e i k := by
 obtain ⟨hi, hj, h1⟩ := h1
 obtain ⟨_, hk, h2⟩ := h2
 refine ⟨hi, hk, ?_⟩
 have t := V.travel.tri _ _ _ (V.place hi).2.1 (V.place hj).2.1 (V.place hk).2.1
 have := V.at hj
 unfold gap at *
 rcases he with rfl | rfl <;> omega
structure IsPlan (n : Nat) (adj : Nat → Nat → Prop) (p : crew_plan) : Prop where
 le : n ≤ 24
 len : p.next.length = n
 bits : ∀ i, i < n → 0 ≤ p.next.getD i default ∧ (p.next.getD i default).toNat < 2 ^ n ∧ ∀ j, j < n → ((p.next.getD i default).toNat.testBit j = true ↔ adj i j)
theorem pow24 {n : Nat} (h : n ≤ 24) : 2 ^ n ≤ 16777216 := Nat.pow_le_pow_right (by omega) h
theorem pow_nat (j : Nat) : ((1 : Int) * 2 ^ j) = ((2 ^ j : Nat) : Int) := by simp
end Go.Sp
end
/- Plain laws, crew: pairs of tasks; how many rounds the program and the chapter find. No program in sight. -/
section
set_option linter.all false
namespace Go.Sp
open Go.Av
set_option maxRecDepth 100000
def ab (l : List Int) : Nat → Int := fun k => l.getD k (-1)
def sb (x : Int) : Nat → Bool := fun k => x.toNat.testBit k
structure PS (n : Nat) (own back : List Int) : Prop where
 ol : own.length = n
 bl : back.length = n
 ok : ∀ k, k < n → -1 ≤ ab own k ∧ ab own k < n
structure SB (n : Nat) (x : Int) : Prop where
 nn : 0 ≤ x
 lt : x.toNat < 2 ^ n
theorem SB.zero (n : Nat) : SB n 0 := ⟨by omega, by exact Nat.pow_pos (by omega)⟩
theorem SB.inI {n : Nat} {x : Int} (h : SB n x) (hn : n ≤ 24) : inI x := by
 have := pow24 hn
 have := h.lt
 have := h.nn
 unfold Av.inI; omega
theorem SB.put {n j : Nat} {x : Int} (h : SB n x) (hj : j < n) : SB n (((x.toNat ||| (((1 : Int) * 2 ^ j)).toNat : Nat) : Int)) := by
 rw [pow_nat, Int.toNat_natCast]
 exact ⟨Int.natCast_nonneg _, by rw [Int.toNat_natCast]; exact or_lt h.lt hj⟩
def ks (own back : List Int) (seen : Int) : Ks := ⟨sb seen, ab own, ab back⟩
section
variable {n : Nat} {adj : Nat → Nat → Prop} {p : crew_plan}
end
end Go.Sp
end
/- Plain laws, crew: the chapter's search, and the numbers of rounds. No program in sight. -/
section
set_option linter.all false
namespace Go.Sp
open Go.Av
set_option maxRecDepth 100000
def sl (l : List Bool) : Nat → Bool := fun k => l.getD k false
structure OS (n : Nat) (own : List Int) : Prop where
 ol : own.length = n
 ok : ∀ k, k < n → -1 ≤ ab own k ∧ ab own k < n
def lc (back : Nat → Int) (i : Nat) : Nat := (loose i back).length
end Go.Sp
end
/- Plain laws, crew: what rounds and cuts are accepted. No program in sight. -/
section
set_option linter.all false
namespace Go.Sp
open Go.Av
set_option maxRecDepth 100000
theorem take_snoc {T : Type} [Inhabited T] {l : List T} {k : Nat} (h : k < l.length) : l.take (k + 1) = l.take k ++ [l.getD k default] := by
 rw [List.take_add_one, List.getElem?_eq_getElem h, List.getD_eq_getElem?_getD, List.getElem?_eq_getElem h]; rfl
structure IsRound (adj : Nat → Nat → Prop) (n : Nat) (l : List Int) : Prop where
 ne : 0 < l.length
 rng : ∀ k, k < l.length → 0 ≤ l.getD k default ∧ l.getD k default < n
 link : ∀ k, 0 < k → k < l.length → adj (l.getD (k - 1) default).toNat (l.getD k default).toNat
def rd (ls : List (List Int)) (k : Nat) : List Int := ls.getD k default
structure AreRounds (adj : Nat → Nat → Prop) (n : Nat) (ls : List (List Int)) : Prop where
 round : ∀ k, k < ls.length → IsRound adj n (rd ls k)
 heads : ∀ k, 0 < k → k < ls.length → (rd ls (k - 1)).getD 0 default < (rd ls k).getD 0 default
 nd : ls.flatten.Nodup
 all : ∀ x : Nat, x < n → (x : Int) ∈ ls.flatten
section
variable {n : Nat} {adj : Nat → Nat → Prop} {p : crew_plan}
end
section
variable {c : Crew}
theorem IsRound.at_lt (V : Valid c) {l : List Int} (R : IsRound (fol c Range.Hi) c.Tasks.length l) : ∀ (b a : Nat), a < b → b < l.length → fol c Range.Hi (l.getD a default).toNat (l.getD b default).toNat
 | 0, a, h, _ => by omega
 | b + 1, a, h, hb => by
   have h1 := R.link (b + 1) (by omega) hb
   rw [show b + 1 - 1 = b by omega] at h1
   by_cases e : a = b
   · subst e; exact h1
   · exact fol_trans V (.inr rfl) (IsRound.at_lt V R b a (by omega) (by omega)) h1
theorem IsRound.nodup (V : Valid c) {l : List Int} (R : IsRound (fol c Range.Hi) c.Tasks.length l) : l.Nodup := by
 show List.Pairwise (· ≠ ·) l
 rw [List.pairwise_iff_getElem]
 intro i j hi hj hij e
 have h := R.at_lt V j i hij hj
 have : l.getD i default = l.getD j default := by rw [List.getD_eq_getElem?_getD, List.getD_eq_getElem?_getD, List.getElem?_eq_getElem hi, List.getElem?_eq_getElem hj, e]
 rw [this] at h
 exact fol_irrefl V (.inr rfl) h
end
end Go.Sp
end
/- Plain laws, crew: cuts; the rounds and the cut that are returned. No program in sight. -/
section
set_option linter.all false
namespace Go.Sp
open Go.Av
set_option maxRecDepth 100000
structure CutL (adj : Nat → Nat → Prop) (n : Nat) (S : List Int) : Prop where
 rng : ∀ k, k < S.length → 0 ≤ S.getD k default ∧ S.getD k default < n
 asc : ∀ k, 0 < k → k < S.length → S.getD (k - 1) default < S.getD k default
 apart : ∀ m k, m < k → k < S.length → ¬ adj (S.getD k default).toNat (S.getD m default).toNat ∧ ¬ adj (S.getD m default).toNat (S.getD k default).toNat
section
variable {n : Nat} {adj : Nat → Nat → Prop} {rank : Nat → Int}
theorem cutL_asc {S : List Int} (C : CutL adj n S) : ∀ (b a : Nat), a < b → b < S.length → S.getD a default < S.getD b default
 | 0, a, h, _ => by omega
 | b + 1, a, h, hb => by
   have h1 := C.asc (b + 1) (by omega) hb
   rw [show b + 1 - 1 = b by omega] at h1
   by_cases e : a = b
   · subst e; exact h1
   · have := cutL_asc C b a (by omega) (by omega); omega
theorem CutL.cut (O : Ord adj n rank) {S : List Int} (C : CutL adj n S) : IsCut adj n (S.map Int.toNat) := by
 refine ⟨?_, fun x hx => ?_, fun x hx y hy hadj => ?_⟩
 · show List.Pairwise (· ≠ ·) _
   rw [List.pairwise_map, List.pairwise_iff_getElem]
   intro i j hi hj hij e
   have h := cutL_asc C j i hij hj
   have h1 := C.rng i hi
   have h2 := C.rng j hj
   rw [List.getD_eq_getElem?_getD, List.getElem?_eq_getElem hi] at h h1
   rw [List.getD_eq_getElem?_getD, List.getElem?_eq_getElem hj] at h h2
   simp only [Option.getD_some] at h h1 h2
   omega
 · obtain ⟨z, hz, rfl⟩ := List.mem_map.1 hx
   obtain ⟨i, hi, rfl⟩ := mem_getD hz
   have := C.rng i hi; omega
 · obtain ⟨z, hz, rfl⟩ := List.mem_map.1 hx
   obtain ⟨i, hi, rfl⟩ := mem_getD hz
   obtain ⟨w, hw, rfl⟩ := List.mem_map.1 hy
   obtain ⟨j, hj, rfl⟩ := mem_getD hw
   rcases Nat.lt_trichotomy i j with h | h | h
   · exact (C.apart i j h hj).2 hadj
   · subst h; have := O.up _ _ hadj; omega
   · exact (C.apart j i h hi).1 hadj
variable {s : Ks}
end
end Go.Sp
end
/- Plain laws, crew: the rounds and the cut that are returned; CrewFewest. No program in sight. -/
section
set_option linter.all false
namespace Go.Sp
open Go.Av
set_option maxRecDepth 100000
section
variable {c : Crew}
end
end Go.Sp
end
/- Plain laws, crew: the cut that is returned; CrewFewest. No program in sight. -/
section
set_option linter.all false
namespace Go.Sp
open Go.Av
set_option maxRecDepth 100000
section
variable {n : Nat} {adj : Nat → Nat → Prop} {p : crew_plan}
end
section
variable {c : Crew}
theorem sane4 : gasolierlaw04_sane 20000 = some true := by kernel_rfl
end
end Go.Sp
end
/- Plain laws, crew: slack, and who is late; CrewLate. No program in sight. -/
section
set_option linter.all false
namespace Go.Sp
open Go.Av
set_option maxRecDepth 100000
def rk (r : List Int) (k : Nat) : Nat := (r.getD k default).toNat
section
variable {c : Crew} {ls : List (List Int)}
theorem round_len {n : Nat} {l : List Int} (hnd : l.Nodup) (hr : ∀ x ∈ l, 0 ≤ x ∧ x < n) : l.length ≤ n := by
 have := length_le_inj (r := List.range n) Int.toNat hnd (fun x hx => List.mem_range.2 (by have := hr x hx; omega)) (fun x hx y hy e => by have := hr x hx; have := hr y hy; omega)
 rwa [List.length_range] at this
theorem IsRound.mem {adj : Nat → Nat → Prop} {n : Nat} {l : List Int} (R : IsRound adj n l) : ∀ x ∈ l, 0 ≤ x ∧ x < n := fun x hx => by
 obtain ⟨k, hk, rfl⟩ := mem_getD hx; exact R.rng k hk
theorem IsRound.rk {adj : Nat → Nat → Prop} {n : Nat} {l : List Int} (R : IsRound adj n l) {k : Nat} (hk : k < l.length) : l.getD k default = ((rk l k : Nat) : Int) ∧ rk l k < n := by
 have := R.rng k hk; unfold Sp.rk; omega
theorem IsRound.len {V : Valid c} {l : List Int} (R : IsRound (fol c Range.Hi) c.Tasks.length l) : l.length ≤ 24 := by
 have := round_len (R.nodup V) R.mem; have := V.tasks; omega
end
end Go.Sp
end
/- Plain laws, crew: who is late; CrewLate. No program in sight. -/
section
set_option linter.all false
namespace Go.Sp
open Go.Av
set_option maxRecDepth 100000
structure WalksOk (ls ws : List (List Int)) : Prop where
 len : ws.length = ls.length
 row : ∀ k, k < ls.length → (rd ws k).length = (rd ls k).length - 1
 rng : ∀ k, k < ls.length → ∀ m, m < (rd ws k).length → 0 ≤ (rd ws k).getD m default ∧ (rd ws k).getD m default ≤ 600
section
variable {c : Crew} {ls ws : List (List Int)}
theorem AreRounds.mem {adj : Nat → Nat → Prop} {n : Nat} (A : AreRounds adj n ls) : ∀ x ∈ ls.flatten, 0 ≤ x ∧ x < n := fun x hx => by
 obtain ⟨r, hr, hxr⟩ := List.mem_flatten.1 hx
 obtain ⟨k, hk, rfl⟩ := mem_getD hr
 exact (A.round k hk).mem x hxr
end
end Go.Sp
end
/- Plain laws, crew: CrewTime. No program in sight. -/
section
set_option linter.all false
namespace Go.Sp
open Go.Av
set_option maxRecDepth 100000
section
variable {c : Crew} {ls : List (List Int)}
def rg (c : Crew) (r : List Int) (k : Nat) : Range := tv c.Travel (tk c (rk r k)).Place.toNat (tk c (rk r (k + 1))).Place.toNat
structure WalkOf (c : Crew) (more : Int) (r w : List Int) : Prop where
 len : w.length = r.length - 1
 lo : more ≤ 0 → ∀ k, k < w.length → (rg c r k).Lo ≤ w.getD k default ∧ w.getD k default ≤ (rg c r k).Hi
 hi : 0 < more → ∃ q : Nat, ∀ k, k < w.length → w.getD k default = if k = q then min 600 ((rg c r k).Hi + more) else (rg c r k).Hi
end
end Go.Sp
end
/- Plain laws, crew: hands for rounds. No program in sight. -/
section
set_option linter.all false
namespace Go.Sp
open Go.Av
set_option maxRecDepth 100000
theorem hall {adj : Nat → Nat → Prop} {m i : Nat} {s s' : Ks} (M : Mat adj m s) (hs : ∀ k, s.seen k = false) (hi : s.back i < 0) (H : Srch adj m i 0 s false s') {R : Nat → Prop} (Ri : R i) (hR : ∀ x : Nat, 0 ≤ s.back x → R x) {g : Nat → Nat}
   (hg : ∀ x, R x → g x < m ∧ adj x (g x)) (hinj : ∀ x y, R x → R y → g x = g y → x = y) : False := by
 obtain ⟨a1, a2⟩ := H.shut rfl
 let S := (List.range m).filter (fun k => s'.seen k)
 have hS : ∀ k, k ∈ S → k < m ∧ ∃ o : Nat, s.own k = (o : Int) ∧ R o ∧ s.back o = (k : Int) ∧ ∀ q, q < m → adj o q → s'.seen q = true := fun k hk => by
   simp only [S, List.mem_filter, List.mem_range] at hk
   obtain ⟨h0, o, h1, h2⟩ := a2 k hk.2 (hs k)
   obtain ⟨x, h3, h4⟩ := M.own k h0 (by omega)
   have : x = o := by omega
   subst this
   exact ⟨h0, x, h1, hR x (by omega), h4, h2⟩
 have hle := length_le_inj (l := i :: S.map (fun k => (s.own k).toNat)) (r := S) g (List.nodup_cons.2 ⟨fun hm => ?_, nodup_inj (nodup_filter _ List.nodup_range) (fun x hx y hy e => ?_)⟩) (fun x hx => ?_) (fun x hx y hy e => ?_)
 · rw [List.length_cons, List.length_map] at hle; omega
 · obtain ⟨k, hk, e⟩ := List.mem_map.1 hm
   obtain ⟨_, o, h1, _, h2, _⟩ := hS k hk
   have : o = i := by omega
   subst this; omega
 · obtain ⟨_, o, h1, _, h2, _⟩ := hS x hx
   obtain ⟨_, o', h3, _, h4, _⟩ := hS y hy
   have : o = o' := by omega
   subst this; omega
 · rcases List.mem_cons.1 hx with rfl | hx
   · obtain ⟨h1, h2⟩ := hg x Ri
     simp only [S, List.mem_filter, List.mem_range]; exact ⟨h1, a1 _ (Nat.zero_le _) h1 h2⟩
   · obtain ⟨k, hk, rfl⟩ := List.mem_map.1 hx
     obtain ⟨_, o, h1, h2, _, h3⟩ := hS k hk
     obtain ⟨h4, h5⟩ := hg o h2
     rw [h1, Int.toNat_natCast]
     simp only [S, List.mem_filter, List.mem_range]; exact ⟨h4, h3 _ h4 h5⟩
 · have inR : ∀ x, x ∈ i :: S.map (fun k => (s.own k).toNat) → R x := fun x hx => by
     rcases List.mem_cons.1 hx with rfl | hx
     · exact Ri
     · obtain ⟨k, hk, rfl⟩ := List.mem_map.1 hx
       obtain ⟨_, o, h1, h2, _⟩ := hS k hk
       rw [h1, Int.toNat_natCast]; exact h2
   exact hinj x y (inR x hx) (inR y hy) e
def lastOf (r : List Int) : Nat := rk r (r.length - 1)
def abl (c : Crew) (r : List Int) (h : Nat) : Bool := decide ((hd c h).From ≤ (tk c (rk r 0)).At) && decide ((tk c (lastOf r)).At + (tk c (lastOf r)).Serve ≤ (hd c h).To)
section
variable {c : Crew} {ls : List (List Int)}
def hadj (c : Crew) (ls : List (List Int)) (F : Nat → Bool) (k h : Nat) : Prop := abl c (rd ls k) h = true ∧ F h = false
structure HS (n m : Nat) (F : Nat → Bool) (fx T : List Int) : Prop where
 tl : T.length = n
 ok : ∀ h, h < n → 0 ≤ T.getD h default ∧ T.getD h default ≤ m ∧ ((0 < T.getD h default ∧ 0 ≤ fx.getD (T.getD h default - 1).toNat default) ↔ F h = true)
end
end Go.Sp
end
/- Plain laws, crew: whether hands can be given. No program in sight. -/
section
set_option linter.all false
namespace Go.Sp
open Go.Av
set_option maxRecDepth 100000
theorem Done.mat {adj : Nat → Nat → Prop} {m i : Nat} {s s' : Ks} (W : Done adj m i s s') (hi : s.back i < 0) : Mat adj m s' := by
 refine ⟨W.back, fun k hkm hx => ?_⟩
 obtain ⟨x, h1, h2⟩ := W.own k hkm hx
 rcases h2 with h2 | ⟨rfl, h2⟩
 · exact ⟨x, h1, h2⟩
 · omega
structure By (m : Nat) (by_ : List Int) : Prop where
 nd : by_.Nodup
 rng : ∀ j, j < by_.length → 0 ≤ by_.getD j default ∧ by_.getD j default < m
structure Fx (n m : Nat) (by_ fx : List Int) : Prop where
 len : fx.length = m
 lt : ∀ k : Nat, (k : Int) ∈ by_ → fx.getD k default < n
 inj : ∀ k k' : Nat, (k : Int) ∈ by_ → (k' : Int) ∈ by_ → 0 ≤ fx.getD k default → fx.getD k default = fx.getD k' default → k = k'
theorem By.mem {m : Nat} {by_ : List Int} (B : By m by_) {x : Int} (hx : x ∈ by_) : ∃ k : Nat, x = (k : Int) ∧ k < m := by
 obtain ⟨j, hj, rfl⟩ := mem_getD hx
 have := B.rng j hj
 exact ⟨(by_.getD j default).toNat, by omega, by omega⟩
theorem By.get {m : Nat} {by_ : List Int} (B : By m by_) {j : Nat} (hj : j < by_.length) : ∃ k : Nat, by_.getD j default = (k : Int) ∧ k < m ∧ (k : Int) ∈ by_ := by
 have h := B.rng j hj
 exact ⟨(by_.getD j default).toNat, by omega, by omega, by have := getD_mem hj; rwa [show by_.getD j default = ((by_.getD j default).toNat : Int) by omega] at this⟩
section
variable {c : Crew} {ls : List (List Int)}
def upto (m : Nat) : List Int := (List.range m).map (fun (k : Nat) => (k : Int))
theorem mem_upto {m : Nat} {x : Int} : x ∈ upto m ↔ 0 ≤ x ∧ x < m := by
 unfold upto
 rw [List.mem_map]
 constructor
 · rintro ⟨k, hk, rfl⟩; have := List.mem_range.1 hk; omega
 · rintro ⟨h1, h2⟩; exact ⟨x.toNat, List.mem_range.2 (by omega), by omega⟩
def CanF (c : Crew) (ls : List (List Int)) (by_ : List Int) : Prop := ∃ g : Nat → Nat, (∀ k : Nat, (k : Int) ∈ by_ → g k < c.Hands.length ∧ abl c (rd ls k) (g k) = true) ∧ ∀ k k' : Nat, (k : Int) ∈ by_ → (k' : Int) ∈ by_ → g k = g k' → k = k'
end
end Go.Sp
end
/- Plain laws, crew: Assign, Short, and their tests. No program in sight. -/
section
set_option linter.all false
namespace Go.Sp
open Go.Av
set_option maxRecDepth 100000
section
variable {c : Crew} {ls : List (List Int)}
structure Given (c : Crew) (ls : List (List Int)) (g : Nat → Nat) : Prop where
 ok : ∀ k, k < ls.length → g k < c.Hands.length ∧ abl c (rd ls k) (g k) = true
 inj : ∀ k k', k < ls.length → k' < ls.length → g k = g k' → k = k'
structure Pre (c : Crew) (ls : List (List Int)) (i : Nat) (fx : List Int) : Prop where
 len : fx.length = ls.length
 done : ∀ k, k < i → 0 ≤ fx.getD k default ∧ fx.getD k default < c.Hands.length
 rest : ∀ k, i ≤ k → k < ls.length → fx.getD k default = -1
def Ext (c : Crew) (ls : List (List Int)) (i : Nat) (fx : List Int) : Prop := ∃ g, Given c ls g ∧ ∀ k, k < i → fx.getD k default = (g k : Int)
theorem Ext.fx {i : Nat} {fx : List Int} (P : Pre c ls i fx) (hi : i ≤ ls.length) (hinj : ∀ k k', k < i → k' < i → fx.getD k default = fx.getD k' default → k = k') : Fx c.Hands.length ls.length (upto ls.length) fx := by
 refine ⟨P.len, fun k hk => ?_, fun k k' hk hk' h0 e => ?_⟩
 · have := mem_upto.1 hk
   by_cases h : k < i
   · exact (P.done k h).2
   · rw [P.rest k (by omega) (by omega)]; omega
 · have := mem_upto.1 hk
   have := mem_upto.1 hk'
   by_cases h : k < i
   · by_cases h' : k' < i
     · exact hinj k k' h h' e
     · rw [P.rest k' (by omega) (by omega)] at e; omega
   · rw [P.rest k (by omega) (by omega)] at h0; omega
structure Firsts (c : Crew) (ls : List (List Int)) (i : Nat) (g : Nat → Nat) : Prop where
 ext : ∃ g', Given c ls g' ∧ ∀ k, k < i → g' k = g k
 first : ∀ k, k < i → ∀ h, h < g k → ¬ ∃ g', Given c ls g' ∧ (∀ q, q < k → g' q = g q) ∧ g' k = h
end
end Go.Sp
end
/- Plain laws, crew: Short, and the tests of hands. No program in sight. -/
section
set_option linter.all false
namespace Go.Sp
open Go.Av
set_option maxRecDepth 100000
theorem indexHand_eq (l : List Hand) (x : Int) : Wp (slices_IndexFunc_Hand l (fun h => some (decide (h.Id = x)))) (fun r => (∃ i : Nat, r = (i : Int) ∧ i < l.length ∧ (l.getD i default).Id = x ∧ ∀ j, j < i → (l.getD j default).Id ≠ x) ∨ (r = -1 ∧ ∀ i, i < l.length → (l.getD i default).Id ≠ x)) := by
 unfold slices_IndexFunc_Hand
 refine wp_forall (fun i => (l.getD i default).Id ≠ x) (fun i K hi hpre hK => wp_bindE rfl (wp_ifd (fun h => wp_some (.inl ⟨i, rfl, hi, h, hpre⟩)) (fun h => hK h))) (fun h => wp_some (.inr ⟨rfl, h⟩))
section
variable {c : Crew} {ls : List (List Int)}
structure GivenIds (c : Crew) (ls : List (List Int)) (l : List Int) : Prop where
 len : l.length = ls.length
 ok : ∀ k, k < ls.length → ∃ h, h < c.Hands.length ∧ (hd c h).Id = l.getD k default ∧ abl c (rd ls k) h = true
 nd : l.Nodup
theorem id_inj (V : Valid c) : ∀ (b a : Nat), a < b → b < c.Hands.length → (hd c a).Id < (hd c b).Id
 | 0, a, h, _ => by omega
 | b + 1, a, h, hb => by
   have h1 := (V.hand (b + 1) hb).2 (by omega)
   rw [show b + 1 - 1 = b by omega] at h1
   by_cases e : a = b
   · subst e; exact h1
   · have := id_inj V b a (by omega) (by omega); omega
theorem id_eq (V : Valid c) {a b : Nat} (ha : a < c.Hands.length) (hb : b < c.Hands.length) (e : (hd c a).Id = (hd c b).Id) : a = b := by
 rcases Nat.lt_trichotomy a b with h | h | h
 · have := id_inj V b a h hb; omega
 · exact h
 · have := id_inj V a b h ha; omega
def doers (c : Crew) (ls : List (List Int)) (S : List Int) : List Nat := (List.range c.Hands.length).filter (fun h => S.any (fun k => abl c (rd ls k.toNat) h))
structure ShortOk (c : Crew) (ls : List (List Int)) (S : List Int) : Prop where
 rng : ∀ k, k < S.length → 0 ≤ S.getD k default ∧ S.getD k default < ls.length
 asc : ∀ k, 0 < k → k < S.length → S.getD (k - 1) default < S.getD k default
 few : (doers c ls S).length < S.length
end
end Go.Sp
end
/- Plain laws, crew: too few hands; Short. No program in sight. -/
section
set_option linter.all false
namespace Go.Sp
open Go.Av
set_option maxRecDepth 100000
theorem srch_inner {adj : Nat → Nat → Prop} {m f : Nat} (ih : ∀ (i : Nat) (s : Ks), mu m s.seen < f → ∃ b s', Srch adj m i 0 s b s') (i : Nat) : ∀ (q j : Nat) (s : Ks), m - j ≤ q → mu m s.seen < f + 1 → ∃ b s', Srch adj m i j s b s'
 | 0, j, s, h, _ => ⟨false, s, .done (by omega)⟩
 | q + 1, j, s, h, hm => by
   by_cases hj : j < m
   · by_cases hc : adj i j → s.seen j = true
     · obtain ⟨b, s', h'⟩ := srch_inner ih i q (j + 1) s (by omega) hm
       exact ⟨b, s', .skip hj hc h'⟩
     · have ha : adj i j := Classical.byContradiction fun h => hc (fun h' => absurd h' h)
       have hs : s.seen j = false := by
         cases h : s.seen j with
         | false => rfl
         | true => exact absurd (fun _ => h) hc
       by_cases ho : s.own j < 0
       · exact ⟨_, _, .free hj ha hs ho⟩
       · obtain ⟨o, ho⟩ := Int.eq_ofNat_of_zero_le (show 0 ≤ s.own j by omega)
         have hlt : mu m (s.see j).seen < mu m s.seen := mu_lt (j := j) (fun k h => by show (_ || _) = true; rw [h]; rfl) hj hs (by show (_ || _) = true; simp)
         obtain ⟨b, s1, h1⟩ := ih o (s.see j) (by omega)
         cases b with
         | true => exact ⟨_, _, .aug hj ha hs ho h1⟩
         | false =>
           have := mu_mono (n := m) h1.mono
           obtain ⟨b', s', h'⟩ := srch_inner ih i q (j + 1) s1 (by omega) (by omega)
           exact ⟨b', s', .fail hj ha hs ho h1 h'⟩
   · exact ⟨false, s, .done (by omega)⟩
theorem srch_ex {adj : Nat → Nat → Prop} {m : Nat} : ∀ (f i : Nat) (s : Ks), mu m s.seen < f → ∃ b s', Srch adj m i 0 s b s'
 | 0, _, _, h => by omega
 | f + 1, i, s, h => srch_inner (srch_ex f) i m 0 s (by omega) h
def InjN (adj : Nat → Nat → Prop) (m : Nat) (T : Nat → Prop) : Prop := ∃ g : Nat → Nat, (∀ k, T k → g k < m ∧ adj k (g k)) ∧ ∀ k k', T k → T k' → g k = g k' → k = k'
theorem tight {adj : Nat → Nat → Prop} {m : Nat} {T : List Nat} (hno : ¬ InjN adj m (· ∈ T)) (hone : ∀ x ∈ T, InjN adj m (fun k => k ∈ T ∧ k ≠ x)) {N : List Nat} (hN : N.Nodup) (hN' : ∀ q ∈ N, q < m ∧ ∃ k ∈ T, adj k q) : N.length < T.length := by
 have hne : ∃ x, x ∈ T := by
   cases T with
   | nil => exact absurd ⟨fun _ => 0, fun k h => (by cases h), fun k k' h => (by cases h)⟩ hno
   | cons a l => exact ⟨a, List.mem_cons_self ..⟩
 obtain ⟨x, hx⟩ := hne
 obtain ⟨g, g1, g2⟩ := hone x hx
 classical
 let T' : Nat → Prop := fun k => k ∈ T ∧ k ≠ x
 let s : Ks := ⟨fun _ => false, fun k => if h : ∃ y, T' y ∧ g y = k then (h.choose : Int) else -1, fun y => if T' y then (g y : Int) else -1⟩
 have sown : ∀ y, T' y → s.own (g y) = (y : Int) := fun y hy => by
   have he : ∃ z, T' z ∧ g z = g y := ⟨y, hy, rfl⟩
   show (if h : ∃ z, T' z ∧ g z = g y then (h.choose : Int) else -1) = _
   rw [dif_pos he, g2 _ _ he.choose_spec.1 hy he.choose_spec.2]
 have M : Mat adj m s := by
   refine ⟨fun y hy => ?_, fun k hk hy => ?_⟩
   · have hy : (0 : Int) ≤ if T' y then (g y : Int) else -1 := hy
     by_cases h : T' y
     · exact ⟨g y, by show (if T' y then _ else _) = _; rw [if_pos h], (g1 y h).1, sown y h, (g1 y h).2⟩
     · rw [if_neg h] at hy; omega
   · have hy' : (0 : Int) ≤ if h : ∃ y, T' y ∧ g y = k then (h.choose : Int) else -1 := hy
     by_cases h : ∃ y, T' y ∧ g y = k
     · obtain ⟨y, h1, rfl⟩ := h
       exact ⟨y, sown y h1, by show (if T' y then _ else _) = _; rw [if_pos h1]⟩
     · rw [dif_neg h] at hy'; omega
 have hbx : s.back x < 0 := by
   show (if T' x then (g x : Int) else -1) < 0
   rw [if_neg (fun h => h.2 rfl)]; omega
 obtain ⟨b, s', H⟩ := srch_ex (adj := adj) (m := m) (m + 1) x s (by have := mu_le m s.seen; omega)
 cases b with
 | true =>
   exfalso
   have W := H.win rfl M (fun k hk => by omega)
   have M' := W.mat hbx
   have hb : ∀ k, k ∈ T → 0 ≤ s'.back k := fun k hk => by
     by_cases e : k = x
     · subst e; obtain ⟨q, hq, _⟩ := W.new; omega
     · refine (W.rest k e).1.2 ?_
       show (0 : Int) ≤ if T' k then (g k : Int) else -1
       rw [if_pos ⟨hk, e⟩]; omega
   refine hno ⟨fun k => (s'.back k).toNat, fun k hk => ?_, fun k k' hk hk' e => ?_⟩
   · obtain ⟨q, h1, h2, _, h4⟩ := M'.back k (hb k hk)
     dsimp only; rw [h1, Int.toNat_natCast]; exact ⟨h2, h4⟩
   · obtain ⟨q, h1, _, h3, _⟩ := M'.back k (hb k hk)
     obtain ⟨q', h1', _, h3', _⟩ := M'.back k' (hb k' hk')
     dsimp only at e
     rw [h1, h1', Int.toNat_natCast, Int.toNat_natCast] at e
     subst e; omega
 | false =>
   obtain ⟨a1, a2⟩ := H.shut rfl
   let S := (List.range m).filter (fun k => s'.seen k)
   have hS : ∀ k, k ∈ S → ∃ o : Nat, s.own k = (o : Int) ∧ T' o ∧ g o = k ∧ ∀ q, q < m → adj o q → s'.seen q = true := fun k hk => by
     simp only [S, List.mem_filter, List.mem_range] at hk
     obtain ⟨h0, o, h1, h2⟩ := a2 k hk.2 rfl
     obtain ⟨y, h3, h4⟩ := M.own k h0 (by omega)
     have : y = o := by omega
     subst this
     have h4' : (if T' y then (g y : Int) else -1) = (k : Int) := h4
     by_cases h : T' y
     · rw [if_pos h] at h4'; exact ⟨y, h1, h, by omega, h2⟩
     · rw [if_neg h] at h4'; omega
   have hSn : S.Nodup := nodup_filter _ List.nodup_range
   let R := x :: S.map (fun k => (s.own k).toNat)
   have hRl : R.length = S.length + 1 := by simp only [R, List.length_cons, List.length_map]
   have hRn : R.Nodup := by
     refine List.nodup_cons.2 ⟨fun hm => ?_, nodup_inj hSn (fun y hy z hz e => ?_)⟩
     · obtain ⟨k, hk, e⟩ := List.mem_map.1 hm
       obtain ⟨o, h1, h2, _⟩ := hS k hk
       exact h2.2 (by omega)
     · obtain ⟨o, h1, _, h3, _⟩ := hS y hy
       obtain ⟨o', h1', _, h3', _⟩ := hS z hz
       have : o = o' := by omega
       subst this; omega
   have hRT : ∀ y ∈ R, y ∈ T := fun y hy => by
     rcases List.mem_cons.1 hy with rfl | hy
     · exact hx
     · obtain ⟨k, hk, rfl⟩ := List.mem_map.1 hy
       obtain ⟨o, h1, h2, _⟩ := hS k hk
       rw [h1, Int.toNat_natCast]; exact h2.1
   have hRs : ∀ y ∈ R, ∀ q, q < m → adj y q → q ∈ S := fun y hy q hq ha => by
     simp only [S, List.mem_filter, List.mem_range]
     refine ⟨hq, ?_⟩
     rcases List.mem_cons.1 hy with rfl | hy
     · exact a1 q (Nat.zero_le _) hq ha
     · obtain ⟨k, hk, rfl⟩ := List.mem_map.1 hy
       obtain ⟨o, h1, _, _, h4⟩ := hS k hk
       rw [h1, Int.toNat_natCast] at ha
       exact h4 q hq ha
   have hTR : ∀ y ∈ T, y ∈ R := fun y hy => by
     refine Classical.byContradiction fun hyR => ?_
     obtain ⟨h, h1, h2⟩ := hone y hy
     have inT : ∀ z ∈ R, z ∈ T ∧ z ≠ y := fun z hz => ⟨hRT z hz, fun e => hyR (e ▸ hz)⟩
     have := length_le_inj (r := S) h hRn (fun z hz => hRs z hz _ (h1 z (inT z hz)).1 (h1 z (inT z hz)).2) (fun z hz z' hz' e => h2 z z' (inT z hz) (inT z' hz') e)
     omega
   have h1 := nodup_le hN (r := S) (fun q hq => by
     obtain ⟨h, k, hk, ha⟩ := hN' q hq
     exact hRs k (hTR k hk) q h ha)
   have h2 := nodup_le hRn (r := T) hRT
   omega
section
variable {c : Crew} {ls : List (List Int)}
theorem CanF.sub {S S' : List Int} (h : CanF c ls S) (hs : ∀ k : Nat, (k : Int) ∈ S' → (k : Int) ∈ S) : CanF c ls S' := by
 obtain ⟨g, h1, h2⟩ := h
 exact ⟨g, fun k hk => h1 k (hs k hk), fun k k' hk hk' e => h2 k k' (hs k hk) (hs k' hk') e⟩
structure Tight (c : Crew) (ls : List (List Int)) (S : List Int) : Prop where
 rng : ∀ x ∈ S, 0 ≤ x ∧ x < ls.length
 asc : S.Pairwise (· < ·)
 no : ¬ CanF c ls S
 one : ∀ k, k < S.length → CanF c ls (S.take k ++ S.drop (k + 1))
theorem Tight.few {S : List Int} (T : Tight c ls S) : (doers c ls S).length + 1 = S.length := by
 have hnat : ∀ x ∈ S, x = ((x.toNat : Nat) : Int) := fun x hx => by have := T.rng x hx; omega
 have hmem : ∀ k : Nat, k ∈ S.map Int.toNat ↔ (k : Int) ∈ S := fun k => by
   rw [List.mem_map]
   constructor
   · rintro ⟨x, hx, rfl⟩; rw [← hnat x hx]; exact hx
   · intro h; exact ⟨k, h, rfl⟩
 have hnd : S.Nodup := T.asc.imp (fun h => by omega)
 have hcut : ∀ j, j < S.length → ∀ x ∈ S, x ≠ S.getD j default → x ∈ S.take j ++ S.drop (j + 1) := fun j hj x hx hne => by
   obtain ⟨i, hi, rfl⟩ := mem_getD hx
   rcases Nat.lt_trichotomy i j with h | h | h
   · refine List.mem_append.2 (.inl ?_)
     have : (S.take j).getD i default = S.getD i default := by rw [getD_take, if_pos h]
     rw [← this]; exact getD_mem (by rw [List.length_take]; omega)
   · exact absurd (by rw [h]) hne
   · refine List.mem_append.2 (.inr ?_)
     have : (S.drop (j + 1)).getD (i - (j + 1)) default = S.getD i default := by rw [getD_drop]; congr 1; omega
     rw [← this]; exact getD_mem (by rw [List.length_drop]; omega)
 have hone : ∀ x ∈ S.map Int.toNat, InjN (fun k h => abl c (rd ls k) h = true) c.Hands.length (fun k => k ∈ S.map Int.toNat ∧ k ≠ x) := fun x hx => by
   obtain ⟨j, hj, e⟩ := mem_getD ((hmem x).1 hx)
   obtain ⟨g, h1, h2⟩ := T.one j hj
   have hin : ∀ k, k ∈ S.map Int.toNat ∧ k ≠ x → (k : Int) ∈ S.take j ++ S.drop (j + 1) := fun k hk => hcut j hj _ ((hmem k).1 hk.1) (by rw [e]; have := hk.2; omega)
   exact ⟨g, fun k hk => h1 k (hin k hk), fun k k' hk hk' e => h2 k k' (hin k hk) (hin k' hk') e⟩
 have hlt := tight (adj := fun k h => abl c (rd ls k) h = true) (m := c.Hands.length) (T := S.map Int.toNat) (fun ⟨g, h1, h2⟩ => T.no ⟨g, fun k hk => h1 k ((hmem k).2 hk), fun k k' hk hk' e => h2 k k' ((hmem k).2 hk) ((hmem k').2 hk') e⟩) hone (N := doers c ls S) (nodup_filter _ List.nodup_range) (fun q hq => by
   unfold doers at hq
   rw [List.mem_filter, List.mem_range, List.any_eq_true] at hq
   obtain ⟨h0, x, hx, ha⟩ := hq
   exact ⟨h0, x.toNat, (hmem _).2 (by rw [← hnat x hx]; exact hx), ha⟩)
 rw [List.length_map] at hlt
 have hge : S.length ≤ (doers c ls S).length + 1 := by
   have h0 : 0 < S.length := by omega
   obtain ⟨g, h1, h2⟩ := T.one 0 h0
   have hsub : ∀ x ∈ S.take 0 ++ S.drop (0 + 1), x ∈ S := fun x hx => by
     rcases List.mem_append.1 hx with hx | hx
     · exact List.mem_of_mem_take hx
     · exact List.mem_of_mem_drop hx
   have := length_le_inj (l := S.take 0 ++ S.drop (0 + 1)) (r := doers c ls S) (fun x => g x.toNat) (by rw [List.take_zero, List.nil_append]; exact hnd.sublist (List.drop_sublist _ _)) (fun x hx => ?_) (fun x hx y hy e => ?_)
   · rw [List.length_append, List.length_take, List.length_drop] at this; omega
   · have hx' := hx
     rw [hnat x (hsub x hx)] at hx'
     obtain ⟨a, b⟩ := h1 _ hx'
     unfold doers
     rw [List.mem_filter, List.mem_range, List.any_eq_true]
     exact ⟨a, x, hsub x hx, b⟩
   · have hx' := hx
     have hy' := hy
     rw [hnat x (hsub x hx)] at hx'
     rw [hnat y (hsub y hy)] at hy'
     have := h2 _ _ hx' hy' e
     rw [hnat x (hsub x hx), hnat y (hsub y hy), this]
 omega
theorem Tight.ok {S : List Int} (T : Tight c ls S) : ShortOk c ls S := by
 refine ⟨fun k hk => T.rng _ (getD_mem hk), fun k h0 hk => ?_, by have := T.few; omega⟩
 have h := T.asc
 rw [List.pairwise_iff_getElem] at h
 have := h (k - 1) k (by omega) hk (by omega)
 rw [List.getD_eq_getElem?_getD, List.getD_eq_getElem?_getD, List.getElem?_eq_getElem hk, List.getElem?_eq_getElem (show k - 1 < S.length by omega)]
 exact this
end
end Go.Sp
end
/- Plain laws, crew: Able, Ill; CrewEither. No program in sight. -/
section
set_option linter.all false
namespace Go.Sp
open Go.Av
set_option maxRecDepth 100000
section
variable {c : Crew} {ls : List (List Int)}
theorem copied_eq (V : Valid c) : crew_copied c = some c := by
 refine Wp.eq ?_
 unfold crew_copied
 have h1 := V.tasks
 have h2 := V.hands
 have h3 := V.travel.len
 have e1 : slices_Clone_Task c.Tasks = some c.Tasks := must_yes (show room _ 32 by rw [List.nil_append]; unfold room; omega) _
 have e2 : slices_Clone_Hand c.Hands = some c.Hands := must_yes (show room _ 24 by rw [List.nil_append]; unfold room; omega) _
 refine wp_bindE e1 (wp_bindE e2 ?_)
 refine wp_range (fun i s => s = c.Travel.take i) (by rfl) (fun i s K hi hI hK => ?_) (fun s hI => wp_some ?_)
 · have h4 := V.travel.row i hi
   have e3 : slices_Clone_Range (c.Travel.getD i default) = some (c.Travel.getD i default) := must_yes (show room _ 16 by rw [List.nil_append]; unfold room; omega) _
   subst hI
   refine wp_bindE e3 (wp_must ?_ (hK _ (take_snoc hi).symm))
   rw [List.length_append, List.length_take]
   unfold room; simp only [List.length_cons, List.length_nil]; omega
 · subst hI; rw [List.take_length]
theorem deleteH_eq (l : List Hand) (k : Nat) (h : k < l.length) (hl : l.length ≤ 100000) : slices_Delete_Hand l (k : Int) ((k : Int) + 1) = some (l.take k ++ l.drop (k + 1)) := by
 refine Wp.eq ?_
 unfold slices_Delete_Hand
 have e0 : ((k : Int)).toNat = k := rfl
 have e1 : ((k : Int) + 1).toNat = k + 1 := by omega
 rw [e0, e1]
 refine wp_must (by omega) ?_
 rw [decide_eq_false (show ¬ (k : Int) = (k : Int) + 1 by omega)]
 refine wp_false rfl (wp_must (by omega) (wp_must (by omega) (wp_must (by omega) (wp_must ?_ (wp_some rfl)))))
 rw [List.length_append, List.length_take, List.length_drop]
 omega
def early (h : Hand) (d : Int) : Hand := ⟨h.Id, h.From, min h.To d⟩
def illC (c : Crew) (y : Nat) (d : Int) : Crew := if min (hd c y).To d < (hd c y).From then ⟨c.Tasks, c.Travel, c.Hands.take y ++ c.Hands.drop (y + 1)⟩ else ⟨c.Tasks, c.Travel, c.Hands.set y (early (hd c y) d)⟩
theorem ill_eq (V : Valid c) {y : Nat} (hy : y < c.Hands.length) {d : Int} (hd0 : 0 ≤ d) (hd1 : d < 1440) : crew_Ill c (hd c y).Id d = some (illC c y d, 0) := by
 refine Wp.eq ?_
 have hH := V.hands
 unfold crew_Ill
 refine wp_bindE (check_eq c) ?_
 rw [chk_valid V]
 refine wp_false rfl (wp_false ?_ (wp_bindE (copied_eq V) ?_))
 · have : crew_isMinute d = true := in_iff.2 (by omega)
   rw [this]; rfl
 have ef : (fun x0 => some (crew_Ill_1 x0 (hd c y).Id)) = fun (x : Hand) => some (decide (x.Id = (hd c y).Id)) := rfl
 rw [ef]
 refine wp_bind (indexHand_eq _ _) (fun i hix => ?_)
 obtain ⟨i, rfl, hi, e, _⟩ : ∃ k : Nat, i = (k : Int) ∧ k < c.Hands.length ∧ (c.Hands.getD k default).Id = (hd c y).Id ∧ ∀ j, j < k → (c.Hands.getD j default).Id ≠ (hd c y).Id := by
   rcases hix with h | ⟨_, h⟩
   · exact h
   · exact absurd rfl (h y hy)
 clear hix
 have : i = y := id_eq V hi hy e
 subst this
 have e0 : ((i : Int)).toNat = i := rfl
 have eh : c.Hands.getD i default = hd c i := rfl
 rw [e0, eh]
 have es : (c.Hands.set i (⟨(hd c i).Id, (hd c i).From, min (hd c i).To d⟩ : Hand)).getD i default = early (hd c i) d := by rw [getD_set _ _ _ _ _ hi, if_pos rfl]; rfl
 rw [es]
 refine wp_false (by rw [decide_eq_false (by omega)]) (wp_must (by omega) ?_)
 refine wp_ifd (fun h => wp_mustI (by omega) ?_) (fun h => wp_some ?_)
 · refine wp_bindE (deleteH_eq _ _ (by rw [List.length_set]; exact hi) (by rw [List.length_set]; omega)) (wp_some ?_)
   have h : min (hd c i).To d < (hd c i).From := h
   unfold illC
   rw [if_pos h, List.take_set_of_le (Nat.le_refl _), List.drop_set_of_lt (by omega)]
 · have h : ¬ min (hd c i).To d < (hd c i).From := h
   unfold illC
   rw [if_neg h]; rfl
end
end Go.Sp
end
/- Plain laws, crew: a task more, a task less, later tasks, an ill hand, by both sides: CrewChecks. -/
section
set_option linter.all false
namespace Go.Sp
open Go.Av
set_option maxRecDepth 100000
section
variable {c : Crew}
abbrev noCrew : Crew := ⟨[], [], []⟩
theorem tasks_sorted (V : Valid c) : c.Tasks.Pairwise (fun a b => a.Lamp < b.Lamp) := adj_sorted (·.Lamp) (fun i h0 hi => (V.task i hi).2.2 h0)
theorem rcopy_eq (V : Valid c) : gasolierref04_Copy c = some c := by
 refine Wp.eq ?_
 unfold gasolierref04_Copy
 have h1 := V.tasks
 have h2 := V.hands
 have h3 := V.travel.len
 simp only [List.nil_append]
 refine wp_mustR (by omega) (wp_mustR (by omega) ?_)
 refine wp_range (fun i s => s = c.Travel.take i) (by rfl) (fun i s K hi hI hK => ?_) (fun s hI => wp_some ?_)
 · have h4 := V.travel.row i hi
   subst hI
   refine wp_mustR (by omega) (wp_must ?_ (hK _ (take_snoc hi).symm))
   rw [List.length_append, List.length_take]
   unfold room; simp only [List.length_cons, List.length_nil]; omega
 · subst hI; rw [List.take_length]
theorem ccompare_neg (a b : Int) : cmp_Compare_int a b < 0 ↔ a < b := by
 unfold cmp_Compare_int cmp_isNaN_int
 by_cases h1 : a < b
 · simp [h1]
 · by_cases h2 : b < a <;> simp [h1, h2]
theorem ccompare_zero (a b : Int) : cmp_Compare_int a b = 0 ↔ a = b := by
 unfold cmp_Compare_int cmp_isNaN_int
 by_cases h1 : a < b
 · simp [h1]; omega
 · by_cases h2 : b < a <;> simp [h1, h2] <;> omega
theorem find_eq (V : Valid c) {fuel : Nat} (hf : 30 ≤ fuel) (s : Int) {k : Nat} (k1 : k ≤ c.Tasks.length) (k2 : ∀ i, i < k → (c.Tasks.getD i default).Lamp < s) (k3 : ∀ i, k ≤ i → i < c.Tasks.length → ¬ (c.Tasks.getD i default).Lamp < s) :
   crew_find fuel c s = some ((k : Int), decide (k < c.Tasks.length) && decide ((c.Tasks.getD k default).Lamp = s)) := by
 have hV := V.tasks
 have eb : slices_BinarySearchFunc_int fuel c.Tasks s (fun x0 x1 => some (crew_find_1 x0 x1)) = some ((k : Int), decide (k < c.Tasks.length) && decide (cmp_Compare_int (c.Tasks.getD k default).Lamp s = 0)) := by
   show bsF fuel c.Tasks s (fun x0 x1 => some (crew_find_1 x0 x1)) = _
   exact bsF_eq c.Tasks s (c := fun t => cmp_Compare_int t.Lamp s) (fun t => rfl) k1 (fun i hi => (ccompare_neg _ _).2 (k2 i hi)) (fun i h1 h2 => Int.not_lt.1 (fun q => k3 i h1 h2 ((ccompare_neg _ _).1 q))) (by omega) (by omega)
 unfold crew_find
 rw [eb]
 simp only [ccompare_zero]
 rfl
open Classical in
noncomputable def withR (c : Crew) (t : Task) : Crew × Int :=
 if Valid c then (if (TaskOk t ∧ t.Place < c.Travel.length) ∧ ∀ y ∈ c.Tasks, y.Lamp ≠ t.Lamp then (if c.Tasks.length = 24 then (noCrew, 2) else (⟨insK Task.Lamp c.Tasks t, c.Travel, c.Hands⟩, 0)) else (noCrew, 40)) else (noCrew, 42)
theorem with_eq {fuel : Nat} (t : Task) (hf : 30 ≤ fuel) : crew_With fuel c t = some (withR c t) := by
 unfold crew_With withR
 refine Wp.eq (wp_bindE (check_eq c) ?_)
 by_cases V : Valid c
 rotate_left
 · rw [chk_not V, if_neg V]; exact wp_some rfl
 rw [chk_valid V, if_pos V]
 refine wp_false rfl ?_
 have hV := V.tasks
 obtain ⟨k, k1, k2, k3, k4, k5, k6⟩ := split_sorted Task.Lamp (tasks_sorted V) t.Lamp
 refine wp_bindE (find_eq V hf t.Lamp k1 k2 k3) ?_
 have hb : ((((!decide ((crew_CheckTask t) = 0)) || (decide (((c.Travel.length : Nat) : Int) ≤ t.Place))) || (decide (k < c.Tasks.length) && decide ((c.Tasks.getD k default).Lamp = t.Lamp)))) = true ↔ ¬ ((TaskOk t ∧ t.Place < c.Travel.length) ∧ ∀ y ∈ c.Tasks, y.Lamp ≠ t.Lamp) := by
   rw [k4]
   simp only [Bool.or_eq_true, Bool.not_eq_true', decide_eq_false_iff_not, Bool.and_eq_true, decide_eq_true_eq, checkTask_iff]
   by_cases h1 : TaskOk t
   · simp only [h1, not_true_eq_false, false_or, true_and]
     by_cases h2 : t.Place < c.Travel.length
     · simp only [h2, true_and, Classical.not_not]
       constructor
       · rintro (h | h)
         · omega
         · exact h
       · exact fun h => .inr h
     · simp only [h2, false_and, not_false_eq_true, iff_true]; exact .inl (by omega)
   · simp [h1]
 refine wp_if hb (fun h => ?_) (fun h => ?_)
 · rw [if_neg h]; exact wp_some rfl
 rw [if_pos (Classical.byContradiction h)]
 refine wp_ifd (fun h60 => ?_) (fun h60 => ?_)
 · rw [if_pos (by omega)]; exact wp_some rfl
 rw [if_neg (by omega)]
 refine wp_bindE (copied_eq V) ?_
 unfold slices_Insert_Task
 refine wp_bindE (v := c.Tasks.take k ++ [t] ++ c.Tasks.drop k) ?_ (wp_some ?_)
 · rw [must_yes (by omega), must_yes (by unfold room; omega), Int.toNat_natCast]
 · unfold insK; rw [k5, k6]
theorem rwith_eq {fuel : Nat} (t : Task) (hf : 30 ≤ fuel) : gasolierref04_With fuel c t = some (withR c t) := by
 unfold gasolierref04_With withR
 refine Wp.eq (wp_bindE (rcheck_eq c) ?_)
 by_cases V : Valid c
 rotate_left
 · rw [chk_not V, if_neg V]; exact wp_some rfl
 rw [chk_valid V, if_pos V]
 refine wp_false rfl ?_
 have hV := V.tasks
 obtain ⟨k, k1, k2, k3, k4, k5, k6⟩ := split_sorted Task.Lamp (tasks_sorted V) t.Lamp
 refine wp_loop (fun s => ∃ i : Nat, s = (i : Int) ∧ i ≤ k) (fun s => k - s.toNat) (by omega) ⟨0, rfl, by omega⟩ ?_
 rintro _ K ⟨i, rfl, hi⟩ hK
 simp only [Int.toNat_natCast] at hK ⊢
 refine wp_must (fun h => by have := of_decide_eq_true h; omega) ?_
 by_cases hik : i < k
 · refine wp_true (by rw [decide_eq_true (show (i : Int) < ((c.Tasks.length : Nat) : Int) by omega), decide_eq_true (show (c.Tasks.getD i default).Lamp < t.Lamp from k2 i hik)]; rfl) (wp_mustI (by omega) (hK _ ⟨i + 1, rfl, by omega⟩ (by omega)))
 have : i = k := by omega
 subst this
 refine wp_false ?_ (wp_must (fun h => by simp only [Bool.and_eq_true, decide_eq_true_eq] at h; omega) ?_)
 · rcases Nat.lt_or_ge i c.Tasks.length with h | h
   · exact Bool.and_eq_false_iff.2 (.inr (decide_eq_false (k3 i (Nat.le_refl _) h)))
   · exact Bool.and_eq_false_iff.2 (.inl (decide_eq_false (by omega)))
 have hb : (((!decide ((gasolierref04_CheckTask t) = 0)) || (decide (((c.Travel.length : Nat) : Int) ≤ t.Place))) || ((decide ((i : Int) < ((c.Tasks.length : Nat) : Int))) && (decide ((c.Tasks.getD i default).Lamp = t.Lamp)))) = true ↔ ¬ ((TaskOk t ∧ t.Place < c.Travel.length) ∧ ∀ y ∈ c.Tasks, y.Lamp ≠ t.Lamp) := by
   rw [k4, refTask_eq]
   simp only [Bool.or_eq_true, Bool.not_eq_true', decide_eq_false_iff_not, Bool.and_eq_true, decide_eq_true_eq, checkTask_iff]
   by_cases h1 : TaskOk t
   · simp only [h1, not_true_eq_false, false_or, true_and]
     by_cases h2 : t.Place < c.Travel.length
     · simp only [h2, true_and, Classical.not_not]
       constructor
       · rintro (h | h)
         · omega
         · exact ⟨by omega, h.2⟩
       · exact fun h => .inr ⟨by omega, h.2⟩
     · simp only [h2, false_and, not_false_eq_true, iff_true]; exact .inl (by omega)
   · simp [h1]
 refine wp_if hb (fun h => ?_) (fun h => ?_)
 · rw [if_neg h]; exact wp_some rfl
 rw [if_pos (Classical.byContradiction h)]
 refine wp_ifd (fun h60 => ?_) (fun h60 => ?_)
 · rw [if_pos (by omega)]; exact wp_some rfl
 rw [if_neg (by omega)]
 refine wp_bindE (rcopy_eq V) ?_
 simp only [List.nil_append]
 have l1 : (c.Tasks.take i).length ≤ 24 := by rw [List.length_take]; omega
 have l2 : (c.Tasks.take i ++ [t]).length ≤ 25 := by rw [List.length_append, List.length_singleton]; omega
 have l3 : (c.Tasks.take i ++ [t] ++ c.Tasks.drop i).length ≤ 49 := by rw [List.length_append, List.length_drop]; omega
 refine wp_must (by omega) (wp_mustR (by omega) (wp_mustR (by omega) (wp_must (by omega) (wp_mustR (by omega) (wp_some ?_)))))
 unfold insK; rw [k5, k6]
open Classical in
noncomputable def withoutR (c : Crew) (s : Int) : Crew × Int :=
 if Valid c then (if ∀ y ∈ c.Tasks, y.Lamp ≠ s then (noCrew, 3) else (⟨c.Tasks.filter (fun y => !decide (y.Lamp = s)), c.Travel, c.Hands⟩, 0)) else (noCrew, 42)
theorem deleteT_eq (l : List Task) (k : Nat) (h : k < l.length) (hl : l.length ≤ 100000) : slices_Delete_Task l (k : Int) ((k : Int) + 1) = some (l.take k ++ l.drop (k + 1)) := by
 refine Wp.eq ?_
 unfold slices_Delete_Task
 have e0 : ((k : Int)).toNat = k := rfl
 have e1 : ((k : Int) + 1).toNat = k + 1 := by omega
 rw [e0, e1]
 refine wp_must (by omega) ?_
 rw [decide_eq_false (show ¬ (k : Int) = (k : Int) + 1 by omega)]
 refine wp_false rfl (wp_must (by omega) (wp_must (by omega) (wp_must (by omega) (wp_must ?_ (wp_some rfl)))))
 rw [List.length_append, List.length_take, List.length_drop]
 omega
theorem without_eq {fuel : Nat} (s : Int) (hf : 30 ≤ fuel) : crew_Without fuel c s = some (withoutR c s) := by
 unfold crew_Without withoutR
 refine Wp.eq (wp_bindE (check_eq c) ?_)
 by_cases V : Valid c
 rotate_left
 · rw [chk_not V, if_neg V]; exact wp_some rfl
 rw [chk_valid V, if_pos V]
 refine wp_false rfl ?_
 have hV := V.tasks
 obtain ⟨k, k1, k2, k3, k4, k5, k6⟩ := split_sorted Task.Lamp (tasks_sorted V) s
 refine wp_bindE (find_eq V hf s k1 k2 k3) ?_
 by_cases hs : ∀ y ∈ c.Tasks, y.Lamp ≠ s
 · rw [if_pos hs]
   refine wp_true ?_ (wp_some rfl)
   have := k4.1 hs
   show (!(decide (k < c.Tasks.length) && decide ((c.Tasks.getD k default).Lamp = s))) = true
   cases hb : (decide (k < c.Tasks.length) && decide ((c.Tasks.getD k default).Lamp = s))
   · rfl
   · exact absurd (by simpa only [Bool.and_eq_true, decide_eq_true_eq] using hb) this
 · rw [if_neg hs]
   obtain ⟨q1, q2⟩ := Classical.byContradiction (fun h => hs (k4.2 h))
   refine wp_false (by show (!(decide (k < c.Tasks.length) && decide ((c.Tasks.getD k default).Lamp = s))) = false; rw [decide_eq_true q1, decide_eq_true q2]; rfl) ?_
   refine wp_bindE (copied_eq V) (wp_mustI (by simp only; omega) (wp_bindE (deleteT_eq _ _ q1 (by omega)) (wp_some ?_)))
   rw [cut_filter (tasks_sorted V) q1 q2]
theorem filter_len_eq {T : Type} {p : T → Bool} : ∀ {l : List T}, (l.filter p).length = l.length ↔ ∀ x ∈ l, p x = true
 | [] => by simp
 | a :: l => by
   have := List.length_filter_le p l
   have ih := filter_len_eq (p := p) (l := l)
   by_cases h : p a = true
   · rw [List.filter_cons_of_pos h, List.length_cons, List.length_cons]
     constructor
     · intro q x hx
       rcases List.mem_cons.1 hx with rfl | hx
       · exact h
       · exact ih.1 (by omega) x hx
     · intro q
       rw [ih.2 (fun x hx => q x (List.mem_cons_of_mem _ hx))]
   · rw [List.filter_cons_of_neg h, List.length_cons]
     constructor
     · intro q; omega
     · intro q; exact absurd (q a (List.mem_cons_self ..)) h
theorem rwithout_eq (s : Int) : gasolierref04_Without c s = some (withoutR c s) := by
 unfold gasolierref04_Without withoutR
 refine Wp.eq (wp_bindE (rcheck_eq c) ?_)
 by_cases V : Valid c
 rotate_left
 · rw [chk_not V, if_neg V]; exact wp_some rfl
 rw [chk_valid V, if_pos V]
 refine wp_false rfl (wp_bindE (rcopy_eq V) ?_)
 have hV := V.tasks
 refine wp_range (fun i l => l = (c.Tasks.take i).filter (fun y => !decide (y.Lamp = s))) (by simp) (fun i l K hi hI hK => ?_) (fun l hI => ?_)
 · have hlen : l.length ≤ 24 := by rw [hI]; exact Nat.le_trans (List.length_filter_le _ _) (by rw [List.length_take]; omega)
   have et : (c.Tasks.take (i + 1)).filter (fun y => !decide (y.Lamp = s)) = (c.Tasks.take i).filter (fun y => !decide (y.Lamp = s)) ++ (if (!decide ((c.Tasks.getD i default).Lamp = s)) = true then [c.Tasks.getD i default] else []) := by
     rw [take_getD hi, List.filter_append]; simp only [List.filter_cons, List.filter_nil]
   refine wp_bif (fun hb => wp_mustR (by rw [List.length_append, List.length_singleton]; omega) (hK _ ?_)) (fun hb => hK _ ?_)
   · rw [et, if_pos hb, hI]
   · rw [et, if_neg (by rw [hb]; simp), hI, List.append_nil]
 · rw [List.take_length] at hI
   subst hI
   have key : ((c.Tasks.filter (fun y => !decide (y.Lamp = s))).length = c.Tasks.length) ↔ ∀ y ∈ c.Tasks, y.Lamp ≠ s := by
     rw [filter_len_eq]; simp
   refine wp_ifd (fun h => ?_) (fun h => ?_)
   · rw [if_pos (key.1 (by omega))]; exact wp_some rfl
   · rw [if_neg (fun q => h (by rw [key.2 q]))]; exact wp_some rfl
open Classical in
noncomputable def afterR (c : Crew) (m : Int) : Crew × Int := if Valid c then (if 0 ≤ m ∧ m ≤ 1439 then (⟨c.Tasks.filter (fun y => decide (m ≤ y.At)), c.Travel, c.Hands⟩, 0) else (noCrew, 1)) else (noCrew, 42)
theorem after_eq {fuel : Nat} (m : Int) (hf : 30 ≤ fuel) : crew_After fuel c m = some (afterR c m) := by
 unfold crew_After afterR
 refine Wp.eq (wp_bindE (check_eq c) ?_)
 by_cases V : Valid c
 rotate_left
 · rw [chk_not V, if_neg V]; exact wp_some rfl
 rw [chk_valid V, if_pos V]
 refine wp_false rfl ?_
 have hV := V.tasks
 have hm : crew_isMinute m = true ↔ 0 ≤ m ∧ m ≤ 1439 := in_iff
 cases hb : crew_isMinute m
 · rw [if_neg (fun q => by have := hm.2 q; rw [this] at hb; cases hb)]; exact wp_some rfl
 rw [if_pos (hm.1 hb)]
 refine wp_false rfl (wp_bindE (copied_eq V) ?_)
 have ed : slices_DeleteFunc_Task fuel c.Tasks (fun x0 => some (crew_After_1 x0 m)) = some (c.Tasks.filter (fun y => !decide (y.At < m))) :=
   deleteFunc_eq (⟨0, 0, 0, 0⟩ : Task) (q := fun y => decide (y.At < m)) (fun x => rfl) c.Tasks fuel (by omega) (by omega)
 refine wp_bindE ed (wp_some ?_)
 have : (fun y : Task => !decide (y.At < m)) = fun y => decide (m ≤ y.At) := by
   funext y
   by_cases h : y.At < m
   · rw [decide_eq_true h, decide_eq_false (by omega)]; rfl
   · rw [decide_eq_false h, decide_eq_true (by omega)]; rfl
 rw [this]
theorem rafter_eq (m : Int) : gasolierref04_After c m = some (afterR c m) := by
 unfold gasolierref04_After afterR
 refine Wp.eq (wp_bindE (rcheck_eq c) ?_)
 by_cases V : Valid c
 rotate_left
 · rw [chk_not V, if_neg V]; exact wp_some rfl
 rw [chk_valid V, if_pos V]
 refine wp_false rfl ?_
 have hV := V.tasks
 have hm : gasolierref01_Within m 0 1439 = true ↔ 0 ≤ m ∧ m ≤ 1439 := within_iff
 cases hb : gasolierref01_Within m 0 1439
 · rw [if_neg (fun q => by have := hm.2 q; rw [this] at hb; cases hb)]; exact wp_some rfl
 rw [if_pos (hm.1 hb)]
 refine wp_false rfl (wp_bindE (rcopy_eq V) ?_)
 refine wp_range (fun i l => l = (c.Tasks.take i).filter (fun y => decide (m ≤ y.At))) (by simp) (fun i l K hi hI hK => ?_) (fun l hI => ?_)
 · have hlen : l.length ≤ 24 := by rw [hI]; exact Nat.le_trans (List.length_filter_le _ _) (by rw [List.length_take]; omega)
   have et : (c.Tasks.take (i + 1)).filter (fun y => decide (m ≤ y.At)) = (c.Tasks.take i).filter (fun y => decide (m ≤ y.At)) ++ (if (decide (m ≤ (c.Tasks.getD i default).At)) = true then [c.Tasks.getD i default] else []) := by
     rw [take_getD hi, List.filter_append]; simp only [List.filter_cons, List.filter_nil]
   refine wp_bif (fun hb => wp_mustR (by rw [List.length_append, List.length_singleton]; omega) (hK _ ?_)) (fun hb => hK _ ?_)
   · rw [et, if_pos hb, hI]
   · rw [et, if_neg (by rw [hb]; simp), hI, List.append_nil]
 · rw [List.take_length] at hI
   subst hI
   exact wp_some rfl
def illAt (l : List Hand) (y : Nat) (d : Int) (i : Nat) : List Hand :=
 if y < i then l.take y ++ (if min (l.getD y default).To d < (l.getD y default).From then [] else [early (l.getD y default) d]) ++ (l.drop (y + 1)).take (i - (y + 1)) else l.take i
theorem illAt_all (c : Crew) {y : Nat} (hy : y < c.Hands.length) (d : Int) : illC c y d = ⟨c.Tasks, c.Travel, illAt c.Hands y d c.Hands.length⟩ := by
 unfold illC illAt hd
 rw [if_pos hy, List.take_of_length_le (l := c.Hands.drop (y + 1)) (by rw [List.length_drop]; omega)]
 split
 · simp
 · congr 1
   rw [List.append_assoc, List.singleton_append]
   have e := mid_getD hy
   generalize c.Hands.getD y default = h0 at e ⊢
   conv => lhs; rw [e]
   rw [List.set_append_right _ _ (by rw [List.length_take]; omega)]
   have : y - (c.Hands.take y).length = 0 := by rw [List.length_take]; omega
   rw [this]
   rfl
theorem illAt_len (l : List Hand) (y : Nat) (d : Int) (i : Nat) : (illAt l y d i).length ≤ l.length + 1 := by
 unfold illAt
 split
 · split <;> simp <;> omega
 · rw [List.length_take]; omega
open Classical in
noncomputable def illR (c : Crew) (s m : Int) : Crew × Int := if Valid c then (if 0 ≤ m ∧ m ≤ 1439 then (if h : ∃ y, y < c.Hands.length ∧ (hd c y).Id = s then (illC c h.choose m, 0) else (noCrew, 3)) else (noCrew, 1)) else (noCrew, 42)
theorem illR_of (V : Valid c) {m : Int} (hm : 0 ≤ m ∧ m ≤ 1439) {y : Nat} (hy : y < c.Hands.length) : illR c (hd c y).Id m = (illC c y m, 0) := by
 unfold illR
 rw [if_pos V, if_pos hm]
 have h : ∃ y', y' < c.Hands.length ∧ (hd c y').Id = (hd c y).Id := ⟨y, hy, rfl⟩
 rw [dif_pos h]
 have := h.choose_spec
 have e : h.choose = y := id_eq V this.1 hy this.2
 rw [e]
theorem ill_eq2 (s m : Int) : crew_Ill c s m = some (illR c s m) := by
 by_cases V : Valid c
 rotate_left
 · unfold crew_Ill illR
   refine Wp.eq (wp_bindE (check_eq c) ?_)
   rw [chk_not V, if_neg V]; exact wp_some rfl
 have hm : crew_isMinute m = true ↔ 0 ≤ m ∧ m ≤ 1439 := in_iff
 by_cases hmm : 0 ≤ m ∧ m ≤ 1439
 rotate_left
 · unfold crew_Ill illR
   refine Wp.eq (wp_bindE (check_eq c) ?_)
   rw [chk_valid V, if_pos V, if_neg hmm]
   refine wp_false rfl (wp_true ?_ (wp_some rfl))
   cases hb : crew_isMinute m
   · rfl
   · exact absurd (hm.1 hb) hmm
 by_cases h : ∃ y, y < c.Hands.length ∧ (hd c y).Id = s
 · obtain ⟨y, hy, rfl⟩ := h
   rw [ill_eq V hy hmm.1 (by omega), illR_of V hmm hy]
 · unfold crew_Ill illR
   rw [if_pos V, if_pos hmm, dif_neg h]
   refine Wp.eq (wp_bindE (check_eq c) ?_)
   rw [chk_valid V]
   refine wp_false rfl (wp_false (by rw [hm.2 hmm]; rfl) (wp_bindE (copied_eq V) ?_))
   have ef : (fun x0 => some (crew_Ill_1 x0 s)) = fun (x : Hand) => some (decide (x.Id = s)) := rfl
   rw [ef]
   refine wp_bind (indexHand_eq _ _) (fun i hix => ?_)
   rcases hix with ⟨i, rfl, hi, e, _⟩ | ⟨rfl, _⟩
   · exact absurd ⟨i, hi, e⟩ h
   · exact wp_true rfl (wp_some rfl)
theorem rill_eq (s m : Int) : gasolierref04_Ill c s m = some (illR c s m) := by
 unfold gasolierref04_Ill
 refine Wp.eq (wp_bindE (rcheck_eq c) ?_)
 by_cases V : Valid c
 rotate_left
 · unfold illR; rw [chk_not V, if_neg V]; exact wp_some rfl
 rw [chk_valid V]
 refine wp_false rfl ?_
 have hm : gasolierref01_Within m 0 1439 = true ↔ 0 ≤ m ∧ m ≤ 1439 := within_iff
 cases hb : gasolierref01_Within m 0 1439
 · unfold illR
   rw [if_pos V, if_neg (fun q => by have := hm.2 q; rw [this] at hb; cases hb)]; exact wp_some rfl
 have hmm := hm.1 hb
 refine wp_false rfl (wp_bindE (rcopy_eq V) ?_)
 have hH := V.hands
 by_cases h : ∃ y, y < c.Hands.length ∧ (hd c y).Id = s
 · obtain ⟨y, hy, rfl⟩ := h
   rw [illR_of V hmm hy]
   refine wp_range (fun i p => p = (decide (y < i), illAt c.Hands y m i)) (by simp [illAt]) (fun i p K hi hI hK => ?_) (fun p hI => ?_)
   · subst hI
     have hl := illAt_len c.Hands y m i
     have HO := (V.hand i hi).1
     refine wp_joinU ?_
     by_cases hiy : i = y
     · subst hiy
       refine wp_true (decide_eq_true rfl) ?_
       refine wp_ifd (fun hle => wp_mustR (by rw [List.length_append, List.length_singleton]; simp only; omega) ?_) (fun hgt => ?_)
       · have := hK (decide (i < i + 1), illAt c.Hands i m (i + 1)) rfl
         rw [decide_eq_true (show i < i + 1 by omega)] at this
         have e : illAt c.Hands i m (i + 1) = illAt c.Hands i m i ++ [(⟨(c.Hands.getD i default).Id, (c.Hands.getD i default).From, min (c.Hands.getD i default).To m⟩ : Hand)] := by
           unfold illAt
           have hle : (c.Hands.getD i default).From ≤ min (c.Hands.getD i default).To m := hle
           rw [if_pos (by omega), if_neg (by omega), if_neg (by omega), Nat.sub_self, List.take_zero, List.append_nil]; rfl
         rw [e] at this
         exact this
       · have := hK (decide (i < i + 1), illAt c.Hands i m (i + 1)) rfl
         rw [decide_eq_true (show i < i + 1 by omega)] at this
         have e : illAt c.Hands i m (i + 1) = illAt c.Hands i m i := by
           unfold illAt
           have hgt : ¬ (c.Hands.getD i default).From ≤ min (c.Hands.getD i default).To m := hgt
           rw [if_pos (by omega), if_pos (by omega), if_neg (by omega), Nat.sub_self, List.take_zero, List.append_nil, List.append_nil]
         rw [e] at this
         exact this
     · have hne : ¬ (c.Hands.getD i default).Id = (hd c y).Id := fun e => hiy (id_eq V hi hy e)
       refine wp_false (decide_eq_false hne) ?_
       refine wp_true (decide_eq_true HO.2.2.2.1) (wp_mustR (by rw [List.length_append, List.length_singleton]; simp only; omega) ?_)
       have := hK (decide (y < i + 1), illAt c.Hands y m (i + 1)) rfl
       have e1 : decide (y < i + 1) = decide (y < i) := decide_eq_decide.2 (by omega)
       have e : illAt c.Hands y m (i + 1) = illAt c.Hands y m i ++ [c.Hands.getD i default] := by
         unfold illAt
         rcases Nat.lt_or_ge y i with q | q
         · rw [if_pos (by omega), if_pos q, show i + 1 - (y + 1) = (i - (y + 1)) + 1 by omega, take_getD (l := c.Hands.drop (y + 1)) (by rw [List.length_drop]; omega), getD_drop, show y + 1 + (i - (y + 1)) = i by omega]
           simp only [List.append_assoc]
         · rw [if_neg (by omega), if_neg (by omega), take_getD hi]
       rw [e1, e] at this
       exact this
   · subst hI
     rw [decide_eq_true hy]
     refine wp_false rfl (wp_some ?_)
     rw [illAt_all c hy]
 · unfold illR
   rw [if_pos V, if_pos hmm, dif_neg h]
   refine wp_range (fun i p => p.1 = false ∧ p.2.length ≤ i) (by simp) (fun i p K hi hI hK => ?_) (fun p hI => ?_)
   · refine wp_joinU (wp_false (decide_eq_false (fun e => h ⟨i, hi, e⟩)) ?_)
     refine wp_ifd (fun _ => wp_mustR (by rw [List.length_append, List.length_singleton]; omega) (hK _ ⟨hI.1, by dsimp only; rw [List.length_append, List.length_singleton]; omega⟩)) (fun _ => hK _ ⟨hI.1, by dsimp only; omega⟩)
   · rw [hI.1]
     exact wp_true rfl (wp_some rfl)
end
theorem sameCrew_self (c : Crew) (h1 : c.Tasks.length ≤ 100) (h2 : c.Hands.length ≤ 100) (h3 : c.Travel.length ≤ 100) (h4 : ∀ i, i < c.Travel.length → (c.Travel.getD i default).length ≤ 100) : gasolierref04_SameCrew c c = some true := by
 unfold gasolierref04_SameCrew
 refine Wp.eq (wp_false (by simp) ?_)
 refine wp_must (by omega) (wp_forall (fun i => True) (fun i K hi _ hK => wp_must (by omega) (wp_false (by simp) (hK trivial))) (fun _ => ?_))
 refine wp_must (by omega) (wp_forall (fun i => True) (fun i K hi _ hK => wp_must (by omega) (wp_false (by simp) (hK trivial))) (fun _ => ?_))
 refine wp_must (by omega) (wp_forall (fun i => True) (fun i K hi _ hK => wp_must (by omega) (wp_false (by simp) ?_)) (fun _ => wp_some rfl))
 refine wp_must (by have := h4 i hi; omega) (wp_forall (fun i => True) (fun j K2 hj _ hK2 => wp_must (by omega) (wp_must (by omega) (wp_false (by simp) (hK2 trivial)))) (fun _ => hK trivial))
def SmallC (c : Crew) : Prop := c.Tasks.length ≤ 100 ∧ c.Hands.length ≤ 100 ∧ c.Travel.length ≤ 100 ∧ ∀ i, i < c.Travel.length → (c.Travel.getD i default).length ≤ 100
theorem small_no : SmallC noCrew := ⟨by simp, by simp, by simp, fun i hi => by simp at hi⟩
theorem small_of {c : Crew} (V : Valid c) {ts : List Task} {hs : List Hand} (h1 : ts.length ≤ 100) (h2 : hs.length ≤ 100) : SmallC ⟨ts, c.Travel, hs⟩ :=
 ⟨h1, h2, by have := V.travel.len; dsimp only; omega, fun i hi => by have := V.travel.row i hi; have := V.travel.len; dsimp only at hi ⊢; omega⟩
theorem withR_small (c : Crew) (t : Task) : SmallC (withR c t).1 := by
 unfold withR
 split
 · rename_i V
   split
   · split
     · exact small_no
     · exact small_of V (by rw [insK_len]; have := V.tasks; omega) (by have := V.hands; omega)
   · exact small_no
 · exact small_no
theorem withoutR_small (c : Crew) (s : Int) : SmallC (withoutR c s).1 := by
 unfold withoutR
 split
 · rename_i V
   split
   · exact small_no
   · exact small_of V (by have := V.tasks; exact Nat.le_trans (List.length_filter_le _ _) (by omega)) (by have := V.hands; omega)
 · exact small_no
theorem afterR_small (c : Crew) (s : Int) : SmallC (afterR c s).1 := by
 unfold afterR
 split
 · rename_i V
   split
   · exact small_of V (by have := V.tasks; exact Nat.le_trans (List.length_filter_le _ _) (by omega)) (by have := V.hands; omega)
   · exact small_no
 · exact small_no
theorem illR_small (c : Crew) (s m : Int) : SmallC (illR c s m).1 := by
 unfold illR
 split
 · rename_i V
   split
   · split
     · rename_i h
       rw [illAt_all c h.choose_spec.1]
       exact small_of V (by have := V.tasks; omega) (by have := illAt_len c.Hands h.choose m c.Hands.length; have := V.hands; omega)
     · exact small_no
   · exact small_no
 · exact small_no
theorem crewChecks_true (c : Crew) (x : gasolierlaw04_One) : gasolierlaw04_CrewChecks 20000 c x = some true := by
 unfold gasolierlaw04_CrewChecks
 obtain ⟨a1, a2, a3, a4⟩ := withR_small c x.Task
 obtain ⟨b1, b2, b3, b4⟩ := withoutR_small c x.Lamp
 obtain ⟨c1, c2, c3, c4⟩ := afterR_small c x.Minute
 obtain ⟨d1, d2, d3, d4⟩ := illR_small c x.Hand.Id x.Minute
 refine Wp.eq (wp_bindE (with_eq _ (by omega)) (wp_bindE (rwith_eq _ (by omega)) (wp_bindE (without_eq _ (by omega)) (wp_bindE (rwithout_eq _) (wp_bindE (after_eq _ (by omega)) (wp_bindE (rafter_eq _) (wp_bindE (ill_eq2 _ _) (wp_bindE (rill_eq _ _) ?_))))))))
 refine wp_bindE (sameCrew_self _ a1 a2 a3 a4) ?_
 refine wp_onE (by simp) (sameCrew_self _ b1 b2 b3 b4) (wp_onE (by simp) (sameCrew_self _ c1 c2 c3 c4) (wp_onE (by simp) (sameCrew_self _ d1 d2 d3 d4) (wp_false (by simp) ?_)))
 rw [refTask_eq, refHand_eq]
 refine wp_onE (by simp) (check_eq c) (wp_onE (by simp) (rcheck_eq c) (wp_onE (by simp) sane4 (wp_some (by simp))))
end Go.Sp
end
