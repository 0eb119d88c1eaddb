/- Texts of the framework, or of the plain law, one behind another. -/
import Derived.Test.YtoekhnngdocddaaFr1
import Derived.Test.YtoekhnngdocddaaFr4
import Derived.KernelRfl
/- Rules for plain laws: what a printed definition yields. No program in sight. -/
section
set_option linter.all false
namespace Go.Sp
open Go.Av
def Wp {R : Type} (x : Option R) (P : R → Prop) : Prop := ∃ r, x = some r ∧ P r
theorem Wp.eq {R : Type} {x : Option R} {v : R} (h : Wp x (· = v)) : x = some v := by
 obtain ⟨r, h1, h2⟩ := h; rw [h1, h2]
theorem Wp.of_eq {R : Type} {x : Option R} {v : R} {P : R → Prop} (h : x = some v) (hp : P v) : Wp x P := ⟨v, h, hp⟩
theorem Wp.mono {R : Type} {x : Option R} {P Q : R → Prop} (h : Wp x P) (hp : ∀ r, P r → Q r) : Wp x Q := by
 obtain ⟨r, h1, h2⟩ := h; exact ⟨r, h1, hp r h2⟩
theorem wp_some {R : Type} {r : R} {P : R → Prop} (h : P r) : Wp (some r) P := ⟨r, rfl, h⟩
theorem wp_must {R : Type} {c : Prop} [Decidable c] {x : Option R} {P : R → Prop} (h : c) (k : Wp x P) : Wp (must c x) P := by
 unfold must; rw [if_pos h]; exact k
theorem wp_bind {S R : Type} {x : Option S} {k : S → Option R} {P : R → Prop} {Q : S → Prop} (h : Wp x Q) (hk : ∀ s, Q s → Wp (k s) P) : Wp (bindO x k) P := by
 obtain ⟨r, h1, h2⟩ := h; rw [h1]; exact hk r h2
theorem wp_bindE {S R : Type} {x : Option S} {k : S → Option R} {P : R → Prop} {v : S} (h : x = some v) (hk : Wp (k v) P) : Wp (bindO x k) P := by
 rw [h]; exact hk
theorem wp_bif {R : Type} {b : Bool} {x y : Option R} {P : R → Prop} (h1 : b = true → Wp x P) (h2 : b = false → Wp y P) : Wp (bif b then x else y) P := by
 cases b
 · exact h2 rfl
 · exact h1 rfl
theorem wp_if {R : Type} {p : Prop} {b : Bool} {x y : Option R} {P : R → Prop} (hb : b = true ↔ p) (h1 : p → Wp x P) (h2 : ¬ p → Wp y P) : Wp (bif b then x else y) P :=
 wp_bif (fun h => h1 (hb.1 h)) (fun h => h2 (fun hp => by rw [hb.2 hp] at h; cases h))
theorem wp_ifd {R : Type} {p : Prop} [Decidable p] {x y : Option R} {P : R → Prop} (h1 : p → Wp x P) (h2 : ¬ p → Wp y P) : Wp (bif (decide p) then x else y) P :=
 wp_if (decide_eq_true_iff) h1 h2
theorem wp_ifn {R : Type} {p : Prop} [Decidable p] {x y : Option R} {P : R → Prop} (h1 : ¬ p → Wp x P) (h2 : p → Wp y P) : Wp (bif (!decide p) then x else y) P :=
 wp_bif (fun h => h1 (by simpa using h)) (fun h => h2 (by simpa using h))
theorem wp_true {R : Type} {b : Bool} {x y : Option R} {P : R → Prop} (h : b = true) (h1 : Wp x P) : Wp (bif b then x else y) P := by rw [h]; exact h1
theorem wp_false {R : Type} {b : Bool} {x y : Option R} {P : R → Prop} (h : b = false) (h1 : Wp y P) : Wp (bif b then x else y) P := by rw [h]; exact h1
theorem wp_join {S R : Type} {f : (S → Option R) → Option R} {k : S → Option R} {P : R → Prop} (G : S → Prop) (hf : ∀ K : S → Option R, (∀ s, G s → Wp (K s) P) → Wp (f K) P) (hk : ∀ s, G s → Wp (k s) P) : Wp (joinK f k) P := hf k hk
theorem wp_joinU {S R : Type} {f : (S → Option R) → Option R} {k : S → Option R} {P : R → Prop} (h : Wp (f k) P) : Wp (joinK f k) P := h
theorem wp_range {S R : Type} {body : Nat → S → (S → Option R) → Option R} {ex : S → Option R} {n : Nat} {s0 : S} {P : R → Prop} (Inv : Nat → S → Prop) (h0 : Inv 0 s0)
   (hb : ∀ (i : Nat) s (K : S → Option R), i < n → Inv i s → (∀ s', Inv (i + 1) s' → Wp (K s') P) → Wp (body i s K) P) (he : ∀ s, Inv n s → Wp (ex s) P) : Wp (rangeGo body ex n 0 s0) P := by
 have go : ∀ (m i : Nat), i + m = n → ∀ s, Inv i s → Wp (rangeGo body ex m i s) P := by
   intro m
   induction m with
   | zero => intro i hi s hs; have e : i = n := by omega
             subst e; exact he s hs
   | succ m ih => intro i hi s hs; exact hb i s _ (by omega) hs (fun s' h' => ih (i + 1) (by omega) s' h')
 exact go n 0 (by omega) s0 h0
theorem wp_loop {S R : Type} {body : S → (S → Option R) → Option R} {fuel : Nat} {s0 : S} {P : R → Prop} (Inv : S → Prop) (μ : S → Nat) (hf : μ s0 < fuel) (h0 : Inv s0)
   (hb : ∀ s (K : S → Option R), Inv s → (∀ s', Inv s' → μ s' < μ s → Wp (K s') P) → Wp (body s K) P) : Wp (loopGo body fuel s0) P := by
 have go : ∀ (f : Nat) s, Inv s → μ s < f → Wp (loopGo body f s) P := by
   intro f
   induction f with
   | zero => intro s _ h; omega
   | succ f ih => intro s hs hm; exact hb s _ hs (fun s' h' hl => ih s' h' (by omega))
 exact go fuel s0 h0 hf
theorem wp_for {S R : Type} {body : (Int × S) → ((Int × S) → Option R) → Option R} {fuel : Nat} {s0 : S} {P : R → Prop} (n : Nat) (hf : n < fuel) (Inv : Nat → S → Prop) (h0 : Inv 0 s0)
   (hb : ∀ (i : Nat) s (K : (Int × S) → Option R), i ≤ n → Inv i s → (∀ s', i < n → Inv (i + 1) s' → Wp (K ((i : Int) + 1, s')) P) → Wp (body ((i : Int), s) K) P) : Wp (loopGo body fuel (0, s0)) P := by
 have go : ∀ (f i : Nat) s, i ≤ n → n - i < f → Inv i s → Wp (loopGo body f ((i : Int), s)) P := by
   intro f
   induction f with
   | zero => intro i s _ h; omega
   | succ f ih => intro i s hi hm hs; exact hb i s _ hi hs (fun s' hl h' => ih (i + 1) s' (by omega) (by omega) h')
 exact go fuel 0 s0 (by omega) (by omega) h0
end Go.Sp
end
/- More rules for plain laws. No program in sight. -/
section
set_option linter.all false
namespace Go.Sp
open Go.Av
theorem wp_mustI {R : Type} {n : Int} {x : Option R} {P : R → Prop} (h : -9223372036854775808 ≤ n ∧ n ≤ 9223372036854775807) (k : Wp x P) : Wp (must (inI n) x) P := wp_must h k
theorem wp_mustR {R : Type} {n b : Nat} {x : Option R} {P : R → Prop} (h : n * b ≤ 140737488355328 ∧ n ≤ 9223372036854775807) (k : Wp x P) : Wp (must (room n b) x) P := wp_must h k
theorem wp_on {S R : Type} [Inhabited S] {W : Bool} {x : Option S} {k : S → Option R} {P : R → Prop} {Q : S → Prop} (h : W = true → Wp x Q) (hk : ∀ s, (W = true → Q s) → Wp (k s) P) : Wp (bindO (bif W then x else some default) k) P := by
 cases W
 · exact hk _ (fun h => by cases h)
 · exact wp_bind (h rfl) (fun s hs => hk s (fun _ => hs))
end Go.Sp
end
/- Rules for plain laws, more of them. No program in sight. -/
section
set_option linter.all false
namespace Go.Sp
open Go.Av
theorem wp_forall {R : Type} {body : Nat → Unit → (Unit → Option R) → Option R} {ex : Unit → Option R} {n : Nat} {P : R → Prop} (good : Nat → Prop)
   (hb : ∀ (i : Nat) (K : Option R), i < n → (∀ j, j < i → good j) → (good i → Wp K P) → Wp (body i () (fun _ => K)) P) (he : (∀ j, j < n → good j) → Wp (ex ()) P) : Wp (rangeGo body ex n 0 ()) P := by
 refine wp_range (fun i _ => ∀ j, j < i → good j) (fun j hj => by omega) (fun i s K hi hI hK => ?_) (fun s hs => he hs)
 have e : K = fun _ => K () := funext fun u => rfl
 rw [e]
 exact hb i (K ()) hi hI (fun g => hK () (fun j hj => by
   by_cases e : j = i
   · rw [e]; exact g
   · exact hI j (by omega)))
theorem wp_onE {S R : Type} {W : Bool} {x y : Option S} {k : S → Option R} {P : R → Prop} {v : S} (hW : W = true) (h : x = some v) (hk : Wp (k v) P) : Wp (bindO (bif W then x else y) k) P := by
 subst hW; rw [h]; exact hk
theorem wp_offE {S R : Type} {W : Bool} {x y : Option S} {k : S → Option R} {P : R → Prop} {v : S} (hW : W = false) (h : y = some v) (hk : Wp (k v) P) : Wp (bindO (bif W then x else y) k) P := by
 subst hW; rw [h]; exact hk
theorem must_yes {R : Type} {c : Prop} [Decidable c] (h : c) (x : Option R) : must c x = x := if_pos h
theorem getD_set {T : Type} (l : List T) (i j : Nat) (x d : T) (hi : i < l.length) : (l.set i x).getD j d = if j = i then x else l.getD j d := by
 simp only [List.getD_eq_getElem?_getD]
 by_cases e : j = i
 · subst e; rw [List.getElem?_set_self hi, if_pos rfl]; rfl
 · rw [List.getElem?_set_ne (fun h => e h.symm), if_neg e]
theorem getD_snoc {T : Type} (l : List T) (x d : T) (i : Nat) : (l ++ [x]).getD i d = if i = l.length then x else l.getD i d := by
 simp only [List.getD_eq_getElem?_getD]
 rcases Nat.lt_trichotomy i l.length with h | h | h
 · rw [List.getElem?_append_left h, if_neg (by omega)]
 · subst h; simp
 · rw [if_neg (by omega), List.getElem?_eq_none (by simp; omega), List.getElem?_eq_none (by omega)]
theorem getD_replicate {T : Type} (n i : Nat) (x : T) : (List.replicate n x).getD i x = x := by
 simp only [List.getD_eq_getElem?_getD, List.getElem?_replicate]
 split <;> rfl
theorem getD_mem {T : Type} [Inhabited T] {l : List T} {i : Nat} (h : i < l.length) : l.getD i default ∈ l := by
 rw [List.getD_eq_getElem?_getD, List.getElem?_eq_getElem h]; exact List.getElem_mem h
theorem mem_getD {T : Type} [Inhabited T] {l : List T} {x : T} (h : x ∈ l) : ∃ i, i < l.length ∧ l.getD i default = x := by
 obtain ⟨i, hi, rfl⟩ := List.getElem_of_mem h
 exact ⟨i, hi, by rw [List.getD_eq_getElem?_getD, List.getElem?_eq_getElem hi]; rfl⟩
theorem getD_append {T : Type} (l r : List T) (i : Nat) (d : T) : (l ++ r).getD i d = if i < l.length then l.getD i d else r.getD (i - l.length) d := by
 simp only [List.getD_eq_getElem?_getD]
 split
 · rename_i h; rw [List.getElem?_append_left h]
 · rename_i h; rw [List.getElem?_append_right (by omega)]
theorem nodup_le {T : Type} [DecidableEq T] : ∀ {l r : List T}, l.Nodup → (∀ x ∈ l, x ∈ r) → l.length ≤ r.length
 | [], r, _, _ => Nat.zero_le _
 | x :: l, r, hn, hs => by
   have hx := hs x List.mem_cons_self
   rw [List.nodup_cons] at hn
   have := nodup_le (l := l) (r := r.erase x) hn.2 (fun y hy => (List.mem_erase_of_ne (fun (e : y = x) => hn.1 (e ▸ hy))).2 (hs y (List.mem_cons_of_mem _ hy)))
   rw [List.length_erase_of_mem hx] at this
   have := List.length_pos_of_mem hx
   simp only [List.length_cons]; omega
theorem nodup_inj {S T : Type} {f : S → T} : ∀ {l : List S}, l.Nodup → (∀ x ∈ l, ∀ y ∈ l, f x = f y → x = y) → (l.map f).Nodup
 | [], _, _ => List.nodup_nil
 | x :: l, hn, hi => by
   rw [List.nodup_cons] at hn
   rw [List.map_cons, List.nodup_cons]
   refine ⟨fun hm => ?_, nodup_inj hn.2 (fun a ha b hb => hi a (List.mem_cons_of_mem _ ha) b (List.mem_cons_of_mem _ hb))⟩
   obtain ⟨y, hy, e⟩ := List.mem_map.1 hm
   have := hi x List.mem_cons_self y (List.mem_cons_of_mem _ hy) e.symm
   exact hn.1 (this ▸ hy)
theorem length_le_inj {S T : Type} [DecidableEq T] {l : List S} {r : List T} (f : S → T) (hn : l.Nodup) (hm : ∀ x ∈ l, f x ∈ r) (hi : ∀ x ∈ l, ∀ y ∈ l, f x = f y → x = y) : l.length ≤ r.length := by
 have := nodup_le (nodup_inj hn hi) (r := r) (fun y hy => by obtain ⟨x, hx, rfl⟩ := List.mem_map.1 hy; exact hm x hx)
 rwa [List.length_map] at this
theorem fdiv_bit {x : Int} {j : Nat} (h : 0 ≤ x) : Int.fdiv x (2 ^ j) = ((x.toNat >>> j : Nat) : Int) := by
 obtain ⟨n, rfl⟩ := Int.eq_ofNat_of_zero_le h
 rw [Int.toNat_natCast, Nat.shiftRight_eq_div_pow]
 have : (2 : Int) ^ j = ((2 ^ j : Nat) : Int) := by simp
 rw [this, Int.fdiv_eq_ediv_of_nonneg _ (Int.natCast_nonneg _)]
 exact (Int.natCast_ediv _ _).symm
theorem bit_one (n j : Nat) : (n >>> j) &&& 1 = if n.testBit j then 1 else 0 := by
 unfold Nat.testBit
 rcases Nat.mod_two_eq_zero_or_one (n >>> j) with h | h
 · simp [Nat.and_comm 1, Nat.and_one_is_mod, h]
 · simp [Nat.and_comm 1, Nat.and_one_is_mod, h]
theorem or_bit {n j k : Nat} : (n ||| 2 ^ j).testBit k = (n.testBit k || decide (k = j)) := by
 rw [Nat.testBit_or, Nat.testBit_two_pow]
 congr 1
 exact decide_eq_decide.2 eq_comm
theorem or_lt {n j m : Nat} (hn : n < 2 ^ m) (hj : j < m) : n ||| 2 ^ j < 2 ^ m := Nat.or_lt_two_pow hn (Nat.pow_lt_pow_right (by omega) hj)
def mu (n : Nat) (P : Nat → Bool) : Nat := (List.range n).countP (fun k => !P k)
theorem mu_le (n : Nat) (P : Nat → Bool) : mu n P ≤ n := by
 have := List.countP_le_length (p := fun k => !P k) (l := List.range n)
 rwa [List.length_range] at this
theorem mu_mono {n : Nat} {P Q : Nat → Bool} (h : ∀ k, P k = true → Q k = true) : mu n Q ≤ mu n P :=
 List.countP_mono_left (fun k _ hk => by
   cases hP : P k with
   | false => rfl
   | true => rw [h k hP] at hk; cases hk)
theorem countP_lt {T : Type} {p q : T → Bool} {a : T} : ∀ {l : List T}, (∀ x, x ∈ l → p x = true → q x = true) → a ∈ l → q a = true → p a = false → l.countP p < l.countP q
 | x :: l, h, ha, hq, hp => by
   rw [List.countP_cons, List.countP_cons]
   have hm : l.countP p ≤ l.countP q := List.countP_mono_left (fun y hy => h y (List.mem_cons_of_mem _ hy))
   rcases List.mem_cons.1 ha with rfl | ha
   · rw [hp, hq]; simp; omega
   · have := countP_lt (l := l) (fun y hy => h y (List.mem_cons_of_mem _ hy)) ha hq hp
     have hx := h x List.mem_cons_self
     cases hpx : p x with
     | false => simp; omega
     | true => rw [hx hpx]; simp; omega
theorem mu_lt {n j : Nat} {P Q : Nat → Bool} (h : ∀ k, P k = true → Q k = true) (hj : j < n) (hP : P j = false) (hQ : Q j = true) : mu n Q < mu n P :=
 countP_lt (a := j) (fun k _ hk => by
   cases hPk : P k with
   | false => rfl
   | true => rw [h k hPk] at hk; cases hk) (List.mem_range.2 hj) (by rw [hP]; rfl) (by rw [hQ]; rfl)
end Go.Sp
end
/- Matchings: a search for a free partner, where others step aside; what it leaves. No program in sight. -/
section
set_option linter.all false
namespace Go.Sp
structure Ks where
 seen : Nat → Bool
 own : Nat → Int
 back : Nat → Int
def Ks.see (s : Ks) (j : Nat) : Ks := ⟨fun k => s.seen k || decide (k = j), s.own, s.back⟩
def Ks.give (s : Ks) (j i : Nat) : Ks := ⟨s.seen, fun k => if k = j then (i : Int) else s.own k, fun k => if k = i then (j : Int) else s.back k⟩
inductive Srch (adj : Nat → Nat → Prop) (m : Nat) : Nat → Nat → Ks → Bool → Ks → Prop
 | done {i j : Nat} {s : Ks} : m ≤ j → Srch adj m i j s false s
 | skip {i j : Nat} {s s' : Ks} {b : Bool} : j < m → (adj i j → s.seen j = true) → Srch adj m i (j + 1) s b s' → Srch adj m i j s b s'
 | free {i j : Nat} {s : Ks} : j < m → adj i j → s.seen j = false → s.own j < 0 → Srch adj m i j s true ((s.see j).give j i)
 | aug {i j o : Nat} {s s' : Ks} : j < m → adj i j → s.seen j = false → s.own j = (o : Int) → Srch adj m o 0 (s.see j) true s' → Srch adj m i j s true (s'.give j i)
 | fail {i j o : Nat} {s s1 s' : Ks} {b : Bool} : j < m → adj i j → s.seen j = false → s.own j = (o : Int) → Srch adj m o 0 (s.see j) false s1 → Srch adj m i (j + 1) s1 b s' → Srch adj m i j s b s'
variable {adj : Nat → Nat → Prop} {m : Nat}
theorem Srch.mono {i j : Nat} {s s' : Ks} {b : Bool} (H : Srch adj m i j s b s') : ∀ k, s.seen k = true → s'.seen k = true := by
 induction H with
 | done _ => exact fun k h => h
 | skip _ _ _ ih => exact ih
 | free => intro k h; show (_ || _) = true; rw [h]; rfl
 | aug _ _ _ _ _ ih => intro k h; exact ih k (by show (_ || _) = true; rw [h]; rfl)
 | fail _ _ _ _ _ _ ih1 ih2 => intro k h; exact ih2 k (ih1 k (by show (_ || _) = true; rw [h]; rfl))
theorem Srch.own_seen {i j : Nat} {s s' : Ks} {b : Bool} (H : Srch adj m i j s b s') : ∀ k, s.seen k = true → s'.own k = s.own k := by
 induction H with
 | done _ => exact fun k _ => rfl
 | skip _ _ _ ih => exact ih
 | @free i j s hj ha hs ho => intro k h; show (if k = j then _ else _) = _; rw [if_neg (fun e => by subst e; rw [hs] at h; cases h)]; rfl
 | @aug i j o s s' hj ha hs ho hr ih =>
   intro k h
   show (if k = j then _ else _) = _
   rw [if_neg (fun e => by subst e; rw [hs] at h; cases h)]
   exact ih k (by show (_ || _) = true; rw [h]; rfl)
 | @fail i j o s s1 s' b _ _ _ _ h1 _ ih1 ih2 =>
   intro k h
   have h' : (s.see j).seen k = true := by show (_ || _) = true; rw [h]; rfl
   rw [ih2 k (h1.mono k h'), ih1 k h']; rfl
theorem Srch.same {i j : Nat} {s s' : Ks} {b : Bool} (H : Srch adj m i j s b s') : b = false → s'.own = s.own ∧ s'.back = s.back := by
 induction H with
 | done _ => exact fun _ => ⟨rfl, rfl⟩
 | skip _ _ _ ih => exact ih
 | free => intro h; cases h
 | aug => intro h; cases h
 | fail _ _ _ _ _ _ ih1 ih2 => intro h; obtain ⟨a, b⟩ := ih2 h; obtain ⟨c, d⟩ := ih1 rfl; exact ⟨a.trans c, b.trans d⟩
theorem Srch.shut {i j : Nat} {s s' : Ks} {b : Bool} (H : Srch adj m i j s b s') : b = false → (∀ k, j ≤ k → k < m → adj i k → s'.seen k = true) ∧
   ∀ k, s'.seen k = true → s.seen k = false → k < m ∧ ∃ o : Nat, s.own k = (o : Int) ∧ ∀ q, q < m → adj o q → s'.seen q = true := by
 induction H with
 | done h => intro _; exact ⟨fun k h1 h2 => by omega, fun k h1 h2 => by rw [h1] at h2; cases h2⟩
 | @skip i j s s' b hj ha hr ih =>
   intro hb
   obtain ⟨h1, h2⟩ := ih hb
   refine ⟨fun k hk hm hadj => ?_, h2⟩
   by_cases e : k = j
   · subst e; exact hr.mono k (ha hadj)
   · exact h1 k (by omega) hm hadj
 | free => intro h; cases h
 | aug => intro h; cases h
 | @fail i j o s s1 s' b hj ha hs ho hr1 hr2 ih1 ih2 =>
   intro hb
   obtain ⟨a1, a2⟩ := ih1 rfl
   obtain ⟨b1, b2⟩ := ih2 hb
   have hsee : (s.see j).seen j = true := by show (_ || _) = true; simp
   have hown := (hr1.same rfl).1
   refine ⟨fun k hk hm hadj => ?_, fun k h1 h2 => ?_⟩
   · by_cases e : k = j
     · subst e; exact hr2.mono k (hr1.mono k hsee)
     · exact b1 k (by omega) hm hadj
   · by_cases e1 : s1.seen k = true
     · by_cases e : k = j
       · subst e
         exact ⟨hj, o, ho, fun q hq hadj => hr2.mono q (a1 q (Nat.zero_le _) hq hadj)⟩
       · obtain ⟨c0, o', c1, c2⟩ := a2 k e1 (by show (_ || _) = false; rw [h2]; simp [e])
         exact ⟨c0, o', c1, fun q hq hadj => hr2.mono q (c2 q hq hadj)⟩
     · obtain ⟨c0, o', c1, c2⟩ := b2 k h1 (by simpa using e1)
       rw [hown] at c1
       exact ⟨c0, o', c1, c2⟩
structure Mat (adj : Nat → Nat → Prop) (m : Nat) (s : Ks) : Prop where
 back : ∀ x : Nat, 0 ≤ s.back x → ∃ k : Nat, s.back x = (k : Int) ∧ k < m ∧ s.own k = (x : Int) ∧ adj x k
 own : ∀ k : Nat, k < m → 0 ≤ s.own k → ∃ x : Nat, s.own k = (x : Int) ∧ s.back x = (k : Int)
structure Done (adj : Nat → Nat → Prop) (m : Nat) (i : Nat) (s s' : Ks) : Prop where
 back : ∀ x : Nat, 0 ≤ s'.back x → ∃ k : Nat, s'.back x = (k : Int) ∧ k < m ∧ s'.own k = (x : Int) ∧ adj x k
 own : ∀ k : Nat, k < m → 0 ≤ s'.own k → ∃ x : Nat, s'.own k = (x : Int) ∧ (s'.back x = (k : Int) ∨ (x = i ∧ s.back i = (k : Int)))
 new : ∃ k : Nat, s'.back i = (k : Int) ∧ s.seen k = false
 rest : ∀ x : Nat, x ≠ i → (0 ≤ s'.back x ↔ 0 ≤ s.back x) ∧ (s'.back x = s.back x ∨ ∃ k : Nat, s.back x = (k : Int) ∧ s.seen k = false)
theorem Srch.win {i j : Nat} {s s' : Ks} {b : Bool} (H : Srch adj m i j s b s') : b = true → Mat adj m s → (∀ k : Nat, s.back i = (k : Int) → s.seen k = true) → Done adj m i s s' := by
 induction H with
 | done _ => intro h; cases h
 | skip _ _ _ ih => exact ih
 | @free i j s hj ha hs ho =>
   intro _ M hi
   refine ⟨fun x hx => ?_, fun k hk hx => ?_, ⟨j, by show (if i = i then _ else _) = _; rw [if_pos rfl], hs⟩, fun x hx => ?_⟩
   · by_cases e : x = i
     · subst e
       refine ⟨j, by show (if x = x then _ else _) = _; rw [if_pos rfl], hj, by show (if j = j then _ else _) = _; rw [if_pos rfl], ha⟩
     · have eb : ((s.see j).give j i).back x = s.back x := by show (if x = i then _ else _) = _; rw [if_neg e]; rfl
       rw [eb] at hx ⊢
       obtain ⟨k, h1, h2, h3, h4⟩ := M.back x hx
       refine ⟨k, h1, h2, ?_, h4⟩
       show (if k = j then _ else _) = _
       rw [if_neg (fun e => by subst e; omega)]; exact h3
   · by_cases e : k = j
     · subst e
       exact ⟨i, by show (if k = k then _ else _) = _; rw [if_pos rfl], .inl (by show (if i = i then _ else _) = _; rw [if_pos rfl])⟩
     · have eo : ((s.see j).give j i).own k = s.own k := by show (if k = j then _ else _) = _; rw [if_neg e]; rfl
       rw [eo] at hx ⊢
       obtain ⟨x, h1, h2⟩ := M.own k hk hx
       refine ⟨x, h1, ?_⟩
       by_cases e2 : x = i
       · subst e2; exact .inr ⟨rfl, h2⟩
       · left; show (if x = i then _ else _) = _; rw [if_neg e2]; exact h2
   · have eb : ((s.see j).give j i).back x = s.back x := by show (if x = i then _ else _) = _; rw [if_neg hx]; rfl
     rw [eb]
     exact ⟨Iff.rfl, .inl rfl⟩
 | @aug i j o s s' hj ha hs ho hr ih =>
   intro _ M hi
   have hbo : s.back o = (j : Int) := by
     obtain ⟨x, h1, h2⟩ := M.own j hj (by omega)
     have : x = o := by omega
     subst this; exact h2
   have hio : i ≠ o := fun e => by subst e; have := hi j hbo; rw [hs] at this; cases this
   have M2 : Mat adj m (s.see j) := ⟨M.back, M.own⟩
   have D := ih rfl M2 (fun k hk => by
     have : k = j := by have : (s.see j).back o = s.back o := rfl; omega
     subst this; show (_ || _) = true; simp)
   have hownj : s'.own j = (o : Int) := by rw [hr.own_seen j (by show (_ || _) = true; simp)]; exact ho
   obtain ⟨j', hj', hns⟩ := D.new
   have hjj : j' ≠ j := fun e => by subst e; have : (s.see j').seen j' = true := by show (_ || _) = true; simp
                                    rw [this] at hns; cases hns
   have hbi : s'.back i = s.back i := by
     rcases (D.rest i hio).2 with h | ⟨k, h1, h2⟩
     · exact h
     · have h3 := hi k h1
       have : (s.see j).seen k = true := by show (_ || _) = true; rw [h3]; rfl
       rw [this] at h2; cases h2
   refine ⟨fun x hx => ?_, fun k hk hx => ?_, ⟨j, by show (if i = i then _ else _) = _; rw [if_pos rfl], hs⟩, fun x hx => ?_⟩
   · by_cases e : x = i
     · subst e
       exact ⟨j, by show (if x = x then _ else _) = _; rw [if_pos rfl], hj, by show (if j = j then _ else _) = _; rw [if_pos rfl], ha⟩
     · have eb : (s'.give j i).back x = s'.back x := by show (if x = i then _ else _) = _; rw [if_neg e]
       rw [eb] at hx ⊢
       obtain ⟨k, h1, h2, h3, h4⟩ := D.back x hx
       refine ⟨k, h1, h2, ?_, h4⟩
       show (if k = j then _ else _) = _
       rw [if_neg (fun e => by
         subst e
         have : x = o := by omega
         subst this; omega)]
       exact h3
   · by_cases e : k = j
     · subst e
       exact ⟨i, by show (if k = k then _ else _) = _; rw [if_pos rfl], .inl (by show (if i = i then _ else _) = _; rw [if_pos rfl])⟩
     · have eo : (s'.give j i).own k = s'.own k := by show (if k = j then _ else _) = _; rw [if_neg e]
       rw [eo] at hx ⊢
       obtain ⟨x, h1, h2⟩ := D.own k hk hx
       refine ⟨x, h1, ?_⟩
       rcases h2 with h2 | ⟨h2, h3⟩
       · by_cases e2 : x = i
         · subst e2; exact .inr ⟨rfl, by rw [← hbi]; exact h2⟩
         · left; show (if x = i then _ else _) = _; rw [if_neg e2]; exact h2
       · exfalso
         have : (s.see j).back o = s.back o := rfl
         omega
   · have eb : (s'.give j i).back x = s'.back x := by show (if x = i then _ else _) = _; rw [if_neg hx]
     rw [eb]
     by_cases e : x = o
     · subst e
       exact ⟨⟨fun _ => by omega, fun _ => by omega⟩, .inr ⟨j, hbo, hs⟩⟩
     · obtain ⟨h1, h2⟩ := D.rest x e
       refine ⟨h1, ?_⟩
       rcases h2 with h2 | ⟨k, h2, h3⟩
       · exact .inl h2
       · exact .inr ⟨k, h2, by have : (s.seen k || decide (k = j)) = false := h3; simp at this; exact this.1⟩
 | @fail i j o s s1 s' b hj ha hs ho hr1 hr2 ih1 ih2 =>
   intro hb M hi
   obtain ⟨e1, e2⟩ := hr1.same rfl
   have e1 : s1.own = s.own := e1
   have e2 : s1.back = s.back := e2
   have hm : ∀ k, s.seen k = true → s1.seen k = true := fun k h => hr1.mono k (by show (_ || _) = true; rw [h]; rfl)
   have D := ih2 hb ⟨by rw [e1, e2]; exact M.back, by rw [e1, e2]; exact M.own⟩ (fun k hk => hm k (hi k (by rw [← e2]; exact hk)))
   have hf : ∀ k, s1.seen k = false → s.seen k = false := fun k h => by
     cases h' : s.seen k with
     | false => rfl
     | true => rw [hm k h'] at h; cases h
   refine ⟨D.back, by have := D.own; rwa [e2] at this, ?_, fun x hx => ?_⟩
   · obtain ⟨k, h1, h2⟩ := D.new; exact ⟨k, h1, hf k h2⟩
   · obtain ⟨h1, h2⟩ := D.rest x hx
     rw [e2] at h1 h2
     refine ⟨h1, ?_⟩
     rcases h2 with h2 | ⟨k, h2, h3⟩
     · exact .inl h2
     · exact .inr ⟨k, h2, hf k h3⟩
def Dead (adj : Nat → Nat → Prop) (m : Nat) (own : Nat → Int) (D : Nat → Prop) : Prop := ∀ k, k < m → D k → ∃ o : Nat, own k = (o : Int) ∧ ∀ q, q < m → adj o q → D q
theorem Srch.lost {i j : Nat} {s s' : Ks} {b : Bool} (H : Srch adj m i j s b s') {D : Nat → Prop} : Dead adj m s.own D → (∀ q, q < m → adj i q → D q) → b = false := by
 induction H with
 | done _ => intro _ _; rfl
 | skip _ _ _ ih => exact ih
 | @free i j s hj ha hs ho => intro hD hi; obtain ⟨o, h, _⟩ := hD j hj (hi j hj ha); omega
 | @aug i j o s s' hj ha hs ho hr ih =>
   intro hD hi
   obtain ⟨o', h, h2⟩ := hD j hj (hi j hj ha)
   have : o' = o := by omega
   subst this
   exact ih hD h2
 | @fail i j o s s1 s' b hj ha hs ho hr1 hr2 ih1 ih2 =>
   intro hD hi
   have e1 : s1.own = s.own := (hr1.same rfl).1
   exact ih2 (by rw [e1]; exact hD) hi
theorem Srch.kept {i j : Nat} {s s' : Ks} {b : Bool} (H : Srch adj m i j s b s') {D : Nat → Prop} : Dead adj m s.own D → ∀ k, k < m → D k → s'.own k = s.own k := by
 induction H with
 | done _ => intro _ k _ _; rfl
 | skip _ _ _ ih => exact ih
 | @free i j s hj ha hs ho =>
   intro hD k hk hd
   obtain ⟨o, h, _⟩ := hD k hk hd
   show (if k = j then _ else _) = _
   rw [if_neg (fun e => by subst e; omega)]; rfl
 | @aug i j o s s' hj ha hs ho hr ih =>
   intro hD k hk hd
   show (if k = j then _ else _) = _
   rw [if_neg (fun e => by
     subst e
     obtain ⟨o', h, h2⟩ := hD k hk hd
     have : o' = o := by omega
     subst this
     have := hr.lost hD h2
     cases this)]
   exact ih hD k hk hd
 | @fail i j o s s1 s' b hj ha hs ho hr1 hr2 ih1 ih2 =>
   intro hD k hk hd
   have e1 : s1.own = s.own := (hr1.same rfl).1
   rw [ih2 (by rw [e1]; exact hD) k hk hd, e1]
structure Kuhn (adj : Nat → Nat → Prop) (m : Nat) (n : Nat) (s : Ks) (D : Nat → Prop) : Prop where
 mat : Mat adj m s
 dead : Dead adj m s.own D
 lost : ∀ x : Nat, x < n → s.back x < 0 → ∀ q, q < m → adj x q → D q
 rest : ∀ x : Nat, n ≤ x → s.back x < 0
 lt : ∀ k, D k → k < m
theorem Kuhn.start {s : Ks} (h1 : ∀ k, s.own k < 0) (h2 : ∀ x, s.back x < 0) : Kuhn adj m 0 s (fun _ => False) :=
 ⟨⟨fun x hx => by have := h2 x; omega, fun k _ hx => by have := h1 k; omega⟩, fun k _ h => h.elim, fun x hx => by omega, fun x _ => h2 x, fun k h => h.elim⟩
theorem Kuhn.step {n : Nat} {s s' : Ks} {D : Nat → Prop} {b : Bool} (K : Kuhn adj m n s D) (hs : ∀ k, s.seen k = false) (H : Srch adj m n 0 s b s') : ∃ D', Kuhn adj m (n + 1) s' D' ∧ (b = true ↔ 0 ≤ s'.back n) ∧ ∀ x : Nat, x ≠ n → (0 ≤ s'.back x ↔ 0 ≤ s.back x) := by
 have hn := K.rest n (Nat.le_refl _)
 cases hb : b with
 | false =>
   obtain ⟨e1, e2⟩ := H.same hb
   obtain ⟨a1, a2⟩ := H.shut hb
   refine ⟨fun k => D k ∨ s'.seen k = true, ⟨⟨by rw [e1, e2]; exact K.mat.back, by rw [e1, e2]; exact K.mat.own⟩, fun k hk hd => ?_, fun x hx hbx q hq hadj => ?_, fun x hx => ?_, fun k hd => ?_⟩, ?_, fun x _ => by rw [e2]⟩
   · rw [e1]
     rcases hd with hd | hd
     · obtain ⟨o, h1, h2⟩ := K.dead k hk hd; exact ⟨o, h1, fun q hq ha => .inl (h2 q hq ha)⟩
     · obtain ⟨_, o, h1, h2⟩ := a2 k hd (hs k); exact ⟨o, h1, fun q hq ha => .inr (h2 q hq ha)⟩
   · by_cases e : x = n
     · subst e; exact .inr (a1 q (Nat.zero_le _) hq hadj)
     · rw [e2] at hbx; exact .inl (K.lost x (by omega) hbx q hq hadj)
   · rw [e2]; exact K.rest x (by omega)
   · rcases hd with hd | hd
     · exact K.lt k hd
     · exact (a2 k hd (hs k)).1
   · rw [e2]; constructor
     · intro h; cases h
     · intro h; omega
 | true =>
   have W := H.win hb K.mat (fun k hk => by omega)
   have hk := H.kept K.dead
   obtain ⟨k0, h0, _⟩ := W.new
   refine ⟨D, ⟨⟨W.back, fun k hkm hx => ?_⟩, fun k hkm hd => ?_, fun x hx hbx => ?_, fun x hx => ?_, K.lt⟩, ⟨fun _ => by omega, fun _ => rfl⟩, fun x hx => (W.rest x hx).1⟩
   · obtain ⟨x, h1, h2⟩ := W.own k hkm hx
     rcases h2 with h2 | ⟨rfl, h2⟩
     · exact ⟨x, h1, h2⟩
     · omega
   · rw [hk k hkm hd]; exact K.dead k hkm hd
   · have hxn : x ≠ n := fun e => by subst e; omega
     have := (W.rest x hxn).1
     exact K.lost x (by omega) (by omega)
   · have := (W.rest x (by omega)).1
     have := K.rest x (by omega)
     omega
end Go.Sp
end
/- Matchings: whether all of some can have one each; Hall's condition. No program in sight. -/
section
set_option linter.all false
namespace Go.Sp
set_option maxRecDepth 100000
theorem hallK {adj : Nat → Nat → Prop} {m i : Nat} {s s' : Ks} (M : Mat adj m s) (hs : ∀ k, s.seen k = false) (hi : s.back i < 0) (H : Srch adj m i 0 s false s') {R : Nat → Prop} (Ri : R i) (hR : ∀ x : Nat, 0 ≤ s.back x → R x) {g : Nat → Nat}
   (hg : ∀ x, R x → g x < m ∧ adj x (g x)) (hinj : ∀ x y, R x → R y → g x = g y → x = y) : False := by
 obtain ⟨a1, a2⟩ := H.shut rfl
 let S := (List.range m).filter (fun k => s'.seen k)
 have hS : ∀ k, k ∈ S → k < m ∧ ∃ o : Nat, s.own k = (o : Int) ∧ R o ∧ s.back o = (k : Int) ∧ ∀ q, q < m → adj o q → s'.seen q = true := fun k hk => by
   simp only [S, List.mem_filter, List.mem_range] at hk
   obtain ⟨h0, o, h1, h2⟩ := a2 k hk.2 (hs k)
   obtain ⟨x, h3, h4⟩ := M.own k h0 (by omega)
   have : x = o := by omega
   subst this
   exact ⟨h0, x, h1, hR x (by omega), h4, h2⟩
 have hle := length_le_inj (l := i :: S.map (fun k => (s.own k).toNat)) (r := S) g (List.nodup_cons.2 ⟨fun hm => ?_, nodup_inj (List.Pairwise.filter _ List.nodup_range) (fun x hx y hy e => ?_)⟩) (fun x hx => ?_) (fun x hx y hy e => ?_)
 · rw [List.length_cons, List.length_map] at hle; omega
 · obtain ⟨k, hk, e⟩ := List.mem_map.1 hm
   obtain ⟨_, o, h1, _, h2, _⟩ := hS k hk
   have : o = i := by omega
   subst this; omega
 · obtain ⟨_, o, h1, _, h2, _⟩ := hS x hx
   obtain ⟨_, o', h3, _, h4, _⟩ := hS y hy
   have : o = o' := by omega
   subst this; omega
 · rcases List.mem_cons.1 hx with rfl | hx
   · obtain ⟨h1, h2⟩ := hg x Ri
     simp only [S, List.mem_filter, List.mem_range]; exact ⟨h1, a1 _ (Nat.zero_le _) h1 h2⟩
   · obtain ⟨k, hk, rfl⟩ := List.mem_map.1 hx
     obtain ⟨_, o, h1, h2, _, h3⟩ := hS k hk
     obtain ⟨h4, h5⟩ := hg o h2
     rw [h1, Int.toNat_natCast]
     simp only [S, List.mem_filter, List.mem_range]; exact ⟨h4, h3 _ h4 h5⟩
 · have inR : ∀ x, x ∈ i :: S.map (fun k => (s.own k).toNat) → R x := fun x hx => by
     rcases List.mem_cons.1 hx with rfl | hx
     · exact Ri
     · obtain ⟨k, hk, rfl⟩ := List.mem_map.1 hx
       obtain ⟨_, o, h1, h2, _⟩ := hS k hk
       rw [h1, Int.toNat_natCast]; exact h2
   exact hinj x y (inR x hx) (inR y hy) e
theorem Done.matK {adj : Nat → Nat → Prop} {m i : Nat} {s s' : Ks} (W : Done adj m i s s') (hi : s.back i < 0) : Mat adj m s' := by
 refine ⟨W.back, fun k hkm hx => ?_⟩
 obtain ⟨x, h1, h2⟩ := W.own k hkm hx
 rcases h2 with h2 | ⟨rfl, h2⟩
 · exact ⟨x, h1, h2⟩
 · omega
theorem srchK_inner {adj : Nat → Nat → Prop} {m f : Nat} (ih : ∀ (i : Nat) (s : Ks), mu m s.seen < f → ∃ b s', Srch adj m i 0 s b s') (i : Nat) : ∀ (q j : Nat) (s : Ks), m - j ≤ q → mu m s.seen < f + 1 → ∃ b s', Srch adj m i j s b s'
 | 0, j, s, h, _ => ⟨false, s, .done (by omega)⟩
 | q + 1, j, s, h, hm => by
   by_cases hj : j < m
   · by_cases hc : adj i j → s.seen j = true
     · obtain ⟨b, s', h'⟩ := srchK_inner ih i q (j + 1) s (by omega) hm
       exact ⟨b, s', .skip hj hc h'⟩
     · have ha : adj i j := Classical.byContradiction fun h => hc (fun h' => absurd h' h)
       have hs : s.seen j = false := by
         cases h : s.seen j with
         | false => rfl
         | true => exact absurd (fun _ => h) hc
       by_cases ho : s.own j < 0
       · exact ⟨_, _, .free hj ha hs ho⟩
       · obtain ⟨o, ho⟩ := Int.eq_ofNat_of_zero_le (show 0 ≤ s.own j by omega)
         have hlt : mu m (s.see j).seen < mu m s.seen := mu_lt (j := j) (fun k h => by show (_ || _) = true; rw [h]; rfl) hj hs (by show (_ || _) = true; simp)
         obtain ⟨b, s1, h1⟩ := ih o (s.see j) (by omega)
         cases b with
         | true => exact ⟨_, _, .aug hj ha hs ho h1⟩
         | false =>
           have := mu_mono (n := m) h1.mono
           obtain ⟨b', s', h'⟩ := srchK_inner ih i q (j + 1) s1 (by omega) (by omega)
           exact ⟨b', s', .fail hj ha hs ho h1 h'⟩
   · exact ⟨false, s, .done (by omega)⟩
theorem srchK_ex {adj : Nat → Nat → Prop} {m : Nat} : ∀ (f i : Nat) (s : Ks), mu m s.seen < f → ∃ b s', Srch adj m i 0 s b s'
 | 0, _, _, h => by omega
 | f + 1, i, s, h => srchK_inner (srchK_ex f) i m 0 s (by omega) h
def InjK (adj : Nat → Nat → Prop) (m : Nat) (T : Nat → Prop) : Prop := ∃ g : Nat → Nat, (∀ k, T k → g k < m ∧ adj k (g k)) ∧ ∀ k k', T k → T k' → g k = g k' → k = k'
theorem tightK {adj : Nat → Nat → Prop} {m : Nat} {T : List Nat} (hno : ¬ InjK adj m (· ∈ T)) (hone : ∀ x ∈ T, InjK adj m (fun k => k ∈ T ∧ k ≠ x)) {N : List Nat} (hN : N.Nodup) (hN' : ∀ q ∈ N, q < m ∧ ∃ k ∈ T, adj k q) : N.length < T.length := by
 have hne : ∃ x, x ∈ T := by
   cases T with
   | nil => exact absurd ⟨fun _ => 0, fun k h => (by cases h), fun k k' h => (by cases h)⟩ hno
   | cons a l => exact ⟨a, List.mem_cons_self ..⟩
 obtain ⟨x, hx⟩ := hne
 obtain ⟨g, g1, g2⟩ := hone x hx
 classical
 let T' : Nat → Prop := fun k => k ∈ T ∧ k ≠ x
 let s : Ks := ⟨fun _ => false, fun k => if h : ∃ y, T' y ∧ g y = k then (h.choose : Int) else -1, fun y => if T' y then (g y : Int) else -1⟩
 have sown : ∀ y, T' y → s.own (g y) = (y : Int) := fun y hy => by
   have he : ∃ z, T' z ∧ g z = g y := ⟨y, hy, rfl⟩
   show (if h : ∃ z, T' z ∧ g z = g y then (h.choose : Int) else -1) = _
   rw [dif_pos he, g2 _ _ he.choose_spec.1 hy he.choose_spec.2]
 have M : Mat adj m s := by
   refine ⟨fun y hy => ?_, fun k hk hy => ?_⟩
   · have hy : (0 : Int) ≤ if T' y then (g y : Int) else -1 := hy
     by_cases h : T' y
     · exact ⟨g y, by show (if T' y then _ else _) = _; rw [if_pos h], (g1 y h).1, sown y h, (g1 y h).2⟩
     · rw [if_neg h] at hy; omega
   · have hy' : (0 : Int) ≤ if h : ∃ y, T' y ∧ g y = k then (h.choose : Int) else -1 := hy
     by_cases h : ∃ y, T' y ∧ g y = k
     · obtain ⟨y, h1, rfl⟩ := h
       exact ⟨y, sown y h1, by show (if T' y then _ else _) = _; rw [if_pos h1]⟩
     · rw [dif_neg h] at hy'; omega
 have hbx : s.back x < 0 := by
   show (if T' x then (g x : Int) else -1) < 0
   rw [if_neg (fun h => h.2 rfl)]; omega
 obtain ⟨b, s', H⟩ := srchK_ex (adj := adj) (m := m) (m + 1) x s (by have := mu_le m s.seen; omega)
 cases b with
 | true =>
   exfalso
   have W := H.win rfl M (fun k hk => by omega)
   have M' := W.matK hbx
   have hb : ∀ k, k ∈ T → 0 ≤ s'.back k := fun k hk => by
     by_cases e : k = x
     · subst e; obtain ⟨q, hq, _⟩ := W.new; omega
     · refine (W.rest k e).1.2 ?_
       show (0 : Int) ≤ if T' k then (g k : Int) else -1
       rw [if_pos ⟨hk, e⟩]; omega
   refine hno ⟨fun k => (s'.back k).toNat, fun k hk => ?_, fun k k' hk hk' e => ?_⟩
   · obtain ⟨q, h1, h2, _, h4⟩ := M'.back k (hb k hk)
     dsimp only; rw [h1, Int.toNat_natCast]; exact ⟨h2, h4⟩
   · obtain ⟨q, h1, _, h3, _⟩ := M'.back k (hb k hk)
     obtain ⟨q', h1', _, h3', _⟩ := M'.back k' (hb k' hk')
     dsimp only at e
     rw [h1, h1', Int.toNat_natCast, Int.toNat_natCast] at e
     subst e; omega
 | false =>
   obtain ⟨a1, a2⟩ := H.shut rfl
   let S := (List.range m).filter (fun k => s'.seen k)
   have hS : ∀ k, k ∈ S → ∃ o : Nat, s.own k = (o : Int) ∧ T' o ∧ g o = k ∧ ∀ q, q < m → adj o q → s'.seen q = true := fun k hk => by
     simp only [S, List.mem_filter, List.mem_range] at hk
     obtain ⟨h0, o, h1, h2⟩ := a2 k hk.2 rfl
     obtain ⟨y, h3, h4⟩ := M.own k h0 (by omega)
     have : y = o := by omega
     subst this
     have h4' : (if T' y then (g y : Int) else -1) = (k : Int) := h4
     by_cases h : T' y
     · rw [if_pos h] at h4'; exact ⟨y, h1, h, by omega, h2⟩
     · rw [if_neg h] at h4'; omega
   have hSn : S.Nodup := List.Pairwise.filter _ List.nodup_range
   let R := x :: S.map (fun k => (s.own k).toNat)
   have hRl : R.length = S.length + 1 := by simp only [R, List.length_cons, List.length_map]
   have hRn : R.Nodup := by
     refine List.nodup_cons.2 ⟨fun hm => ?_, nodup_inj hSn (fun y hy z hz e => ?_)⟩
     · obtain ⟨k, hk, e⟩ := List.mem_map.1 hm
       obtain ⟨o, h1, h2, _⟩ := hS k hk
       exact h2.2 (by omega)
     · obtain ⟨o, h1, _, h3, _⟩ := hS y hy
       obtain ⟨o', h1', _, h3', _⟩ := hS z hz
       have : o = o' := by omega
       subst this; omega
   have hRT : ∀ y ∈ R, y ∈ T := fun y hy => by
     rcases List.mem_cons.1 hy with rfl | hy
     · exact hx
     · obtain ⟨k, hk, rfl⟩ := List.mem_map.1 hy
       obtain ⟨o, h1, h2, _⟩ := hS k hk
       rw [h1, Int.toNat_natCast]; exact h2.1
   have hRs : ∀ y ∈ R, ∀ q, q < m → adj y q → q ∈ S := fun y hy q hq ha => by
     simp only [S, List.mem_filter, List.mem_range]
     refine ⟨hq, ?_⟩
     rcases List.mem_cons.1 hy with rfl | hy
     · exact a1 q (Nat.zero_le _) hq ha
     · obtain ⟨k, hk, rfl⟩ := List.mem_map.1 hy
       obtain ⟨o, h1, _, _, h4⟩ := hS k hk
       rw [h1, Int.toNat_natCast] at ha
       exact h4 q hq ha
   have hTR : ∀ y ∈ T, y ∈ R := fun y hy => by
     refine Classical.byContradiction fun hyR => ?_
     obtain ⟨h, h1, h2⟩ := hone y hy
     have inT : ∀ z ∈ R, z ∈ T ∧ z ≠ y := fun z hz => ⟨hRT z hz, fun e => hyR (e ▸ hz)⟩
     have := length_le_inj (r := S) h hRn (fun z hz => hRs z hz _ (h1 z (inT z hz)).1 (h1 z (inT z hz)).2) (fun z hz z' hz' e => h2 z z' (inT z hz) (inT z' hz') e)
     omega
   have h1 := nodup_le hN (r := S) (fun q hq => by
     obtain ⟨h, k, hk, ha⟩ := hN' q hq
     exact hRs k (hTR k hk) q h ha)
   have h2 := nodup_le hRn (r := T) hRT
   omega
theorem hall_few {adj : Nat → Nat → Prop} {m : Nat} : ∀ (n : Nat) (T : List Nat), T.length ≤ n → T.Nodup → ¬ InjK adj m (· ∈ T) → ∃ T' : List Nat, (∀ x ∈ T', x ∈ T) ∧ T'.Nodup ∧ ∀ N : List Nat, N.Nodup → (∀ q ∈ N, q < m ∧ ∃ k ∈ T', adj k q) → N.length < T'.length
 | 0, T, hl, _, h => by
   have : T = [] := List.length_eq_zero_iff.1 (by omega)
   subst this
   exact absurd ⟨fun _ => 0, fun k h => (by cases h), fun k k' h => (by cases h)⟩ h
 | n + 1, T, hl, hd, h => by
     classical
     by_cases hone : ∀ x ∈ T, InjK adj m (fun k => k ∈ T ∧ k ≠ x)
     · exact ⟨T, fun x hx => hx, hd, fun N hN hN' => tightK h hone hN hN'⟩
     · obtain ⟨x, hx, hxn⟩ : ∃ x, x ∈ T ∧ ¬ InjK adj m (fun k => k ∈ T ∧ k ≠ x) := by
         apply Classical.byContradiction
         intro hc
         exact hone fun x hx => Classical.byContradiction fun hh => hc ⟨x, hx, hh⟩
       have hmem : ∀ k, k ∈ T.filter (fun k => decide (k ≠ x)) ↔ k ∈ T ∧ k ≠ x := fun k => by rw [List.mem_filter]; simp
       have hlt : (T.filter (fun k => decide (k ≠ x))).length < T.length := by
         refine List.length_filter_lt_length_iff_exists.2 ⟨x, hx, by simp⟩
       obtain ⟨T', h1, h2, h3⟩ := hall_few n (T.filter (fun k => decide (k ≠ x))) (by omega) (List.Pairwise.filter _ hd) (fun ⟨g, g1, g2⟩ => hxn ⟨g, fun k hk => g1 k ((hmem k).2 hk), fun k k' hk hk' => g2 k k' ((hmem k).2 hk) ((hmem k').2 hk')⟩)
       exact ⟨T', fun y hy => ((hmem y).1 (h1 y hy)).1, h2, h3⟩
end Go.Sp
end
/- Plain laws, fog: valid reports, what a view is, contradictions, the sight. No program in sight. -/
section
set_option linter.all false
namespace Go.Sp
open Go.Av
set_option maxRecDepth 100000
structure RepOk (x : Report) : Prop where
 src : 1 ≤ x.Source ∧ x.Source ≤ 99999
 dist : 1 ≤ x.District ∧ x.District ≤ 9
 night : 0 ≤ x.Night ∧ x.Night ≤ 100000
 time : 0 ≤ x.From ∧ x.From ≤ x.To ∧ x.To ≤ 1439
 sight : 0 ≤ x.Sight.Lo ∧ x.Sight.Lo ≤ x.Sight.Hi ∧ x.Sight.Hi ≤ 5000
 known : 0 ≤ x.Known ∧ x.Known ≤ 144001439
 till : x.Until = 0 ∨ (x.Known < x.Until ∧ 0 ≤ x.Until ∧ x.Until ≤ 144001439)
theorem fwithin_iff {a b c : Int} : fog_within a b c = true ↔ b ≤ a ∧ a ≤ c := by simp [fog_within]
def rp (l : List Report) (i : Nat) : Report := l.getD i default
structure RepsOk (l : List Report) : Prop where
 len : l.length ≤ 60
 all : ∀ i, i < l.length → RepOk (rp l i) ∧ (0 < i → (rp l (i - 1)).Source < (rp l i).Source)
theorem indexFunc_eq {T : Type} [Inhabited T] {p : T → Option Bool} {q : T → Bool} (hp : ∀ x, p x = some (q x)) (l : List T) :
   (rangeGo (fun i1 (s1 : Unit) k1 => bindO (p (l.getD i1 default)) fun y3 => (bif y3 then some (i1 : Int) else k1 ())) (fun (s1 : Unit) => some (-1)) l.length 0 () : Option Int) = some (match l.findIdx? q with | some i => (i : Int) | none => -1) := by
 refine (wp_forall (P := fun r => r = (match l.findIdx? q with | some i => (i : Int) | none => -1)) (fun i => q (l.getD i default) = false) (fun i K hi hb hK => ?_) (fun h1 => ?_)).eq
 · rw [hp]
   refine wp_bif (fun h => wp_some ?_) (fun h => hK h)
   have : l.findIdx? q = some i := by
     rw [List.findIdx?_eq_some_iff_getElem]
     refine ⟨hi, ?_, fun j hj => ?_⟩
     · rw [List.getD_eq_getElem?_getD, List.getElem?_eq_getElem hi] at h; exact h
     · have := hb j hj
       rw [List.getD_eq_getElem?_getD, List.getElem?_eq_getElem (by omega)] at this
       simpa using this
   rw [this]
 · refine wp_some ?_
   have : l.findIdx? q = none := by
     rw [List.findIdx?_eq_none_iff]
     intro x hx
     obtain ⟨i, hi, rfl⟩ := mem_getD hx
     exact h1 i hi
   rw [this]
theorem take_set_le {T : Type} {l : List T} {i : Nat} {x : T} (h : i < l.length) : (l.set i x).take (i + 1) = l.take i ++ [x] := by
 rw [List.take_add_one, List.getElem?_set_self h, List.take_set_of_le (Nat.le_refl _)]; rfl
theorem drop_getD {T : Type} [Inhabited T] {l : List T} {i : Nat} (h : i < l.length) : l.drop i = l.getD i default :: l.drop (i + 1) := by
 rw [List.getD_eq_getElem?_getD, List.getElem?_eq_getElem h]; exact List.drop_eq_getElem_cons h
theorem take_getD {T : Type} [Inhabited T] {l : List T} {i : Nat} (h : i < l.length) : l.take (i + 1) = l.take i ++ [l.getD i default] := by
 rw [List.take_add_one, List.getD_eq_getElem?_getD, List.getElem?_eq_getElem h]; rfl
def seen (d n m : Int) (x : Report) : Bool := (decide (x.District = d) && decide (x.Night = n)) && fog_counts x m
end Go.Sp
end
/- Plain laws, fog: what is told of a clear district. No program in sight. -/
section
set_option linter.all false
namespace Go.Sp
open Go.Av
set_option maxRecDepth 100000
def argOk (q : fog_query) : Prop := 1 ≤ q.district ∧ q.district ≤ 9 ∧ 0 ≤ q.minute ∧ q.minute ≤ 1439 ∧ 0 ≤ q.time.Lo ∧ q.time.Lo ≤ q.time.Hi ∧ q.time.Hi ≤ 1439 ∧ 1 ≤ q.limit ∧ q.limit ≤ 5000
def dayOk (n m : Int) : Prop := 0 ≤ n ∧ n ≤ 100000 ∧ 0 ≤ m ∧ m ≤ 144001439
instance (q : fog_query) : Decidable (argOk q) := inferInstanceAs (Decidable (_ ∧ _))
instance (n m : Int) : Decidable (dayOk n m) := inferInstanceAs (Decidable (_ ∧ _))
end Go.Sp
end
/- Plain laws, fog: the document's tests, views, contradictions and sights. No program in sight. -/
section
set_option linter.all false
namespace Go.Sp
open Go.Av
set_option maxRecDepth 100000
end Go.Sp
end
/- Plain laws, fog: FogSights, FogClashes. No program in sight. -/
section
set_option linter.all false
namespace Go.Sp
open Go.Av
set_option maxRecDepth 100000
theorem sane_ok : gasolierlaw05_sane 20000 = some true := by kernel_rfl
theorem index_eq (l : List Int) (n : Int) : slices_Index_int l n = some (match l.findIdx? (fun x => decide (n = x)) with | some i => (i : Int) | none => -1) := by
 unfold slices_Index_int
 exact indexFunc_eq (p := fun x => some (decide (n = x))) (fun _ => rfl) l
theorem contains_eq (l : List Int) (n : Int) : slices_Contains_int l n = some (decide (n ∈ l)) := by
 unfold slices_Contains_int
 rw [index_eq]
 cases h : l.findIdx? (fun x => decide (n = x)) with
 | none =>
   rw [List.findIdx?_eq_none_iff] at h
   refine congrArg some ?_
   rw [decide_eq_false (by decide), decide_eq_false (fun hm => ?_)]
   have := h n hm; simp at this
 | some i =>
   rw [List.findIdx?_eq_some_iff_getElem] at h
   obtain ⟨h1, h2, _⟩ := h
   refine congrArg some ?_
   simp only
   rw [decide_eq_true (by omega), decide_eq_true]
   simp only [decide_eq_true_eq] at h2
   rw [h2]; exact List.getElem_mem h1
end Go.Sp
end
/- Plain laws, fog: reports that are made, FogTrue, FogShown. No program in sight. -/
section
set_option linter.all false
namespace Go.Sp
open Go.Av
set_option maxRecDepth 100000
theorem mod5_eq (n : Int) {m : Int} (h0 : 0 < m) (h1 : m ≤ 1000000000000000000) : ∃ y, gasolierref05_Mod n m = some y ∧ 0 ≤ y ∧ y < m := by
 unfold gasolierref05_Mod
 have a1 := Int.tmod_lt_of_pos n h0
 have a2 : -m < Int.tmod n m := Int.lt_tmod_of_pos n h0
 rw [must_yes (by omega), must_yes (by unfold inI; omega), must_yes (by omega)]
 refine ⟨_, rfl, ?_, Int.tmod_lt_of_pos _ h0⟩
 exact Int.tmod_nonneg _ (by omega)
structure Fine (i : Nat) (r : Report) : Prop where
 src : r.Source = 4 * (i : Int) + 3
 dist : 1 ≤ r.District ∧ r.District ≤ 3
 night : r.Night = 3 ∨ r.Night = 4
 from_ : 0 ≤ r.From ∧ r.From ≤ 1299
 to_ : r.From ≤ r.To ∧ r.To ≤ 1437
 sight : 0 ≤ r.Sight.Lo ∧ r.Sight.Lo ≤ r.Sight.Hi ∧ r.Sight.Hi ≤ 5000
 known : 4320 ≤ r.Known ∧ r.Known ≤ 5759
 till : r.Until = 0 ∨ r.Known < r.Until ∧ r.Until ≤ 7000
end Go.Sp
end
/- Plain laws, fog: FogShown. No program in sight. -/
section
set_option linter.all false
namespace Go.Sp
open Go.Av
set_option maxRecDepth 100000
end Go.Sp
end
/- Plain laws, fog: policies, the program's and the document's check. No program in sight. -/
section
set_option linter.all false
namespace Go.Sp
open Go.Av
set_option maxRecDepth 100000
def sd (l : List Send) (i : Nat) : Send := l.getD i default
def nd (p : List Node) (i : Nat) : Node := p.getD i default
def fol3 (n : Node) : List Int := [n.Yes, n.No, n.Maybe]
def SendsOk (l : List Send) : Prop := l.length ≤ 9 ∧ ∀ i, i < l.length → (1 ≤ (sd l i).District ∧ (sd l i).District ≤ 9) ∧ (1 ≤ (sd l i).Many ∧ (sd l i).Many ≤ 20) ∧ (0 < i → (sd l (i - 1)).District < (sd l i).District)
def NextOk (p : List Node) (i : Nat) (n : Node) (k : Int) : Prop := ((i : Int) + 1 ≤ k ∧ k ≤ (p.length : Int) - 1) ∧ ((nd p k.toNat).Test = true → n.Minute ≤ (nd p k.toNat).Minute)
instance (p : List Node) (i : Nat) (n : Node) (k : Int) : Decidable (NextOk p i n k) := inferInstanceAs (Decidable (_ ∧ _))
def LeafOk (n : Node) : Prop := (n.District = 0 ∧ n.Minute = 0 ∧ n.Limit = 0 ∧ n.Yes = 0 ∧ n.No = 0 ∧ n.Maybe = 0) ∧ SendsOk n.Sends
def TestHead (n : Node) : Prop := (1 ≤ n.District ∧ n.District ≤ 9) ∧ (0 ≤ n.Minute ∧ n.Minute ≤ 1439) ∧ (1 ≤ n.Limit ∧ n.Limit ≤ 5000) ∧ n.Sends.length = 0
def NodeOk (p : List Node) (i : Nat) : Prop := ((nd p i).Test = false → LeafOk (nd p i)) ∧ ((nd p i).Test = true → TestHead (nd p i) ∧ ∀ k ∈ fol3 (nd p i), NextOk p i (nd p i) k)
def nm (n : Node) : List Int := if n.Test then fol3 n else []
def names (p : List Node) : List Int := p.flatMap nm
structure PolOk (p : List Node) : Prop where
 len : 1 ≤ p.length ∧ p.length ≤ 31
 node : ∀ i, i < p.length → NodeOk p i
 nodup : (names p).Nodup
 count : (names p).length + 1 = p.length
theorem names_take {p : List Node} {i : Nat} (h : i < p.length) : names (p.take (i + 1)) = names (p.take i) ++ nm (nd p i) := by
 unfold names
 rw [take_getD h, List.flatMap_append]; simp [nd]
theorem sends_few {l : List Send} : ∀ {i : Nat}, (∀ j, j < i → (1 ≤ (sd l j).District ∧ (sd l j).District ≤ 9) ∧ (1 ≤ (sd l j).Many ∧ (sd l j).Many ≤ 20) ∧ (0 < j → (sd l (j - 1)).District < (sd l j).District)) → i ≤ 9 := by
 intro i h
 have key : ∀ j, j < i → (j : Int) + 1 ≤ (sd l j).District := by
   intro j
   induction j with
   | zero => intro hj; have := (h 0 hj).1; omega
   | succ j ih =>
     intro hj
     have h1 := ih (by omega)
     have h2 := (h (j + 1) hj).2.2 (by omega)
     have e : j + 1 - 1 = j := by omega
     rw [e] at h2
     omega
 by_cases h0 : i = 0
 · omega
 · have := key (i - 1) (by omega)
   have := (h (i - 1) (by omega)).1
   omega
theorem fareSends_eq (l : List Send) : Wp (fog_areSends l) (fun b => b = true ↔ SendsOk l) := by
 unfold fog_areSends
 refine wp_forall (fun i => (1 ≤ (sd l i).District ∧ (sd l i).District ≤ 9) ∧ (1 ≤ (sd l i).Many ∧ (sd l i).Many ≤ 20) ∧ (0 < i → (sd l (i - 1)).District < (sd l i).District)) (fun i K hi hI hK => ?_) (fun h => wp_some ?_)
 · have hi9 := sends_few hI
   refine wp_must (fun _ => by unfold inI; omega) (wp_must (fun h => by simp at h; omega) ?_)
   have e : (((i : Int) - 1)).toNat = i - 1 := by omega
   rw [e]
   refine wp_bif (fun hb => wp_some ?_) (fun hb => hK ?_)
   · constructor
     · intro h; cases h
     · rintro ⟨_, h⟩
       obtain ⟨h1, h2, h3⟩ := h i hi
       unfold sd at h1 h2 h3
       unfold fog_isDistrict at hb
       simp only [Bool.or_eq_true, Bool.and_eq_true, decide_eq_true_eq, Bool.not_eq_true', ← Bool.not_eq_true, fwithin_iff] at hb
       rcases hb with (hb | hb) | hb
       · exact absurd h1 hb
       · exact absurd h2 hb
       · have := h3 (by omega); omega
   · unfold fog_isDistrict at hb
     simp only [Bool.or_eq_false_iff, Bool.and_eq_false_iff, Bool.not_eq_false', decide_eq_false_iff_not, fwithin_iff] at hb
     unfold sd
     exact ⟨hb.1.1, hb.1.2, fun h0 => by rcases hb.2 with h | h <;> omega⟩
 · rw [decide_eq_true_eq]
   constructor
   · intro h9; exact ⟨by omega, h⟩
   · intro h9; have := h9.1; omega
theorem next_get (n : Node) (k : Int) : (fog_next n).get k = if k = 2 then some n.Maybe else if k = 0 then some n.No else if k = 1 then some n.Yes else none := rfl
theorem next_keys (n : Node) : (fog_next n).keys = [1, 0, 2] := rfl
theorem next_ok (n : Node) : (fog_next n).ok := by
 refine ⟨by rw [next_keys]; decide, rfl, fun k hk => ?_⟩
 rw [next_keys] at hk
 rw [next_get]
 rcases List.mem_cons.1 hk with rfl | hk
 · rfl
 · rcases List.mem_cons.1 hk with rfl | hk
   · rfl
   · rcases List.mem_cons.1 hk with rfl | hk
     · rfl
     · cases hk
theorem mapAny_of {chk : Int → Option Bool} {q : Int → Bool} : ∀ {l : List Int}, (∀ k ∈ l, chk k = some (q k)) → mapAny chk l = some (l.any q)
 | [], _ => rfl
 | k :: l, h => by
   unfold mapAny
   rw [h k List.mem_cons_self, mapAny_of (l := l) (fun j hj => h j (List.mem_cons_of_mem _ hj))]
   rfl
theorem mem_fol3 {n : Node} {P : Int → Prop} : (∀ k ∈ fol3 n, P k) ↔ P n.Yes ∧ P n.No ∧ P n.Maybe := by simp [fol3]
theorem nextOk_dec {p : List Node} {i : Nat} {n : Node} {k : Int} : (bif ((!(fog_within k ((i : Int) + 1) (((p.length : Nat) : Int) - 1))) || (((p.getD k.toNat default).Test) && (decide ((p.getD k.toNat default).Minute < n.Minute)))) then some true else some false) = some (!decide (NextOk p i n k)) := by
 by_cases h1 : (i : Int) + 1 ≤ k ∧ k ≤ ((p.length : Nat) : Int) - 1
 · rw [fwithin_iff.2 h1]
   cases ht : (p.getD k.toNat default).Test with
   | false => rw [decide_eq_true (p := NextOk p i n k) ⟨h1, fun h => by unfold nd at h; rw [ht] at h; cases h⟩]; rfl
   | true =>
     by_cases h2 : (p.getD k.toNat default).Minute < n.Minute
     · rw [decide_eq_true h2, decide_eq_false (fun h : NextOk p i n k => by have := h.2 ht; unfold nd at this; omega)]; rfl
     · rw [decide_eq_false h2, decide_eq_true (p := NextOk p i n k) ⟨h1, fun h => by unfold nd; omega⟩]; rfl
 · rw [Bool.eq_false_iff.2 (fun h => h1 (fwithin_iff.1 h)), decide_eq_false (fun h : NextOk p i n k => h1 h.1)]; rfl
theorem fisNode_wp (p : List Node) (i : Nat) (hi : i < p.length) (hl : p.length ≤ 31) : Wp (fog_isNode p (i : Int)) (fun b => b = true ↔ NodeOk p i) := by
 unfold fog_isNode
 refine wp_must (by omega) ?_
 simp only [Int.toNat_natCast]
 have en : p.getD i default = nd p i := rfl
 simp only [en]
 generalize hn : nd p i = n
 have hN : NodeOk p i ↔ (n.Test = false → LeafOk n) ∧ (n.Test = true → TestHead n ∧ ∀ k ∈ fol3 n, NextOk p i n k) := by unfold NodeOk; rw [hn]
 rw [hN]
 refine wp_bif (fun ht => ?_) (fun ht => ?_)
 · have ht : n.Test = false := by simpa using ht
   have hz : (((((decide (n.District = 0) && decide (n.Minute = 0)) && decide (n.Limit = 0)) && decide (n.Yes = 0)) && decide (n.No = 0)) && decide (n.Maybe = 0)) = true ↔ (n.District = 0 ∧ n.Minute = 0 ∧ n.Limit = 0 ∧ n.Yes = 0 ∧ n.No = 0 ∧ n.Maybe = 0) := by
     simp only [Bool.and_eq_true, decide_eq_true_eq, and_assoc]
   generalize (((((decide (n.District = 0) && decide (n.Minute = 0)) && decide (n.Limit = 0)) && decide (n.Yes = 0)) && decide (n.No = 0)) && decide (n.Maybe = 0)) = c at hz
   have hG : ∀ {q : Prop}, (q ↔ LeafOk n) → (q ↔ (n.Test = false → LeafOk n) ∧ (n.Test = true → TestHead n ∧ ∀ k ∈ fol3 n, NextOk p i n k)) := fun {q} h => by rw [h, ht]; simp
   cases c with
   | true =>
     refine wp_bind (fareSends_eq n.Sends) (fun b hb => wp_some (hG ?_))
     rw [Bool.true_and, hb]
     exact ⟨fun h => ⟨hz.1 rfl, h⟩, fun h => h.2⟩
   | false =>
     refine wp_offE rfl rfl (wp_some (hG ?_))
     rw [Bool.false_and]
     exact ⟨fun h => (nomatch h), fun h => (nomatch (hz.2 h.1))⟩
 · have ht : n.Test = true := by simpa using ht
   have hG : ∀ {q : Prop}, (q ↔ TestHead n ∧ ∀ k ∈ fol3 n, NextOk p i n k) → (q ↔ (n.Test = false → LeafOk n) ∧ (n.Test = true → TestHead n ∧ ∀ k ∈ fol3 n, NextOk p i n k)) := fun {q} h => by rw [h, ht]; simp
   refine wp_bif (fun hb => wp_some (hG ?_)) (fun hb => ?_)
   · refine ⟨fun h => (nomatch h), fun h => ?_⟩
     obtain ⟨h1, h2, h3, h4⟩ := h.1
     unfold fog_isDistrict fog_isMinute at hb
     simp only [Bool.or_eq_true, decide_eq_true_eq, Bool.not_eq_true', ← Bool.not_eq_true, fwithin_iff] at hb
     rcases hb with ((hb | hb) | hb) | hb
     · exact absurd h1 hb
     · exact absurd h2 hb
     · exact absurd h3 hb
     · omega
   · unfold fog_isDistrict fog_isMinute at hb
     simp only [Bool.or_eq_false_iff, Bool.not_eq_false', decide_eq_false_iff_not, fwithin_iff] at hb
     have hH : TestHead n := ⟨hb.1.1.1, hb.1.1.2, hb.1.2, by omega⟩
     refine wp_must (next_ok n) ?_
     rw [next_keys, mapAny_of (q := fun q => !decide (NextOk p i n (((fog_next n).get q).getD default))) (fun q hq => ?_)]
     · have hany : ∀ b, [1, 0, 2].any (fun q => !decide (NextOk p i n (((fog_next n).get q).getD default))) = b → (b = false ↔ ∀ k ∈ fol3 n, NextOk p i n k) := by
         intro b e
         have e1 : ((fog_next n).get 1).getD default = n.Yes := rfl
         have e2 : ((fog_next n).get 0).getD default = n.No := rfl
         have e3 : ((fog_next n).get 2).getD default = n.Maybe := rfl
         rw [mem_fol3, ← e]
         simp only [List.any_cons, List.any_nil, e1, e2, e3, Bool.or_false, Bool.or_eq_false_iff, Bool.not_eq_false', decide_eq_true_eq]
       refine wp_bif (fun hb => wp_some (hG ?_)) (fun hb => wp_some (hG ?_))
       · exact ⟨fun h => (nomatch h), fun h => (nomatch ((hany _ hb).2 h.2))⟩
       · exact ⟨fun _ => ⟨hH, (hany _ hb).1 rfl⟩, fun _ => rfl⟩
     · have e0 := nextOk_dec (p := p) (i := i) (n := n) (k := ((fog_next n).get q).getD default)
       refine (must_yes (by unfold inI; omega) _).trans ((must_yes (by unfold inI; omega) _).trans ((must_yes (fun h => ?_) _).trans ((must_yes (fun h => ?_) _).trans e0)))
       · simp only [Bool.not_not, fwithin_iff] at h; omega
       · simp only [Bool.not_not, Bool.and_eq_true, fwithin_iff] at h; omega
theorem fcheckPolicy_wp (p : List Node) : Wp (fog_CheckPolicy p) (fun r => (PolOk p ∧ r = 0) ∨ (¬ PolOk p ∧ r = 53)) := by
 unfold fog_CheckPolicy
 by_cases hlen : 1 ≤ p.length ∧ p.length ≤ 31
 · have hw : fog_within ((p.length : Nat) : Int) 1 31 = true := fwithin_iff.2 (by omega)
   rw [hw]
   refine wp_false rfl ?_
   refine wp_range (fun i (s : Mp Bool) => (∀ j, j < i → NodeOk p j) ∧ (names (p.take i)).Nodup ∧ s.card = (names (p.take i)).length ∧ ∀ k, s.get k = if k ∈ names (p.take i) then some true else none) ⟨fun j hj => by omega, by simp [names], rfl, fun k => by simp [names, Mp.empty]⟩ (fun i s K hi hI hK => ?_) (fun s hI => ?_)
   · obtain ⟨I1, I2, I3, I4⟩ := hI
     have et := names_take (p := p) hi
     have sub : ∀ {P : Prop}, ((names (p.take (i + 1))).Nodup → P) → ((names p).Nodup → P) := fun h hn => h (by
       have e : names p = names (p.take (i + 1)) ++ names (p.drop (i + 1)) := by unfold names; rw [← List.flatMap_append, List.take_append_drop]
       rw [e] at hn
       exact (List.nodup_append.1 hn).1)
     refine wp_joinU (wp_bind (fisNode_wp p i hi hlen.2) (fun b hb => wp_bif (fun h => wp_some (.inr ⟨fun V => ?_, rfl⟩)) (fun h => ?_)))
     · have := hb.2 (V.node i hi); rw [this] at h; cases h
     · have hN : NodeOk p i := hb.1 (by simpa using h)
       have I1' : ∀ j, j < i + 1 → NodeOk p j := fun j hj => by
         by_cases e : j = i
         · rw [e]; exact hN
         · exact I1 j (by omega)
       have en : p.getD i default = nd p i := rfl
       simp only [en]
       refine wp_bif (fun ht => hK _ ⟨I1', ?_⟩) (fun ht => ?_)
       · have e2 : nm (nd p i) = [] := by unfold nm; rw [if_neg (by simpa using ht)]
         rw [et, e2, List.append_nil]
         exact ⟨I2, I3, I4⟩
       · have e2 : nm (nd p i) = fol3 (nd p i) := by unfold nm; rw [if_pos (by simpa using ht)]
         show Wp (rangeGo _ _ (fol3 (nd p i)).length 0 s) _
         refine wp_range (fun m (s : Mp Bool) => (names (p.take i) ++ (fol3 (nd p i)).take m).Nodup ∧ s.card = (names (p.take i) ++ (fol3 (nd p i)).take m).length ∧ ∀ k, s.get k = if k ∈ names (p.take i) ++ (fol3 (nd p i)).take m then some true else none) (by rw [List.take_zero, List.append_nil]; exact ⟨I2, I3, I4⟩) (fun m s K2 hm hJ hK2 => ?_) (fun s hJ => hK _ ⟨I1', ?_⟩)
         · obtain ⟨J1, J2, J3⟩ := hJ
           have eL : ([(nd p i).Yes, (nd p i).No, (nd p i).Maybe] : List Int) = fol3 (nd p i) := rfl
           simp only [eL]
           generalize hx : (fol3 (nd p i)).getD m default = x
           have e3 : (fol3 (nd p i)).take (m + 1) = (fol3 (nd p i)).take m ++ [x] := by rw [take_getD hm, hx]
           by_cases hmem : x ∈ names (p.take i) ++ (fol3 (nd p i)).take m
           · refine wp_true (by rw [J3, if_pos hmem]; rfl) (wp_some (.inr ⟨fun V => ?_, rfl⟩))
             refine sub (P := False) (fun hn => ?_) V.nodup
             rw [et, e2, ← List.take_append_drop (m + 1) (fol3 (nd p i)), e3, ← List.append_assoc, ← List.append_assoc, List.nodup_append] at hn
             have hn1 := List.nodup_append.1 hn.1
             exact hn1.2.2 x hmem x (List.mem_singleton.2 rfl) rfl
           · refine wp_false (by rw [J3, if_neg hmem]; rfl) (hK2 _ ?_)
             rw [e3, ← List.append_assoc]
             refine ⟨?_, ?_, fun k => ?_⟩
             · rw [List.nodup_append]
               refine ⟨J1, by simp, fun a ha b hb => ?_⟩
               rw [List.mem_singleton] at hb
               intro e; rw [e, hb] at ha; exact hmem ha
             · unfold Mp.set
               simp only
               rw [J3, if_neg hmem, List.length_append, J2]; rfl
             · unfold Mp.set
               simp only
               by_cases hk : k = x
               · rw [if_pos hk, if_pos (by rw [hk]; simp)]
               · rw [if_neg hk, J3]
                 by_cases h4 : k ∈ names (p.take i) ++ (fol3 (nd p i)).take m
                 · rw [if_pos h4, if_pos (List.mem_append_left _ h4)]
                 · rw [if_neg h4, if_neg (fun h5 => by
                     rcases List.mem_append.1 h5 with h5 | h5
                     · exact h4 h5
                     · exact hk (List.mem_singleton.1 h5))]
         · rw [List.take_length] at hJ
           rw [et, e2]
           exact hJ
   · obtain ⟨I1, I2, I3, I4⟩ := hI
     rw [List.take_length] at I2 I3
     refine wp_mustI (by omega) (wp_ifn (fun h => wp_some (.inr ⟨fun V => ?_, rfl⟩)) (fun h => wp_some (.inl ⟨⟨hlen, I1, I2, by omega⟩, rfl⟩)))
     have := V.count; omega
 · have hw : fog_within ((p.length : Nat) : Int) 1 31 = false := Bool.eq_false_iff.2 (fun h => by have := fwithin_iff.1 h; omega)
   rw [hw]
   exact wp_true rfl (wp_some (.inr ⟨fun V => hlen V.len, rfl⟩))
theorem fpol_ok {p : List Node} (h : PolOk p) : fog_CheckPolicy p = some 0 := by
 obtain ⟨r, e, k⟩ := fcheckPolicy_wp p
 rcases k with ⟨_, k⟩ | ⟨k, _⟩
 · rw [e, k]
 · exact absurd h k
theorem fpol_bad {p : List Node} (h : ¬ PolOk p) : fog_CheckPolicy p = some 53 := by
 obtain ⟨r, e, k⟩ := fcheckPolicy_wp p
 rcases k with ⟨k, _⟩ | ⟨_, k⟩
 · exact absurd k h
 · rw [e, k]
end Go.Sp
end
/- Plain laws, fog: where a policy comes to, and where it still may. No program in sight. -/
section
set_option linter.all false
namespace Go.Sp
open Go.Av
set_option maxRecDepth 100000
def nextL (n : Node) (a : Int) : Int := if a = 1 then n.Yes else if a = 0 then n.No else n.Maybe
theorem next_mem (n : Node) (a : Int) : nextL n a ∈ fol3 n := by
 unfold nextL fol3
 split
 · simp
 · split <;> simp
def leafL (p : List Node) (n : Nat) : List Int := ((List.range n).filter (fun j => !(nd p j).Test)).map (fun j : Nat => (j : Int))
theorem leafL_succ (p : List Node) (n : Nat) : leafL p (n + 1) = leafL p n ++ (if (nd p n).Test then [] else [(n : Int)]) := by
 unfold leafL
 rw [List.range_succ, List.filter_append, List.map_append]
 congr 1
 cases h : (nd p n).Test <;> simp [h]
theorem leafL_len (p : List Node) (n : Nat) : (leafL p n).length ≤ n := by
 unfold leafL
 rw [List.length_map]
 exact Nat.le_trans (List.length_filter_le _ _) (by simp)
open Classical in
noncomputable def leavesR (p : List Node) : List Int × Int := if ¬ PolOk p then ([], 53) else (leafL p p.length, 0)
theorem fLeaves_eq (p : List Node) : fog_Leaves p = some (leavesR p) := by
 unfold fog_Leaves leavesR
 refine Wp.eq ?_
 by_cases h1 : PolOk p
 · rw [if_neg (fun h => h h1)]
   refine wp_bindE (fpol_ok h1) (wp_false rfl ?_)
   have hlen := h1.len
   refine wp_range (fun i s => s = leafL p i) rfl (fun i s K hi hI hK => ?_) (fun s hI => wp_some (by rw [hI]))
   have e := leafL_succ p i
   have hll := leafL_len p i
   have en : p.getD i default = nd p i := rfl
   rw [en]
   refine wp_bif (fun ht => wp_mustR (by rw [hI]; simp; omega) (hK _ ?_)) (fun ht => hK _ ?_)
   · rw [e, hI, if_neg (by simpa using ht)]
   · rw [e, hI, if_pos (by simpa using ht), List.append_nil]
 · rw [if_pos h1]
   exact wp_bindE (fpol_bad h1) (wp_true rfl (wp_some rfl))
inductive Reach (S : Int → List Int) : Int → Int → Prop
 | refl (a : Int) : Reach S a a
 | step {a b c : Int} : Reach S a b → c ∈ S b → Reach S a c
theorem Reach.trans {S : Int → List Int} {a b c : Int} (h1 : Reach S a b) (h2 : Reach S b c) : Reach S a c := by
 induction h2 with
 | refl => exact h1
 | step _ h ih => exact ih.step h
theorem Reach.mono {S T : Int → List Int} (h : ∀ i k, k ∈ S i → k ∈ T i) {a b : Int} (hr : Reach S a b) : Reach T a b := by
 induction hr with
 | refl => exact .refl _
 | step _ hc ih => exact ih.step (h _ _ hc)
end Go.Sp
end
/- Plain laws, fog: the possible leaves by program and document; FogPolicies. No program in sight. -/
section
set_option linter.all false
namespace Go.Sp
open Go.Av
set_option maxRecDepth 100000
theorem fsum_wp (l : List Int) (h : ∀ i, i ≤ l.length → -1000000 ≤ (l.take i).sum ∧ (l.take i).sum ≤ 1000000) : fog_sum l = some l.sum := by
 unfold fog_sum
 refine Wp.eq (wp_range (fun i s => s = (l.take i).sum) (by simp) (fun i s K hi hI hK => ?_) (fun s hI => wp_some (by rw [hI, List.take_length])))
 have e : (l.take (i + 1)).sum = (l.take i).sum + l.getD i default := by rw [take_getD hi, List.sum_append]; simp
 have h2 := h (i + 1) hi
 rw [e] at h2
 rw [hI]
 exact wp_mustI (by omega) (hK _ e.symm)
end Go.Sp
end
/- Plain laws, fog: made policies are valid. No program in sight. -/
section
set_option linter.all false
namespace Go.Sp
open Go.Av
set_option maxRecDepth 100000
theorem leaf_wp (a : Arr4 Int) : Wp (gasolierref05_leaf a) (fun n => n.Test = false ∧ LeafOk n) := by
 unfold gasolierref05_leaf
 obtain ⟨b, eb, b1, b2⟩ := mod5_eq a.x1 (m := 2) (by omega) (by omega)
 obtain ⟨c, ec, c1, c2⟩ := mod5_eq a.x2 (m := 3) (by omega) (by omega)
 obtain ⟨d, ed, d1, d2⟩ := mod5_eq a.x3 (m := 3) (by omega) (by omega)
 refine wp_join (fun s : List Send => s = [] ∨ s = [⟨1 + b, 1 + c⟩]) (fun K hK => wp_bif (fun _ => ?_) (fun _ => hK _ (.inl rfl))) (fun s hs => ?_)
 · exact wp_bindE eb (wp_mustI (by omega) (wp_bindE ec (wp_mustI (by omega) (wp_mustR (by simp) (hK _ (.inr rfl))))))
 · refine wp_join (fun s' : List Send => s' = s ∨ s' = s ++ [⟨3 + b, 1 + d⟩]) (fun K hK => wp_bif (fun _ => ?_) (fun _ => hK _ (.inl rfl))) (fun s' hs' => wp_some ⟨rfl, ⟨rfl, rfl, rfl, rfl, rfl, rfl⟩, ?_⟩)
   · exact wp_bindE eb (wp_mustI (by omega) (wp_bindE ed (wp_mustI (by omega) (wp_mustR (by rcases hs with rfl | rfl <;> simp) (hK _ (.inr rfl))))))
   · simp only
     rcases hs with rfl | rfl <;> rcases hs' with rfl | rfl
     · exact ⟨by simp, fun i hi => absurd hi (Nat.not_lt_zero _)⟩
     · refine ⟨by simp, fun i hi => ?_⟩
       have : i = 0 := by simpa using hi
       subst this
       refine ⟨?_, ?_, fun h => absurd h (Nat.lt_irrefl 0)⟩
       · show 1 ≤ 3 + b ∧ 3 + b ≤ 9; omega
       · show 1 ≤ 1 + d ∧ 1 + d ≤ 20; omega
     · refine ⟨by simp, fun i hi => ?_⟩
       have : i = 0 := by simpa using hi
       subst this
       refine ⟨?_, ?_, fun h => absurd h (Nat.lt_irrefl 0)⟩
       · show 1 ≤ 1 + b ∧ 1 + b ≤ 9; omega
       · show 1 ≤ 1 + c ∧ 1 + c ≤ 20; omega
     · refine ⟨by simp, fun i hi => ?_⟩
       have : i = 0 ∨ i = 1 := by simp at hi; omega
       rcases this with rfl | rfl
       · refine ⟨?_, ?_, fun h => absurd h (Nat.lt_irrefl 0)⟩
         · show 1 ≤ 1 + b ∧ 1 + b ≤ 9; omega
         · show 1 ≤ 1 + c ∧ 1 + c ≤ 20; omega
       · refine ⟨?_, ?_, fun _ => ?_⟩
         · show 1 ≤ 3 + b ∧ 3 + b ≤ 9; omega
         · show 1 ≤ 1 + d ∧ 1 + d ≤ 20; omega
         · show 1 + b < 3 + b; omega
def PreOk (out : List Node) (i j : Nat) : Prop := ((nd out j).Test = false → LeafOk (nd out j)) ∧ ((nd out j).Test = true → TestHead (nd out j) ∧ ∀ k ∈ fol3 (nd out j), ((j : Int) + 1 ≤ k ∧ k ≤ (out.length : Int) - 1) ∧ (k.toNat < i → (nd out k.toNat).Test = true → (nd out j).Minute ≤ (nd out k.toNat).Minute) ∧ (i ≤ k.toNat → (nd out j).Minute ≤ (nd out k.toNat).Minute))
structure Pre (t i : Nat) (out : List Node) : Prop where
 len : out.length = 1 + 3 * t
 few : t ≤ 4
 at_ : i ≤ out.length
 nms : names (out.take i) = (List.range (3 * t)).map (fun j : Nat => (j : Int) + 1)
 done : ∀ j, j < i → PreOk out i j
 rest : ∀ j, i ≤ j → j < out.length → (nd out j).Test = false ∧ 0 ≤ (nd out j).Minute ∧ (nd out j).Minute ≤ 1439
theorem pre_ok {t : Nat} {out : List Node} (h : Pre t out.length out) : PolOk out := by
 have hn := h.nms
 rw [List.take_length] at hn
 have hl := h.len
 have hf := h.few
 refine ⟨by omega, fun i hi => ?_, ?_, ?_⟩
 · obtain ⟨d1, d2⟩ := h.done i hi
   refine ⟨d1, fun ht => ⟨(d2 ht).1, fun k hk => ?_⟩⟩
   have := (d2 ht).2 k hk
   exact ⟨this.1, fun hk' => this.2.1 (by omega) hk'⟩
 · rw [hn]; exact nodup_inj List.nodup_range (fun x _ y _ h => by omega)
 · rw [hn]; simp; omega
theorem nd_set {out : List Node} {i j : Nat} {T : Node} (hi : i < out.length) : nd (out.set i T) j = if j = i then T else nd out j := getD_set out i j T default hi
theorem nd_app {out L : List Node} {j : Nat} : nd (out ++ L) j = if j < out.length then nd out j else nd L (j - out.length) := getD_append out L j default
theorem take_set_app {out L : List Node} {i : Nat} {T : Node} (hi : i < out.length) : (out.set i T ++ L).take (i + 1) = out.take i ++ [T] := by
 rw [List.take_append_of_le_length (by simp; omega), take_set_le hi]
theorem names_snoc (l : List Node) (T : Node) : names (l ++ [T]) = names l ++ nm T := by unfold names; rw [List.flatMap_append]; simp
theorem pre_leaf {t i : Nat} {out : List Node} {T : Node} (h : Pre t i out) (hi : i < out.length) (ht : T.Test = false) (hT : LeafOk T) : Pre t (i + 1) (out.set i T) := by
 refine ⟨by rw [List.length_set]; exact h.len, h.few, by rw [List.length_set]; exact hi, ?_, fun j hj => ?_, fun j hj hj2 => ?_⟩
 · rw [take_set_le hi, names_snoc, h.nms]
   have : nm T = [] := by unfold nm; rw [if_neg (by rw [ht]; simp)]
   rw [this, List.append_nil]
 · by_cases e : j = i
   · subst e
     have e2 : nd (out.set j T) j = T := by rw [nd_set hi, if_pos rfl]
     unfold PreOk
     rw [e2]
     exact ⟨fun _ => hT, fun h => by rw [ht] at h; cases h⟩
   · have e2 : nd (out.set i T) j = nd out j := by rw [nd_set hi, if_neg e]
     obtain ⟨d1, d2⟩ := h.done j (by omega)
     unfold PreOk
     rw [e2, List.length_set]
     refine ⟨d1, fun hj' => ⟨(d2 hj').1, fun k hk => ?_⟩⟩
     obtain ⟨g1, g2, g3⟩ := (d2 hj').2 k hk
     refine ⟨g1, fun hk1 => ?_, fun hk1 => ?_⟩
     · by_cases e3 : k.toNat = i
       · rw [nd_set hi, if_pos e3]; intro h; rw [ht] at h; cases h
       · rw [nd_set hi, if_neg e3]; exact g2 (by omega)
     · rw [nd_set hi, if_neg (by omega)]; exact g3 (by omega)
 · rw [List.length_set] at hj2
   rw [nd_set hi, if_neg (by omega)]
   exact h.rest j (by omega) hj2
def rawNode (m : Int) : Node := ⟨false, 0, m, 0, 0, 0, 0, []⟩
theorem pre_test {t i : Nat} {out : List Node} {T : Node} (h : Pre t i out) (hi : i < out.length) (h4 : t < 4) (ht : T.Test = true) (hT : TestHead T) (hf : fol3 T = [(out.length : Int), (out.length : Int) + 1, (out.length : Int) + 2]) (hm : (nd out i).Minute ≤ T.Minute) :
   Pre (t + 1) (i + 1) (out.set i T ++ List.replicate 3 (rawNode T.Minute)) := by
 have hl := h.len
 have hlen : (out.set i T ++ List.replicate 3 (rawNode T.Minute)).length = out.length + 3 := by simp
 have e0 : ∀ j, nd (out.set i T ++ List.replicate 3 (rawNode T.Minute)) j = if j < out.length then (if j = i then T else nd out j) else (if j < out.length + 3 then rawNode T.Minute else default) := by
   intro j
   rw [nd_app, List.length_set]
   by_cases hj : j < out.length
   · rw [if_pos hj, if_pos hj, nd_set hi]
   · rw [if_neg hj, if_neg hj]
     by_cases hj3 : j < out.length + 3
     · rw [if_pos hj3]
       have : j - out.length = 0 ∨ j - out.length = 1 ∨ j - out.length = 2 := by omega
       rcases this with e | e | e <;> rw [e] <;> rfl
     · rw [if_neg hj3]
       unfold nd
       rw [List.getD_eq_getElem?_getD, List.getElem?_eq_none (by simp; omega)]; rfl
 refine ⟨by rw [hlen]; omega, by omega, by rw [hlen]; omega, ?_, fun j hj => ?_, fun j hj hj2 => ?_⟩
 · rw [take_set_app hi, names_snoc, h.nms]
   have : nm T = fol3 T := by unfold nm; rw [if_pos ht]
   rw [this, hf, hl]
   have : 3 * (t + 1) = 3 * t + 1 + 1 + 1 := by omega
   rw [this, List.range_succ, List.range_succ, List.range_succ]
   simp only [List.map_append, List.map_cons, List.map_nil, List.append_assoc]
   congr 1
   simp only [List.singleton_append, List.cons.injEq, and_true]
   refine ⟨by omega, by omega, by omega⟩
 · by_cases e : j = i
   · subst e
     have e2 : nd (out.set j T ++ List.replicate 3 (rawNode T.Minute)) j = T := by rw [e0, if_pos hi, if_pos rfl]
     unfold PreOk
     rw [e2, hlen]
     refine ⟨fun h => (by rw [ht] at h; cases h), fun _ => ⟨hT, fun k hk => ?_⟩⟩
     have hk' : (out.length : Int) ≤ k ∧ k ≤ (out.length : Int) + 2 := by
       rw [hf] at hk
       simp only [List.mem_cons, List.not_mem_nil, or_false] at hk
       omega
     have e3 : nd (out.set j T ++ List.replicate 3 (rawNode T.Minute)) k.toNat = rawNode T.Minute := by rw [e0, if_neg (by omega), if_pos (by omega)]
     rw [e3]
     exact ⟨by omega, fun h => by omega, fun _ => Int.le_refl _⟩
   · have e2 : nd (out.set i T ++ List.replicate 3 (rawNode T.Minute)) j = nd out j := by rw [e0, if_pos (by omega), if_neg e]
     obtain ⟨d1, d2⟩ := h.done j (by omega)
     unfold PreOk
     rw [e2, hlen]
     refine ⟨d1, fun hj' => ⟨(d2 hj').1, fun k hk => ?_⟩⟩
     obtain ⟨g1, g2, g3⟩ := (d2 hj').2 k hk
     refine ⟨by omega, fun hk1 => ?_, fun hk1 => ?_⟩
     · by_cases e3 : k.toNat = i
       · rw [e0, if_pos (by omega), if_pos e3]; intro _
         have := g3 (by omega)
         rw [e3] at this; omega
       · rw [e0, if_pos (by omega), if_neg e3]; exact g2 (by omega)
     · rw [e0, if_pos (by omega), if_neg (by omega)]; exact g3 (by omega)
 · rw [hlen] at hj2
   rw [e0]
   by_cases hj3 : j < out.length
   · rw [if_pos hj3, if_neg (by omega)]; exact h.rest j (by omega) hj3
   · rw [if_neg hj3, if_pos hj2]
     exact ⟨rfl, hT.2.1⟩
theorem policy_wp {fuel : Nat} (hf : 100 < fuel) (q : List (Arr4 Int)) (hq : q.length ≤ 1000000000000000000) : Wp (gasolierref05_Policy fuel q) PolOk := by
 unfold gasolierref05_Policy
 refine wp_ifd (fun h0 => ?_) (fun h0 => ?_)
 · refine wp_bind (leaf_wp _) (fun n hn => wp_some ?_)
   refine pre_ok (t := 0) ?_
   have P0 : Pre 0 0 [rawNode 0] := ⟨rfl, by omega, by simp, rfl, fun j hj => by omega, fun j hj hj2 => by
     have : j = 0 := by simpa using hj2
     subst this; exact ⟨rfl, by decide⟩⟩
   exact pre_leaf P0 (by simp) hn.1 hn.2
 · have P0 : Pre 0 0 [rawNode 0] := ⟨rfl, by omega, by simp, rfl, fun j hj => by omega, fun j hj hj2 => by
     have : j = 0 := by simpa using hj2
     subst this; exact ⟨rfl, by decide⟩⟩
   refine wp_loop (fun s : Int × Int × List Node => ∃ t i : Nat, s.1 = (t : Int) ∧ s.2.1 = (i : Int) ∧ Pre t i s.2.2) (fun s => 14 - s.2.1.toNat) (by simp only; omega) ⟨0, 0, rfl, rfl, P0⟩ ?_
   rintro ⟨s1, s2, out⟩ K ⟨t, i, h1, h2, P⟩ hK
   simp only at h1 h2 P hK
   subst h1 h2
   have hl := P.len
   have h4 := P.few
   refine wp_ifd (fun hlt => ?_) (fun hge => wp_some ?_)
   · have hi : i < out.length := by simp only at hlt; omega
     obtain ⟨y, ey, y1, y2⟩ := mod5_eq (i : Int) (m := ((q.length : Nat) : Int)) (by omega) (by omega)
     refine wp_bindE ey (wp_must (by omega) (wp_must (by simp only; omega) ?_))
     generalize hg : q.getD y.toNat default = g
     have R := P.rest i (Nat.le_refl _) hi
     simp only [Int.toNat_natCast]
     have en : out.getD i default = nd out i := rfl
     simp only [en]
     refine wp_bif (fun hb => ?_) (fun hb => ?_)
     · have ht4 : t < 4 := by
         simp only [Bool.and_eq_true, decide_eq_true_eq] at hb; omega
       obtain ⟨a, ea, a1, a2⟩ := mod5_eq g.x1 (m := 3) (by omega) (by omega)
       obtain ⟨b, eb, b1, b2⟩ := mod5_eq g.x2 (m := 300) (by omega) (by omega)
       obtain ⟨c, ec, c1, c2⟩ := mod5_eq g.x3 (m := 900) (by omega) (by omega)
       refine wp_mustI (by omega) (wp_bindE ea (wp_mustI (by omega) (wp_bindE eb (wp_mustI (by omega) (wp_bindE ec (wp_mustI (by omega) (wp_mustI (by omega) (wp_mustI (by omega) (wp_must (by omega) ?_)))))))))
       generalize hT : (⟨true, (1 + a), (min 1439 ((nd out i).Minute + b)), (1 + c), ((out.length : Nat) : Int), (((out.length : Nat) : Int) + 1), (((out.length : Nat) : Int) + 2), []⟩ : Node) = T
       have hTt : T.Test = true := by rw [← hT]
       have hTm : T.Minute = min 1439 ((nd out i).Minute + b) := by rw [← hT]
       have hTh : TestHead T := by rw [← hT]; unfold TestHead; dsimp only; exact ⟨by omega, by omega, by omega, rfl⟩
       have hTf : fol3 T = [(out.length : Int), (out.length : Int) + 1, (out.length : Int) + 2] := by rw [← hT]; rfl
       have P' := pre_test P hi ht4 hTt hTh hTf (by omega)
       refine wp_for 3 (by omega) (fun m (o : List Node) => o = out.set i T ++ List.replicate m (rawNode T.Minute)) (by simp) (fun m o K2 hm hI hK2 => ?_)
       subst hI
       have hol : (out.set i T ++ List.replicate m (rawNode T.Minute)).length = out.length + m := by simp
       have hoi : (out.set i T ++ List.replicate m (rawNode T.Minute)).getD i default = T := by
         show nd _ i = T
         rw [nd_app, List.length_set, if_pos hi, nd_set hi, if_pos rfl]
       refine wp_ifd (fun hlt3 => ?_) (fun hge3 => ?_)
       · simp only [hoi]
         have er : (⟨false, 0, T.Minute, 0, 0, 0, 0, []⟩ : Node) = rawNode T.Minute := rfl
         simp only [er]
         refine wp_must (by simp only [hol]; omega) (wp_mustR (by rw [List.length_append, hol]; simp only [List.length_cons, List.length_nil]; omega) (wp_mustI (by omega) (hK2 _ (by simp only at hlt3; omega) ?_)))
         rw [List.append_assoc, ← List.replicate_succ']
       · have hm3 : m = 3 := by simp only at hge3; omega
         subst hm3
         refine wp_mustI (by omega) (hK _ ⟨t + 1, i + 1, by simp, by simp, P'⟩ (by simp only; omega))
     · refine wp_bind (leaf_wp g) (fun n hn => wp_must (by omega) (wp_mustI (by omega) (hK _ ⟨t, i + 1, rfl, by simp, pre_leaf P hi hn.1 hn.2⟩ (by simp only; omega))))
   · have hie : i = out.length := by have := P.at_; simp only at hge; omega
     rw [hie] at P
     exact pre_ok P
end Go.Sp
end
/- Plain laws, fog: no foresight. No program in sight. -/
section
set_option linter.all false
namespace Go.Sp
open Go.Av
set_option maxRecDepth 100000
end Go.Sp
end
/- Plain laws, fog: what moves without a report. No program in sight. -/
section
set_option linter.all false
namespace Go.Sp
open Go.Av
set_option maxRecDepth 100000
end Go.Sp
end
/- Plain laws, fog: what may still be, with true reports. No program in sight. -/
section
set_option linter.all false
namespace Go.Sp
open Go.Av
set_option maxRecDepth 100000
end Go.Sp
end
/- Plain laws, fog: runners, and whether they can be given to places. No program in sight. -/
section
set_option linter.all false
namespace Go.Sp
open Go.Av
set_option maxRecDepth 100000
def rn (r : List Runner) (j : Nat) : Runner := r.getD j default
structure RunOk (r : List Runner) (i : Nat) : Prop where
 id_ : 1 ≤ (rn r i).Id ∧ (rn r i).Id ≤ 99
 up : 0 < i → (rn r (i - 1)).Id < (rn r i).Id
 len : 1 ≤ (rn r i).Districts.length ∧ (rn r i).Districts.length ≤ 9
 dist : ∀ k, k < (rn r i).Districts.length → (1 ≤ (rn r i).Districts.getD k default ∧ (rn r i).Districts.getD k default ≤ 9) ∧ (0 < k → (rn r i).Districts.getD (k - 1) default < (rn r i).Districts.getD k default)
structure RunsOk (r : List Runner) : Prop where
 len : r.length ≤ 20
 all : ∀ i, i < r.length → RunOk r i
theorem fcheckRunners_wp (r : List Runner) : Wp (fog_CheckRunners r) (fun e => (RunsOk r ∧ e = 0) ∨ (¬ RunsOk r ∧ e = 54)) := by
 unfold fog_CheckRunners
 refine wp_ifd (fun h => wp_some (.inr ⟨fun V => by have := V.len; omega, rfl⟩)) (fun h => ?_)
 refine wp_forall (fun i => RunOk r i) (fun i K hi hI hK => ?_) (fun h2 => wp_some (.inl ⟨⟨by omega, h2⟩, rfl⟩))
 have en : r.getD i default = rn r i := rfl
 have e1 : (((i : Int) - 1)).toNat = i - 1 := by omega
 have en1 : r.getD (i - 1) default = rn r (i - 1) := rfl
 refine wp_must (fun _ => by unfold inI; omega) (wp_must (fun h => by simp at h; omega) ?_)
 rw [e1, en, en1]
 refine wp_bif (fun hb => wp_some (.inr ⟨fun V => ?_, rfl⟩)) (fun hb => ?_)
 · have O := V.all i hi
   simp only [Bool.or_eq_true, Bool.and_eq_true, decide_eq_true_eq, Bool.not_eq_true', ← Bool.not_eq_true, fwithin_iff] at hb
   have o1 := O.id_; have o2 := O.up; have o3 := O.len
   rcases hb with (hb | hb) | hb
   · exact hb o1
   · have := o2 (by omega); omega
   · exact hb (by omega)
 · simp only [Bool.or_eq_false_iff, Bool.and_eq_false_iff, Bool.not_eq_false', decide_eq_false_iff_not, fwithin_iff] at hb
   obtain ⟨⟨b1, b2⟩, b3⟩ := hb
   refine wp_forall (fun k => (1 ≤ (rn r i).Districts.getD k default ∧ (rn r i).Districts.getD k default ≤ 9) ∧ (0 < k → (rn r i).Districts.getD (k - 1) default < (rn r i).Districts.getD k default)) (fun k K2 hk _ hK2 => ?_) (fun h3 => hK ⟨b1, fun h0 => by rcases b2 with b | b <;> omega, by omega, h3⟩)
   have e2 : (((k : Int) - 1)).toNat = k - 1 := by omega
   refine wp_must (fun _ => by unfold inI; omega) (wp_must (fun h => by simp at h; omega) ?_)
   rw [e2]
   unfold fog_isDistrict
   refine wp_bif (fun hc => wp_some (.inr ⟨fun V => ?_, rfl⟩)) (fun hc => hK2 ?_)
   · have := (V.all i hi).dist k hk
     simp only [Bool.or_eq_true, Bool.and_eq_true, decide_eq_true_eq, Bool.not_eq_true', ← Bool.not_eq_true, fwithin_iff] at hc
     rcases hc with hc | hc
     · exact hc this.1
     · have := this.2 (by omega); omega
   · simp only [Bool.or_eq_false_iff, Bool.and_eq_false_iff, Bool.not_eq_false', decide_eq_false_iff_not, fwithin_iff] at hc
     exact ⟨hc.1, fun h0 => by rcases hc.2 with b | b <;> omega⟩
theorem frun_ok {r : List Runner} (h : RunsOk r) : fog_CheckRunners r = some 0 := by
 obtain ⟨x, e, k⟩ := fcheckRunners_wp r
 rcases k with ⟨_, k⟩ | ⟨k, _⟩
 · rw [e, k]
 · exact absurd h k
theorem frun_bad {r : List Runner} (h : ¬ RunsOk r) : fog_CheckRunners r = some 54 := by
 obtain ⟨x, e, k⟩ := fcheckRunners_wp r
 rcases k with ⟨k, _⟩ | ⟨_, k⟩
 · exact absurd k h
 · rw [e, k]
def sbl (s : List Bool) : Nat → Bool := fun k => s.getD k false
def owl (s : List Int) : Nat → Int := fun k => s.getD k (-1)
def madj (r : List Runner) (P : List Int) (bar : List Bool) (i j : Nat) : Prop := bar.getD j default = false ∧ P.getD i default ∈ (rn r j).Districts
structure GS (r : List Runner) (P : List Int) (bar : List Bool) (g : fog_giver) : Prop where
 run : g.runners = r
 pl : g.places = P
 bar_ : g.barred = bar
 len : g.of.length = r.length
 lt : ∀ j, j < r.length → g.of.getD j default < P.length
theorem getD_any {T : Type} {l : List T} {i : Nat} (h : i < l.length) (d e : T) : l.getD i d = l.getD i e := by
 rw [List.getD_eq_getElem?_getD, List.getD_eq_getElem?_getD, List.getElem?_eq_getElem h]; rfl
theorem sbl_set {s : List Bool} {j : Nat} (h : j < s.length) : sbl (s.set j true) = fun k => sbl s k || decide (k = j) := by
 funext k
 unfold sbl
 rw [getD_set _ _ _ _ _ h]
 by_cases e : k = j
 · simp [e]
 · simp [e]
theorem owl_set {s : List Int} {j : Nat} {x : Int} (h : j < s.length) : owl (s.set j x) = fun k => if k = j then x else owl s k := by
 funext k
 unfold owl
 rw [getD_set _ _ _ _ _ h]
theorem may_eq {r : List Runner} {P : List Int} {bar : List Bool} {g : fog_giver} (h1 : g.runners = r) (h2 : g.places = P) (h3 : g.barred = bar) (hb : bar.length = r.length) {i j : Nat} (hi : i < P.length) (hj : j < r.length) : fog_giver__may g (j : Int) (i : Int) = some (!(bar.getD j default) && decide (P.getD i default ∈ (rn r j).Districts)) := by
 unfold fog_giver__may
 rw [h1, h2, h3]
 refine Wp.eq (wp_must (by omega) (wp_must (fun _ => by omega) (wp_must (fun _ => by omega) ?_)))
 simp only [Int.toNat_natCast]
 cases h : bar.getD j default with
 | true => exact wp_offE rfl rfl (wp_some rfl)
 | false => exact wp_onE rfl (contains_eq _ _) (wp_some rfl)
theorem step_wp {r : List Runner} {P : List Int} {bar : List Bool} (hr : r.length ≤ 20) (hb : bar.length = r.length) (fuel : Nat) :
   ∀ (f i : Nat) (g : fog_giver) (seen : List Bool) (back : Nat → Int), i < P.length → GS r P bar g → seen.length = r.length → mu r.length (sbl seen) < f →
     Wp (fog_giver__step_l fuel f g (i : Int) seen) (fun y => GS r P bar y.2.1 ∧ y.2.2.length = r.length ∧ ∃ back', Srch (madj r P bar) r.length i 0 ⟨sbl seen, owl g.of, back⟩ y.1 ⟨sbl y.2.2, owl y.2.1.of, back'⟩)
 | 0, i, g, seen, back, _, _, _, h => by omega
 | f + 1, i, g, seen, back, hi, G, hsl, hmu => by
   have ih := step_wp hr hb fuel f (P := P)
   show Wp (fog_giver__step_l_F fuel (fog_giver__step_l fuel f) g (i : Int) seen) _
   unfold fog_giver__step_l_F
   rw [G.run, G.pl, G.bar_]
   refine wp_must (by omega) ?_
   refine wp_range (fun j (s : (List Int) × (List Bool) × (List Bool) × (List Runner) × (List Int)) => GS r P bar ⟨s.2.2.2.1, s.2.2.2.2, s.1, s.2.1⟩ ∧ s.2.2.1.length = r.length ∧ mu r.length (sbl s.2.2.1) ≤ mu r.length (sbl seen) ∧ ∃ bk, ∀ b s', Srch (madj r P bar) r.length i j ⟨sbl s.2.2.1, owl s.1, bk⟩ b s' → Srch (madj r P bar) r.length i 0 ⟨sbl seen, owl g.of, back⟩ b s')
     ⟨⟨rfl, rfl, rfl, G.len, G.lt⟩, hsl, Nat.le_refl _, back, fun _ _ h => h⟩ (fun j s K hj hI hK => ?_) (fun s hI => ?_)
   · obtain ⟨of1, bar1, seen1, run1, pl1⟩ := s
     obtain ⟨G1, hs1, hmu1, bk, hsr⟩ := hI
     dsimp only at G1 hs1 hmu1 hsr hK ⊢
     refine wp_join (fun s : (List Runner) × (List Int) × (List Int) × (List Bool) × (List Bool) => GS r P bar ⟨s.1, s.2.1, s.2.2.1, s.2.2.2.1⟩ ∧ s.2.2.2.2.length = r.length ∧ mu r.length (sbl s.2.2.2.2) ≤ mu r.length (sbl seen) ∧ ∃ bk, ∀ b s', Srch (madj r P bar) r.length i (j + 1) ⟨sbl s.2.2.2.2, owl s.2.2.1, bk⟩ b s' → Srch (madj r P bar) r.length i 0 ⟨sbl seen, owl g.of, back⟩ b s') (fun K2 hK2 => ?_) (fun s hs => hK _ hs)
     have hof := G1.len
     have hlt := G1.lt j hj
     dsimp only at hof hlt
     have em := may_eq G1.run G1.pl G1.bar_ hb hi hj
     have esb : sbl seen1 j = seen1.getD j default := rfl
     have eow : owl of1 j = of1.getD j default := getD_any (by omega) _ _
     refine wp_must (by omega) ?_
     cases hs : seen1.getD j default with
     | true =>
       refine wp_offE rfl rfl (wp_true rfl (hK2 _ ⟨G1, hs1, hmu1, bk, fun b s' h => hsr b s' (.skip hj (fun _ => by show sbl seen1 j = true; rw [esb, hs]) h)⟩))
     | false =>
       refine wp_onE rfl em ?_
       refine wp_bif (fun hc => hK2 _ ⟨G1, hs1, hmu1, bk, fun b s' h => hsr b s' (.skip hj (fun ha => ?_) h)⟩) (fun hc => ?_)
       · exfalso
         rw [ha.1, decide_eq_true ha.2] at hc; cases hc
       · have hadj : madj r P bar i j := by
           simp only [Bool.false_or, Bool.not_eq_false', Bool.and_eq_true, Bool.not_eq_true', decide_eq_true_eq] at hc
           exact hc
         have hsee : ∀ bk', (⟨sbl (seen1.set j true), owl of1, bk'⟩ : Ks) = Ks.see ⟨sbl seen1, owl of1, bk'⟩ j := fun bk' => by unfold Ks.see; rw [sbl_set (by omega)]
         have hmu2 : mu r.length (sbl (seen1.set j true)) < mu r.length (sbl seen1) := by
           rw [sbl_set (by omega)]
           exact mu_lt (j := j) (fun k h => by simp [h]) hj (by rw [esb, hs]) (by simp)
         refine wp_must (by omega) (wp_must (by omega) (wp_must (fun _ => by omega) ?_))
         have hs2 : (seen1.set j true).length = r.length := by rw [List.length_set]; exact hs1
         refine wp_bind (Q := fun y : Bool × fog_giver × List Bool => GS r P bar y.2.1 ∧ y.2.2.length = r.length ∧ mu r.length (sbl y.2.2) ≤ mu r.length (sbl seen1) ∧ ((of1.getD j default < 0 ∧ y = (default, ⟨run1, pl1, of1, bar1⟩, seen1.set j true)) ∨ ∃ (o : Nat) (bk' : Nat → Int), of1.getD j default = (o : Int) ∧ Srch (madj r P bar) r.length o 0 (Ks.see ⟨sbl seen1, owl of1, bk⟩ j) y.1 ⟨sbl y.2.2, owl y.2.1.of, bk'⟩)) ?_ (fun y hy => ?_)
         · by_cases h0 : of1.getD j default < 0
           · rw [decide_eq_true h0]
             exact wp_some ⟨G1, hs2, Nat.le_of_lt hmu2, .inl ⟨h0, rfl⟩⟩
           · rw [decide_eq_false h0]
             obtain ⟨o, ho⟩ := Int.eq_ofNat_of_zero_le (show 0 ≤ of1.getD j default by omega)
             rw [ho]
             refine (ih o ⟨run1, pl1, of1, bar1⟩ (seen1.set j true) bk (by omega) G1 hs2 (by omega)).mono (fun y hy => ?_)
             obtain ⟨y1, y2, bk', y3⟩ := hy
             rw [hsee] at y3
             refine ⟨y1, y2, ?_, .inr ⟨o, bk', rfl, y3⟩⟩
             have := mu_mono (n := r.length) y3.mono
             refine Nat.le_trans this ?_
             have e := congrArg Ks.seen (hsee bk)
             have e' : (Ks.see ⟨sbl seen1, owl of1, bk⟩ j).seen = sbl (seen1.set j true) := e.symm
             rw [e']; exact Nat.le_of_lt hmu2
         · obtain ⟨b, g3, seen3⟩ := y
           obtain ⟨G3, hs3, hmu3, hy⟩ := hy
           dsimp only at G3 hs3 hmu3 hy ⊢
           have hof3 := G3.len
           refine wp_must (by omega) (wp_must (by omega) (wp_bif (fun hb' => wp_must (by omega) (wp_some ?_)) (fun hb' => ?_)))
           · refine ⟨⟨G3.run, G3.pl, G3.bar_, by dsimp only; rw [List.length_set]; exact hof3, fun k hk => ?_⟩, hs3, ?_⟩
             · dsimp only
               rw [getD_set _ _ _ _ _ (by omega)]
               split
               · omega
               · exact G3.lt k hk
             · dsimp only
               rcases hy with ⟨h0, e⟩ | ⟨o, bk', h0, h1⟩
               · cases e
                 refine ⟨(Ks.give (Ks.see ⟨sbl seen1, owl of1, bk⟩ j) j i).back, hsr _ _ ?_⟩
                 have := Srch.free (adj := madj r P bar) (m := r.length) (s := ⟨sbl seen1, owl of1, bk⟩) hj hadj (by show sbl seen1 j = false; rw [esb, hs]) (by show owl of1 j < 0; omega)
                 rw [← hsee bk] at this
                 rw [owl_set (by omega)]
                 exact this
               · rw [decide_eq_false (by omega)] at hb'
                 have hb' : b = true := by simpa using hb'
                 subst hb'
                 refine ⟨(Ks.give ⟨sbl seen3, owl g3.of, bk'⟩ j i).back, hsr _ _ ?_⟩
                 rw [owl_set (by omega)]
                 exact Srch.aug (s := ⟨sbl seen1, owl of1, bk⟩) hj hadj (by show sbl seen1 j = false; rw [esb, hs]) (by show owl of1 j = (o : Int); omega) h1
           · rcases hy with ⟨h0, e⟩ | ⟨o, bk', h0, h1⟩
             · rw [decide_eq_true h0] at hb'; cases hb'
             · have hb2 : b = false := by
                 cases b with
                 | false => rfl
                 | true => simp at hb'
               subst hb2
               refine hK2 _ ⟨⟨G3.run, G3.pl, G3.bar_, hof3, G3.lt⟩, hs3, by dsimp only; omega, bk', fun b' s' h => hsr _ _ (.fail (s := ⟨sbl seen1, owl of1, bk⟩) hj hadj (by show sbl seen1 j = false; rw [esb, hs]) (by show owl of1 j = (o : Int); omega) h1 h)⟩
   · obtain ⟨h1, h2, _, bk, h3⟩ := hI
     exact wp_some ⟨h1, h2, bk, h3 _ _ (.done (Nat.le_refl _))⟩
def Full (r : List Runner) (P : List Int) (bar : List Bool) (k : Nat) : Prop := InjK (madj r P bar) r.length (fun i => k ≤ i ∧ i < P.length)
structure GF (r : List Runner) (P : List Int) (bar : List Bool) (g : fog_giver) : Prop where
 run : g.runners = r
 pl : g.places = P
 bar_ : g.barred = bar
 len : g.of.length = r.length
theorem GS.gf {r : List Runner} {P : List Int} {bar : List Bool} {g : fog_giver} (h : GS r P bar g) : GF r P bar g := ⟨h.run, h.pl, h.bar_, h.len⟩
theorem full_wp {r : List Runner} {P : List Int} {bar : List Bool} {g : fog_giver} (hr : r.length ≤ 20) (hP : P.length ≤ 1000) (hb : bar.length = r.length) {fuel : Nat} (hf : 1100 < fuel) {k : Nat} (hk : k ≤ P.length) (G : GF r P bar g) :
   Wp (fog_giver__full_l fuel g (k : Int)) (fun y => (y.1 = true ↔ Full r P bar k) ∧ GF r P bar y.2) := by
 unfold fog_giver__full_l
 rw [G.run, G.pl, G.bar_]
 have hgl := G.len
 refine wp_must (by omega) ?_
 refine wp_range (fun j (s : List Int) => s.length = r.length ∧ ∀ q, q < j → s.getD q default = -1) ⟨hgl, fun q hq => by omega⟩ (fun j s K hj hI hK => ?_) (fun s hI => ?_)
 · refine wp_must (by omega) (hK _ ⟨by rw [List.length_set]; exact hI.1, fun q hq => ?_⟩)
   rw [getD_set _ _ _ _ _ (by omega)]
   by_cases e : q = j
   · rw [if_pos e]
   · rw [if_neg e]; exact hI.2 q (by omega)
 · obtain ⟨hsl, hs⟩ := hI
   rw [hgl] at hs
   have hown : ∀ q, owl s q = -1 := fun q => by
     unfold owl
     by_cases h : q < s.length
     · rw [getD_any h (-1) default]; exact hs q (by omega)
     · rw [List.getD_eq_getElem?_getD, List.getElem?_eq_none (by omega)]; rfl
   refine wp_loop (fun t : Int × (List Int) × (List Bool) × (List Runner) × (List Int) => ∃ (i : Nat) (back : Nat → Int), t.1 = (i : Int) ∧ k ≤ i ∧ i ≤ P.length ∧ GS r P bar ⟨t.2.2.2.1, t.2.2.2.2, t.2.1, t.2.2.1⟩ ∧ Mat (madj r P bar) r.length ⟨fun _ => false, owl t.2.1, back⟩ ∧ ∀ x : Nat, 0 ≤ back x ↔ k ≤ x ∧ x < i)
     (fun t => P.length - t.1.toNat) (by simp only; omega) ⟨k, fun _ => -1, rfl, Nat.le_refl _, hk, ⟨rfl, rfl, rfl, hsl, fun j hj => by dsimp only; rw [hs j hj]; omega⟩, ⟨fun x hx => absurd hx (by show ¬ (0 : Int) ≤ -1; omega), fun q _ hx => absurd hx (by show ¬ 0 ≤ owl s q; rw [hown]; omega)⟩, fun x => ⟨fun h => absurd h (by show ¬ (0 : Int) ≤ -1; omega), fun h => by omega⟩⟩ ?_
   rintro ⟨t1, of1, bar1, run1, pl1⟩ K ⟨i, back, rfl, hki, hiP, G1, M, hbk⟩ hK
   dsimp only at G1 M hK ⊢
   have e1 := G1.run; have e2 := G1.pl; have e3 := G1.bar_
   dsimp only at e1 e2 e3
   refine wp_ifd (fun hlt => ?_) (fun hge => wp_some ⟨⟨fun _ => ?_, fun _ => rfl⟩, G1.gf⟩)
   · have hi : i < P.length := by rw [e2] at hlt; omega
     have hrl : run1.length = r.length := by rw [e1]
     refine wp_must (by rw [hrl]; unfold room; omega) ?_
     have hz : ∀ q, sbl (List.replicate (((run1.length : Nat) : Int)).toNat false) q = false := fun q => getD_replicate _ _ _
     have hzf : sbl (List.replicate (((run1.length : Nat) : Int)).toNat false) = fun _ => false := funext hz
     refine wp_bind (step_wp hr hb fuel fuel i ⟨run1, pl1, of1, bar1⟩ (List.replicate (((run1.length : Nat) : Int)).toNat false) back hi G1 (by rw [List.length_replicate, hrl]; rfl) (by have := mu_le r.length (sbl (List.replicate (((run1.length : Nat) : Int)).toNat false)); omega)) (fun y hy => ?_)
     obtain ⟨G2, hs2, back', H⟩ := hy
     rw [hzf] at H
     have hbi : back i < 0 := by
       apply Classical.byContradiction; intro h
       have := (hbk i).1 (by omega); omega
     cases hy1 : y.1 with
     | false =>
       rw [hy1] at H
       refine wp_true rfl (wp_some ⟨⟨fun h => (by cases h), fun ⟨g', g1, g2⟩ => ?_⟩, G2.gf⟩)
       exact (hallK M (fun _ => rfl) hbi H (R := fun x => k ≤ x ∧ x < P.length) ⟨hki, hi⟩ (fun x hx => by have := (hbk x).1 hx; omega) (g := g') g1 g2).elim
     | true =>
       rw [hy1] at H
       have W := H.win rfl M (fun q hq => by have hq : back i = (q : Int) := hq; omega)
       have hg2 := G2
       refine wp_false rfl (wp_mustI (by omega) (hK _ ⟨i + 1, back', by simp, by omega, hi, ⟨G2.run, G2.pl, G2.bar_, G2.len, G2.lt⟩, ?_, fun x => ?_⟩ (by simp only; omega)))
       · have := W.matK hbi
         exact ⟨this.back, this.own⟩
       · by_cases ex : x = i
         · subst ex
           obtain ⟨q, hq, _⟩ := W.new
           have hq : back' x = (q : Int) := hq
           exact ⟨fun _ => by omega, fun _ => by omega⟩
         · have : (0 ≤ back' x ↔ 0 ≤ back x) := (W.rest x ex).1
           rw [this, hbk x]; omega
   · have hie : i = P.length := by rw [e2] at hge; omega
     refine ⟨fun x => (back x).toNat, fun x hx => ?_, fun x y hx hy e => ?_⟩
     · obtain ⟨q, q1, q2, q3, q4⟩ := M.back x ((hbk x).2 (by omega))
       have q1 : back x = (q : Int) := q1
       dsimp only
       rw [q1, Int.toNat_natCast]; exact ⟨q2, q4⟩
     · obtain ⟨q, q1, q2, q3, q4⟩ := M.back x ((hbk x).2 (by omega))
       obtain ⟨q', q1', q2', q3', q4'⟩ := M.back y ((hbk y).2 (by omega))
       have q1 : back x = (q : Int) := q1
       have q1' : back y = (q' : Int) := q1'
       dsimp only at e
       rw [q1, q1', Int.toNat_natCast, Int.toNat_natCast] at e
       subst e
       have q3 : owl of1 q = (x : Int) := q3
       have q3' : owl of1 q = (y : Int) := q3'
       omega
def plL (l : List Send) : List Int := l.flatMap (fun s => List.replicate s.Many.toNat s.District)
theorem plL_take {l : List Send} {i : Nat} (h : i < l.length) : plL (l.take (i + 1)) = plL (l.take i) ++ List.replicate (sd l i).Many.toNat (sd l i).District := by
 unfold plL
 rw [take_getD h, List.flatMap_append]; simp [sd]
theorem plL_len {l : List Send} (h : SendsOk l) : ∀ {i : Nat}, i ≤ l.length → (plL (l.take i)).length ≤ 20 * i := by
 intro i
 induction i with
 | zero => intro _; simp [plL]
 | succ i ih =>
   intro hi
   have h1 := ih (by omega)
   have h2 := (h.2 i hi).2.1
   rw [plL_take hi, List.length_append, List.length_replicate]; omega
theorem plL_le {l : List Send} (h : SendsOk l) : (plL l).length ≤ 180 := by
 have h1 := plL_len h (Nat.le_refl l.length)
 rw [List.take_length] at h1
 have := h.1
 omega
theorem fplaces_eq {n : Node} (h : SendsOk n.Sends) : fog_places n = some (plL n.Sends) := by
 unfold fog_places
 have h9 := h.1
 refine Wp.eq (wp_range (fun i s => s = plL (n.Sends.take i)) (by simp [plL]) (fun i s K hi hI hK => ?_) (fun s hI => wp_some (by rw [hI, List.take_length])))
 have hm := (h.2 i hi).2.1
 have hl := plL_len h (i := i) (by omega)
 have en : n.Sends.getD i default = sd n.Sends i := rfl
 rw [en]
 refine wp_must (by omega) (wp_range (fun k t => t = s ++ List.replicate k (sd n.Sends i).District) (by simp) (fun k t K2 hk hJ hK2 => ?_) (fun t hJ => hK _ ?_))
 · refine wp_mustR (by rw [hJ, hI, List.length_append, List.length_append, List.length_replicate]; simp only [List.length_cons, List.length_nil]; omega) (hK2 _ ?_)
   rw [hJ, List.append_assoc, ← List.replicate_succ']
 · rw [hJ, hI, plL_take hi]
def nobar (r : List Runner) : List Bool := List.replicate r.length false
def Fit1 (r : List Runner) (P : List Int) (bar : List Bool) (k j : Nat) : Prop := madj r P bar k j ∧ Full r P (bar.set j true) (k + 1)
inductive Gre (r : List Runner) (P : List Int) : Nat → List Nat → List Bool → Prop
 | nil : Gre r P 0 [] (nobar r)
 | snoc {k : Nat} {js : List Nat} {bar : List Bool} {j : Nat} : Gre r P k js bar → k < P.length → j < r.length → Fit1 r P bar k j → (∀ q, q < j → ¬ Fit1 r P bar k q) → Gre r P (k + 1) (js ++ [j]) (bar.set j true)
theorem Gre.len {r : List Runner} {P : List Int} {k : Nat} {js : List Nat} {bar : List Bool} (h : Gre r P k js bar) : js.length = k ∧ bar.length = r.length := by
 induction h with
 | nil => exact ⟨rfl, by simp [nobar]⟩
 | snoc _ _ _ _ _ ih => exact ⟨by simp [ih.1], by rw [List.length_set]; exact ih.2⟩
theorem Gre.one {r : List Runner} {P : List Int} {k : Nat} {js : List Nat} {bar : List Bool} (h : Gre r P k js bar) : ∀ {js' : List Nat} {bar' : List Bool}, Gre r P k js' bar' → js = js' ∧ bar = bar' := by
 induction h with
 | nil => intro js' bar' h'; cases h'; exact ⟨rfl, rfl⟩
 | @snoc k js bar j h1 h2 h3 h4 h5 ih =>
   intro js' bar' h'
   cases h' with
   | @snoc _ js2 bar2 j2 g1 g2 g3 g4 g5 =>
     obtain ⟨e1, e2⟩ := ih g1
     subst e1 e2
     rcases Nat.lt_trichotomy j j2 with h | h | h
     · exact absurd h4 (g5 j h)
     · subst h; exact ⟨rfl, rfl⟩
     · exact absurd g4 (h5 j2 h)
theorem Gre.full {r : List Runner} {P : List Int} {k : Nat} {js : List Nat} {bar : List Bool} (h : Gre r P k js bar) (h0 : Full r P (nobar r) 0) : Full r P bar k := by
 cases h with
 | nil => exact h0
 | snoc _ _ _ h _ => exact h.2
theorem full_fit {r : List Runner} {P : List Int} {bar : List Bool} (hb : bar.length = r.length) {k : Nat} (hk : k < P.length) (h : Full r P bar k) : ∃ j, j < r.length ∧ Fit1 r P bar k j := by
 obtain ⟨g, g1, g2⟩ := h
 have hk0 := g1 k ⟨Nat.le_refl _, hk⟩
 refine ⟨g k, hk0.1, hk0.2, g, fun i hi => ?_, fun i i' hi hi' e => g2 i i' ⟨by omega, hi.2⟩ ⟨by omega, hi'.2⟩ e⟩
 have hi0 := g1 i ⟨by omega, hi.2⟩
 refine ⟨hi0.1, ?_, hi0.2.2⟩
 rw [getD_set _ _ _ _ _ (by omega), if_neg (fun e => ?_)]
 · exact hi0.2.1
 · have := g2 i k ⟨by omega, hi.2⟩ ⟨Nat.le_refl _, hk⟩ e; omega
theorem set_back {bar : List Bool} {j : Nat} (h : bar.getD j default = false) : (bar.set j true).set j false = bar := by
 rw [List.set_set]
 refine List.ext_getElem (by simp) (fun i h1 h2 => ?_)
 rw [List.getElem_set]
 split
 · next e =>
   subst e
   rw [List.getD_eq_getElem?_getD, List.getElem?_eq_getElem h2] at h
   exact h.symm
 · rfl
def GaveR (r : List Runner) (P : List Int) (y : List Int × Bool) : Prop := (¬ Full r P (nobar r) 0 ∧ y = ([], false)) ∨ (Full r P (nobar r) 0 ∧ ∃ js bar, Gre r P P.length js bar ∧ y = (js.map (fun j => (rn r j).Id), true))
theorem give_wp {r : List Runner} (R : RunsOk r) {n : Node} (h : SendsOk n.Sends) {fuel : Nat} (hf : 1100 < fuel) : Wp (fog_give fuel n r) (GaveR r (plL n.Sends)) := by
 unfold fog_give
 have hr := R.len
 have hP := plL_le h
 refine wp_bindE (fplaces_eq h) ?_
 generalize hPe : plL n.Sends = P at hP ⊢
 refine wp_must (by unfold room; omega) (wp_must (by unfold room; omega) ?_)
 have G0 : GF r P (nobar r) ⟨r, P, List.replicate (((r.length : Nat) : Int)).toNat (0 : Int), List.replicate (((r.length : Nat) : Int)).toNat (false : Bool)⟩ := ⟨rfl, rfl, rfl, by simp⟩
 refine wp_bind (full_wp hr (by omega) (by simp [nobar]) hf (k := 0) (Nat.zero_le _) G0) (fun y hy => ?_)
 obtain ⟨y1, y2⟩ := hy
 cases hy1 : y.1 with
 | false => exact wp_true rfl (wp_some (.inl ⟨fun h => (by have := y1.2 h; rw [hy1] at this; cases this), rfl⟩))
 | true =>
   have hF := y1.1 hy1
   refine wp_false rfl ?_
   rw [y2.pl]
   refine wp_must (by omega) ?_
   refine wp_range (fun k (s : (List Int) × (List Bool) × (List Int) × (List Runner) × (List Int)) => GF r P s.2.1 ⟨s.2.2.2.1, s.2.2.2.2, s.1, s.2.1⟩ ∧ ∃ js, Gre r P k js s.2.1 ∧ s.2.2.1 = js.map (fun j => (rn r j).Id))
     ⟨⟨y2.run, rfl, rfl, y2.len⟩, [], by rw [y2.bar_]; exact .nil, rfl⟩ (fun k s K hk hI hK => ?_) (fun s hI => ?_)
   · obtain ⟨of1, bar1, out, run1, pl1⟩ := s
     obtain ⟨G1, js, hG, ho⟩ := hI
     dsimp only at G1 hG ho hK ⊢
     have hbl := hG.len.2
     have hjl := hG.len.1
     have hfull := hG.full hF
     obtain ⟨j0, hj0, hfit0⟩ := full_fit hbl hk hfull
     refine wp_join (fun s : (List Int) × (List Bool) × (List Runner) × (List Int) × (List Int) => GF r P s.2.1 ⟨s.2.2.1, s.2.2.2.1, s.1, s.2.1⟩ ∧ ∃ js, Gre r P (k + 1) js s.2.1 ∧ s.2.2.2.2 = js.map (fun j => (rn r j).Id)) (fun K2 hK2 => ?_) (fun s hs => hK _ hs)
     refine wp_range (fun j (s : (List Int) × (List Bool) × (List Runner) × (List Int)) => s.2.1 = bar1 ∧ GF r P bar1 ⟨s.2.2.1, s.2.2.2, s.1, s.2.1⟩ ∧ ∀ q, q < j → ¬ Fit1 r P bar1 k q)
       ⟨rfl, G1, fun q hq => by omega⟩ (fun j s K3 hj hJ hK3 => ?_) (fun s hJ => absurd hfit0 (hJ.2.2 j0 hj0))
     obtain ⟨of2, bar2, run2, pl2⟩ := s
     obtain ⟨eb, G2, hno⟩ := hJ
     dsimp only at eb
     subst eb
     dsimp only at G2 hno hK3 hK2 ⊢
     refine wp_join (fun s : (List Int) × (List Bool) × (List Runner) × (List Int) => s.2.1 = bar2 ∧ GF r P bar2 ⟨s.2.2.1, s.2.2.2, s.1, s.2.1⟩ ∧ ∀ q, q < j + 1 → ¬ Fit1 r P bar2 k q) (fun K4 hK4 => ?_) (fun s hs => hK3 _ hs)
     have em := may_eq G2.run G2.pl G2.bar_ hbl hk hj
     refine wp_bindE em (wp_bif (fun hc => hK4 _ ⟨rfl, G2, fun q hq => ?_⟩) (fun hc => ?_))
     · by_cases e : q = j
       · subst e
         rintro ⟨⟨a1, a2⟩, _⟩
         rw [a1, decide_eq_true a2] at hc; cases hc
       · exact hno q (by omega)
     · have hadj : madj r P bar2 k j := by
         simp only [Bool.not_eq_false', Bool.and_eq_true, Bool.not_eq_true', decide_eq_true_eq] at hc
         exact hc
       refine wp_must (by omega) ?_
       have G3 : GF r P (bar2.set j true) ⟨run2, pl2, of2, bar2.set j true⟩ := ⟨G2.run, G2.pl, rfl, G2.len⟩
       have e1 : ((k : Int) + 1) = ((k + 1 : Nat) : Int) := by omega
       rw [e1]
       refine wp_bind (full_wp hr (by omega) (by rw [List.length_set]; exact hbl) hf (k := k + 1) hk G3) (fun z hz => ?_)
       obtain ⟨z1, z2⟩ := hz
       refine wp_bif (fun hzt => ?_) (fun hzf => ?_)
       · refine wp_mustR (by rw [ho]; simp; omega) (hK2 _ ⟨⟨z2.run, z2.pl, rfl, z2.len⟩, js ++ [j], ?_, ?_⟩)
         · dsimp only
           rw [z2.bar_]
           exact .snoc hG hk hj ⟨hadj, z1.1 hzt⟩ hno
         · dsimp only
           rw [ho, List.map_append]; rfl
       · have ez : z.2.barred.set j false = bar2 := by rw [z2.bar_]; exact set_back hadj.1
         refine wp_must (by rw [z2.bar_, List.length_set]; omega) (hK4 _ ⟨ez, ⟨z2.run, z2.pl, ez, z2.len⟩, fun q hq => ?_⟩)
         by_cases e : q = j
         · subst e
           intro hfit
           have := z1.2 hfit.2
           rw [this] at hzf; cases hzf
         · exact hno q (by omega)
   · obtain ⟨G1, js, hG, ho⟩ := hI
     exact wp_some (.inr ⟨hF, js, _, hG, by rw [ho]⟩)
end Go.Sp
end
/- Plain laws, fog: Assign; FogKept. No program in sight. -/
section
set_option linter.all false
namespace Go.Sp
open Go.Av
set_option maxRecDepth 100000
theorem pow2_in (d : Nat) (h : d < 60) : (1 : Int) ≤ (1 : Int) * 2 ^ d ∧ (1 : Int) * 2 ^ d ≤ 1152921504606846976 := by
 have h1 : (2 : Int) ^ d = ((2 ^ d : Nat) : Int) := by simp
 have h2 : 2 ^ d ≤ 2 ^ 60 := Nat.pow_le_pow_right (by omega) (by omega)
 have h3 : 0 < 2 ^ d := Nat.pow_pos (by omega)
 rw [h1]
 have h4 : (2 ^ 60 : Nat) = 1152921504606846976 := by decide
 omega
theorem runners_wp {fuel : Nat} (hf : 100 < fuel) (l : List Int) : Wp (gasolierref05_Runners fuel l) RunsOk := by
 unfold gasolierref05_Runners
 refine wp_for 8 (by omega) (fun i s => s.length = i ∧ ∀ j, j < i → RunOk s j ∧ (rn s j).Id = 2 * (j : Int) + 1) ⟨rfl, fun j hj => by omega⟩ (fun i s K hi hI hK => ?_)
 obtain ⟨h1, h2⟩ := hI
 refine wp_if (p := (i : Int) < (l.length : Int) ∧ (i : Int) < 8) (by simp) (fun h => ?_) (fun h => wp_some ⟨by dsimp only; omega, fun j hj => (h2 j (by dsimp only at hj; omega)).1⟩)
 have add : ∀ ds : List Int, (1 ≤ ds.length ∧ ds.length ≤ 9) → (∀ k, k < ds.length → (1 ≤ ds.getD k default ∧ ds.getD k default ≤ 9) ∧ (0 < k → ds.getD (k - 1) default < ds.getD k default)) →
     ((s ++ [(⟨2 * (i : Int) + 1, ds⟩ : Runner)]).length = i + 1 ∧ ∀ j, j < i + 1 → RunOk (s ++ [(⟨2 * (i : Int) + 1, ds⟩ : Runner)]) j ∧ (rn (s ++ [(⟨2 * (i : Int) + 1, ds⟩ : Runner)]) j).Id = 2 * (j : Int) + 1) := by
   intro ds d1 d2
   refine ⟨by simp [h1], fun j hj => ?_⟩
   have e : ∀ q, q < i → rn (s ++ [(⟨2 * (i : Int) + 1, ds⟩ : Runner)]) q = rn s q := fun q hq => by unfold rn; rw [getD_snoc, if_neg (by omega)]
   have e' : rn (s ++ [(⟨2 * (i : Int) + 1, ds⟩ : Runner)]) i = ⟨2 * (i : Int) + 1, ds⟩ := by unfold rn; rw [getD_snoc, if_pos h1.symm]
   by_cases ej : j = i
   · subst ej
     refine ⟨⟨by rw [e']; dsimp only; omega, fun h0 => ?_, by rw [e']; exact d1, by rw [e']; exact d2⟩, by rw [e']⟩
     rw [e', e _ (by omega), (h2 (j - 1) (by omega)).2]; dsimp only; omega
   · obtain ⟨g1, g2⟩ := h2 j (by omega)
     refine ⟨⟨by rw [e _ (by omega)]; exact g1.id_, fun h0 => ?_, by rw [e _ (by omega)]; exact g1.len, by rw [e _ (by omega)]; exact g1.dist⟩, by rw [e _ (by omega)]; exact g2⟩
     rw [e _ (by omega), e _ (by omega)]; exact g1.up h0
 refine wp_mustI (by omega) (wp_mustI (by omega) ?_)
 refine wp_loop (fun t : Int × List Int => ∃ d : Nat, t.1 = (d : Int) ∧ 1 ≤ d ∧ d ≤ 5 ∧ t.2.length ≤ 4 ∧ t.2.length + 1 ≤ d ∧ ∀ k, k < t.2.length → (1 ≤ t.2.getD k default ∧ t.2.getD k default < d) ∧ (0 < k → t.2.getD (k - 1) default < t.2.getD k default)) (fun t => 5 - t.1.toNat) (by simp only; omega) ⟨1, rfl, by omega, by omega, by simp, by simp, fun k hk => absurd hk (Nat.not_lt_zero _)⟩ ?_
 rintro ⟨t1, ds⟩ K2 ⟨d, rfl, d1, d2, d3, d4, d5⟩ hK2
 dsimp only at d3 d4 d5 hK2 ⊢
 refine wp_ifd (fun hle => ?_) (fun hgt => ?_)
 · have hd4 : d ≤ 4 := by omega
   have hp := pow2_in d (by omega)
   refine wp_must (by omega) (wp_must ⟨by omega, by omega, by unfold inI; simp only [Int.toNat_natCast]; omega⟩ ?_)
   refine wp_bif (fun _ => wp_mustR (by simp; omega) (wp_mustI (by omega) (hK2 _ ⟨d + 1, by simp, by omega, by omega, by simp; omega, by simp; omega, fun k hk => ?_⟩ (by simp only; omega)))) (fun _ => wp_mustI (by omega) (hK2 _ ⟨d + 1, by simp, by omega, by omega, d3, by dsimp only; omega, fun k hk => ?_⟩ (by simp only; omega)))
   · dsimp only at hk ⊢
     rw [List.length_append, List.length_cons, List.length_nil] at hk
     rw [getD_snoc, getD_snoc]
     by_cases ek : k = ds.length
     · rw [if_pos ek]
       refine ⟨by omega, fun h0 => ?_⟩
       rw [if_neg (by omega)]
       exact (d5 (k - 1) (by omega)).1.2
     · rw [if_neg ek, if_neg (by omega)]
       have := d5 k (by omega)
       exact ⟨⟨this.1.1, by omega⟩, this.2⟩
   · have := d5 k hk
     dsimp only
     exact ⟨⟨this.1.1, by omega⟩, this.2⟩
 · refine wp_ifd (fun h0 => ?_) (fun h0 => ?_)
   · obtain ⟨y, ey, y1, y2⟩ := mod5_eq (l.getD ((i : Int)).toNat default) (m := 4) (by omega) (by omega)
     refine wp_must (by omega) (wp_bindE ey (wp_mustI (by omega) (wp_mustR (by simp; omega) (wp_mustI (by omega) (hK _ (by omega) (add _ (by simp) (fun k hk => ?_)))))))
     have : k = 0 := by simpa using hk
     subst this
     exact ⟨by show 1 ≤ 1 + y ∧ 1 + y ≤ 9; omega, fun h => absurd h (Nat.lt_irrefl 0)⟩
   · refine wp_mustR (by simp; omega) (wp_mustI (by omega) (hK _ (by omega) (add ds (by omega) (fun k hk => ?_))))
     have := d5 k hk
     exact ⟨⟨this.1.1, by omega⟩, this.2⟩
open Classical in
noncomputable def leafR (p : List Node) (r : List Runner) (at_ : Int) : Int := if ¬ PolOk p then 53 else if ¬ RunsOk r then 54 else if 0 ≤ at_ ∧ at_ < p.length ∧ (nd p at_.toNat).Test = false then 0 else 55
theorem leafR_zero {p : List Node} {r : List Runner} {at_ : Int} : leafR p r at_ = 0 ↔ PolOk p ∧ RunsOk r ∧ 0 ≤ at_ ∧ at_ < p.length ∧ (nd p at_.toNat).Test = false := by
 unfold leafR
 by_cases h1 : PolOk p
 · rw [if_neg (fun h => h h1)]
   by_cases h2 : RunsOk r
   · rw [if_neg (fun h => h h2)]
     split
     · next h => exact ⟨fun _ => ⟨h1, h2, h⟩, fun _ => rfl⟩
     · next h => exact ⟨fun h => by omega, fun hh => absurd hh.2.2 h⟩
   · rw [if_pos h2]; exact ⟨fun h => by omega, fun h => absurd h.2.1 h2⟩
 · rw [if_pos h1]; exact ⟨fun h => by omega, fun h => absurd h.1 h1⟩
theorem fleaf_wp (p : List Node) (r : List Runner) (at_ : Int) : Wp (fog_leaf p r at_) (fun y => y.2 = leafR p r at_ ∧ (leafR p r at_ = 0 → y.1 = nd p at_.toNat)) := by
 unfold fog_leaf leafR
 by_cases h1 : PolOk p
 · rw [if_neg (fun h => h h1)]
   refine wp_bindE (fpol_ok h1) (wp_false rfl ?_)
   by_cases h2 : RunsOk r
   · rw [if_neg (fun h => h h2)]
     have hlen := h1.len
     refine wp_bindE (frun_ok h2) (wp_false rfl (wp_mustI (by omega) (wp_must (fun h => by simp only [Bool.not_not, fwithin_iff] at h; omega) ?_)))
     have en : p.getD at_.toNat default = nd p at_.toNat := rfl
     simp only [en]
     refine wp_bif (fun hb => ?_) (fun hb => ?_)
     · rw [if_neg (fun hh => ?_)]
       · exact wp_some ⟨rfl, fun h => by omega⟩
       · rw [fwithin_iff.2 (by omega), hh.2.2] at hb; cases hb
     · simp only [Bool.or_eq_false_iff, Bool.not_eq_false', fwithin_iff] at hb
       rw [if_pos ⟨hb.1.1, by omega, hb.2⟩]
       exact wp_must (by omega) (wp_some ⟨rfl, fun _ => rfl⟩)
   · rw [if_pos h2]
     exact wp_bindE (frun_bad h2) (wp_true rfl (wp_some ⟨rfl, fun h => by omega⟩))
 · rw [if_pos h1]
   exact wp_bindE (fpol_bad h1) (wp_true rfl (wp_some ⟨rfl, fun h => by omega⟩))
theorem leaf_sends {p : List Node} (V : PolOk p) {i : Int} (h0 : 0 ≤ i) (h1 : i < p.length) (ht : (nd p i.toNat).Test = false) : SendsOk (nd p i.toNat).Sends := ((V.node i.toNat (by omega)).1 ht).2
def AssR (p : List Node) (r : List Runner) (at_ : Int) (y : List Int × Int) : Prop :=
 (leafR p r at_ ≠ 0 ∧ y = ([], leafR p r at_)) ∨ (leafR p r at_ = 0 ∧ ((¬ Full r (plL (nd p at_.toNat).Sends) (nobar r) 0 ∧ y = ([], 57)) ∨
   (Full r (plL (nd p at_.toNat).Sends) (nobar r) 0 ∧ ∃ js bar, Gre r (plL (nd p at_.toNat).Sends) (plL (nd p at_.toNat).Sends).length js bar ∧ y = (js.map (fun j => (rn r j).Id), 0))))
theorem assign_wp {fuel : Nat} (p : List Node) (r : List Runner) (at_ : Int) (hf : 1100 < fuel) : Wp (fog_Assign fuel p r at_) (AssR p r at_) := by
 unfold fog_Assign
 refine wp_bind (fleaf_wp p r at_) (fun y hy => ?_)
 obtain ⟨y1, y2⟩ := hy
 rw [y1]
 refine wp_ifn (fun h => wp_some (.inl ⟨h, rfl⟩)) (fun h => ?_)
 rw [y2 h]
 obtain ⟨V, R, h0, h1, ht⟩ := leafR_zero.1 h
 refine wp_bind (give_wp R (leaf_sends V h0 h1 ht) hf) (fun z hz => ?_)
 rcases hz with ⟨hn, rfl⟩ | ⟨hF, js, bar, hG, rfl⟩
 · exact wp_true rfl (wp_some (.inr ⟨h, .inl ⟨hn, rfl⟩⟩))
 · exact wp_false rfl (wp_some (.inr ⟨h, .inr ⟨hF, js, bar, hG, rfl⟩⟩))
end Go.Sp
end
/- Plain laws, fog: too few runners; Hall's condition; the program's and the document's search for it. No program in sight. -/
section
set_option linter.all false
namespace Go.Sp
open Go.Av
set_option maxRecDepth 100000
def hasD (D : Int → Bool) (x : Runner) : Bool := x.Districts.any D
def needD (S : List Send) (D : Int → Bool) : Int := (S.map (fun s => if D s.District then s.Many else 0)).sum
def canD (L : List Runner) (D : Int → Bool) : Nat := (L.filter (hasD D)).length
def Lack (S : List Send) (L : List Runner) : Prop := ∃ D : Int → Bool, (canD L D : Int) < needD S D
def LackIn (S : List Send) (L : List Runner) (ds : List Int) : Prop := ∃ D : Int → Bool, (∀ d, D d = true → d ∈ ds) ∧ (canD L D : Int) < needD S D
def leftL (r : List Runner) (bar : List Bool) : List Runner := ((List.range r.length).filter (fun j => !bar.getD j default)).map (rn r)
theorem need_plL (D : Int → Bool) : ∀ {S : List Send}, (∀ s ∈ S, 0 ≤ s.Many) → needD S D = (((plL S).filter D).length : Int)
 | [], _ => rfl
 | s :: S, h => by
   have ih := need_plL D (S := S) (fun x hx => h x (List.mem_cons_of_mem _ hx))
   have h0 := h s List.mem_cons_self
   have e1 : plL (s :: S) = List.replicate s.Many.toNat s.District ++ plL S := rfl
   have e2 : needD (s :: S) D = (if D s.District then s.Many else 0) + needD S D := by unfold needD; rw [List.map_cons, List.sum_cons]
   rw [e1, e2, List.filter_append, List.length_append, List.filter_replicate, ih]
   cases D s.District
   · simp
   · simp; omega
theorem can_left (r : List Runner) (bar : List Bool) (D : Int → Bool) : canD (leftL r bar) D = ((List.range r.length).filter (fun j => !bar.getD j default && hasD D (rn r j))).length := by
 unfold canD leftL
 rw [List.filter_map, List.length_map, List.filter_filter]
 congr 1
 exact List.filter_congr fun j _ => by rw [Bool.and_comm]; rfl
theorem drop_range (P : List Int) (k : Nat) : P.drop k = (List.range' k (P.length - k)).map (fun i => P.getD i default) := by
 refine List.ext_getElem (by simp) (fun i h1 h2 => ?_)
 rw [List.length_drop] at h1
 simp [List.getElem?_eq_getElem (show k + i < P.length by omega)]
theorem full_lack {r : List Runner} {P : List Int} {bar : List Bool} {k : Nat} {S : List Send} (hS : ∀ s ∈ S, 0 ≤ s.Many) (e : plL S = P.drop k) : Full r P bar k ↔ ¬ Lack S (leftL r bar) := by
 have hI : ∀ D : Int → Bool, needD S D = (((List.range' k (P.length - k)).filter (fun i => D (P.getD i default))).length : Int) := fun D => by
   rw [need_plL D hS, e, drop_range, List.filter_map, List.length_map]; rfl
 have hnd : ∀ D : Int → Bool, ((List.range' k (P.length - k)).filter (fun i => D (P.getD i default))).Nodup := fun D => List.Pairwise.filter _ List.nodup_range'
 have hm : ∀ i, i ∈ List.range' k (P.length - k) ↔ k ≤ i ∧ i < P.length := fun i => by rw [List.mem_range'_1]; omega
 constructor
 · rintro ⟨g, g1, g2⟩ ⟨D, hD⟩
   rw [hI D, can_left] at hD
   have := length_le_inj (r := (List.range r.length).filter (fun j => !bar.getD j default && hasD D (rn r j))) g (hnd D) (fun i hi => ?_) (fun i hi i' hi' ee => ?_)
   · omega
   · obtain ⟨a, b⟩ := List.mem_filter.1 hi
     obtain ⟨c1, c2, c3⟩ := g1 i ((hm i).1 a)
     rw [List.mem_filter, List.mem_range]
     refine ⟨c1, ?_⟩
     rw [c2]
     simp only [Bool.not_false, Bool.true_and]
     unfold hasD
     rw [List.any_eq_true]
     exact ⟨_, c3, b⟩
   · exact g2 i i' ((hm i).1 (List.mem_filter.1 hi).1) ((hm i').1 (List.mem_filter.1 hi').1) ee
 · intro hno
   apply Classical.byContradiction
   intro hF
   obtain ⟨T', t1, t2, t3⟩ := hall_few (adj := madj r P bar) (m := r.length) _ (List.range' k (P.length - k)) (Nat.le_refl _) List.nodup_range' (fun ⟨g, g1, g2⟩ => hF ⟨g, fun i hi => g1 i ((hm i).2 hi), fun i i' hi hi' => g2 i i' ((hm i).2 hi) ((hm i').2 hi')⟩)
   refine hno ⟨fun d => T'.any (fun i => decide (P.getD i default = d)), ?_⟩
   rw [hI, can_left]
   have h3 := t3 ((List.range r.length).filter (fun j => !bar.getD j default && hasD (fun d => T'.any (fun i => decide (P.getD i default = d))) (rn r j))) (List.Pairwise.filter _ List.nodup_range) (fun q hq => ?_)
   · have h4 := nodup_le t2 (r := (List.range' k (P.length - k)).filter (fun i => T'.any (fun i' => decide (P.getD i' default = P.getD i default)))) (fun i hi => by
       rw [List.mem_filter, List.any_eq_true]
       exact ⟨t1 i hi, i, hi, decide_eq_true rfl⟩)
     omega
   · rw [List.mem_filter, List.mem_range, Bool.and_eq_true, Bool.not_eq_true'] at hq
     obtain ⟨h1, h2, h3⟩ := hq
     unfold hasD at h3
     rw [List.any_eq_true] at h3
     obtain ⟨d, hd, h4⟩ := h3
     rw [List.any_eq_true] at h4
     obtain ⟨i, hi, h5⟩ := h4
     exact ⟨h1, i, hi, h2, by rw [of_decide_eq_true h5]; exact hd⟩
theorem mask_ex (W : Nat → Bool) : ∀ n : Nat, ∃ m : Nat, m < 2 ^ n ∧ ∀ i, i < n → m.testBit i = W i
 | 0 => ⟨0, by simp, fun i hi => by omega⟩
 | n + 1 => by
   obtain ⟨m, h1, h2⟩ := mask_ex W n
   have hp : 2 ^ (n + 1) = 2 ^ n + 2 ^ n := by rw [Nat.pow_succ]; omega
   cases hW : W n with
   | false =>
     refine ⟨m, by omega, fun i hi => ?_⟩
     by_cases e : i = n
     · rw [e, Nat.testBit_lt_two_pow h1, hW]
     · exact h2 i (by omega)
   | true =>
     refine ⟨m ||| 2 ^ n, or_lt (by omega) (by omega), fun i hi => ?_⟩
     rw [or_bit]
     by_cases e : i = n
     · rw [e, hW]; simp
     · rw [h2 i (by omega), decide_eq_false e, Bool.or_false]
def needW (S : List Send) (W : Nat → Bool) (n : Nat) : Int := ((List.range n).map (fun i => if W i then (sd S i).Many else 0)).sum
def hasW (S : List Send) (W : Nat → Bool) (n : Nat) (x : Runner) : Bool := (List.range n).any (fun i => W i && decide ((sd S i).District ∈ x.Districts))
def LackW (S : List Send) (L : List Runner) (W : Nat → Bool) : Prop := ((L.filter (hasW S W S.length)).length : Int) < needW S W S.length
instance (S : List Send) (L : List Runner) (W : Nat → Bool) : Decidable (LackW S L W) := inferInstanceAs (Decidable (_ < _))
theorem pow9 {n : Nat} (h : n ≤ 9) : 1 ≤ 2 ^ n ∧ 2 ^ n ≤ 512 := by
 have h1 : 2 ^ n ≤ 2 ^ 9 := Nat.pow_le_pow_right (by omega) h
 have h2 : 0 < 2 ^ n := Nat.pow_pos (by omega)
 have h3 : (2 ^ 9 : Nat) = 512 := by decide
 omega
theorem pow9i {n : Nat} : ((1 : Int) * 2 ^ ((n : Int)).toNat) = ((2 ^ n : Nat) : Int) := by simp
end Go.Sp
end
/- Plain laws, fog: too few runners, by the program; Short, CheckShort, CheckAssign. No program in sight. -/
section
set_option linter.all false
namespace Go.Sp
open Go.Av
set_option maxRecDepth 100000
theorem sd_mem {S : List Send} {s : Send} (h : s ∈ S) : ∃ i, i < S.length ∧ sd S i = s := mem_getD h
theorem sends_nn {S : List Send} (h : SendsOk S) : ∀ s ∈ S, 0 ≤ s.Many := fun s hs => by
 obtain ⟨i, hi, rfl⟩ := sd_mem hs
 have := (h.2 i hi).2.1; omega
theorem sends_asc {S : List Send} (h : SendsOk S) : S.Pairwise (fun a b => a.District < b.District) := by
 rw [List.pairwise_iff_getElem]
 have key : ∀ d i, i + d + 1 < S.length → (sd S i).District < (sd S (i + d + 1)).District := by
   intro d
   induction d with
   | zero => intro i hi; have := (h.2 (i + 0 + 1) hi).2.2 (by omega); have e : i + 0 + 1 - 1 = i := by omega
             rw [e] at this; exact this
   | succ d ih => intro i hi; have h1 := ih i (by omega); have h2 := (h.2 (i + (d + 1) + 1) hi).2.2 (by omega); have e : i + (d + 1) + 1 - 1 = i + d + 1 := by omega
                  rw [e] at h2; omega
 intro i j hi hj hij
 have := key (j - i - 1) i (by omega)
 have e : i + (j - i - 1) + 1 = j := by omega
 rw [e] at this
 have ea : S[i] = sd S i := by unfold sd; simp [List.getElem?_eq_getElem hi]
 have eb : S[j] = sd S j := by unfold sd; simp [List.getElem?_eq_getElem hj]
 rw [ea, eb]; exact this
theorem containsFunc_eq {p : Int → Option Bool} {q : Int → Bool} (hp : ∀ x, p x = some (q x)) (l : List Int) : slices_ContainsFunc_int l p = some (l.any q) := by
 unfold slices_ContainsFunc_int slices_IndexFunc_int
 rw [indexFunc_eq hp l]
 cases h : l.findIdx? q with
 | none =>
   rw [List.findIdx?_eq_none_iff] at h
   refine congrArg some ?_
   rw [decide_eq_false (by decide)]
   symm
   rw [List.any_eq_false]
   exact fun x hx => by rw [h x hx]; simp
 | some i =>
   rw [List.findIdx?_eq_some_iff_getElem] at h
   obtain ⟨h1, h2, _⟩ := h
   refine congrArg some ?_
   simp only
   rw [decide_eq_true (by omega)]
   symm
   rw [List.any_eq_true]
   exact ⟨_, List.getElem_mem h1, h2⟩
theorem containsSend_eq {q : Send → Bool} (l : List Send) : slices_ContainsFunc_Send l (fun x => some (q x)) = some (l.any q) := by
 unfold slices_ContainsFunc_Send slices_IndexFunc_Send
 rw [indexFunc_eq (q := q) (fun _ => rfl) l]
 cases h : l.findIdx? q with
 | none =>
   rw [List.findIdx?_eq_none_iff] at h
   refine congrArg some ?_
   rw [decide_eq_false (by decide)]
   symm
   rw [List.any_eq_false]
   exact fun x hx => by rw [h x hx]; simp
 | some i =>
   rw [List.findIdx?_eq_some_iff_getElem] at h
   obtain ⟨h1, h2, _⟩ := h
   refine congrArg some ?_
   simp only
   rw [decide_eq_true (by omega)]
   symm
   rw [List.any_eq_true]
   exact ⟨_, List.getElem_mem h1, h2⟩
theorem few1_eq (x : Int) (ds : List Int) : fog_few_1 x ds = some (decide (x ∈ ds)) := by
 unfold fog_few_1
 rw [contains_eq]; rfl
def inL (ds : List Int) : Int → Bool := fun d => decide (d ∈ ds)
theorem need_take {S : List Send} (D : Int → Bool) {i : Nat} (h : i < S.length) : needD (S.take (i + 1)) D = needD (S.take i) D + if D (sd S i).District then (sd S i).Many else 0 := by
 unfold needD
 rw [take_getD h, List.map_append, List.sum_append]
 simp [sd]
theorem need_bound {S : List Send} (h : SendsOk S) (D : Int → Bool) : ∀ {i : Nat}, i ≤ S.length → 0 ≤ needD (S.take i) D ∧ needD (S.take i) D ≤ 20 * (i : Int)
 | 0, _ => by simp [needD]
 | i + 1, hi => by
   have ih := need_bound h D (i := i) (by omega)
   have h0 := (h.2 i hi).2.1
   rw [need_take D hi]
   split <;> omega
theorem can_take {r : List Runner} (D : Int → Bool) {j : Nat} (h : j < r.length) : canD (r.take (j + 1)) D = canD (r.take j) D + if hasD D (rn r j) then 1 else 0 := by
 unfold canD
 rw [take_getD h, List.filter_append, List.length_append, List.filter_cons]
 show _ + (if hasD D (rn r j) then _ else _ : List Runner).length = _
 split <;> rfl
theorem ffew_eq {n : Node} (h : SendsOk n.Sends) {r : List Runner} (hr : r.length ≤ 20) (ds : List Int) : fog_few n r ds = some (decide ((canD r (inL ds) : Int) < needD n.Sends (inL ds))) := by
 unfold fog_few
 have h9 := h.1
 refine Wp.eq (wp_range (fun i s => s = needD (n.Sends.take i) (inL ds)) rfl (fun i s K hi hI hK => ?_) (fun s hI => ?_))
 · have hb := need_bound h (inL ds) (i := i) (by omega)
   have hm := (h.2 i hi).2.1
   have et := need_take (inL ds) hi
   have en : n.Sends.getD i default = sd n.Sends i := rfl
   rw [en]
   refine wp_bindE (contains_eq _ _) (wp_bif (fun hc => ?_) (fun hc => hK _ ?_))
   · refine wp_bindE (fsum_wp [s, (sd n.Sends i).Many] (fun k hk => ?_)) (hK _ ?_)
     · have hk : k = 0 ∨ k = 1 ∨ k = 2 := by simp only [List.length_cons, List.length_nil] at hk; omega
       rcases hk with rfl | rfl | rfl <;> simp <;> omega
     · have hc' : inL ds (sd n.Sends i).District = true := hc
       rw [et, if_pos hc', hI]; simp
   · have hc' : inL ds (sd n.Sends i).District = false := hc
     rw [et, if_neg (by rw [hc']; simp), hI]; simp
 · rw [List.take_length] at hI
   refine wp_range (fun j c => c = (canD (r.take j) (inL ds) : Int)) rfl (fun j c K hj hJ hK => ?_) (fun c hJ => wp_some ?_)
   · have et := can_take (inL ds) hj
     have hcl : canD (r.take j) (inL ds) ≤ 20 := Nat.le_trans (List.length_filter_le _ _) (by rw [List.length_take]; omega)
     have en : r.getD j default = rn r j := rfl
     rw [en]
     refine wp_bindE (containsFunc_eq (q := inL ds) (fun x => few1_eq x ds) _) (wp_bif (fun hc => wp_mustI (by omega) (hK _ ?_)) (fun hc => hK _ ?_))
     · have hc' : hasD (inL ds) (rn r j) = true := hc
       rw [et, if_pos hc', hJ]; simp
     · have hc' : hasD (inL ds) (rn r j) = false := hc
       rw [et, if_neg (by rw [hc']; simp), hJ]; simp
   · rw [List.take_length] at hJ
     rw [hJ, hI]
theorem bit_sh (m i : Nat) : decide (((((Int.fdiv (m : Int) (2 ^ ((i : Int)).toNat)) : Int).toNat &&& (1 : Int).toNat : Nat) : Int) = 1) = m.testBit i := by
 rw [Int.toNat_natCast, fdiv_bit (Int.natCast_nonneg _), Int.toNat_natCast, Int.toNat_natCast]
 have : ((1 : Int)).toNat = 1 := rfl
 rw [this, bit_one]
 cases m.testBit i <;> rfl
def mskL (ds : List Int) (m n : Nat) : List Int := ((List.range n).filter (fun k => m.testBit k)).map (fun k => ds.getD k default)
theorem mskL_succ (ds : List Int) (m n : Nat) : mskL ds m (n + 1) = mskL ds m n ++ if m.testBit n then [ds.getD n default] else [] := by
 unfold mskL
 rw [List.range_succ, List.filter_append, List.map_append]
 congr 1
 rw [List.filter_cons]
 split <;> rfl
theorem mskL_mem {ds : List Int} {m : Nat} {d : Int} : d ∈ mskL ds m ds.length ↔ ∃ k, k < ds.length ∧ m.testBit k = true ∧ ds.getD k default = d := by
 unfold mskL
 rw [List.mem_map]
 constructor
 · rintro ⟨k, hk, e⟩
   obtain ⟨a, b⟩ := List.mem_filter.1 hk
   exact ⟨k, List.mem_range.1 a, b, e⟩
 · rintro ⟨k, a, b, e⟩
   exact ⟨k, List.mem_filter.2 ⟨List.mem_range.2 a, b⟩, e⟩
theorem fsome_wp {n : Node} (h : SendsOk n.Sends) {r : List Runner} (hr : r.length ≤ 20) {ds : List Int} (hd : ds.length ≤ 9) : Wp (fog_some n r ds) (fun b => b = true ↔ LackIn n.Sends r ds) := by
 unfold fog_some
 have hp := pow9 hd
 rw [pow9i]
 have hin : LackIn n.Sends r ds ↔ ∃ m : Nat, m < 2 ^ ds.length ∧ (canD r (inL (mskL ds m ds.length)) : Int) < needD n.Sends (inL (mskL ds m ds.length)) := by
   constructor
   · rintro ⟨D, d1, d2⟩
     obtain ⟨m, m1, m2⟩ := mask_ex (fun k => D (ds.getD k default)) ds.length
     have e : inL (mskL ds m ds.length) = D := by
       funext d
       unfold inL
       rw [Bool.eq_iff_iff, decide_eq_true_eq, mskL_mem]
       constructor
       · rintro ⟨k, k1, k2, rfl⟩
         rw [m2 k k1] at k2; exact k2
       · intro hD
         obtain ⟨k, k1, rfl⟩ := mem_getD (d1 d hD)
         exact ⟨k, k1, by rw [m2 k k1]; exact hD, rfl⟩
     exact ⟨m, m1, by rw [e]; exact d2⟩
   · rintro ⟨m, m1, m2⟩
     refine ⟨_, fun d hD => ?_, m2⟩
     obtain ⟨k, k1, _, rfl⟩ := mskL_mem.1 (of_decide_eq_true hD)
     exact getD_mem k1
 refine wp_must ⟨by omega, by omega, by unfold inI; omega⟩ (wp_must (by omega) ?_)
 show Wp (rangeGo _ _ (2 ^ ds.length) 0 ()) _
 refine wp_forall (fun m => ¬ ((canD r (inL (mskL ds m ds.length)) : Int) < needD n.Sends (inL (mskL ds m ds.length)))) (fun m K hm _ hK => ?_) (fun hall => wp_some ⟨fun h => (by cases h), fun hl => ?_⟩)
 · refine wp_range (fun k s => s = mskL ds m k) rfl (fun k s K2 hk hI hK2 => ?_) (fun s hI => ?_)
   · have hf : 0 ≤ Int.fdiv (m : Int) (2 ^ ((k : Int)).toNat) ∧ Int.fdiv (m : Int) (2 ^ ((k : Int)).toNat) ≤ 512 := by
       rw [Int.toNat_natCast, fdiv_bit (Int.natCast_nonneg _), Int.toNat_natCast]
       have : m >>> k ≤ m := by rw [Nat.shiftRight_eq_div_pow]; exact Nat.div_le_self _ _
       generalize m >>> k = q at this
       omega
     have es := mskL_succ ds m k
     have hsl : s.length ≤ 9 := by
       rw [hI]; unfold mskL; rw [List.length_map]
       exact Nat.le_trans (List.length_filter_le _ _) (by rw [List.length_range]; omega)
     refine wp_must (by omega) (wp_must ⟨hf.1, by omega, by unfold inI; omega, by unfold inI; omega⟩ ?_)
     rw [bit_sh]
     refine wp_bif (fun hb => wp_mustR (by simp; omega) (hK2 _ ?_)) (fun hb => hK2 _ ?_)
     · rw [es, if_pos hb, hI]
     · rw [es, if_neg (by rw [hb]; simp), hI, List.append_nil]
   · rw [hI]
     refine wp_bindE (ffew_eq h hr _) (wp_bif (fun hb => wp_some ⟨fun _ => hin.2 ⟨m, hm, of_decide_eq_true hb⟩, fun _ => rfl⟩) (fun hb => hK (of_decide_eq_false hb)))
 · obtain ⟨m, m1, m2⟩ := hin.1 hl
   exact absurd m2 (hall m m1)
def dsL (T : List Send) : List Int := T.map (·.District)
theorem need_sub {S T : List Send} (h : T.Sublist S) (D : Int → Bool) : S.Pairwise (fun a b => a.District < b.District) → (∀ s ∈ S, D s.District = true → s.District ∈ dsL T) → needD S D = needD T D := by
 induction h with
 | slnil => intro _ _; rfl
 | @cons l1 l2 a hs ih =>
   intro hp hD
   rw [List.pairwise_cons] at hp
   have e : needD (a :: l2) D = (if D a.District then a.Many else 0) + needD l2 D := by unfold needD; rw [List.map_cons, List.sum_cons]
   have ha : D a.District = false := by
     cases hda : D a.District with
     | false => rfl
     | true =>
       have := hD a List.mem_cons_self hda
       unfold dsL at this
       rw [List.mem_map] at this
       obtain ⟨t, ht, et⟩ := this
       have := hp.1 t (hs.subset ht); omega
   rw [e, ha, ih hp.2 (fun s hs' => hD s (List.mem_cons_of_mem _ hs'))]; simp
 | @cons_cons l1 l2 a hs ih =>
   intro hp hD
   rw [List.pairwise_cons] at hp
   have e : ∀ l : List Send, needD (a :: l) D = (if D a.District then a.Many else 0) + needD l D := fun l => by unfold needD; rw [List.map_cons, List.sum_cons]
   rw [e, e, ih hp.2 (fun s hs' hd => ?_)]
   have := hD s (List.mem_cons_of_mem _ hs') hd
   unfold dsL at this
   rw [List.map_cons, List.mem_cons] at this
   rcases this with h | h
   · have := hp.1 s hs'; omega
   · exact h
theorem can_mono {r : List Runner} {D D' : Int → Bool} (h : ∀ d, D d = true → D' d = true) : canD r D ≤ canD r D' := by
 unfold canD
 have e : r.filter (hasD D) = (r.filter (hasD D')).filter (hasD D) := by
   rw [List.filter_filter]
   refine List.filter_congr fun x _ => ?_
   cases hx : hasD D x with
   | false => rfl
   | true =>
     unfold hasD at hx
     rw [List.any_eq_true] at hx
     obtain ⟨d, hd, e⟩ := hx
     have : hasD D' x = true := by unfold hasD; rw [List.any_eq_true]; exact ⟨d, hd, h d e⟩
     rw [this]; rfl
 rw [e]
 exact List.length_filter_le _ _
theorem lackIn_iff {S T : List Send} (h : T.Sublist S) (hp : S.Pairwise (fun a b => a.District < b.District)) (r : List Runner) : LackIn S r (dsL T) ↔ Lack T r := by
 constructor
 · rintro ⟨D, d1, d2⟩
   refine ⟨D, ?_⟩
   rw [← need_sub h D hp (fun s _ hd => d1 _ hd)]; exact d2
 · rintro ⟨D, hD⟩
   refine ⟨fun d => D d && decide (d ∈ dsL T), fun d hd => ?_, ?_⟩
   · rw [Bool.and_eq_true] at hd; exact of_decide_eq_true hd.2
   · rw [need_sub h _ hp (fun s _ hd => by rw [Bool.and_eq_true] at hd; exact of_decide_eq_true hd.2)]
     have e : needD T (fun d => D d && decide (d ∈ dsL T)) = needD T D := by
       unfold needD
       refine congrArg List.sum (List.map_congr_left fun s hs => ?_)
       have : s.District ∈ dsL T := List.mem_map.2 ⟨s, hs, rfl⟩
       simp only [decide_eq_true this, Bool.and_true]
     have := can_mono (r := r) (D := fun d => D d && decide (d ∈ dsL T)) (D' := D) (fun d hd => by rw [Bool.and_eq_true] at hd; exact hd.1)
     rw [e]; omega
end Go.Sp
end
/- Plain laws, fog: Short and CheckShort, by program and document. No program in sight. -/
section
set_option linter.all false
namespace Go.Sp
open Go.Av
set_option maxRecDepth 100000
theorem rise_few {l : List Int} : ∀ {i : Nat}, (∀ j, j < i → (1 ≤ l.getD j default ∧ l.getD j default ≤ 9) ∧ (0 < j → l.getD (j - 1) default < l.getD j default)) → i ≤ 9 := by
 intro i h
 have key : ∀ j, j < i → (j : Int) + 1 ≤ l.getD j default := by
   intro j
   induction j with
   | zero => intro hj; have := (h 0 hj).1; omega
   | succ j ih =>
     intro hj
     have h1 := ih (by omega)
     have h2 := (h (j + 1) hj).2 (by omega)
     have e : j + 1 - 1 = j := by omega
     rw [e] at h2
     omega
 by_cases h0 : i = 0
 · omega
 · have := key (i - 1) (by omega)
   have := (h (i - 1) (by omega)).1
   omega
def cutI {T : Type} (l : List T) (k : Nat) : List T := l.take k ++ l.drop (k + 1)
theorem cutI_sub {T : Type} (l : List T) (i : Nat) : (cutI l i).Sublist l := by
 unfold cutI
 have h : (l.drop (i + 1)).Sublist (l.drop i) := by
   rw [show l.drop (i + 1) = (l.drop i).drop 1 by rw [List.drop_drop]]
   exact List.drop_sublist _ _
 have := (List.Sublist.refl (l.take i)).append h
 rwa [List.take_append_drop] at this
theorem cutI_len {T : Type} {l : List T} {k : Nat} (h : k < l.length) : (cutI l k).length + 1 = l.length := by unfold cutI; simp; omega
theorem cutI_map {S T : Type} (f : S → T) (l : List S) (k : Nat) : (cutI l k).map f = cutI (l.map f) k := by unfold cutI; rw [List.map_append, List.map_take, List.map_drop]
open Classical in
noncomputable def cutS (r : List Runner) : Nat → List Send → List Send
 | 0, T => T
 | k + 1, T => if Lack (cutI T k) r then cutS r k (cutI T k) else cutS r k T
open Classical in
theorem cutS_succ (r : List Runner) (k : Nat) (T : List Send) : cutS r (k + 1) T = if Lack (cutI T k) r then cutS r k (cutI T k) else cutS r k T := rfl
theorem cutS_lack (r : List Runner) : ∀ (k : Nat) (T : List Send), Lack T r → Lack (cutS r k T) r
 | 0, T, h => h
 | k + 1, T, h => by
   unfold cutS
   split
   · next h' => exact cutS_lack r k _ h'
   · exact cutS_lack r k T h
theorem cutS_sub (r : List Runner) : ∀ (k : Nat) (T : List Send), (cutS r k T).Sublist T
 | 0, T => List.Sublist.refl T
 | k + 1, T => by
   unfold cutS
   split
   · exact (cutS_sub r k _).trans (cutI_sub T k)
   · exact cutS_sub r k T
open Classical in
noncomputable def shortR (p : List Node) (r : List Runner) (at_ : Int) : List Int × Int :=
 if leafR p r at_ ≠ 0 then ([], leafR p r at_) else if ¬ Lack (nd p at_.toNat).Sends r then ([], 58) else (dsL (cutS r (nd p at_.toNat).Sends.length (nd p at_.toNat).Sends), 0)
theorem deleteInt_eq {l : List Int} {i : Nat} (hi : i < l.length) (hl : l.length ≤ 60) : slices_Delete_int l (i : Int) ((i : Int) + 1) = some (cutI l i) := by
 unfold slices_Delete_int
 have e1 : ((i : Int) + 1).toNat = i + 1 := by omega
 have e2 : (l.take i ++ l.drop (i + 1)).length = l.length - 1 := by simp; omega
 refine Wp.eq (wp_must (by omega) (wp_ifd (fun h => by omega) (fun _ => wp_must (by omega) (wp_must (by omega) (wp_must (by omega) ?_)))))
 simp only [Int.toNat_natCast, e1, e2]
 exact wp_must (by omega) (wp_some rfl)
theorem fShort_eq {fuel : Nat} (hf : 61 < fuel) (p : List Node) (r : List Runner) (at_ : Int) : fog_Short fuel p r at_ = some (shortR p r at_) := by
 unfold fog_Short shortR
 refine Wp.eq (wp_bind (fleaf_wp p r at_) (fun y hy => ?_))
 obtain ⟨y1, y2⟩ := hy
 rw [y1]
 refine wp_ifn (fun h => ?_) (fun h => ?_)
 · rw [if_pos h]; exact wp_some rfl
 · rw [if_neg (by simp [h]), y2 h]
   obtain ⟨V, R, h0, h1, ht⟩ := leafR_zero.1 h
   have hS := leaf_sends V h0 h1 ht
   have hasc := sends_asc hS
   have hr := R.len
   have h9 := hS.1
   generalize nd p at_.toNat = n at hS hasc h9 ⊢
   refine wp_range (fun i s => s = dsL (n.Sends.take i)) (by simp [dsL]) (fun i s K hi hI hK => ?_) (fun s hI => ?_)
   · refine wp_mustR (by rw [hI]; unfold dsL; simp; omega) (hK _ ?_)
     rw [hI, take_getD hi]
     unfold dsL
     rw [List.map_append]; rfl
   · rw [List.take_length] at hI
     subst hI
     have hl0 := lackIn_iff (List.Sublist.refl n.Sends) hasc r
     have hdl : (dsL n.Sends).length = n.Sends.length := by simp [dsL]
     refine wp_bind (fsome_wp hS hr (ds := dsL n.Sends) (by omega)) (fun b hb => ?_)
     rw [hl0] at hb
     cases b with
     | false =>
       have hno : ¬ Lack n.Sends r := fun h => nomatch (hb.2 h)
       rw [if_pos hno]
       exact wp_true rfl (wp_some rfl)
     | true =>
       have hyes := hb.1 rfl
       rw [if_neg (fun h => h hyes)]
       refine wp_false rfl (wp_mustI (by omega) ?_)
       refine wp_loop (fun s : Int × List Int => ∃ (k : Nat) (T : List Send), s.1 = (k : Int) - 1 ∧ s.2 = dsL T ∧ T.Sublist n.Sends ∧ k ≤ T.length ∧ cutS r k T = cutS r n.Sends.length n.Sends) (fun s => (s.1 + 1).toNat) (by simp only; omega) ⟨n.Sends.length, n.Sends, by simp only; omega, rfl, List.Sublist.refl _, Nat.le_refl _, rfl⟩ ?_
       rintro ⟨s1, s2⟩ K ⟨k, T, e1, e2, hT, hk, hc⟩ hK
       dsimp only at e1 e2 hK ⊢
       subst e1 e2
       have hTl := hT.length_le
       have hdT : (dsL T).length = T.length := by simp [dsL]
       refine wp_ifd (fun hge => ?_) (fun hlt => wp_some ?_)
       · obtain ⟨q, rfl⟩ : ∃ q, k = q + 1 := ⟨k - 1, by omega⟩
         have eq_ : (((q + 1 : Nat) : Int) - 1) = (q : Int) := by omega
         rw [eq_]
         have hcut : cutI (dsL T) q = dsL (cutI T q) := (cutI_map _ T q).symm
         refine wp_bindE (v := dsL T) (must_yes (by unfold room; simp; omega) _) (wp_mustI (by omega) (wp_bindE (deleteInt_eq (by omega) (by omega)) ?_))
         rw [hcut]
         have hsub := (cutI_sub T q).trans hT
         have hcl := cutI_len (l := T) (k := q) (by omega)
         refine wp_bind (fsome_wp hS hr (ds := dsL (cutI T q)) (by have : (dsL (cutI T q)).length = (cutI T q).length := by simp [dsL]
                                                                   omega)) (fun b hb => ?_)
         rw [lackIn_iff hsub hasc r] at hb
         rw [cutS_succ] at hc
         cases b with
         | true =>
           rw [if_pos (hb.1 rfl)] at hc
           exact wp_true rfl (wp_mustI (by omega) (hK _ ⟨q, cutI T q, rfl, rfl, hsub, by omega, hc⟩ (by simp only; omega)))
         | false =>
           rw [if_neg (fun h => nomatch (hb.2 h))] at hc
           exact wp_false rfl (wp_mustI (by omega) (hK _ ⟨q, T, rfl, rfl, hT, by omega, hc⟩ (by simp only; omega)))
       · have : k = 0 := by omega
         subst this
         rw [← hc]; rfl
end Go.Sp
end
/- Plain laws, fog: CheckShort and CheckAssign, by program and document. No program in sight. -/
section
set_option linter.all false
namespace Go.Sp
open Go.Av
set_option maxRecDepth 100000
structure CSOk (S : List Send) (r : List Runner) (ds : List Int) : Prop where
 some_ : 0 < ds.length
 all : ∀ k, k < ds.length → ds.getD k default ∈ dsL S ∧ (0 < k → ds.getD (k - 1) default < ds.getD k default)
 few : (canD r (inL ds) : Int) < needD S (inL ds)
theorem dsL_in {S : List Send} (h : SendsOk S) {d : Int} (hd : d ∈ dsL S) : 1 ≤ d ∧ d ≤ 9 := by
 unfold dsL at hd
 rw [List.mem_map] at hd
 obtain ⟨s, hs, rfl⟩ := hd
 obtain ⟨i, hi, rfl⟩ := sd_mem hs
 exact (h.2 i hi).1
open Classical in
noncomputable def csR (p : List Node) (r : List Runner) (at_ : Int) (ds : List Int) : Int := if leafR p r at_ ≠ 0 then leafR p r at_ else if CSOk (nd p at_.toNat).Sends r ds then 0 else 59
theorem fCheckShort_eq (p : List Node) (r : List Runner) (at_ : Int) (ds : List Int) : fog_CheckShort p r at_ ds = some (csR p r at_ ds) := by
 unfold fog_CheckShort csR
 refine Wp.eq (wp_bind (fleaf_wp p r at_) (fun y hy => ?_))
 obtain ⟨y1, y2⟩ := hy
 rw [y1]
 refine wp_ifn (fun h => ?_) (fun h => ?_)
 · rw [if_pos h]; exact wp_some rfl
 · rw [if_neg (by simp [h]), y2 h]
   obtain ⟨V, R, h0, h1, ht⟩ := leafR_zero.1 h
   have hS := leaf_sends V h0 h1 ht
   have hr := R.len
   generalize nd p at_.toNat = n at hS ⊢
   refine wp_forall (fun k => ds.getD k default ∈ dsL n.Sends ∧ (0 < k → ds.getD (k - 1) default < ds.getD k default)) (fun k K hk hI hK => ?_) (fun hall => ?_)
   · have h9 := rise_few (l := ds) (i := k) (fun j hj => ⟨dsL_in hS (hI j hj).1, (hI j hj).2⟩)
     have e1 : (((k : Int) - 1)).toNat = k - 1 := by omega
     refine wp_must (fun _ => by unfold inI; omega) (wp_must (fun h => by simp at h; omega) ?_)
     rw [e1]
     have hmem : (n.Sends.any (fun x0 => fog_CheckShort_1 x0 (ds.getD k default))) = true ↔ ds.getD k default ∈ dsL n.Sends := by
       unfold dsL
       rw [List.any_eq_true, List.mem_map]
       unfold fog_CheckShort_1
       simp only [decide_eq_true_eq]
     refine wp_on (Q := fun b => b = true ↔ ds.getD k default ∈ dsL n.Sends) (fun _ => Wp.of_eq (containsSend_eq (q := fun x0 => fog_CheckShort_1 x0 (ds.getD k default)) _) hmem) (fun b hb => ?_)
     refine wp_bif (fun hc => ?_) (fun hc => ?_)
     · rw [if_neg (fun C => ?_)]
       · exact wp_some rfl
       · have := C.all k hk
         have g2 : (decide (0 < (k : Int)) && decide (ds.getD k default ≤ ds.getD (k - 1) default)) = false := by
           by_cases h0 : 0 < k
           · have := this.2 h0
             rw [decide_eq_false (show ¬ ds.getD k default ≤ ds.getD (k - 1) default by omega), Bool.and_false]
           · rw [decide_eq_false (show ¬ 0 < (k : Int) by omega), Bool.false_and]
         rw [g2] at hb hc
         rw [(hb rfl).2 this.1] at hc; cases hc
     · rw [Bool.or_eq_false_iff] at hc
       refine hK ⟨(hb (by rw [hc.1]; rfl)).1 (by simpa using hc.2), fun h0 => ?_⟩
       have := hc.1
       rw [Bool.and_eq_false_iff, decide_eq_false_iff_not, decide_eq_false_iff_not] at this
       rcases this with h | h <;> omega
   · by_cases hl : ds.length = 0
     · rw [if_neg (fun C => by have := C.some_; omega)]
       rw [decide_eq_true (show ((ds.length : Nat) : Int) = 0 by omega)]
       exact wp_offE rfl rfl (wp_true rfl (wp_some rfl))
     · rw [decide_eq_false (show ¬ ((ds.length : Nat) : Int) = 0 by omega)]
       refine wp_onE rfl (ffew_eq hS hr ds) ?_
       by_cases hf : (canD r (inL ds) : Int) < needD n.Sends (inL ds)
       · rw [decide_eq_true hf, if_pos ⟨by omega, hall, hf⟩]
         exact wp_false rfl (wp_some rfl)
       · rw [decide_eq_false hf, if_neg (fun C => hf C.few)]
         exact wp_true rfl (wp_some rfl)
end Go.Sp
end
/- Plain laws, fog: CheckAssign and Assign by the document; FogRunners. No program in sight. -/
section
set_option linter.all false
namespace Go.Sp
open Go.Av
set_option maxRecDepth 100000
theorem runs_asc {r : List Runner} (h : RunsOk r) {i j : Nat} (hij : i < j) (hj : j < r.length) : (rn r i).Id < (rn r j).Id := by
 have key : ∀ d i, i + d + 1 < r.length → (rn r i).Id < (rn r (i + d + 1)).Id := by
   intro d
   induction d with
   | zero => intro i hi; have := (h.all (i + 0 + 1) hi).up (by omega); have e : i + 0 + 1 - 1 = i := by omega
             rw [e] at this; exact this
   | succ d ih => intro i hi; have h1 := ih i (by omega); have h2 := (h.all (i + (d + 1) + 1) hi).up (by omega); have e : i + (d + 1) + 1 - 1 = i + d + 1 := by omega
                  rw [e] at h2; omega
 have := key (j - i - 1) i (by omega)
 have e : i + (j - i - 1) + 1 = j := by omega
 rw [e] at this; exact this
theorem runs_inj {r : List Runner} (h : RunsOk r) {i j : Nat} (hi : i < r.length) (hj : j < r.length) (e : (rn r i).Id = (rn r j).Id) : i = j := by
 rcases Nat.lt_trichotomy i j with h' | h' | h'
 · have := runs_asc h h' hj; omega
 · exact h'
 · have := runs_asc h h' hi; omega
structure CAOk (r : List Runner) (P : List Int) (ids : List Int) : Prop where
 len : ids.length = P.length
 all : ∀ k, k < ids.length → (∃ j, j < r.length ∧ (rn r j).Id = ids.getD k default ∧ P.getD k default ∈ (rn r j).Districts) ∧ ∀ k', k' < k → ids.getD k' default ≠ ids.getD k default
open Classical in
noncomputable def caR (p : List Node) (r : List Runner) (at_ : Int) (ids : List Int) : Int := if leafR p r at_ ≠ 0 then leafR p r at_ else if CAOk r (plL (nd p at_.toNat).Sends) ids then 0 else 56
theorem indexRun_eq (l : List Runner) (s : Int) : slices_IndexFunc_Runner l (fun x0 => some (fog_CheckAssign_1 x0 s)) = some (match l.findIdx? (fun x => decide (x.Id = s)) with | some i => (i : Int) | none => -1) := by
 unfold slices_IndexFunc_Runner
 exact indexFunc_eq (p := fun x0 => some (fog_CheckAssign_1 x0 s)) (q := fun x => decide (x.Id = s)) (fun _ => rfl) l
theorem fCheckAssign_eq (p : List Node) (r : List Runner) (at_ : Int) (ids : List Int) : fog_CheckAssign p r at_ ids = some (caR p r at_ ids) := by
 unfold fog_CheckAssign caR
 refine Wp.eq (wp_bind (fleaf_wp p r at_) (fun y hy => ?_))
 obtain ⟨y1, y2⟩ := hy
 rw [y1]
 refine wp_ifn (fun h => ?_) (fun h => ?_)
 · rw [if_pos h]; exact wp_some rfl
 · rw [if_neg (by simp [h]), y2 h]
   obtain ⟨V, R, h0, h1, ht⟩ := leafR_zero.1 h
   have hS := leaf_sends V h0 h1 ht
   have hr := R.len
   refine wp_bindE (fplaces_eq hS) ?_
   have hPl := plL_le hS
   generalize plL (nd p at_.toNat).Sends = P at hPl ⊢
   refine wp_ifn (fun hne => ?_) (fun he => ?_)
   · rw [if_neg (fun C => hne (by rw [C.len]))]; exact wp_some rfl
   · have he : ids.length = P.length := by omega
     refine wp_range (fun k (s : Mp Bool) => (∀ q, q < k → (∃ j, j < r.length ∧ (rn r j).Id = ids.getD q default ∧ P.getD q default ∈ (rn r j).Districts) ∧ ∀ k', k' < q → ids.getD k' default ≠ ids.getD q default) ∧ ∀ d, (s.get d).getD default = decide (∃ q, q < k ∧ ids.getD q default = d)) ⟨fun q hq => by omega, fun d => ?_⟩ (fun k s K hk hI hK => ?_) (fun s hI => ?_)
     · rw [decide_eq_false (fun ⟨q, hq, _⟩ => absurd hq (Nat.not_lt_zero _))]; rfl
     · obtain ⟨I1, I2⟩ := hI
       refine wp_bindE (indexRun_eq r _) ?_
       have hgot := I2 (ids.getD k default)
       rw [hgot]
       have bad : ¬ ((∃ j, j < r.length ∧ (rn r j).Id = ids.getD k default ∧ P.getD k default ∈ (rn r j).Districts) ∧ ∀ k', k' < k → ids.getD k' default ≠ ids.getD k default) → ¬ CAOk r P ids := fun hb C => hb (C.all k hk)
       cases hx : r.findIdx? (fun x => decide (x.Id = ids.getD k default)) with
       | none =>
         have hno : ¬ CAOk r P ids := bad (fun hh => by
           obtain ⟨⟨j, hj, ej, _⟩, _⟩ := hh
           rw [List.findIdx?_eq_none_iff] at hx
           have := hx (rn r j) (getD_mem hj)
           rw [decide_eq_true ej] at this; cases this)
         rw [if_neg hno]
         simp only
         rw [decide_eq_true (by decide : (-1 : Int) < 0)]
         refine wp_must (fun h => by cases h) (wp_must (fun h => by cases h) (wp_offE rfl rfl (wp_true rfl (wp_some rfl))))
       | some j =>
         rw [List.findIdx?_eq_some_iff_getElem] at hx
         obtain ⟨hj, hje, _⟩ := hx
         have ej : r[j] = rn r j := by unfold rn; simp [List.getElem?_eq_getElem hj]
         rw [ej] at hje
         have hje := of_decide_eq_true hje
         simp only
         rw [decide_eq_false (by omega : ¬ (j : Int) < 0), Bool.false_or]
         refine wp_must (fun _ => by omega) (wp_must (fun _ => by omega) ?_)
         have en : r.getD ((j : Int)).toNat default = rn r j := rfl
         rw [en]
         by_cases hs : ∃ q, q < k ∧ ids.getD q default = ids.getD k default
         · rw [decide_eq_true hs]
           rw [if_neg (bad (fun hh => by obtain ⟨q, hq, e⟩ := hs; exact hh.2 q hq e))]
           exact wp_offE rfl rfl (wp_true rfl (wp_some rfl))
         · rw [decide_eq_false hs]
           refine wp_onE rfl (contains_eq _ _) ?_
           by_cases hc : P.getD k default ∈ (rn r j).Districts
           · rw [decide_eq_true hc]
             refine wp_false rfl (hK _ ⟨fun q hq => ?_, fun d => ?_⟩)
             · by_cases e : q = k
               · subst e
                 exact ⟨⟨j, hj, hje, hc⟩, fun k' hk' e => hs ⟨k', hk', e⟩⟩
               · exact I1 q (by omega)
             · unfold Mp.set
               simp only
               by_cases hd : d = ids.getD k default
               · rw [if_pos hd, decide_eq_true ⟨k, Nat.lt_succ_self k, hd.symm⟩]; rfl
               · rw [if_neg hd, I2 d]
                 refine decide_eq_decide.2 ⟨fun ⟨q, hq, e⟩ => ⟨q, by omega, e⟩, fun ⟨q, hq, e⟩ => ⟨q, ?_, e⟩⟩
                 by_cases eq : q = k
                 · subst eq; exact absurd e.symm hd
                 · omega
           · rw [decide_eq_false hc]
             rw [if_neg (bad (fun hh => by
               obtain ⟨⟨j', hj', e1, e2⟩, _⟩ := hh
               have := runs_inj R hj' hj (by rw [e1, hje])
               subst this; exact hc e2))]
             exact wp_true rfl (wp_some rfl)
     · rw [if_pos ⟨he, hI.1⟩]
       exact wp_some rfl
end Go.Sp
end
/- Plain laws, fog: Assign by the document; FogRunners, FogEither. No program in sight. -/
section
set_option linter.all false
namespace Go.Sp
open Go.Av
set_option maxRecDepth 100000
theorem left_nobar (r : List Runner) : leftL r (nobar r) = r := by
 unfold leftL nobar
 have e : (List.range r.length).filter (fun j => !(List.replicate r.length false).getD j default) = List.range r.length := by
   rw [List.filter_eq_self]
   intro j _
   have : (List.replicate r.length false).getD j default = false := getD_replicate r.length j false
   rw [this]; rfl
 rw [e]
 refine List.ext_getElem (by simp) (fun i h1 h2 => ?_)
 simp [rn, List.getElem?_eq_getElem h2]
structure SkOk (S : List Send) (i : Nat) (Sk : List Send) : Prop where
 len : Sk.length = S.length
 dist : ∀ j, j < S.length → (sd Sk j).District = (sd S j).District ∧ (0 ≤ (sd Sk j).Many ∧ (sd Sk j).Many ≤ 20) ∧ (j < i → (sd Sk j).Many = 0)
end Go.Sp
end
/- Plain laws, fog: FogEither. No program in sight. -/
section
set_option linter.all false
namespace Go.Sp
open Go.Av
set_option maxRecDepth 100000
theorem need_mono {D : Int → Bool} {T' T : List Send} (h : T'.Sublist T) : (∀ s ∈ T, 0 ≤ s.Many) → needD T' D ≤ needD T D := by
 have e : ∀ (a : Send) (l : List Send), needD (a :: l) D = (if D a.District then a.Many else 0) + needD l D := fun a l => by unfold needD; rw [List.map_cons, List.sum_cons]
 induction h with
 | slnil => intro _; exact Int.le_refl _
 | @cons l1 l2 a _ ih =>
   intro hn
   have h1 := ih (fun s hs => hn s (List.mem_cons_of_mem _ hs))
   have h2 := hn a List.mem_cons_self
   rw [e]; split <;> omega
 | @cons_cons l1 l2 a _ ih =>
   intro hn
   have h1 := ih (fun s hs => hn s (List.mem_cons_of_mem _ hs))
   rw [e, e]; omega
theorem lack_mono {r : List Runner} {T' T : List Send} (h : T'.Sublist T) (hn : ∀ s ∈ T, 0 ≤ s.Many) (hl : Lack T' r) : Lack T r := by
 obtain ⟨D, hD⟩ := hl
 exact ⟨D, Int.lt_of_lt_of_le hD (need_mono h hn)⟩
theorem cut_two {T : Type} {l : List T} {k i : Nat} (hki : k ≤ i) (hk : k < l.length) : (cutI (cutI l k) i).Sublist (cutI l (i + 1)) := by
 have hlk : (l.take k).length = k := by rw [List.length_take]; omega
 have e1 : (cutI l k).take i = l.take k ++ (l.drop (k + 1)).take (i - k) := by
   unfold cutI
   rw [List.take_append, hlk, List.take_of_length_le (by omega)]
 have e2 : (cutI l k).drop (i + 1) = l.drop (i + 1 + 1) := by
   unfold cutI
   rw [List.drop_append, hlk, List.drop_of_length_le (by omega), List.nil_append, List.drop_drop]
   congr 1; omega
 have e3 : l.take (i + 1) = l.take k ++ (l.drop k).take (i + 1 - k) := by
   have : i + 1 = k + (i + 1 - k) := by omega
   conv => lhs; rw [this, List.take_add]
 have e4 : ((l.drop (k + 1)).take (i - k)).Sublist ((l.drop k).take (i + 1 - k)) := by
   have : l.drop k = l[k] :: l.drop (k + 1) := List.drop_eq_getElem_cons hk
   rw [this]
   have : i + 1 - k = (i - k) + 1 := by omega
   rw [this, List.take_succ_cons]
   exact List.sublist_cons_self _ _
 show ((cutI l k).take i ++ (cutI l k).drop (i + 1)).Sublist (l.take (i + 1) ++ l.drop (i + 1 + 1))
 rw [e1, e2, e3]
 exact ((List.Sublist.refl _).append e4).append (List.Sublist.refl _)
theorem cutS_min {r : List Runner} : ∀ (k : Nat) (T : List Send), (∀ s ∈ T, 0 ≤ s.Many) → k ≤ T.length → (∀ i, k ≤ i → i < T.length → ¬ Lack (cutI T i) r) → ∀ i, i < (cutS r k T).length → ¬ Lack (cutI (cutS r k T) i) r
 | 0, T, _, _, h => fun i hi => h i (Nat.zero_le _) hi
 | k + 1, T, hn, hk, h => by
   rw [cutS_succ]
   by_cases hL : Lack (cutI T k) r
   · rw [if_pos hL]
     have hcl := cutI_len (l := T) (k := k) (by omega)
     refine cutS_min k _ (fun s hs => hn s ((cutI_sub T k).subset hs)) (by omega) (fun i hki hi hl => ?_)
     exact h (i + 1) (by omega) (by omega) (lack_mono (cut_two hki (by omega)) (fun s hs => hn s ((cutI_sub T (i + 1)).subset hs)) hl)
   · rw [if_neg hL]
     refine cutS_min k T hn (by omega) (fun i hki hi => ?_)
     by_cases e : i = k
     · rw [e]; exact hL
     · exact h i (by omega) hi
theorem short_ok {S : List Send} {r : List Runner} (hS : SendsOk S) (hL : Lack S r) : CSOk S r (dsL (cutS r S.length S)) := by
 have hnn := sends_nn hS
 have hlk := cutS_lack r S.length S hL
 have hsub := cutS_sub r S.length S
 have hmin := cutS_min (r := r) S.length S hnn (Nat.le_refl _) (fun i hi hi2 => by omega)
 have hasc := sends_asc hS
 generalize cutS r S.length S = T at hlk hsub hmin ⊢
 have hascT := hasc.sublist hsub
 obtain ⟨D, hD⟩ := hlk
 have hall : ∀ i, i < T.length → D (sd T i).District = true := fun i hi => by
   apply Classical.byContradiction
   intro hno
   have hno : D (sd T i).District = false := by simpa using hno
   refine hmin i hi ⟨D, ?_⟩
   have e : T = T.take i ++ (sd T i :: T.drop (i + 1)) := by
     have := drop_getD (l := T) hi
     unfold sd
     rw [← this, List.take_append_drop]
   have e2 : ∀ a b : List Send, needD (a ++ b) D = needD a D + needD b D := fun a b => by unfold needD; rw [List.map_append, List.sum_append]
   have e3 : needD T D = needD (cutI T i) D := by
     conv => lhs; rw [e]
     unfold cutI
     rw [e2, e2]
     have : needD (sd T i :: T.drop (i + 1)) D = (if D (sd T i).District then (sd T i).Many else 0) + needD (T.drop (i + 1)) D := by unfold needD; rw [List.map_cons, List.sum_cons]
     rw [this, hno]; simp
   rw [← e3]; exact hD
 have hdl : (dsL T).length = T.length := by simp [dsL]
 have hget : ∀ k, k < T.length → (dsL T).getD k default = (sd T k).District := fun k hk => by
   unfold dsL sd
   rw [List.getD_eq_getElem?_getD, List.getElem?_map, List.getElem?_eq_getElem hk, List.getD_eq_getElem?_getD, List.getElem?_eq_getElem hk]; rfl
 have hmem : ∀ d, d ∈ dsL T → D d = true := fun d hd => by
   unfold dsL at hd
   rw [List.mem_map] at hd
   obtain ⟨s, hs, rfl⟩ := hd
   obtain ⟨i, hi, rfl⟩ := sd_mem hs
   exact hall i hi
 have hneed : needD S (inL (dsL T)) = needD T D := by
   rw [need_sub hsub (inL (dsL T)) hasc (fun s _ h => of_decide_eq_true h)]
   unfold needD
   refine congrArg List.sum (List.map_congr_left fun s hs => ?_)
   have h1 : s.District ∈ dsL T := List.mem_map.2 ⟨s, hs, rfl⟩
   have h2 : inL (dsL T) s.District = true := decide_eq_true h1
   rw [h2, hmem _ h1]
 refine ⟨?_, fun k hk => ⟨?_, fun h0 => ?_⟩, ?_⟩
 · apply Classical.byContradiction
   intro h0
   have : T = [] := List.length_eq_zero_iff.1 (by omega)
   rw [this] at hD
   have : needD [] D = 0 := rfl
   rw [this] at hD; omega
 · rw [hget k (by omega)]
   unfold dsL
   exact List.mem_map.2 ⟨sd T k, hsub.subset (getD_mem (by omega)), rfl⟩
 · rw [hget k (by omega), hget (k - 1) (by omega)]
   have := List.pairwise_iff_getElem.1 hascT (k - 1) k (by omega) (by omega) (by omega)
   have ea : T[k - 1]'(by omega) = sd T (k - 1) := by unfold sd; simp [List.getElem?_eq_getElem (show k - 1 < T.length by omega)]
   have eb : T[k]'(by omega) = sd T k := by unfold sd; simp [List.getElem?_eq_getElem (show k < T.length by omega)]
   rw [ea, eb] at this; exact this
 · rw [hneed]
   have := can_mono (r := r) (D := inL (dsL T)) (D' := D) (fun d hd => hmem d (of_decide_eq_true hd))
   omega
theorem ca_full {r : List Runner} {P ids : List Int} (C : CAOk r P ids) : Full r P (nobar r) 0 := by
 classical
 have hl := C.len
 refine ⟨fun k => if h : k < ids.length then (C.all k h).1.choose else 0, fun k hk => ?_, fun k k' hk hk' e => ?_⟩
 · have hki : k < ids.length := by omega
   simp only [dif_pos hki]
   obtain ⟨a, b, c⟩ := (C.all k hki).1.choose_spec
   exact ⟨a, getD_replicate _ _ _, c⟩
 · have hki : k < ids.length := by omega
   have hki' : k' < ids.length := by omega
   simp only [dif_pos hki, dif_pos hki'] at e
   obtain ⟨a, b, c⟩ := (C.all k hki).1.choose_spec
   obtain ⟨a', b', c'⟩ := (C.all k' hki').1.choose_spec
   rw [e] at b
   rcases Nat.lt_trichotomy k k' with h | h | h
   · exact absurd (b.symm.trans b') ((C.all k' hki').2 k h)
   · exact h
   · exact absurd (b'.symm.trans b) ((C.all k hki).2 k' h)
theorem Gre.good {r : List Runner} {P : List Int} {k : Nat} {js : List Nat} {bar : List Bool} (h : Gre r P k js bar) : (∀ j ∈ js, bar.getD j default = true) ∧ js.Nodup ∧ ∀ q, q < k → js.getD q default < r.length ∧ P.getD q default ∈ (rn r (js.getD q default)).Districts := by
 induction h with
 | nil => exact ⟨fun j hj => (by cases hj), List.nodup_nil, fun q hq => absurd hq (Nat.not_lt_zero _)⟩
 | @snoc k js bar j h1 h2 h3 h4 h5 ih =>
   obtain ⟨i1, i2, i3⟩ := ih
   obtain ⟨l1, l2⟩ := h1.len
   have hj : bar.getD j default = false := h4.1.1
   refine ⟨fun x hx => ?_, ?_, fun q hq => ?_⟩
   · rw [getD_set _ _ _ _ _ (by omega)]
     split
     · rfl
     · next hne =>
       rcases List.mem_append.1 hx with hx | hx
       · exact i1 x hx
       · exact absurd (List.mem_singleton.1 hx) hne
   · rw [List.nodup_append]
     refine ⟨i2, by simp, fun a ha b hb e => ?_⟩
     rw [List.mem_singleton] at hb
     have := i1 a ha
     rw [e, hb, hj] at this; cases this
   · rw [getD_snoc]
     by_cases e : q = js.length
     · rw [if_pos e]
       exact ⟨h3, by rw [show q = k by omega]; exact h4.1.2⟩
     · rw [if_neg e]; exact i3 q (by omega)
theorem gre_ok {r : List Runner} (R : RunsOk r) {P : List Int} {js : List Nat} {bar : List Bool} (h : Gre r P P.length js bar) : CAOk r P (js.map (fun j => (rn r j).Id)) := by
 obtain ⟨g1, g2, g3⟩ := h.good
 have hl := h.len.1
 have hget : ∀ k, k < js.length → (js.map (fun j => (rn r j).Id)).getD k default = (rn r (js.getD k default)).Id := fun k hk => by
   rw [List.getD_eq_getElem?_getD, List.getElem?_map, List.getElem?_eq_getElem hk, List.getD_eq_getElem?_getD, List.getElem?_eq_getElem hk]; rfl
 refine ⟨by rw [List.length_map]; exact hl, fun k hk => ?_⟩
 rw [List.length_map] at hk
 have hk2 := g3 k (by omega)
 refine ⟨⟨js.getD k default, hk2.1, (hget k hk).symm, hk2.2⟩, fun k' hk' e => ?_⟩
 rw [hget k hk, hget k' (by omega)] at e
 have := runs_inj R (g3 k' (by omega)).1 hk2.1 e
 have h3 : List.Pairwise (· ≠ ·) js := g2
 have := List.pairwise_iff_getElem.1 h3 k' k (by omega) hk hk'
 rename_i h4
 rw [List.getD_eq_getElem?_getD, List.getD_eq_getElem?_getD, List.getElem?_eq_getElem hk, List.getElem?_eq_getElem (show k' < js.length by omega)] at h4
 exact this h4
theorem leafL_mem {p : List Node} {j : Int} (h : j ∈ leafL p p.length) : 0 ≤ j ∧ j < p.length ∧ (nd p j.toNat).Test = false := by
 unfold leafL at h
 rw [List.mem_map] at h
 obtain ⟨k, hk, rfl⟩ := h
 rw [List.mem_filter, List.mem_range, Bool.not_eq_true'] at hk
 exact ⟨by omega, by omega, hk.2⟩
theorem leafL_some {p : List Node} (V : PolOk p) : 0 < (leafL p p.length).length := by
 have hlen := V.len
 have hx : ∃ i, i < p.length ∧ (nd p i).Test = false := by
   refine ⟨p.length - 1, by omega, ?_⟩
   cases h : (nd p (p.length - 1)).Test with
   | false => rfl
   | true =>
     have := ((V.node (p.length - 1) (by omega)).2 h).2 _ (next_mem _ 1)
     have := this.1
     omega
 obtain ⟨i, hi, ht⟩ := hx
 refine List.length_pos_of_mem (a := (i : Int)) ?_
 unfold leafL
 rw [List.mem_map]
 exact ⟨i, by rw [List.mem_filter, List.mem_range, ht]; exact ⟨hi, rfl⟩, rfl⟩
theorem fogEither_true (q : List (Arr4 Int)) (who : List Int) (g : gasolierlaw05_Given) (hq : q.length ≤ 1000000000000000000) : gasolierlaw05_FogEither 20000 q who g = some true := by
 unfold gasolierlaw05_FogEither
 refine Wp.eq (wp_bind (policy_wp (by omega) q hq) (fun p V => wp_bind (runners_wp (by omega) who) (fun r R => wp_bindE (fLeaves_eq p) ?_)))
 have el : leavesR p = (leafL p p.length, 0) := by unfold leavesR; rw [if_neg (fun h => h V)]
 rw [el]
 have hls := leafL_some V
 have hll := leafL_len p p.length
 have hlen := V.len
 refine wp_false (by simp; intro h; simp [h] at hls) ?_
 obtain ⟨y, ey, y1, y2⟩ := mod5_eq g.Leaf (m := (((leafL p p.length).length : Nat) : Int)) (by omega) (by omega)
 refine wp_bindE ey (wp_must ⟨y1, y2⟩ ?_)
 have hm := leafL_mem (getD_mem (l := leafL p p.length) (i := y.toNat) (by omega))
 dsimp only
 generalize (leafL p p.length).getD y.toNat default = leaf at hm ⊢
 have h0 := leafR_zero.2 ⟨V, R, hm⟩
 have hS := leaf_sends V hm.1 hm.2.1 hm.2.2
 have hlack := full_lack (r := r) (P := plL (nd p leaf.toNat).Sends) (bar := nobar r) (k := 0) (S := (nd p leaf.toNat).Sends) (sends_nn hS) rfl
 rw [left_nobar] at hlack
 have hca : ∀ ids, caR p r leaf ids = 0 ↔ CAOk r (plL (nd p leaf.toNat).Sends) ids := fun ids => by
   unfold caR
   rw [if_neg (by simp [h0])]
   split
   · next h => exact ⟨fun _ => h, fun _ => rfl⟩
   · next h => exact ⟨fun h' => by omega, fun h' => absurd h' h⟩
 have hcs : ∀ ds, csR p r leaf ds = 0 ↔ CSOk (nd p leaf.toNat).Sends r ds := fun ds => by
   unfold csR
   rw [if_neg (by simp [h0])]
   split
   · next h => exact ⟨fun _ => h, fun _ => rfl⟩
   · next h => exact ⟨fun h' => by omega, fun h' => absurd h' h⟩
 have hcsl : ∀ ds, CSOk (nd p leaf.toNat).Sends r ds → Lack (nd p leaf.toNat).Sends r := fun ds C => ⟨_, C.few⟩
 have esh1 : ¬ Lack (nd p leaf.toNat).Sends r → shortR p r leaf = ([], 58) := fun h => by
   unfold shortR
   rw [if_neg (by simp [h0]), if_pos h]
 have esh2 : Lack (nd p leaf.toNat).Sends r → shortR p r leaf = (dsL (cutS r (nd p leaf.toNat).Sends.length (nd p leaf.toNat).Sends), 0) := fun h => by
   unfold shortR
   rw [if_neg (by simp [h0]), if_neg (fun h' => h' h)]
 refine wp_bind (assign_wp p r leaf (by omega)) (fun a ha => wp_bindE (fShort_eq (by omega) p r leaf) (wp_bindE (fCheckAssign_eq p r leaf _) (wp_bindE (fCheckShort_eq p r leaf _) ?_)))
 refine wp_false ?_ ?_
 · rw [Bool.and_eq_false_iff, decide_eq_false_iff_not, decide_eq_false_iff_not, hca, hcs]
   by_cases h1 : CAOk r (plL (nd p leaf.toNat).Sends) g.Ids
   · exact .inr (fun h2 => hlack.1 (ca_full h1) (hcsl _ h2))
   · exact .inl h1
 · rcases ha with ⟨h, _⟩ | ⟨_, ⟨hn, rfl⟩ | ⟨hF, js, bar, hG, rfl⟩⟩
   · exact absurd h0 h
   · have hL : Lack (nd p leaf.toNat).Sends r := Classical.byContradiction fun h => hn (hlack.2 h)
     rw [esh2 hL]
     have hnis : ¬ caR p r leaf g.Ids = 0 := fun h => hn (ca_full ((hca _).1 h))
     have hok := (hcs _).2 (short_ok hS hL)
     dsimp only
     refine wp_false rfl ?_
     rw [decide_eq_false hnis]
     refine wp_onE rfl (fCheckShort_eq p r leaf _) ?_
     rw [hok]
     exact wp_onE rfl sane_ok (wp_some rfl)
   · have hnL := hlack.1 hF
     rw [esh1 hnL]
     have hnf : ¬ csR p r leaf g.Districts = 0 := fun h => hnL (hcsl _ ((hcs _).1 h))
     have hok := (hca _).2 (gre_ok R hG)
     dsimp only
     refine wp_true rfl ?_
     rw [decide_eq_false hnf]
     refine wp_onE rfl (fCheckAssign_eq p r leaf _) ?_
     rw [hok]
     exact wp_onE rfl sane_ok (wp_some rfl)
end Go.Sp
end
