/- Texts of the framework, or of the plain law, one behind another. -/
import Derived.Test.YtnaodipmfaglfaaFr1
import Derived.Test.YtnaodipmfaglfaaFr4
import Derived.KernelRfl
/- Rules for plain laws: what a printed definition yields. No program in sight. -/
section
set_option linter.all false
namespace Go.Sp
open Go.Av
def Wp {R : Type} (x : Option R) (P : R → Prop) : Prop := ∃ r, x = some r ∧ P r
theorem Wp.eq {R : Type} {x : Option R} {v : R} (h : Wp x (· = v)) : x = some v := by
 obtain ⟨r, h1, h2⟩ := h; rw [h1, h2]
theorem Wp.of_eq {R : Type} {x : Option R} {v : R} {P : R → Prop} (h : x = some v) (hp : P v) : Wp x P := ⟨v, h, hp⟩
theorem Wp.mono {R : Type} {x : Option R} {P Q : R → Prop} (h : Wp x P) (hp : ∀ r, P r → Q r) : Wp x Q := by
 obtain ⟨r, h1, h2⟩ := h; exact ⟨r, h1, hp r h2⟩
theorem wp_some {R : Type} {r : R} {P : R → Prop} (h : P r) : Wp (some r) P := ⟨r, rfl, h⟩
theorem wp_must {R : Type} {c : Prop} [Decidable c] {x : Option R} {P : R → Prop} (h : c) (k : Wp x P) : Wp (must c x) P := by
 unfold must; rw [if_pos h]; exact k
theorem wp_bind {S R : Type} {x : Option S} {k : S → Option R} {P : R → Prop} {Q : S → Prop} (h : Wp x Q) (hk : ∀ s, Q s → Wp (k s) P) : Wp (bindO x k) P := by
 obtain ⟨r, h1, h2⟩ := h; rw [h1]; exact hk r h2
theorem wp_bindE {S R : Type} {x : Option S} {k : S → Option R} {P : R → Prop} {v : S} (h : x = some v) (hk : Wp (k v) P) : Wp (bindO x k) P := by
 rw [h]; exact hk
theorem wp_bif {R : Type} {b : Bool} {x y : Option R} {P : R → Prop} (h1 : b = true → Wp x P) (h2 : b = false → Wp y P) : Wp (bif b then x else y) P := by
 cases b
 · exact h2 rfl
 · exact h1 rfl
theorem wp_if {R : Type} {p : Prop} {b : Bool} {x y : Option R} {P : R → Prop} (hb : b = true ↔ p) (h1 : p → Wp x P) (h2 : ¬ p → Wp y P) : Wp (bif b then x else y) P :=
 wp_bif (fun h => h1 (hb.1 h)) (fun h => h2 (fun hp => by rw [hb.2 hp] at h; cases h))
theorem wp_ifd {R : Type} {p : Prop} [Decidable p] {x y : Option R} {P : R → Prop} (h1 : p → Wp x P) (h2 : ¬ p → Wp y P) : Wp (bif (decide p) then x else y) P :=
 wp_if (decide_eq_true_iff) h1 h2
theorem wp_true {R : Type} {b : Bool} {x y : Option R} {P : R → Prop} (h : b = true) (h1 : Wp x P) : Wp (bif b then x else y) P := by rw [h]; exact h1
theorem wp_false {R : Type} {b : Bool} {x y : Option R} {P : R → Prop} (h : b = false) (h1 : Wp y P) : Wp (bif b then x else y) P := by rw [h]; exact h1
theorem wp_joinU {S R : Type} {f : (S → Option R) → Option R} {k : S → Option R} {P : R → Prop} (h : Wp (f k) P) : Wp (joinK f k) P := h
theorem wp_range {S R : Type} {body : Nat → S → (S → Option R) → Option R} {ex : S → Option R} {n : Nat} {s0 : S} {P : R → Prop} (Inv : Nat → S → Prop) (h0 : Inv 0 s0)
   (hb : ∀ (i : Nat) s (K : S → Option R), i < n → Inv i s → (∀ s', Inv (i + 1) s' → Wp (K s') P) → Wp (body i s K) P) (he : ∀ s, Inv n s → Wp (ex s) P) : Wp (rangeGo body ex n 0 s0) P := by
 have go : ∀ (m i : Nat), i + m = n → ∀ s, Inv i s → Wp (rangeGo body ex m i s) P := by
   intro m
   induction m with
   | zero => intro i hi s hs; have e : i = n := by omega
             subst e; exact he s hs
   | succ m ih => intro i hi s hs; exact hb i s _ (by omega) hs (fun s' h' => ih (i + 1) (by omega) s' h')
 exact go n 0 (by omega) s0 h0
theorem wp_loop {S R : Type} {body : S → (S → Option R) → Option R} {fuel : Nat} {s0 : S} {P : R → Prop} (Inv : S → Prop) (μ : S → Nat) (hf : μ s0 < fuel) (h0 : Inv s0)
   (hb : ∀ s (K : S → Option R), Inv s → (∀ s', Inv s' → μ s' < μ s → Wp (K s') P) → Wp (body s K) P) : Wp (loopGo body fuel s0) P := by
 have go : ∀ (f : Nat) s, Inv s → μ s < f → Wp (loopGo body f s) P := by
   intro f
   induction f with
   | zero => intro s _ h; omega
   | succ f ih => intro s hs hm; exact hb s _ hs (fun s' h' hl => ih s' h' (by omega))
 exact go fuel s0 h0 hf
end Go.Sp
end
/- More rules for plain laws. No program in sight. -/
section
set_option linter.all false
namespace Go.Sp
open Go.Av
theorem wp_mustI {R : Type} {n : Int} {x : Option R} {P : R → Prop} (h : -9223372036854775808 ≤ n ∧ n ≤ 9223372036854775807) (k : Wp x P) : Wp (must (inI n) x) P := wp_must h k
theorem wp_mustR {R : Type} {n b : Nat} {x : Option R} {P : R → Prop} (h : n * b ≤ 140737488355328 ∧ n ≤ 9223372036854775807) (k : Wp x P) : Wp (must (room n b) x) P := wp_must h k
theorem wp_mustW {R : Type} {w : Prop} [Decidable w] {n : Int} {x : Option R} {P : R → Prop} (h : w → -9223372036854775808 ≤ n ∧ n ≤ 9223372036854775807) (k : Wp x P) : Wp (must (w → inI n) x) P := wp_must h k
theorem wp_on {S R : Type} [Inhabited S] {W : Bool} {x : Option S} {k : S → Option R} {P : R → Prop} {Q : S → Prop} (h : W = true → Wp x Q) (hk : ∀ s, (W = true → Q s) → Wp (k s) P) : Wp (bindO (bif W then x else some default) k) P := by
 cases W
 · exact hk _ (fun h => by cases h)
 · exact wp_bind (h rfl) (fun s hs => hk s (fun _ => hs))
end Go.Sp
end
/- Rules for plain laws, more of them. No program in sight. -/
section
set_option linter.all false
namespace Go.Sp
open Go.Av
theorem wp_forall {R : Type} {body : Nat → Unit → (Unit → Option R) → Option R} {ex : Unit → Option R} {n : Nat} {P : R → Prop} (good : Nat → Prop)
   (hb : ∀ (i : Nat) (K : Option R), i < n → (∀ j, j < i → good j) → (good i → Wp K P) → Wp (body i () (fun _ => K)) P) (he : (∀ j, j < n → good j) → Wp (ex ()) P) : Wp (rangeGo body ex n 0 ()) P := by
 refine wp_range (fun i _ => ∀ j, j < i → good j) (fun j hj => by omega) (fun i s K hi hI hK => ?_) (fun s hs => he hs)
 have e : K = fun _ => K () := funext fun u => rfl
 rw [e]
 exact hb i (K ()) hi hI (fun g => hK () (fun j hj => by
   by_cases e : j = i
   · rw [e]; exact g
   · exact hI j (by omega)))
theorem wp_onE {S R : Type} {W : Bool} {x y : Option S} {k : S → Option R} {P : R → Prop} {v : S} (hW : W = true) (h : x = some v) (hk : Wp (k v) P) : Wp (bindO (bif W then x else y) k) P := by
 subst hW; rw [h]; exact hk
theorem wp_offE {S R : Type} {W : Bool} {x y : Option S} {k : S → Option R} {P : R → Prop} {v : S} (hW : W = false) (h : y = some v) (hk : Wp (k v) P) : Wp (bindO (bif W then x else y) k) P := by
 subst hW; rw [h]; exact hk
theorem must_yes {R : Type} {c : Prop} [Decidable c] (h : c) (x : Option R) : must c x = x := if_pos h
theorem getD_set {T : Type} (l : List T) (i j : Nat) (x d : T) (hi : i < l.length) : (l.set i x).getD j d = if j = i then x else l.getD j d := by
 simp only [List.getD_eq_getElem?_getD]
 by_cases e : j = i
 · subst e; rw [List.getElem?_set_self hi, if_pos rfl]; rfl
 · rw [List.getElem?_set_ne (fun h => e h.symm), if_neg e]
theorem getD_replicate {T : Type} (n i : Nat) (x : T) : (List.replicate n x).getD i x = x := by
 simp only [List.getD_eq_getElem?_getD, List.getElem?_replicate]
 split <;> rfl
theorem getD_mem {T : Type} [Inhabited T] {l : List T} {i : Nat} (h : i < l.length) : l.getD i default ∈ l := by
 rw [List.getD_eq_getElem?_getD, List.getElem?_eq_getElem h]; exact List.getElem_mem h
theorem mem_getD {T : Type} [Inhabited T] {l : List T} {x : T} (h : x ∈ l) : ∃ i, i < l.length ∧ l.getD i default = x := by
 obtain ⟨i, hi, rfl⟩ := List.getElem_of_mem h
 exact ⟨i, hi, by rw [List.getD_eq_getElem?_getD, List.getElem?_eq_getElem hi]; rfl⟩
theorem getD_take {T : Type} (l : List T) (n i : Nat) (d : T) : (l.take n).getD i d = if i < n then l.getD i d else d := by
 simp only [List.getD_eq_getElem?_getD, List.getElem?_take]
 split <;> rfl
theorem getD_drop {T : Type} (l : List T) (n i : Nat) (d : T) : (l.drop n).getD i d = l.getD (n + i) d := by
 simp only [List.getD_eq_getElem?_getD, List.getElem?_drop]
theorem getD_append {T : Type} (l r : List T) (i : Nat) (d : T) : (l ++ r).getD i d = if i < l.length then l.getD i d else r.getD (i - l.length) d := by
 simp only [List.getD_eq_getElem?_getD]
 split
 · rename_i h; rw [List.getElem?_append_left h]
 · rename_i h; rw [List.getElem?_append_right (by omega)]
theorem ext_getD {T : Type} [Inhabited T] {l r : List T} (hl : l.length = r.length) (h : ∀ i, i < l.length → l.getD i default = r.getD i default) : l = r := by
 refine List.ext_getElem hl (fun i h1 h2 => ?_)
 have := h i h1
 rw [List.getD_eq_getElem?_getD, List.getD_eq_getElem?_getD, List.getElem?_eq_getElem h1, List.getElem?_eq_getElem h2] at this
 exact this
theorem nodup_le {T : Type} [DecidableEq T] : ∀ {l r : List T}, l.Nodup → (∀ x ∈ l, x ∈ r) → l.length ≤ r.length
 | [], r, _, _ => Nat.zero_le _
 | x :: l, r, hn, hs => by
   have hx := hs x List.mem_cons_self
   rw [List.nodup_cons] at hn
   have := nodup_le (l := l) (r := r.erase x) hn.2 (fun y hy => (List.mem_erase_of_ne (fun (e : y = x) => hn.1 (e ▸ hy))).2 (hs y (List.mem_cons_of_mem _ hy)))
   rw [List.length_erase_of_mem hx] at this
   have := List.length_pos_of_mem hx
   simp only [List.length_cons]; omega
theorem nodup_inj {S T : Type} {f : S → T} : ∀ {l : List S}, l.Nodup → (∀ x ∈ l, ∀ y ∈ l, f x = f y → x = y) → (l.map f).Nodup
 | [], _, _ => List.nodup_nil
 | x :: l, hn, hi => by
   rw [List.nodup_cons] at hn
   rw [List.map_cons, List.nodup_cons]
   refine ⟨fun hm => ?_, nodup_inj hn.2 (fun a ha b hb => hi a (List.mem_cons_of_mem _ ha) b (List.mem_cons_of_mem _ hb))⟩
   obtain ⟨y, hy, e⟩ := List.mem_map.1 hm
   have := hi x List.mem_cons_self y (List.mem_cons_of_mem _ hy) e.symm
   exact hn.1 (this ▸ hy)
theorem length_le_inj {S T : Type} [DecidableEq T] {l : List S} {r : List T} (f : S → T) (hn : l.Nodup) (hm : ∀ x ∈ l, f x ∈ r) (hi : ∀ x ∈ l, ∀ y ∈ l, f x = f y → x = y) : l.length ≤ r.length := by
 have := nodup_le (nodup_inj hn hi) (r := r) (fun y hy => by obtain ⟨x, hx, rfl⟩ := List.mem_map.1 hy; exact hm x hx)
 rwa [List.length_map] at this
theorem fdiv_bit {x : Int} {j : Nat} (h : 0 ≤ x) : Int.fdiv x (2 ^ j) = ((x.toNat >>> j : Nat) : Int) := by
 obtain ⟨n, rfl⟩ := Int.eq_ofNat_of_zero_le h
 rw [Int.toNat_natCast, Nat.shiftRight_eq_div_pow]
 have : (2 : Int) ^ j = ((2 ^ j : Nat) : Int) := by simp
 rw [this, Int.fdiv_eq_ediv_of_nonneg _ (Int.natCast_nonneg _)]
 exact (Int.natCast_ediv _ _).symm
theorem bit_one (n j : Nat) : (n >>> j) &&& 1 = if n.testBit j then 1 else 0 := by
 unfold Nat.testBit
 rcases Nat.mod_two_eq_zero_or_one (n >>> j) with h | h
 · simp [Nat.and_comm 1, Nat.and_one_is_mod, h]
 · simp [Nat.and_comm 1, Nat.and_one_is_mod, h]
theorem or_bit {n j k : Nat} : (n ||| 2 ^ j).testBit k = (n.testBit k || decide (k = j)) := by
 rw [Nat.testBit_or, Nat.testBit_two_pow]
 congr 1
 exact decide_eq_decide.2 eq_comm
theorem or_lt {n j m : Nat} (hn : n < 2 ^ m) (hj : j < m) : n ||| 2 ^ j < 2 ^ m := Nat.or_lt_two_pow hn (Nat.pow_lt_pow_right (by omega) hj)
def flw (n : Nat) (W : Nat → Bool) (j : Nat) : List Int := ((List.range' j (n - j)).filter W).map (fun (k : Nat) => (k : Int))
theorem flw_step {n : Nat} {W : Nat → Bool} {j : Nat} (h : j < n) : flw n W j = if W j = true then (j : Int) :: flw n W (j + 1) else flw n W (j + 1) := by
 unfold flw
 rw [show n - j = (n - (j + 1)) + 1 by omega, List.range'_succ, List.filter_cons]
 split <;> rfl
theorem flw_end {n : Nat} {W : Nat → Bool} {j : Nat} (h : n ≤ j) : flw n W j = [] := by
 unfold flw
 rw [show n - j = 0 by omega]; rfl
theorem emit_range {A : Type} {body : Nat → Unit → (Unit → Option (List A)) → Option (List A)} {n : Nat} (W : Nat → Bool) (x : Nat → A)
   (hb : ∀ (i : Nat) (r : Option (List A)), i < n → body i () (fun _ => r) = emitIf (W i) (x i) r) : rangeGo body (fun _ => some []) n 0 () = some (((List.range' 0 n).filter W).map x) := by
 have go : ∀ m i, i + m = n → rangeGo body (fun _ => some []) m i () = some (((List.range' i m).filter W).map x) := by
   intro m
   induction m with
   | zero => intro i _; rfl
   | succ m ih =>
     intro i hi
     have e : rangeGo body (fun _ => some []) (m + 1) i () = body i () (fun u => rangeGo body (fun _ => some []) m (i + 1) u) := rfl
     rw [e]
     have e2 : (fun u => rangeGo body (fun _ => some ([] : List A)) m (i + 1) u) = fun _ => some (((List.range' (i + 1) m).filter W).map x) := by
       funext u; exact ih (i + 1) (by omega)
     rw [e2, hb i _ (by omega), List.range'_succ, List.filter_cons]
     cases W i <;> rfl
 exact go n 0 (by omega)
theorem wp_flw {S R : Type} {body : Int → S → (S → Option R) → Option R} {ex : S → Option R} {s0 : S} {P : R → Prop} (n : Nat) (W : Nat → Bool) (Inv : Nat → S → Prop) (h0 : Inv 0 s0)
   (skip : ∀ (j : Nat) s, j < n → W j = false → Inv j s → Inv (j + 1) s)
   (hb : ∀ (j : Nat) s (K : S → Option R), j < n → W j = true → Inv j s → (∀ s', Inv (j + 1) s' → Wp (K s') P) → Wp (body (j : Int) s K) P) (he : ∀ s, Inv n s → Wp (ex s) P) : Wp (listGo body ex (flw n W 0) s0) P := by
 have go : ∀ (m j : Nat), j + m = n → ∀ s, Inv j s → Wp (listGo body ex (flw n W j) s) P := by
   intro m
   induction m with
   | zero => intro j hj s hs; have e : j = n := by omega
             subst e; rw [flw_end (Nat.le_refl _)]; exact he s hs
   | succ m ih =>
     intro j hj s hs
     rw [flw_step (by omega)]
     cases hW : W j with
     | true => rw [if_pos rfl]; exact hb j s _ (by omega) hW hs (fun s' h' => ih (j + 1) (by omega) s' h')
     | false => rw [if_neg (by simp)]; exact ih (j + 1) (by omega) s (skip j s (by omega) hW hs)
 exact go n 0 (by omega) s0 h0
def mu (n : Nat) (P : Nat → Bool) : Nat := (List.range n).countP (fun k => !P k)
theorem mu_le (n : Nat) (P : Nat → Bool) : mu n P ≤ n := by
 have := List.countP_le_length (p := fun k => !P k) (l := List.range n)
 rwa [List.length_range] at this
theorem mu_mono {n : Nat} {P Q : Nat → Bool} (h : ∀ k, P k = true → Q k = true) : mu n Q ≤ mu n P :=
 List.countP_mono_left (fun k _ hk => by
   cases hP : P k with
   | false => rfl
   | true => rw [h k hP] at hk; cases hk)
theorem countP_lt {T : Type} {p q : T → Bool} {a : T} : ∀ {l : List T}, (∀ x, x ∈ l → p x = true → q x = true) → a ∈ l → q a = true → p a = false → l.countP p < l.countP q
 | x :: l, h, ha, hq, hp => by
   rw [List.countP_cons, List.countP_cons]
   have hm : l.countP p ≤ l.countP q := List.countP_mono_left (fun y hy => h y (List.mem_cons_of_mem _ hy))
   rcases List.mem_cons.1 ha with rfl | ha
   · rw [hp, hq]; simp; omega
   · have := countP_lt (l := l) (fun y hy => h y (List.mem_cons_of_mem _ hy)) ha hq hp
     have hx := h x List.mem_cons_self
     cases hpx : p x with
     | false => simp; omega
     | true => rw [hx hpx]; simp; omega
theorem mu_lt {n j : Nat} {P Q : Nat → Bool} (h : ∀ k, P k = true → Q k = true) (hj : j < n) (hP : P j = false) (hQ : Q j = true) : mu n Q < mu n P :=
 countP_lt (a := j) (fun k _ hk => by
   cases hPk : P k with
   | false => rfl
   | true => rw [h k hPk] at hk; cases hk) (List.mem_range.2 hj) (by rw [hP]; rfl) (by rw [hQ]; rfl)
end Go.Sp
end
/- Matchings: a search for a free partner, where others step aside; what it leaves. No program in sight. -/
section
set_option linter.all false
namespace Go.Sp
structure Ks where
 seen : Nat → Bool
 own : Nat → Int
 back : Nat → Int
def Ks.see (s : Ks) (j : Nat) : Ks := ⟨fun k => s.seen k || decide (k = j), s.own, s.back⟩
def Ks.give (s : Ks) (j i : Nat) : Ks := ⟨s.seen, fun k => if k = j then (i : Int) else s.own k, fun k => if k = i then (j : Int) else s.back k⟩
inductive Srch (adj : Nat → Nat → Prop) (m : Nat) : Nat → Nat → Ks → Bool → Ks → Prop
 | done {i j : Nat} {s : Ks} : m ≤ j → Srch adj m i j s false s
 | skip {i j : Nat} {s s' : Ks} {b : Bool} : j < m → (adj i j → s.seen j = true) → Srch adj m i (j + 1) s b s' → Srch adj m i j s b s'
 | free {i j : Nat} {s : Ks} : j < m → adj i j → s.seen j = false → s.own j < 0 → Srch adj m i j s true ((s.see j).give j i)
 | aug {i j o : Nat} {s s' : Ks} : j < m → adj i j → s.seen j = false → s.own j = (o : Int) → Srch adj m o 0 (s.see j) true s' → Srch adj m i j s true (s'.give j i)
 | fail {i j o : Nat} {s s1 s' : Ks} {b : Bool} : j < m → adj i j → s.seen j = false → s.own j = (o : Int) → Srch adj m o 0 (s.see j) false s1 → Srch adj m i (j + 1) s1 b s' → Srch adj m i j s b s'
variable {adj : Nat → Nat → Prop} {m : Nat}
theorem Srch.mono {i j : Nat} {s s' : Ks} {b : Bool} (H : Srch adj m i j s b s') : ∀ k, s.seen k = true → s'.seen k = true := by
 induction H with
 | done _ => exact fun k h => h
 | skip _ _ _ ih => exact ih
 | free => intro k h; show (_ || _) = true; rw [h]; rfl
 | aug _ _ _ _ _ ih => intro k h; exact ih k (by show (_ || _) = true; rw [h]; rfl)
 | fail _ _ _ _ _ _ ih1 ih2 => intro k h; exact ih2 k (ih1 k (by show (_ || _) = true; rw [h]; rfl))
theorem Srch.own_seen {i j : Nat} {s s' : Ks} {b : Bool} (H : Srch adj m i j s b s') : ∀ k, s.seen k = true → s'.own k = s.own k := by
 induction H with
 | done _ => exact fun k _ => rfl
 | skip _ _ _ ih => exact ih
 | @free i j s hj ha hs ho => intro k h; show (if k = j then _ else _) = _; rw [if_neg (fun e => by subst e; rw [hs] at h; cases h)]; rfl
 | @aug i j o s s' hj ha hs ho hr ih =>
   intro k h
   show (if k = j then _ else _) = _
   rw [if_neg (fun e => by subst e; rw [hs] at h; cases h)]
   exact ih k (by show (_ || _) = true; rw [h]; rfl)
 | @fail i j o s s1 s' b _ _ _ _ h1 _ ih1 ih2 =>
   intro k h
   have h' : (s.see j).seen k = true := by show (_ || _) = true; rw [h]; rfl
   rw [ih2 k (h1.mono k h'), ih1 k h']; rfl
theorem Srch.same {i j : Nat} {s s' : Ks} {b : Bool} (H : Srch adj m i j s b s') : b = false → s'.own = s.own ∧ s'.back = s.back := by
 induction H with
 | done _ => exact fun _ => ⟨rfl, rfl⟩
 | skip _ _ _ ih => exact ih
 | free => intro h; cases h
 | aug => intro h; cases h
 | fail _ _ _ _ _ _ ih1 ih2 => intro h; obtain ⟨a, b⟩ := ih2 h; obtain ⟨c, d⟩ := ih1 rfl; exact ⟨a.trans c, b.trans d⟩
theorem Srch.shut {i j : Nat} {s s' : Ks} {b : Bool} (H : Srch adj m i j s b s') : b = false → (∀ k, j ≤ k → k < m → adj i k → s'.seen k = true) ∧
   ∀ k, s'.seen k = true → s.seen k = false → k < m ∧ ∃ o : Nat, s.own k = (o : Int) ∧ ∀ q, q < m → adj o q → s'.seen q = true := by
 induction H with
 | done h => intro _; exact ⟨fun k h1 h2 => by omega, fun k h1 h2 => by rw [h1] at h2; cases h2⟩
 | @skip i j s s' b hj ha hr ih =>
   intro hb
   obtain ⟨h1, h2⟩ := ih hb
   refine ⟨fun k hk hm hadj => ?_, h2⟩
   by_cases e : k = j
   · subst e; exact hr.mono k (ha hadj)
   · exact h1 k (by omega) hm hadj
 | free => intro h; cases h
 | aug => intro h; cases h
 | @fail i j o s s1 s' b hj ha hs ho hr1 hr2 ih1 ih2 =>
   intro hb
   obtain ⟨a1, a2⟩ := ih1 rfl
   obtain ⟨b1, b2⟩ := ih2 hb
   have hsee : (s.see j).seen j = true := by show (_ || _) = true; simp
   have hown := (hr1.same rfl).1
   refine ⟨fun k hk hm hadj => ?_, fun k h1 h2 => ?_⟩
   · by_cases e : k = j
     · subst e; exact hr2.mono k (hr1.mono k hsee)
     · exact b1 k (by omega) hm hadj
   · by_cases e1 : s1.seen k = true
     · by_cases e : k = j
       · subst e
         exact ⟨hj, o, ho, fun q hq hadj => hr2.mono q (a1 q (Nat.zero_le _) hq hadj)⟩
       · obtain ⟨c0, o', c1, c2⟩ := a2 k e1 (by show (_ || _) = false; rw [h2]; simp [e])
         exact ⟨c0, o', c1, fun q hq hadj => hr2.mono q (c2 q hq hadj)⟩
     · obtain ⟨c0, o', c1, c2⟩ := b2 k h1 (by simpa using e1)
       rw [hown] at c1
       exact ⟨c0, o', c1, c2⟩
structure Mat (adj : Nat → Nat → Prop) (m : Nat) (s : Ks) : Prop where
 back : ∀ x : Nat, 0 ≤ s.back x → ∃ k : Nat, s.back x = (k : Int) ∧ k < m ∧ s.own k = (x : Int) ∧ adj x k
 own : ∀ k : Nat, k < m → 0 ≤ s.own k → ∃ x : Nat, s.own k = (x : Int) ∧ s.back x = (k : Int)
structure Done (adj : Nat → Nat → Prop) (m : Nat) (i : Nat) (s s' : Ks) : Prop where
 back : ∀ x : Nat, 0 ≤ s'.back x → ∃ k : Nat, s'.back x = (k : Int) ∧ k < m ∧ s'.own k = (x : Int) ∧ adj x k
 own : ∀ k : Nat, k < m → 0 ≤ s'.own k → ∃ x : Nat, s'.own k = (x : Int) ∧ (s'.back x = (k : Int) ∨ (x = i ∧ s.back i = (k : Int)))
 new : ∃ k : Nat, s'.back i = (k : Int) ∧ s.seen k = false
 rest : ∀ x : Nat, x ≠ i → (0 ≤ s'.back x ↔ 0 ≤ s.back x) ∧ (s'.back x = s.back x ∨ ∃ k : Nat, s.back x = (k : Int) ∧ s.seen k = false)
theorem Srch.win {i j : Nat} {s s' : Ks} {b : Bool} (H : Srch adj m i j s b s') : b = true → Mat adj m s → (∀ k : Nat, s.back i = (k : Int) → s.seen k = true) → Done adj m i s s' := by
 induction H with
 | done _ => intro h; cases h
 | skip _ _ _ ih => exact ih
 | @free i j s hj ha hs ho =>
   intro _ M hi
   refine ⟨fun x hx => ?_, fun k hk hx => ?_, ⟨j, by show (if i = i then _ else _) = _; rw [if_pos rfl], hs⟩, fun x hx => ?_⟩
   · by_cases e : x = i
     · subst e
       refine ⟨j, by show (if x = x then _ else _) = _; rw [if_pos rfl], hj, by show (if j = j then _ else _) = _; rw [if_pos rfl], ha⟩
     · have eb : ((s.see j).give j i).back x = s.back x := by show (if x = i then _ else _) = _; rw [if_neg e]; rfl
       rw [eb] at hx ⊢
       obtain ⟨k, h1, h2, h3, h4⟩ := M.back x hx
       refine ⟨k, h1, h2, ?_, h4⟩
       show (if k = j then _ else _) = _
       rw [if_neg (fun e => by subst e; omega)]; exact h3
   · by_cases e : k = j
     · subst e
       exact ⟨i, by show (if k = k then _ else _) = _; rw [if_pos rfl], .inl (by show (if i = i then _ else _) = _; rw [if_pos rfl])⟩
     · have eo : ((s.see j).give j i).own k = s.own k := by show (if k = j then _ else _) = _; rw [if_neg e]; rfl
       rw [eo] at hx ⊢
       obtain ⟨x, h1, h2⟩ := M.own k hk hx
       refine ⟨x, h1, ?_⟩
       by_cases e2 : x = i
       · subst e2; exact .inr ⟨rfl, h2⟩
       · left; show (if x = i then _ else _) = _; rw [if_neg e2]; exact h2
   · have eb : ((s.see j).give j i).back x = s.back x := by show (if x = i then _ else _) = _; rw [if_neg hx]; rfl
     rw [eb]
     exact ⟨Iff.rfl, .inl rfl⟩
 | @aug i j o s s' hj ha hs ho hr ih =>
   intro _ M hi
   have hbo : s.back o = (j : Int) := by
     obtain ⟨x, h1, h2⟩ := M.own j hj (by omega)
     have : x = o := by omega
     subst this; exact h2
   have hio : i ≠ o := fun e => by subst e; have := hi j hbo; rw [hs] at this; cases this
   have M2 : Mat adj m (s.see j) := ⟨M.back, M.own⟩
   have D := ih rfl M2 (fun k hk => by
     have : k = j := by have : (s.see j).back o = s.back o := rfl; omega
     subst this; show (_ || _) = true; simp)
   have hownj : s'.own j = (o : Int) := by rw [hr.own_seen j (by show (_ || _) = true; simp)]; exact ho
   obtain ⟨j', hj', hns⟩ := D.new
   have hjj : j' ≠ j := fun e => by subst e; have : (s.see j').seen j' = true := by show (_ || _) = true; simp
                                    rw [this] at hns; cases hns
   have hbi : s'.back i = s.back i := by
     rcases (D.rest i hio).2 with h | ⟨k, h1, h2⟩
     · exact h
     · have h3 := hi k h1
       have : (s.see j).seen k = true := by show (_ || _) = true; rw [h3]; rfl
       rw [this] at h2; cases h2
   refine ⟨fun x hx => ?_, fun k hk hx => ?_, ⟨j, by show (if i = i then _ else _) = _; rw [if_pos rfl], hs⟩, fun x hx => ?_⟩
   · by_cases e : x = i
     · subst e
       exact ⟨j, by show (if x = x then _ else _) = _; rw [if_pos rfl], hj, by show (if j = j then _ else _) = _; rw [if_pos rfl], ha⟩
     · have eb : (s'.give j i).back x = s'.back x := by show (if x = i then _ else _) = _; rw [if_neg e]
       rw [eb] at hx ⊢
       obtain ⟨k, h1, h2, h3, h4⟩ := D.back x hx
       refine ⟨k, h1, h2, ?_, h4⟩
       show (if k = j then _ else _) = _
       rw [if_neg (fun e => by
         subst e
         have : x = o := by omega
         subst this; omega)]
       exact h3
   · by_cases e : k = j
     · subst e
       exact ⟨i, by show (if k = k then _ else _) = _; rw [if_pos rfl], .inl (by show (if i = i then _ else _) = _; rw [if_pos rfl])⟩
     · have eo : (s'.give j i).own k = s'.own k := by show (if k = j then _ else _) = _; rw [if_neg e]
       rw [eo] at hx ⊢
       obtain ⟨x, h1, h2⟩ := D.own k hk hx
       refine ⟨x, h1, ?_⟩
       rcases h2 with h2 | ⟨h2, h3⟩
       · by_cases e2 : x = i
         · subst e2; exact .inr ⟨rfl, by rw [← hbi]; exact h2⟩
         · left; show (if x = i then _ else _) = _; rw [if_neg e2]; exact h2
       · exfalso
         have : (s.see j).back o = s.back o := rfl
         omega
   · have eb : (s'.give j i).back x = s'.back x := by show (if x = i then _ else _) = _; rw [if_neg hx]
     rw [eb]
     by_cases e : x = o
     · subst e
       exact ⟨⟨fun _ => by omega, fun _ => by omega⟩, .inr ⟨j, hbo, hs⟩⟩
     · obtain ⟨h1, h2⟩ := D.rest x e
       refine ⟨h1, ?_⟩
       rcases h2 with h2 | ⟨k, h2, h3⟩
       · exact .inl h2
       · exact .inr ⟨k, h2, by have : (s.seen k || decide (k = j)) = false := h3; simp at this; exact this.1⟩
 | @fail i j o s s1 s' b hj ha hs ho hr1 hr2 ih1 ih2 =>
   intro hb M hi
   obtain ⟨e1, e2⟩ := hr1.same rfl
   have e1 : s1.own = s.own := e1
   have e2 : s1.back = s.back := e2
   have hm : ∀ k, s.seen k = true → s1.seen k = true := fun k h => hr1.mono k (by show (_ || _) = true; rw [h]; rfl)
   have D := ih2 hb ⟨by rw [e1, e2]; exact M.back, by rw [e1, e2]; exact M.own⟩ (fun k hk => hm k (hi k (by rw [← e2]; exact hk)))
   have hf : ∀ k, s1.seen k = false → s.seen k = false := fun k h => by
     cases h' : s.seen k with
     | false => rfl
     | true => rw [hm k h'] at h; cases h
   refine ⟨D.back, by have := D.own; rwa [e2] at this, ?_, fun x hx => ?_⟩
   · obtain ⟨k, h1, h2⟩ := D.new; exact ⟨k, h1, hf k h2⟩
   · obtain ⟨h1, h2⟩ := D.rest x hx
     rw [e2] at h1 h2
     refine ⟨h1, ?_⟩
     rcases h2 with h2 | ⟨k, h2, h3⟩
     · exact .inl h2
     · exact .inr ⟨k, h2, hf k h3⟩
def Dead (adj : Nat → Nat → Prop) (m : Nat) (own : Nat → Int) (D : Nat → Prop) : Prop := ∀ k, k < m → D k → ∃ o : Nat, own k = (o : Int) ∧ ∀ q, q < m → adj o q → D q
theorem Srch.lost {i j : Nat} {s s' : Ks} {b : Bool} (H : Srch adj m i j s b s') {D : Nat → Prop} : Dead adj m s.own D → (∀ q, q < m → adj i q → D q) → b = false := by
 induction H with
 | done _ => intro _ _; rfl
 | skip _ _ _ ih => exact ih
 | @free i j s hj ha hs ho => intro hD hi; obtain ⟨o, h, _⟩ := hD j hj (hi j hj ha); omega
 | @aug i j o s s' hj ha hs ho hr ih =>
   intro hD hi
   obtain ⟨o', h, h2⟩ := hD j hj (hi j hj ha)
   have : o' = o := by omega
   subst this
   exact ih hD h2
 | @fail i j o s s1 s' b hj ha hs ho hr1 hr2 ih1 ih2 =>
   intro hD hi
   have e1 : s1.own = s.own := (hr1.same rfl).1
   exact ih2 (by rw [e1]; exact hD) hi
theorem Srch.kept {i j : Nat} {s s' : Ks} {b : Bool} (H : Srch adj m i j s b s') {D : Nat → Prop} : Dead adj m s.own D → ∀ k, k < m → D k → s'.own k = s.own k := by
 induction H with
 | done _ => intro _ k _ _; rfl
 | skip _ _ _ ih => exact ih
 | @free i j s hj ha hs ho =>
   intro hD k hk hd
   obtain ⟨o, h, _⟩ := hD k hk hd
   show (if k = j then _ else _) = _
   rw [if_neg (fun e => by subst e; omega)]; rfl
 | @aug i j o s s' hj ha hs ho hr ih =>
   intro hD k hk hd
   show (if k = j then _ else _) = _
   rw [if_neg (fun e => by
     subst e
     obtain ⟨o', h, h2⟩ := hD k hk hd
     have : o' = o := by omega
     subst this
     have := hr.lost hD h2
     cases this)]
   exact ih hD k hk hd
 | @fail i j o s s1 s' b hj ha hs ho hr1 hr2 ih1 ih2 =>
   intro hD k hk hd
   have e1 : s1.own = s.own := (hr1.same rfl).1
   rw [ih2 (by rw [e1]; exact hD) k hk hd, e1]
structure Kuhn (adj : Nat → Nat → Prop) (m : Nat) (n : Nat) (s : Ks) (D : Nat → Prop) : Prop where
 mat : Mat adj m s
 dead : Dead adj m s.own D
 lost : ∀ x : Nat, x < n → s.back x < 0 → ∀ q, q < m → adj x q → D q
 rest : ∀ x : Nat, n ≤ x → s.back x < 0
 lt : ∀ k, D k → k < m
theorem Kuhn.start {s : Ks} (h1 : ∀ k, s.own k < 0) (h2 : ∀ x, s.back x < 0) : Kuhn adj m 0 s (fun _ => False) :=
 ⟨⟨fun x hx => by have := h2 x; omega, fun k _ hx => by have := h1 k; omega⟩, fun k _ h => h.elim, fun x hx => by omega, fun x _ => h2 x, fun k h => h.elim⟩
theorem Kuhn.step {n : Nat} {s s' : Ks} {D : Nat → Prop} {b : Bool} (K : Kuhn adj m n s D) (hs : ∀ k, s.seen k = false) (H : Srch adj m n 0 s b s') : ∃ D', Kuhn adj m (n + 1) s' D' ∧ (b = true ↔ 0 ≤ s'.back n) ∧ ∀ x : Nat, x ≠ n → (0 ≤ s'.back x ↔ 0 ≤ s.back x) := by
 have hn := K.rest n (Nat.le_refl _)
 cases hb : b with
 | false =>
   obtain ⟨e1, e2⟩ := H.same hb
   obtain ⟨a1, a2⟩ := H.shut hb
   refine ⟨fun k => D k ∨ s'.seen k = true, ⟨⟨by rw [e1, e2]; exact K.mat.back, by rw [e1, e2]; exact K.mat.own⟩, fun k hk hd => ?_, fun x hx hbx q hq hadj => ?_, fun x hx => ?_, fun k hd => ?_⟩, ?_, fun x _ => by rw [e2]⟩
   · rw [e1]
     rcases hd with hd | hd
     · obtain ⟨o, h1, h2⟩ := K.dead k hk hd; exact ⟨o, h1, fun q hq ha => .inl (h2 q hq ha)⟩
     · obtain ⟨_, o, h1, h2⟩ := a2 k hd (hs k); exact ⟨o, h1, fun q hq ha => .inr (h2 q hq ha)⟩
   · by_cases e : x = n
     · subst e; exact .inr (a1 q (Nat.zero_le _) hq hadj)
     · rw [e2] at hbx; exact .inl (K.lost x (by omega) hbx q hq hadj)
   · rw [e2]; exact K.rest x (by omega)
   · rcases hd with hd | hd
     · exact K.lt k hd
     · exact (a2 k hd (hs k)).1
   · rw [e2]; constructor
     · intro h; cases h
     · intro h; omega
 | true =>
   have W := H.win hb K.mat (fun k hk => by omega)
   have hk := H.kept K.dead
   obtain ⟨k0, h0, _⟩ := W.new
   refine ⟨D, ⟨⟨W.back, fun k hkm hx => ?_⟩, fun k hkm hd => ?_, fun x hx hbx => ?_, fun x hx => ?_, K.lt⟩, ⟨fun _ => by omega, fun _ => rfl⟩, fun x hx => (W.rest x hx).1⟩
   · obtain ⟨x, h1, h2⟩ := W.own k hkm hx
     rcases h2 with h2 | ⟨rfl, h2⟩
     · exact ⟨x, h1, h2⟩
     · omega
   · rw [hk k hkm hd]; exact K.dead k hkm hd
   · have hxn : x ≠ n := fun e => by subst e; omega
     have := (W.rest x hxn).1
     exact K.lost x (by omega) (by omega)
   · have := (W.rest x (by omega)).1
     have := K.rest x (by omega)
     omega
end Go.Sp
end
/- Chains and cuts: as many in the greatest cut as are nobody's. No program in sight. -/
section
set_option linter.all false
namespace Go.Sp
theorem nodup_filter {T : Type} (p : T → Bool) {l : List T} (h : l.Nodup) : (l.filter p).Nodup := List.Pairwise.filter p h
structure IsCut (adj : Nat → Nat → Prop) (n : Nat) (S : List Nat) : Prop where
 nd : S.Nodup
 lt : ∀ x ∈ S, x < n
 apart : ∀ x ∈ S, ∀ y ∈ S, ¬ adj x y
def Most (adj : Nat → Nat → Prop) (n u : Nat) : Prop := (∃ S, IsCut adj n S ∧ S.length = u) ∧ ∀ S, IsCut adj n S → S.length ≤ u
theorem Most.unique {adj : Nat → Nat → Prop} {n u v : Nat} (h : Most adj n u) (h' : Most adj n v) : u = v := by
 obtain ⟨⟨S, h1, rfl⟩, h2⟩ := h
 obtain ⟨⟨S', h3, rfl⟩, h4⟩ := h'
 exact Nat.le_antisymm (h4 S h1) (h2 S' h3)
structure Ord (adj : Nat → Nat → Prop) (n : Nat) (rank : Nat → Int) : Prop where
 lt : ∀ x y, adj x y → x < n ∧ y < n
 up : ∀ x y, adj x y → rank x < rank y
 trans : ∀ x y z, adj x y → adj y z → adj x z
inductive Ch (back : Nat → Int) : Nat → Nat → Prop
 | refl (x : Nat) : Ch back x x
 | step {x y z : Nat} : back x = (y : Int) → Ch back y z → Ch back x z
theorem Ch.last {back : Nat → Int} {x z : Nat} (h : Ch back x z) : x = z ∨ ∃ w, Ch back x w ∧ back w = (z : Int) := by
 induction h with
 | refl x => exact .inl rfl
 | @step x y z h1 _ ih =>
   right
   rcases ih with rfl | ⟨w, h2, h3⟩
   · exact ⟨x, .refl _, h1⟩
   · exact ⟨w, .step h1 h2, h3⟩
section
variable {adj : Nat → Nat → Prop} {n : Nat} {rank : Nat → Int} {s : Ks}
theorem Mat.edge {m : Nat} (M : Mat adj m s) {x y : Nat} (h : s.back x = (y : Int)) : y < m ∧ s.own y = (x : Int) ∧ adj x y := by
 obtain ⟨k, h1, h2, h3, h4⟩ := M.back x (by omega)
 have : k = y := by omega
 subst this; exact ⟨h2, h3, h4⟩
theorem Ch.edge (M : Mat adj n s) (O : Ord adj n rank) {x y : Nat} (h : Ch s.back x y) : x = y ∨ adj x y := by
 induction h with
 | refl x => exact .inl rfl
 | step h1 _ ih =>
   right
   have h3 := (M.edge h1).2.2
   rcases ih with rfl | h4
   · exact h3
   · exact O.trans _ _ _ h3 h4
theorem Ch.both (M : Mat adj n s) {x y t : Nat} (h : Ch s.back x t) : Ch s.back y t → Ch s.back x y ∨ Ch s.back y x := by
 induction h with
 | refl x => exact fun h => .inr h
 | @step x z t h1 _ ih =>
   intro h
   rcases ih h with h2 | h2
   · exact .inl (.step h1 h2)
   · rcases h2.last with rfl | ⟨w, h3, h4⟩
     · exact .inl (.step h1 (.refl _))
     · have e1 := (M.edge h1).2.1
       have e2 := (M.edge h4).2.1
       have : w = x := by omega
       subst this; exact .inr h3
theorem tail_ex (M : Mat adj n s) (O : Ord adj n rank) : ∀ (b : Nat) (x : Nat), x < n → (∀ y, y < n → rank y ≤ rank x + b) → ∃ t, t < n ∧ s.back t < 0 ∧ Ch s.back x t
 | 0, x, hx, hb => by
   by_cases h : s.back x < 0
   · exact ⟨x, hx, h, .refl _⟩
   · obtain ⟨y, hy⟩ := Int.eq_ofNat_of_zero_le (show 0 ≤ s.back x by omega)
     obtain ⟨h1, _, h2⟩ := M.edge hy
     have := O.up _ _ h2
     have := hb y h1
     omega
 | b + 1, x, hx, hb => by
   by_cases h : s.back x < 0
   · exact ⟨x, hx, h, .refl _⟩
   · obtain ⟨y, hy⟩ := Int.eq_ofNat_of_zero_le (show 0 ≤ s.back x by omega)
     obtain ⟨h1, _, h2⟩ := M.edge hy
     have h3 := O.up _ _ h2
     obtain ⟨t, a, b', c⟩ := tail_ex M O b y h1 (fun z hz => by have := hb z hz; omega)
     exact ⟨t, a, b', .step hy c⟩
theorem rank_bound (rank : Nat → Int) (x : Nat) : ∀ n, ∃ b : Nat, ∀ y, y < n → rank y ≤ rank x + b
 | 0 => ⟨0, fun y h => by omega⟩
 | n + 1 => by
   obtain ⟨b, hb⟩ := rank_bound rank x n
   refine ⟨b + (rank n - rank x).toNat, fun y hy => ?_⟩
   by_cases e : y = n
   · subst e; omega
   · have := hb y (by omega); omega
def loose (n : Nat) (back : Nat → Int) : List Nat := (List.range n).filter (fun x => decide (back x < 0))
theorem mem_loose {n : Nat} {back : Nat → Int} {x : Nat} : x ∈ loose n back ↔ x < n ∧ back x < 0 := by
 unfold loose; rw [List.mem_filter, List.mem_range, decide_eq_true_eq]
theorem nodup_loose (n : Nat) (back : Nat → Int) : (loose n back).Nodup := nodup_filter _ List.nodup_range
theorem cut_le (M : Mat adj n s) (O : Ord adj n rank) {S : List Nat} (h : IsCut adj n S) : S.length ≤ (loose n s.back).length := by
 have ex : ∀ x, ∃ t, x < n → t < n ∧ s.back t < 0 ∧ Ch s.back x t := fun x => by
   by_cases hx : x < n
   · obtain ⟨b, hb⟩ := rank_bound rank x n
     obtain ⟨t, ht⟩ := tail_ex M O b x hx hb
     exact ⟨t, fun _ => ht⟩
   · exact ⟨0, fun h => absurd h hx⟩
 obtain ⟨f, hf⟩ := Classical.axiomOfChoice ex
 refine length_le_inj f h.nd (fun x hx => ?_) (fun x hx y hy e => ?_)
 · obtain ⟨a, b, _⟩ := hf x (h.lt x hx); exact mem_loose.2 ⟨a, b⟩
 · have hx' := (hf x (h.lt x hx)).2.2
   have hy' := (hf y (h.lt y hy)).2.2
   rw [e] at hx'
   rcases Ch.both M hx' hy' with h1 | h1
   · rcases h1.edge M O with h2 | h2
     · exact h2
     · exact absurd h2 (h.apart x hx y hy)
   · rcases h1.edge M O with h2 | h2
     · exact h2.symm
     · exact absurd h2 (h.apart y hy x hx)
theorem filter_split {T : Type} (p : T → Bool) : ∀ l : List T, l.length = (l.filter p).length + (l.filter (fun x => !p x)).length
 | [] => rfl
 | x :: l => by
   have := filter_split p l
   rw [List.filter_cons, List.filter_cons]
   cases p x <;> simp <;> omega
theorem cut_ex {D : Nat → Prop} (K : Kuhn adj n n s D) (ho : ∀ k, k < n → s.own k < n) : ∃ S, IsCut adj n S ∧ (loose n s.back).length ≤ S.length := by
 classical
 let A : Nat → Prop := fun x => s.back x < 0 ∨ ∃ k, k < n ∧ D k ∧ s.own k = (x : Int)
 let Al := (List.range n).filter (fun x => decide (A x))
 let Dl := (List.range n).filter (fun x => decide (D x))
 have hA : ∀ x, x < n → A x → ∀ q, q < n → adj x q → D q := by
   intro x hx ha q hq hadj
   rcases ha with h | ⟨k, h1, h2, h3⟩
   · exact K.lost x hx h q hq hadj
   · obtain ⟨o, h4, h5⟩ := K.dead k h1 h2
     have : o = x := by omega
     subst this; exact h5 q hq hadj
 refine ⟨Al.filter (fun x => !decide (D x)), ⟨nodup_filter _ (nodup_filter _ List.nodup_range), fun x hx => ?_, fun x hx y hy hadj => ?_⟩, ?_⟩
 · simp only [Al, List.mem_filter, List.mem_range] at hx; exact hx.1.1
 · simp only [Al, List.mem_filter, List.mem_range, decide_eq_true_eq, Bool.not_eq_true', decide_eq_false_iff_not] at hx hy
   exact hy.2 (hA x hx.1.1 hx.1.2 y hy.1.1 hadj)
 · have h1 := filter_split (fun x => decide (D x)) Al
   have h2 : (Al.filter (fun x => decide (D x))).length ≤ Dl.length := nodup_le (r := Dl) (nodup_filter _ (nodup_filter _ List.nodup_range)) (fun x hx => by
     simp only [Al, List.mem_filter, List.mem_range, decide_eq_true_eq] at hx
     simp only [Dl, List.mem_filter, List.mem_range, decide_eq_true_eq]; exact ⟨hx.1.1, hx.2⟩)
   have h3 : (loose n s.back ++ Dl.map (fun k => (s.own k).toNat)).length ≤ Al.length := by
     refine nodup_le (r := Al) (List.nodup_append.2 ⟨nodup_loose _ _, nodup_inj (nodup_filter _ List.nodup_range) (fun x hx y hy e => ?_), fun x hx y hy e => ?_⟩) (fun x hx => ?_)
     · simp only [Dl, List.mem_filter, List.mem_range, decide_eq_true_eq] at hx hy
       obtain ⟨o, h4, _⟩ := K.dead x hx.1 hx.2
       obtain ⟨o', h5, _⟩ := K.dead y hy.1 hy.2
       obtain ⟨a, a1, a2⟩ := K.mat.own x hx.1 (by omega)
       obtain ⟨b, b1, b2⟩ := K.mat.own y hy.1 (by omega)
       have : a = b := by omega
       subst this; omega
     · have hx := mem_loose.1 hx
       obtain ⟨k, hk, rfl⟩ := List.mem_map.1 hy
       simp only [Dl, List.mem_filter, List.mem_range, decide_eq_true_eq] at hk
       obtain ⟨o, h4, _⟩ := K.dead k hk.1 hk.2
       obtain ⟨a, a1, a2⟩ := K.mat.own k hk.1 (by omega)
       have : x = a := by omega
       subst this; omega
     · rcases List.mem_append.1 hx with hx | hx
       · have hx := mem_loose.1 hx
         simp only [Al, List.mem_filter, List.mem_range, decide_eq_true_eq]; exact ⟨hx.1, .inl hx.2⟩
       · obtain ⟨k, hk, rfl⟩ := List.mem_map.1 hx
         simp only [Dl, List.mem_filter, List.mem_range, decide_eq_true_eq] at hk
         obtain ⟨o, h4, _⟩ := K.dead k hk.1 hk.2
         have := ho k hk.1
         simp only [Al, List.mem_filter, List.mem_range, decide_eq_true_eq]
         exact ⟨by omega, .inr ⟨k, hk.1, hk.2, by omega⟩⟩
   rw [List.length_append, List.length_map] at h3
   omega
theorem kuhn_most {D : Nat → Prop} (K : Kuhn adj n n s D) (O : Ord adj n rank) (ho : ∀ k, k < n → s.own k < n) : Most adj n (loose n s.back).length := by
 obtain ⟨S, h1, h2⟩ := cut_ex K ho
 have := cut_le K.mat O h1
 exact ⟨⟨S, h1, by omega⟩, fun S hS => cut_le K.mat O hS⟩
theorem loose_own (M : Mat adj n s) (hb : ∀ x, n ≤ x → s.back x < 0) (ho : ∀ k, k < n → s.own k < n) : (loose n s.own).length = (loose n s.back).length := by
 have taken : ∀ f : Nat → Int, n = (loose n f).length + ((List.range n).filter (fun x => !decide (f x < 0))).length := fun f => by
   have := filter_split (fun x => decide (f x < 0)) (List.range n)
   rwa [List.length_range] at this
 have t1 := taken s.own
 have t2 := taken s.back
 have le1 : ((List.range n).filter (fun x => !decide (s.own x < 0))).length ≤ ((List.range n).filter (fun x => !decide (s.back x < 0))).length := by
   refine length_le_inj (fun k => (s.own k).toNat) (nodup_filter _ List.nodup_range) (fun k hk => ?_) (fun k hk q hq e => ?_)
   · simp only [List.mem_filter, List.mem_range, Bool.not_eq_true', decide_eq_false_iff_not] at hk ⊢
     obtain ⟨x, h1, h2⟩ := M.own k hk.1 (by omega)
     have := ho k hk.1
     have e : (s.own k).toNat = x := by omega
     rw [e]; omega
   · simp only [List.mem_filter, List.mem_range, Bool.not_eq_true', decide_eq_false_iff_not] at hk hq
     obtain ⟨x, h1, h2⟩ := M.own k hk.1 (by omega)
     obtain ⟨y, h3, h4⟩ := M.own q hq.1 (by omega)
     have : x = y := by omega
     subst this; omega
 have le2 : ((List.range n).filter (fun x => !decide (s.back x < 0))).length ≤ ((List.range n).filter (fun x => !decide (s.own x < 0))).length := by
   refine length_le_inj (fun k => (s.back k).toNat) (nodup_filter _ List.nodup_range) (fun k hk => ?_) (fun k hk q hq e => ?_)
   · simp only [List.mem_filter, List.mem_range, Bool.not_eq_true', decide_eq_false_iff_not] at hk ⊢
     obtain ⟨x, h1, h2, h3, _⟩ := M.back k (by omega)
     have e : (s.back k).toNat = x := by omega
     rw [e]; omega
   · simp only [List.mem_filter, List.mem_range, Bool.not_eq_true', decide_eq_false_iff_not] at hk hq
     obtain ⟨x, h1, h2, h3, _⟩ := M.back k (by omega)
     obtain ⟨y, h4, h5, h6, _⟩ := M.back q (by omega)
     have : x = y := by omega
     subst this; omega
 omega
end
end Go.Sp
end
/- Binary search, and insertion into a sorted list. No program in sight. -/
section
set_option linter.all false
namespace Go.Sp
open Go.Av
def bsF {T E : Type} [Inhabited T] (fuel : Nat) (p0 : List T) (p1 : E) (p2 : T → E → Option Int) : Option (Int × Bool) :=
 (loopGo (fun (s1 : Int × Int) k1 => (bif (decide (s1.2 < s1.1)) then must (inI (s1.2 + s1.1)) <| must (inU (s1.2 + s1.1)) <| must (inI (Int.fdiv (s1.2 + s1.1) (2 ^ (1 : Int).toNat))) <| must (0 ≤ ((Int.fdiv (s1.2 + s1.1) (2 ^ (1 : Int).toNat)) : Int) ∧ ((Int.fdiv (s1.2 + s1.1) (2 ^ (1 : Int).toNat)) : Int) < ((p0.length : Nat) : Int)) <| bindO (p2 (p0.getD ((Int.fdiv (s1.2 + s1.1) (2 ^ (1 : Int).toNat))).toNat default) p1) fun y7 => (bif (decide (y7 < 0)) then must (inI ((Int.fdiv (s1.2 + s1.1) (2 ^ (1 : Int).toNat)) + 1)) <| k1 (s1.1, ((Int.fdiv (s1.2 + s1.1) (2 ^ (1 : Int).toNat)) + 1)) else k1 ((Int.fdiv (s1.2 + s1.1) (2 ^ (1 : Int).toNat)), s1.2)) else must (((decide (s1.2 < ((p0.length : Nat) : Int))) = true → (0 ≤ (s1.2 : Int) ∧ (s1.2 : Int) < ((p0.length : Nat) : Int)))) <| bindO ((bif (decide (s1.2 < ((p0.length : Nat) : Int))) then p2 (p0.getD (s1.2).toNat default) p1 else some default)) fun y12 => some (s1.2, ((decide (s1.2 < ((p0.length : Nat) : Int))) && (decide (y12 = 0)))))) fuel (((p0.length : Nat) : Int), 0))
theorem bsF_eq {T E : Type} [Inhabited T] {fuel : Nat} (l : List T) (x : E) {p2 : T → E → Option Int} {c : T → Int} (hp : ∀ t, p2 t x = some (c t)) {k : Nat} (hk : k ≤ l.length)
   (h1 : ∀ i, i < k → c (l.getD i default) < 0) (h2 : ∀ i, k ≤ i → i < l.length → 0 ≤ c (l.getD i default)) (hl : l.length ≤ 1000000000) (hf : l.length < fuel) :
   bsF fuel l x p2 = some ((k : Int), decide (k < l.length) && decide (c (l.getD k default) = 0)) := by
 unfold bsF
 refine Wp.eq (wp_loop (fun s => ∃ lo hi : Nat, s = ((hi : Int), (lo : Int)) ∧ lo ≤ k ∧ k ≤ hi ∧ hi ≤ l.length) (fun s => (s.1 - s.2).toNat) (by simp only; omega) ⟨0, l.length, rfl, by omega, hk, by omega⟩ ?_)
 rintro _ K ⟨lo, hi, rfl, a1, a2, a3⟩ hK
 simp only at hK ⊢
 refine wp_ifd (fun hlt => ?_) (fun hge => ?_)
 · have e2 : Int.fdiv ((lo : Int) + hi) (2 ^ (1 : Int).toNat) = (((lo + hi) / 2 : Nat) : Int) := by
     rw [show (1 : Int).toNat = 1 from rfl, fdiv_bit (by omega), show ((lo : Int) + hi).toNat = lo + hi by omega, Nat.shiftRight_eq_div_pow]
   rw [e2]
   generalize hm : (lo + hi) / 2 = m
   refine wp_mustI (by omega) (wp_must (by unfold inU; omega) (wp_mustI (by omega) (wp_must (by omega) (wp_bindE (hp _) ?_))))
   rw [Int.toNat_natCast]
   refine wp_ifd (fun hc => ?_) (fun hc => ?_)
   · refine wp_mustI (by omega) (hK _ ⟨m + 1, hi, by simp, ?_, a2, a3⟩ (by simp only; omega))
     rcases Nat.lt_or_ge m k with h | h
     · omega
     · have := h2 m h (by omega); omega
   · refine hK _ ⟨lo, m, rfl, a1, ?_, by omega⟩ (by simp only; omega)
     rcases Nat.lt_or_ge m k with h | h
     · exact absurd (h1 m h) hc
     · exact h
 · have elo : lo = k := by omega
   subst elo
   refine wp_must (fun h => by have := of_decide_eq_true h; omega) ?_
   by_cases hlt : (lo : Int) < (l.length : Int)
   · refine wp_onE (by simp; omega) (hp _) (wp_some ?_)
     rw [Int.toNat_natCast]
     congr 2
     simp
   · refine wp_offE (by simp; omega) rfl (wp_some ?_)
     have e1 : decide ((lo : Int) < (l.length : Int)) = false := by simp; omega
     have e2 : decide (lo < l.length) = false := by simp; omega
     rw [e1, e2]; rfl
theorem split_ex {A : Nat → Prop} : ∀ (n : Nat), (∀ i j, i < j → j < n → A j → A i) → ∃ k, k ≤ n ∧ (∀ i, i < k → A i) ∧ ∀ i, k ≤ i → i < n → ¬ A i
 | 0, _ => ⟨0, Nat.le_refl _, fun i h => absurd h (Nat.not_lt_zero _), fun i _ h => absurd h (Nat.not_lt_zero _)⟩
 | n + 1, hm => by
   obtain ⟨k, h1, h2, h3⟩ := split_ex n (fun i j hij hj => hm i j hij (by omega))
   by_cases hn : A n
   · refine ⟨n + 1, Nat.le_refl _, fun i hi => ?_, fun i h4 h5 => by omega⟩
     rcases Nat.lt_or_ge i n with h | h
     · exact hm i n h (by omega) hn
     · have : i = n := by omega
       rw [this]; exact hn
   · refine ⟨k, by omega, h2, fun i h4 h5 => ?_⟩
     rcases Nat.lt_or_ge i n with h | h
     · exact h3 i h4 h
     · have : i = n := by omega
       rw [this]; exact hn
theorem while_split {T : Type} [Inhabited T] {p : T → Bool} : ∀ (l : List T) (k : Nat), k ≤ l.length → (∀ i, i < k → p (l.getD i default) = true) → (k < l.length → p (l.getD k default) = false) → l.takeWhile p = l.take k ∧ l.dropWhile p = l.drop k
 | [], k, hk, _, _ => by simp
 | a :: l, 0, hk, h1, h2 => by
   have := h2 (by simp)
   simp at this
   simp [this]
 | a :: l, k + 1, hk, h1, h2 => by
   have h0 := h1 0 (by omega)
   simp at h0
   obtain ⟨q1, q2⟩ := while_split l k (by simpa using hk) (fun i hi => by simpa using h1 (i + 1) (by omega)) (fun hi => by simpa using h2 (by simpa using hi))
   simp [h0, q1, q2]
theorem sorted_ext {T : Type} (f : T → Int) : ∀ {a b : List T}, a.Pairwise (fun x y => f x < f y) → b.Pairwise (fun x y => f x < f y) → (∀ z, z ∈ a ↔ z ∈ b) → a = b
 | [], [], _, _, _ => rfl
 | [], y :: b, _, _, h => by have := (h y).2 (by simp); simp at this
 | x :: a, [], _, _, h => by have := (h x).1 (by simp); simp at this
 | x :: a, y :: b, ha, hb, h => by
   rw [List.pairwise_cons] at ha hb
   have hxy : x = y := by
     rcases List.mem_cons.1 ((h x).1 (by simp)) with e | e
     · exact e
     · rcases List.mem_cons.1 ((h y).2 (by simp)) with e2 | e2
       · exact e2.symm
       · have h1 := hb.1 x e; have h2 := ha.1 y e2; omega
   subst hxy
   congr 1
   refine sorted_ext f ha.2 hb.2 (fun z => ?_)
   constructor
   · intro hz
     rcases List.mem_cons.1 ((h z).1 (by simp [hz])) with e | e
     · have := ha.1 z hz; rw [e] at this; omega
     · exact e
   · intro hz
     rcases List.mem_cons.1 ((h z).2 (by simp [hz])) with e | e
     · have := hb.1 z hz; rw [e] at this; omega
     · exact e
def insK {T : Type} (f : T → Int) (l : List T) (x : T) : List T := l.takeWhile (fun y => decide (f y < f x)) ++ [x] ++ l.dropWhile (fun y => decide (f y < f x))
theorem insK_mem {T : Type} (f : T → Int) (l : List T) (x z : T) : z ∈ insK f l x ↔ z = x ∨ z ∈ l := by
 unfold insK
 have : z ∈ l ↔ z ∈ l.takeWhile (fun y => decide (f y < f x)) ++ l.dropWhile (fun y => decide (f y < f x)) := by rw [List.takeWhile_append_dropWhile]
 rw [this]
 simp only [List.mem_append, List.mem_singleton]
 constructor
 · rintro ((h | h) | h)
   · exact .inr (.inl h)
   · exact .inl h
   · exact .inr (.inr h)
 · rintro (h | h | h)
   · exact .inl (.inr h)
   · exact .inl (.inl h)
   · exact .inr h
theorem dropWhile_gt {T : Type} (f : T → Int) (s : Int) : ∀ {l : List T}, l.Pairwise (fun a b => f a < f b) → (∀ y ∈ l, f y ≠ s) → ∀ z ∈ l.dropWhile (fun y => decide (f y < s)), s < f z
 | [], _, _, z, hz => by simp at hz
 | a :: l, hs, hne, z, hz => by
   rw [List.pairwise_cons] at hs
   by_cases ha : f a < s
   · rw [List.dropWhile_cons_of_pos (by simpa using ha)] at hz
     exact dropWhile_gt f s hs.2 (fun y hy => hne y (by simp [hy])) z hz
   · rw [List.dropWhile_cons_of_neg (by simpa using ha)] at hz
     have := hne a (by simp)
     rcases List.mem_cons.1 hz with rfl | hz
     · omega
     · have := hs.1 z hz; omega
theorem takeWhile_lt {T : Type} (f : T → Int) (s : Int) : ∀ {l : List T}, ∀ z ∈ l.takeWhile (fun y => decide (f y < s)), f z < s
 | [], z, hz => by simp at hz
 | a :: l, z, hz => by
   by_cases ha : f a < s
   · rw [List.takeWhile_cons_of_pos (by simpa using ha)] at hz
     rcases List.mem_cons.1 hz with rfl | hz
     · exact ha
     · exact takeWhile_lt f s z hz
   · rw [List.takeWhile_cons_of_neg (by simpa using ha)] at hz; simp at hz
theorem insK_sorted {T : Type} (f : T → Int) {l : List T} {x : T} (hs : l.Pairwise (fun a b => f a < f b)) (hne : ∀ y ∈ l, f y ≠ f x) : (insK f l x).Pairwise (fun a b => f a < f b) := by
 unfold insK
 have h0 : (l.takeWhile (fun y => decide (f y < f x)) ++ l.dropWhile (fun y => decide (f y < f x))).Pairwise (fun a b => f a < f b) := by rw [List.takeWhile_append_dropWhile]; exact hs
 rw [List.pairwise_append] at h0
 rw [List.append_assoc, List.pairwise_append]
 refine ⟨h0.1, ?_, fun a ha b hb => ?_⟩
 · rw [List.singleton_append, List.pairwise_cons]
   exact ⟨dropWhile_gt f (f x) hs hne, h0.2.1⟩
 · rw [List.singleton_append] at hb
   rcases List.mem_cons.1 hb with rfl | hb
   · exact takeWhile_lt f _ a ha
   · exact h0.2.2 a ha b hb
theorem adj_sorted {T : Type} [Inhabited T] (f : T → Int) {l : List T} (h : ∀ i, 0 < i → i < l.length → f (l.getD (i - 1) default) < f (l.getD i default)) : l.Pairwise (fun a b => f a < f b) := by
 rw [List.pairwise_iff_getElem]
 intro i j hi hj hij
 have step : ∀ k, i + 1 + k < l.length → f l[i] < f (l.getD (i + 1 + k) default) := by
   intro k
   induction k with
   | zero =>
     intro hk
     have := h (i + 1) (by omega) hk
     have e : l.getD (i + 1 - 1) default = l[i] := by simp [List.getElem?_eq_getElem hi]
     rw [e] at this; exact this
   | succ k ih =>
     intro hk
     have h1 := ih (by omega)
     have h2 := h (i + 1 + (k + 1)) (by omega) hk
     have e : i + 1 + (k + 1) - 1 = i + 1 + k := by omega
     rw [e] at h2; omega
 have := step (j - i - 1) (by omega)
 have e : i + 1 + (j - i - 1) = j := by omega
 rw [e] at this
 simpa [List.getElem?_eq_getElem hj] using this
theorem sorted_lt {T : Type} [Inhabited T] {f : T → Int} {l : List T} (hs : l.Pairwise (fun a b => f a < f b)) {i j : Nat} (hij : i < j) (hj : j < l.length) : f (l.getD i default) < f (l.getD j default) := by
 have := List.pairwise_iff_getElem.1 hs i j (by omega) hj hij
 simpa [List.getElem?_eq_getElem hj, List.getElem?_eq_getElem (show i < l.length by omega)] using this
theorem sorted_inj {T : Type} [Inhabited T] {f : T → Int} {l : List T} (hs : l.Pairwise (fun a b => f a < f b)) {x y : T} (hx : x ∈ l) (hy : y ∈ l) (e : f x = f y) : x = y := by
 obtain ⟨i, hi, rfl⟩ := mem_getD hx
 obtain ⟨j, hj, rfl⟩ := mem_getD hy
 rcases Nat.lt_trichotomy i j with q | q | q
 · have := sorted_lt hs q hj; omega
 · rw [q]
 · have := sorted_lt hs q hi; omega
theorem split_sorted {T : Type} [Inhabited T] (f : T → Int) {l : List T} (hs : l.Pairwise (fun a b => f a < f b)) (s : Int) : ∃ k, k ≤ l.length ∧ (∀ i, i < k → f (l.getD i default) < s) ∧ (∀ i, k ≤ i → i < l.length → ¬ f (l.getD i default) < s) ∧
   ((∀ y ∈ l, f y ≠ s) ↔ ¬ (k < l.length ∧ f (l.getD k default) = s)) ∧ l.takeWhile (fun y => decide (f y < s)) = l.take k ∧ l.dropWhile (fun y => decide (f y < s)) = l.drop k := by
 obtain ⟨k, k1, k2, k3⟩ := split_ex (A := fun i => f (l.getD i default) < s) l.length (fun i j hij hj h => Int.lt_trans (sorted_lt hs hij hj) h)
 refine ⟨k, k1, k2, k3, ⟨fun h hk => h _ (getD_mem hk.1) hk.2, fun h y hy e => ?_⟩, while_split l k k1 (fun i hi => decide_eq_true (k2 i hi)) (fun hk => decide_eq_false (k3 k (Nat.le_refl _) hk))⟩
 obtain ⟨i, hi, rfl⟩ := mem_getD hy
 rcases Nat.lt_trichotomy i k with hik | hik | hik
 · have := k2 i hik; omega
 · subst hik; exact h ⟨hi, e⟩
 · have h1 := sorted_lt hs hik hi
   have h2 := k3 k (Nat.le_refl _) (by omega)
   omega
theorem mid_getD {T : Type} [Inhabited T] {l : List T} {k : Nat} (hk : k < l.length) : l = l.take k ++ l.getD k default :: l.drop (k + 1) := by
 have := List.take_append_drop k l
 rw [List.drop_eq_getElem_cons hk] at this
 rw [List.getD_eq_getElem?_getD, List.getElem?_eq_getElem hk]
 exact this.symm
theorem cut_memK {T : Type} [Inhabited T] {l : List T} {k : Nat} (hk : k < l.length) (hd : l.Nodup) (z : T) : z ∈ l.take k ++ l.drop (k + 1) ↔ z ∈ l ∧ z ≠ l.getD k default := by
 have e := mid_getD hk
 generalize hy : l.getD k default = y at e ⊢
 generalize l.take k = A at e ⊢
 generalize l.drop (k + 1) = B at e ⊢
 subst e
 unfold List.Nodup at hd
 rw [List.pairwise_append, List.pairwise_cons] at hd
 have hd2 : y ∉ A ++ B ∧ True := ⟨fun h => by
   rcases List.mem_append.1 h with h | h
   · exact hd.2.2 y h y (by simp) rfl
   · exact hd.2.1.1 y h rfl, trivial⟩
 simp only [List.mem_append, List.mem_cons] at hd2 ⊢
 constructor
 · intro h
   refine ⟨by rcases h with h | h <;> simp [h], fun ez => hd2.1 (ez ▸ h)⟩
 · rintro ⟨h | h | h, hne⟩
   · exact .inl h
   · exact absurd h hne
   · exact .inr h
theorem cut_sub {T : Type} (l : List T) (k : Nat) : (l.take k ++ l.drop (k + 1)).Sublist l := by
 have := List.Sublist.append (List.Sublist.refl (l.take k)) (List.drop_sublist_drop_left l (Nat.le_succ k))
 rwa [List.take_append_drop] at this
theorem sorted_nodup {T : Type} {f : T → Int} {l : List T} (hs : l.Pairwise (fun a b => f a < f b)) : l.Nodup := hs.imp (fun h e => by rw [e] at h; omega)
theorem cut_filter {T : Type} [Inhabited T] {f : T → Int} {l : List T} (hs : l.Pairwise (fun a b => f a < f b)) {k : Nat} (hk : k < l.length) {s : Int} (e : f (l.getD k default) = s) : l.take k ++ l.drop (k + 1) = l.filter (fun y => !decide (f y = s)) := by
 refine sorted_ext f (hs.sublist (cut_sub l k)) (hs.filter _) (fun z => ?_)
 rw [cut_memK hk (sorted_nodup hs), List.mem_filter]
 simp only [Bool.not_eq_true', decide_eq_false_iff_not]
 refine and_congr_right fun hz => not_congr ⟨fun h => by rw [h]; exact e, fun h => sorted_inj hs hz (getD_mem hk) (h.trans e.symm)⟩
end Go.Sp
end
/- slices.IndexFunc and slices.DeleteFunc, as they are printed. No program in sight. -/
section
set_option linter.all false
namespace Go.Sp
open Go.Av
set_option maxRecDepth 100000
theorem indexFunc_eq {T : Type} [Inhabited T] {p : T → Option Bool} {q : T → Bool} (hp : ∀ x, p x = some (q x)) (l : List T) :
   (rangeGo (fun i1 (s1 : Unit) k1 => bindO (p (l.getD i1 default)) fun y3 => (bif y3 then some (i1 : Int) else k1 ())) (fun (s1 : Unit) => some (-1)) l.length 0 () : Option Int) = some (match l.findIdx? q with | some i => (i : Int) | none => -1) := by
 refine (wp_forall (P := fun r => r = (match l.findIdx? q with | some i => (i : Int) | none => -1)) (fun i => q (l.getD i default) = false) (fun i K hi hb hK => ?_) (fun h1 => ?_)).eq
 · rw [hp]
   refine wp_bif (fun h => wp_some ?_) (fun h => hK h)
   have : l.findIdx? q = some i := by
     rw [List.findIdx?_eq_some_iff_getElem]
     refine ⟨hi, ?_, fun j hj => ?_⟩
     · rw [List.getD_eq_getElem?_getD, List.getElem?_eq_getElem hi] at h; exact h
     · have := hb j hj
       rw [List.getD_eq_getElem?_getD, List.getElem?_eq_getElem (by omega)] at this
       simpa using this
   rw [this]
 · refine wp_some ?_
   have : l.findIdx? q = none := by
     rw [List.findIdx?_eq_none_iff]
     intro x hx
     obtain ⟨i, hi, rfl⟩ := mem_getD hx
     exact h1 i hi
   rw [this]
theorem take_set_le {T : Type} {l : List T} {i : Nat} {x : T} (h : i < l.length) : (l.set i x).take (i + 1) = l.take i ++ [x] := by
 rw [List.take_add_one, List.getElem?_set_self h, List.take_set_of_le (Nat.le_refl _)]; rfl
theorem take_copyAt {T : Type} [Inhabited T] (l : List T) (a m : Nat) (f : Nat → T) (h : a ≤ l.length) : (copyAt l a m f).take a = l.take a := by
 refine ext_getD (by simp [copyAt]) (fun i hi => ?_)
 have hi' : i < a := by simp [copyAt] at hi; omega
 rw [getD_take, getD_take, if_pos hi', if_pos hi']
 unfold copyAt
 rw [List.getD_eq_getElem?_getD, List.getElem?_map, List.getElem?_range (by omega)]
 simp only [Option.map_some, Option.getD_some]
 rw [if_neg (by omega)]
theorem drop_getD {T : Type} [Inhabited T] {l : List T} {i : Nat} (h : i < l.length) : l.drop i = l.getD i default :: l.drop (i + 1) := by
 rw [List.getD_eq_getElem?_getD, List.getElem?_eq_getElem h]; exact List.drop_eq_getElem_cons h
theorem take_getD {T : Type} [Inhabited T] {l : List T} {i : Nat} (h : i < l.length) : l.take (i + 1) = l.take i ++ [l.getD i default] := by
 rw [List.take_add_one, List.getD_eq_getElem?_getD, List.getElem?_eq_getElem h]; rfl
theorem deleteFunc_eq {T : Type} [Inhabited T] (z : T) {p : T → Option Bool} {q : T → Bool} (hp : ∀ x, p x = some (q x)) (l : List T) (fuel : Nat) (hf : l.length < fuel) (hl : l.length < 9223372036854775807) :
   (bindO (rangeGo (fun i1 (s1 : Unit) k1 => bindO (p (l.getD i1 default)) fun y3 => (bif y3 then some (i1 : Int) else k1 ())) (fun (s1 : Unit) => some (-1)) l.length 0 () : Option Int) fun y1 => (bif (decide (y1 = (-1))) then some l else must (inI (y1 + 1)) <| (loopGo (fun (s5 : Int × Int × (List T)) k5 => (bif (decide (s5.2.1 < ((s5.2.2.length : Nat) : Int))) then must (0 ≤ (s5.2.1 : Int) ∧ (s5.2.1 : Int) < ((s5.2.2.length : Nat) : Int)) <| bindO (p (s5.2.2.getD (s5.2.1).toNat default)) fun y8 => (bif (!y8) then must (0 ≤ (s5.1 : Int) ∧ (s5.1 : Int) < ((s5.2.2.length : Nat) : Int)) <| must (inI (s5.1 + 1)) <| must (inI (s5.2.1 + 1)) <| k5 ((s5.1 + 1), (s5.2.1 + 1), (s5.2.2.set (s5.1).toNat (s5.2.2.getD (s5.2.1).toNat default))) else must (inI (s5.2.1 + 1)) <| k5 (s5.1, (s5.2.1 + 1), s5.2.2)) else must (0 < s5.2.2.length ∧ 0 ≤ (s5.1 : Int) ∧ (s5.1 : Int) ≤ ((s5.2.2.length : Nat) : Int)) <| must (0 < (copyAt s5.2.2 ((s5.1).toNat) (s5.2.2.length - (s5.1).toNat) (fun _ => z)).length ∧ 0 ≤ (s5.1 : Int) ∧ (s5.1 : Int) ≤ (((copyAt s5.2.2 ((s5.1).toNat) (s5.2.2.length - (s5.1).toNat) (fun _ => z)).length : Nat) : Int)) <| some ((copyAt s5.2.2 ((s5.1).toNat) (s5.2.2.length - (s5.1).toNat) (fun _ => z)).take ((s5.1).toNat)))) fuel (y1, (y1 + 1), l))) : Option (List T)) = some (l.filter (fun x => !q x)) := by
 rw [indexFunc_eq hp l]
 refine Wp.eq (wp_bindE rfl ?_)
 cases hi : l.findIdx? q with
 | none =>
   rw [List.findIdx?_eq_none_iff] at hi
   refine wp_true (by simp) (wp_some ?_)
   exact (List.filter_eq_self.2 (fun x hx => by rw [hi x hx]; rfl)).symm
 | some i =>
   rw [List.findIdx?_eq_some_iff_getElem] at hi
   obtain ⟨h1, h2, h3⟩ := hi
   refine wp_false (by simp) (wp_mustI (by simp only; omega) ?_)
   refine wp_loop (fun s => ∃ a b : Nat, s.1 = (a : Int) ∧ s.2.1 = (b : Int) ∧ a < b ∧ b ≤ l.length ∧ s.2.2.length = l.length ∧ s.2.2.take a = (l.take b).filter (fun x => !q x) ∧ s.2.2.drop b = l.drop b) (fun s => l.length - s.2.1.toNat) (by simp only; omega) ⟨i, i + 1, rfl, by simp, by omega, by omega, rfl, ?_, rfl⟩ ?_
   · rw [take_getD h1, List.filter_append]
     have e1 : (l.take i).filter (fun x => !q x) = l.take i := List.filter_eq_self.2 (fun x hx => by
       obtain ⟨j, hj, rfl⟩ := List.getElem_of_mem hx
       have hj' : j < i := by simp at hj; omega
       have := h3 j hj'
       simp only [List.getElem_take]
       simpa using this)
     have e2 : q (l.getD i default) = true := by rw [List.getD_eq_getElem?_getD, List.getElem?_eq_getElem h1]; exact h2
     rw [e1]; simp [e2, -List.getD_eq_getElem?_getD]
   · rintro ⟨s1, s2, s3⟩ K ⟨a, b, rfl, rfl, hab, hb, hlen, ht, hd⟩ hK
     simp only at hK ht hd hlen ⊢
     refine wp_ifd (fun hlt => ?_) (fun hge => ?_)
     · have hbl : b < l.length := by omega
       refine wp_must (by omega) ?_
       rw [hp]
       simp only [Int.toNat_natCast]
       have ex : s3.getD b default = l.getD b default := by
         have := drop_getD (l := s3) (i := b) (by omega)
         rw [hd, drop_getD hbl] at this
         exact (List.cons.inj this).1.symm
       have hd1 : s3.drop (b + 1) = l.drop (b + 1) := by
         have := drop_getD (l := s3) (i := b) (by omega)
         rw [hd, drop_getD hbl] at this
         exact (List.cons.inj this).2.symm
       refine wp_bindE rfl ?_
       rw [ex]
       refine wp_bif (fun hq => ?_) (fun hq => ?_)
       · refine wp_must (by omega) (wp_mustI (by omega) (wp_mustI (by omega) ?_))
         refine hK _ ⟨a + 1, b + 1, by simp, by simp, by omega, by omega, by simp [hlen], ?_, ?_⟩ (by simp only; omega)
         · rw [take_set_le (by omega), ht, take_getD hbl, List.filter_append]
           simp only [Bool.not_eq_true'] at hq
           simp [hq, -List.getD_eq_getElem?_getD]
         · rw [List.drop_set_of_lt (by omega)]; exact hd1
       · refine wp_mustI (by omega) (hK _ ⟨a, b + 1, rfl, by simp, by omega, by omega, hlen, ?_, hd1⟩ (by simp only; omega))
         rw [ht, take_getD hbl, List.filter_append]
         simp only [Bool.not_eq_false'] at hq
         simp [hq, -List.getD_eq_getElem?_getD]
     · refine wp_must (by omega) (wp_must ?_ (wp_some ?_))
       · rw [length_copyAt]; omega
       · simp only [Int.toNat_natCast]
         rw [take_copyAt _ _ _ _ (by omega), ht, List.take_of_length_le (by omega)]
end Go.Sp
end
/- Plain laws, crew: what a valid crew is. No program in sight. -/
section
set_option linter.all false
namespace Go.Sp
open Go.Av
set_option maxRecDepth 100000
def tv (t : List (List Range)) (a b : Nat) : Range := (t.getD a default).getD b default
structure TravelOk (t : List (List Range)) : Prop where
 len : t.length ≤ 12
 row : ∀ a, a < t.length → (t.getD a default).length = t.length
 diag : ∀ a, a < t.length → (tv t a a).Lo = 0 ∧ (tv t a a).Hi = 0
 rng : ∀ a b, a < t.length → b < t.length → 0 ≤ (tv t a b).Lo ∧ (tv t a b).Lo ≤ (tv t a b).Hi ∧ (tv t a b).Hi ≤ 600
 tri : ∀ a b c, a < t.length → b < t.length → c < t.length → (tv t a c).Lo ≤ (tv t a b).Lo + (tv t b c).Lo ∧ (tv t a c).Hi ≤ (tv t a b).Hi + (tv t b c).Hi
def TaskOk (t : Task) : Prop := 1 ≤ t.Lamp ∧ t.Lamp ≤ 999 ∧ 0 ≤ t.Place ∧ t.Place ≤ 11 ∧ 0 ≤ t.At ∧ t.At ≤ 1439 ∧ 1 ≤ t.Serve ∧ t.Serve ≤ 120
def HandOk (h : Hand) : Prop := 1 ≤ h.Id ∧ h.Id ≤ 99 ∧ 0 ≤ h.From ∧ h.From ≤ h.To ∧ h.To ≤ 1439
def tk (c : Crew) (i : Nat) : Task := c.Tasks.getD i default
def hd (c : Crew) (i : Nat) : Hand := c.Hands.getD i default
structure Valid (c : Crew) : Prop where
 tasks : c.Tasks.length ≤ 24
 hands : c.Hands.length ≤ 16
 travel : TravelOk c.Travel
 task : ∀ i, i < c.Tasks.length → TaskOk (tk c i) ∧ (tk c i).Place < c.Travel.length ∧ (0 < i → (tk c (i - 1)).Lamp < (tk c i).Lamp)
 hand : ∀ i, i < c.Hands.length → HandOk (hd c i) ∧ (0 < i → (hd c (i - 1)).Id < (hd c i).Id)
theorem in_iff {a b c : Int} : crew_in a b c = true ↔ b ≤ a ∧ a ≤ c := by simp [crew_in]
theorem checkTask_iff {t : Task} : crew_CheckTask t = 0 ↔ TaskOk t := by
 unfold crew_CheckTask TaskOk crew_isMinute
 by_cases h1 : crew_in t.Lamp 1 999 = true <;> by_cases h2 : crew_in t.Place 0 11 = true <;> by_cases h3 : crew_in t.At 0 1439 = true <;> by_cases h4 : crew_in t.Serve 1 120 = true <;>
   simp [h1, h2, h3, h4] <;> simp only [in_iff] at h1 h2 h3 h4 <;> omega
theorem refTask_eq (t : Task) : gasolierref04_CheckTask t = crew_CheckTask t := by
 unfold gasolierref04_CheckTask crew_CheckTask crew_isMinute gasolierref01_Within crew_in; rfl
theorem checkHand_iff {t : Hand} : crew_CheckHand t = 0 ↔ HandOk t := by
 unfold crew_CheckHand HandOk crew_isMinute
 by_cases h1 : crew_in t.Id 1 99 = true <;> by_cases h2 : crew_in t.From 0 1439 = true <;> by_cases h3 : crew_in t.To t.From 1439 = true <;>
   simp [h1, h2, h3] <;> simp only [in_iff] at h1 h2 h3 <;> omega
theorem refHand_eq (t : Hand) : gasolierref04_CheckHand t = crew_CheckHand t := by
 unfold gasolierref04_CheckHand crew_CheckHand crew_isMinute gasolierref01_Within crew_in gasolierref01_IsRange
 by_cases h1 : 1 ≤ t.Id <;> by_cases h2 : t.Id ≤ 99 <;> by_cases h3 : 0 ≤ t.From <;> by_cases h4 : t.From ≤ t.To <;> by_cases h5 : t.To ≤ 1439 <;> by_cases h6 : t.From ≤ 1439 <;> simp [h1, h2, h3, h4, h5, h6] <;> omega
theorem range_zero {r : Range} : ((decide (r.Lo = 0)) && (decide (r.Hi = 0))) = true ↔ r.Lo = 0 ∧ r.Hi = 0 := by simp
theorem isTravel_wp (t : List (List Range)) : Wp (crew_isTravel t) (fun r => r = true ↔ TravelOk t) := by
 unfold crew_isTravel
 refine wp_ifd (fun h => wp_some ⟨fun h => (by cases h), fun T => by have := T.len; omega⟩) (fun h => ?_)
 refine wp_forall (fun a => (t.getD a default).length = t.length ∧ ((tv t a a).Lo = 0 ∧ (tv t a a).Hi = 0) ∧ ∀ b, b < t.length → 0 ≤ (tv t a b).Lo ∧ (tv t a b).Lo ≤ (tv t a b).Hi ∧ (tv t a b).Hi ≤ 600) (fun a K ha _ hK => ?_) (fun h1 => ?_)
 · refine wp_must (fun hl => by simp [-List.getD_eq_getElem?_getD] at hl; omega) ?_
   refine wp_bif (fun hb => ?_) (fun hb => ?_)
   · refine wp_some ⟨fun h => (by cases h), fun T => ?_⟩
     have h1 := T.row a ha
     have h2 := T.diag a ha
     unfold tv at h2
     simp [h2, -List.getD_eq_getElem?_getD] at hb
     omega
   · have hb' : (t.getD a default).length = t.length ∧ ((tv t a a).Lo = 0 ∧ (tv t a a).Hi = 0) := by
       simp only [Bool.or_eq_false_iff, Bool.not_eq_false'] at hb
       exact ⟨by have := hb.1; simp [-List.getD_eq_getElem?_getD] at this; omega, range_zero.1 hb.2⟩
     refine wp_forall (fun b => 0 ≤ (tv t a b).Lo ∧ (tv t a b).Lo ≤ (tv t a b).Hi ∧ (tv t a b).Hi ≤ 600) (fun b K' hb2 _ hK' => ?_) (fun h2 => ?_)
     · refine wp_bif (fun hc => ?_) (fun hc => ?_)
       · refine wp_some ⟨fun h => (by cases h), fun T => ?_⟩
         have := T.rng a b ha (by omega)
         unfold tv at this
         simp only [Bool.or_eq_true, Bool.not_eq_true', decide_eq_true_eq] at hc
         rcases hc with hc | hc
         · have : crew_in (((t.getD a default).getD b default).Lo) 0 (((t.getD a default).getD b default).Hi) = true := in_iff.2 (by omega)
           rw [hc] at this; cases this
         · omega
       · refine hK' ?_
         simp only [Bool.or_eq_false_iff, Bool.not_eq_false', decide_eq_false_iff_not] at hc
         have := in_iff.1 hc.1
         unfold tv; omega
     · exact hK ⟨hb'.1, hb'.2, fun b hb => h2 b (by omega)⟩
 · refine wp_forall (fun a => ∀ b c, b < t.length → c < t.length → (tv t a c).Lo ≤ (tv t a b).Lo + (tv t b c).Lo ∧ (tv t a c).Hi ≤ (tv t a b).Hi + (tv t b c).Hi) (fun a K ha _ hK => ?_) (fun h2 => ?_)
   · refine wp_forall (fun b => ∀ c, c < t.length → (tv t a c).Lo ≤ (tv t a b).Lo + (tv t b c).Lo ∧ (tv t a c).Hi ≤ (tv t a b).Hi + (tv t b c).Hi) (fun b K' hb _ hK' => ?_) (fun h3 => hK (fun b c hb hc => h3 b hb c hc))
     refine wp_forall (fun c => (tv t a c).Lo ≤ (tv t a b).Lo + (tv t b c).Lo ∧ (tv t a c).Hi ≤ (tv t a b).Hi + (tv t b c).Hi) (fun c K'' hc _ hK'' => ?_) (fun h3 => hK' h3)
     have r1 := (h1 a ha).1
     have r2 := (h1 b hb).1
     have q1 := (h1 a ha).2.2 b hb
     have q2 := (h1 b hb).2.2 c hc
     have q3 := (h1 a ha).2.2 c hc
     have e : ∀ a b, ((t.getD a default).getD b default) = tv t a b := fun _ _ => rfl
     simp only [e]
     repeat (first | (refine wp_must ?_ ?_; · omega) | (refine wp_mustI ?_ ?_; · omega) | (refine wp_must ?_ ?_; · (intro _; omega)) | (refine wp_mustW ?_ ?_; · (intro _; omega)))
     refine wp_bif (fun hd => ?_) (fun hd => ?_)
     · refine wp_some ⟨fun h => (by cases h), fun T => ?_⟩
       have := T.tri a b c ha hb hc
       simp only [Bool.or_eq_true, decide_eq_true_eq] at hd
       omega
     · refine hK'' ?_
       simp only [Bool.or_eq_false_iff, decide_eq_false_iff_not] at hd
       omega
   · exact wp_some ⟨fun _ => ⟨by omega, fun a ha => (h1 a ha).1, fun a ha => (h1 a ha).2.1, fun a b ha hb => (h1 a ha).2.2 b hb, fun a b c ha hb hc => h2 a ha b c hb hc⟩, fun _ => rfl⟩
theorem refTravel_eq (t : List (List Range)) : gasolierref04_isTravel t = crew_isTravel t := by
 unfold gasolierref04_isTravel crew_isTravel
 have e : ∀ r : Range, (!(gasolierref01_IsRange r 0 600)) = ((!(crew_in r.Lo 0 r.Hi)) || (decide (600 < r.Hi))) := by
   intro r
   have : gasolierref01_IsRange r 0 600 = !((!(crew_in r.Lo 0 r.Hi)) || (decide (600 < r.Hi))) := by
     unfold gasolierref01_IsRange crew_in
     by_cases h : r.Hi ≤ 600
     · rw [decide_eq_true h, decide_eq_false (by omega : ¬ 600 < r.Hi)]; simp
     · rw [decide_eq_false h, decide_eq_true (by omega : 600 < r.Hi)]; simp
   rw [this, Bool.not_not]
 simp only [e]
theorem check_wp (c : Crew) : Wp (crew_Check c) (fun r => (Valid c ∧ r = 0) ∨ (¬ Valid c ∧ r = 42)) := by
 unfold crew_Check
 refine wp_on (Q := fun r => r = true ↔ TravelOk c.Travel) (fun _ => isTravel_wp c.Travel) (fun y hy => ?_)
 refine wp_bif (fun hb => wp_some (.inr ⟨fun V => ?_, rfl⟩)) (fun hb => ?_)
 · have h1 := V.tasks; have h2 := V.hands
   have e : (decide (24 < ((c.Tasks.length : Nat) : Int)) || decide (16 < ((c.Hands.length : Nat) : Int))) = false := by simp; omega
   rw [e] at hb hy
   have := (hy rfl).2 V.travel
   rw [this] at hb; cases hb
 · simp only [Bool.or_eq_false_iff, Bool.not_eq_false', decide_eq_false_iff_not] at hb
   have T := (hy (by simp [hb.1.1, hb.1.2])).1 hb.2
   refine wp_forall (fun i => TaskOk (tk c i) ∧ (tk c i).Place < c.Travel.length ∧ (0 < i → (tk c (i - 1)).Lamp < (tk c i).Lamp)) (fun i K hi _ hK => ?_) (fun h1 => ?_)
   · refine wp_must (fun _ => by unfold inI; omega) ?_
     refine wp_must (fun h => by simp at h; omega) ?_
     have e : (((i : Int) - 1)).toNat = i - 1 := by omega
     rw [e]
     refine wp_bif (fun hb2 => wp_some (.inr ⟨fun V => ?_, rfl⟩)) (fun hb2 => ?_)
     · obtain ⟨a1, a2, a3⟩ := V.task i hi
       unfold tk at a1 a2 a3
       have a4 := checkTask_iff.2 a1
       simp only [a4, Bool.or_eq_true, Bool.and_eq_true, decide_eq_true_eq, Bool.not_eq_true'] at hb2
       simp [-List.getD_eq_getElem?_getD] at hb2
       omega
     · simp only [Bool.or_eq_false_iff, Bool.and_eq_false_iff, Bool.not_eq_false', decide_eq_true_eq, decide_eq_false_iff_not] at hb2
       refine hK ⟨checkTask_iff.1 hb2.1.1, by unfold tk; omega, fun h0 => ?_⟩
       unfold tk
       rcases hb2.2 with h | h <;> omega
   · refine wp_forall (fun i => HandOk (hd c i) ∧ (0 < i → (hd c (i - 1)).Id < (hd c i).Id)) (fun i K hi _ hK => ?_) (fun h2 => wp_some (.inl ⟨⟨by omega, by omega, T, h1, h2⟩, rfl⟩))
     refine wp_must (fun _ => by unfold inI; omega) ?_
     refine wp_must (fun h => by simp at h; omega) ?_
     have e : (((i : Int) - 1)).toNat = i - 1 := by omega
     rw [e]
     refine wp_bif (fun hb2 => wp_some (.inr ⟨fun V => ?_, rfl⟩)) (fun hb2 => ?_)
     · obtain ⟨a1, a3⟩ := V.hand i hi
       unfold hd at a1 a3
       have a4 := checkHand_iff.2 a1
       simp only [a4, Bool.or_eq_true, Bool.and_eq_true, decide_eq_true_eq, Bool.not_eq_true'] at hb2
       simp [-List.getD_eq_getElem?_getD] at hb2
       omega
     · simp only [Bool.or_eq_false_iff, Bool.and_eq_false_iff, Bool.not_eq_false', decide_eq_true_eq, decide_eq_false_iff_not] at hb2
       refine hK ⟨checkHand_iff.1 hb2.1, fun h0 => ?_⟩
       unfold hd
       rcases hb2.2 with h | h <;> omega
theorem refCheck_eq (c : Crew) : gasolierref04_Check c = crew_Check c := by
 unfold gasolierref04_Check crew_Check
 simp only [refTask_eq, refHand_eq, refTravel_eq]
noncomputable def chk (c : Crew) : Int := @ite _ (Valid c) (Classical.propDecidable _) 0 42
theorem chk_valid {c : Crew} (h : Valid c) : chk c = 0 := if_pos h
theorem chk_not {c : Crew} (h : ¬ Valid c) : chk c = 42 := if_neg h
theorem check_eq (c : Crew) : crew_Check c = some (chk c) := by
 refine Wp.eq ((check_wp c).mono (fun r h => ?_))
 rcases h with ⟨h, rfl⟩ | ⟨h, rfl⟩
 · exact (chk_valid h).symm
 · exact (chk_not h).symm
theorem rcheck_eq (c : Crew) : gasolierref04_Check c = some (chk c) := (refCheck_eq c).trans (check_eq c)
end Go.Sp
end
/- Plain laws, crew: which task follows which; the plan. No program in sight. -/
section
set_option linter.all false
namespace Go.Sp
open Go.Av
set_option maxRecDepth 100000
def EndOf (e : Range → Int) : Prop := e = Range.Lo ∨ e = Range.Hi
def gap (c : Crew) (e : Range → Int) (i j : Nat) : Int := (tk c j).At - (tk c i).At - (tk c i).Serve - e (tv c.Travel (tk c i).Place.toNat (tk c j).Place.toNat)
def fol (c : Crew) (e : Range → Int) (i j : Nat) : Prop := i < c.Tasks.length ∧ j < c.Tasks.length ∧ 0 ≤ gap c e i j
instance (c : Crew) (e : Range → Int) (i j : Nat) : Decidable (fol c e i j) := inferInstanceAs (Decidable (_ ∧ _ ∧ _))
theorem Valid.place {c : Crew} (V : Valid c) {i : Nat} (hi : i < c.Tasks.length) : 0 ≤ (tk c i).Place ∧ (tk c i).Place.toNat < c.Travel.length ∧ ((tk c i).Place.toNat : Int) = (tk c i).Place := by
 obtain ⟨a, b, _⟩ := V.task i hi
 unfold TaskOk at a; omega
theorem Valid.end {c : Crew} (V : Valid c) {e : Range → Int} (he : EndOf e) {i j : Nat} (hi : i < c.Tasks.length) (hj : j < c.Tasks.length) : 0 ≤ e (tv c.Travel (tk c i).Place.toNat (tk c j).Place.toNat) ∧ e (tv c.Travel (tk c i).Place.toNat (tk c j).Place.toNat) ≤ 600 := by
 have := V.travel.rng _ _ (V.place hi).2.1 (V.place hj).2.1
 rcases he with rfl | rfl <;> omega
theorem Valid.at {c : Crew} (V : Valid c) {i : Nat} (hi : i < c.Tasks.length) : 0 ≤ (tk c i).At ∧ (tk c i).At ≤ 1439 ∧ 1 ≤ (tk c i).Serve ∧ (tk c i).Serve ≤ 120 := by
 obtain ⟨a, _, _⟩ := V.task i hi
 unfold TaskOk at a; omega
theorem fol_at {c : Crew} (V : Valid c) {e : Range → Int} (he : EndOf e) {i j : Nat} (h : fol c e i j) : (tk c i).At < (tk c j).At := by
 obtain ⟨hi, hj, h⟩ := h
 have := V.end he hi hj
 have := V.at hi
 unfold gap at h; omega
theorem fol_irrefl {c : Crew} (V : Valid c) {e : Range → Int} (he : EndOf e) {i : Nat} : ¬ fol c e i i := fun h => by have := fol_at V he h; omega
theorem fol_trans {c : Crew} (V : Valid c) {e : Range → Int} (he : EndOf e) {i j k : Nat} (h1 : fol c e i j) (h2 : fol c e j k) : fol c e i k := by
 obtain ⟨hi, hj, h1⟩ := h1
 obtain ⟨_, hk, h2⟩ := h2
 refine ⟨hi, hk, ?_⟩
 have t := V.travel.tri _ _ _ (V.place hi).2.1 (V.place hj).2.1 (V.place hk).2.1
 have := V.at hj
 unfold gap at *
 rcases he with rfl | rfl <;> omega
theorem spare_eq {c : Crew} (V : Valid c) {e : Range → Int} (he : EndOf e) {i j : Nat} (hi : i < c.Tasks.length) (hj : j < c.Tasks.length) : crew_spare c (i : Int) (j : Int) (fun x => some (e x)) = some (gap c e i j) := by
 refine Wp.eq ?_
 unfold crew_spare
 have hpi := V.place hi
 have hpj := V.place hj
 have hai := V.at hi
 have haj := V.at hj
 have hen := V.end he hi hj
 have hrow := V.travel.row _ hpi.2.1
 have e1 : c.Tasks.getD ((i : Int)).toNat default = tk c i := rfl
 have e2 : c.Tasks.getD ((j : Int)).toNat default = tk c j := rfl
 rw [e1, e2]
 refine wp_must (by omega) (wp_must (by omega) (wp_mustI (by omega) (wp_mustI (by omega) (wp_must (by omega) (wp_must (by omega) (wp_bindE rfl ?_))))))
 have e3 : e ((c.Travel.getD ((tk c i).Place).toNat default).getD ((tk c j).Place).toNat default) = e (tv c.Travel (tk c i).Place.toNat (tk c j).Place.toNat) := rfl
 rw [e3]
 exact wp_mustI (by omega) (wp_some rfl)
structure IsPlan (n : Nat) (adj : Nat → Nat → Prop) (p : crew_plan) : Prop where
 le : n ≤ 24
 len : p.next.length = n
 bits : ∀ i, i < n → 0 ≤ p.next.getD i default ∧ (p.next.getD i default).toNat < 2 ^ n ∧ ∀ j, j < n → ((p.next.getD i default).toNat.testBit j = true ↔ adj i j)
theorem pow24 {n : Nat} (h : n ≤ 24) : 2 ^ n ≤ 16777216 := Nat.pow_le_pow_right (by omega) h
theorem pow_nat (j : Nat) : ((1 : Int) * 2 ^ j) = ((2 ^ j : Nat) : Int) := by simp
theorem pow_lt24 {j n : Nat} (h : j < n) (hn : n ≤ 24) : 2 ^ j < 16777216 := Nat.lt_of_lt_of_le (Nat.pow_lt_pow_right (by omega) h) (pow24 hn)
theorem pow_rng {j n : Nat} (h : j < n) (hn : n ≤ 24) : 0 ≤ ((1 : Int) * 2 ^ j) ∧ ((1 : Int) * 2 ^ j) ≤ 16777216 := by
 rw [pow_nat]
 have := pow_lt24 h hn
 generalize 2 ^ j = q at this
 omega
theorem getD0 {l : List Int} {i : Nat} : l.getD i default = l.getD i 0 := rfl
theorem newPlan_wp {c : Crew} (V : Valid c) {e : Range → Int} (he : EndOf e) : Wp (crew_newPlan c (fun x => some (e x))) (fun r => ∃ p, r = some p ∧ p.Crew = c ∧ IsPlan c.Tasks.length (fol c e) p) := by
 have hn := V.tasks
 unfold crew_newPlan
 refine wp_must ⟨by omega, by omega, by unfold room; omega⟩ (wp_must (by omega) ?_)
 refine wp_range (fun i s => s.length = c.Tasks.length ∧ ∀ a, a < c.Tasks.length → 0 ≤ s.getD a default ∧ (s.getD a default).toNat < 2 ^ c.Tasks.length ∧ ∀ b, b < c.Tasks.length → ((s.getD a default).toNat.testBit b = true ↔ (a < i ∧ fol c e a b))) ?_ (fun i s K hi hI hK => ?_) (fun s hs => wp_some ⟨_, rfl, rfl, hn, hs.1, fun a ha => ?_⟩)
 · refine ⟨by simp, fun a ha => ?_⟩
   have : (List.replicate (((c.Tasks.length : Nat) : Int)).toNat (0 : Int)).getD a default = 0 := by rw [getD0, getD_replicate]
   rw [this]
   exact ⟨by omega, Nat.pow_pos (by omega), fun b _ => by simp⟩
 · refine wp_must (by omega) ?_
   refine wp_range (fun j s => s.length = c.Tasks.length ∧ ∀ a, a < c.Tasks.length → 0 ≤ s.getD a default ∧ (s.getD a default).toNat < 2 ^ c.Tasks.length ∧ ∀ b, b < c.Tasks.length → ((s.getD a default).toNat.testBit b = true ↔ ((a < i ∨ (a = i ∧ b < j)) ∧ fol c e a b))) ?_ (fun j s K' hj hI' hK' => ?_) (fun s hs => hK s ⟨hs.1, fun a ha => ?_⟩)
   · refine ⟨hI.1, fun a ha => ?_⟩
     obtain ⟨h1, h2, h3⟩ := hI.2 a ha
     refine ⟨h1, h2, fun b hb => (h3 b hb).trans ⟨fun h => ⟨.inl h.1, h.2⟩, fun h => ⟨by omega, h.2⟩⟩⟩
   · have same : (¬ fol c e i j) → ∀ a, a < c.Tasks.length → 0 ≤ s.getD a default ∧ (s.getD a default).toNat < 2 ^ c.Tasks.length ∧ ∀ b, b < c.Tasks.length → ((s.getD a default).toNat.testBit b = true ↔ ((a < i ∨ (a = i ∧ b < j + 1)) ∧ fol c e a b)) := by
       intro hno a ha
       obtain ⟨h1, h2, h3⟩ := hI'.2 a ha
       refine ⟨h1, h2, fun b hb => (h3 b hb).trans ⟨fun h => ⟨by omega, h.2⟩, fun h => ⟨?_, h.2⟩⟩⟩
       by_cases e1 : a = i ∧ b = j
       · rw [e1.1, e1.2] at h; exact absurd h.2 hno
       · omega
     refine wp_on (Q := fun r => r = gap c e i j) (fun _ => Wp.of_eq (spare_eq V he hi hj) rfl) (fun y hy => ?_)
     refine wp_bif (fun hb => ?_) (fun hb => ?_)
     · simp only [Bool.and_eq_true, Bool.not_eq_true', decide_eq_false_iff_not, decide_eq_true_eq] at hb
       have hy := hy (by simp; omega)
       subst hy
       have hf : fol c e i j := ⟨hi, hj, hb.2⟩
       obtain ⟨h1, h2, h3⟩ := hI'.2 i hi
       have hp := pow_rng hj hn
       have hq := pow24 hn
       have e0 : ((j : Int)).toNat = j := rfl
       rw [e0]
       refine wp_must (by omega) (wp_must ⟨by omega, by omega, by unfold inI; omega⟩ (wp_must ⟨h1, hp.1, by unfold inI; omega, by unfold inI; omega⟩ (wp_must (by omega) ?_)))
       rw [pow_nat]
       refine hK' _ ⟨by rw [List.length_set]; exact hI'.1, fun a ha => ?_⟩
       rw [getD_set _ _ _ _ _ (by omega)]
       by_cases e1 : a = i
       · subst e1
         rw [if_pos rfl, Int.toNat_natCast, Int.toNat_natCast]
         refine ⟨by omega, or_lt h2 hj, fun b hb2 => ?_⟩
         rw [or_bit, Bool.or_eq_true, decide_eq_true_eq, h3 b hb2]
         constructor
         · rintro (h | h)
           · exact ⟨by omega, h.2⟩
           · subst h; exact ⟨by omega, hf⟩
         · rintro ⟨h, hf'⟩
           by_cases e2 : b = j
           · exact .inr e2
           · exact .inl ⟨by omega, hf'⟩
       · rw [if_neg e1]
         obtain ⟨g1, g2, g3⟩ := hI'.2 a ha
         exact ⟨g1, g2, fun b hb2 => (g3 b hb2).trans ⟨fun h => ⟨by omega, h.2⟩, fun h => ⟨by omega, h.2⟩⟩⟩
     · refine hK' s ⟨hI'.1, same (fun hf => ?_)⟩
       have hne : i ≠ j := fun e1 => by subst e1; exact fol_irrefl V he hf
       have hy := hy (by simp; omega)
       subst hy
       simp only [Bool.and_eq_false_iff, Bool.not_eq_false', decide_eq_false_iff_not, decide_eq_true_eq] at hb
       have := hf.2.2
       rcases hb with hb | hb <;> omega
   · obtain ⟨h1, h2, h3⟩ := hs.2 a ha
     exact ⟨h1, h2, fun b hb => (h3 b hb).trans ⟨fun h => ⟨by omega, h.2⟩, fun h => ⟨by omega, h.2⟩⟩⟩
 · obtain ⟨h1, h2, h3⟩ := hs.2 a ha
   exact ⟨h1, h2, fun b hb => (h3 b hb).trans ⟨fun h => h.2, fun h => ⟨ha, h⟩⟩⟩
theorem bit_test {x : Int} {j : Nat} (h : 0 ≤ x) : ((((Int.fdiv x (2 ^ j)).toNat &&& ((1 : Int)).toNat : Nat) : Int)) = if x.toNat.testBit j then 1 else 0 := by
 rw [fdiv_bit h, Int.toNat_natCast]
 have : ((1 : Int)).toNat = 1 := rfl
 rw [this, bit_one]
 split <;> rfl
theorem bit_dec {x : Int} {j : Nat} (h : 0 ≤ x) : decide ((((Int.fdiv x (2 ^ j)).toNat &&& ((1 : Int)).toNat : Nat) : Int) = 1) = x.toNat.testBit j := by
 rw [bit_test h]
 cases x.toNat.testBit j <;> rfl
theorem bit_rng {x : Int} {j n : Nat} (h : 0 ≤ x) (hx : x.toNat < 2 ^ n) (hn : n ≤ 24) : 0 ≤ Int.fdiv x (2 ^ j) ∧ 0 ≤ (1 : Int) ∧ inI (Int.fdiv x (2 ^ j)) ∧ inI 1 := by
 have h1 := fdiv_bit (j := j) h
 have h2 : x.toNat >>> j ≤ x.toNat := by rw [Nat.shiftRight_eq_div_pow]; exact Nat.div_le_self _ _
 have h3 := pow24 hn
 rw [h1]
 generalize x.toNat >>> j = q at h2
 refine ⟨by omega, by omega, by unfold inI; omega, by unfold inI; omega⟩
end Go.Sp
end
/- Plain laws, crew: pairs of tasks; how many rounds the program and the chapter find. No program in sight. -/
section
set_option linter.all false
namespace Go.Sp
open Go.Av
set_option maxRecDepth 100000
def ab (l : List Int) : Nat → Int := fun k => l.getD k (-1)
def sb (x : Int) : Nat → Bool := fun k => x.toNat.testBit k
theorem ab_lt {l : List Int} {k : Nat} (h : k < l.length) : ab l k = l.getD k default := by
 unfold ab
 rw [List.getD_eq_getElem?_getD, List.getD_eq_getElem?_getD, List.getElem?_eq_getElem h]; rfl
theorem ab_ge {l : List Int} {k : Nat} (h : l.length ≤ k) : ab l k = -1 := by
 unfold ab
 rw [List.getD_eq_getElem?_getD, List.getElem?_eq_none h]; rfl
theorem ab_set {l : List Int} {i : Nat} {x : Int} (h : i < l.length) : ab (l.set i x) = fun k => if k = i then x else ab l k := by
 funext k; unfold ab; exact getD_set l i k x (-1) h
structure PS (n : Nat) (own back : List Int) : Prop where
 ol : own.length = n
 bl : back.length = n
 ok : ∀ k, k < n → -1 ≤ ab own k ∧ ab own k < n
structure SB (n : Nat) (x : Int) : Prop where
 nn : 0 ≤ x
 lt : x.toNat < 2 ^ n
theorem SB.zero (n : Nat) : SB n 0 := ⟨by omega, by exact Nat.pow_pos (by omega)⟩
theorem SB.inI {n : Nat} {x : Int} (h : SB n x) (hn : n ≤ 24) : inI x := by
 have := pow24 hn
 have := h.lt
 have := h.nn
 unfold Av.inI; omega
theorem SB.put {n j : Nat} {x : Int} (h : SB n x) (hj : j < n) : SB n (((x.toNat ||| (((1 : Int) * 2 ^ j)).toNat : Nat) : Int)) := by
 rw [pow_nat, Int.toNat_natCast]
 exact ⟨Int.natCast_nonneg _, by rw [Int.toNat_natCast]; exact or_lt h.lt hj⟩
theorem sb_put {j : Nat} {x : Int} : sb (((x.toNat ||| (((1 : Int) * 2 ^ j)).toNat : Nat) : Int)) = fun k => sb x k || decide (k = j) := by
 funext k
 unfold sb
 rw [pow_nat, Int.toNat_natCast, Int.toNat_natCast, or_bit]
def ks (own back : List Int) (seen : Int) : Ks := ⟨sb seen, ab own, ab back⟩
theorem ks_see {own back : List Int} {seen : Int} {j : Nat} : ks own back (((seen.toNat ||| (((1 : Int) * 2 ^ j)).toNat : Nat) : Int)) = (ks own back seen).see j := by
 unfold ks Ks.see; rw [sb_put]
theorem ks_give {own back : List Int} {seen : Int} {i j : Nat} (ho : j < own.length) (hb : i < back.length) : ks (own.set j (i : Int)) (back.set i (j : Int)) seen = (ks own back seen).give j i := by
 unfold ks Ks.give; rw [ab_set ho, ab_set hb]
section
variable {n : Nat} {adj : Nat → Nat → Prop} {p : crew_plan}
theorem followers_eq (IP : IsPlan n adj p) {i : Nat} (hi : i < n) : crew_plan__followers_1 p (i : Int) = some (flw n (fun j => (p.next.getD i default).toNat.testBit j) 0) := by
 have hn := IP.le
 have hl := IP.len
 obtain ⟨h1, h2, _⟩ := IP.bits i hi
 unfold crew_plan__followers_1
 rw [must_yes (by omega), emit_range (fun j => (p.next.getD i default).toNat.testBit j) (fun j => (j : Int)) (fun j r hj => ?_)]
 · unfold flw; rw [hl, Nat.sub_zero]
 · have e0 : ((i : Int)).toNat = i := rfl
   have e1 : ((j : Int)).toNat = j := rfl
   rw [e0, e1, must_yes (by omega), must_yes (by omega), must_yes (bit_rng h1 h2 hn), bit_dec h1]
theorem pair_step (IP : IsPlan n adj p) (fuel : Nat) : ∀ (f i : Nat) (own back : List Int) (seen : Int), i < n → PS n own back → SB n seen → mu n (sb seen) < f →
   Wp (crew_plan__pair_1_l fuel f (i : Int) p seen own back) (fun r => PS n r.2.2.1 r.2.2.2 ∧ SB n r.2.1 ∧ Srch adj n i 0 (ks own back seen) r.1 (ks r.2.2.1 r.2.2.2 r.2.1)) := by
 have hn := IP.le
 intro f
 induction f with
 | zero => intro i own back seen _ _ _ h; omega
 | succ f ih =>
   intro i own back seen hi hP hS hmu
   show Wp (crew_plan__pair_1_l_F fuel (crew_plan__pair_1_l fuel f) (i : Int) p seen own back) _
   unfold crew_plan__pair_1_l_F
   refine wp_bindE (followers_eq IP hi) ?_
   obtain ⟨_, _, hbit⟩ := IP.bits i hi
   refine wp_flw n _ (fun j s => PS n s.1 s.2.1 ∧ SB n s.2.2 ∧ mu n (sb s.2.2) ≤ mu n (sb seen) ∧ ∀ b s', Srch adj n i j (ks s.1 s.2.1 s.2.2) b s' → Srch adj n i 0 (ks own back seen) b s')
     ⟨hP, hS, Nat.le_refl _, fun _ _ h => h⟩ (fun j s hj hW hI => ⟨hI.1, hI.2.1, hI.2.2.1, fun b s' h => hI.2.2.2 b s' (.skip hj (fun ha => by
       have := (hbit j hj).2 ha
       rw [hW] at this; cases this) h)⟩) (fun j s K hj hW hI hK => ?_) (fun s hI => wp_some ⟨hI.1, hI.2.1, hI.2.2.2 _ _ (.done (Nat.le_refl _))⟩)
   obtain ⟨own1, back1, seen1⟩ := s
   obtain ⟨hP1, hS1, hmu1, hsr⟩ := hI
   dsimp only at hP1 hS1 hmu1 hsr hK ⊢
   have hadj := (hbit j hj).1 hW
   have e1 : ((j : Int)).toNat = j := rfl
   have e2 : ((i : Int)).toNat = i := rfl
   rw [e1, e2]
   have hp := pow_rng hj hn
   refine wp_must (by omega) (wp_must (bit_rng hS1.nn hS1.lt hn) ?_)
   rw [bit_dec hS1.nn]
   refine wp_bif (fun hs => hK _ ⟨hP1, hS1, hmu1, fun b s' h => hsr b s' (.skip hj (fun _ => hs) h)⟩) (fun hs => ?_)
   have hol := hP1.ol
   have hbl := hP1.bl
   refine wp_must ⟨by omega, by omega, by unfold inI; omega⟩ (wp_must ⟨hS1.nn, hp.1, hS1.inI hn, by unfold inI; omega⟩ (wp_must (by omega) (wp_must (fun _ => by omega) ?_)))
   have hS2 := hS1.put hj
   have hsee := @ks_see own1 back1 seen1 j
   have hmu2 : mu n (sb (((seen1.toNat ||| (((1 : Int) * 2 ^ j)).toNat : Nat) : Int))) < mu n (sb seen1) := by
     rw [sb_put]
     exact mu_lt (j := j) (fun k h => by simp [h]) hj hs (by simp)
   generalize (((seen1.toNat ||| (((1 : Int) * 2 ^ j)).toNat : Nat) : Int)) = seen2 at hS2 hsee hmu2
   have ho : own1.getD j default = ab own1 j := (ab_lt (by omega)).symm
   rw [ho]
   have hok := hP1.ok j hj
   refine wp_bind (Q := fun y => PS n y.2.2.1 y.2.2.2 ∧ SB n y.2.1 ∧ mu n (sb y.2.1) ≤ mu n (sb seen1) ∧ ((ab own1 j < 0 ∧ y = (default, seen2, own1, back1)) ∨ ∃ o : Nat, ab own1 j = (o : Int) ∧ Srch adj n o 0 ((ks own1 back1 seen1).see j) y.1 (ks y.2.2.1 y.2.2.2 y.2.1))) ?_ (fun y hy => ?_)
   · by_cases h0 : ab own1 j < 0
     · rw [decide_eq_true h0]
       exact wp_some ⟨hP1, hS2, by dsimp only; omega, .inl ⟨h0, rfl⟩⟩
     · rw [decide_eq_false h0]
       obtain ⟨o, ho'⟩ := Int.eq_ofNat_of_zero_le (show 0 ≤ ab own1 j by omega)
       rw [ho']
       refine (ih o own1 back1 seen2 (by omega) hP1 hS2 (by omega)).mono (fun r hr => ⟨hr.1, hr.2.1, ?_, .inr ⟨o, rfl, by rw [← hsee]; exact hr.2.2⟩⟩)
       have := mu_mono (n := n) hr.2.2.mono
       exact Nat.le_trans this (by show mu n (sb seen2) ≤ _; omega)
   · obtain ⟨b, seen3, own3, back3⟩ := y
     obtain ⟨hP3, hS3, hmu3, hy⟩ := hy
     dsimp only at hP3 hS3 hmu3 hy ⊢
     have hol3 := hP3.ol
     have hbl3 := hP3.bl
     refine wp_bif (fun hb => ?_) (fun hb => ?_)
     · refine wp_must (by omega) (wp_must (by omega) (wp_some ⟨⟨by rw [List.length_set]; exact hol3, by rw [List.length_set]; exact hbl3, fun k hk => ?_⟩, hS3, hsr _ _ ?_⟩))
       · show -1 ≤ ab (own3.set j (i : Int)) k ∧ ab (own3.set j (i : Int)) k < n
         rw [ab_set (by omega)]
         dsimp only
         split
         · omega
         · exact hP3.ok k hk
       · dsimp only
         rw [ks_give (by omega) (by omega)]
         rcases hy with ⟨h0, e⟩ | ⟨o, h0, h1⟩
         · cases e
           rw [hsee]
           exact .free hj hadj hs h0
         · rw [decide_eq_false (by omega)] at hb
           have hb : b = true := by simpa using hb
           subst hb
           exact .aug hj hadj hs h0 h1
     · refine hK _ ⟨hP3, hS3, by dsimp only; omega, fun b' s' h => ?_⟩
       rcases hy with ⟨h0, e⟩ | ⟨o, h0, h1⟩
       · rw [decide_eq_true h0] at hb; simp at hb
       · have hb2 : b = false := by
           cases b with
           | false => rfl
           | true => simp at hb
         subst hb2
         exact hsr _ _ (.fail hj hadj hs h0 h1 h)
theorem pair_wp (IP : IsPlan n adj p) {fuel : Nat} (hf : 25 ≤ fuel) : Wp (crew_plan__pair fuel p) (fun r => PS n r.1 r.2 ∧ ∃ seen D, Kuhn adj n n ⟨seen, ab r.1, ab r.2⟩ D) := by
 have hn := IP.le
 have hl := IP.len
 unfold crew_plan__pair
 rw [hl]
 have en : (((n : Nat) : Int)).toNat = n := rfl
 rw [en]
 refine wp_must ⟨by omega, by omega, by unfold room; omega⟩ (wp_must ⟨by omega, by omega, by unfold room; omega⟩ (wp_must (by simp; omega) ?_))
 rw [List.length_replicate]
 refine wp_range (fun i s => s.1.length = n ∧ s.2.length = n ∧ ∀ k, k < i → ab s.1 k = -1 ∧ ab s.2 k = -1) ⟨by simp, by simp, fun k hk => by omega⟩ (fun i s K hi hI hK => ?_) (fun s hI => ?_)
 · obtain ⟨h1, h2, h3⟩ := hI
   refine wp_must (by omega) (wp_must (by omega) (hK _ ⟨by rw [List.length_set]; exact h1, by rw [List.length_set]; exact h2, fun k hk => ?_⟩))
   dsimp only
   rw [ab_set (by omega), ab_set (by omega)]
   dsimp only
   by_cases e : k = i
   · rw [if_pos e, if_pos e]; exact ⟨rfl, rfl⟩
   · rw [if_neg e, if_neg e]; exact h3 k (by omega)
 · obtain ⟨h1, h2, h3⟩ := hI
   have a1 : ∀ k, ab s.1 k = -1 := fun k => if h : k < n then (h3 k h).1 else ab_ge (by omega)
   have a2 : ∀ k, ab s.2 k = -1 := fun k => if h : k < n then (h3 k h).2 else ab_ge (by omega)
   refine wp_must (by omega) ?_
   refine wp_range (fun i s => PS n s.1 s.2 ∧ ∃ seen D, Kuhn adj n i ⟨seen, ab s.1, ab s.2⟩ D) ⟨⟨h1, h2, fun k hk => by rw [a1 k]; omega⟩, fun _ => false, _, Kuhn.start (fun k => by show ab s.1 k < 0; rw [a1 k]; omega) (fun k => by show ab s.2 k < 0; rw [a2 k]; omega)⟩ (fun i s K hi hI hK => ?_) (fun s hI => wp_some hI)
   obtain ⟨hP, seen0, D, hKn⟩ := hI
   refine wp_bind (pair_step IP fuel fuel i s.1 s.2 0 hi hP (SB.zero n) (by have := mu_le n (sb 0); omega)) (fun y hy => ?_)
   obtain ⟨hy1, hy2, hy3⟩ := hy
   refine hK (y.2.2.1, y.2.2.2) ⟨hy1, sb y.2.1, ?_⟩
   have hK0 : Kuhn adj n i (ks s.1 s.2 0) D := ⟨⟨hKn.mat.back, hKn.mat.own⟩, hKn.dead, hKn.lost, hKn.rest, hKn.lt⟩
   obtain ⟨D', hk, _⟩ := hK0.step (fun k => by show (0 : Int).toNat.testBit k = false; simp) hy3
   exact ⟨D', hk⟩
end
end Go.Sp
end
/- Plain laws, crew: the chapter's search, and the numbers of rounds. No program in sight. -/
section
set_option linter.all false
namespace Go.Sp
open Go.Av
set_option maxRecDepth 100000
theorem most_fun : (fun x0 => some (crew_most x0)) = fun x => some (Range.Hi x) := rfl
theorem least_fun : (fun x0 => some (crew_least x0)) = fun x => some (Range.Lo x) := rfl
def sl (l : List Bool) : Nat → Bool := fun k => l.getD k false
structure OS (n : Nat) (own : List Int) : Prop where
 ol : own.length = n
 ok : ∀ k, k < n → -1 ≤ ab own k ∧ ab own k < n
theorem fol_ord {c : Crew} (V : Valid c) {e : Range → Int} (he : EndOf e) : Ord (fol c e) c.Tasks.length (fun x => (tk c x).At) :=
 ⟨fun _ _ h => ⟨h.1, h.2.1⟩, fun _ _ h => fol_at V he h, fun _ _ _ h1 h2 => fol_trans V he h1 h2⟩
def lc (back : Nat → Int) (i : Nat) : Nat := (loose i back).length
theorem lc_succ (back : Nat → Int) (i : Nat) : lc back (i + 1) = lc back i + if back i < 0 then 1 else 0 := by
 unfold lc loose
 rw [List.range_succ, List.filter_append, List.length_append, List.filter_cons]
 split <;> rename_i h <;> simp at h <;> simp [h]
theorem count_wp {n : Nat} {adj : Nat → Nat → Prop} {p : crew_plan} {rank : Nat → Int} (IP : IsPlan n adj p) (O : Ord adj n rank) {fuel : Nat} (hf : 25 ≤ fuel) : Wp (crew_plan__count fuel p) (fun r => ∃ u : Nat, r = (u : Int) ∧ Most adj n u) := by
 have hn := IP.le
 unfold crew_plan__count
 refine wp_bind (pair_wp IP hf) (fun y hy => ?_)
 obtain ⟨hP, seen, D, hK⟩ := hy
 have hol := hP.ol
 refine wp_range (fun i s => s = (lc (ab y.1) i : Int)) rfl (fun i s K hi hI hK' => ?_) (fun s hI => ?_)
 · subst hI
   have hl := lc_succ (ab y.1) i
   have e : y.1.getD i default = ab y.1 i := (ab_lt hi).symm
   rw [e]
   have : lc (ab y.1) i ≤ i := by unfold lc loose; exact Nat.le_trans (List.length_filter_le _ _) (by simp)
   refine wp_ifd (fun h => ?_) (fun h => ?_)
   · rw [if_pos h] at hl
     exact wp_mustI (by omega) (hK' _ (by omega))
   · rw [if_neg h] at hl
     exact hK' _ (by omega)
 · subst hI
   refine wp_some ⟨_, rfl, ?_⟩
   have h1 := kuhn_most hK O (fun k hk => (hP.ok k hk).2)
   have h2 := loose_own hK.mat hK.rest (fun k hk => (hP.ok k hk).2)
   unfold lc
   rw [hol, h2]; exact h1
noncomputable def nr (c : Crew) (e : Range → Int) : Nat := @dite _ (∃ u, Most (fol c e) c.Tasks.length u) (Classical.propDecidable _) (fun h => Classical.choose h) (fun _ => 0)
theorem nr_eq {c : Crew} {e : Range → Int} {u : Nat} (h : Most (fol c e) c.Tasks.length u) : nr c e = u := by
 unfold nr
 rw [dif_pos ⟨u, h⟩]
 exact (Classical.choose_spec (⟨u, h⟩ : ∃ u, Most (fol c e) c.Tasks.length u)).unique h
theorem pcount_eq {c : Crew} (V : Valid c) {e : Range → Int} (he : EndOf e) {p : crew_plan} (IP : IsPlan c.Tasks.length (fol c e) p) {fuel : Nat} (hf : 25 ≤ fuel) : crew_plan__count fuel p = some (nr c e : Int) ∧ Most (fol c e) c.Tasks.length (nr c e) := by
 obtain ⟨r, h1, u, rfl, h2⟩ := count_wp IP (fol_ord V he) hf
 rw [nr_eq h2]; exact ⟨h1, h2⟩
theorem most_nr {c : Crew} (V : Valid c) {e : Range → Int} (he : EndOf e) : Most (fol c e) c.Tasks.length (nr c e) := by
 obtain ⟨_, _, p, _, _, IP⟩ := newPlan_wp V he
 exact (pcount_eq V he IP (Nat.le_refl 25)).2
theorem count_eq (c : Crew) {fuel : Nat} (hf : 25 ≤ fuel) : crew_Count fuel c = some (if chk c = 0 then ((nr c Range.Hi : Int), 0) else (0, 42)) := by
 refine Wp.eq ?_
 unfold crew_Count
 refine wp_bindE (check_eq c) ?_
 by_cases V : Valid c
 · rw [chk_valid V, if_pos rfl]
   refine wp_false rfl ?_
   rw [most_fun]
   refine wp_bind (newPlan_wp V (.inr rfl)) (fun y hy => ?_)
   obtain ⟨p, rfl, _, IP⟩ := hy
   exact wp_must rfl (wp_bindE (pcount_eq V (.inr rfl) IP hf).1 (wp_some rfl))
 · rw [chk_not V, if_neg (by decide)]
   exact wp_true rfl (wp_some rfl)
theorem bounds_eq (c : Crew) {fuel : Nat} (hf : 25 ≤ fuel) : crew_Bounds fuel c = some (if chk c = 0 then (⟨(nr c Range.Lo : Int), (nr c Range.Hi : Int)⟩, 0) else (⟨0, 0⟩, 42)) := by
 refine Wp.eq ?_
 unfold crew_Bounds
 refine wp_bindE (check_eq c) ?_
 by_cases V : Valid c
 · rw [chk_valid V, if_pos rfl]
   refine wp_false rfl ?_
   rw [most_fun, least_fun]
   refine wp_bind (newPlan_wp V (.inl rfl)) (fun y hy => ?_)
   obtain ⟨p, rfl, _, IP⟩ := hy
   refine wp_must rfl (wp_bindE (pcount_eq V (.inl rfl) IP hf).1 ?_)
   refine wp_bind (newPlan_wp V (.inr rfl)) (fun y hy => ?_)
   obtain ⟨p, rfl, _, IP⟩ := hy
   exact wp_must rfl (wp_bindE (pcount_eq V (.inr rfl) IP hf).1 (wp_some rfl))
 · rw [chk_not V, if_neg (by decide)]
   exact wp_true rfl (wp_some rfl)
end Go.Sp
end
/- Plain laws, crew: what rounds and cuts are accepted. No program in sight. -/
section
set_option linter.all false
namespace Go.Sp
open Go.Av
set_option maxRecDepth 100000
theorem take_snoc {T : Type} [Inhabited T] {l : List T} {k : Nat} (h : k < l.length) : l.take (k + 1) = l.take k ++ [l.getD k default] := by
 rw [List.take_add_one, List.getElem?_eq_getElem h, List.getD_eq_getElem?_getD, List.getElem?_eq_getElem h]; rfl
structure IsRound (adj : Nat → Nat → Prop) (n : Nat) (l : List Int) : Prop where
 ne : 0 < l.length
 rng : ∀ k, k < l.length → 0 ≤ l.getD k default ∧ l.getD k default < n
 link : ∀ k, 0 < k → k < l.length → adj (l.getD (k - 1) default).toNat (l.getD k default).toNat
def rd (ls : List (List Int)) (k : Nat) : List Int := ls.getD k default
structure AreRounds (adj : Nat → Nat → Prop) (n : Nat) (ls : List (List Int)) : Prop where
 round : ∀ k, k < ls.length → IsRound adj n (rd ls k)
 heads : ∀ k, 0 < k → k < ls.length → (rd ls (k - 1)).getD 0 default < (rd ls k).getD 0 default
 nd : ls.flatten.Nodup
 all : ∀ x : Nat, x < n → (x : Int) ∈ ls.flatten
section
variable {n : Nat} {adj : Nat → Nat → Prop} {p : crew_plan}
end
section
variable {c : Crew}
theorem IsRound.at_lt (V : Valid c) {l : List Int} (R : IsRound (fol c Range.Hi) c.Tasks.length l) : ∀ (b a : Nat), a < b → b < l.length → fol c Range.Hi (l.getD a default).toNat (l.getD b default).toNat
 | 0, a, h, _ => by omega
 | b + 1, a, h, hb => by
   have h1 := R.link (b + 1) (by omega) hb
   rw [show b + 1 - 1 = b by omega] at h1
   by_cases e : a = b
   · subst e; exact h1
   · exact fol_trans V (.inr rfl) (IsRound.at_lt V R b a (by omega) (by omega)) h1
theorem IsRound.nodup (V : Valid c) {l : List Int} (R : IsRound (fol c Range.Hi) c.Tasks.length l) : l.Nodup := by
 show List.Pairwise (· ≠ ·) l
 rw [List.pairwise_iff_getElem]
 intro i j hi hj hij e
 have h := R.at_lt V j i hij hj
 have : l.getD i default = l.getD j default := by rw [List.getD_eq_getElem?_getD, List.getD_eq_getElem?_getD, List.getElem?_eq_getElem hi, List.getElem?_eq_getElem hj, e]
 rw [this] at h
 exact fol_irrefl V (.inr rfl) h
end
end Go.Sp
end
/- Plain laws, crew: cuts; the rounds and the cut that are returned. No program in sight. -/
section
set_option linter.all false
namespace Go.Sp
open Go.Av
set_option maxRecDepth 100000
structure CutL (adj : Nat → Nat → Prop) (n : Nat) (S : List Int) : Prop where
 rng : ∀ k, k < S.length → 0 ≤ S.getD k default ∧ S.getD k default < n
 asc : ∀ k, 0 < k → k < S.length → S.getD (k - 1) default < S.getD k default
 apart : ∀ m k, m < k → k < S.length → ¬ adj (S.getD k default).toNat (S.getD m default).toNat ∧ ¬ adj (S.getD m default).toNat (S.getD k default).toNat
section
variable {n : Nat} {adj : Nat → Nat → Prop} {rank : Nat → Int}
theorem cutL_asc {S : List Int} (C : CutL adj n S) : ∀ (b a : Nat), a < b → b < S.length → S.getD a default < S.getD b default
 | 0, a, h, _ => by omega
 | b + 1, a, h, hb => by
   have h1 := C.asc (b + 1) (by omega) hb
   rw [show b + 1 - 1 = b by omega] at h1
   by_cases e : a = b
   · subst e; exact h1
   · have := cutL_asc C b a (by omega) (by omega); omega
theorem CutL.cut (O : Ord adj n rank) {S : List Int} (C : CutL adj n S) : IsCut adj n (S.map Int.toNat) := by
 refine ⟨?_, fun x hx => ?_, fun x hx y hy hadj => ?_⟩
 · show List.Pairwise (· ≠ ·) _
   rw [List.pairwise_map, List.pairwise_iff_getElem]
   intro i j hi hj hij e
   have h := cutL_asc C j i hij hj
   have h1 := C.rng i hi
   have h2 := C.rng j hj
   rw [List.getD_eq_getElem?_getD, List.getElem?_eq_getElem hi] at h h1
   rw [List.getD_eq_getElem?_getD, List.getElem?_eq_getElem hj] at h h2
   simp only [Option.getD_some] at h h1 h2
   omega
 · obtain ⟨z, hz, rfl⟩ := List.mem_map.1 hx
   obtain ⟨i, hi, rfl⟩ := mem_getD hz
   have := C.rng i hi; omega
 · obtain ⟨z, hz, rfl⟩ := List.mem_map.1 hx
   obtain ⟨i, hi, rfl⟩ := mem_getD hz
   obtain ⟨w, hw, rfl⟩ := List.mem_map.1 hy
   obtain ⟨j, hj, rfl⟩ := mem_getD hw
   rcases Nat.lt_trichotomy i j with h | h | h
   · exact (C.apart i j h hj).2 hadj
   · subst h; have := O.up _ _ hadj; omega
   · exact (C.apart j i h hi).1 hadj
variable {s : Ks}
end
end Go.Sp
end
/- Plain laws, crew: the rounds and the cut that are returned; CrewFewest. No program in sight. -/
section
set_option linter.all false
namespace Go.Sp
open Go.Av
set_option maxRecDepth 100000
theorem room8 {n : Nat} (h : n ≤ 3000) : room n 8 := by unfold room; omega
section
variable {c : Crew}
end
end Go.Sp
end
/- Plain laws, crew: the cut that is returned; CrewFewest. No program in sight. -/
section
set_option linter.all false
namespace Go.Sp
open Go.Av
set_option maxRecDepth 100000
section
variable {n : Nat} {adj : Nat → Nat → Prop} {p : crew_plan}
end
section
variable {c : Crew}
theorem sane4 : gasolierlaw04_sane 20000 = some true := by kernel_rfl
end
end Go.Sp
end
/- Plain laws, crew: slack, and who is late; CrewLate. No program in sight. -/
section
set_option linter.all false
namespace Go.Sp
open Go.Av
set_option maxRecDepth 100000
def rk (r : List Int) (k : Nat) : Nat := (r.getD k default).toNat
section
variable {c : Crew} {ls : List (List Int)}
theorem round_len {n : Nat} {l : List Int} (hnd : l.Nodup) (hr : ∀ x ∈ l, 0 ≤ x ∧ x < n) : l.length ≤ n := by
 have := length_le_inj (r := List.range n) Int.toNat hnd (fun x hx => List.mem_range.2 (by have := hr x hx; omega)) (fun x hx y hy e => by have := hr x hx; have := hr y hy; omega)
 rwa [List.length_range] at this
theorem IsRound.mem {adj : Nat → Nat → Prop} {n : Nat} {l : List Int} (R : IsRound adj n l) : ∀ x ∈ l, 0 ≤ x ∧ x < n := fun x hx => by
 obtain ⟨k, hk, rfl⟩ := mem_getD hx; exact R.rng k hk
theorem IsRound.rk {adj : Nat → Nat → Prop} {n : Nat} {l : List Int} (R : IsRound adj n l) {k : Nat} (hk : k < l.length) : l.getD k default = ((rk l k : Nat) : Int) ∧ rk l k < n := by
 have := R.rng k hk; unfold Sp.rk; omega
theorem IsRound.len {V : Valid c} {l : List Int} (R : IsRound (fol c Range.Hi) c.Tasks.length l) : l.length ≤ 24 := by
 have := round_len (R.nodup V) R.mem; have := V.tasks; omega
end
end Go.Sp
end
/- Plain laws, crew: who is late; CrewLate. No program in sight. -/
section
set_option linter.all false
namespace Go.Sp
open Go.Av
set_option maxRecDepth 100000
structure WalksOk (ls ws : List (List Int)) : Prop where
 len : ws.length = ls.length
 row : ∀ k, k < ls.length → (rd ws k).length = (rd ls k).length - 1
 rng : ∀ k, k < ls.length → ∀ m, m < (rd ws k).length → 0 ≤ (rd ws k).getD m default ∧ (rd ws k).getD m default ≤ 600
section
variable {c : Crew} {ls ws : List (List Int)}
theorem AreRounds.mem {adj : Nat → Nat → Prop} {n : Nat} (A : AreRounds adj n ls) : ∀ x ∈ ls.flatten, 0 ≤ x ∧ x < n := fun x hx => by
 obtain ⟨r, hr, hxr⟩ := List.mem_flatten.1 hx
 obtain ⟨k, hk, rfl⟩ := mem_getD hr
 exact (A.round k hk).mem x hxr
end
end Go.Sp
end
/- Plain laws, crew: CrewTime. No program in sight. -/
section
set_option linter.all false
namespace Go.Sp
open Go.Av
set_option maxRecDepth 100000
theorem mod_eq (n : Int) {m : Int} (h0 : 0 < m) (h1 : m ≤ 1000000000000000000) : ∃ y, gasolierref01_Mod n m = some y ∧ 0 ≤ y ∧ y < m := by
 have a1 : -m < Int.tmod n m := Int.lt_tmod_of_pos n h0
 have a2 : Int.tmod n m < m := Int.tmod_lt_of_pos n h0
 unfold gasolierref01_Mod
 refine ⟨_, (must_yes (by omega) _).trans ((must_yes (by unfold inI; omega) _).trans (must_yes (by omega) _)), ?_, Int.tmod_lt_of_pos _ h0⟩
 exact Int.tmod_nonneg _ (by omega)
section
variable {c : Crew} {ls : List (List Int)}
def rg (c : Crew) (r : List Int) (k : Nat) : Range := tv c.Travel (tk c (rk r k)).Place.toNat (tk c (rk r (k + 1))).Place.toNat
structure WalkOf (c : Crew) (more : Int) (r w : List Int) : Prop where
 len : w.length = r.length - 1
 lo : more ≤ 0 → ∀ k, k < w.length → (rg c r k).Lo ≤ w.getD k default ∧ w.getD k default ≤ (rg c r k).Hi
 hi : 0 < more → ∃ q : Nat, ∀ k, k < w.length → w.getD k default = if k = q then min 600 ((rg c r k).Hi + more) else (rg c r k).Hi
end
end Go.Sp
end
/- Plain laws, crew: hands for rounds. No program in sight. -/
section
set_option linter.all false
namespace Go.Sp
open Go.Av
set_option maxRecDepth 100000
theorem hall {adj : Nat → Nat → Prop} {m i : Nat} {s s' : Ks} (M : Mat adj m s) (hs : ∀ k, s.seen k = false) (hi : s.back i < 0) (H : Srch adj m i 0 s false s') {R : Nat → Prop} (Ri : R i) (hR : ∀ x : Nat, 0 ≤ s.back x → R x) {g : Nat → Nat}
   (hg : ∀ x, R x → g x < m ∧ adj x (g x)) (hinj : ∀ x y, R x → R y → g x = g y → x = y) : False := by
 obtain ⟨a1, a2⟩ := H.shut rfl
 let S := (List.range m).filter (fun k => s'.seen k)
 have hS : ∀ k, k ∈ S → k < m ∧ ∃ o : Nat, s.own k = (o : Int) ∧ R o ∧ s.back o = (k : Int) ∧ ∀ q, q < m → adj o q → s'.seen q = true := fun k hk => by
   simp only [S, List.mem_filter, List.mem_range] at hk
   obtain ⟨h0, o, h1, h2⟩ := a2 k hk.2 (hs k)
   obtain ⟨x, h3, h4⟩ := M.own k h0 (by omega)
   have : x = o := by omega
   subst this
   exact ⟨h0, x, h1, hR x (by omega), h4, h2⟩
 have hle := length_le_inj (l := i :: S.map (fun k => (s.own k).toNat)) (r := S) g (List.nodup_cons.2 ⟨fun hm => ?_, nodup_inj (nodup_filter _ List.nodup_range) (fun x hx y hy e => ?_)⟩) (fun x hx => ?_) (fun x hx y hy e => ?_)
 · rw [List.length_cons, List.length_map] at hle; omega
 · obtain ⟨k, hk, e⟩ := List.mem_map.1 hm
   obtain ⟨_, o, h1, _, h2, _⟩ := hS k hk
   have : o = i := by omega
   subst this; omega
 · obtain ⟨_, o, h1, _, h2, _⟩ := hS x hx
   obtain ⟨_, o', h3, _, h4, _⟩ := hS y hy
   have : o = o' := by omega
   subst this; omega
 · rcases List.mem_cons.1 hx with rfl | hx
   · obtain ⟨h1, h2⟩ := hg x Ri
     simp only [S, List.mem_filter, List.mem_range]; exact ⟨h1, a1 _ (Nat.zero_le _) h1 h2⟩
   · obtain ⟨k, hk, rfl⟩ := List.mem_map.1 hx
     obtain ⟨_, o, h1, h2, _, h3⟩ := hS k hk
     obtain ⟨h4, h5⟩ := hg o h2
     rw [h1, Int.toNat_natCast]
     simp only [S, List.mem_filter, List.mem_range]; exact ⟨h4, h3 _ h4 h5⟩
 · have inR : ∀ x, x ∈ i :: S.map (fun k => (s.own k).toNat) → R x := fun x hx => by
     rcases List.mem_cons.1 hx with rfl | hx
     · exact Ri
     · obtain ⟨k, hk, rfl⟩ := List.mem_map.1 hx
       obtain ⟨_, o, h1, h2, _⟩ := hS k hk
       rw [h1, Int.toNat_natCast]; exact h2
   exact hinj x y (inR x hx) (inR y hy) e
def lastOf (r : List Int) : Nat := rk r (r.length - 1)
def abl (c : Crew) (r : List Int) (h : Nat) : Bool := decide ((hd c h).From ≤ (tk c (rk r 0)).At) && decide ((tk c (lastOf r)).At + (tk c (lastOf r)).Serve ≤ (hd c h).To)
section
variable {c : Crew} {ls : List (List Int)}
def hadj (c : Crew) (ls : List (List Int)) (F : Nat → Bool) (k h : Nat) : Prop := abl c (rd ls k) h = true ∧ F h = false
structure HS (n m : Nat) (F : Nat → Bool) (fx T : List Int) : Prop where
 tl : T.length = n
 ok : ∀ h, h < n → 0 ≤ T.getD h default ∧ T.getD h default ≤ m ∧ ((0 < T.getD h default ∧ 0 ≤ fx.getD (T.getD h default - 1).toNat default) ↔ F h = true)
end
end Go.Sp
end
/- Plain laws, crew: whether hands can be given. No program in sight. -/
section
set_option linter.all false
namespace Go.Sp
open Go.Av
set_option maxRecDepth 100000
theorem Done.mat {adj : Nat → Nat → Prop} {m i : Nat} {s s' : Ks} (W : Done adj m i s s') (hi : s.back i < 0) : Mat adj m s' := by
 refine ⟨W.back, fun k hkm hx => ?_⟩
 obtain ⟨x, h1, h2⟩ := W.own k hkm hx
 rcases h2 with h2 | ⟨rfl, h2⟩
 · exact ⟨x, h1, h2⟩
 · omega
structure By (m : Nat) (by_ : List Int) : Prop where
 nd : by_.Nodup
 rng : ∀ j, j < by_.length → 0 ≤ by_.getD j default ∧ by_.getD j default < m
structure Fx (n m : Nat) (by_ fx : List Int) : Prop where
 len : fx.length = m
 lt : ∀ k : Nat, (k : Int) ∈ by_ → fx.getD k default < n
 inj : ∀ k k' : Nat, (k : Int) ∈ by_ → (k' : Int) ∈ by_ → 0 ≤ fx.getD k default → fx.getD k default = fx.getD k' default → k = k'
theorem By.mem {m : Nat} {by_ : List Int} (B : By m by_) {x : Int} (hx : x ∈ by_) : ∃ k : Nat, x = (k : Int) ∧ k < m := by
 obtain ⟨j, hj, rfl⟩ := mem_getD hx
 have := B.rng j hj
 exact ⟨(by_.getD j default).toNat, by omega, by omega⟩
theorem By.get {m : Nat} {by_ : List Int} (B : By m by_) {j : Nat} (hj : j < by_.length) : ∃ k : Nat, by_.getD j default = (k : Int) ∧ k < m ∧ (k : Int) ∈ by_ := by
 have h := B.rng j hj
 exact ⟨(by_.getD j default).toNat, by omega, by omega, by have := getD_mem hj; rwa [show by_.getD j default = ((by_.getD j default).toNat : Int) by omega] at this⟩
section
variable {c : Crew} {ls : List (List Int)}
def upto (m : Nat) : List Int := (List.range m).map (fun (k : Nat) => (k : Int))
theorem mem_upto {m : Nat} {x : Int} : x ∈ upto m ↔ 0 ≤ x ∧ x < m := by
 unfold upto
 rw [List.mem_map]
 constructor
 · rintro ⟨k, hk, rfl⟩; have := List.mem_range.1 hk; omega
 · rintro ⟨h1, h2⟩; exact ⟨x.toNat, List.mem_range.2 (by omega), by omega⟩
def CanF (c : Crew) (ls : List (List Int)) (by_ : List Int) : Prop := ∃ g : Nat → Nat, (∀ k : Nat, (k : Int) ∈ by_ → g k < c.Hands.length ∧ abl c (rd ls k) (g k) = true) ∧ ∀ k k' : Nat, (k : Int) ∈ by_ → (k' : Int) ∈ by_ → g k = g k' → k = k'
end
end Go.Sp
end
/- Plain laws, crew: Assign, Short, and their tests. No program in sight. -/
section
set_option linter.all false
namespace Go.Sp
open Go.Av
set_option maxRecDepth 100000
section
variable {c : Crew} {ls : List (List Int)}
structure Given (c : Crew) (ls : List (List Int)) (g : Nat → Nat) : Prop where
 ok : ∀ k, k < ls.length → g k < c.Hands.length ∧ abl c (rd ls k) (g k) = true
 inj : ∀ k k', k < ls.length → k' < ls.length → g k = g k' → k = k'
structure Pre (c : Crew) (ls : List (List Int)) (i : Nat) (fx : List Int) : Prop where
 len : fx.length = ls.length
 done : ∀ k, k < i → 0 ≤ fx.getD k default ∧ fx.getD k default < c.Hands.length
 rest : ∀ k, i ≤ k → k < ls.length → fx.getD k default = -1
def Ext (c : Crew) (ls : List (List Int)) (i : Nat) (fx : List Int) : Prop := ∃ g, Given c ls g ∧ ∀ k, k < i → fx.getD k default = (g k : Int)
theorem Ext.fx {i : Nat} {fx : List Int} (P : Pre c ls i fx) (hi : i ≤ ls.length) (hinj : ∀ k k', k < i → k' < i → fx.getD k default = fx.getD k' default → k = k') : Fx c.Hands.length ls.length (upto ls.length) fx := by
 refine ⟨P.len, fun k hk => ?_, fun k k' hk hk' h0 e => ?_⟩
 · have := mem_upto.1 hk
   by_cases h : k < i
   · exact (P.done k h).2
   · rw [P.rest k (by omega) (by omega)]; omega
 · have := mem_upto.1 hk
   have := mem_upto.1 hk'
   by_cases h : k < i
   · by_cases h' : k' < i
     · exact hinj k k' h h' e
     · rw [P.rest k' (by omega) (by omega)] at e; omega
   · rw [P.rest k (by omega) (by omega)] at h0; omega
structure Firsts (c : Crew) (ls : List (List Int)) (i : Nat) (g : Nat → Nat) : Prop where
 ext : ∃ g', Given c ls g' ∧ ∀ k, k < i → g' k = g k
 first : ∀ k, k < i → ∀ h, h < g k → ¬ ∃ g', Given c ls g' ∧ (∀ q, q < k → g' q = g q) ∧ g' k = h
end
end Go.Sp
end
/- Plain laws, crew: Short, and the tests of hands. No program in sight. -/
section
set_option linter.all false
namespace Go.Sp
open Go.Av
set_option maxRecDepth 100000
section
variable {c : Crew} {ls : List (List Int)}
structure GivenIds (c : Crew) (ls : List (List Int)) (l : List Int) : Prop where
 len : l.length = ls.length
 ok : ∀ k, k < ls.length → ∃ h, h < c.Hands.length ∧ (hd c h).Id = l.getD k default ∧ abl c (rd ls k) h = true
 nd : l.Nodup
def doers (c : Crew) (ls : List (List Int)) (S : List Int) : List Nat := (List.range c.Hands.length).filter (fun h => S.any (fun k => abl c (rd ls k.toNat) h))
structure ShortOk (c : Crew) (ls : List (List Int)) (S : List Int) : Prop where
 rng : ∀ k, k < S.length → 0 ≤ S.getD k default ∧ S.getD k default < ls.length
 asc : ∀ k, 0 < k → k < S.length → S.getD (k - 1) default < S.getD k default
 few : (doers c ls S).length < S.length
end
end Go.Sp
end
/- Plain laws, crew: too few hands; Short. No program in sight. -/
section
set_option linter.all false
namespace Go.Sp
open Go.Av
set_option maxRecDepth 100000
theorem srch_inner {adj : Nat → Nat → Prop} {m f : Nat} (ih : ∀ (i : Nat) (s : Ks), mu m s.seen < f → ∃ b s', Srch adj m i 0 s b s') (i : Nat) : ∀ (q j : Nat) (s : Ks), m - j ≤ q → mu m s.seen < f + 1 → ∃ b s', Srch adj m i j s b s'
 | 0, j, s, h, _ => ⟨false, s, .done (by omega)⟩
 | q + 1, j, s, h, hm => by
   by_cases hj : j < m
   · by_cases hc : adj i j → s.seen j = true
     · obtain ⟨b, s', h'⟩ := srch_inner ih i q (j + 1) s (by omega) hm
       exact ⟨b, s', .skip hj hc h'⟩
     · have ha : adj i j := Classical.byContradiction fun h => hc (fun h' => absurd h' h)
       have hs : s.seen j = false := by
         cases h : s.seen j with
         | false => rfl
         | true => exact absurd (fun _ => h) hc
       by_cases ho : s.own j < 0
       · exact ⟨_, _, .free hj ha hs ho⟩
       · obtain ⟨o, ho⟩ := Int.eq_ofNat_of_zero_le (show 0 ≤ s.own j by omega)
         have hlt : mu m (s.see j).seen < mu m s.seen := mu_lt (j := j) (fun k h => by show (_ || _) = true; rw [h]; rfl) hj hs (by show (_ || _) = true; simp)
         obtain ⟨b, s1, h1⟩ := ih o (s.see j) (by omega)
         cases b with
         | true => exact ⟨_, _, .aug hj ha hs ho h1⟩
         | false =>
           have := mu_mono (n := m) h1.mono
           obtain ⟨b', s', h'⟩ := srch_inner ih i q (j + 1) s1 (by omega) (by omega)
           exact ⟨b', s', .fail hj ha hs ho h1 h'⟩
   · exact ⟨false, s, .done (by omega)⟩
theorem srch_ex {adj : Nat → Nat → Prop} {m : Nat} : ∀ (f i : Nat) (s : Ks), mu m s.seen < f → ∃ b s', Srch adj m i 0 s b s'
 | 0, _, _, h => by omega
 | f + 1, i, s, h => srch_inner (srch_ex f) i m 0 s (by omega) h
def InjN (adj : Nat → Nat → Prop) (m : Nat) (T : Nat → Prop) : Prop := ∃ g : Nat → Nat, (∀ k, T k → g k < m ∧ adj k (g k)) ∧ ∀ k k', T k → T k' → g k = g k' → k = k'
theorem tight {adj : Nat → Nat → Prop} {m : Nat} {T : List Nat} (hno : ¬ InjN adj m (· ∈ T)) (hone : ∀ x ∈ T, InjN adj m (fun k => k ∈ T ∧ k ≠ x)) {N : List Nat} (hN : N.Nodup) (hN' : ∀ q ∈ N, q < m ∧ ∃ k ∈ T, adj k q) : N.length < T.length := by
 have hne : ∃ x, x ∈ T := by
   cases T with
   | nil => exact absurd ⟨fun _ => 0, fun k h => (by cases h), fun k k' h => (by cases h)⟩ hno
   | cons a l => exact ⟨a, List.mem_cons_self ..⟩
 obtain ⟨x, hx⟩ := hne
 obtain ⟨g, g1, g2⟩ := hone x hx
 classical
 let T' : Nat → Prop := fun k => k ∈ T ∧ k ≠ x
 let s : Ks := ⟨fun _ => false, fun k => if h : ∃ y, T' y ∧ g y = k then (h.choose : Int) else -1, fun y => if T' y then (g y : Int) else -1⟩
 have sown : ∀ y, T' y → s.own (g y) = (y : Int) := fun y hy => by
   have he : ∃ z, T' z ∧ g z = g y := ⟨y, hy, rfl⟩
   show (if h : ∃ z, T' z ∧ g z = g y then (h.choose : Int) else -1) = _
   rw [dif_pos he, g2 _ _ he.choose_spec.1 hy he.choose_spec.2]
 have M : Mat adj m s := by
   refine ⟨fun y hy => ?_, fun k hk hy => ?_⟩
   · have hy : (0 : Int) ≤ if T' y then (g y : Int) else -1 := hy
     by_cases h : T' y
     · exact ⟨g y, by show (if T' y then _ else _) = _; rw [if_pos h], (g1 y h).1, sown y h, (g1 y h).2⟩
     · rw [if_neg h] at hy; omega
   · have hy' : (0 : Int) ≤ if h : ∃ y, T' y ∧ g y = k then (h.choose : Int) else -1 := hy
     by_cases h : ∃ y, T' y ∧ g y = k
     · obtain ⟨y, h1, rfl⟩ := h
       exact ⟨y, sown y h1, by show (if T' y then _ else _) = _; rw [if_pos h1]⟩
     · rw [dif_neg h] at hy'; omega
 have hbx : s.back x < 0 := by
   show (if T' x then (g x : Int) else -1) < 0
   rw [if_neg (fun h => h.2 rfl)]; omega
 obtain ⟨b, s', H⟩ := srch_ex (adj := adj) (m := m) (m + 1) x s (by have := mu_le m s.seen; omega)
 cases b with
 | true =>
   exfalso
   have W := H.win rfl M (fun k hk => by omega)
   have M' := W.mat hbx
   have hb : ∀ k, k ∈ T → 0 ≤ s'.back k := fun k hk => by
     by_cases e : k = x
     · subst e; obtain ⟨q, hq, _⟩ := W.new; omega
     · refine (W.rest k e).1.2 ?_
       show (0 : Int) ≤ if T' k then (g k : Int) else -1
       rw [if_pos ⟨hk, e⟩]; omega
   refine hno ⟨fun k => (s'.back k).toNat, fun k hk => ?_, fun k k' hk hk' e => ?_⟩
   · obtain ⟨q, h1, h2, _, h4⟩ := M'.back k (hb k hk)
     dsimp only; rw [h1, Int.toNat_natCast]; exact ⟨h2, h4⟩
   · obtain ⟨q, h1, _, h3, _⟩ := M'.back k (hb k hk)
     obtain ⟨q', h1', _, h3', _⟩ := M'.back k' (hb k' hk')
     dsimp only at e
     rw [h1, h1', Int.toNat_natCast, Int.toNat_natCast] at e
     subst e; omega
 | false =>
   obtain ⟨a1, a2⟩ := H.shut rfl
   let S := (List.range m).filter (fun k => s'.seen k)
   have hS : ∀ k, k ∈ S → ∃ o : Nat, s.own k = (o : Int) ∧ T' o ∧ g o = k ∧ ∀ q, q < m → adj o q → s'.seen q = true := fun k hk => by
     simp only [S, List.mem_filter, List.mem_range] at hk
     obtain ⟨h0, o, h1, h2⟩ := a2 k hk.2 rfl
     obtain ⟨y, h3, h4⟩ := M.own k h0 (by omega)
     have : y = o := by omega
     subst this
     have h4' : (if T' y then (g y : Int) else -1) = (k : Int) := h4
     by_cases h : T' y
     · rw [if_pos h] at h4'; exact ⟨y, h1, h, by omega, h2⟩
     · rw [if_neg h] at h4'; omega
   have hSn : S.Nodup := nodup_filter _ List.nodup_range
   let R := x :: S.map (fun k => (s.own k).toNat)
   have hRl : R.length = S.length + 1 := by simp only [R, List.length_cons, List.length_map]
   have hRn : R.Nodup := by
     refine List.nodup_cons.2 ⟨fun hm => ?_, nodup_inj hSn (fun y hy z hz e => ?_)⟩
     · obtain ⟨k, hk, e⟩ := List.mem_map.1 hm
       obtain ⟨o, h1, h2, _⟩ := hS k hk
       exact h2.2 (by omega)
     · obtain ⟨o, h1, _, h3, _⟩ := hS y hy
       obtain ⟨o', h1', _, h3', _⟩ := hS z hz
       have : o = o' := by omega
       subst this; omega
   have hRT : ∀ y ∈ R, y ∈ T := fun y hy => by
     rcases List.mem_cons.1 hy with rfl | hy
     · exact hx
     · obtain ⟨k, hk, rfl⟩ := List.mem_map.1 hy
       obtain ⟨o, h1, h2, _⟩ := hS k hk
       rw [h1, Int.toNat_natCast]; exact h2.1
   have hRs : ∀ y ∈ R, ∀ q, q < m → adj y q → q ∈ S := fun y hy q hq ha => by
     simp only [S, List.mem_filter, List.mem_range]
     refine ⟨hq, ?_⟩
     rcases List.mem_cons.1 hy with rfl | hy
     · exact a1 q (Nat.zero_le _) hq ha
     · obtain ⟨k, hk, rfl⟩ := List.mem_map.1 hy
       obtain ⟨o, h1, _, _, h4⟩ := hS k hk
       rw [h1, Int.toNat_natCast] at ha
       exact h4 q hq ha
   have hTR : ∀ y ∈ T, y ∈ R := fun y hy => by
     refine Classical.byContradiction fun hyR => ?_
     obtain ⟨h, h1, h2⟩ := hone y hy
     have inT : ∀ z ∈ R, z ∈ T ∧ z ≠ y := fun z hz => ⟨hRT z hz, fun e => hyR (e ▸ hz)⟩
     have := length_le_inj (r := S) h hRn (fun z hz => hRs z hz _ (h1 z (inT z hz)).1 (h1 z (inT z hz)).2) (fun z hz z' hz' e => h2 z z' (inT z hz) (inT z' hz') e)
     omega
   have h1 := nodup_le hN (r := S) (fun q hq => by
     obtain ⟨h, k, hk, ha⟩ := hN' q hq
     exact hRs k (hTR k hk) q h ha)
   have h2 := nodup_le hRn (r := T) hRT
   omega
section
variable {c : Crew} {ls : List (List Int)}
theorem CanF.sub {S S' : List Int} (h : CanF c ls S) (hs : ∀ k : Nat, (k : Int) ∈ S' → (k : Int) ∈ S) : CanF c ls S' := by
 obtain ⟨g, h1, h2⟩ := h
 exact ⟨g, fun k hk => h1 k (hs k hk), fun k k' hk hk' e => h2 k k' (hs k hk) (hs k' hk') e⟩
structure Tight (c : Crew) (ls : List (List Int)) (S : List Int) : Prop where
 rng : ∀ x ∈ S, 0 ≤ x ∧ x < ls.length
 asc : S.Pairwise (· < ·)
 no : ¬ CanF c ls S
 one : ∀ k, k < S.length → CanF c ls (S.take k ++ S.drop (k + 1))
theorem Tight.few {S : List Int} (T : Tight c ls S) : (doers c ls S).length + 1 = S.length := by
 have hnat : ∀ x ∈ S, x = ((x.toNat : Nat) : Int) := fun x hx => by have := T.rng x hx; omega
 have hmem : ∀ k : Nat, k ∈ S.map Int.toNat ↔ (k : Int) ∈ S := fun k => by
   rw [List.mem_map]
   constructor
   · rintro ⟨x, hx, rfl⟩; rw [← hnat x hx]; exact hx
   · intro h; exact ⟨k, h, rfl⟩
 have hnd : S.Nodup := T.asc.imp (fun h => by omega)
 have hcut : ∀ j, j < S.length → ∀ x ∈ S, x ≠ S.getD j default → x ∈ S.take j ++ S.drop (j + 1) := fun j hj x hx hne => by
   obtain ⟨i, hi, rfl⟩ := mem_getD hx
   rcases Nat.lt_trichotomy i j with h | h | h
   · refine List.mem_append.2 (.inl ?_)
     have : (S.take j).getD i default = S.getD i default := by rw [getD_take, if_pos h]
     rw [← this]; exact getD_mem (by rw [List.length_take]; omega)
   · exact absurd (by rw [h]) hne
   · refine List.mem_append.2 (.inr ?_)
     have : (S.drop (j + 1)).getD (i - (j + 1)) default = S.getD i default := by rw [getD_drop]; congr 1; omega
     rw [← this]; exact getD_mem (by rw [List.length_drop]; omega)
 have hone : ∀ x ∈ S.map Int.toNat, InjN (fun k h => abl c (rd ls k) h = true) c.Hands.length (fun k => k ∈ S.map Int.toNat ∧ k ≠ x) := fun x hx => by
   obtain ⟨j, hj, e⟩ := mem_getD ((hmem x).1 hx)
   obtain ⟨g, h1, h2⟩ := T.one j hj
   have hin : ∀ k, k ∈ S.map Int.toNat ∧ k ≠ x → (k : Int) ∈ S.take j ++ S.drop (j + 1) := fun k hk => hcut j hj _ ((hmem k).1 hk.1) (by rw [e]; have := hk.2; omega)
   exact ⟨g, fun k hk => h1 k (hin k hk), fun k k' hk hk' e => h2 k k' (hin k hk) (hin k' hk') e⟩
 have hlt := tight (adj := fun k h => abl c (rd ls k) h = true) (m := c.Hands.length) (T := S.map Int.toNat) (fun ⟨g, h1, h2⟩ => T.no ⟨g, fun k hk => h1 k ((hmem k).2 hk), fun k k' hk hk' e => h2 k k' ((hmem k).2 hk) ((hmem k').2 hk') e⟩) hone (N := doers c ls S) (nodup_filter _ List.nodup_range) (fun q hq => by
   unfold doers at hq
   rw [List.mem_filter, List.mem_range, List.any_eq_true] at hq
   obtain ⟨h0, x, hx, ha⟩ := hq
   exact ⟨h0, x.toNat, (hmem _).2 (by rw [← hnat x hx]; exact hx), ha⟩)
 rw [List.length_map] at hlt
 have hge : S.length ≤ (doers c ls S).length + 1 := by
   have h0 : 0 < S.length := by omega
   obtain ⟨g, h1, h2⟩ := T.one 0 h0
   have hsub : ∀ x ∈ S.take 0 ++ S.drop (0 + 1), x ∈ S := fun x hx => by
     rcases List.mem_append.1 hx with hx | hx
     · exact List.mem_of_mem_take hx
     · exact List.mem_of_mem_drop hx
   have := length_le_inj (l := S.take 0 ++ S.drop (0 + 1)) (r := doers c ls S) (fun x => g x.toNat) (by rw [List.take_zero, List.nil_append]; exact hnd.sublist (List.drop_sublist _ _)) (fun x hx => ?_) (fun x hx y hy e => ?_)
   · rw [List.length_append, List.length_take, List.length_drop] at this; omega
   · have hx' := hx
     rw [hnat x (hsub x hx)] at hx'
     obtain ⟨a, b⟩ := h1 _ hx'
     unfold doers
     rw [List.mem_filter, List.mem_range, List.any_eq_true]
     exact ⟨a, x, hsub x hx, b⟩
   · have hx' := hx
     have hy' := hy
     rw [hnat x (hsub x hx)] at hx'
     rw [hnat y (hsub y hy)] at hy'
     have := h2 _ _ hx' hy' e
     rw [hnat x (hsub x hx), hnat y (hsub y hy), this]
 omega
theorem Tight.ok {S : List Int} (T : Tight c ls S) : ShortOk c ls S := by
 refine ⟨fun k hk => T.rng _ (getD_mem hk), fun k h0 hk => ?_, by have := T.few; omega⟩
 have h := T.asc
 rw [List.pairwise_iff_getElem] at h
 have := h (k - 1) k (by omega) hk (by omega)
 rw [List.getD_eq_getElem?_getD, List.getD_eq_getElem?_getD, List.getElem?_eq_getElem hk, List.getElem?_eq_getElem (show k - 1 < S.length by omega)]
 exact this
end
end Go.Sp
end
/- Plain laws, crew: Able, Ill; CrewEither. No program in sight. -/
section
set_option linter.all false
namespace Go.Sp
open Go.Av
set_option maxRecDepth 100000
section
variable {c : Crew} {ls : List (List Int)}
theorem has_eq (l : List Int) (x : Int) : gasolierref01_Has l x = some (decide (x ∈ l)) := by
 refine Wp.eq ?_
 unfold gasolierref01_Has
 refine wp_forall (fun i => l.getD i default ≠ x) (fun i K hi _ hK => wp_ifd (fun h => wp_some ?_) (fun h => hK h)) (fun h => wp_some ?_)
 · rw [decide_eq_true (h ▸ getD_mem hi)]
 · rw [decide_eq_false (fun hm => by obtain ⟨i, hi, e⟩ := mem_getD hm; exact h i hi e)]
theorem copied_eq (V : Valid c) : crew_copied c = some c := by
 refine Wp.eq ?_
 unfold crew_copied
 have h1 := V.tasks
 have h2 := V.hands
 have h3 := V.travel.len
 have e1 : slices_Clone_Task c.Tasks = some c.Tasks := must_yes (show room _ 32 by rw [List.nil_append]; unfold room; omega) _
 have e2 : slices_Clone_Hand c.Hands = some c.Hands := must_yes (show room _ 24 by rw [List.nil_append]; unfold room; omega) _
 refine wp_bindE e1 (wp_bindE e2 ?_)
 refine wp_range (fun i s => s = c.Travel.take i) (by rfl) (fun i s K hi hI hK => ?_) (fun s hI => wp_some ?_)
 · have h4 := V.travel.row i hi
   have e3 : slices_Clone_Range (c.Travel.getD i default) = some (c.Travel.getD i default) := must_yes (show room _ 16 by rw [List.nil_append]; unfold room; omega) _
   subst hI
   refine wp_bindE e3 (wp_must ?_ (hK _ (take_snoc hi).symm))
   rw [List.length_append, List.length_take]
   unfold room; simp only [List.length_cons, List.length_nil]; omega
 · subst hI; rw [List.take_length]
end
end Go.Sp
end
/- Plain laws, crew: the document's Able, CheckAssign, CheckShort. No program in sight. -/
section
set_option linter.all false
namespace Go.Sp
open Go.Av
set_option maxRecDepth 100000
section
variable {c : Crew} {ls : List (List Int)}
end
end Go.Sp
end
/- Plain laws, crew: the document's CheckShort, can, Moved. No program in sight. -/
section
set_option linter.all false
namespace Go.Sp
open Go.Av
set_option maxRecDepth 100000
section
variable {c : Crew} {ls : List (List Int)}
def lessC (c : Crew) (i : Nat) : Crew := ⟨c.Tasks.take i ++ c.Tasks.drop (i + 1), c.Travel, c.Hands⟩
theorem lamp_lt (V : Valid c) : ∀ (b a : Nat), a < b → b < c.Tasks.length → (tk c a).Lamp < (tk c b).Lamp
 | 0, a, h, _ => by omega
 | b + 1, a, h, hb => by
   have h1 := (V.task (b + 1) hb).2.2 (by omega)
   rw [show b + 1 - 1 = b by omega] at h1
   by_cases e : a = b
   · subst e; exact h1
   · have := lamp_lt V b a (by omega) (by omega); omega
theorem less_valid (V : Valid c) {i : Nat} (hi : i < c.Tasks.length) : Valid (lessC c i) := by
 have hl : (c.Tasks.take i).length = i := by rw [List.length_take]; omega
 have eg : ∀ k, tk (lessC c i) k = if k < i then tk c k else tk c (k + 1) := fun k => by
   unfold tk lessC
   dsimp only
   rw [getD_append, hl]
   by_cases hk : k < i
   · rw [if_pos hk, if_pos hk, getD_take, if_pos hk]
   · rw [if_neg hk, if_neg hk, getD_drop]; congr 1; omega
 have hlen : (lessC c i).Tasks.length + 1 = c.Tasks.length := by unfold lessC; dsimp only; rw [List.length_append, hl, List.length_drop]; omega
 refine ⟨by have := V.tasks; omega, V.hands, V.travel, fun k hk => ?_, V.hand⟩
 have et : (lessC c i).Travel = c.Travel := rfl
 rw [eg, eg, et]
 by_cases h1 : k < i
 · rw [if_pos h1, if_pos (by omega)]; exact V.task k (by omega)
 · rw [if_neg h1]
   have a := V.task (k + 1) (by omega)
   refine ⟨a.1, a.2.1, fun h0 => ?_⟩
   by_cases h2 : k - 1 < i
   · rw [if_pos h2]; exact lamp_lt V (k + 1) (k - 1) (by omega) (by omega)
   · rw [if_neg h2]; exact lamp_lt V (k + 1) (k - 1 + 1) (by omega) (by omega)
theorem deleteT_eq (l : List Task) (k : Nat) (h : k < l.length) (hl : l.length ≤ 100000) : slices_Delete_Task l (k : Int) ((k : Int) + 1) = some (l.take k ++ l.drop (k + 1)) := by
 refine Wp.eq ?_
 unfold slices_Delete_Task
 have e0 : ((k : Int)).toNat = k := rfl
 have e1 : ((k : Int) + 1).toNat = k + 1 := by omega
 rw [e0, e1]
 refine wp_must (by omega) ?_
 rw [decide_eq_false (show ¬ (k : Int) = (k : Int) + 1 by omega)]
 refine wp_false rfl (wp_must (by omega) (wp_must (by omega) (wp_must (by omega) (wp_must ?_ (wp_some rfl)))))
 rw [List.length_append, List.length_take, List.length_drop]
 omega
noncomputable def movedL (c : Crew) (n : Nat) : List Int := ((List.range n).filter (fun i => @decide (nr (lessC c i) Range.Hi < nr c Range.Hi) (Classical.propDecidable _))).map (fun i => (tk c i).Lamp)
theorem movedL_succ (c : Crew) (n : Nat) : movedL c (n + 1) = movedL c n ++ (if nr (lessC c n) Range.Hi < nr c Range.Hi then [(tk c n).Lamp] else []) := by
 unfold movedL
 rw [List.range_succ, List.filter_append, List.map_append]
 congr 1
 by_cases h : nr (lessC c n) Range.Hi < nr c Range.Hi
 · rw [if_pos h, List.filter_cons, if_pos (by simpa using h)]; rfl
 · rw [if_neg h, List.filter_cons, if_neg (by simpa using h)]; rfl
theorem movedL_len (c : Crew) (n : Nat) : (movedL c n).length ≤ n := by
 unfold movedL
 rw [List.length_map]
 exact Nat.le_trans (List.length_filter_le _ _) (by simp)
theorem moved_eq (V : Valid c) {fuel : Nat} (hf : 30 ≤ fuel) : crew_Moved fuel c = some (movedL c c.Tasks.length, 0) := by
 refine Wp.eq ?_
 have hn := V.tasks
 unfold crew_Moved
 refine wp_bindE (count_eq c (by omega)) ?_
 rw [if_pos (chk_valid V)]
 refine wp_false rfl ?_
 refine wp_range (fun i s => s = movedL c i) rfl (fun i s K hi hI hK => ?_) (fun s hI => wp_some (by rw [hI]))
 subst hI
 refine wp_bindE (copied_eq V) (wp_bindE (deleteT_eq _ _ hi (by omega)) ?_)
 have V' := less_valid V hi
 refine wp_bindE (show crew_Count fuel (lessC c i) = _ from count_eq (lessC c i) (by omega)) ?_
 rw [if_pos (chk_valid V')]
 have hm := movedL_len c i
 have et : (c.Tasks.getD i default).Lamp = (tk c i).Lamp := rfl
 dsimp only
 rw [et]
 refine wp_ifd (fun h => wp_must (room8 ?_) (hK _ ?_)) (fun h => hK _ ?_)
 · rw [List.length_append]; simp only [List.length_cons, List.length_nil]; omega
 · rw [movedL_succ, if_pos (by omega)]
 · rw [movedL_succ, if_neg (by omega), List.append_nil]
end
end Go.Sp
end
/- Plain laws, crew: quick crews, the document's Bounds and CheckCut: CrewRounds. -/
section
set_option linter.all false
namespace Go.Sp
open Go.Av
set_option maxRecDepth 100000
def mapT (f : Range → Range) (t : List (List Range)) : List (List Range) := t.map (fun r => r.map f)
theorem mapT_len (f : Range → Range) (t : List (List Range)) : (mapT f t).length = t.length := List.length_map _
theorem mapT_row (f : Range → Range) (t : List (List Range)) (a : Nat) : (mapT f t).getD a [] = (t.getD a []).map f := by
 unfold mapT
 rw [List.getD_eq_getElem?_getD, List.getD_eq_getElem?_getD, List.getElem?_map]
 cases t[a]? <;> rfl
theorem mapT_at {f : Range → Range} (hf : f default = default) (t : List (List Range)) (a b : Nat) : tv (mapT f t) a b = f (tv t a b) := by
 unfold tv
 have e : (mapT f t).getD a default = (t.getD a default).map f := mapT_row f t a
 rw [e]
 generalize t.getD a default = row
 rw [List.getD_eq_getElem?_getD, List.getD_eq_getElem?_getD, List.getElem?_map]
 cases row[b]? with
 | none => exact hf.symm
 | some x => rfl
theorem wp_grid {R : Type} {P : R → Prop} (f : Range → Range) (t : List (List Range)) (n : Nat) (hn : n = t.length)
   {body : Nat → List (List Range) → (List (List Range) → Option R) → Option R} {ex : List (List Range) → Option R} (inner : Nat → Nat → List (List Range) → (List (List Range) → Option R) → Option R)
   (hb : ∀ (i : Nat) (s : List (List Range)) (K : List (List Range) → Option R), i < t.length → s.length = t.length → s.getD i [] = t.getD i [] → Wp (rangeGo (inner i) (fun s6 => K s6) (t.getD i []).length 0 s) P → Wp (body i s K) P)
   (hin : ∀ (i j : Nat) (u : List (List Range)) (K : List (List Range) → Option R), i < t.length → j < (t.getD i []).length → u.length = t.length → (u.getD i []).length = (t.getD i []).length → (u.getD i []).getD j default = (t.getD i []).getD j default →
     Wp (K (u.set i ((u.getD i []).set j (f ((t.getD i []).getD j default))))) P → Wp (inner i j u K) P)
   (hx : Wp (ex (mapT f t)) P) : Wp (rangeGo body ex n 0 t) P := by
 subst hn
 refine wp_range (fun i s => s.length = t.length ∧ ∀ a, a < t.length → s.getD a [] = if a < i then (t.getD a []).map f else t.getD a []) ⟨rfl, fun a _ => by rw [if_neg (by omega)]⟩ (fun i s K hi hI hK => ?_) (fun s hI => ?_)
 · obtain ⟨h1, h2⟩ := hI
   refine hb i s K hi h1 (by rw [h2 i hi, if_neg (by omega)]) ?_
   refine wp_range (fun j u => u.length = t.length ∧ (∀ a, a < t.length → a ≠ i → u.getD a [] = s.getD a []) ∧ (u.getD i []).length = (t.getD i []).length ∧ ∀ b, b < (t.getD i []).length → (u.getD i []).getD b default = if b < j then f ((t.getD i []).getD b default) else (t.getD i []).getD b default)
     ⟨h1, fun _ _ _ => rfl, by rw [h2 i hi, if_neg (by omega)], fun b _ => by rw [h2 i hi, if_neg (by omega), if_neg (by omega)]⟩ (fun j u K2 hj hU hK2 => ?_) (fun u hU => ?_)
   · obtain ⟨u1, u2, u3, u4⟩ := hU
     refine hin i j u K2 hi hj u1 u3 (by rw [u4 j hj, if_neg (by omega)]) (hK2 _ ⟨by rw [List.length_set]; exact u1, fun a ha hne => ?_, ?_, fun b hb' => ?_⟩)
     · rw [getD_set _ _ _ _ _ (by omega), if_neg hne]; exact u2 a ha hne
     · rw [getD_set _ _ _ _ _ (by omega), if_pos rfl, List.length_set]; exact u3
     · rw [getD_set _ _ _ _ _ (by omega), if_pos rfl, getD_set _ _ _ _ _ (by omega)]
       by_cases e : b = j
       · subst e
         rw [if_pos rfl, if_pos (by omega)]
       · rw [if_neg e, u4 b hb']
         by_cases q : b < j
         · rw [if_pos q, if_pos (by omega)]
         · rw [if_neg q, if_neg (by omega)]
   · obtain ⟨u1, u2, u3, u4⟩ := hU
     refine hK u ⟨u1, fun a ha => ?_⟩
     by_cases e : a = i
     · subst e
       rw [if_pos (by omega)]
       refine ext_getD (by rw [List.length_map]; exact u3) (fun b hb' => ?_)
       rw [u4 b (by omega), if_pos (by omega), List.getD_eq_getElem?_getD (l := List.map f _), List.getElem?_map, List.getD_eq_getElem?_getD, List.getElem?_eq_getElem (show b < (t.getD a []).length by omega)]
       rfl
     · rw [u2 a ha e, h2 a ha]
       by_cases q : a < i
       · rw [if_pos q, if_pos (by omega)]
       · rw [if_neg q, if_neg (by omega)]
 · obtain ⟨h1, h2⟩ := hI
   have : s = mapT f t := by
     refine ext_getD (by rw [mapT_len]; exact h1) (fun a ha => ?_)
     have e1 : s.getD a default = s.getD a [] := rfl
     have e2 : (mapT f t).getD a default = (mapT f t).getD a [] := rfl
     rw [e1, e2, h2 a (by omega), if_pos (by omega), mapT_row]
   rw [this]; exact hx
def quickF (r : Range) : Range := ⟨r.Lo, r.Lo⟩
section
variable {c : Crew}
def quickC (c : Crew) : Crew := ⟨c.Tasks, mapT quickF c.Travel, c.Hands⟩
theorem mapT_row_len (f : Range → Range) (t : List (List Range)) (a : Nat) : ((mapT f t).getD a default).length = (t.getD a default).length := by
 have e : (mapT f t).getD a default = (t.getD a default).map f := mapT_row f t a
 rw [e, List.length_map]
theorem map_valid (V : Valid c) {f : Range → Range} (hf : f default = default) (T : TravelOk (mapT f c.Travel)) : Valid ⟨c.Tasks, mapT f c.Travel, c.Hands⟩ :=
 ⟨V.tasks, V.hands, T, fun i hi => by have := V.task i hi; rw [mapT_len]; exact this, V.hand⟩
theorem quick_travel (V : Valid c) : TravelOk (mapT quickF c.Travel) := by
 have T := V.travel
 have d : quickF default = default := rfl
 refine ⟨by rw [mapT_len]; exact T.len, fun a ha => ?_, fun a ha => ?_, fun a b ha hb => ?_, fun a b e ha hb he => ?_⟩
 · rw [mapT_len] at ha ⊢; rw [mapT_row_len]; exact T.row a ha
 · rw [mapT_len] at ha; rw [mapT_at d]; have := T.diag a ha; exact ⟨this.1, this.1⟩
 · rw [mapT_len] at ha hb; rw [mapT_at d]; have := T.rng a b ha hb; unfold quickF; dsimp only; omega
 · rw [mapT_len] at ha hb he; rw [mapT_at d, mapT_at d, mapT_at d]; have := T.tri a b e ha hb he; unfold quickF; dsimp only; omega
theorem quick_valid (V : Valid c) : Valid (quickC c) := map_valid V rfl (quick_travel V)
theorem quick_fol : fol (quickC c) Range.Hi = fol c Range.Lo := by
 funext i j
 unfold fol gap
 have e : ∀ a b, tv (quickC c).Travel a b = quickF (tv c.Travel a b) := fun a b => mapT_at rfl c.Travel a b
 rw [e]; rfl
theorem quick_nr : nr (quickC c) Range.Hi = nr c Range.Lo := by
 unfold nr
 rw [quick_fol]
 rfl
theorem nr_le (V : Valid c) {e : Range → Int} (he : EndOf e) : nr c e ≤ c.Tasks.length := by
 obtain ⟨S, hS, q⟩ := (most_nr V he).1
 rw [← q]
 have := nodup_le hS.nd (r := List.range c.Tasks.length) (fun x hx => List.mem_range.2 (hS.lt x hx))
 rwa [List.length_range] at this
end
end Go.Sp
end
/- Plain laws, crew: a task more, a task less, later tasks, an ill hand, by both sides: CrewChecks. -/
section
set_option linter.all false
namespace Go.Sp
open Go.Av
set_option maxRecDepth 100000
section
variable {c : Crew}
abbrev noCrew : Crew := ⟨[], [], []⟩
theorem tasks_sorted (V : Valid c) : c.Tasks.Pairwise (fun a b => a.Lamp < b.Lamp) := adj_sorted (·.Lamp) (fun i h0 hi => (V.task i hi).2.2 h0)
theorem rcopyK_eq (V : Valid c) : gasolierref04_Copy c = some c := by
 refine Wp.eq ?_
 unfold gasolierref04_Copy
 have h1 := V.tasks
 have h2 := V.hands
 have h3 := V.travel.len
 simp only [List.nil_append]
 refine wp_mustR (by omega) (wp_mustR (by omega) ?_)
 refine wp_range (fun i s => s = c.Travel.take i) (by rfl) (fun i s K hi hI hK => ?_) (fun s hI => wp_some ?_)
 · have h4 := V.travel.row i hi
   subst hI
   refine wp_mustR (by omega) (wp_must ?_ (hK _ (take_snoc hi).symm))
   rw [List.length_append, List.length_take]
   unfold room; simp only [List.length_cons, List.length_nil]; omega
 · subst hI; rw [List.take_length]
theorem ccompare_neg (a b : Int) : cmp_Compare_int a b < 0 ↔ a < b := by
 unfold cmp_Compare_int cmp_isNaN_int
 by_cases h1 : a < b
 · simp [h1]
 · by_cases h2 : b < a <;> simp [h1, h2]
theorem ccompare_zero (a b : Int) : cmp_Compare_int a b = 0 ↔ a = b := by
 unfold cmp_Compare_int cmp_isNaN_int
 by_cases h1 : a < b
 · simp [h1]; omega
 · by_cases h2 : b < a <;> simp [h1, h2] <;> omega
theorem find_eq (V : Valid c) {fuel : Nat} (hf : 30 ≤ fuel) (s : Int) {k : Nat} (k1 : k ≤ c.Tasks.length) (k2 : ∀ i, i < k → (c.Tasks.getD i default).Lamp < s) (k3 : ∀ i, k ≤ i → i < c.Tasks.length → ¬ (c.Tasks.getD i default).Lamp < s) :
   crew_find fuel c s = some ((k : Int), decide (k < c.Tasks.length) && decide ((c.Tasks.getD k default).Lamp = s)) := by
 have hV := V.tasks
 have eb : slices_BinarySearchFunc_int fuel c.Tasks s (fun x0 x1 => some (crew_find_1 x0 x1)) = some ((k : Int), decide (k < c.Tasks.length) && decide (cmp_Compare_int (c.Tasks.getD k default).Lamp s = 0)) := by
   show bsF fuel c.Tasks s (fun x0 x1 => some (crew_find_1 x0 x1)) = _
   exact bsF_eq c.Tasks s (c := fun t => cmp_Compare_int t.Lamp s) (fun t => rfl) k1 (fun i hi => (ccompare_neg _ _).2 (k2 i hi)) (fun i h1 h2 => Int.not_lt.1 (fun q => k3 i h1 h2 ((ccompare_neg _ _).1 q))) (by omega) (by omega)
 unfold crew_find
 rw [eb]
 simp only [ccompare_zero]
 rfl
open Classical in
noncomputable def withR (c : Crew) (t : Task) : Crew × Int :=
 if Valid c then (if (TaskOk t ∧ t.Place < c.Travel.length) ∧ ∀ y ∈ c.Tasks, y.Lamp ≠ t.Lamp then (if c.Tasks.length = 24 then (noCrew, 2) else (⟨insK Task.Lamp c.Tasks t, c.Travel, c.Hands⟩, 0)) else (noCrew, 40)) else (noCrew, 42)
theorem with_eq {fuel : Nat} (t : Task) (hf : 30 ≤ fuel) : crew_With fuel c t = some (withR c t) := by
 unfold crew_With withR
 refine Wp.eq (wp_bindE (check_eq c) ?_)
 by_cases V : Valid c
 rotate_left
 · rw [chk_not V, if_neg V]; exact wp_some rfl
 rw [chk_valid V, if_pos V]
 refine wp_false rfl ?_
 have hV := V.tasks
 obtain ⟨k, k1, k2, k3, k4, k5, k6⟩ := split_sorted Task.Lamp (tasks_sorted V) t.Lamp
 refine wp_bindE (find_eq V hf t.Lamp k1 k2 k3) ?_
 have hb : ((((!decide ((crew_CheckTask t) = 0)) || (decide (((c.Travel.length : Nat) : Int) ≤ t.Place))) || (decide (k < c.Tasks.length) && decide ((c.Tasks.getD k default).Lamp = t.Lamp)))) = true ↔ ¬ ((TaskOk t ∧ t.Place < c.Travel.length) ∧ ∀ y ∈ c.Tasks, y.Lamp ≠ t.Lamp) := by
   rw [k4]
   simp only [Bool.or_eq_true, Bool.not_eq_true', decide_eq_false_iff_not, Bool.and_eq_true, decide_eq_true_eq, checkTask_iff]
   by_cases h1 : TaskOk t
   · simp only [h1, not_true_eq_false, false_or, true_and]
     by_cases h2 : t.Place < c.Travel.length
     · simp only [h2, true_and, Classical.not_not]
       constructor
       · rintro (h | h)
         · omega
         · exact h
       · exact fun h => .inr h
     · simp only [h2, false_and, not_false_eq_true, iff_true]; exact .inl (by omega)
   · simp [h1]
 refine wp_if hb (fun h => ?_) (fun h => ?_)
 · rw [if_neg h]; exact wp_some rfl
 rw [if_pos (Classical.byContradiction h)]
 refine wp_ifd (fun h60 => ?_) (fun h60 => ?_)
 · rw [if_pos (by omega)]; exact wp_some rfl
 rw [if_neg (by omega)]
 refine wp_bindE (copied_eq V) ?_
 unfold slices_Insert_Task
 refine wp_bindE (v := c.Tasks.take k ++ [t] ++ c.Tasks.drop k) ?_ (wp_some ?_)
 · rw [must_yes (by omega), must_yes (by unfold room; omega), Int.toNat_natCast]
 · unfold insK; rw [k5, k6]
open Classical in
noncomputable def withoutR (c : Crew) (s : Int) : Crew × Int :=
 if Valid c then (if ∀ y ∈ c.Tasks, y.Lamp ≠ s then (noCrew, 3) else (⟨c.Tasks.filter (fun y => !decide (y.Lamp = s)), c.Travel, c.Hands⟩, 0)) else (noCrew, 42)
theorem deleteTK_eq (l : List Task) (k : Nat) (h : k < l.length) (hl : l.length ≤ 100000) : slices_Delete_Task l (k : Int) ((k : Int) + 1) = some (l.take k ++ l.drop (k + 1)) := by
 refine Wp.eq ?_
 unfold slices_Delete_Task
 have e0 : ((k : Int)).toNat = k := rfl
 have e1 : ((k : Int) + 1).toNat = k + 1 := by omega
 rw [e0, e1]
 refine wp_must (by omega) ?_
 rw [decide_eq_false (show ¬ (k : Int) = (k : Int) + 1 by omega)]
 refine wp_false rfl (wp_must (by omega) (wp_must (by omega) (wp_must (by omega) (wp_must ?_ (wp_some rfl)))))
 rw [List.length_append, List.length_take, List.length_drop]
 omega
theorem withoutK_eq {fuel : Nat} (s : Int) (hf : 30 ≤ fuel) : crew_Without fuel c s = some (withoutR c s) := by
 unfold crew_Without withoutR
 refine Wp.eq (wp_bindE (check_eq c) ?_)
 by_cases V : Valid c
 rotate_left
 · rw [chk_not V, if_neg V]; exact wp_some rfl
 rw [chk_valid V, if_pos V]
 refine wp_false rfl ?_
 have hV := V.tasks
 obtain ⟨k, k1, k2, k3, k4, k5, k6⟩ := split_sorted Task.Lamp (tasks_sorted V) s
 refine wp_bindE (find_eq V hf s k1 k2 k3) ?_
 by_cases hs : ∀ y ∈ c.Tasks, y.Lamp ≠ s
 · rw [if_pos hs]
   refine wp_true ?_ (wp_some rfl)
   have := k4.1 hs
   show (!(decide (k < c.Tasks.length) && decide ((c.Tasks.getD k default).Lamp = s))) = true
   cases hb : (decide (k < c.Tasks.length) && decide ((c.Tasks.getD k default).Lamp = s))
   · rfl
   · exact absurd (by simpa only [Bool.and_eq_true, decide_eq_true_eq] using hb) this
 · rw [if_neg hs]
   obtain ⟨q1, q2⟩ := Classical.byContradiction (fun h => hs (k4.2 h))
   refine wp_false (by show (!(decide (k < c.Tasks.length) && decide ((c.Tasks.getD k default).Lamp = s))) = false; rw [decide_eq_true q1, decide_eq_true q2]; rfl) ?_
   refine wp_bindE (copied_eq V) (wp_mustI (by simp only; omega) (wp_bindE (deleteTK_eq _ _ q1 (by omega)) (wp_some ?_)))
   rw [cut_filter (tasks_sorted V) q1 q2]
open Classical in
noncomputable def afterR (c : Crew) (m : Int) : Crew × Int := if Valid c then (if 0 ≤ m ∧ m ≤ 1439 then (⟨c.Tasks.filter (fun y => decide (m ≤ y.At)), c.Travel, c.Hands⟩, 0) else (noCrew, 1)) else (noCrew, 42)
theorem after_eq {fuel : Nat} (m : Int) (hf : 30 ≤ fuel) : crew_After fuel c m = some (afterR c m) := by
 unfold crew_After afterR
 refine Wp.eq (wp_bindE (check_eq c) ?_)
 by_cases V : Valid c
 rotate_left
 · rw [chk_not V, if_neg V]; exact wp_some rfl
 rw [chk_valid V, if_pos V]
 refine wp_false rfl ?_
 have hV := V.tasks
 have hm : crew_isMinute m = true ↔ 0 ≤ m ∧ m ≤ 1439 := in_iff
 cases hb : crew_isMinute m
 · rw [if_neg (fun q => by have := hm.2 q; rw [this] at hb; cases hb)]; exact wp_some rfl
 rw [if_pos (hm.1 hb)]
 refine wp_false rfl (wp_bindE (copied_eq V) ?_)
 have ed : slices_DeleteFunc_Task fuel c.Tasks (fun x0 => some (crew_After_1 x0 m)) = some (c.Tasks.filter (fun y => !decide (y.At < m))) :=
   deleteFunc_eq (⟨0, 0, 0, 0⟩ : Task) (q := fun y => decide (y.At < m)) (fun x => rfl) c.Tasks fuel (by omega) (by omega)
 refine wp_bindE ed (wp_some ?_)
 have : (fun y : Task => !decide (y.At < m)) = fun y => decide (m ≤ y.At) := by
   funext y
   by_cases h : y.At < m
   · rw [decide_eq_true h, decide_eq_false (by omega)]; rfl
   · rw [decide_eq_false h, decide_eq_true (by omega)]; rfl
 rw [this]
end
theorem sameCrew_self (c : Crew) (h1 : c.Tasks.length ≤ 100) (h2 : c.Hands.length ≤ 100) (h3 : c.Travel.length ≤ 100) (h4 : ∀ i, i < c.Travel.length → (c.Travel.getD i default).length ≤ 100) : gasolierref04_SameCrew c c = some true := by
 unfold gasolierref04_SameCrew
 refine Wp.eq (wp_false (by simp) ?_)
 refine wp_must (by omega) (wp_forall (fun i => True) (fun i K hi _ hK => wp_must (by omega) (wp_false (by simp) (hK trivial))) (fun _ => ?_))
 refine wp_must (by omega) (wp_forall (fun i => True) (fun i K hi _ hK => wp_must (by omega) (wp_false (by simp) (hK trivial))) (fun _ => ?_))
 refine wp_must (by omega) (wp_forall (fun i => True) (fun i K hi _ hK => wp_must (by omega) (wp_false (by simp) ?_)) (fun _ => wp_some rfl))
 refine wp_must (by have := h4 i hi; omega) (wp_forall (fun i => True) (fun j K2 hj _ hK2 => wp_must (by omega) (wp_must (by omega) (wp_false (by simp) (hK2 trivial)))) (fun _ => hK trivial))
end Go.Sp
end
/- Plain laws, crew: a task less, later tasks, less time: CrewLess. -/
section
set_option linter.all false
namespace Go.Sp
open Go.Av
set_option maxRecDepth 100000
section
variable {c : Crew}
theorem sub_valid (V : Valid c) {ts : List Task} (hs : ts.Pairwise (fun a b => a.Lamp < b.Lamp)) (hm : ∀ t ∈ ts, t ∈ c.Tasks) (hl : ts.length ≤ c.Tasks.length) : Valid ⟨ts, c.Travel, c.Hands⟩ := by
 refine ⟨Nat.le_trans hl V.tasks, V.hands, V.travel, fun i hi => ?_, V.hand⟩
 have h1 : tk ⟨ts, c.Travel, c.Hands⟩ i ∈ c.Tasks := hm _ (getD_mem hi)
 obtain ⟨j, hj, e⟩ := mem_getD h1
 have := V.task j hj
 have e : tk c j = tk ⟨ts, c.Travel, c.Hands⟩ i := e
 rw [e] at this
 exact ⟨this.1, this.2.1, fun h0 => sorted_lt (f := Task.Lamp) hs (by omega) hi⟩
theorem cut_move {c' : Crew} (V : Valid c) (hT : c'.Travel = c.Travel) {e : Range → Int} {S : List Nat} (hS : IsCut (fol c e) c.Tasks.length S) (hm : ∀ x ∈ S, tk c x ∈ c'.Tasks) :
   ∃ S', IsCut (fol c' e) c'.Tasks.length S' ∧ S'.length = S.length := by
 have ex : ∀ x : Nat, ∃ y : Nat, x ∈ S → y < c'.Tasks.length ∧ tk c' y = tk c x := fun x => by
   by_cases hx : x ∈ S
   · obtain ⟨y, hy, q⟩ := mem_getD (hm x hx)
     exact ⟨y, fun _ => ⟨hy, q⟩⟩
   · exact ⟨0, fun h => absurd h hx⟩
 let φ : Nat → Nat := fun x => Classical.choose (ex x)
 have hφ : ∀ x, x ∈ S → φ x < c'.Tasks.length ∧ tk c' (φ x) = tk c x := fun x hx => Classical.choose_spec (ex x) hx
 have ss := tasks_sorted V
 refine ⟨S.map φ, ⟨nodup_inj hS.nd (fun x hx y hy q => ?_), fun z hz => ?_, fun z hz z' hz' hf => ?_⟩, List.length_map _⟩
 · have h1 := (hφ x hx).2
   rw [q, (hφ y hy).2] at h1
   have lx := hS.lt x hx
   have ly := hS.lt y hy
   rcases Nat.lt_trichotomy x y with h | h | h
   · have := lamp_lt V y x h ly; rw [h1] at this; omega
   · exact h
   · have := lamp_lt V x y h lx; rw [h1] at this; omega
 · obtain ⟨x, hx, rfl⟩ := List.mem_map.1 hz
   exact (hφ x hx).1
 · obtain ⟨x, hx, rfl⟩ := List.mem_map.1 hz
   obtain ⟨y, hy, rfl⟩ := List.mem_map.1 hz'
   obtain ⟨_, _, hg⟩ := hf
   refine hS.apart x hx y hy ⟨hS.lt x hx, hS.lt y hy, ?_⟩
   unfold gap at hg ⊢
   rwa [(hφ x hx).2, (hφ y hy).2, hT] at hg
theorem sub_nr {c' : Crew} (V : Valid c) (V' : Valid c') (hT : c'.Travel = c.Travel) (hs : ∀ t ∈ c'.Tasks, t ∈ c.Tasks) {e : Range → Int} (he : EndOf e) : nr c' e ≤ nr c e := by
 obtain ⟨S, hS, q⟩ := (most_nr V' he).1
 obtain ⟨S', hS', q'⟩ := cut_move (c' := c) V' hT.symm hS (fun x hx => hs _ (getD_mem (hS.lt x hx)))
 have := (most_nr V he).2 S' hS'
 omega
theorem less_tasks (V : Valid c) {i : Nat} (hi : i < c.Tasks.length) : (lessC c i).Tasks = c.Tasks.filter (fun y => !decide (y.Lamp = (tk c i).Lamp)) := cut_filter (f := Task.Lamp) (tasks_sorted V) hi rfl
theorem less_nr (V : Valid c) {i : Nat} (hi : i < c.Tasks.length) : nr c Range.Hi ≤ nr (lessC c i) Range.Hi + 1 := by
 have V' := less_valid V hi
 obtain ⟨S, hS, q⟩ := (most_nr V (.inr rfl : EndOf Range.Hi)).1
 have hc : IsCut (fol c Range.Hi) c.Tasks.length (S.filter (fun x => !decide (x = i))) :=
   ⟨nodup_filter _ hS.nd, fun x hx => hS.lt x (List.mem_filter.1 hx).1, fun x hx y hy => hS.apart x (List.mem_filter.1 hx).1 y (List.mem_filter.1 hy).1⟩
 obtain ⟨S', hS', q'⟩ := cut_move (c' := lessC c i) V rfl hc (fun x hx => by
   obtain ⟨hx1, hx2⟩ := List.mem_filter.1 hx
   have hne : x ≠ i := by simpa using hx2
   rw [less_tasks V hi, List.mem_filter]
   refine ⟨getD_mem (hS.lt x hx1), ?_⟩
   simp only [Bool.not_eq_true', decide_eq_false_iff_not]
   intro e
   have lx := hS.lt x hx1
   rcases Nat.lt_trichotomy x i with h | h | h
   · have := lamp_lt V i x h hi; unfold tk at this e; omega
   · exact hne h
   · have := lamp_lt V x i h lx; unfold tk at this e; omega)
 have h1 := (most_nr V' (.inr rfl : EndOf Range.Hi)).2 S' hS'
 have h2 : S.length ≤ (S.filter (fun x => !decide (x = i))).length + 1 := by
   have := nodup_le hS.nd (r := i :: S.filter (fun x => !decide (x = i))) (fun x hx => by
     by_cases e : x = i
     · simp [e]
     · exact List.mem_cons_of_mem _ (List.mem_filter.2 ⟨hx, by simp [e]⟩))
   simpa using this
 omega
theorem moved_mem (V : Valid c) {i : Nat} (hi : i < c.Tasks.length) : (tk c i).Lamp ∈ movedL c c.Tasks.length ↔ nr (lessC c i) Range.Hi < nr c Range.Hi := by
 unfold movedL
 rw [List.mem_map]
 constructor
 · rintro ⟨j, hj, e⟩
   obtain ⟨h1, h2⟩ := List.mem_filter.1 hj
   have hj' := List.mem_range.1 h1
   have : j = i := by
     rcases Nat.lt_trichotomy j i with h | h | h
     · have := lamp_lt V i j h hi; omega
     · exact h
     · have := lamp_lt V j i h hj'; omega
   subst this
   simpa using h2
 · intro h
   exact ⟨i, List.mem_filter.2 ⟨List.mem_range.2 hi, by simpa using h⟩, rfl⟩
theorem ends_le (V : Valid c) : nr c Range.Lo ≤ nr c Range.Hi := by
 obtain ⟨S, hS, q⟩ := (most_nr V (.inl rfl : EndOf Range.Lo)).1
 have := (most_nr V (.inr rfl : EndOf Range.Hi)).2 S ⟨hS.nd, hS.lt, fun x hx y hy h => hS.apart x hx y hy (by
   obtain ⟨h1, h2, h3⟩ := h
   refine ⟨h1, h2, ?_⟩
   have p1 := V.place h1
   have p2 := V.place h2
   have := V.travel.rng _ _ p1.2.1 p2.2.1
   unfold gap at h3 ⊢
   omega)⟩
 omega
theorem quick_lo : nr (quickC c) Range.Lo = nr c Range.Lo := by
 have e : fol (quickC c) Range.Lo = fol c Range.Lo := by
   funext i j
   unfold fol gap
   have e : ∀ a b, tv (quickC c).Travel a b = quickF (tv c.Travel a b) := fun a b => mapT_at rfl c.Travel a b
   rw [e]; rfl
 unfold nr
 rw [e]
 rfl
theorem back_eq (V : Valid c) {i : Nat} (hi : i < c.Tasks.length) : withR (lessC c i) (tk c i) = (c, 0) := by
 have V' := less_valid V hi
 have et := less_tasks V hi
 have hlen : (lessC c i).Tasks.length + 1 = c.Tasks.length := by unfold lessC; dsimp only; rw [List.length_append, List.length_take, List.length_drop]; omega
 have ss := tasks_sorted V
 have hV := V.tasks
 have ht := V.task i hi
 have hne : ∀ y ∈ (lessC c i).Tasks, y.Lamp ≠ (tk c i).Lamp := fun y hy => by
   rw [et, List.mem_filter] at hy
   simpa using hy.2
 unfold withR
 rw [if_pos V', if_pos ⟨⟨ht.1, ht.2.1⟩, hne⟩, if_neg (by omega)]
 have : insK Task.Lamp (lessC c i).Tasks (tk c i) = c.Tasks := by
   refine sorted_ext Task.Lamp (insK_sorted _ (tasks_sorted V') hne) ss (fun z => ?_)
   rw [insK_mem, et, List.mem_filter]
   constructor
   · rintro (rfl | h)
     · exact getD_mem hi
     · exact h.1
   · intro h
     by_cases e : z.Lamp = (tk c i).Lamp
     · exact .inl (sorted_inj ss h (getD_mem hi) e)
     · exact .inr ⟨h, by simp [e]⟩
 rw [this]
 rfl
theorem mapT_id (t : List (List Range)) {f : Range → Range} (hf : ∀ r, f r = r) : mapT f t = t := by
 have : f = id := funext hf
 subst this
 unfold mapT
 simp
theorem crewLess_true (c : Crew) (n : Arr3 Int) : gasolierlaw04_CrewLess 20000 c n = some true := by
 refine Wp.eq ?_
 unfold gasolierlaw04_CrewLess
 refine wp_bindE (rcheck_eq c) ?_
 by_cases V : Valid c
 rotate_left
 · rw [chk_not V]
   refine wp_true rfl (wp_bindE (check_eq c) ?_)
   rw [chk_not V]
   exact wp_onE rfl sane4 (wp_some rfl)
 rw [chk_valid V]
 refine wp_false rfl (wp_bindE (bounds_eq c (by omega)) (wp_bindE (moved_eq V (by omega)) ?_))
 rw [if_pos (chk_valid V)]
 obtain ⟨m, em, m0, m1⟩ := mod_eq n.x1 (m := 1440) (by omega) (by omega)
 have hn := V.tasks
 have hle := nr_le V (.inr rfl : EndOf Range.Hi)
 have hlo := ends_le V
 refine wp_bindE em (wp_bindE (after_eq m (by omega)) ?_)
 have ea : afterR c m = (⟨c.Tasks.filter (fun y => decide (m ≤ y.At)), c.Travel, c.Hands⟩, 0) := by unfold afterR; rw [if_pos V, if_pos ⟨m0, by omega⟩]
 have Va : Valid ⟨c.Tasks.filter (fun y => decide (m ≤ y.At)), c.Travel, c.Hands⟩ := sub_valid V ((tasks_sorted V).filter _) (fun t ht => (List.mem_filter.1 ht).1) (List.length_filter_le _ _)
 have ha := sub_nr V Va rfl (fun t ht => (List.mem_filter.1 ht).1) (.inr rfl : EndOf Range.Hi)
 rw [ea]
 refine wp_bindE (count_eq _ (by omega)) ?_
 rw [if_pos (chk_valid Va)]
 generalize nr ⟨c.Tasks.filter (fun y => decide (m ≤ y.At)), c.Travel, c.Hands⟩ Range.Hi = a at ha
 refine wp_false ?_ (wp_joinU ?_)
 · have h1 : decide (((nr c Range.Hi : Nat) : Int) < (a : Int)) = false := decide_eq_false (by omega)
   have h2 : decide (((nr c Range.Hi : Nat) : Int) < ((nr c Range.Lo : Nat) : Int)) = false := decide_eq_false (by omega)
   dsimp only
   rw [h1, h2]; rfl
 -- less time
 have rest : Wp (bindO (gasolierref04_Copy c) fun y20 => must (y20.Travel.length ≤ 9223372036854775807) <| (rangeGo (fun i22 (s22 : (List (List Range))) k22 => must (0 ≤ ((i22 : Int) : Int) ∧ ((i22 : Int) : Int) < ((s22.length : Nat) : Int)) <| must (((s22.getD i22 []).length) ≤ 9223372036854775807) <| (rangeGo (fun i25 (s25 : (List (List Range))) k25 => must (0 ≤ ((i22 : Int) : Int) ∧ ((i22 : Int) : Int) < ((s25.length : Nat) : Int)) <| must (0 ≤ ((i25 : Int) : Int) ∧ ((i25 : Int) : Int) < (((s25.getD i22 []).length : Nat) : Int)) <| must (0 ≤ ((i22 : Int) : Int) ∧ ((i22 : Int) : Int) < ((s25.length : Nat) : Int)) <| must (inI (((s25.getD i22 []).getD i25 default).Hi - ((s25.getD i22 []).getD i25 default).Lo)) <| bindO (gasolierref01_Mod n.x2 2) fun y31 => must (inI ((((s25.getD i22 []).getD i25 default).Hi - ((s25.getD i22 []).getD i25 default).Lo) * y31)) <| must (inI (((s25.getD i22 []).getD i25 default).Hi - ((((s25.getD i22 []).getD i25 default).Hi - ((s25.getD i22 []).getD i25 default).Lo) * y31))) <| must (0 ≤ ((i25 : Int) : Int) ∧ ((i25 : Int) : Int) < (((s25.getD i22 []).length : Nat) : Int)) <| k25 (s25.set i22 ((s25.getD i22 []).set i25 (⟨((s25.getD i22 []).getD i25 default).Lo, (((s25.getD i22 []).getD i25 default).Hi - ((((s25.getD i22 []).getD i25 default).Hi - ((s25.getD i22 []).getD i25 default).Lo) * y31))⟩ : Range)))) (fun (s25 : (List (List Range))) => k22 s25) ((s22.getD i22 []).length) 0 s22)) (fun (s22 : (List (List Range))) => bindO (crew_Bounds 20000 (⟨y20.Tasks, s22, y20.Hands⟩ : Crew)) fun y36 => bindO ((bif (((decide (y36.2 = 0)) && (decide (((nr c Range.Lo : Nat) : Int) ≤ y36.1.Lo))) && (decide (y36.1.Hi ≤ ((nr c Range.Hi : Nat) : Int)))) then gasolierlaw04_sane 20000 else some default)) fun y38 => some ((((decide (y36.2 = 0)) && (decide (((nr c Range.Lo : Nat) : Int) ≤ y36.1.Lo))) && (decide (y36.1.Hi ≤ ((nr c Range.Hi : Nat) : Int)))) && y38)) y20.Travel.length 0 y20.Travel)) (· = true) := by
   obtain ⟨b, eb, b0, b1⟩ := mod_eq n.x2 (m := 2) (by omega) (by omega)
   refine wp_bindE (rcopyK_eq V) ?_
   have h3 := V.travel.len
   refine wp_must (by omega) (wp_grid (fun r => ⟨r.Lo, r.Hi - (r.Hi - r.Lo) * b⟩) c.Travel _ rfl (fun i22 i25 s25 k25 => must (0 ≤ ((i22 : Int) : Int) ∧ ((i22 : Int) : Int) < ((s25.length : Nat) : Int)) <| must (0 ≤ ((i25 : Int) : Int) ∧ ((i25 : Int) : Int) < (((s25.getD i22 []).length : Nat) : Int)) <| must (0 ≤ ((i22 : Int) : Int) ∧ ((i22 : Int) : Int) < ((s25.length : Nat) : Int)) <| must (inI (((s25.getD i22 []).getD i25 default).Hi - ((s25.getD i22 []).getD i25 default).Lo)) <| bindO (gasolierref01_Mod n.x2 2) fun y31 => must (inI ((((s25.getD i22 []).getD i25 default).Hi - ((s25.getD i22 []).getD i25 default).Lo) * y31)) <| must (inI (((s25.getD i22 []).getD i25 default).Hi - ((((s25.getD i22 []).getD i25 default).Hi - ((s25.getD i22 []).getD i25 default).Lo) * y31))) <| must (0 ≤ ((i25 : Int) : Int) ∧ ((i25 : Int) : Int) < (((s25.getD i22 []).length : Nat) : Int)) <| k25 (s25.set i22 ((s25.getD i22 []).set i25 (⟨((s25.getD i22 []).getD i25 default).Lo, (((s25.getD i22 []).getD i25 default).Hi - ((((s25.getD i22 []).getD i25 default).Hi - ((s25.getD i22 []).getD i25 default).Lo) * y31))⟩ : Range))))
     (fun i s K hi hs he h => ?_) (fun i j u K hi hj h1 h2 h3 h => ?_) ?_)
   · have h4 := V.travel.row i hi
     have h4 : (c.Travel.getD i []).length = c.Travel.length := h4
     refine wp_must (by omega) (wp_must (by rw [he]; omega) ?_)
     rw [he]
     exact h
   · have h4 := V.travel.row i hi
     have h4 : (c.Travel.getD i []).length = c.Travel.length := h4
     have hr := V.travel.rng i j hi (by omega)
     have er : tv c.Travel i j = (c.Travel.getD i []).getD j default := rfl
     rw [er] at hr
     rw [h3]
     generalize (c.Travel.getD i []).getD j default = r at hr h
     have hb : b = 0 ∨ b = 1 := by omega
     have hp : inI ((r.Hi - r.Lo) * b) ∧ inI (r.Hi - (r.Hi - r.Lo) * b) := by
       unfold inI
       rcases hb with q | q
       · rw [q, Int.mul_zero]; omega
       · rw [q, Int.mul_one]; omega
     refine wp_must (by omega) (wp_must (by omega) (wp_must (by omega) (wp_mustI (by omega) (wp_bindE eb (wp_must hp.1 (wp_must hp.2 (wp_must (by omega) ?_)))))))
     exact h
   · have hb : b = 0 ∨ b = 1 := by omega
     rcases hb with q | q
     · subst q
       rw [mapT_id c.Travel (f := fun r => ⟨r.Lo, r.Hi - (r.Hi - r.Lo) * 0⟩) (fun r => by simp)]
       refine wp_bindE (bounds_eq c (by omega)) ?_
       rw [if_pos (chk_valid V)]
       exact wp_onE (by simp) sane4 (wp_some (by simp))
     · subst q
       have ef : (fun r : Range => (⟨r.Lo, r.Hi - (r.Hi - r.Lo) * 1⟩ : Range)) = quickF := by
         funext r; unfold quickF; congr 1; omega
       rw [ef]
       have Vq := quick_valid V
       refine wp_bindE (show crew_Bounds 20000 (quickC c) = _ from bounds_eq (quickC c) (by omega)) ?_
       rw [if_pos (chk_valid Vq), quick_lo, quick_nr]
       have h2 : decide (((nr c Range.Lo : Nat) : Int) ≤ ((nr c Range.Hi : Nat) : Int)) = true := decide_eq_true (by omega)
       refine wp_onE (by simp [h2]; omega) sane4 (wp_some (by simp [h2]; omega))
 refine wp_ifd (fun hpos => ?_) (fun _ => rest)
 obtain ⟨i0, ei, i1, i2⟩ := mod_eq n.x0 (m := ((c.Tasks.length : Nat) : Int)) hpos (by omega)
 obtain ⟨i, rfl⟩ := Int.eq_ofNat_of_zero_le i1
 have hi : i < c.Tasks.length := by omega
 refine wp_bindE ei (wp_must (by omega) ?_)
 rw [Int.toNat_natCast]
 have et : c.Tasks.getD i default = tk c i := rfl
 rw [et]
 have V' := less_valid V hi
 have ew : withoutR c (tk c i).Lamp = (lessC c i, 0) := by
   unfold withoutR
   rw [if_pos V, if_neg (fun h => h _ (getD_mem hi) rfl), ← less_tasks V hi]; rfl
 refine wp_bindE (withoutK_eq _ (by omega)) ?_
 rw [ew]
 refine wp_bindE (count_eq (lessC c i) (by omega)) ?_
 rw [if_pos (chk_valid V')]
 refine wp_bindE (with_eq _ (by omega)) ?_
 rw [back_eq V hi]
 have hT := V.travel.len
 refine wp_onE rfl (sameCrew_self c (by omega) (by have := V.hands; omega) (by omega) (fun a ha => by have := V.travel.row a ha; omega)) ?_
 have l1 := sub_nr V V' rfl (fun t ht => by rw [less_tasks V hi] at ht; exact (List.mem_filter.1 ht).1) (.inr rfl : EndOf Range.Hi)
 have l2 := less_nr V hi
 have mm := moved_mem V hi
 generalize nr (lessC c i) Range.Hi = k at l1 l2 mm
 have d1 : decide (((nr c Range.Hi : Nat) : Int) < (k : Int)) = false := decide_eq_false (by omega)
 have d2 : decide ((k : Int) < ((nr c Range.Hi : Nat) : Int) - 1) = false := decide_eq_false (by omega)
 dsimp only
 refine wp_must (fun _ => by unfold inI; omega) ?_
 rw [d1, d2]
 refine wp_onE rfl (has_eq _ _) (wp_false ?_ rest)
 have : decide ((tk c i).Lamp ∈ movedL c c.Tasks.length) = decide ((k : Int) < ((nr c Range.Hi : Nat) : Int)) := decide_eq_decide.2 (by rw [mm]; omega)
 rw [this]
 simp
end
end Go.Sp
end
