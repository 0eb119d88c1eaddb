/- Texts of the framework, or of the plain law, one behind another. -/
import Derived.Test.YtnaodipmfaglfaaFr1
import Derived.Test.YtnaodipmfaglfaaFr4
import Derived.KernelRfl
import Derived.WalkKit
/- Rules for plain laws: what a printed definition yields. No program in sight. -/
section
set_option linter.all false
namespace Go.Sp
open Go.Av
def Wp {R : Type} (x : Option R) (P : R → Prop) : Prop := ∃ r, x = some r ∧ P r
theorem Wp.eq {R : Type} {x : Option R} {v : R} (h : Wp x (· = v)) : x = some v := by
  obtain ⟨r, h1, h2⟩ := h; rw [h1, h2]
theorem Wp.of_eq {R : Type} {x : Option R} {v : R} {P : R → Prop} (h : x = some v) (hp : P v) : Wp x P := ⟨v, h, hp⟩
theorem Wp.mono {R : Type} {x : Option R} {P Q : R → Prop} (h : Wp x P) (hp : ∀ r, P r → Q r) : Wp x Q := by
  obtain ⟨r, h1, h2⟩ := h; exact ⟨r, h1, hp r h2⟩
theorem wp_some {R : Type} {r : R} {P : R → Prop} (h : P r) : Wp (some r) P := ⟨r, rfl, h⟩
theorem wp_must {R : Type} {c : Prop} [Decidable c] {x : Option R} {P : R → Prop} (h : c) (k : Wp x P) : Wp (must c x) P := by
  unfold must; rw [if_pos h]; exact k
theorem wp_bind {S R : Type} {x : Option S} {k : S → Option R} {P : R → Prop} {Q : S → Prop} (h : Wp x Q) (hk : ∀ s, Q s → Wp (k s) P) : Wp (bindO x k) P := by
  obtain ⟨r, h1, h2⟩ := h; rw [h1]; exact hk r h2
theorem wp_bindE {S R : Type} {x : Option S} {k : S → Option R} {P : R → Prop} {v : S} (h : x = some v) (hk : Wp (k v) P) : Wp (bindO x k) P := by
  rw [h]; exact hk
theorem wp_bif {R : Type} {b : Bool} {x y : Option R} {P : R → Prop} (h1 : b = true → Wp x P) (h2 : b = false → Wp y P) : Wp (bif b then x else y) P := by
  cases b
  · exact h2 rfl
  · exact h1 rfl
theorem wp_if {R : Type} {p : Prop} {b : Bool} {x y : Option R} {P : R → Prop} (hb : b = true ↔ p) (h1 : p → Wp x P) (h2 : ¬ p → Wp y P) : Wp (bif b then x else y) P :=
  wp_bif (fun h => h1 (hb.1 h)) (fun h => h2 (fun hp => by rw [hb.2 hp] at h; cases h))
theorem wp_ifd {R : Type} {p : Prop} [Decidable p] {x y : Option R} {P : R → Prop} (h1 : p → Wp x P) (h2 : ¬ p → Wp y P) : Wp (bif (decide p) then x else y) P :=
  wp_if (decide_eq_true_iff) h1 h2
theorem wp_ifn {R : Type} {p : Prop} [Decidable p] {x y : Option R} {P : R → Prop} (h1 : ¬ p → Wp x P) (h2 : p → Wp y P) : Wp (bif (!decide p) then x else y) P :=
  wp_bif (fun h => h1 (by simpa using h)) (fun h => h2 (by simpa using h))
theorem wp_true {R : Type} {b : Bool} {x y : Option R} {P : R → Prop} (h : b = true) (h1 : Wp x P) : Wp (bif b then x else y) P := by rw [h]; exact h1
theorem wp_false {R : Type} {b : Bool} {x y : Option R} {P : R → Prop} (h : b = false) (h1 : Wp y P) : Wp (bif b then x else y) P := by rw [h]; exact h1
theorem wp_join {S R : Type} {f : (S → Option R) → Option R} {k : S → Option R} {P : R → Prop} (G : S → Prop) (hf : ∀ K : S → Option R, (∀ s, G s → Wp (K s) P) → Wp (f K) P) (hk : ∀ s, G s → Wp (k s) P) : Wp (joinK f k) P := hf k hk
theorem wp_range {S R : Type} {body : Nat → S → (S → Option R) → Option R} {ex : S → Option R} {n : Nat} {s0 : S} {P : R → Prop} (Inv : Nat → S → Prop) (h0 : Inv 0 s0)
    (hb : ∀ (i : Nat) s (K : S → Option R), i < n → Inv i s → (∀ s', Inv (i + 1) s' → Wp (K s') P) → Wp (body i s K) P) (he : ∀ s, Inv n s → Wp (ex s) P) : Wp (rangeGo body ex n 0 s0) P := by
  have go : ∀ (m i : Nat), i + m = n → ∀ s, Inv i s → Wp (rangeGo body ex m i s) P := by
    intro m
    induction m with
    | zero => intro i hi s hs; have e : i = n := by omega
              subst e; exact he s hs
    | succ m ih => intro i hi s hs; exact hb i s _ (by omega) hs (fun s' h' => ih (i + 1) (by omega) s' h')
  exact go n 0 (by omega) s0 h0
theorem wp_loop {S R : Type} {body : S → (S → Option R) → Option R} {fuel : Nat} {s0 : S} {P : R → Prop} (Inv : S → Prop) (μ : S → Nat) (hf : μ s0 < fuel) (h0 : Inv s0)
    (hb : ∀ s (K : S → Option R), Inv s → (∀ s', Inv s' → μ s' < μ s → Wp (K s') P) → Wp (body s K) P) : Wp (loopGo body fuel s0) P := by
  have go : ∀ (f : Nat) s, Inv s → μ s < f → Wp (loopGo body f s) P := by
    intro f
    induction f with
    | zero => intro s _ h; omega
    | succ f ih => intro s hs hm; exact hb s _ hs (fun s' h' hl => ih s' h' (by omega))
  exact go fuel s0 h0 hf
end Go.Sp
end
/- More rules for plain laws. No program in sight. -/
section
set_option linter.all false
namespace Go.Sp
open Go.Av
theorem wp_mustI {R : Type} {n : Int} {x : Option R} {P : R → Prop} (h : -9223372036854775808 ≤ n ∧ n ≤ 9223372036854775807) (k : Wp x P) : Wp (must (inI n) x) P := wp_must h k
theorem wp_mustW {R : Type} {w : Prop} [Decidable w] {n : Int} {x : Option R} {P : R → Prop} (h : w → -9223372036854775808 ≤ n ∧ n ≤ 9223372036854775807) (k : Wp x P) : Wp (must (w → inI n) x) P := wp_must h k
theorem wp_on {S R : Type} [Inhabited S] {W : Bool} {x : Option S} {k : S → Option R} {P : R → Prop} {Q : S → Prop} (h : W = true → Wp x Q) (hk : ∀ s, (W = true → Q s) → Wp (k s) P) : Wp (bindO (bif W then x else some default) k) P := by
  cases W
  · exact hk _ (fun h => by cases h)
  · exact wp_bind (h rfl) (fun s hs => hk s (fun _ => hs))
end Go.Sp
end
/- Rules for plain laws, more of them. No program in sight. -/
section
set_option linter.all false
namespace Go.Sp
open Go.Av
theorem wp_forall {R : Type} {body : Nat → Unit → (Unit → Option R) → Option R} {ex : Unit → Option R} {n : Nat} {P : R → Prop} (good : Nat → Prop)
    (hb : ∀ (i : Nat) (K : Option R), i < n → (∀ j, j < i → good j) → (good i → Wp K P) → Wp (body i () (fun _ => K)) P) (he : (∀ j, j < n → good j) → Wp (ex ()) P) : Wp (rangeGo body ex n 0 ()) P := by
  refine wp_range (fun i _ => ∀ j, j < i → good j) (fun j hj => by omega) (fun i s K hi hI hK => ?_) (fun s hs => he hs)
  have e : K = fun _ => K () := funext fun u => rfl
  rw [e]
  exact hb i (K ()) hi hI (fun g => hK () (fun j hj => by
    by_cases e : j = i
    · rw [e]; exact g
    · exact hI j (by omega)))
theorem wp_onE {S R : Type} {W : Bool} {x y : Option S} {k : S → Option R} {P : R → Prop} {v : S} (hW : W = true) (h : x = some v) (hk : Wp (k v) P) : Wp (bindO (bif W then x else y) k) P := by
  subst hW; rw [h]; exact hk
theorem must_yes {R : Type} {c : Prop} [Decidable c] (h : c) (x : Option R) : must c x = x := if_pos h
theorem getD_set {T : Type} (l : List T) (i j : Nat) (x d : T) (hi : i < l.length) : (l.set i x).getD j d = if j = i then x else l.getD j d := by
  simp only [List.getD_eq_getElem?_getD]
  by_cases e : j = i
  · subst e; rw [List.getElem?_set_self hi, if_pos rfl]; rfl
  · rw [List.getElem?_set_ne (fun h => e h.symm), if_neg e]
theorem getD_snoc {T : Type} (l : List T) (x d : T) (i : Nat) : (l ++ [x]).getD i d = if i = l.length then x else l.getD i d := by
  simp only [List.getD_eq_getElem?_getD]
  rcases Nat.lt_trichotomy i l.length with h | h | h
  · rw [List.getElem?_append_left h, if_neg (by omega)]
  · subst h; simp
  · rw [if_neg (by omega), List.getElem?_eq_none (by simp; omega), List.getElem?_eq_none (by omega)]
theorem getD_replicate {T : Type} (n i : Nat) (x : T) : (List.replicate n x).getD i x = x := by
  simp only [List.getD_eq_getElem?_getD, List.getElem?_replicate]
  split <;> rfl
theorem getD_mem {T : Type} [Inhabited T] {l : List T} {i : Nat} (h : i < l.length) : l.getD i default ∈ l := by
  rw [List.getD_eq_getElem?_getD, List.getElem?_eq_getElem h]; exact List.getElem_mem h
theorem mem_getD {T : Type} [Inhabited T] {l : List T} {x : T} (h : x ∈ l) : ∃ i, i < l.length ∧ l.getD i default = x := by
  obtain ⟨i, hi, rfl⟩ := List.getElem_of_mem h
  exact ⟨i, hi, by rw [List.getD_eq_getElem?_getD, List.getElem?_eq_getElem hi]; rfl⟩
theorem getD_drop {T : Type} (l : List T) (n i : Nat) (d : T) : (l.drop n).getD i d = l.getD (n + i) d := by
  simp only [List.getD_eq_getElem?_getD, List.getElem?_drop]
theorem nodup_le {T : Type} [DecidableEq T] : ∀ {l r : List T}, l.Nodup → (∀ x ∈ l, x ∈ r) → l.length ≤ r.length
  | [], r, _, _ => Nat.zero_le _
  | x :: l, r, hn, hs => by
    have hx := hs x List.mem_cons_self
    rw [List.nodup_cons] at hn
    have := nodup_le (l := l) (r := r.erase x) hn.2 (fun y hy => (List.mem_erase_of_ne (fun (e : y = x) => hn.1 (e ▸ hy))).2 (hs y (List.mem_cons_of_mem _ hy)))
    rw [List.length_erase_of_mem hx] at this
    have := List.length_pos_of_mem hx
    simp only [List.length_cons]; omega
theorem nodup_inj {S T : Type} {f : S → T} : ∀ {l : List S}, l.Nodup → (∀ x ∈ l, ∀ y ∈ l, f x = f y → x = y) → (l.map f).Nodup
  | [], _, _ => List.nodup_nil
  | x :: l, hn, hi => by
    rw [List.nodup_cons] at hn
    rw [List.map_cons, List.nodup_cons]
    refine ⟨fun hm => ?_, nodup_inj hn.2 (fun a ha b hb => hi a (List.mem_cons_of_mem _ ha) b (List.mem_cons_of_mem _ hb))⟩
    obtain ⟨y, hy, e⟩ := List.mem_map.1 hm
    have := hi x List.mem_cons_self y (List.mem_cons_of_mem _ hy) e.symm
    exact hn.1 (this ▸ hy)
theorem length_le_inj {S T : Type} [DecidableEq T] {l : List S} {r : List T} (f : S → T) (hn : l.Nodup) (hm : ∀ x ∈ l, f x ∈ r) (hi : ∀ x ∈ l, ∀ y ∈ l, f x = f y → x = y) : l.length ≤ r.length := by
  have := nodup_le (nodup_inj hn hi) (r := r) (fun y hy => by obtain ⟨x, hx, rfl⟩ := List.mem_map.1 hy; exact hm x hx)
  rwa [List.length_map] at this
theorem fdiv_bit {x : Int} {j : Nat} (h : 0 ≤ x) : Int.fdiv x (2 ^ j) = ((x.toNat >>> j : Nat) : Int) := by
  obtain ⟨n, rfl⟩ := Int.eq_ofNat_of_zero_le h
  rw [Int.toNat_natCast, Nat.shiftRight_eq_div_pow]
  have : (2 : Int) ^ j = ((2 ^ j : Nat) : Int) := by simp
  rw [this, Int.fdiv_eq_ediv_of_nonneg _ (Int.natCast_nonneg _)]
  exact (Int.natCast_ediv _ _).symm
theorem bit_one (n j : Nat) : (n >>> j) &&& 1 = if n.testBit j then 1 else 0 := by
  unfold Nat.testBit
  rcases Nat.mod_two_eq_zero_or_one (n >>> j) with h | h
  · simp [Nat.and_comm 1, Nat.and_one_is_mod, h]
  · simp [Nat.and_comm 1, Nat.and_one_is_mod, h]
theorem or_bit {n j k : Nat} : (n ||| 2 ^ j).testBit k = (n.testBit k || decide (k = j)) := by
  rw [Nat.testBit_or, Nat.testBit_two_pow]
  congr 1
  exact decide_eq_decide.2 eq_comm
theorem or_lt {n j m : Nat} (hn : n < 2 ^ m) (hj : j < m) : n ||| 2 ^ j < 2 ^ m := Nat.or_lt_two_pow hn (Nat.pow_lt_pow_right (by omega) hj)
def flw (n : Nat) (W : Nat → Bool) (j : Nat) : List Int := ((List.range' j (n - j)).filter W).map (fun (k : Nat) => (k : Int))
theorem flw_step {n : Nat} {W : Nat → Bool} {j : Nat} (h : j < n) : flw n W j = if W j = true then (j : Int) :: flw n W (j + 1) else flw n W (j + 1) := by
  unfold flw
  rw [show n - j = (n - (j + 1)) + 1 by omega, List.range'_succ, List.filter_cons]
  split <;> rfl
theorem flw_end {n : Nat} {W : Nat → Bool} {j : Nat} (h : n ≤ j) : flw n W j = [] := by
  unfold flw
  rw [show n - j = 0 by omega]; rfl
theorem emit_range {A : Type} {body : Nat → Unit → (Unit → Option (List A)) → Option (List A)} {n : Nat} (W : Nat → Bool) (x : Nat → A)
    (hb : ∀ (i : Nat) (r : Option (List A)), i < n → body i () (fun _ => r) = emitIf (W i) (x i) r) : rangeGo body (fun _ => some []) n 0 () = some (((List.range' 0 n).filter W).map x) := by
  have go : ∀ m i, i + m = n → rangeGo body (fun _ => some []) m i () = some (((List.range' i m).filter W).map x) := by
    intro m
    induction m with
    | zero => intro i _; rfl
    | succ m ih =>
      intro i hi
      have e : rangeGo body (fun _ => some []) (m + 1) i () = body i () (fun u => rangeGo body (fun _ => some []) m (i + 1) u) := rfl
      rw [e]
      have e2 : (fun u => rangeGo body (fun _ => some ([] : List A)) m (i + 1) u) = fun _ => some (((List.range' (i + 1) m).filter W).map x) := by
        funext u; exact ih (i + 1) (by omega)
      rw [e2, hb i _ (by omega), List.range'_succ, List.filter_cons]
      cases W i <;> rfl
  exact go n 0 (by omega)
theorem wp_flw {S R : Type} {body : Int → S → (S → Option R) → Option R} {ex : S → Option R} {s0 : S} {P : R → Prop} (n : Nat) (W : Nat → Bool) (Inv : Nat → S → Prop) (h0 : Inv 0 s0)
    (skip : ∀ (j : Nat) s, j < n → W j = false → Inv j s → Inv (j + 1) s)
    (hb : ∀ (j : Nat) s (K : S → Option R), j < n → W j = true → Inv j s → (∀ s', Inv (j + 1) s' → Wp (K s') P) → Wp (body (j : Int) s K) P) (he : ∀ s, Inv n s → Wp (ex s) P) : Wp (listGo body ex (flw n W 0) s0) P := by
  have go : ∀ (m j : Nat), j + m = n → ∀ s, Inv j s → Wp (listGo body ex (flw n W j) s) P := by
    intro m
    induction m with
    | zero => intro j hj s hs; have e : j = n := by omega
              subst e; rw [flw_end (Nat.le_refl _)]; exact he s hs
    | succ m ih =>
      intro j hj s hs
      rw [flw_step (by omega)]
      cases hW : W j with
      | true => rw [if_pos rfl]; exact hb j s _ (by omega) hW hs (fun s' h' => ih (j + 1) (by omega) s' h')
      | false => rw [if_neg (by simp)]; exact ih (j + 1) (by omega) s (skip j s (by omega) hW hs)
  exact go n 0 (by omega) s0 h0
def mu (n : Nat) (P : Nat → Bool) : Nat := (List.range n).countP (fun k => !P k)
theorem mu_le (n : Nat) (P : Nat → Bool) : mu n P ≤ n := by
  have := List.countP_le_length (p := fun k => !P k) (l := List.range n)
  rwa [List.length_range] at this
theorem mu_mono {n : Nat} {P Q : Nat → Bool} (h : ∀ k, P k = true → Q k = true) : mu n Q ≤ mu n P :=
  List.countP_mono_left (fun k _ hk => by
    cases hP : P k with
    | false => rfl
    | true => rw [h k hP] at hk; cases hk)
theorem countP_lt {T : Type} {p q : T → Bool} {a : T} : ∀ {l : List T}, (∀ x, x ∈ l → p x = true → q x = true) → a ∈ l → q a = true → p a = false → l.countP p < l.countP q
  | x :: l, h, ha, hq, hp => by
    rw [List.countP_cons, List.countP_cons]
    have hm : l.countP p ≤ l.countP q := List.countP_mono_left (fun y hy => h y (List.mem_cons_of_mem _ hy))
    rcases List.mem_cons.1 ha with rfl | ha
    · rw [hp, hq]; simp; omega
    · have := countP_lt (l := l) (fun y hy => h y (List.mem_cons_of_mem _ hy)) ha hq hp
      have hx := h x List.mem_cons_self
      cases hpx : p x with
      | false => simp; omega
      | true => rw [hx hpx]; simp; omega
theorem mu_lt {n j : Nat} {P Q : Nat → Bool} (h : ∀ k, P k = true → Q k = true) (hj : j < n) (hP : P j = false) (hQ : Q j = true) : mu n Q < mu n P :=
  countP_lt (a := j) (fun k _ hk => by
    cases hPk : P k with
    | false => rfl
    | true => rw [h k hPk] at hk; cases hk) (List.mem_range.2 hj) (by rw [hP]; rfl) (by rw [hQ]; rfl)
end Go.Sp
end
/- Matchings: a search for a free partner, where others step aside; what it leaves. No program in sight. -/
section
set_option linter.all false
namespace Go.Sp
structure Ks where
  seen : Nat → Bool
  own : Nat → Int
  back : Nat → Int
def Ks.see (s : Ks) (j : Nat) : Ks := ⟨fun k => s.seen k || decide (k = j), s.own, s.back⟩
def Ks.give (s : Ks) (j i : Nat) : Ks := ⟨s.seen, fun k => if k = j then (i : Int) else s.own k, fun k => if k = i then (j : Int) else s.back k⟩
inductive Srch (adj : Nat → Nat → Prop) (m : Nat) : Nat → Nat → Ks → Bool → Ks → Prop
  | done {i j : Nat} {s : Ks} : m ≤ j → Srch adj m i j s false s
  | skip {i j : Nat} {s s' : Ks} {b : Bool} : j < m → (adj i j → s.seen j = true) → Srch adj m i (j + 1) s b s' → Srch adj m i j s b s'
  | free {i j : Nat} {s : Ks} : j < m → adj i j → s.seen j = false → s.own j < 0 → Srch adj m i j s true ((s.see j).give j i)
  | aug {i j o : Nat} {s s' : Ks} : j < m → adj i j → s.seen j = false → s.own j = (o : Int) → Srch adj m o 0 (s.see j) true s' → Srch adj m i j s true (s'.give j i)
  | fail {i j o : Nat} {s s1 s' : Ks} {b : Bool} : j < m → adj i j → s.seen j = false → s.own j = (o : Int) → Srch adj m o 0 (s.see j) false s1 → Srch adj m i (j + 1) s1 b s' → Srch adj m i j s b s'
variable {adj : Nat → Nat → Prop} {m : Nat}
theorem Srch.mono {i j : Nat} {s s' : Ks} {b : Bool} (H : Srch adj m i j s b s') : ∀ k, s.seen k = true → s'.seen k = true := by
  induction H with
  | done _ => exact fun k h => h
  | skip _ _ _ ih => exact ih
  | free => intro k h; show (_ || _) = true; rw [h]; rfl
  | aug _ _ _ _ _ ih => intro k h; exact ih k (by show (_ || _) = true; rw [h]; rfl)
  | fail _ _ _ _ _ _ ih1 ih2 => intro k h; exact ih2 k (ih1 k (by show (_ || _) = true; rw [h]; rfl))
theorem Srch.own_seen {i j : Nat} {s s' : Ks} {b : Bool} (H : Srch adj m i j s b s') : ∀ k, s.seen k = true → s'.own k = s.own k := by
  induction H with
  | done _ => exact fun k _ => rfl
  | skip _ _ _ ih => exact ih
  | @free i j s hj ha hs ho => intro k h; show (if k = j then _ else _) = _; rw [if_neg (fun e => by subst e; rw [hs] at h; cases h)]; rfl
  | @aug i j o s s' hj ha hs ho hr ih =>
    intro k h
    show (if k = j then _ else _) = _
    rw [if_neg (fun e => by subst e; rw [hs] at h; cases h)]
    exact ih k (by show (_ || _) = true; rw [h]; rfl)
  | @fail i j o s s1 s' b _ _ _ _ h1 _ ih1 ih2 =>
    intro k h
    have h' : (s.see j).seen k = true := by show (_ || _) = true; rw [h]; rfl
    rw [ih2 k (h1.mono k h'), ih1 k h']; rfl
theorem Srch.same {i j : Nat} {s s' : Ks} {b : Bool} (H : Srch adj m i j s b s') : b = false → s'.own = s.own ∧ s'.back = s.back := by
  induction H with
  | done _ => exact fun _ => ⟨rfl, rfl⟩
  | skip _ _ _ ih => exact ih
  | free => intro h; cases h
  | aug => intro h; cases h
  | fail _ _ _ _ _ _ ih1 ih2 => intro h; obtain ⟨a, b⟩ := ih2 h; obtain ⟨c, d⟩ := ih1 rfl; exact ⟨a.trans c, b.trans d⟩
theorem Srch.shut {i j : Nat} {s s' : Ks} {b : Bool} (H : Srch adj m i j s b s') : b = false → (∀ k, j ≤ k → k < m → adj i k → s'.seen k = true) ∧
    ∀ k, s'.seen k = true → s.seen k = false → k < m ∧ ∃ o : Nat, s.own k = (o : Int) ∧ ∀ q, q < m → adj o q → s'.seen q = true := by
  induction H with
  | done h => intro _; exact ⟨fun k h1 h2 => by omega, fun k h1 h2 => by rw [h1] at h2; cases h2⟩
  | @skip i j s s' b hj ha hr ih =>
    intro hb
    obtain ⟨h1, h2⟩ := ih hb
    refine ⟨fun k hk hm hadj => ?_, h2⟩
    by_cases e : k = j
    · subst e; exact hr.mono k (ha hadj)
    · exact h1 k (by omega) hm hadj
  | free => intro h; cases h
  | aug => intro h; cases h
  | @fail i j o s s1 s' b hj ha hs ho hr1 hr2 ih1 ih2 =>
    intro hb
    obtain ⟨a1, a2⟩ := ih1 rfl
    obtain ⟨b1, b2⟩ := ih2 hb
    have hsee : (s.see j).seen j = true := by show (_ || _) = true; simp
    have hown := (hr1.same rfl).1
    refine ⟨fun k hk hm hadj => ?_, fun k h1 h2 => ?_⟩
    · by_cases e : k = j
      · subst e; exact hr2.mono k (hr1.mono k hsee)
      · exact b1 k (by omega) hm hadj
    · by_cases e1 : s1.seen k = true
      · by_cases e : k = j
        · subst e
          exact ⟨hj, o, ho, fun q hq hadj => hr2.mono q (a1 q (Nat.zero_le _) hq hadj)⟩
        · obtain ⟨c0, o', c1, c2⟩ := a2 k e1 (by show (_ || _) = false; rw [h2]; simp [e])
          exact ⟨c0, o', c1, fun q hq hadj => hr2.mono q (c2 q hq hadj)⟩
      · obtain ⟨c0, o', c1, c2⟩ := b2 k h1 (by simpa using e1)
        rw [hown] at c1
        exact ⟨c0, o', c1, c2⟩
structure Mat (adj : Nat → Nat → Prop) (m : Nat) (s : Ks) : Prop where
  back : ∀ x : Nat, 0 ≤ s.back x → ∃ k : Nat, s.back x = (k : Int) ∧ k < m ∧ s.own k = (x : Int) ∧ adj x k
  own : ∀ k : Nat, k < m → 0 ≤ s.own k → ∃ x : Nat, s.own k = (x : Int) ∧ s.back x = (k : Int)
structure Done (adj : Nat → Nat → Prop) (m : Nat) (i : Nat) (s s' : Ks) : Prop where
  back : ∀ x : Nat, 0 ≤ s'.back x → ∃ k : Nat, s'.back x = (k : Int) ∧ k < m ∧ s'.own k = (x : Int) ∧ adj x k
  own : ∀ k : Nat, k < m → 0 ≤ s'.own k → ∃ x : Nat, s'.own k = (x : Int) ∧ (s'.back x = (k : Int) ∨ (x = i ∧ s.back i = (k : Int)))
  new : ∃ k : Nat, s'.back i = (k : Int) ∧ s.seen k = false
  rest : ∀ x : Nat, x ≠ i → (0 ≤ s'.back x ↔ 0 ≤ s.back x) ∧ (s'.back x = s.back x ∨ ∃ k : Nat, s.back x = (k : Int) ∧ s.seen k = false)
theorem Srch.win {i j : Nat} {s s' : Ks} {b : Bool} (H : Srch adj m i j s b s') : b = true → Mat adj m s → (∀ k : Nat, s.back i = (k : Int) → s.seen k = true) → Done adj m i s s' := by
  induction H with
  | done _ => intro h; cases h
  | skip _ _ _ ih => exact ih
  | @free i j s hj ha hs ho =>
    intro _ M hi
    refine ⟨fun x hx => ?_, fun k hk hx => ?_, ⟨j, by show (if i = i then _ else _) = _; rw [if_pos rfl], hs⟩, fun x hx => ?_⟩
    · by_cases e : x = i
      · subst e
        refine ⟨j, by show (if x = x then _ else _) = _; rw [if_pos rfl], hj, by show (if j = j then _ else _) = _; rw [if_pos rfl], ha⟩
      · have eb : ((s.see j).give j i).back x = s.back x := by show (if x = i then _ else _) = _; rw [if_neg e]; rfl
        rw [eb] at hx ⊢
        obtain ⟨k, h1, h2, h3, h4⟩ := M.back x hx
        refine ⟨k, h1, h2, ?_, h4⟩
        show (if k = j then _ else _) = _
        rw [if_neg (fun e => by subst e; omega)]; exact h3
    · by_cases e : k = j
      · subst e
        exact ⟨i, by show (if k = k then _ else _) = _; rw [if_pos rfl], .inl (by show (if i = i then _ else _) = _; rw [if_pos rfl])⟩
      · have eo : ((s.see j).give j i).own k = s.own k := by show (if k = j then _ else _) = _; rw [if_neg e]; rfl
        rw [eo] at hx ⊢
        obtain ⟨x, h1, h2⟩ := M.own k hk hx
        refine ⟨x, h1, ?_⟩
        by_cases e2 : x = i
        · subst e2; exact .inr ⟨rfl, h2⟩
        · left; show (if x = i then _ else _) = _; rw [if_neg e2]; exact h2
    · have eb : ((s.see j).give j i).back x = s.back x := by show (if x = i then _ else _) = _; rw [if_neg hx]; rfl
      rw [eb]
      exact ⟨Iff.rfl, .inl rfl⟩
  | @aug i j o s s' hj ha hs ho hr ih =>
    intro _ M hi
    have hbo : s.back o = (j : Int) := by
      obtain ⟨x, h1, h2⟩ := M.own j hj (by omega)
      have : x = o := by omega
      subst this; exact h2
    have hio : i ≠ o := fun e => by subst e; have := hi j hbo; rw [hs] at this; cases this
    have M2 : Mat adj m (s.see j) := ⟨M.back, M.own⟩
    have D := ih rfl M2 (fun k hk => by
      have : k = j := by have : (s.see j).back o = s.back o := rfl; omega
      subst this; show (_ || _) = true; simp)
    have hownj : s'.own j = (o : Int) := by rw [hr.own_seen j (by show (_ || _) = true; simp)]; exact ho
    obtain ⟨j', hj', hns⟩ := D.new
    have hjj : j' ≠ j := fun e => by subst e; have : (s.see j').seen j' = true := by show (_ || _) = true; simp
                                     rw [this] at hns; cases hns
    have hbi : s'.back i = s.back i := by
      rcases (D.rest i hio).2 with h | ⟨k, h1, h2⟩
      · exact h
      · have h3 := hi k h1
        have : (s.see j).seen k = true := by show (_ || _) = true; rw [h3]; rfl
        rw [this] at h2; cases h2
    refine ⟨fun x hx => ?_, fun k hk hx => ?_, ⟨j, by show (if i = i then _ else _) = _; rw [if_pos rfl], hs⟩, fun x hx => ?_⟩
    · by_cases e : x = i
      · subst e
        exact ⟨j, by show (if x = x then _ else _) = _; rw [if_pos rfl], hj, by show (if j = j then _ else _) = _; rw [if_pos rfl], ha⟩
      · have eb : (s'.give j i).back x = s'.back x := by show (if x = i then _ else _) = _; rw [if_neg e]
        rw [eb] at hx ⊢
        obtain ⟨k, h1, h2, h3, h4⟩ := D.back x hx
        refine ⟨k, h1, h2, ?_, h4⟩
        show (if k = j then _ else _) = _
        rw [if_neg (fun e => by
          subst e
          have : x = o := by omega
          subst this; omega)]
        exact h3
    · by_cases e : k = j
      · subst e
        exact ⟨i, by show (if k = k then _ else _) = _; rw [if_pos rfl], .inl (by show (if i = i then _ else _) = _; rw [if_pos rfl])⟩
      · have eo : (s'.give j i).own k = s'.own k := by show (if k = j then _ else _) = _; rw [if_neg e]
        rw [eo] at hx ⊢
        obtain ⟨x, h1, h2⟩ := D.own k hk hx
        refine ⟨x, h1, ?_⟩
        rcases h2 with h2 | ⟨h2, h3⟩
        · by_cases e2 : x = i
          · subst e2; exact .inr ⟨rfl, by rw [← hbi]; exact h2⟩
          · left; show (if x = i then _ else _) = _; rw [if_neg e2]; exact h2
        · exfalso
          have : (s.see j).back o = s.back o := rfl
          omega
    · have eb : (s'.give j i).back x = s'.back x := by show (if x = i then _ else _) = _; rw [if_neg hx]
      rw [eb]
      by_cases e : x = o
      · subst e
        exact ⟨⟨fun _ => by omega, fun _ => by omega⟩, .inr ⟨j, hbo, hs⟩⟩
      · obtain ⟨h1, h2⟩ := D.rest x e
        refine ⟨h1, ?_⟩
        rcases h2 with h2 | ⟨k, h2, h3⟩
        · exact .inl h2
        · exact .inr ⟨k, h2, by have : (s.seen k || decide (k = j)) = false := h3; simp at this; exact this.1⟩
  | @fail i j o s s1 s' b hj ha hs ho hr1 hr2 ih1 ih2 =>
    intro hb M hi
    obtain ⟨e1, e2⟩ := hr1.same rfl
    have e1 : s1.own = s.own := e1
    have e2 : s1.back = s.back := e2
    have hm : ∀ k, s.seen k = true → s1.seen k = true := fun k h => hr1.mono k (by show (_ || _) = true; rw [h]; rfl)
    have D := ih2 hb ⟨by rw [e1, e2]; exact M.back, by rw [e1, e2]; exact M.own⟩ (fun k hk => hm k (hi k (by rw [← e2]; exact hk)))
    have hf : ∀ k, s1.seen k = false → s.seen k = false := fun k h => by
      cases h' : s.seen k with
      | false => rfl
      | true => rw [hm k h'] at h; cases h
    refine ⟨D.back, by have := D.own; rwa [e2] at this, ?_, fun x hx => ?_⟩
    · obtain ⟨k, h1, h2⟩ := D.new; exact ⟨k, h1, hf k h2⟩
    · obtain ⟨h1, h2⟩ := D.rest x hx
      rw [e2] at h1 h2
      refine ⟨h1, ?_⟩
      rcases h2 with h2 | ⟨k, h2, h3⟩
      · exact .inl h2
      · exact .inr ⟨k, h2, hf k h3⟩
def Dead (adj : Nat → Nat → Prop) (m : Nat) (own : Nat → Int) (D : Nat → Prop) : Prop := ∀ k, k < m → D k → ∃ o : Nat, own k = (o : Int) ∧ ∀ q, q < m → adj o q → D q
theorem Srch.lost {i j : Nat} {s s' : Ks} {b : Bool} (H : Srch adj m i j s b s') {D : Nat → Prop} : Dead adj m s.own D → (∀ q, q < m → adj i q → D q) → b = false := by
  induction H with
  | done _ => intro _ _; rfl
  | skip _ _ _ ih => exact ih
  | @free i j s hj ha hs ho => intro hD hi; obtain ⟨o, h, _⟩ := hD j hj (hi j hj ha); omega
  | @aug i j o s s' hj ha hs ho hr ih =>
    intro hD hi
    obtain ⟨o', h, h2⟩ := hD j hj (hi j hj ha)
    have : o' = o := by omega
    subst this
    exact ih hD h2
  | @fail i j o s s1 s' b hj ha hs ho hr1 hr2 ih1 ih2 =>
    intro hD hi
    have e1 : s1.own = s.own := (hr1.same rfl).1
    exact ih2 (by rw [e1]; exact hD) hi
theorem Srch.kept {i j : Nat} {s s' : Ks} {b : Bool} (H : Srch adj m i j s b s') {D : Nat → Prop} : Dead adj m s.own D → ∀ k, k < m → D k → s'.own k = s.own k := by
  induction H with
  | done _ => intro _ k _ _; rfl
  | skip _ _ _ ih => exact ih
  | @free i j s hj ha hs ho =>
    intro hD k hk hd
    obtain ⟨o, h, _⟩ := hD k hk hd
    show (if k = j then _ else _) = _
    rw [if_neg (fun e => by subst e; omega)]; rfl
  | @aug i j o s s' hj ha hs ho hr ih =>
    intro hD k hk hd
    show (if k = j then _ else _) = _
    rw [if_neg (fun e => by
      subst e
      obtain ⟨o', h, h2⟩ := hD k hk hd
      have : o' = o := by omega
      subst this
      have := hr.lost hD h2
      cases this)]
    exact ih hD k hk hd
  | @fail i j o s s1 s' b hj ha hs ho hr1 hr2 ih1 ih2 =>
    intro hD k hk hd
    have e1 : s1.own = s.own := (hr1.same rfl).1
    rw [ih2 (by rw [e1]; exact hD) k hk hd, e1]
structure Kuhn (adj : Nat → Nat → Prop) (m : Nat) (n : Nat) (s : Ks) (D : Nat → Prop) : Prop where
  mat : Mat adj m s
  dead : Dead adj m s.own D
  lost : ∀ x : Nat, x < n → s.back x < 0 → ∀ q, q < m → adj x q → D q
  rest : ∀ x : Nat, n ≤ x → s.back x < 0
  lt : ∀ k, D k → k < m
theorem Kuhn.start {s : Ks} (h1 : ∀ k, s.own k < 0) (h2 : ∀ x, s.back x < 0) : Kuhn adj m 0 s (fun _ => False) :=
  ⟨⟨fun x hx => by have := h2 x; omega, fun k _ hx => by have := h1 k; omega⟩, fun k _ h => h.elim, fun x hx => by omega, fun x _ => h2 x, fun k h => h.elim⟩
theorem Kuhn.step {n : Nat} {s s' : Ks} {D : Nat → Prop} {b : Bool} (K : Kuhn adj m n s D) (hs : ∀ k, s.seen k = false) (H : Srch adj m n 0 s b s') : ∃ D', Kuhn adj m (n + 1) s' D' ∧ (b = true ↔ 0 ≤ s'.back n) ∧ ∀ x : Nat, x ≠ n → (0 ≤ s'.back x ↔ 0 ≤ s.back x) := by
  have hn := K.rest n (Nat.le_refl _)
  cases hb : b with
  | false =>
    obtain ⟨e1, e2⟩ := H.same hb
    obtain ⟨a1, a2⟩ := H.shut hb
    refine ⟨fun k => D k ∨ s'.seen k = true, ⟨⟨by rw [e1, e2]; exact K.mat.back, by rw [e1, e2]; exact K.mat.own⟩, fun k hk hd => ?_, fun x hx hbx q hq hadj => ?_, fun x hx => ?_, fun k hd => ?_⟩, ?_, fun x _ => by rw [e2]⟩
    · rw [e1]
      rcases hd with hd | hd
      · obtain ⟨o, h1, h2⟩ := K.dead k hk hd; exact ⟨o, h1, fun q hq ha => .inl (h2 q hq ha)⟩
      · obtain ⟨_, o, h1, h2⟩ := a2 k hd (hs k); exact ⟨o, h1, fun q hq ha => .inr (h2 q hq ha)⟩
    · by_cases e : x = n
      · subst e; exact .inr (a1 q (Nat.zero_le _) hq hadj)
      · rw [e2] at hbx; exact .inl (K.lost x (by omega) hbx q hq hadj)
    · rw [e2]; exact K.rest x (by omega)
    · rcases hd with hd | hd
      · exact K.lt k hd
      · exact (a2 k hd (hs k)).1
    · rw [e2]; constructor
      · intro h; cases h
      · intro h; omega
  | true =>
    have W := H.win hb K.mat (fun k hk => by omega)
    have hk := H.kept K.dead
    obtain ⟨k0, h0, _⟩ := W.new
    refine ⟨D, ⟨⟨W.back, fun k hkm hx => ?_⟩, fun k hkm hd => ?_, fun x hx hbx => ?_, fun x hx => ?_, K.lt⟩, ⟨fun _ => by omega, fun _ => rfl⟩, fun x hx => (W.rest x hx).1⟩
    · obtain ⟨x, h1, h2⟩ := W.own k hkm hx
      rcases h2 with h2 | ⟨rfl, h2⟩
      · exact ⟨x, h1, h2⟩
      · omega
    · rw [hk k hkm hd]; exact K.dead k hkm hd
    · have hxn : x ≠ n := fun e => by subst e; omega
      have := (W.rest x hxn).1
      exact K.lost x (by omega) (by omega)
    · have := (W.rest x (by omega)).1
      have := K.rest x (by omega)
      omega
end Go.Sp
end
/- Chains and cuts: as many in the greatest cut as are nobody's. No program in sight. -/
section
set_option linter.all false
namespace Go.Sp
theorem nodup_filter {T : Type} (p : T → Bool) {l : List T} (h : l.Nodup) : (l.filter p).Nodup := List.Pairwise.filter p h
structure IsCut (adj : Nat → Nat → Prop) (n : Nat) (S : List Nat) : Prop where
  nd : S.Nodup
  lt : ∀ x ∈ S, x < n
  apart : ∀ x ∈ S, ∀ y ∈ S, ¬ adj x y
def Most (adj : Nat → Nat → Prop) (n u : Nat) : Prop := (∃ S, IsCut adj n S ∧ S.length = u) ∧ ∀ S, IsCut adj n S → S.length ≤ u
theorem Most.unique {adj : Nat → Nat → Prop} {n u v : Nat} (h : Most adj n u) (h' : Most adj n v) : u = v := by
  obtain ⟨⟨S, h1, rfl⟩, h2⟩ := h
  obtain ⟨⟨S', h3, rfl⟩, h4⟩ := h'
  exact Nat.le_antisymm (h4 S h1) (h2 S' h3)
structure Ord (adj : Nat → Nat → Prop) (n : Nat) (rank : Nat → Int) : Prop where
  lt : ∀ x y, adj x y → x < n ∧ y < n
  up : ∀ x y, adj x y → rank x < rank y
  trans : ∀ x y z, adj x y → adj y z → adj x z
inductive Ch (back : Nat → Int) : Nat → Nat → Prop
  | refl (x : Nat) : Ch back x x
  | step {x y z : Nat} : back x = (y : Int) → Ch back y z → Ch back x z
theorem Ch.snoc {back : Nat → Int} {x y z : Nat} (h : Ch back x y) : back y = (z : Int) → Ch back x z := by
  induction h with
  | refl x => exact fun h => .step h (.refl _)
  | step h1 _ ih => exact fun h => .step h1 (ih h)
theorem Ch.last {back : Nat → Int} {x z : Nat} (h : Ch back x z) : x = z ∨ ∃ w, Ch back x w ∧ back w = (z : Int) := by
  induction h with
  | refl x => exact .inl rfl
  | @step x y z h1 _ ih =>
    right
    rcases ih with rfl | ⟨w, h2, h3⟩
    · exact ⟨x, .refl _, h1⟩
    · exact ⟨w, .step h1 h2, h3⟩
section
variable {adj : Nat → Nat → Prop} {n : Nat} {rank : Nat → Int} {s : Ks}
theorem Mat.edge {m : Nat} (M : Mat adj m s) {x y : Nat} (h : s.back x = (y : Int)) : y < m ∧ s.own y = (x : Int) ∧ adj x y := by
  obtain ⟨k, h1, h2, h3, h4⟩ := M.back x (by omega)
  have : k = y := by omega
  subst this; exact ⟨h2, h3, h4⟩
theorem Ch.edge (M : Mat adj n s) (O : Ord adj n rank) {x y : Nat} (h : Ch s.back x y) : x = y ∨ adj x y := by
  induction h with
  | refl x => exact .inl rfl
  | step h1 _ ih =>
    right
    have h3 := (M.edge h1).2.2
    rcases ih with rfl | h4
    · exact h3
    · exact O.trans _ _ _ h3 h4
theorem Ch.both (M : Mat adj n s) {x y t : Nat} (h : Ch s.back x t) : Ch s.back y t → Ch s.back x y ∨ Ch s.back y x := by
  induction h with
  | refl x => exact fun h => .inr h
  | @step x z t h1 _ ih =>
    intro h
    rcases ih h with h2 | h2
    · exact .inl (.step h1 h2)
    · rcases h2.last with rfl | ⟨w, h3, h4⟩
      · exact .inl (.step h1 (.refl _))
      · have e1 := (M.edge h1).2.1
        have e2 := (M.edge h4).2.1
        have : w = x := by omega
        subst this; exact .inr h3
theorem tail_ex (M : Mat adj n s) (O : Ord adj n rank) : ∀ (b : Nat) (x : Nat), x < n → (∀ y, y < n → rank y ≤ rank x + b) → ∃ t, t < n ∧ s.back t < 0 ∧ Ch s.back x t
  | 0, x, hx, hb => by
    by_cases h : s.back x < 0
    · exact ⟨x, hx, h, .refl _⟩
    · obtain ⟨y, hy⟩ := Int.eq_ofNat_of_zero_le (show 0 ≤ s.back x by omega)
      obtain ⟨h1, _, h2⟩ := M.edge hy
      have := O.up _ _ h2
      have := hb y h1
      omega
  | b + 1, x, hx, hb => by
    by_cases h : s.back x < 0
    · exact ⟨x, hx, h, .refl _⟩
    · obtain ⟨y, hy⟩ := Int.eq_ofNat_of_zero_le (show 0 ≤ s.back x by omega)
      obtain ⟨h1, _, h2⟩ := M.edge hy
      have h3 := O.up _ _ h2
      obtain ⟨t, a, b', c⟩ := tail_ex M O b y h1 (fun z hz => by have := hb z hz; omega)
      exact ⟨t, a, b', .step hy c⟩
theorem rank_bound (rank : Nat → Int) (x : Nat) : ∀ n, ∃ b : Nat, ∀ y, y < n → rank y ≤ rank x + b
  | 0 => ⟨0, fun y h => by omega⟩
  | n + 1 => by
    obtain ⟨b, hb⟩ := rank_bound rank x n
    refine ⟨b + (rank n - rank x).toNat, fun y hy => ?_⟩
    by_cases e : y = n
    · subst e; omega
    · have := hb y (by omega); omega
def loose (n : Nat) (back : Nat → Int) : List Nat := (List.range n).filter (fun x => decide (back x < 0))
theorem mem_loose {n : Nat} {back : Nat → Int} {x : Nat} : x ∈ loose n back ↔ x < n ∧ back x < 0 := by
  unfold loose; rw [List.mem_filter, List.mem_range, decide_eq_true_eq]
theorem nodup_loose (n : Nat) (back : Nat → Int) : (loose n back).Nodup := nodup_filter _ List.nodup_range
theorem cut_le (M : Mat adj n s) (O : Ord adj n rank) {S : List Nat} (h : IsCut adj n S) : S.length ≤ (loose n s.back).length := by
  have ex : ∀ x, ∃ t, x < n → t < n ∧ s.back t < 0 ∧ Ch s.back x t := fun x => by
    by_cases hx : x < n
    · obtain ⟨b, hb⟩ := rank_bound rank x n
      obtain ⟨t, ht⟩ := tail_ex M O b x hx hb
      exact ⟨t, fun _ => ht⟩
    · exact ⟨0, fun h => absurd h hx⟩
  obtain ⟨f, hf⟩ := Classical.axiomOfChoice ex
  refine length_le_inj f h.nd (fun x hx => ?_) (fun x hx y hy e => ?_)
  · obtain ⟨a, b, _⟩ := hf x (h.lt x hx); exact mem_loose.2 ⟨a, b⟩
  · have hx' := (hf x (h.lt x hx)).2.2
    have hy' := (hf y (h.lt y hy)).2.2
    rw [e] at hx'
    rcases Ch.both M hx' hy' with h1 | h1
    · rcases h1.edge M O with h2 | h2
      · exact h2
      · exact absurd h2 (h.apart x hx y hy)
    · rcases h1.edge M O with h2 | h2
      · exact h2.symm
      · exact absurd h2 (h.apart y hy x hx)
theorem filter_split {T : Type} (p : T → Bool) : ∀ l : List T, l.length = (l.filter p).length + (l.filter (fun x => !p x)).length
  | [] => rfl
  | x :: l => by
    have := filter_split p l
    rw [List.filter_cons, List.filter_cons]
    cases p x <;> simp <;> omega
theorem cut_ex {D : Nat → Prop} (K : Kuhn adj n n s D) (ho : ∀ k, k < n → s.own k < n) : ∃ S, IsCut adj n S ∧ (loose n s.back).length ≤ S.length := by
  classical
  let A : Nat → Prop := fun x => s.back x < 0 ∨ ∃ k, k < n ∧ D k ∧ s.own k = (x : Int)
  let Al := (List.range n).filter (fun x => decide (A x))
  let Dl := (List.range n).filter (fun x => decide (D x))
  have hA : ∀ x, x < n → A x → ∀ q, q < n → adj x q → D q := by
    intro x hx ha q hq hadj
    rcases ha with h | ⟨k, h1, h2, h3⟩
    · exact K.lost x hx h q hq hadj
    · obtain ⟨o, h4, h5⟩ := K.dead k h1 h2
      have : o = x := by omega
      subst this; exact h5 q hq hadj
  refine ⟨Al.filter (fun x => !decide (D x)), ⟨nodup_filter _ (nodup_filter _ List.nodup_range), fun x hx => ?_, fun x hx y hy hadj => ?_⟩, ?_⟩
  · simp only [Al, List.mem_filter, List.mem_range] at hx; exact hx.1.1
  · simp only [Al, List.mem_filter, List.mem_range, decide_eq_true_eq, Bool.not_eq_true', decide_eq_false_iff_not] at hx hy
    exact hy.2 (hA x hx.1.1 hx.1.2 y hy.1.1 hadj)
  · have h1 := filter_split (fun x => decide (D x)) Al
    have h2 : (Al.filter (fun x => decide (D x))).length ≤ Dl.length := nodup_le (r := Dl) (nodup_filter _ (nodup_filter _ List.nodup_range)) (fun x hx => by
      simp only [Al, List.mem_filter, List.mem_range, decide_eq_true_eq] at hx
      simp only [Dl, List.mem_filter, List.mem_range, decide_eq_true_eq]; exact ⟨hx.1.1, hx.2⟩)
    have h3 : (loose n s.back ++ Dl.map (fun k => (s.own k).toNat)).length ≤ Al.length := by
      refine nodup_le (r := Al) (List.nodup_append.2 ⟨nodup_loose _ _, nodup_inj (nodup_filter _ List.nodup_range) (fun x hx y hy e => ?_), fun x hx y hy e => ?_⟩) (fun x hx => ?_)
      · simp only [Dl, List.mem_filter, List.mem_range, decide_eq_true_eq] at hx hy
        obtain ⟨o, h4, _⟩ := K.dead x hx.1 hx.2
        obtain ⟨o', h5, _⟩ := K.dead y hy.1 hy.2
        obtain ⟨a, a1, a2⟩ := K.mat.own x hx.1 (by omega)
        obtain ⟨b, b1, b2⟩ := K.mat.own y hy.1 (by omega)
        have : a = b := by omega
        subst this; omega
      · have hx := mem_loose.1 hx
        obtain ⟨k, hk, rfl⟩ := List.mem_map.1 hy
        simp only [Dl, List.mem_filter, List.mem_range, decide_eq_true_eq] at hk
        obtain ⟨o, h4, _⟩ := K.dead k hk.1 hk.2
        obtain ⟨a, a1, a2⟩ := K.mat.own k hk.1 (by omega)
        have : x = a := by omega
        subst this; omega
      · rcases List.mem_append.1 hx with hx | hx
        · have hx := mem_loose.1 hx
          simp only [Al, List.mem_filter, List.mem_range, decide_eq_true_eq]; exact ⟨hx.1, .inl hx.2⟩
        · obtain ⟨k, hk, rfl⟩ := List.mem_map.1 hx
          simp only [Dl, List.mem_filter, List.mem_range, decide_eq_true_eq] at hk
          obtain ⟨o, h4, _⟩ := K.dead k hk.1 hk.2
          have := ho k hk.1
          simp only [Al, List.mem_filter, List.mem_range, decide_eq_true_eq]
          exact ⟨by omega, .inr ⟨k, hk.1, hk.2, by omega⟩⟩
    rw [List.length_append, List.length_map] at h3
    omega
theorem kuhn_most {D : Nat → Prop} (K : Kuhn adj n n s D) (O : Ord adj n rank) (ho : ∀ k, k < n → s.own k < n) : Most adj n (loose n s.back).length := by
  obtain ⟨S, h1, h2⟩ := cut_ex K ho
  have := cut_le K.mat O h1
  exact ⟨⟨S, h1, by omega⟩, fun S hS => cut_le K.mat O hS⟩
theorem loose_own (M : Mat adj n s) (hb : ∀ x, n ≤ x → s.back x < 0) (ho : ∀ k, k < n → s.own k < n) : (loose n s.own).length = (loose n s.back).length := by
  have taken : ∀ f : Nat → Int, n = (loose n f).length + ((List.range n).filter (fun x => !decide (f x < 0))).length := fun f => by
    have := filter_split (fun x => decide (f x < 0)) (List.range n)
    rwa [List.length_range] at this
  have t1 := taken s.own
  have t2 := taken s.back
  have le1 : ((List.range n).filter (fun x => !decide (s.own x < 0))).length ≤ ((List.range n).filter (fun x => !decide (s.back x < 0))).length := by
    refine length_le_inj (fun k => (s.own k).toNat) (nodup_filter _ List.nodup_range) (fun k hk => ?_) (fun k hk q hq e => ?_)
    · simp only [List.mem_filter, List.mem_range, Bool.not_eq_true', decide_eq_false_iff_not] at hk ⊢
      obtain ⟨x, h1, h2⟩ := M.own k hk.1 (by omega)
      have := ho k hk.1
      have e : (s.own k).toNat = x := by omega
      rw [e]; omega
    · simp only [List.mem_filter, List.mem_range, Bool.not_eq_true', decide_eq_false_iff_not] at hk hq
      obtain ⟨x, h1, h2⟩ := M.own k hk.1 (by omega)
      obtain ⟨y, h3, h4⟩ := M.own q hq.1 (by omega)
      have : x = y := by omega
      subst this; omega
  have le2 : ((List.range n).filter (fun x => !decide (s.back x < 0))).length ≤ ((List.range n).filter (fun x => !decide (s.own x < 0))).length := by
    refine length_le_inj (fun k => (s.back k).toNat) (nodup_filter _ List.nodup_range) (fun k hk => ?_) (fun k hk q hq e => ?_)
    · simp only [List.mem_filter, List.mem_range, Bool.not_eq_true', decide_eq_false_iff_not] at hk ⊢
      obtain ⟨x, h1, h2, h3, _⟩ := M.back k (by omega)
      have e : (s.back k).toNat = x := by omega
      rw [e]; omega
    · simp only [List.mem_filter, List.mem_range, Bool.not_eq_true', decide_eq_false_iff_not] at hk hq
      obtain ⟨x, h1, h2, h3, _⟩ := M.back k (by omega)
      obtain ⟨y, h4, h5, h6, _⟩ := M.back q (by omega)
      have : x = y := by omega
      subst this; omega
  omega
end
end Go.Sp
end
/- Plain laws, crew: what a valid crew is. No program in sight. -/
section
set_option linter.all false
namespace Go.Sp
open Go.Av
set_option maxRecDepth 100000
def tv (t : List (List Range)) (a b : Nat) : Range := (t.getD a default).getD b default
structure TravelOk (t : List (List Range)) : Prop where
  len : t.length ≤ 12
  row : ∀ a, a < t.length → (t.getD a default).length = t.length
  diag : ∀ a, a < t.length → (tv t a a).Lo = 0 ∧ (tv t a a).Hi = 0
  rng : ∀ a b, a < t.length → b < t.length → 0 ≤ (tv t a b).Lo ∧ (tv t a b).Lo ≤ (tv t a b).Hi ∧ (tv t a b).Hi ≤ 600
  tri : ∀ a b c, a < t.length → b < t.length → c < t.length → (tv t a c).Lo ≤ (tv t a b).Lo + (tv t b c).Lo ∧ (tv t a c).Hi ≤ (tv t a b).Hi + (tv t b c).Hi
def TaskOk (t : Task) : Prop := 1 ≤ t.Lamp ∧ t.Lamp ≤ 999 ∧ 0 ≤ t.Place ∧ t.Place ≤ 11 ∧ 0 ≤ t.At ∧ t.At ≤ 1439 ∧ 1 ≤ t.Serve ∧ t.Serve ≤ 120
def HandOk (h : Hand) : Prop := 1 ≤ h.Id ∧ h.Id ≤ 99 ∧ 0 ≤ h.From ∧ h.From ≤ h.To ∧ h.To ≤ 1439
def tk (c : Crew) (i : Nat) : Task := c.Tasks.getD i default
def hd (c : Crew) (i : Nat) : Hand := c.Hands.getD i default
structure Valid (c : Crew) : Prop where
  tasks : c.Tasks.length ≤ 24
  hands : c.Hands.length ≤ 16
  travel : TravelOk c.Travel
  task : ∀ i, i < c.Tasks.length → TaskOk (tk c i) ∧ (tk c i).Place < c.Travel.length ∧ (0 < i → (tk c (i - 1)).Lamp < (tk c i).Lamp)
  hand : ∀ i, i < c.Hands.length → HandOk (hd c i) ∧ (0 < i → (hd c (i - 1)).Id < (hd c i).Id)
theorem in_iff {a b c : Int} : crew_in a b c = true ↔ b ≤ a ∧ a ≤ c := by simp [crew_in]
theorem within_iff {a b c : Int} : gasolierref01_Within a b c = true ↔ b ≤ a ∧ a ≤ c := by simp [gasolierref01_Within]
theorem checkTask_iff {t : Task} : crew_CheckTask t = 0 ↔ TaskOk t := by
  unfold crew_CheckTask TaskOk crew_isMinute
  by_cases h1 : crew_in t.Lamp 1 999 = true <;> by_cases h2 : crew_in t.Place 0 11 = true <;> by_cases h3 : crew_in t.At 0 1439 = true <;> by_cases h4 : crew_in t.Serve 1 120 = true <;>
    simp [h1, h2, h3, h4] <;> simp only [in_iff] at h1 h2 h3 h4 <;> omega
theorem refTask_eq (t : Task) : gasolierref04_CheckTask t = crew_CheckTask t := by
  unfold gasolierref04_CheckTask crew_CheckTask crew_isMinute gasolierref01_Within crew_in; rfl
theorem checkHand_iff {t : Hand} : crew_CheckHand t = 0 ↔ HandOk t := by
  unfold crew_CheckHand HandOk crew_isMinute
  by_cases h1 : crew_in t.Id 1 99 = true <;> by_cases h2 : crew_in t.From 0 1439 = true <;> by_cases h3 : crew_in t.To t.From 1439 = true <;>
    simp [h1, h2, h3] <;> simp only [in_iff] at h1 h2 h3 <;> omega
theorem refHand_eq (t : Hand) : gasolierref04_CheckHand t = crew_CheckHand t := by
  unfold gasolierref04_CheckHand crew_CheckHand crew_isMinute gasolierref01_Within crew_in gasolierref01_IsRange
  by_cases h1 : 1 ≤ t.Id <;> by_cases h2 : t.Id ≤ 99 <;> by_cases h3 : 0 ≤ t.From <;> by_cases h4 : t.From ≤ t.To <;> by_cases h5 : t.To ≤ 1439 <;> by_cases h6 : t.From ≤ 1439 <;> simp [h1, h2, h3, h4, h5, h6] <;> omega
theorem range_zero {r : Range} : ((decide (r.Lo = 0)) && (decide (r.Hi = 0))) = true ↔ r.Lo = 0 ∧ r.Hi = 0 := by simp
theorem isTravel_wp (t : List (List Range)) : Wp (crew_isTravel t) (fun r => r = true ↔ TravelOk t) := by
  unfold crew_isTravel
  refine wp_ifd (fun h => wp_some ⟨fun h => (by cases h), fun T => by have := T.len; omega⟩) (fun h => ?_)
  refine wp_forall (fun a => (t.getD a default).length = t.length ∧ ((tv t a a).Lo = 0 ∧ (tv t a a).Hi = 0) ∧ ∀ b, b < t.length → 0 ≤ (tv t a b).Lo ∧ (tv t a b).Lo ≤ (tv t a b).Hi ∧ (tv t a b).Hi ≤ 600) (fun a K ha _ hK => ?_) (fun h1 => ?_)
  · refine wp_must (fun hl => by simp [-List.getD_eq_getElem?_getD] at hl; omega) ?_
    refine wp_bif (fun hb => ?_) (fun hb => ?_)
    · refine wp_some ⟨fun h => (by cases h), fun T => ?_⟩
      have h1 := T.row a ha
      have h2 := T.diag a ha
      unfold tv at h2
      simp [h2, -List.getD_eq_getElem?_getD] at hb
      omega
    · have hb' : (t.getD a default).length = t.length ∧ ((tv t a a).Lo = 0 ∧ (tv t a a).Hi = 0) := by
        simp only [Bool.or_eq_false_iff, Bool.not_eq_false'] at hb
        exact ⟨by have := hb.1; simp [-List.getD_eq_getElem?_getD] at this; omega, range_zero.1 hb.2⟩
      refine wp_forall (fun b => 0 ≤ (tv t a b).Lo ∧ (tv t a b).Lo ≤ (tv t a b).Hi ∧ (tv t a b).Hi ≤ 600) (fun b K' hb2 _ hK' => ?_) (fun h2 => ?_)
      · refine wp_bif (fun hc => ?_) (fun hc => ?_)
        · refine wp_some ⟨fun h => (by cases h), fun T => ?_⟩
          have := T.rng a b ha (by omega)
          unfold tv at this
          simp only [Bool.or_eq_true, Bool.not_eq_true', decide_eq_true_eq] at hc
          rcases hc with hc | hc
          · have : crew_in (((t.getD a default).getD b default).Lo) 0 (((t.getD a default).getD b default).Hi) = true := in_iff.2 (by omega)
            rw [hc] at this; cases this
          · omega
        · refine hK' ?_
          simp only [Bool.or_eq_false_iff, Bool.not_eq_false', decide_eq_false_iff_not] at hc
          have := in_iff.1 hc.1
          unfold tv; omega
      · exact hK ⟨hb'.1, hb'.2, fun b hb => h2 b (by omega)⟩
  · refine wp_forall (fun a => ∀ b c, b < t.length → c < t.length → (tv t a c).Lo ≤ (tv t a b).Lo + (tv t b c).Lo ∧ (tv t a c).Hi ≤ (tv t a b).Hi + (tv t b c).Hi) (fun a K ha _ hK => ?_) (fun h2 => ?_)
    · refine wp_forall (fun b => ∀ c, c < t.length → (tv t a c).Lo ≤ (tv t a b).Lo + (tv t b c).Lo ∧ (tv t a c).Hi ≤ (tv t a b).Hi + (tv t b c).Hi) (fun b K' hb _ hK' => ?_) (fun h3 => hK (fun b c hb hc => h3 b hb c hc))
      refine wp_forall (fun c => (tv t a c).Lo ≤ (tv t a b).Lo + (tv t b c).Lo ∧ (tv t a c).Hi ≤ (tv t a b).Hi + (tv t b c).Hi) (fun c K'' hc _ hK'' => ?_) (fun h3 => hK' h3)
      have r1 := (h1 a ha).1
      have r2 := (h1 b hb).1
      have q1 := (h1 a ha).2.2 b hb
      have q2 := (h1 b hb).2.2 c hc
      have q3 := (h1 a ha).2.2 c hc
      have e : ∀ a b, ((t.getD a default).getD b default) = tv t a b := fun _ _ => rfl
      simp only [e]
      repeat (first | (refine wp_must ?_ ?_; · omega) | (refine wp_mustI ?_ ?_; · omega) | (refine wp_must ?_ ?_; · (intro _; omega)) | (refine wp_mustW ?_ ?_; · (intro _; omega)))
      refine wp_bif (fun hd => ?_) (fun hd => ?_)
      · refine wp_some ⟨fun h => (by cases h), fun T => ?_⟩
        have := T.tri a b c ha hb hc
        simp only [Bool.or_eq_true, decide_eq_true_eq] at hd
        omega
      · refine hK'' ?_
        simp only [Bool.or_eq_false_iff, decide_eq_false_iff_not] at hd
        omega
    · exact wp_some ⟨fun _ => ⟨by omega, fun a ha => (h1 a ha).1, fun a ha => (h1 a ha).2.1, fun a b ha hb => (h1 a ha).2.2 b hb, fun a b c ha hb hc => h2 a ha b c hb hc⟩, fun _ => rfl⟩
theorem refTravel_eq (t : List (List Range)) : gasolierref04_isTravel t = crew_isTravel t := by
  unfold gasolierref04_isTravel crew_isTravel
  have e : ∀ r : Range, (!(gasolierref01_IsRange r 0 600)) = ((!(crew_in r.Lo 0 r.Hi)) || (decide (600 < r.Hi))) := by
    intro r
    have : gasolierref01_IsRange r 0 600 = !((!(crew_in r.Lo 0 r.Hi)) || (decide (600 < r.Hi))) := by
      unfold gasolierref01_IsRange crew_in
      by_cases h : r.Hi ≤ 600
      · rw [decide_eq_true h, decide_eq_false (by omega : ¬ 600 < r.Hi)]; simp
      · rw [decide_eq_false h, decide_eq_true (by omega : 600 < r.Hi)]; simp
    rw [this, Bool.not_not]
  simp only [e]
theorem check_wp (c : Crew) : Wp (crew_Check c) (fun r => (Valid c ∧ r = 0) ∨ (¬ Valid c ∧ r = 42)) := by
  unfold crew_Check
  refine wp_on (Q := fun r => r = true ↔ TravelOk c.Travel) (fun _ => isTravel_wp c.Travel) (fun y hy => ?_)
  refine wp_bif (fun hb => wp_some (.inr ⟨fun V => ?_, rfl⟩)) (fun hb => ?_)
  · have h1 := V.tasks; have h2 := V.hands
    have e : (decide (24 < ((c.Tasks.length : Nat) : Int)) || decide (16 < ((c.Hands.length : Nat) : Int))) = false := by simp; omega
    rw [e] at hb hy
    have := (hy rfl).2 V.travel
    rw [this] at hb; cases hb
  · simp only [Bool.or_eq_false_iff, Bool.not_eq_false', decide_eq_false_iff_not] at hb
    have T := (hy (by simp [hb.1.1, hb.1.2])).1 hb.2
    refine wp_forall (fun i => TaskOk (tk c i) ∧ (tk c i).Place < c.Travel.length ∧ (0 < i → (tk c (i - 1)).Lamp < (tk c i).Lamp)) (fun i K hi _ hK => ?_) (fun h1 => ?_)
    · refine wp_must (fun _ => by unfold inI; omega) ?_
      refine wp_must (fun h => by simp at h; omega) ?_
      have e : (((i : Int) - 1)).toNat = i - 1 := by omega
      rw [e]
      refine wp_bif (fun hb2 => wp_some (.inr ⟨fun V => ?_, rfl⟩)) (fun hb2 => ?_)
      · obtain ⟨a1, a2, a3⟩ := V.task i hi
        unfold tk at a1 a2 a3
        have a4 := checkTask_iff.2 a1
        simp only [a4, Bool.or_eq_true, Bool.and_eq_true, decide_eq_true_eq, Bool.not_eq_true'] at hb2
        simp [-List.getD_eq_getElem?_getD] at hb2
        omega
      · simp only [Bool.or_eq_false_iff, Bool.and_eq_false_iff, Bool.not_eq_false', decide_eq_true_eq, decide_eq_false_iff_not] at hb2
        refine hK ⟨checkTask_iff.1 hb2.1.1, by unfold tk; omega, fun h0 => ?_⟩
        unfold tk
        rcases hb2.2 with h | h <;> omega
    · refine wp_forall (fun i => HandOk (hd c i) ∧ (0 < i → (hd c (i - 1)).Id < (hd c i).Id)) (fun i K hi _ hK => ?_) (fun h2 => wp_some (.inl ⟨⟨by omega, by omega, T, h1, h2⟩, rfl⟩))
      refine wp_must (fun _ => by unfold inI; omega) ?_
      refine wp_must (fun h => by simp at h; omega) ?_
      have e : (((i : Int) - 1)).toNat = i - 1 := by omega
      rw [e]
      refine wp_bif (fun hb2 => wp_some (.inr ⟨fun V => ?_, rfl⟩)) (fun hb2 => ?_)
      · obtain ⟨a1, a3⟩ := V.hand i hi
        unfold hd at a1 a3
        have a4 := checkHand_iff.2 a1
        simp only [a4, Bool.or_eq_true, Bool.and_eq_true, decide_eq_true_eq, Bool.not_eq_true'] at hb2
        simp [-List.getD_eq_getElem?_getD] at hb2
        omega
      · simp only [Bool.or_eq_false_iff, Bool.and_eq_false_iff, Bool.not_eq_false', decide_eq_true_eq, decide_eq_false_iff_not] at hb2
        refine hK ⟨checkHand_iff.1 hb2.1, fun h0 => ?_⟩
        unfold hd
        rcases hb2.2 with h | h <;> omega
theorem refCheck_eq (c : Crew) : gasolierref04_Check c = crew_Check c := by
  unfold gasolierref04_Check crew_Check
  simp only [refTask_eq, refHand_eq, refTravel_eq]
noncomputable def chk (c : Crew) : Int := @ite _ (Valid c) (Classical.propDecidable _) 0 42
theorem chk_valid {c : Crew} (h : Valid c) : chk c = 0 := if_pos h
theorem chk_not {c : Crew} (h : ¬ Valid c) : chk c = 42 := if_neg h
theorem check_eq (c : Crew) : crew_Check c = some (chk c) := by
  refine Wp.eq ((check_wp c).mono (fun r h => ?_))
  rcases h with ⟨h, rfl⟩ | ⟨h, rfl⟩
  · exact (chk_valid h).symm
  · exact (chk_not h).symm
theorem rcheck_eq (c : Crew) : gasolierref04_Check c = some (chk c) := (refCheck_eq c).trans (check_eq c)
end Go.Sp
end
/- Plain laws, crew: which task follows which; the plan. No program in sight. -/
section
set_option linter.all false
namespace Go.Sp
open Go.Av
set_option maxRecDepth 100000
def EndOf (e : Range → Int) : Prop := e = Range.Lo ∨ e = Range.Hi
def gap (c : Crew) (e : Range → Int) (i j : Nat) : Int := (tk c j).At - (tk c i).At - (tk c i).Serve - e (tv c.Travel (tk c i).Place.toNat (tk c j).Place.toNat)
def fol (c : Crew) (e : Range → Int) (i j : Nat) : Prop := i < c.Tasks.length ∧ j < c.Tasks.length ∧ 0 ≤ gap c e i j
instance (c : Crew) (e : Range → Int) (i j : Nat) : Decidable (fol c e i j) := inferInstanceAs (Decidable (_ ∧ _ ∧ _))
theorem Valid.place {c : Crew} (V : Valid c) {i : Nat} (hi : i < c.Tasks.length) : 0 ≤ (tk c i).Place ∧ (tk c i).Place.toNat < c.Travel.length ∧ ((tk c i).Place.toNat : Int) = (tk c i).Place := by
  obtain ⟨a, b, _⟩ := V.task i hi
  unfold TaskOk at a; omega
theorem Valid.end {c : Crew} (V : Valid c) {e : Range → Int} (he : EndOf e) {i j : Nat} (hi : i < c.Tasks.length) (hj : j < c.Tasks.length) : 0 ≤ e (tv c.Travel (tk c i).Place.toNat (tk c j).Place.toNat) ∧ e (tv c.Travel (tk c i).Place.toNat (tk c j).Place.toNat) ≤ 600 := by
  have := V.travel.rng _ _ (V.place hi).2.1 (V.place hj).2.1
  rcases he with rfl | rfl <;> omega
theorem Valid.at {c : Crew} (V : Valid c) {i : Nat} (hi : i < c.Tasks.length) : 0 ≤ (tk c i).At ∧ (tk c i).At ≤ 1439 ∧ 1 ≤ (tk c i).Serve ∧ (tk c i).Serve ≤ 120 := by
  obtain ⟨a, _, _⟩ := V.task i hi
  unfold TaskOk at a; omega
theorem fol_at {c : Crew} (V : Valid c) {e : Range → Int} (he : EndOf e) {i j : Nat} (h : fol c e i j) : (tk c i).At < (tk c j).At := by
  obtain ⟨hi, hj, h⟩ := h
  have := V.end he hi hj
  have := V.at hi
  unfold gap at h; omega
theorem fol_irrefl {c : Crew} (V : Valid c) {e : Range → Int} (he : EndOf e) {i : Nat} : ¬ fol c e i i := fun h => by have := fol_at V he h; omega
theorem fol_trans {c : Crew} (V : Valid c) {e : Range → Int} (he : EndOf e) {i j k : Nat} (h1 : fol c e i j) (h2 : fol c e j k) : fol c e i k := by
  obtain ⟨hi, hj, h1⟩ := h1
  obtain ⟨_, hk, h2⟩ := h2
  refine ⟨hi, hk, ?_⟩
  have t := V.travel.tri _ _ _ (V.place hi).2.1 (V.place hj).2.1 (V.place hk).2.1
  have := V.at hj
  unfold gap at *
  rcases he with rfl | rfl <;> omega
theorem spare_eq {c : Crew} (V : Valid c) {e : Range → Int} (he : EndOf e) {i j : Nat} (hi : i < c.Tasks.length) (hj : j < c.Tasks.length) : crew_spare c (i : Int) (j : Int) (fun x => some (e x)) = some (gap c e i j) := by
  refine Wp.eq ?_
  unfold crew_spare
  have hpi := V.place hi
  have hpj := V.place hj
  have hai := V.at hi
  have haj := V.at hj
  have hen := V.end he hi hj
  have hrow := V.travel.row _ hpi.2.1
  have e1 : c.Tasks.getD ((i : Int)).toNat default = tk c i := rfl
  have e2 : c.Tasks.getD ((j : Int)).toNat default = tk c j := rfl
  rw [e1, e2]
  refine wp_must (by omega) (wp_must (by omega) (wp_mustI (by omega) (wp_mustI (by omega) (wp_must (by omega) (wp_must (by omega) (wp_bindE rfl ?_))))))
  have e3 : e ((c.Travel.getD ((tk c i).Place).toNat default).getD ((tk c j).Place).toNat default) = e (tv c.Travel (tk c i).Place.toNat (tk c j).Place.toNat) := rfl
  rw [e3]
  exact wp_mustI (by omega) (wp_some rfl)
structure IsPlan (n : Nat) (adj : Nat → Nat → Prop) (p : crew_plan) : Prop where
  le : n ≤ 24
  len : p.next.length = n
  bits : ∀ i, i < n → 0 ≤ p.next.getD i default ∧ (p.next.getD i default).toNat < 2 ^ n ∧ ∀ j, j < n → ((p.next.getD i default).toNat.testBit j = true ↔ adj i j)
theorem pow24 {n : Nat} (h : n ≤ 24) : 2 ^ n ≤ 16777216 := Nat.pow_le_pow_right (by omega) h
theorem pow_nat (j : Nat) : ((1 : Int) * 2 ^ j) = ((2 ^ j : Nat) : Int) := by simp
theorem pow_lt24 {j n : Nat} (h : j < n) (hn : n ≤ 24) : 2 ^ j < 16777216 := Nat.lt_of_lt_of_le (Nat.pow_lt_pow_right (by omega) h) (pow24 hn)
theorem pow_rng {j n : Nat} (h : j < n) (hn : n ≤ 24) : 0 ≤ ((1 : Int) * 2 ^ j) ∧ ((1 : Int) * 2 ^ j) ≤ 16777216 := by
  rw [pow_nat]
  have := pow_lt24 h hn
  generalize 2 ^ j = q at this
  omega
theorem getD0 {l : List Int} {i : Nat} : l.getD i default = l.getD i 0 := rfl
theorem newPlan_wp {c : Crew} (V : Valid c) {e : Range → Int} (he : EndOf e) : Wp (crew_newPlan c (fun x => some (e x))) (fun r => ∃ p, r = some p ∧ p.Crew = c ∧ IsPlan c.Tasks.length (fol c e) p) := by
  have hn := V.tasks
  unfold crew_newPlan
  refine wp_must ⟨by omega, by omega, by unfold room; omega⟩ (wp_must (by omega) ?_)
  refine wp_range (fun i s => s.length = c.Tasks.length ∧ ∀ a, a < c.Tasks.length → 0 ≤ s.getD a default ∧ (s.getD a default).toNat < 2 ^ c.Tasks.length ∧ ∀ b, b < c.Tasks.length → ((s.getD a default).toNat.testBit b = true ↔ (a < i ∧ fol c e a b))) ?_ (fun i s K hi hI hK => ?_) (fun s hs => wp_some ⟨_, rfl, rfl, hn, hs.1, fun a ha => ?_⟩)
  · refine ⟨by simp, fun a ha => ?_⟩
    have : (List.replicate (((c.Tasks.length : Nat) : Int)).toNat (0 : Int)).getD a default = 0 := by rw [getD0, getD_replicate]
    rw [this]
    exact ⟨by omega, Nat.pow_pos (by omega), fun b _ => by simp⟩
  · refine wp_must (by omega) ?_
    refine wp_range (fun j s => s.length = c.Tasks.length ∧ ∀ a, a < c.Tasks.length → 0 ≤ s.getD a default ∧ (s.getD a default).toNat < 2 ^ c.Tasks.length ∧ ∀ b, b < c.Tasks.length → ((s.getD a default).toNat.testBit b = true ↔ ((a < i ∨ (a = i ∧ b < j)) ∧ fol c e a b))) ?_ (fun j s K' hj hI' hK' => ?_) (fun s hs => hK s ⟨hs.1, fun a ha => ?_⟩)
    · refine ⟨hI.1, fun a ha => ?_⟩
      obtain ⟨h1, h2, h3⟩ := hI.2 a ha
      refine ⟨h1, h2, fun b hb => (h3 b hb).trans ⟨fun h => ⟨.inl h.1, h.2⟩, fun h => ⟨by omega, h.2⟩⟩⟩
    · have same : (¬ fol c e i j) → ∀ a, a < c.Tasks.length → 0 ≤ s.getD a default ∧ (s.getD a default).toNat < 2 ^ c.Tasks.length ∧ ∀ b, b < c.Tasks.length → ((s.getD a default).toNat.testBit b = true ↔ ((a < i ∨ (a = i ∧ b < j + 1)) ∧ fol c e a b)) := by
        intro hno a ha
        obtain ⟨h1, h2, h3⟩ := hI'.2 a ha
        refine ⟨h1, h2, fun b hb => (h3 b hb).trans ⟨fun h => ⟨by omega, h.2⟩, fun h => ⟨?_, h.2⟩⟩⟩
        by_cases e1 : a = i ∧ b = j
        · rw [e1.1, e1.2] at h; exact absurd h.2 hno
        · omega
      refine wp_on (Q := fun r => r = gap c e i j) (fun _ => Wp.of_eq (spare_eq V he hi hj) rfl) (fun y hy => ?_)
      refine wp_bif (fun hb => ?_) (fun hb => ?_)
      · simp only [Bool.and_eq_true, Bool.not_eq_true', decide_eq_false_iff_not, decide_eq_true_eq] at hb
        have hy := hy (by simp; omega)
        subst hy
        have hf : fol c e i j := ⟨hi, hj, hb.2⟩
        obtain ⟨h1, h2, h3⟩ := hI'.2 i hi
        have hp := pow_rng hj hn
        have hq := pow24 hn
        have e0 : ((j : Int)).toNat = j := rfl
        rw [e0]
        refine wp_must (by omega) (wp_must ⟨by omega, by omega, by unfold inI; omega⟩ (wp_must ⟨h1, hp.1, by unfold inI; omega, by unfold inI; omega⟩ (wp_must (by omega) ?_)))
        rw [pow_nat]
        refine hK' _ ⟨by rw [List.length_set]; exact hI'.1, fun a ha => ?_⟩
        rw [getD_set _ _ _ _ _ (by omega)]
        by_cases e1 : a = i
        · subst e1
          rw [if_pos rfl, Int.toNat_natCast, Int.toNat_natCast]
          refine ⟨by omega, or_lt h2 hj, fun b hb2 => ?_⟩
          rw [or_bit, Bool.or_eq_true, decide_eq_true_eq, h3 b hb2]
          constructor
          · rintro (h | h)
            · exact ⟨by omega, h.2⟩
            · subst h; exact ⟨by omega, hf⟩
          · rintro ⟨h, hf'⟩
            by_cases e2 : b = j
            · exact .inr e2
            · exact .inl ⟨by omega, hf'⟩
        · rw [if_neg e1]
          obtain ⟨g1, g2, g3⟩ := hI'.2 a ha
          exact ⟨g1, g2, fun b hb2 => (g3 b hb2).trans ⟨fun h => ⟨by omega, h.2⟩, fun h => ⟨by omega, h.2⟩⟩⟩
      · refine hK' s ⟨hI'.1, same (fun hf => ?_)⟩
        have hne : i ≠ j := fun e1 => by subst e1; exact fol_irrefl V he hf
        have hy := hy (by simp; omega)
        subst hy
        simp only [Bool.and_eq_false_iff, Bool.not_eq_false', decide_eq_false_iff_not, decide_eq_true_eq] at hb
        have := hf.2.2
        rcases hb with hb | hb <;> omega
    · obtain ⟨h1, h2, h3⟩ := hs.2 a ha
      exact ⟨h1, h2, fun b hb => (h3 b hb).trans ⟨fun h => ⟨by omega, h.2⟩, fun h => ⟨by omega, h.2⟩⟩⟩
  · obtain ⟨h1, h2, h3⟩ := hs.2 a ha
    exact ⟨h1, h2, fun b hb => (h3 b hb).trans ⟨fun h => h.2, fun h => ⟨ha, h⟩⟩⟩
theorem bit_test {x : Int} {j : Nat} (h : 0 ≤ x) : ((((Int.fdiv x (2 ^ j)).toNat &&& ((1 : Int)).toNat : Nat) : Int)) = if x.toNat.testBit j then 1 else 0 := by
  rw [fdiv_bit h, Int.toNat_natCast]
  have : ((1 : Int)).toNat = 1 := rfl
  rw [this, bit_one]
  split <;> rfl
theorem bit_dec {x : Int} {j : Nat} (h : 0 ≤ x) : decide ((((Int.fdiv x (2 ^ j)).toNat &&& ((1 : Int)).toNat : Nat) : Int) = 1) = x.toNat.testBit j := by
  rw [bit_test h]
  cases x.toNat.testBit j <;> rfl
theorem bit_dec0 {x : Int} {j : Nat} (h : 0 ≤ x) : decide ((((Int.fdiv x (2 ^ j)).toNat &&& ((1 : Int)).toNat : Nat) : Int) = 0) = !x.toNat.testBit j := by
  rw [bit_test h]
  cases x.toNat.testBit j <;> rfl
theorem bit_rng {x : Int} {j n : Nat} (h : 0 ≤ x) (hx : x.toNat < 2 ^ n) (hn : n ≤ 24) : 0 ≤ Int.fdiv x (2 ^ j) ∧ 0 ≤ (1 : Int) ∧ inI (Int.fdiv x (2 ^ j)) ∧ inI 1 := by
  have h1 := fdiv_bit (j := j) h
  have h2 : x.toNat >>> j ≤ x.toNat := by rw [Nat.shiftRight_eq_div_pow]; exact Nat.div_le_self _ _
  have h3 := pow24 hn
  rw [h1]
  generalize x.toNat >>> j = q at h2
  refine ⟨by omega, by omega, by unfold inI; omega, by unfold inI; omega⟩
end Go.Sp
end
/- Plain laws, crew: pairs of tasks; how many rounds the program and the chapter find. No program in sight. -/
section
set_option linter.all false
namespace Go.Sp
open Go.Av
set_option maxRecDepth 100000
def ab (l : List Int) : Nat → Int := fun k => l.getD k (-1)
def sb (x : Int) : Nat → Bool := fun k => x.toNat.testBit k
theorem ab_lt {l : List Int} {k : Nat} (h : k < l.length) : ab l k = l.getD k default := by
  unfold ab
  rw [List.getD_eq_getElem?_getD, List.getD_eq_getElem?_getD, List.getElem?_eq_getElem h]; rfl
theorem ab_ge {l : List Int} {k : Nat} (h : l.length ≤ k) : ab l k = -1 := by
  unfold ab
  rw [List.getD_eq_getElem?_getD, List.getElem?_eq_none h]; rfl
theorem ab_set {l : List Int} {i : Nat} {x : Int} (h : i < l.length) : ab (l.set i x) = fun k => if k = i then x else ab l k := by
  funext k; unfold ab; exact getD_set l i k x (-1) h
structure PS (n : Nat) (own back : List Int) : Prop where
  ol : own.length = n
  bl : back.length = n
  ok : ∀ k, k < n → -1 ≤ ab own k ∧ ab own k < n
structure SB (n : Nat) (x : Int) : Prop where
  nn : 0 ≤ x
  lt : x.toNat < 2 ^ n
theorem SB.zero (n : Nat) : SB n 0 := ⟨by omega, by exact Nat.pow_pos (by omega)⟩
theorem SB.inI {n : Nat} {x : Int} (h : SB n x) (hn : n ≤ 24) : inI x := by
  have := pow24 hn
  have := h.lt
  have := h.nn
  unfold Av.inI; omega
theorem SB.put {n j : Nat} {x : Int} (h : SB n x) (hj : j < n) : SB n (((x.toNat ||| (((1 : Int) * 2 ^ j)).toNat : Nat) : Int)) := by
  rw [pow_nat, Int.toNat_natCast]
  exact ⟨Int.natCast_nonneg _, by rw [Int.toNat_natCast]; exact or_lt h.lt hj⟩
theorem sb_put {j : Nat} {x : Int} : sb (((x.toNat ||| (((1 : Int) * 2 ^ j)).toNat : Nat) : Int)) = fun k => sb x k || decide (k = j) := by
  funext k
  unfold sb
  rw [pow_nat, Int.toNat_natCast, Int.toNat_natCast, or_bit]
def ks (own back : List Int) (seen : Int) : Ks := ⟨sb seen, ab own, ab back⟩
theorem ks_see {own back : List Int} {seen : Int} {j : Nat} : ks own back (((seen.toNat ||| (((1 : Int) * 2 ^ j)).toNat : Nat) : Int)) = (ks own back seen).see j := by
  unfold ks Ks.see; rw [sb_put]
theorem ks_give {own back : List Int} {seen : Int} {i j : Nat} (ho : j < own.length) (hb : i < back.length) : ks (own.set j (i : Int)) (back.set i (j : Int)) seen = (ks own back seen).give j i := by
  unfold ks Ks.give; rw [ab_set ho, ab_set hb]
section
variable {n : Nat} {adj : Nat → Nat → Prop} {p : crew_plan}
theorem followers_eq (IP : IsPlan n adj p) {i : Nat} (hi : i < n) : crew_plan__followers_1 p (i : Int) = some (flw n (fun j => (p.next.getD i default).toNat.testBit j) 0) := by
  have hn := IP.le
  have hl := IP.len
  obtain ⟨h1, h2, _⟩ := IP.bits i hi
  unfold crew_plan__followers_1
  rw [must_yes (by omega), emit_range (fun j => (p.next.getD i default).toNat.testBit j) (fun j => (j : Int)) (fun j r hj => ?_)]
  · unfold flw; rw [hl, Nat.sub_zero]
  · have e0 : ((i : Int)).toNat = i := rfl
    have e1 : ((j : Int)).toNat = j := rfl
    rw [e0, e1, must_yes (by omega), must_yes (by omega), must_yes (bit_rng h1 h2 hn), bit_dec h1]
theorem pair_step (IP : IsPlan n adj p) (fuel : Nat) : ∀ (f i : Nat) (own back : List Int) (seen : Int), i < n → PS n own back → SB n seen → mu n (sb seen) < f →
    Wp (crew_plan__pair_1_l fuel f (i : Int) p seen own back) (fun r => PS n r.2.2.1 r.2.2.2 ∧ SB n r.2.1 ∧ Srch adj n i 0 (ks own back seen) r.1 (ks r.2.2.1 r.2.2.2 r.2.1)) := by
  have hn := IP.le
  intro f
  induction f with
  | zero => intro i own back seen _ _ _ h; omega
  | succ f ih =>
    intro i own back seen hi hP hS hmu
    show Wp (crew_plan__pair_1_l_F fuel (crew_plan__pair_1_l fuel f) (i : Int) p seen own back) _
    unfold crew_plan__pair_1_l_F
    refine wp_bindE (followers_eq IP hi) ?_
    obtain ⟨_, _, hbit⟩ := IP.bits i hi
    refine wp_flw n _ (fun j s => PS n s.1 s.2.1 ∧ SB n s.2.2 ∧ mu n (sb s.2.2) ≤ mu n (sb seen) ∧ ∀ b s', Srch adj n i j (ks s.1 s.2.1 s.2.2) b s' → Srch adj n i 0 (ks own back seen) b s')
      ⟨hP, hS, Nat.le_refl _, fun _ _ h => h⟩ (fun j s hj hW hI => ⟨hI.1, hI.2.1, hI.2.2.1, fun b s' h => hI.2.2.2 b s' (.skip hj (fun ha => by
        have := (hbit j hj).2 ha
        rw [hW] at this; cases this) h)⟩) (fun j s K hj hW hI hK => ?_) (fun s hI => wp_some ⟨hI.1, hI.2.1, hI.2.2.2 _ _ (.done (Nat.le_refl _))⟩)
    obtain ⟨own1, back1, seen1⟩ := s
    obtain ⟨hP1, hS1, hmu1, hsr⟩ := hI
    dsimp only at hP1 hS1 hmu1 hsr hK ⊢
    have hadj := (hbit j hj).1 hW
    have e1 : ((j : Int)).toNat = j := rfl
    have e2 : ((i : Int)).toNat = i := rfl
    rw [e1, e2]
    have hp := pow_rng hj hn
    refine wp_must (by omega) (wp_must (bit_rng hS1.nn hS1.lt hn) ?_)
    rw [bit_dec hS1.nn]
    refine wp_bif (fun hs => hK _ ⟨hP1, hS1, hmu1, fun b s' h => hsr b s' (.skip hj (fun _ => hs) h)⟩) (fun hs => ?_)
    have hol := hP1.ol
    have hbl := hP1.bl
    refine wp_must ⟨by omega, by omega, by unfold inI; omega⟩ (wp_must ⟨hS1.nn, hp.1, hS1.inI hn, by unfold inI; omega⟩ (wp_must (by omega) (wp_must (fun _ => by omega) ?_)))
    have hS2 := hS1.put hj
    have hsee := @ks_see own1 back1 seen1 j
    have hmu2 : mu n (sb (((seen1.toNat ||| (((1 : Int) * 2 ^ j)).toNat : Nat) : Int))) < mu n (sb seen1) := by
      rw [sb_put]
      exact mu_lt (j := j) (fun k h => by simp [h]) hj hs (by simp)
    generalize (((seen1.toNat ||| (((1 : Int) * 2 ^ j)).toNat : Nat) : Int)) = seen2 at hS2 hsee hmu2
    have ho : own1.getD j default = ab own1 j := (ab_lt (by omega)).symm
    rw [ho]
    have hok := hP1.ok j hj
    refine wp_bind (Q := fun y => PS n y.2.2.1 y.2.2.2 ∧ SB n y.2.1 ∧ mu n (sb y.2.1) ≤ mu n (sb seen1) ∧ ((ab own1 j < 0 ∧ y = (default, seen2, own1, back1)) ∨ ∃ o : Nat, ab own1 j = (o : Int) ∧ Srch adj n o 0 ((ks own1 back1 seen1).see j) y.1 (ks y.2.2.1 y.2.2.2 y.2.1))) ?_ (fun y hy => ?_)
    · by_cases h0 : ab own1 j < 0
      · rw [decide_eq_true h0]
        exact wp_some ⟨hP1, hS2, by dsimp only; omega, .inl ⟨h0, rfl⟩⟩
      · rw [decide_eq_false h0]
        obtain ⟨o, ho'⟩ := Int.eq_ofNat_of_zero_le (show 0 ≤ ab own1 j by omega)
        rw [ho']
        refine (ih o own1 back1 seen2 (by omega) hP1 hS2 (by omega)).mono (fun r hr => ⟨hr.1, hr.2.1, ?_, .inr ⟨o, rfl, by rw [← hsee]; exact hr.2.2⟩⟩)
        have := mu_mono (n := n) hr.2.2.mono
        exact Nat.le_trans this (by show mu n (sb seen2) ≤ _; omega)
    · obtain ⟨b, seen3, own3, back3⟩ := y
      obtain ⟨hP3, hS3, hmu3, hy⟩ := hy
      dsimp only at hP3 hS3 hmu3 hy ⊢
      have hol3 := hP3.ol
      have hbl3 := hP3.bl
      refine wp_must (by omega) (wp_must (by omega) (wp_bif (fun hb => ?_) (fun hb => ?_)))
      · refine wp_must (by omega) (wp_must (by omega) (wp_some ⟨⟨by rw [List.length_set]; exact hol3, by rw [List.length_set]; exact hbl3, fun k hk => ?_⟩, hS3, hsr _ _ ?_⟩))
        · show -1 ≤ ab (own3.set j (i : Int)) k ∧ ab (own3.set j (i : Int)) k < n
          rw [ab_set (by omega)]
          dsimp only
          split
          · omega
          · exact hP3.ok k hk
        · dsimp only
          rw [ks_give (by omega) (by omega)]
          rcases hy with ⟨h0, e⟩ | ⟨o, h0, h1⟩
          · cases e
            rw [hsee]
            exact .free hj hadj hs h0
          · rw [decide_eq_false (by omega)] at hb
            have hb : b = true := by simpa using hb
            subst hb
            exact .aug hj hadj hs h0 h1
      · refine hK _ ⟨hP3, hS3, by dsimp only; omega, fun b' s' h => ?_⟩
        rcases hy with ⟨h0, e⟩ | ⟨o, h0, h1⟩
        · rw [decide_eq_true h0] at hb; simp at hb
        · have hb2 : b = false := by
            cases b with
            | false => rfl
            | true => simp at hb
          subst hb2
          exact hsr _ _ (.fail hj hadj hs h0 h1 h)
theorem pair_wp (IP : IsPlan n adj p) {fuel : Nat} (hf : 25 ≤ fuel) : Wp (crew_plan__pair fuel p) (fun r => PS n r.1 r.2 ∧ ∃ seen D, Kuhn adj n n ⟨seen, ab r.1, ab r.2⟩ D) := by
  have hn := IP.le
  have hl := IP.len
  unfold crew_plan__pair
  rw [hl]
  have en : (((n : Nat) : Int)).toNat = n := rfl
  rw [en]
  refine wp_must ⟨by omega, by omega, by unfold room; omega⟩ (wp_must ⟨by omega, by omega, by unfold room; omega⟩ (wp_must (by simp; omega) ?_))
  rw [List.length_replicate]
  refine wp_range (fun i s => s.1.length = n ∧ s.2.length = n ∧ ∀ k, k < i → ab s.1 k = -1 ∧ ab s.2 k = -1) ⟨by simp, by simp, fun k hk => by omega⟩ (fun i s K hi hI hK => ?_) (fun s hI => ?_)
  · obtain ⟨h1, h2, h3⟩ := hI
    refine wp_must (by omega) (wp_must (by omega) (hK _ ⟨by rw [List.length_set]; exact h1, by rw [List.length_set]; exact h2, fun k hk => ?_⟩))
    dsimp only
    rw [ab_set (by omega), ab_set (by omega)]
    dsimp only
    by_cases e : k = i
    · rw [if_pos e, if_pos e]; exact ⟨rfl, rfl⟩
    · rw [if_neg e, if_neg e]; exact h3 k (by omega)
  · obtain ⟨h1, h2, h3⟩ := hI
    have a1 : ∀ k, ab s.1 k = -1 := fun k => if h : k < n then (h3 k h).1 else ab_ge (by omega)
    have a2 : ∀ k, ab s.2 k = -1 := fun k => if h : k < n then (h3 k h).2 else ab_ge (by omega)
    refine wp_must (by omega) ?_
    refine wp_range (fun i s => PS n s.1 s.2 ∧ ∃ seen D, Kuhn adj n i ⟨seen, ab s.1, ab s.2⟩ D) ⟨⟨h1, h2, fun k hk => by rw [a1 k]; omega⟩, fun _ => false, _, Kuhn.start (fun k => by show ab s.1 k < 0; rw [a1 k]; omega) (fun k => by show ab s.2 k < 0; rw [a2 k]; omega)⟩ (fun i s K hi hI hK => ?_) (fun s hI => wp_some hI)
    obtain ⟨hP, seen0, D, hKn⟩ := hI
    refine wp_bind (pair_step IP fuel fuel i s.1 s.2 0 hi hP (SB.zero n) (by have := mu_le n (sb 0); omega)) (fun y hy => ?_)
    obtain ⟨hy1, hy2, hy3⟩ := hy
    refine wp_must (by rw [hy1.ol, hP.ol]) (wp_must (by rw [hy1.bl, hP.bl]) (hK (y.2.2.1, y.2.2.2) ⟨hy1, sb y.2.1, ?_⟩))
    have hK0 : Kuhn adj n i (ks s.1 s.2 0) D := ⟨⟨hKn.mat.back, hKn.mat.own⟩, hKn.dead, hKn.lost, hKn.rest, hKn.lt⟩
    obtain ⟨D', hk, _⟩ := hK0.step (fun k => by show (0 : Int).toNat.testBit k = false; simp) hy3
    exact ⟨D', hk⟩
end
end Go.Sp
end
/- Plain laws, crew: the chapter's search, and the numbers of rounds. No program in sight. -/
section
set_option linter.all false
namespace Go.Sp
open Go.Av
set_option maxRecDepth 100000
theorem rfollows_eq {c : Crew} (V : Valid c) {i j : Nat} (hi : i < c.Tasks.length) (hj : j < c.Tasks.length) : gasolierref04_follows c (i : Int) (j : Int) = some (if 0 ≤ gap c Range.Hi i j then 1 else if gap c Range.Lo i j < 0 then 0 else 2) := by
  refine Wp.eq ?_
  unfold gasolierref04_follows
  have hpi := V.place hi
  have hpj := V.place hj
  have hai := V.at hi
  have haj := V.at hj
  have hr := V.travel.rng _ _ hpi.2.1 hpj.2.1
  have hrow := V.travel.row _ hpi.2.1
  have e1 : c.Tasks.getD ((i : Int)).toNat default = tk c i := rfl
  have e2 : c.Tasks.getD ((j : Int)).toNat default = tk c j := rfl
  have e3 : ((c.Travel.getD ((tk c i).Place).toNat default).getD ((tk c j).Place).toNat default) = tv c.Travel (tk c i).Place.toNat (tk c j).Place.toNat := rfl
  rw [e1, e2, e3]
  refine wp_must (by omega) (wp_must (by omega) (wp_must (by omega) (wp_must (by omega) (wp_mustI (by omega) (wp_mustI (by omega) ?_)))))
  unfold gap
  refine wp_ifd (fun h => wp_some (by rw [if_pos (by omega)])) (fun h => ?_)
  refine wp_mustI (by omega) (wp_mustI (by omega) (wp_ifd (fun h' => wp_some (by rw [if_neg (by omega), if_pos (by omega)])) (fun h' => wp_some (by rw [if_neg (by omega), if_neg (by omega)]))))
theorem yes_iff {c : Crew} (V : Valid c) {i j : Nat} (hi : i < c.Tasks.length) (hj : j < c.Tasks.length) : (if 0 ≤ gap c Range.Hi i j then (1 : Int) else if gap c Range.Lo i j < 0 then 0 else 2) = 1 ↔ fol c Range.Hi i j := by
  unfold fol
  by_cases h : 0 ≤ gap c Range.Hi i j
  · rw [if_pos h]; exact ⟨fun _ => ⟨hi, hj, h⟩, fun _ => rfl⟩
  · rw [if_neg h]
    constructor
    · intro h'; split at h' <;> cases h'
    · intro h'; exact absurd h'.2.2 h
theorem most_fun : (fun x0 => some (crew_most x0)) = fun x => some (Range.Hi x) := rfl
def sl (l : List Bool) : Nat → Bool := fun k => l.getD k false
structure OS (n : Nat) (own : List Int) : Prop where
  ol : own.length = n
  ok : ∀ k, k < n → -1 ≤ ab own k ∧ ab own k < n
theorem fol_ord {c : Crew} (V : Valid c) {e : Range → Int} (he : EndOf e) : Ord (fol c e) c.Tasks.length (fun x => (tk c x).At) :=
  ⟨fun _ _ h => ⟨h.1, h.2.1⟩, fun _ _ h => fol_at V he h, fun _ _ _ h1 h2 => fol_trans V he h1 h2⟩
def lc (back : Nat → Int) (i : Nat) : Nat := (loose i back).length
theorem lc_succ (back : Nat → Int) (i : Nat) : lc back (i + 1) = lc back i + if back i < 0 then 1 else 0 := by
  unfold lc loose
  rw [List.range_succ, List.filter_append, List.length_append, List.filter_cons]
  split <;> rename_i h <;> simp at h <;> simp [h]
theorem count_wp {n : Nat} {adj : Nat → Nat → Prop} {p : crew_plan} {rank : Nat → Int} (IP : IsPlan n adj p) (O : Ord adj n rank) {fuel : Nat} (hf : 25 ≤ fuel) : Wp (crew_plan__count fuel p) (fun r => ∃ u : Nat, r = (u : Int) ∧ Most adj n u) := by
  have hn := IP.le
  unfold crew_plan__count
  refine wp_bind (pair_wp IP hf) (fun y hy => ?_)
  obtain ⟨hP, seen, D, hK⟩ := hy
  have hol := hP.ol
  refine wp_range (fun i s => s = (lc (ab y.1) i : Int)) rfl (fun i s K hi hI hK' => ?_) (fun s hI => ?_)
  · subst hI
    have hl := lc_succ (ab y.1) i
    have e : y.1.getD i default = ab y.1 i := (ab_lt hi).symm
    rw [e]
    have : lc (ab y.1) i ≤ i := by unfold lc loose; exact Nat.le_trans (List.length_filter_le _ _) (by simp)
    refine wp_ifd (fun h => ?_) (fun h => ?_)
    · rw [if_pos h] at hl
      exact wp_mustI (by omega) (hK' _ (by omega))
    · rw [if_neg h] at hl
      exact hK' _ (by omega)
  · subst hI
    refine wp_some ⟨_, rfl, ?_⟩
    have h1 := kuhn_most hK O (fun k hk => (hP.ok k hk).2)
    have h2 := loose_own hK.mat hK.rest (fun k hk => (hP.ok k hk).2)
    unfold lc
    rw [hol, h2]; exact h1
noncomputable def nr (c : Crew) (e : Range → Int) : Nat := @dite _ (∃ u, Most (fol c e) c.Tasks.length u) (Classical.propDecidable _) (fun h => Classical.choose h) (fun _ => 0)
theorem nr_eq {c : Crew} {e : Range → Int} {u : Nat} (h : Most (fol c e) c.Tasks.length u) : nr c e = u := by
  unfold nr
  rw [dif_pos ⟨u, h⟩]
  exact (Classical.choose_spec (⟨u, h⟩ : ∃ u, Most (fol c e) c.Tasks.length u)).unique h
theorem pcount_eq {c : Crew} (V : Valid c) {e : Range → Int} (he : EndOf e) {p : crew_plan} (IP : IsPlan c.Tasks.length (fol c e) p) {fuel : Nat} (hf : 25 ≤ fuel) : crew_plan__count fuel p = some (nr c e : Int) ∧ Most (fol c e) c.Tasks.length (nr c e) := by
  obtain ⟨r, h1, u, rfl, h2⟩ := count_wp IP (fol_ord V he) hf
  rw [nr_eq h2]; exact ⟨h1, h2⟩
theorem most_nr {c : Crew} (V : Valid c) {e : Range → Int} (he : EndOf e) : Most (fol c e) c.Tasks.length (nr c e) := by
  obtain ⟨_, _, p, _, _, IP⟩ := newPlan_wp V he
  exact (pcount_eq V he IP (Nat.le_refl 25)).2
end Go.Sp
end
/- Plain laws, crew: what rounds and cuts are accepted. No program in sight. -/
section
set_option linter.all false
namespace Go.Sp
open Go.Av
set_option maxRecDepth 100000
theorem take_snoc {T : Type} [Inhabited T] {l : List T} {k : Nat} (h : k < l.length) : l.take (k + 1) = l.take k ++ [l.getD k default] := by
  rw [List.take_add_one, List.getElem?_eq_getElem h, List.getD_eq_getElem?_getD, List.getElem?_eq_getElem h]; rfl
noncomputable def ck {T : Type} (p : Prop) (a b : T) : T := @ite _ p (Classical.propDecidable p) a b
theorem ck_pos {T : Type} {p : Prop} (h : p) (a b : T) : ck p a b = a := if_pos h
theorem ck_neg {T : Type} {p : Prop} (h : ¬ p) (a b : T) : ck p a b = b := if_neg h
theorem wp_ck {T : Type} {x : Option T} {p : Prop} {a b : T} (h : Wp x (fun r => (p ∧ r = a) ∨ (¬ p ∧ r = b))) : x = some (ck p a b) := by
  refine Wp.eq (h.mono (fun r hr => ?_))
  rcases hr with ⟨q, rfl⟩ | ⟨q, rfl⟩
  · exact (ck_pos q _ _).symm
  · exact (ck_neg q _ _).symm
structure IsRound (adj : Nat → Nat → Prop) (n : Nat) (l : List Int) : Prop where
  ne : 0 < l.length
  rng : ∀ k, k < l.length → 0 ≤ l.getD k default ∧ l.getD k default < n
  link : ∀ k, 0 < k → k < l.length → adj (l.getD (k - 1) default).toNat (l.getD k default).toNat
def rd (ls : List (List Int)) (k : Nat) : List Int := ls.getD k default
def Fit (ls : List (List Int)) : Prop := ls.length ≤ 9223372036854775807 ∧ ∀ k, k < ls.length → (rd ls k).length ≤ 9223372036854775807
def flat (ls : List (List Int)) (k : Nat) : List Int := (ls.take k).flatten
structure AreRounds (adj : Nat → Nat → Prop) (n : Nat) (ls : List (List Int)) : Prop where
  round : ∀ k, k < ls.length → IsRound adj n (rd ls k)
  heads : ∀ k, 0 < k → k < ls.length → (rd ls (k - 1)).getD 0 default < (rd ls k).getD 0 default
  nd : ls.flatten.Nodup
  all : ∀ x : Nat, x < n → (x : Int) ∈ ls.flatten
theorem flat_succ {ls : List (List Int)} {k : Nat} (h : k < ls.length) : flat ls (k + 1) = flat ls k ++ rd ls k := by
  unfold flat rd
  rw [take_snoc h, List.flatten_append, List.flatten_singleton]
theorem flat_all (ls : List (List Int)) : flat ls ls.length = ls.flatten := by unfold flat; rw [List.take_length]
theorem flat_pre {ls : List (List Int)} {k m : Nat} (h : k < ls.length) : ∃ r, ls.flatten = (flat ls k ++ (rd ls k).take m) ++ r := by
  refine ⟨(rd ls k).drop m ++ (ls.drop (k + 1)).flatten, ?_⟩
  have e : ls.flatten = flat ls (k + 1) ++ (ls.drop (k + 1)).flatten := by
    unfold flat; rw [← List.flatten_append, List.take_append_drop]
  rw [e, flat_succ h]
  conv => lhs; rw [← List.take_append_drop m (rd ls k)]
  simp only [List.append_assoc]
section
variable {n : Nat} {adj : Nat → Nat → Prop} {p : crew_plan}
theorem isRound_wp (IP : IsPlan n adj p) (l : List Int) (hll : l.length ≤ 9223372036854775807) : Wp (crew_plan__isRound p l) (fun r => r = true ↔ IsRound adj n l) := by
  have hn := IP.le
  have hl := IP.len
  unfold crew_plan__isRound
  rw [hl]
  refine wp_forall (fun k => (0 ≤ l.getD k default ∧ l.getD k default < n) ∧ (0 < k → adj (l.getD (k - 1) default).toNat (l.getD k default).toNat)) (fun k K hk hpre hK => ?_) (fun h => ?_)
  · have e : (((k : Int) - 1)).toNat = k - 1 := by omega
    rw [e]
    by_cases hin : 0 ≤ l.getD k default ∧ l.getD k default < n
    · have h1 : crew_in (l.getD k default) 0 (((n : Nat) : Int) - 1) = true := in_iff.2 (by omega)
      rw [h1]
      by_cases h0 : 0 < k
      · have hp := (hpre (k - 1) (by omega)).1
        obtain ⟨a, ha⟩ := Int.eq_ofNat_of_zero_le hp.1
        obtain ⟨b, hb⟩ := Int.eq_ofNat_of_zero_le hin.1
        have hpa : a < n := by omega
        have hpb : b < n := by omega
        have ea : ((a : Int)).toNat = a := rfl
        have eb : ((b : Int)).toNat = b := rfl
        have lk : adj (l.getD (k - 1) default).toNat (l.getD k default).toNat ↔ adj a b := by rw [ha, hb, ea, eb]
        rw [ha, hb, ea, eb]
        obtain ⟨q1, q2, q3⟩ := IP.bits a hpa
        refine wp_mustI (by omega) (wp_must (fun _ => by unfold inI; omega) (wp_must (fun _ => by omega) (wp_must (fun _ => by omega) (wp_must (fun _ => by omega) (wp_must (fun _ => bit_rng q1 q2 hn) ?_)))))
        rw [bit_dec0 q1, decide_eq_true (show (0 : Int) < (k : Int) by omega)]
        refine wp_bif (fun h => wp_some ⟨fun h' => (by cases h'), fun R => ?_⟩) (fun h => ?_)
        · have := lk.1 (R.link k h0 hk)
          have := (q3 b hpb).2 this
          rw [this] at h; cases h
        · refine hK ⟨hin, fun _ => lk.2 ((q3 b hpb).1 ?_)⟩
          simpa using h
      · rw [decide_eq_false (show ¬ (0 : Int) < (k : Int) by omega)]
        refine wp_mustI (by omega) (wp_must (fun h => by cases h) (wp_must (fun h => by cases h) (wp_must (fun h => by cases h) (wp_must (fun h => by cases h) (wp_must (fun h => by cases h) ?_)))))
        exact wp_false rfl (hK ⟨hin, fun h => absurd h h0⟩)
    · have h1 : crew_in (l.getD k default) 0 (((n : Nat) : Int) - 1) = false := by
        cases h : crew_in (l.getD k default) 0 (((n : Nat) : Int) - 1) with
        | false => rfl
        | true => exfalso; have := in_iff.1 h; omega
      rw [h1]
      refine wp_mustI (by omega) (wp_must (fun h => by cases h) (wp_must (fun h => by cases h) (wp_must (fun h => by cases h) (wp_must (fun h => by cases h) (wp_must (fun h => by cases h) ?_)))))
      exact wp_true rfl (wp_some ⟨fun h' => (by cases h'), fun R => absurd (R.rng k hk) hin⟩)
  · exact wp_some (by
      rw [decide_eq_true_eq]
      exact ⟨fun h0 => ⟨by omega, fun k hk => (h k hk).1, fun k h1 h2 => (h k h2).2 h1⟩, fun R => by have := R.ne; omega⟩)
theorem full_bits {x n : Nat} (h : x < 2 ^ n) : x = 2 ^ n - 1 ↔ ∀ j, j < n → x.testBit j = true := by
  constructor
  · rintro rfl j hj; rw [Nat.testBit_two_pow_sub_one]; exact decide_eq_true hj
  · intro hb
    refine Nat.eq_of_testBit_eq (fun j => ?_)
    rw [Nat.testBit_two_pow_sub_one]
    by_cases hj : j < n
    · rw [hb j hj, decide_eq_true hj]
    · rw [decide_eq_false hj]
      exact Nat.testBit_lt_two_pow (Nat.lt_of_lt_of_le h (Nat.pow_le_pow_right (by omega) (by omega)))
theorem areRounds_wp (IP : IsPlan n adj p) (ls : List (List Int)) (hF : Fit ls) : Wp (crew_plan__areRounds p ls) (fun r => r = true ↔ AreRounds adj n ls) := by
  have hn := IP.le
  have hl := IP.len
  unfold crew_plan__areRounds
  rw [hl]
  refine wp_range (fun i s => SB n s ∧ (∀ k, k < i → IsRound adj n (rd ls k)) ∧ (∀ k, 0 < k → k < i → (rd ls (k - 1)).getD 0 default < (rd ls k).getD 0 default) ∧ (flat ls i).Nodup ∧ ∀ x : Nat, x < n → (sb s x = true ↔ (x : Int) ∈ flat ls i))
    ⟨SB.zero n, fun k hk => by omega, fun k _ hk => by omega, List.nodup_nil, fun x _ => by unfold sb flat; simp⟩ (fun i s K hi hI hK => ?_) (fun s hI => ?_)
  · obtain ⟨hS, hR, hH, hN, hB⟩ := hI
    have er : ls.getD i default = rd ls i := rfl
    have e : (((i : Int) - 1)).toNat = i - 1 := by omega
    have er2 : ls.getD (i - 1) default = rd ls (i - 1) := rfl
    rw [e, er, er2]
    refine wp_bind (isRound_wp IP (rd ls i) (hF.2 i hi)) (fun y hy => ?_)
    cases y with
    | false =>
      refine wp_must (fun h => by cases h) (wp_must (fun h => by cases h) (wp_must (fun h => by cases h) (wp_must (fun h => by cases h) (wp_true rfl (wp_some ⟨fun h => (by cases h), fun A => ?_⟩)))))
      have := hy.2 (A.round i hi); cases this
    | true =>
      have hRi := hy.1 rfl
      have hne := hRi.ne
      have hpp : 0 < i → 0 < (rd ls (i - 1)).length := fun h => (hR (i - 1) (by omega)).ne
      refine wp_must (fun _ => by have := hF.1; unfold inI; omega) (wp_must (fun h => by simp at h; omega) (wp_must (fun h => by have := hpp (by simpa using h); omega) (wp_must (fun h => by omega) ?_)))
      refine wp_bif (fun h => wp_some ⟨fun h => (by cases h), fun A => ?_⟩) (fun h => ?_)
      · simp only [Bool.not_true, Bool.false_or, Bool.and_eq_true, decide_eq_true_eq] at h
        have := A.heads i (by omega) hi
        omega
      · simp only [Bool.not_true, Bool.false_or, Bool.and_eq_false_iff, decide_eq_false_iff_not] at h
        have hhead : 0 < i → (rd ls (i - 1)).getD 0 default < (rd ls i).getD 0 default := fun h0 => by rcases h with h | h <;> omega
        refine wp_range (fun m s => SB n s ∧ (flat ls i ++ (rd ls i).take m).Nodup ∧ ∀ x : Nat, x < n → (sb s x = true ↔ (x : Int) ∈ flat ls i ++ (rd ls i).take m)) ⟨hS, by simpa using hN, by simpa using hB⟩ (fun m s K' hm hI' hK' => ?_) (fun s hI' => ?_)
        · obtain ⟨hS', hN', hB'⟩ := hI'
          obtain ⟨b1, b2⟩ := hRi.rng m hm
          obtain ⟨b, hb⟩ := Int.eq_ofNat_of_zero_le b1
          rw [hb]
          have eb : ((b : Int)).toNat = b := rfl
          rw [eb]
          have hbn : b < n := by omega
          have hp := pow_rng hbn hn
          refine wp_must (by omega) (wp_must (bit_rng hS'.nn hS'.lt hn) ?_)
          rw [bit_dec hS'.nn]
          refine wp_bif (fun h => wp_some ⟨fun h => (by cases h), fun A => ?_⟩) (fun h => ?_)
          · exfalso
            obtain ⟨r, hr⟩ := flat_pre (m := m + 1) hi
            have hnd := A.nd
            rw [hr, take_snoc hm, hb, ← List.append_assoc] at hnd
            have := (List.nodup_append.1 hnd).1
            exact (List.nodup_append.1 this).2.2 (b : Int) ((hB' b hbn).1 h) (b : Int) (by simp) rfl
          · refine wp_must ⟨by omega, by omega, by unfold inI; omega⟩ (wp_must ⟨hS'.nn, hp.1, hS'.inI hn, by unfold inI; omega⟩ (hK' _ ⟨hS'.put hbn, ?_, fun x hx => ?_⟩))
            · rw [take_snoc hm, hb, ← List.append_assoc, List.nodup_append]
              refine ⟨hN', by simp, fun x hx y hy e => ?_⟩
              have hy : y = (b : Int) := by simpa using hy
              subst hy e
              have t' : s.toNat.testBit b = true := (hB' b hbn).2 hx
              rw [h] at t'; cases t'
            · rw [sb_put, take_snoc hm, hb, ← List.append_assoc, List.mem_append, Bool.or_eq_true, hB' x hx, decide_eq_true_eq, List.mem_singleton]
              constructor
              · rintro (h | h)
                · exact .inl h
                · exact .inr (by omega)
              · rintro (h | h)
                · exact .inl h
                · exact .inr (by omega)
        · obtain ⟨hS', hN', hB'⟩ := hI'
          rw [List.take_length] at hN' hB'
          rw [← flat_succ hi] at hN' hB'
          refine hK _ ⟨hS', fun k hk => ?_, fun k h0 hk => ?_, hN', hB'⟩
          · by_cases e : k = i
            · subst e; exact hRi
            · exact hR k (by omega)
          · by_cases e : k = i
            · subst e; exact hhead h0
            · exact hH k h0 (by omega)
  · obtain ⟨hS, hR, hH, hN, hB⟩ := hI
    rw [flat_all] at hN hB
    have en : (((n : Nat) : Int)).toNat = n := rfl
    have hp : ((1 : Int) * 2 ^ n) = ((2 ^ n : Nat) : Int) := pow_nat n
    have hp2 := pow24 hn
    have hp3 : 0 < 2 ^ n := Nat.pow_pos (by omega)
    rw [en, hp]
    have hfb := full_bits hS.lt
    have hs0 := hS.nn
    generalize 2 ^ n = q at *
    refine wp_must ⟨by omega, by omega, by unfold inI; omega⟩ (wp_mustI (by omega) (wp_some ?_))
    rw [decide_eq_true_eq]
    constructor
    · intro h
      have h2 := hfb.1 (by omega)
      exact ⟨hR, hH, hN, fun x hx => (hB x hx).1 (h2 x hx)⟩
    · intro A
      have := hfb.2 (fun j hj => (hB j hj).2 (A.all j hj))
      omega
end
section
variable {c : Crew}
theorem risRound_wp (V : Valid c) (l : List Int) (hll : l.length ≤ 9223372036854775807) : Wp (gasolierref04_isRound c l) (fun r => r = true ↔ IsRound (fol c Range.Hi) c.Tasks.length l) := by
  have hn := V.tasks
  unfold gasolierref04_isRound
  refine wp_forall (fun k => (0 ≤ l.getD k default ∧ l.getD k default < c.Tasks.length) ∧ (0 < k → fol c Range.Hi (l.getD (k - 1) default).toNat (l.getD k default).toNat)) (fun k K hk hpre hK => ?_) (fun h => ?_)
  · have e : (((k : Int) - 1)).toNat = k - 1 := by omega
    rw [e]
    by_cases hin : 0 ≤ l.getD k default ∧ l.getD k default < c.Tasks.length
    · have h1 : gasolierref01_Within (l.getD k default) 0 (((c.Tasks.length : Nat) : Int) - 1) = true := within_iff.2 (by omega)
      rw [h1]
      by_cases h0 : 0 < k
      · have hp := (hpre (k - 1) (by omega)).1
        obtain ⟨a, ha⟩ := Int.eq_ofNat_of_zero_le hp.1
        obtain ⟨b, hb⟩ := Int.eq_ofNat_of_zero_le hin.1
        have hpa : a < c.Tasks.length := by omega
        have hpb : b < c.Tasks.length := by omega
        have ea : ((a : Int)).toNat = a := rfl
        have eb : ((b : Int)).toNat = b := rfl
        have lk : fol c Range.Hi (l.getD (k - 1) default).toNat (l.getD k default).toNat ↔ fol c Range.Hi a b := by rw [ha, hb, ea, eb]
        rw [ha, hb]
        refine wp_mustI (by omega) (wp_must (fun _ => by unfold inI; omega) (wp_must (fun _ => by omega) ?_))
        rw [decide_eq_true (show (0 : Int) < (k : Int) by omega)]
        refine wp_bindE (rfollows_eq V hpa hpb) ?_
        have hy := yes_iff V (i := a) (j := b) hpa hpb
        refine wp_bif (fun h => wp_some ⟨fun h' => (by cases h'), fun R => ?_⟩) (fun h => ?_)
        · rw [decide_eq_true (hy.2 (lk.1 (R.link k h0 hk)))] at h; cases h
        · refine hK ⟨hin, fun _ => lk.2 (hy.1 ?_)⟩
          simpa using h
      · rw [decide_eq_false (show ¬ (0 : Int) < (k : Int) by omega)]
        refine wp_mustI (by omega) (wp_must (fun h => by cases h) (wp_must (fun h => by cases h) (wp_bindE rfl ?_)))
        exact wp_false rfl (hK ⟨hin, fun h => absurd h h0⟩)
    · have h1 : gasolierref01_Within (l.getD k default) 0 (((c.Tasks.length : Nat) : Int) - 1) = false := by
        cases h : gasolierref01_Within (l.getD k default) 0 (((c.Tasks.length : Nat) : Int) - 1) with
        | false => rfl
        | true => exfalso; have := within_iff.1 h; omega
      rw [h1]
      refine wp_mustI (by omega) (wp_must (fun h => by cases h) (wp_must (fun h => by cases h) (wp_bindE rfl ?_)))
      exact wp_true rfl (wp_some ⟨fun h' => (by cases h'), fun R => absurd (R.rng k hk) hin⟩)
  · exact wp_some (by
      rw [decide_eq_true_eq]
      exact ⟨fun h0 => ⟨by omega, fun k hk => (h k hk).1, fun k h1 h2 => (h k h2).2 h1⟩, fun R => by have := R.ne; omega⟩)
theorem IsRound.at_lt (V : Valid c) {l : List Int} (R : IsRound (fol c Range.Hi) c.Tasks.length l) : ∀ (b a : Nat), a < b → b < l.length → fol c Range.Hi (l.getD a default).toNat (l.getD b default).toNat
  | 0, a, h, _ => by omega
  | b + 1, a, h, hb => by
    have h1 := R.link (b + 1) (by omega) hb
    rw [show b + 1 - 1 = b by omega] at h1
    by_cases e : a = b
    · subst e; exact h1
    · exact fol_trans V (.inr rfl) (IsRound.at_lt V R b a (by omega) (by omega)) h1
theorem IsRound.nodup (V : Valid c) {l : List Int} (R : IsRound (fol c Range.Hi) c.Tasks.length l) : l.Nodup := by
  show List.Pairwise (· ≠ ·) l
  rw [List.pairwise_iff_getElem]
  intro i j hi hj hij e
  have h := R.at_lt V j i hij hj
  have : l.getD i default = l.getD j default := by rw [List.getD_eq_getElem?_getD, List.getD_eq_getElem?_getD, List.getElem?_eq_getElem hi, List.getElem?_eq_getElem hj, e]
  rw [this] at h
  exact fol_irrefl V (.inr rfl) h
theorem rcheckRounds_wp (c : Crew) (ls : List (List Int)) (hF : Fit ls) : Wp (gasolierref04_CheckRounds c ls) (fun r => (¬ Valid c ∧ r = 42) ∨ (Valid c ∧ ¬ AreRounds (fol c Range.Hi) c.Tasks.length ls ∧ r = 43) ∨ (Valid c ∧ AreRounds (fol c Range.Hi) c.Tasks.length ls ∧ r = 0)) := by
  unfold gasolierref04_CheckRounds
  refine wp_bindE (rcheck_eq c) ?_
  by_cases V : Valid c
  · rw [chk_valid V]
    have hn := V.tasks
    refine wp_false rfl (wp_must ⟨by omega, by omega, by unfold room; omega⟩ ?_)
    have en : (((c.Tasks.length : Nat) : Int)).toNat = c.Tasks.length := rfl
    rw [en]
    refine wp_range (fun i s => s.length = c.Tasks.length ∧ i ≤ c.Tasks.length ∧ (∀ k, k < i → IsRound (fol c Range.Hi) c.Tasks.length (rd ls k) ∧ (k : Int) ≤ (rd ls k).getD 0 default) ∧ (∀ k, 0 < k → k < i → (rd ls (k - 1)).getD 0 default < (rd ls k).getD 0 default) ∧ ∀ x : Nat, x < c.Tasks.length → s.getD x default = ((flat ls i).count (x : Int) : Int) ∧ (flat ls i).count (x : Int) ≤ i)
      ⟨by simp, by omega, fun k hk => by omega, fun k _ hk => by omega, fun x _ => ⟨by rw [getD0, getD_replicate]; unfold flat; simp, by unfold flat; simp⟩⟩ (fun i s K hi hI hK => ?_) (fun s hI => ?_)
    · obtain ⟨hL, hin, hR, hH, hB⟩ := hI
      have er : ls.getD i default = rd ls i := rfl
      have e : (((i : Int) - 1)).toNat = i - 1 := by omega
      have er2 : ls.getD (i - 1) default = rd ls (i - 1) := rfl
      rw [e, er, er2]
      refine wp_bind (risRound_wp V (rd ls i) (hF.2 i hi)) (fun y hy => ?_)
      cases y with
      | false =>
        refine wp_must (fun h => by cases h) (wp_must (fun h => by cases h) (wp_must (fun h => by cases h) (wp_must (fun h => by cases h) (wp_true rfl (wp_some (.inr (.inl ⟨V, fun A => ?_, rfl⟩)))))))
        have := hy.2 (A.round i hi); cases this
      | true =>
        have hRi := hy.1 rfl
        have hne := hRi.ne
        have hpp : 0 < i → 0 < (rd ls (i - 1)).length := fun h => (hR (i - 1) (by omega)).1.ne
        refine wp_must (fun _ => by have := hF.1; unfold inI; omega) (wp_must (fun h => by simp at h; omega) (wp_must (fun h => by have := hpp (by simpa using h); omega) (wp_must (fun h => by omega) ?_)))
        refine wp_bif (fun h => wp_some (.inr (.inl ⟨V, fun A => ?_, rfl⟩))) (fun h => ?_)
        · simp only [Bool.not_true, Bool.false_or, Bool.and_eq_true, decide_eq_true_eq] at h
          have := A.heads i (by omega) hi
          omega
        · simp only [Bool.not_true, Bool.false_or, Bool.and_eq_false_iff, decide_eq_false_iff_not] at h
          have hhead : 0 < i → (rd ls (i - 1)).getD 0 default < (rd ls i).getD 0 default := fun h0 => by rcases h with h | h <;> omega
          have hh0 := hRi.rng 0 hne
          have hge : (i : Int) ≤ (rd ls i).getD 0 default := by
            by_cases h0 : 0 < i
            · have := hhead h0
              have := (hR (i - 1) (by omega)).2
              omega
            · omega
          have hnd := hRi.nodup V
          have htk : ∀ m x, ((rd ls i).take m).count x ≤ 1 := fun m x => List.nodup_iff_count.1 (List.Pairwise.sublist (List.take_sublist m _) hnd) x
          refine wp_range (fun m s => s.length = c.Tasks.length ∧ ∀ x : Nat, x < c.Tasks.length → s.getD x default = ((flat ls i ++ (rd ls i).take m).count (x : Int) : Int)) ⟨hL, fun x hx => by rw [(hB x hx).1]; simp⟩ (fun m s K' hm hI' hK' => ?_) (fun s hI' => ?_)
          · obtain ⟨hL', hB'⟩ := hI'
            obtain ⟨b1, b2⟩ := hRi.rng m hm
            obtain ⟨b, hb⟩ := Int.eq_ofNat_of_zero_le b1
            rw [hb]
            have eb : ((b : Int)).toNat = b := rfl
            rw [eb]
            have hbn : b < c.Tasks.length := by omega
            have hcnt := hB' b hbn
            have hc2 : (flat ls i ++ (rd ls i).take m).count (b : Int) ≤ i + 1 := by
              rw [List.count_append]
              have := (hB b hbn).2
              have := htk m (b : Int)
              omega
            refine wp_must (by omega) (wp_mustI (by omega) (wp_must (by omega) (hK' _ ⟨by rw [List.length_set]; exact hL', fun x hx => ?_⟩)))
            rw [getD_set _ _ _ _ _ (by omega), take_snoc hm, hb, ← List.append_assoc, List.count_append]
            by_cases e : x = b
            · subst e
              rw [if_pos rfl, hcnt]; simp
            · rw [if_neg e, hB' x hx]
              have : List.count (x : Int) [(b : Int)] = 0 := List.count_eq_zero.2 (by simp; omega)
              rw [this]; simp
          · obtain ⟨hL', hB'⟩ := hI'
            rw [List.take_length] at hB'
            rw [← flat_succ hi] at hB'
            refine hK _ ⟨hL', by omega, fun k hk => ?_, fun k h0 hk => ?_, fun x hx => ⟨hB' x hx, ?_⟩⟩
            · by_cases e : k = i
              · subst e; exact ⟨hRi, hge⟩
              · exact hR k (by omega)
            · by_cases e : k = i
              · subst e; exact hhead h0
              · exact hH k h0 (by omega)
            · rw [flat_succ hi, List.count_append]
              have := (hB x hx).2
              have := List.nodup_iff_count.1 hnd (x : Int)
              omega
    · obtain ⟨hL, hin, hR, hH, hB⟩ := hI
      rw [flat_all] at hB
      refine wp_must (by omega) ?_
      rw [hL]
      refine wp_forall (fun x => ls.flatten.count (x : Int) = 1) (fun x K hx _ hK => ?_) (fun h => ?_)
      · rw [(hB x hx).1]
        refine wp_ifn (fun h => wp_some (.inr (.inl ⟨V, fun A => ?_, rfl⟩))) (fun h => hK (by omega))
        have h1 := List.nodup_iff_count.1 A.nd (x : Int)
        have h2 := List.count_pos_iff.2 (A.all x hx)
        omega
      · refine wp_some (.inr (.inr ⟨V, ⟨fun k hk => (hR k hk).1, hH, ?_, fun x hx => List.count_pos_iff.1 (by rw [h x hx]; omega)⟩, rfl⟩))
        rw [List.nodup_iff_count]
        intro a
        by_cases ha : a ∈ ls.flatten
        · obtain ⟨r, hr, har⟩ := List.mem_flatten.1 ha
          obtain ⟨k, hk, rfl⟩ := mem_getD hr
          obtain ⟨m, hm, rfl⟩ := mem_getD har
          obtain ⟨b1, b2⟩ := ((hR k hk).1).rng m hm
          obtain ⟨b, hb⟩ := Int.eq_ofNat_of_zero_le b1
          have hb : (ls.getD k default).getD m default = (b : Int) := hb
          rw [hb, h b (by have : (rd ls k).getD m default = (b : Int) := hb; omega)]; omega
        · rw [List.count_eq_zero.2 ha]; omega
  · rw [chk_not V]
    exact wp_true rfl (wp_some (.inl ⟨V, rfl⟩))
theorem asked_wp (c : Crew) (ls : List (List Int)) (hF : Fit ls) : Wp (crew_asked c ls) (fun r => (¬ Valid c ∧ r = (none, 42)) ∨ (Valid c ∧ ¬ AreRounds (fol c Range.Hi) c.Tasks.length ls ∧ r = (none, 43)) ∨
    (Valid c ∧ AreRounds (fol c Range.Hi) c.Tasks.length ls ∧ ∃ p, r = (some p, 0) ∧ p.Crew = c ∧ IsPlan c.Tasks.length (fol c Range.Hi) p)) := by
  unfold crew_asked
  refine wp_bindE (check_eq c) ?_
  by_cases V : Valid c
  · rw [chk_valid V]
    refine wp_false rfl ?_
    rw [most_fun]
    refine wp_bind (newPlan_wp V (.inr rfl)) (fun y hy => ?_)
    obtain ⟨p, rfl, hpc, IP⟩ := hy
    refine wp_must rfl (wp_bind (areRounds_wp IP ls hF) (fun y hy => ?_))
    cases y with
    | false => exact wp_true rfl (wp_some (.inr (.inl ⟨V, fun A => (by have := hy.2 A; cases this), rfl⟩)))
    | true => exact wp_false rfl (wp_some (.inr (.inr ⟨V, hy.1 rfl, p, rfl, hpc, IP⟩)))
  · rw [chk_not V]
    exact wp_true rfl (wp_some (.inl ⟨V, rfl⟩))
noncomputable def ckR (c : Crew) (ls : List (List Int)) : Int := ck (Valid c) (ck (AreRounds (fol c Range.Hi) c.Tasks.length ls) 0 43) 42
theorem ckR_zero {c : Crew} {ls : List (List Int)} : ckR c ls = 0 ↔ Valid c ∧ AreRounds (fol c Range.Hi) c.Tasks.length ls := by
  unfold ckR
  by_cases V : Valid c
  · rw [ck_pos V]
    by_cases A : AreRounds (fol c Range.Hi) c.Tasks.length ls
    · rw [ck_pos A]; exact ⟨fun _ => ⟨V, A⟩, fun _ => rfl⟩
    · rw [ck_neg A]; exact ⟨fun h => (by cases h), fun h => absurd h.2 A⟩
  · rw [ck_neg V]; exact ⟨fun h => (by cases h), fun h => absurd h.1 V⟩
theorem rcheckRounds_eq (c : Crew) (ls : List (List Int)) (hF : Fit ls) : gasolierref04_CheckRounds c ls = some (ckR c ls) := by
  refine Wp.eq ((rcheckRounds_wp c ls hF).mono (fun y hy => ?_))
  unfold ckR
  rcases hy with ⟨h, rfl⟩ | ⟨h, h2, rfl⟩ | ⟨h, h2, rfl⟩
  · rw [ck_neg h]
  · rw [ck_pos h, ck_neg h2]
  · rw [ck_pos h, ck_pos h2]
end
end Go.Sp
end
/- Plain laws, crew: cuts; the rounds and the cut that are returned. No program in sight. -/
section
set_option linter.all false
namespace Go.Sp
open Go.Av
set_option maxRecDepth 100000
structure CutL (adj : Nat → Nat → Prop) (n : Nat) (S : List Int) : Prop where
  rng : ∀ k, k < S.length → 0 ≤ S.getD k default ∧ S.getD k default < n
  asc : ∀ k, 0 < k → k < S.length → S.getD (k - 1) default < S.getD k default
  apart : ∀ m k, m < k → k < S.length → ¬ adj (S.getD k default).toNat (S.getD m default).toNat ∧ ¬ adj (S.getD m default).toNat (S.getD k default).toNat
section
variable {n : Nat} {adj : Nat → Nat → Prop} {rank : Nat → Int}
theorem cutL_asc {S : List Int} (C : CutL adj n S) : ∀ (b a : Nat), a < b → b < S.length → S.getD a default < S.getD b default
  | 0, a, h, _ => by omega
  | b + 1, a, h, hb => by
    have h1 := C.asc (b + 1) (by omega) hb
    rw [show b + 1 - 1 = b by omega] at h1
    by_cases e : a = b
    · subst e; exact h1
    · have := cutL_asc C b a (by omega) (by omega); omega
theorem CutL.cut (O : Ord adj n rank) {S : List Int} (C : CutL adj n S) : IsCut adj n (S.map Int.toNat) := by
  refine ⟨?_, fun x hx => ?_, fun x hx y hy hadj => ?_⟩
  · show List.Pairwise (· ≠ ·) _
    rw [List.pairwise_map, List.pairwise_iff_getElem]
    intro i j hi hj hij e
    have h := cutL_asc C j i hij hj
    have h1 := C.rng i hi
    have h2 := C.rng j hj
    rw [List.getD_eq_getElem?_getD, List.getElem?_eq_getElem hi] at h h1
    rw [List.getD_eq_getElem?_getD, List.getElem?_eq_getElem hj] at h h2
    simp only [Option.getD_some] at h h1 h2
    omega
  · obtain ⟨z, hz, rfl⟩ := List.mem_map.1 hx
    obtain ⟨i, hi, rfl⟩ := mem_getD hz
    have := C.rng i hi; omega
  · obtain ⟨z, hz, rfl⟩ := List.mem_map.1 hx
    obtain ⟨i, hi, rfl⟩ := mem_getD hz
    obtain ⟨w, hw, rfl⟩ := List.mem_map.1 hy
    obtain ⟨j, hj, rfl⟩ := mem_getD hw
    rcases Nat.lt_trichotomy i j with h | h | h
    · exact (C.apart i j h hj).2 hadj
    · subst h; have := O.up _ _ hadj; omega
    · exact (C.apart j i h hi).1 hadj
theorem getD_map {S T : Type} [Inhabited S] [Inhabited T] (f : S → T) {l : List S} {i : Nat} (h : i < l.length) : (l.map f).getD i default = f (l.getD i default) := by
  rw [List.getD_eq_getElem?_getD, List.getD_eq_getElem?_getD, List.getElem?_map, List.getElem?_eq_getElem h]; rfl
theorem asc_get {l : List Nat} (h : l.Pairwise (· < ·)) {i j : Nat} (hij : i < j) (hj : j < l.length) : l.getD i default < l.getD j default := by
  rw [List.pairwise_iff_getElem] at h
  have := h i j (by omega) hj hij
  rw [List.getD_eq_getElem?_getD, List.getD_eq_getElem?_getD, List.getElem?_eq_getElem hj, List.getElem?_eq_getElem (show i < l.length by omega)]
  exact this
def chn (back : Nat → Int) : Nat → Int → List Int
  | 0, _ => []
  | f + 1, k => if k < 0 then [] else k :: chn back f (back k.toNat)
theorem chn_neg {back : Nat → Int} {f : Nat} {k : Int} (h : k < 0) : chn back f k = [] := by
  cases f
  · rfl
  · unfold chn; rw [if_pos h]
theorem chn_pos {back : Nat → Int} {f : Nat} {k : Int} (h : 0 ≤ k) : chn back (f + 1) k = k :: chn back f (back k.toNat) := by
  show (if k < 0 then [] else _) = _
  rw [if_neg (by omega)]
variable {s : Ks}
theorem chn_mem (M : Mat adj n s) (O : Ord adj n rank) (top : Int) (ht : ∀ x, x < n → rank x ≤ top) : ∀ (f : Nat) (k : Nat), k < n → top - rank k < f → ∀ x : Int, x ∈ chn s.back f k ↔ ∃ y : Nat, x = (y : Int) ∧ Ch s.back k y
  | 0, k, hk, h, x => by have := ht k hk; omega
  | f + 1, k, hk, h, x => by
    rw [chn_pos (Int.natCast_nonneg k), Int.toNat_natCast, List.mem_cons]
    by_cases hb : s.back k < 0
    · rw [chn_neg hb]
      constructor
      · rintro (rfl | h)
        · exact ⟨k, rfl, .refl _⟩
        · cases h
      · rintro ⟨y, rfl, hc⟩
        cases hc with
        | refl => exact .inl rfl
        | step h1 _ => omega
    · obtain ⟨q, hq⟩ := Int.eq_ofNat_of_zero_le (show 0 ≤ s.back k by omega)
      obtain ⟨h1, _, h2⟩ := M.edge hq
      have := O.up _ _ h2
      rw [hq, chn_mem M O top ht f q h1 (by omega) x]
      constructor
      · rintro (rfl | ⟨y, rfl, hc⟩)
        · exact ⟨k, rfl, .refl _⟩
        · exact ⟨y, rfl, .step hq hc⟩
      · rintro ⟨y, rfl, hc⟩
        cases hc with
        | refl => exact .inl rfl
        | step h3 h4 =>
          right
          rename_i q'
          have : q' = q := by omega
          subst this; exact ⟨y, rfl, h4⟩
theorem chn_round (M : Mat adj n s) (O : Ord adj n rank) (top : Int) (ht : ∀ x, x < n → rank x ≤ top) : ∀ (f : Nat) (k : Nat), k < n → top - rank k < f → IsRound adj n (chn s.back f k) ∧ (chn s.back f k).getD 0 default = (k : Int) ∧ (chn s.back f k).length ≤ (top - rank k).toNat + 1
  | 0, k, hk, h => by have := ht k hk; omega
  | f + 1, k, hk, h => by
    rw [chn_pos (Int.natCast_nonneg k), Int.toNat_natCast]
    by_cases hb : s.back k < 0
    · rw [chn_neg hb]
      refine ⟨⟨by simp, fun j hj => ?_, fun j h0 hj => ?_⟩, rfl, by simp⟩
      · simp at hj; subst hj; show 0 ≤ (k : Int) ∧ (k : Int) < n; omega
      · simp at hj; omega
    · obtain ⟨q, hq⟩ := Int.eq_ofNat_of_zero_le (show 0 ≤ s.back k by omega)
      obtain ⟨h1, _, h2⟩ := M.edge hq
      have hup := O.up _ _ h2
      obtain ⟨R, hd, hlen⟩ := chn_round M O top ht f q h1 (by omega)
      have htk := ht q h1
      rw [hq]
      generalize chn s.back f (q : Int) = l at R hd hlen
      refine ⟨⟨by simp, fun j hj => ?_, fun j h0 hj => ?_⟩, rfl, by rw [List.length_cons]; omega⟩
      · cases j with
        | zero => show 0 ≤ (k : Int) ∧ (k : Int) < n; omega
        | succ j => exact R.rng j (by simpa using hj)
      · obtain ⟨j, rfl⟩ : ∃ j', j = j' + 1 := ⟨j - 1, by omega⟩
        cases j with
        | zero =>
          show adj ((k : Int)).toNat (l.getD 0 default).toNat
          rw [hd]; exact h2
        | succ j => exact R.link (j + 1) (by omega) (by simpa using hj)
theorem head_ex (M : Mat adj n s) (O : Ord adj n rank) : ∀ (b : Nat) (x : Nat), x < n → (∀ y, y < n → rank x ≤ rank y + b) → ∃ t, t < n ∧ s.own t < 0 ∧ Ch s.back t x
  | 0, x, hx, hb => by
    by_cases h : s.own x < 0
    · exact ⟨x, hx, h, .refl _⟩
    · obtain ⟨y, h1, h2⟩ := M.own x hx (by omega)
      obtain ⟨_, _, h3⟩ := M.edge h2
      have := O.up _ _ h3
      have := hb y (O.lt _ _ h3).1
      omega
  | b + 1, x, hx, hb => by
    by_cases h : s.own x < 0
    · exact ⟨x, hx, h, .refl _⟩
    · obtain ⟨y, h1, h2⟩ := M.own x hx (by omega)
      obtain ⟨_, _, h3⟩ := M.edge h2
      have hup := O.up _ _ h3
      obtain ⟨t, a, b', c⟩ := head_ex M O b y (O.lt _ _ h3).1 (fun z hz => by have := hb z hz; omega)
      exact ⟨t, a, b', c.snoc h2⟩
theorem loose_asc (n : Nat) (f : Nat → Int) : (loose n f).Pairwise (· < ·) := List.Pairwise.filter _ List.pairwise_lt_range
theorem chains_rounds (M : Mat adj n s) (O : Ord adj n rank) (lo top : Int) (hr : ∀ x, x < n → lo ≤ rank x ∧ rank x ≤ top) (f : Nat) (hf : top - lo < f) :
    AreRounds adj n ((loose n s.own).map (fun (i : Nat) => chn s.back f i)) := by
  have ht : ∀ x, x < n → rank x ≤ top := fun x hx => (hr x hx).2
  have hR : ∀ k, k < (loose n s.own).length → ∃ i : Nat, (loose n s.own).getD k default = i ∧ i < n ∧ s.own i < 0 ∧ rd ((loose n s.own).map (fun (i : Nat) => chn s.back f i)) k = chn s.back f (i : Int) ∧ IsRound adj n (chn s.back f i) ∧ (chn s.back f i).getD 0 default = (i : Int) := by
    intro k hk
    have hm := mem_loose.1 (getD_mem hk)
    have := hr _ hm.1
    have h := chn_round M O top ht f _ hm.1 (by omega)
    exact ⟨_, rfl, hm.1, hm.2, getD_map _ hk, h.1, h.2.1⟩
  refine ⟨fun k hk => ?_, fun k h0 hk => ?_, ?_, fun x hx => ?_⟩
  · rw [List.length_map] at hk
    obtain ⟨i, _, _, _, h3, h4, _⟩ := hR k hk
    rw [h3]; exact h4
  · rw [List.length_map] at hk
    obtain ⟨i, e1, _, _, h3, _, h5⟩ := hR k hk
    obtain ⟨j, e2, _, _, g3, _, g5⟩ := hR (k - 1) (by omega)
    rw [h3, g3, h5, g5]
    have := asc_get (loose_asc n s.own) (show k - 1 < k by omega) hk
    omega
  · show List.Pairwise (· ≠ ·) _
    rw [List.pairwise_flatten]
    refine ⟨fun l hl => ?_, ?_⟩
    · obtain ⟨i, hi, rfl⟩ := List.mem_map.1 hl
      have hm := mem_loose.1 hi
      have := hr _ hm.1
      have R := (chn_round M O top ht f _ hm.1 (by omega)).1
      rw [List.pairwise_iff_getElem]
      have up : ∀ (b a : Nat), a < b → b < (chn s.back f (i : Int)).length → rank ((chn s.back f (i : Int)).getD a default).toNat < rank ((chn s.back f (i : Int)).getD b default).toNat := by
        intro b
        induction b with
        | zero => intro a h; omega
        | succ b ih =>
          intro a h hb
          have h1 := O.up _ _ (R.link (b + 1) (by omega) hb)
          rw [show b + 1 - 1 = b by omega] at h1
          by_cases e : a = b
          · subst e; exact h1
          · have := ih a (by omega) (by omega); omega
      intro a b ha hb hab e
      have := up b a hab hb
      rw [List.getD_eq_getElem?_getD, List.getD_eq_getElem?_getD, List.getElem?_eq_getElem ha, List.getElem?_eq_getElem hb, e] at this
      omega
    · rw [List.pairwise_map]
      have h1 : (loose n s.own).Pairwise (· ≠ ·) := nodup_loose n s.own
      refine List.Pairwise.imp_of_mem (fun {i j} hi hj hne x hx y hy e => ?_) h1
      subst e
      have hmi := mem_loose.1 hi
      have hmj := mem_loose.1 hj
      have ri := hr _ hmi.1
      have rj := hr _ hmj.1
      obtain ⟨a, rfl, ca⟩ := (chn_mem M O top ht f i hmi.1 (by omega) x).1 hx
      obtain ⟨b, hb, cb⟩ := (chn_mem M O top ht f j hmj.1 (by omega) _).1 hy
      have : a = b := by omega
      subst this
      have no : ∀ {i j : Nat}, s.own j < 0 → i ≠ j → ¬ Ch s.back i j := fun {i j} hj hne hc => by
        rcases hc.last with h | ⟨w, _, hw⟩
        · exact hne h
        · have := (M.edge hw).2.1; omega
      rcases Ch.both M ca cb with h | h
      · exact no hmj.2 hne h
      · exact no hmi.2 (Ne.symm hne) h
  · obtain ⟨t, h1, h2, h3⟩ := head_ex M O (top - lo).toNat x hx (fun y hy => by have := hr x hx; have := hr y hy; omega)
    refine List.mem_flatten.2 ⟨chn s.back f (t : Int), List.mem_map.2 ⟨t, mem_loose.2 ⟨h1, h2⟩, rfl⟩, ?_⟩
    have := hr t h1
    exact (chn_mem M O top ht f t h1 (by omega) _).2 ⟨x, rfl, h3⟩
end
end Go.Sp
end
/- Plain laws, crew: the rounds and the cut that are returned; CrewFewest. No program in sight. -/
section
set_option linter.all false
namespace Go.Sp
open Go.Av
set_option maxRecDepth 100000
theorem room8 {n : Nat} (h : n ≤ 3000) : room n 8 := by unfold room; omega
theorem room24 {n : Nat} (h : n ≤ 3000) : room n 24 := by unfold room; omega
section
variable {c : Crew}
theorem rounds_wp (V : Valid c) {fuel : Nat} (hf : 2000 ≤ fuel) : Wp (crew_Rounds fuel c) (fun r => r.2 = 0 ∧ AreRounds (fol c Range.Hi) c.Tasks.length r.1 ∧ r.1.length = nr c Range.Hi ∧ Fit r.1 ∧ ∀ k, k < r.1.length → (rd r.1 k).length ≤ 2000) := by
  have hn := V.tasks
  unfold crew_Rounds
  refine wp_bindE (check_eq c) ?_
  rw [chk_valid V]
  refine wp_false rfl ?_
  rw [most_fun]
  refine wp_bind (newPlan_wp V (.inr rfl)) (fun y hy => ?_)
  obtain ⟨p, rfl, hpc, IP⟩ := hy
  refine wp_must rfl (wp_bind (pair_wp IP (by omega)) (fun y hy => ?_))
  obtain ⟨hP, seen, D, hK⟩ := hy
  obtain ⟨own, back⟩ := y
  dsimp only at hP hK ⊢
  have hol := hP.ol
  have hbl := hP.bl
  have O := fol_ord V (.inr rfl : EndOf Range.Hi)
  have M := hK.mat
  have hat : ∀ x, x < c.Tasks.length → (0 : Int) ≤ (tk c x).At ∧ (tk c x).At ≤ 1439 := fun x hx => by have := V.at hx; omega
  have htop : ∀ x, x < c.Tasks.length → (tk c x).At ≤ 1439 := fun x hx => (hat x hx).2
  refine wp_range (fun i s => s = (loose i (ab own)).map (fun (h : Nat) => chn (ab back) 1441 h)) rfl (fun i s K hi hI hK' => ?_) (fun s hI => wp_some ?_)
  · have hi' : i < c.Tasks.length := by omega
    have e : own.getD i default = ab own i := (ab_lt hi).symm
    have hl : loose (i + 1) (ab own) = loose i (ab own) ++ if ab own i < 0 then [i] else [] := by
      unfold loose
      rw [List.range_succ, List.filter_append, List.filter_cons]
      split <;> rename_i h <;> simp at h <;> simp [h]
    have hle : (loose i (ab own)).length ≤ i := by unfold loose; exact Nat.le_trans (List.length_filter_le _ _) (by simp)
    rw [e]
    refine wp_ifd (fun h => hK' _ ?_) (fun h => ?_)
    · rw [hl, if_neg (by omega), List.append_nil]; exact hI
    · refine wp_loop (fun s => s.1 < c.Tasks.length ∧ s.2.length ≤ 1441 ∧ ∃ f : Nat, s.2 ++ chn (ab back) f s.1 = chn (ab back) 1441 (i : Int) ∧ (0 ≤ s.1 → 1439 - (tk c s.1.toNat).At < f ∧ s.2.length + f ≤ 1441)) (fun s => if s.1 < 0 then 0 else (1440 - (tk c s.1.toNat).At).toNat + 1)
        (by dsimp only; rw [if_neg (by omega)]; have := hat i hi'; rw [Int.toNat_natCast]; omega) ⟨by dsimp only; omega, by simp, 1441, rfl, fun _ => by have := hat i hi'; dsimp only; rw [Int.toNat_natCast]; simp; omega⟩ (fun s2 K2 hI2 hK2 => ?_)
      obtain ⟨k, l⟩ := s2
      obtain ⟨h2, h3, f, h4, h5⟩ := hI2
      dsimp only at h2 h3 h4 h5 hK2 ⊢
      refine wp_ifd (fun h' => ?_) (fun h' => ?_)
      · obtain ⟨q, rfl⟩ := Int.eq_ofNat_of_zero_le h'
        rw [Int.toNat_natCast] at h5 ⊢
        have hq : q < c.Tasks.length := by omega
        obtain ⟨g1, g2⟩ := h5 h'
        have hatq := hat q hq
        obtain ⟨f, rfl⟩ : ∃ f', f = f' + 1 := ⟨f - 1, by omega⟩
        rw [chn_pos h', Int.toNat_natCast] at h4
        refine wp_must (by rw [List.length_append]; exact room8 (by simp; omega)) (wp_must (by omega) ?_)
        have eb : back.getD q default = ab back q := (ab_lt (by omega)).symm
        rw [eb]
        have hb2 : ab back q < 0 ∨ ∃ z : Nat, ab back q = (z : Int) ∧ z < c.Tasks.length ∧ (tk c q).At < (tk c z).At := by
          by_cases hneg : ab back q < 0
          · exact .inl hneg
          · obtain ⟨z, hz⟩ := Int.eq_ofNat_of_zero_le (show 0 ≤ ab back q by omega)
            obtain ⟨a1, _, a2⟩ := M.edge hz
            exact .inr ⟨z, hz, a1, O.up _ _ a2⟩
        refine hK2 _ ⟨?_, by simp; omega, f, by rw [List.append_assoc]; exact h4, fun h0 => ?_⟩ ?_
        · rcases hb2 with h | ⟨z, h, h', _⟩ <;> dsimp only <;> omega
        · dsimp only at h0 ⊢
          rcases hb2 with h | ⟨z, h, h', h''⟩
          · omega
          · rw [h, Int.toNat_natCast]
            exact ⟨by omega, by rw [List.length_append, List.length_singleton]; omega⟩
        · dsimp only
          rw [if_neg (show ¬ ((q : Int) < 0) by omega)]
          rcases hb2 with h | ⟨z, h, h', h''⟩
          · rw [if_pos h]; omega
          · rw [if_neg (by omega), h]
            simp only [Int.toNat_natCast]
            have := hat z h'
            omega
      · rw [chn_neg (by omega), List.append_nil] at h4
        subst h4
        have hsl : s.length ≤ i := by rw [hI, List.length_map]; exact hle
        refine wp_must (by rw [List.length_append]; exact room24 (by simp; omega)) (hK' _ ?_)
        rw [hl, if_pos (by omega), List.map_append, hI]; rfl
  · have A := chains_rounds M O 0 1439 hat 1441 (by omega)
    rw [hol] at hI
    subst hI
    have hlen : ((loose c.Tasks.length (ab own)).map (fun (h : Nat) => chn (ab back) 1441 h)).length = nr c Range.Hi := by
      have h1 := kuhn_most hK O (fun k hk => (hP.ok k hk).2)
      have h2 := loose_own M hK.rest (fun k hk => (hP.ok k hk).2)
      rw [List.length_map, nr_eq h1]; exact h2
    have hrd : ∀ k, k < ((loose c.Tasks.length (ab own)).map (fun (h : Nat) => chn (ab back) 1441 h)).length → (rd ((loose c.Tasks.length (ab own)).map (fun (h : Nat) => chn (ab back) 1441 h)) k).length ≤ 2000 := fun k hk => by
      rw [List.length_map] at hk
      have e : rd ((loose c.Tasks.length (ab own)).map (fun (h : Nat) => chn (ab back) 1441 h)) k = chn (ab back) 1441 ((loose c.Tasks.length (ab own)).getD k default : Nat) := getD_map _ hk
      have hm := mem_loose.1 (getD_mem hk)
      have := hat _ hm.1
      have := (chn_round M O 1439 htop 1441 _ hm.1 (by omega)).2.2
      rw [e]; exact Nat.le_trans this (by omega)
    refine ⟨rfl, A, hlen, ⟨?_, fun k hk => Nat.le_trans (hrd k hk) (by omega)⟩, hrd⟩
    rw [List.length_map]
    have : (loose c.Tasks.length (ab own)).length ≤ c.Tasks.length := by unfold loose; exact Nat.le_trans (List.length_filter_le _ _) (by simp)
    omega
end
end Go.Sp
end
/- Plain laws, crew: the cut that is returned; CrewFewest. No program in sight. -/
section
set_option linter.all false
namespace Go.Sp
open Go.Av
set_option maxRecDepth 100000
section
variable {n : Nat} {adj : Nat → Nat → Prop} {p : crew_plan}
end
section
variable {c : Crew}
theorem sane4 : gasolierlaw04_sane 20000 = some true := by kernel_rfl
end
end Go.Sp
end
/- Plain laws, crew: slack, and who is late; CrewLate. No program in sight. -/
section
set_option linter.all false
namespace Go.Sp
open Go.Av
set_option maxRecDepth 100000
theorem sort_eq {l : List Int} (h : l.length ≤ 100000) : slices_Sort_int_l l = some (isort l) := must_yes (by omega) _
def upd1 (o g : Int) : Int := if o < 0 ∨ g < o then g else o
def rk (r : List Int) (k : Nat) : Nat := (r.getD k default).toNat
def slr (c : Crew) (r : List Int) : Nat → Int → Int
  | 0, o => o
  | k + 1, o => upd1 (slr c r k o) (gap c Range.Hi (rk r k) (rk r (k + 1)))
def slo (c : Crew) (ls : List (List Int)) : Nat → Int
  | 0 => -1
  | i + 1 => slr c (rd ls i) ((rd ls i).length - 1) (slo c ls i)
section
variable {c : Crew} {ls : List (List Int)}
theorem round_len {n : Nat} {l : List Int} (hnd : l.Nodup) (hr : ∀ x ∈ l, 0 ≤ x ∧ x < n) : l.length ≤ n := by
  have := length_le_inj (r := List.range n) Int.toNat hnd (fun x hx => List.mem_range.2 (by have := hr x hx; omega)) (fun x hx y hy e => by have := hr x hx; have := hr y hy; omega)
  rwa [List.length_range] at this
theorem IsRound.mem {adj : Nat → Nat → Prop} {n : Nat} {l : List Int} (R : IsRound adj n l) : ∀ x ∈ l, 0 ≤ x ∧ x < n := fun x hx => by
  obtain ⟨k, hk, rfl⟩ := mem_getD hx; exact R.rng k hk
theorem IsRound.rk {adj : Nat → Nat → Prop} {n : Nat} {l : List Int} (R : IsRound adj n l) {k : Nat} (hk : k < l.length) : l.getD k default = ((rk l k : Nat) : Int) ∧ rk l k < n := by
  have := R.rng k hk; unfold Sp.rk; omega
theorem IsRound.len {V : Valid c} {l : List Int} (R : IsRound (fol c Range.Hi) c.Tasks.length l) : l.length ≤ 24 := by
  have := round_len (R.nodup V) R.mem; have := V.tasks; omega
theorem slack_eq (V : Valid c) (hF : Fit ls) (A : AreRounds (fol c Range.Hi) c.Tasks.length ls) {fuel : Nat} (hf : 30 ≤ fuel) : crew_Slack fuel c ls = some (if slo c ls ls.length < 0 then (0, 3) else (slo c ls ls.length, 0)) := by
  refine Wp.eq ?_
  unfold crew_Slack
  refine wp_bind (asked_wp c ls hF) (fun y hy => ?_)
  have hy2 : y.2 = 0 := by
    rcases hy with ⟨h, rfl⟩ | ⟨h, h2, rfl⟩ | ⟨h, h2, p, rfl, _⟩
    · exact absurd V h
    · exact absurd A h2
    · rfl
  rw [hy2]
  refine wp_false rfl ?_
  refine wp_range (fun i s => s = slo c ls i) rfl (fun i s K hi hI hK => ?_) (fun s hI => ?_)
  · subst hI
    have R := A.round i hi
    have hl := R.len (V := V)
    have hne := R.ne
    have er : ls.getD i default = rd ls i := rfl
    rw [er, most_fun]
    refine wp_loop (fun s => 1 ≤ s.1 ∧ s.1 ≤ (rd ls i).length ∧ s.2 = slr c (rd ls i) (s.1.toNat - 1) (slo c ls i)) (fun s => ((rd ls i).length - s.1.toNat)) (by dsimp only; omega) ⟨by dsimp only; omega, by dsimp only; omega, rfl⟩ (fun s K' hI' hK' => ?_)
    obtain ⟨k, o⟩ := s
    obtain ⟨h1, h2, h3⟩ := hI'
    dsimp only at h1 h2 h3 hK' ⊢
    subst h3
    obtain ⟨k, rfl⟩ : ∃ m : Nat, k = (m : Int) + 1 := ⟨(k - 1).toNat, by omega⟩
    have e1 : (((k : Int) + 1 - 1)).toNat = k := by omega
    have e2 : (((k : Int) + 1)).toNat = k + 1 := by omega
    have e3 : (((k : Int) + 1)).toNat - 1 = k := by omega
    refine wp_ifd (fun h => ?_) (fun h => hK _ ?_)
    · obtain ⟨q1, q2⟩ := R.rk (show k < (rd ls i).length by omega)
      obtain ⟨q3, q4⟩ := R.rk (show k + 1 < (rd ls i).length by omega)
      rw [e3]
      refine wp_mustI (by omega) (wp_must (by omega) (wp_must (by omega) ?_))
      rw [e1, e2, q1, q3]
      refine wp_bindE (spare_eq V (.inr rfl) q2 q4) ?_
      refine wp_bif (fun h => wp_mustI (by omega) (hK' _ ⟨by dsimp only; omega, by dsimp only; omega, ?_⟩ (by dsimp only; omega))) (fun h => wp_mustI (by omega) (hK' _ ⟨by dsimp only; omega, by dsimp only; omega, ?_⟩ (by dsimp only; omega)))
      · dsimp only
        rw [show ((k : Int) + 1 + 1).toNat - 1 = k + 1 by omega]
        show _ = upd1 _ _
        unfold upd1
        rw [if_pos (by simpa using h)]
      · dsimp only
        rw [show ((k : Int) + 1 + 1).toNat - 1 = k + 1 by omega]
        show _ = upd1 _ _
        unfold upd1
        rw [if_neg (by simpa using h)]
    · rw [e3]
      show slr c (rd ls i) k (slo c ls i) = slr c (rd ls i) ((rd ls i).length - 1) (slo c ls i)
      rw [show (rd ls i).length - 1 = k by omega]
  · subst hI
    exact wp_ifd (fun h => wp_some (by rw [if_pos h])) (fun h => wp_some (by rw [if_neg h]))
end
end Go.Sp
end
/- Plain laws, crew: who is late; CrewLate. No program in sight. -/
section
set_option linter.all false
namespace Go.Sp
open Go.Av
set_option maxRecDepth 100000
def atk (c : Crew) (r w : List Int) : Nat → Int
  | 0 => (tk c (rk r 0)).At
  | k + 1 => max (atk c r w k + (tk c (rk r k)).Serve + w.getD k default) (tk c (rk r (k + 1))).At
def thr (c : Crew) (r w : List Int) (k : Nat) : Int := atk c r w k + (tk c (rk r k)).Serve + w.getD k default
theorem atk_succ (c : Crew) (r w : List Int) (k : Nat) : atk c r w (k + 1) = max (thr c r w k) (tk c (rk r (k + 1))).At := rfl
def ltr (c : Crew) (r w : List Int) : Nat → List Int
  | 0 => []
  | k + 1 => ltr c r w k ++ if (tk c (rk r (k + 1))).At < thr c r w k then [r.getD (k + 1) default] else []
def lta (c : Crew) (ls ws : List (List Int)) : Nat → List Int
  | 0 => []
  | i + 1 => lta c ls ws i ++ ltr c (rd ls i) (rd ws i) ((rd ls i).length - 1)
structure WalksOk (ls ws : List (List Int)) : Prop where
  len : ws.length = ls.length
  row : ∀ k, k < ls.length → (rd ws k).length = (rd ls k).length - 1
  rng : ∀ k, k < ls.length → ∀ m, m < (rd ws k).length → 0 ≤ (rd ws k).getD m default ∧ (rd ws k).getD m default ≤ 600
theorem containsFunc_eq (l : List Int) (g : Int → Bool) : slices_ContainsFunc_int l (fun x => some (g x)) = some (l.any g) := by
  refine Wp.eq ?_
  unfold slices_ContainsFunc_int
  refine wp_bind (Q := fun r => (0 ≤ r ∧ l.any g = true) ∨ (r = -1 ∧ l.any g = false)) ?_ (fun y hy => wp_some ?_)
  · unfold slices_IndexFunc_int
    refine wp_forall (fun i => g (l.getD i default) = false) (fun i K hi _ hK => ?_) (fun h => wp_some (.inr ⟨rfl, ?_⟩))
    · refine wp_bindE rfl (wp_bif (fun h => wp_some (.inl ⟨Int.natCast_nonneg i, ?_⟩)) (fun h => hK h))
      exact List.any_eq_true.2 ⟨_, getD_mem hi, h⟩
    · rw [List.any_eq_false]
      intro x hx
      obtain ⟨i, hi, rfl⟩ := mem_getD hx
      rw [h i hi]; simp
  · rcases hy with ⟨h1, h2⟩ | ⟨rfl, h2⟩
    · rw [h2, decide_eq_true h1]
    · rw [h2]; rfl
theorem areWalks_wp {ls ws : List (List Int)} (hF : Fit ls) (hne : ∀ k, k < ls.length → 0 < (rd ls k).length) : Wp (crew_areWalks ls ws) (fun r => r = true ↔ WalksOk ls ws) := by
  unfold crew_areWalks
  refine wp_ifn (fun h => wp_some ⟨fun h => (by cases h), fun W => absurd (show ((ws.length : Nat) : Int) = ((ls.length : Nat) : Int) by rw [W.len]) h⟩) (fun h => ?_)
  have hl : ws.length = ls.length := by omega
  refine wp_forall (fun k => (rd ws k).length = (rd ls k).length - 1 ∧ ∀ m, m < (rd ws k).length → 0 ≤ (rd ws k).getD m default ∧ (rd ws k).getD m default ≤ 600) (fun k K hk _ hK => ?_) (fun h => wp_some ⟨fun _ => ⟨hl, fun k hk => (h k (by omega)).1, fun k hk => (h k (by omega)).2⟩, fun _ => rfl⟩)
  have h1 := hne k (by omega)
  have h2 := hF.2 k (by omega)
  have e1 : ls.getD k default = rd ls k := rfl
  have e2 : ws.getD k default = rd ws k := rfl
  rw [e1, e2]
  refine wp_must (by omega) (wp_mustI (by omega) ?_)
  have hc : (fun x0 => some (crew_areWalks_1 x0)) = fun x => some (!(crew_in x 0 600)) := rfl
  rw [hc]
  refine wp_on (Q := fun r => r = (rd ws k).any (fun x => !(crew_in x 0 600))) (fun _ => Wp.of_eq (containsFunc_eq _ _) rfl) (fun y hy => ?_)
  refine wp_bif (fun h => wp_some ⟨fun h => (by cases h), fun W => ?_⟩) (fun h => ?_)
  · have hr := W.row k (by omega)
    have ed : decide ((((rd ws k).length : Nat) : Int) = ((((rd ls k).length : Nat) : Int) - 1)) = true := decide_eq_true (by omega)
    rw [ed] at h hy
    have := hy rfl
    subst this
    have h : (rd ws k).any (fun x => !(crew_in x 0 600)) = true := by simpa using h
    obtain ⟨x, hx, hb⟩ := List.any_eq_true.1 h
    obtain ⟨m, hm, rfl⟩ := mem_getD hx
    have := W.rng k (by omega) m hm
    rw [in_iff.2 this] at hb; cases hb
  · simp only [Bool.or_eq_false_iff, Bool.not_eq_false', decide_eq_true_eq] at h
    have := hy (by rw [decide_eq_true h.1]; rfl)
    subst this
    refine hK ⟨by omega, fun m hm => ?_⟩
    have := List.any_eq_false.1 h.2 _ (getD_mem hm)
    have : crew_in ((rd ws k).getD m default) 0 600 = true := by simpa using this
    exact in_iff.1 this
section
variable {c : Crew} {ls ws : List (List Int)}
theorem atk_rng (V : Valid c) {r w : List Int} (R : IsRound (fol c Range.Hi) c.Tasks.length r) (hw : w.length = r.length - 1) (hr : ∀ m, m < w.length → 0 ≤ w.getD m default ∧ w.getD m default ≤ 600) : ∀ k, k < r.length → 0 ≤ atk c r w k ∧ atk c r w k ≤ 1439 + 720 * k
  | 0, h => by have := V.at (R.rk h).2; unfold atk; omega
  | k + 1, h => by
    have ih := atk_rng V R hw hr k (by omega)
    have h1 := V.at (R.rk (show k < r.length by omega)).2
    have h2 := V.at (R.rk h).2
    have h3 := hr k (by omega)
    unfold atk; omega
theorem ltr_sub (c : Crew) (r w : List Int) : ∀ k, k < r.length → (ltr c r w k).Sublist (r.take (k + 1))
  | 0, _ => List.nil_sublist _
  | k + 1, h => by
    rw [take_snoc h]
    show List.Sublist (_ ++ _) _
    refine List.Sublist.append (ltr_sub c r w k (by omega)) ?_
    split
    · exact List.Sublist.refl _
    · exact List.nil_sublist _
theorem lta_sub (c : Crew) (ls ws : List (List Int)) : ∀ i, i ≤ ls.length → (∀ k, k < ls.length → 0 < (rd ls k).length) → (lta c ls ws i).Sublist (flat ls i)
  | 0, _, _ => List.nil_sublist _
  | i + 1, h, hne => by
    rw [flat_succ (by omega)]
    show List.Sublist (_ ++ _) _
    refine List.Sublist.append (lta_sub c ls ws i (by omega) hne) ?_
    have h1 := hne i (by omega)
    have := ltr_sub c (rd ls i) (rd ws i) ((rd ls i).length - 1) (by omega)
    rwa [show (rd ls i).length - 1 + 1 = (rd ls i).length by omega, List.take_length] at this
theorem AreRounds.mem {adj : Nat → Nat → Prop} {n : Nat} (A : AreRounds adj n ls) : ∀ x ∈ ls.flatten, 0 ≤ x ∧ x < n := fun x hx => by
  obtain ⟨r, hr, hxr⟩ := List.mem_flatten.1 hx
  obtain ⟨k, hk, rfl⟩ := mem_getD hr
  exact (A.round k hk).mem x hxr
theorem late_nodup (A : AreRounds (fol c Range.Hi) c.Tasks.length ls) {i k : Nat} (hi : i < ls.length) (hk : k < (rd ls i).length) : (lta c ls ws i ++ ltr c (rd ls i) (rd ws i) k).Nodup ∧ (lta c ls ws i ++ ltr c (rd ls i) (rd ws i) k).length ≤ c.Tasks.length ∧
    (∀ h : k + 1 < (rd ls i).length, (rd ls i).getD (k + 1) default ∉ lta c ls ws i ++ ltr c (rd ls i) (rd ws i) k) := by
  have s1 := List.Sublist.append (lta_sub c ls ws i (by omega) (fun k hk => (A.round k hk).ne)) (ltr_sub c (rd ls i) (rd ws i) k hk)
  obtain ⟨r, hr⟩ := flat_pre (m := k + 1) hi
  have s2 : (lta c ls ws i ++ ltr c (rd ls i) (rd ws i) k).Sublist ls.flatten := by
    rw [hr]; exact s1.trans (List.sublist_append_left _ _)
  have hnd := A.nd.sublist s2
  refine ⟨hnd, round_len hnd (fun x hx => A.mem x (s2.subset hx)), fun h hm => ?_⟩
  obtain ⟨r', hr'⟩ := flat_pre (m := k + 1 + 1) hi
  have hnd' := A.nd
  rw [hr', take_snoc h, ← List.append_assoc] at hnd'
  exact (List.nodup_append.1 (List.nodup_append.1 hnd').1).2.2 _ (s1.subset hm) _ (List.mem_singleton.2 rfl) rfl
theorem late_eq (V : Valid c) (hF : Fit ls) (A : AreRounds (fol c Range.Hi) c.Tasks.length ls) : crew_Late c ls ws = some (ck (WalksOk ls ws) (isort (lta c ls ws ls.length), 0) ([], 48)) := by
  refine wp_ck ?_
  unfold crew_Late
  have hn := V.tasks
  refine wp_bind (asked_wp c ls hF) (fun y hy => ?_)
  have hy2 : y.2 = 0 := by
    rcases hy with ⟨h, rfl⟩ | ⟨h, h2, rfl⟩ | ⟨h, h2, p, rfl, _⟩
    · exact absurd V h
    · exact absurd A h2
    · rfl
  rw [hy2]
  refine wp_false rfl (wp_bind (areWalks_wp hF (fun k hk => (A.round k hk).ne)) (fun y hy => ?_))
  cases y with
  | false => exact wp_true rfl (wp_some (.inr ⟨fun W => (by have := hy.2 W; cases this), rfl⟩))
  | true =>
    have W := hy.1 rfl
    refine wp_false rfl ?_
    refine wp_range (fun i s => s = lta c ls ws i) rfl (fun i s K hi hI hK => ?_) (fun s hI => ?_)
    · subst hI
      have R := A.round i hi
      have hl := R.len (V := V)
      have hne := R.ne
      have hrow := W.row i hi
      have e1 : ls.getD i default = rd ls i := rfl
      have e2 : ws.getD i default = rd ws i := rfl
      obtain ⟨q1, q2⟩ := R.rk hne
      rw [e1, e2, q1]
      refine wp_must (by omega) (wp_must (by omega) (wp_must (by omega) ?_))
      have hdl : ((rd ls i).drop 1).length = (rd ls i).length - 1 := by rw [List.length_drop]
      have et : ∀ a : Nat, c.Tasks.getD ((a : Int)).toNat default = tk c a := fun _ => rfl
      rw [hdl, et]
      refine wp_range (fun k s => s = (atk c (rd ls i) (rd ws i) k, lta c ls ws i ++ ltr c (rd ls i) (rd ws i) k)) (by show (_, _) = (_, _ ++ []); rw [List.append_nil]; rfl) (fun k s K' hk hI' hK' => ?_) (fun s hI' => ?_)
      · subst hI'
        have ed : ((rd ls i).drop 1).getD k default = (rd ls i).getD (k + 1) default := by rw [getD_drop, Nat.add_comm]
        obtain ⟨a1, a2⟩ := R.rk (show k < (rd ls i).length by omega)
        obtain ⟨b1, b2⟩ := R.rk (show k + 1 < (rd ls i).length by omega)
        rw [ed]
        have hw := W.rng i hi k (by omega)
        have hat := atk_rng V R hrow (W.rng i hi) k (by omega)
        have hsa := V.at a2
        have hsb := V.at b2
        have hkey : atk c (rd ls i) (rd ws i) k + ((tk c (rk (rd ls i) k)).Serve + (rd ws i).getD k default) = thr c (rd ls i) (rd ws i) k := by unfold thr; omega
        have hth : thr c (rd ls i) (rd ws i) k = atk c (rd ls i) (rd ws i) k + (tk c (rk (rd ls i) k)).Serve + (rd ws i).getD k default := rfl
        obtain ⟨l1, l2, l3⟩ := late_nodup (ws := ws) A hi (show k < (rd ls i).length by omega)
        rw [a1, b1, et, et]
        dsimp only
        rw [hkey]
        refine wp_must (by omega) (wp_must (by omega) (wp_must (by rw [W.len]; omega) (wp_must (by omega) (wp_mustI (by omega) (wp_mustI (by omega) (wp_must (by omega) ?_))))))
        refine wp_join (fun s => s = lta c ls ws i ++ ltr c (rd ls i) (rd ws i) (k + 1)) (fun K2 hK2 => ?_) (fun s hs => wp_must (by omega) (hK' _ ?_))
        · refine wp_ifd (fun h => wp_must (by rw [List.length_append]; exact room8 (by simp only [List.length_cons, List.length_nil]; omega)) (hK2 _ ?_)) (fun h => hK2 _ ?_)
          · show _ = _ ++ (_ ++ _)
            rw [if_pos h, List.append_assoc, b1]
          · show _ = _ ++ (_ ++ _)
            rw [if_neg h, List.append_nil]
        · subst hs; rfl
      · subst hI'; exact hK _ rfl
    · subst hI
      have hlen : (lta c ls ws ls.length).length ≤ 24 := by
        have s2 := lta_sub c ls ws ls.length (Nat.le_refl _) (fun k hk => (A.round k hk).ne)
        rw [flat_all] at s2
        have := round_len (A.nd.sublist s2) (fun x hx => A.mem x (s2.subset hx))
        omega
      exact wp_bindE (sort_eq (by omega)) (wp_must (isort_length _) (wp_some (.inl ⟨W, rfl⟩)))
end
end Go.Sp
end
/- Plain laws, crew: CrewTime. No program in sight. -/
section
set_option linter.all false
namespace Go.Sp
open Go.Av
set_option maxRecDepth 100000
theorem mod_eq (n : Int) {m : Int} (h0 : 0 < m) (h1 : m ≤ 1000000000000000000) : ∃ y, gasolierref01_Mod n m = some y ∧ 0 ≤ y ∧ y < m := by
  have a1 : -m < Int.tmod n m := Int.lt_tmod_of_pos n h0
  have a2 : Int.tmod n m < m := Int.tmod_lt_of_pos n h0
  unfold gasolierref01_Mod
  refine ⟨_, (must_yes (by omega) _).trans ((must_yes (by unfold inI; omega) _).trans (must_yes (by omega) _)), ?_, Int.tmod_lt_of_pos _ h0⟩
  exact Int.tmod_nonneg _ (by omega)
theorem pick_eq {l : List Int} (hl : l.length ≤ 140737488351232) (k : Int) : ∃ y, gasolierref01_Pick l k = some y := by
  unfold gasolierref01_Pick
  by_cases h : l.length = 0
  · exact ⟨0, by rw [decide_eq_true (by omega)]; rfl⟩
  · obtain ⟨y, e, h1, h2⟩ := mod_eq k (m := ((l.length : Nat) : Int)) (by omega) (by omega)
    rw [decide_eq_false (by omega), e]
    exact ⟨_, must_yes (by omega) _⟩
section
variable {c : Crew} {ls : List (List Int)}
def rg (c : Crew) (r : List Int) (k : Nat) : Range := tv c.Travel (tk c (rk r k)).Place.toNat (tk c (rk r (k + 1))).Place.toNat
structure WalkOf (c : Crew) (more : Int) (r w : List Int) : Prop where
  len : w.length = r.length - 1
  lo : more ≤ 0 → ∀ k, k < w.length → (rg c r k).Lo ≤ w.getD k default ∧ w.getD k default ≤ (rg c r k).Hi
  hi : 0 < more → ∃ q : Nat, ∀ k, k < w.length → w.getD k default = if k = q then min 600 ((rg c r k).Hi + more) else (rg c r k).Hi
theorem walks_wp (V : Valid c) (A : AreRounds (fol c Range.Hi) c.Tasks.length ls) (hls : ls.length ≤ 24) (n : List Int) (hn : n.length ≤ 140737488351232) (more : Int) (hm : more ≤ 2000 ∧ -2000 ≤ more) {fuel : Nat} (hf : 30 ≤ fuel) :
    Wp (gasolierlaw04_walks fuel c ls n more) (fun ws => ws.length = ls.length ∧ ∀ k, k < ls.length → WalkOf c more (rd ls k) (rd ws k)) := by
  unfold gasolierlaw04_walks
  refine wp_range (fun i s => 0 ≤ s.1 ∧ s.1 ≤ 24 * i ∧ s.2.length = i ∧ ∀ k, k < i → WalkOf c more (rd ls k) (rd s.2 k)) ⟨by dsimp only; omega, by dsimp only; omega, rfl, fun k hk => by omega⟩ (fun i s K hi hI hK => ?_) (fun s hI => wp_some ⟨hI.2.2.1, hI.2.2.2⟩)
  obtain ⟨at0, out⟩ := s
  obtain ⟨i1, i1', i2, i3⟩ := hI
  dsimp only at i1 i1' i2 i3 hK ⊢
  have R := A.round i hi
  have hl := R.len (V := V)
  have hne := R.ne
  have er : ls.getD i default = rd ls i := rfl
  have et : ∀ a : Nat, c.Tasks.getD ((a : Int)).toNat default = tk c a := fun _ => rfl
  rw [er]
  refine wp_loop (fun s => 1 ≤ s.2.1 ∧ s.2.1 ≤ (rd ls i).length ∧ 0 ≤ s.1 ∧ s.1 ≤ at0 + s.2.1 - 1 ∧ s.2.2.length = s.2.1.toNat - 1 ∧ (more ≤ 0 → ∀ k, k < s.2.2.length → (rg c (rd ls i) k).Lo ≤ s.2.2.getD k default ∧ s.2.2.getD k default ≤ (rg c (rd ls i) k).Hi) ∧ (0 < more → ∀ k, k < s.2.2.length → s.2.2.getD k default = (rg c (rd ls i) k).Hi))
    (fun s => ((rd ls i).length - s.2.1.toNat)) (by dsimp only; omega) ⟨by dsimp only; omega, by dsimp only; omega, i1, by dsimp only; omega, rfl, fun _ k hk => by simp at hk, fun _ k hk => by simp at hk⟩ (fun s K' hI' hK' => ?_)
  obtain ⟨at1, k, w⟩ := s
  obtain ⟨h1, h2, h3, h3', h4, h5, h6⟩ := hI'
  dsimp only at h1 h2 h3 h3' h4 h5 h6 hK' ⊢
  obtain ⟨k, rfl⟩ : ∃ m : Nat, k = (m : Int) + 1 := ⟨(k - 1).toNat, by omega⟩
  have e1 : (((k : Int) + 1 - 1)).toNat = k := by omega
  have e2 : (((k : Int) + 1)).toNat = k + 1 := by omega
  refine wp_ifd (fun h => ?_) (fun h => ?_)
  · obtain ⟨q1, q2⟩ := R.rk (show k < (rd ls i).length by omega)
    obtain ⟨q3, q4⟩ := R.rk (show k + 1 < (rd ls i).length by omega)
    rw [e1, e2, q1, q3, et, et]
    have t3 : ((c.Travel.getD ((tk c (rk (rd ls i) k)).Place).toNat default).getD ((tk c (rk (rd ls i) (k + 1))).Place).toNat default) = rg c (rd ls i) k := rfl
    rw [t3]
    have hpi := V.place q2
    have hpj := V.place q4
    have hr : 0 ≤ (rg c (rd ls i) k).Lo ∧ (rg c (rd ls i) k).Lo ≤ (rg c (rd ls i) k).Hi ∧ (rg c (rd ls i) k).Hi ≤ 600 := V.travel.rng _ _ hpi.2.1 hpj.2.1
    have hrow := V.travel.row _ hpi.2.1
    obtain ⟨y, ey⟩ := pick_eq hn at1
    obtain ⟨z, ez, z1, z2⟩ := mod_eq y (m := (rg c (rd ls i) k).Hi - (rg c (rd ls i) k).Lo + 1) (by omega) (by omega)
    refine wp_mustI (by omega) (wp_must (by omega) (wp_must (by omega) (wp_must (by omega) (wp_must (by omega) (wp_must (by omega) (wp_must (by omega) (wp_bindE ey (wp_mustI (by omega) (wp_mustI (by omega) (wp_bindE ez (wp_mustI (by omega) ?_)))))))))))
    refine wp_join (fun s => (more ≤ 0 → (rg c (rd ls i) k).Lo ≤ s ∧ s ≤ (rg c (rd ls i) k).Hi) ∧ (0 < more → s = (rg c (rd ls i) k).Hi)) (fun K2 hK2 => ?_) (fun s hs => ?_)
    · exact wp_ifd (fun h => hK2 _ ⟨fun h' => by omega, fun _ => rfl⟩) (fun h => hK2 _ ⟨fun _ => by omega, fun h' => absurd h' h⟩)
    · refine wp_must (by rw [List.length_append]; exact room8 (by simp only [List.length_cons, List.length_nil]; omega)) (wp_mustI (by omega) (wp_mustI (by omega) (hK' _ ⟨by dsimp only; omega, by dsimp only; omega, by dsimp only; omega, by dsimp only; omega, ?_, fun hm k' hk' => ?_, fun hm k' hk' => ?_⟩ (by dsimp only; omega))))
      · dsimp only; rw [List.length_append, List.length_singleton]; omega
      · dsimp only at hk' ⊢
        rw [List.length_append, List.length_singleton] at hk'
        rw [getD_snoc]
        by_cases e : k' = w.length
        · rw [if_pos e]
          have : k' = k := by omega
          subst this; exact hs.1 hm
        · rw [if_neg e]; exact h5 hm k' (by omega)
      · dsimp only at hk' ⊢
        rw [List.length_append, List.length_singleton] at hk'
        rw [getD_snoc]
        by_cases e : k' = w.length
        · rw [if_pos e]
          have : k' = k := by omega
          subst this; exact hs.2 hm
        · rw [if_neg e]; exact h6 hm k' (by omega)
  · have hkl : w.length = (rd ls i).length - 1 := by omega
    refine wp_join (fun s => WalkOf c more (rd ls i) s) (fun K2 hK2 => ?_) (fun s hs => ?_)
    · refine wp_bif (fun hb => ?_) (fun hb => hK2 _ ⟨hkl, h5, fun hm => ⟨w.length, fun k' hk' => ?_⟩⟩)
      · simp only [Bool.and_eq_true, decide_eq_true_eq] at hb
        obtain ⟨y, ey⟩ := pick_eq hn at1
        obtain ⟨z, ez, z1, z2⟩ := mod_eq y (m := ((w.length : Nat) : Int)) (by omega) (by omega)
        refine wp_bindE ey (wp_bindE ez (wp_must (by omega) ?_))
        have hz := h6 hb.2 z.toNat (by omega)
        obtain ⟨q1, q2⟩ := R.rk (show z.toNat < (rd ls i).length by omega)
        obtain ⟨q3, q4⟩ := R.rk (show z.toNat + 1 < (rd ls i).length by omega)
        have hr : 0 ≤ (rg c (rd ls i) z.toNat).Lo ∧ (rg c (rd ls i) z.toNat).Lo ≤ (rg c (rd ls i) z.toNat).Hi ∧ (rg c (rd ls i) z.toNat).Hi ≤ 600 := V.travel.rng _ _ (V.place q2).2.1 (V.place q4).2.1
        rw [hz]
        refine wp_mustI (by omega) (wp_must (by omega) (hK2 _ ⟨by rw [List.length_set]; exact hkl, fun hm => by omega, fun hm => ⟨z.toNat, fun k' hk' => ?_⟩⟩))
        rw [List.length_set] at hk'
        rw [getD_set _ _ _ _ _ (by omega)]
        by_cases e : k' = z.toNat
        · rw [if_pos e, if_pos e, e]
        · rw [if_neg e, if_neg e]; exact h6 hm k' hk'
      · rw [if_neg (by omega)]; exact h6 hm k' hk'
    · refine wp_must (by rw [List.length_append]; exact room24 (by simp only [List.length_cons, List.length_nil]; omega)) (hK _ ⟨by dsimp only; omega, by dsimp only; omega, by dsimp only; rw [List.length_append, List.length_singleton]; omega, fun k' hk' => ?_⟩)
      dsimp only
      have e : rd (out ++ [s]) k' = if k' = out.length then s else rd out k' := getD_snoc out s default k'
      rw [e]
      by_cases e : k' = out.length
      · rw [if_pos e]
        have : k' = i := by omega
        subst this; exact hs
      · rw [if_neg e]; exact i3 k' (by omega)
theorem slr_le (c : Crew) (r : List Int) : ∀ k (o : Int), (∀ j, j < k → 0 ≤ gap c Range.Hi (rk r j) (rk r (j + 1))) → (∀ j, j < k → slr c r k o ≤ gap c Range.Hi (rk r j) (rk r (j + 1))) ∧ (0 ≤ o → slr c r k o ≤ o) ∧ (0 ≤ o ∨ 0 < k → 0 ≤ slr c r k o) ∧ (k = 0 → slr c r k o = o)
  | 0, o, _ => ⟨fun j hj => by omega, fun _ => Int.le_refl _, fun h => by rcases h with h | h; exact h; omega, fun _ => rfl⟩
  | k + 1, o, hg => by
    obtain ⟨i1, i2, i3, i4⟩ := slr_le c r k o (fun j hj => hg j (by omega))
    have h0 := hg k (by omega)
    have e : slr c r (k + 1) o = upd1 (slr c r k o) (gap c Range.Hi (rk r k) (rk r (k + 1))) := rfl
    rw [e]
    unfold upd1
    generalize hx : slr c r k o = x at i1 i2 i3 i4 ⊢
    split <;> rename_i hc
    · refine ⟨fun j hj => ?_, fun ho => ?_, fun _ => h0, fun h => by omega⟩
      · by_cases ej : j = k
        · subst ej; exact Int.le_refl _
        · have := i1 j (by omega)
          have := i3 (.inr (by omega))
          rcases hc with hc | hc <;> omega
      · have := i2 ho
        have := i3 (.inl ho)
        rcases hc with hc | hc <;> omega
    · refine ⟨fun j hj => ?_, fun ho => i2 ho, fun _ => by omega, fun h => by omega⟩
      by_cases ej : j = k
      · subst ej; omega
      · exact i1 j (by omega)
theorem round_gap {r : List Int} (R : IsRound (fol c Range.Hi) c.Tasks.length r) {j : Nat} (hj : j + 1 < r.length) : 0 ≤ gap c Range.Hi (rk r j) (rk r (j + 1)) := by
  have := R.link (j + 1) (by omega) hj
  rw [show j + 1 - 1 = j by omega] at this
  exact this.2.2
theorem slo_le (A : AreRounds (fol c Range.Hi) c.Tasks.length ls) : ∀ i, i ≤ ls.length → (∀ i', i' < i → ∀ j, j + 1 < (rd ls i').length → slo c ls i ≤ gap c Range.Hi (rk (rd ls i') j) (rk (rd ls i') (j + 1))) ∧ -1 ≤ slo c ls i ∧ (slo c ls i < 0 → ∀ i', i' < i → (rd ls i').length = 1) ∧ ((∀ i', i' < i → (rd ls i').length = 1) → slo c ls i = -1)
  | 0, _ => ⟨fun i' h => by omega, by unfold slo; omega, fun _ i' h => by omega, fun _ => rfl⟩
  | i + 1, hi => by
    obtain ⟨h1, h2, h3, h4⟩ := slo_le A i (by omega)
    have R := A.round i (by omega)
    have hne := R.ne
    obtain ⟨g1, g2, g3, g4⟩ := slr_le c (rd ls i) ((rd ls i).length - 1) (slo c ls i) (fun j hj => round_gap R (by omega))
    have e : slo c ls (i + 1) = slr c (rd ls i) ((rd ls i).length - 1) (slo c ls i) := rfl
    rw [e]
    refine ⟨fun i' hi' j hj => ?_, ?_, fun hneg i' hi' => ?_, fun hall => by rw [g4 (by have := hall i (by omega); omega)]; exact h4 (fun i' hi' => hall i' (by omega))⟩
    · by_cases ei : i' = i
      · subst ei; exact g1 j (by omega)
      · have := h1 i' (by omega) j hj
        by_cases h0 : 0 ≤ slo c ls i
        · have := g2 h0; omega
        · have := h3 (by omega) i' (by omega); omega
    · by_cases h0 : 0 ≤ slo c ls i ∨ 0 < (rd ls i).length - 1
      · have := g3 h0; omega
      · have := g4 (by omega); omega
    · by_cases h0 : 0 ≤ slo c ls i ∨ 0 < (rd ls i).length - 1
      · have := g3 h0; omega
      · by_cases ei : i' = i
        · subst ei; omega
        · exact h3 (by omega) i' (by omega)
theorem in_time (V : Valid c) {r w : List Int} {more : Int} (R : IsRound (fol c Range.Hi) c.Tasks.length r) (W : WalkOf c more r w) (hg : ∀ j, j + 1 < r.length → more ≤ gap c Range.Hi (rk r j) (rk r (j + 1))) : ∀ k, k < r.length → atk c r w k = (tk c (rk r k)).At ∧ ltr c r w k = []
  | 0, _ => ⟨rfl, rfl⟩
  | k + 1, hk => by
    obtain ⟨h1, h2⟩ := in_time V R W hg k (by omega)
    have h0 := round_gap R hk
    have h3 := hg k hk
    have hw : w.getD k default ≤ (rg c r k).Hi ∨ w.getD k default ≤ (rg c r k).Hi + more := by
      by_cases hm : more ≤ 0
      · exact .inl (W.lo hm k (by rw [W.len]; omega)).2
      · obtain ⟨q, hq⟩ := W.hi (by omega)
        have := hq k (by rw [W.len]; omega)
        rw [this]
        split
        · right; omega
        · left; omega
    have hle : thr c r w k ≤ (tk c (rk r (k + 1))).At := by
      unfold thr
      rw [h1]
      unfold gap at h0 h3
      have e : (tv c.Travel (tk c (rk r k)).Place.toNat (tk c (rk r (k + 1))).Place.toNat).Hi = (rg c r k).Hi := rfl
      rw [e] at h0 h3
      rcases hw with hw | hw <;> omega
    refine ⟨by rw [atk_succ]; omega, ?_⟩
    show ltr c r w k ++ _ = []
    rw [h2, if_neg (by omega)]; rfl
theorem in_time_all (V : Valid c) {ws : List (List Int)} {more : Int} (A : AreRounds (fol c Range.Hi) c.Tasks.length ls) (W : ∀ k, k < ls.length → WalkOf c more (rd ls k) (rd ws k)) (hg : ∀ i, i < ls.length → ∀ j, j + 1 < (rd ls i).length → more ≤ gap c Range.Hi (rk (rd ls i) j) (rk (rd ls i) (j + 1))) : ∀ i, i ≤ ls.length → lta c ls ws i = []
  | 0, _ => rfl
  | i + 1, hi => by
    have hne := (A.round i (by omega)).ne
    show lta c ls ws i ++ _ = []
    rw [in_time_all V A W hg i (by omega), (in_time V (A.round i (by omega)) (W i (by omega)) (hg i (by omega)) _ (by omega)).2]; rfl
theorem walksOk (V : Valid c) {ws : List (List Int)} {more : Int} (A : AreRounds (fol c Range.Hi) c.Tasks.length ls) (hl : ws.length = ls.length) (W : ∀ k, k < ls.length → WalkOf c more (rd ls k) (rd ws k)) : WalksOk ls ws := by
  refine ⟨hl, fun k hk => (W k hk).len, fun k hk m hm => ?_⟩
  have R := A.round k hk
  have hlen := (W k hk).len
  obtain ⟨q1, q2⟩ := R.rk (show m < (rd ls k).length by omega)
  obtain ⟨q3, q4⟩ := R.rk (show m + 1 < (rd ls k).length by omega)
  have hr : 0 ≤ (rg c (rd ls k) m).Lo ∧ (rg c (rd ls k) m).Lo ≤ (rg c (rd ls k) m).Hi ∧ (rg c (rd ls k) m).Hi ≤ 600 := V.travel.rng _ _ (V.place q2).2.1 (V.place q4).2.1
  by_cases hm0 : more ≤ 0
  · have := (W k hk).lo hm0 m hm; omega
  · obtain ⟨q, hq⟩ := (W k hk).hi (by omega)
    rw [hq m hm]
    split <;> omega
theorem crewTime_true (c : Crew) (n : List Int) (hn : n.length ≤ 140737488351232) : gasolierlaw04_CrewTime 20000 c n = some true := by
  refine Wp.eq ?_
  unfold gasolierlaw04_CrewTime
  refine wp_bindE (rcheck_eq c) ?_
  by_cases V : Valid c
  · rw [chk_valid V]
    refine wp_false rfl ?_
    refine wp_bind (rounds_wp V (by omega)) (fun r hr => ?_)
    obtain ⟨r0, A, r2, r3, r4⟩ := hr
    have hnr : r.1.length ≤ 24 := by
      obtain ⟨S, hS, e⟩ := (most_nr V (.inr rfl : EndOf Range.Hi)).1
      have := nodup_le hS.nd (r := List.range c.Tasks.length) (fun x hx => List.mem_range.2 (hS.lt x hx))
      rw [List.length_range] at this
      have := V.tasks
      omega
    rw [r0]
    refine wp_onE rfl (rcheckRounds_eq c r.1 r3) ?_
    rw [ckR_zero.2 ⟨V, A⟩]
    refine wp_false rfl ?_
    refine wp_bind (walks_wp V A hnr n hn 0 (by omega) (by omega)) (fun ws hws => ?_)
    obtain ⟨w1, w2⟩ := hws
    have L1 : crew_Late c r.1 ws = some ([], 0) := by
      rw [late_eq V r3 A, ck_pos (walksOk V A w1 w2), in_time_all V A w2 (fun i hi j hj => round_gap (A.round i hi) hj) _ (Nat.le_refl _)]; rfl
    refine wp_bindE L1 (wp_bindE (slack_eq V r3 A (by omega)) ?_)
    refine wp_false rfl ?_
    obtain ⟨s1, s2, s3, s4⟩ := slo_le A r.1.length (Nat.le_refl _)
    by_cases hneg : slo c r.1 r.1.length < 0
    · rw [if_pos hneg]
      exact wp_true rfl (wp_onE rfl sane4 (wp_some rfl))
    · rw [if_neg hneg]
      refine wp_false rfl ?_
      have hup : slo c r.1 r.1.length ≤ 2000 := by
        by_cases h2 : slo c r.1 r.1.length ≤ 2000
        · exact h2
        · exfalso
          have : slo c r.1 r.1.length = -1 := s4 (fun i hi => by
            have R := A.round i hi
            have hne := R.ne
            by_cases h1 : (rd r.1 i).length = 1
            · exact h1
            · exfalso
              have hg := s1 i hi 0 (by omega)
              obtain ⟨_, q2⟩ := R.rk (show 0 < (rd r.1 i).length by omega)
              obtain ⟨_, q4⟩ := R.rk (show 0 + 1 < (rd r.1 i).length by omega)
              have a1 := V.at q2
              have a2 := V.at q4
              have a3 := V.end (.inr rfl : EndOf Range.Hi) q2 q4
              unfold gap at hg; omega)
          omega
      refine wp_bind (walks_wp V A hnr n hn (slo c r.1 r.1.length) (by omega) (by omega)) (fun ws' hws' => ?_)
      obtain ⟨w3, w4⟩ := hws'
      have L2 : crew_Late c r.1 ws' = some ([], 0) := by
        rw [late_eq V r3 A, ck_pos (walksOk V A w3 w4), in_time_all V A w4 s1 _ (Nat.le_refl _)]; rfl
      refine wp_bindE L2 (wp_onE ?_ sane4 (wp_some ?_))
      · rw [decide_eq_true (show 0 ≤ slo c r.1 r.1.length by omega)]; rfl
      · rw [decide_eq_true (show 0 ≤ slo c r.1 r.1.length by omega)]; rfl
  · rw [chk_not V]
    refine wp_true rfl (wp_bindE (check_eq c) ?_)
    rw [chk_not V]
    exact wp_onE rfl sane4 (wp_some rfl)
end
end Go.Sp
end
/- Plain laws, crew: what is known of the arguments. No program in sight. -/
section
set_option linter.all false
namespace Go.Sp
open Go.Av
end Go.Sp
end
