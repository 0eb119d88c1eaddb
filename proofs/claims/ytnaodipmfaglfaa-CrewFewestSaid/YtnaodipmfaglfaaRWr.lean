/- Rules for plain laws, more of them. No program in sight. -/
import Derived.Test.YtnaodipmfaglfaaRWq
set_option linter.all false
namespace Go.Sp
open Go.Av
theorem wp_forall {R : Type} {body : Nat → Unit → (Unit → Option R) → Option R} {ex : Unit → Option R} {n : Nat} {P : R → Prop} (good : Nat → Prop)
    (hb : ∀ (i : Nat) (K : Option R), i < n → (∀ j, j < i → good j) → (good i → Wp K P) → Wp (body i () (fun _ => K)) P) (he : (∀ j, j < n → good j) → Wp (ex ()) P) : Wp (rangeGo body ex n 0 ()) P := by
  refine wp_range (fun i _ => ∀ j, j < i → good j) (fun j hj => by omega) (fun i s K hi hI hK => ?_) (fun s hs => he hs)
  have e : K = fun _ => K () := funext fun u => rfl
  rw [e]
  exact hb i (K ()) hi hI (fun g => hK () (fun j hj => by
    by_cases e : j = i
    · rw [e]; exact g
    · exact hI j (by omega)))
theorem wp_onE {S R : Type} {W : Bool} {x y : Option S} {k : S → Option R} {P : R → Prop} {v : S} (hW : W = true) (h : x = some v) (hk : Wp (k v) P) : Wp (bindO (bif W then x else y) k) P := by
  subst hW; rw [h]; exact hk
theorem must_yes {R : Type} {c : Prop} [Decidable c] (h : c) (x : Option R) : must c x = x := if_pos h
theorem getD_set {T : Type} (l : List T) (i j : Nat) (x d : T) (hi : i < l.length) : (l.set i x).getD j d = if j = i then x else l.getD j d := by
  simp only [List.getD_eq_getElem?_getD]
  by_cases e : j = i
  · subst e; rw [List.getElem?_set_self hi, if_pos rfl]; rfl
  · rw [List.getElem?_set_ne (fun h => e h.symm), if_neg e]
theorem getD_replicate {T : Type} (n i : Nat) (x : T) : (List.replicate n x).getD i x = x := by
  simp only [List.getD_eq_getElem?_getD, List.getElem?_replicate]
  split <;> rfl
theorem getD_mem {T : Type} [Inhabited T] {l : List T} {i : Nat} (h : i < l.length) : l.getD i default ∈ l := by
  rw [List.getD_eq_getElem?_getD, List.getElem?_eq_getElem h]; exact List.getElem_mem h
theorem mem_getD {T : Type} [Inhabited T] {l : List T} {x : T} (h : x ∈ l) : ∃ i, i < l.length ∧ l.getD i default = x := by
  obtain ⟨i, hi, rfl⟩ := List.getElem_of_mem h
  exact ⟨i, hi, by rw [List.getD_eq_getElem?_getD, List.getElem?_eq_getElem hi]; rfl⟩
theorem getD_take {T : Type} (l : List T) (n i : Nat) (d : T) : (l.take n).getD i d = if i < n then l.getD i d else d := by
  simp only [List.getD_eq_getElem?_getD, List.getElem?_take]
  split <;> rfl
theorem nodup_le {T : Type} [DecidableEq T] : ∀ {l r : List T}, l.Nodup → (∀ x ∈ l, x ∈ r) → l.length ≤ r.length
  | [], r, _, _ => Nat.zero_le _
  | x :: l, r, hn, hs => by
    have hx := hs x List.mem_cons_self
    rw [List.nodup_cons] at hn
    have := nodup_le (l := l) (r := r.erase x) hn.2 (fun y hy => (List.mem_erase_of_ne (fun (e : y = x) => hn.1 (e ▸ hy))).2 (hs y (List.mem_cons_of_mem _ hy)))
    rw [List.length_erase_of_mem hx] at this
    have := List.length_pos_of_mem hx
    simp only [List.length_cons]; omega
theorem nodup_inj {S T : Type} {f : S → T} : ∀ {l : List S}, l.Nodup → (∀ x ∈ l, ∀ y ∈ l, f x = f y → x = y) → (l.map f).Nodup
  | [], _, _ => List.nodup_nil
  | x :: l, hn, hi => by
    rw [List.nodup_cons] at hn
    rw [List.map_cons, List.nodup_cons]
    refine ⟨fun hm => ?_, nodup_inj hn.2 (fun a ha b hb => hi a (List.mem_cons_of_mem _ ha) b (List.mem_cons_of_mem _ hb))⟩
    obtain ⟨y, hy, e⟩ := List.mem_map.1 hm
    have := hi x List.mem_cons_self y (List.mem_cons_of_mem _ hy) e.symm
    exact hn.1 (this ▸ hy)
theorem length_le_inj {S T : Type} [DecidableEq T] {l : List S} {r : List T} (f : S → T) (hn : l.Nodup) (hm : ∀ x ∈ l, f x ∈ r) (hi : ∀ x ∈ l, ∀ y ∈ l, f x = f y → x = y) : l.length ≤ r.length := by
  have := nodup_le (nodup_inj hn hi) (r := r) (fun y hy => by obtain ⟨x, hx, rfl⟩ := List.mem_map.1 hy; exact hm x hx)
  rwa [List.length_map] at this
theorem fdiv_bit {x : Int} {j : Nat} (h : 0 ≤ x) : Int.fdiv x (2 ^ j) = ((x.toNat >>> j : Nat) : Int) := by
  obtain ⟨n, rfl⟩ := Int.eq_ofNat_of_zero_le h
  rw [Int.toNat_natCast, Nat.shiftRight_eq_div_pow]
  have : (2 : Int) ^ j = ((2 ^ j : Nat) : Int) := by simp
  rw [this, Int.fdiv_eq_ediv_of_nonneg _ (Int.natCast_nonneg _)]
  exact (Int.natCast_ediv _ _).symm
theorem bit_one (n j : Nat) : (n >>> j) &&& 1 = if n.testBit j then 1 else 0 := by
  unfold Nat.testBit
  rcases Nat.mod_two_eq_zero_or_one (n >>> j) with h | h
  · simp [Nat.and_comm 1, Nat.and_one_is_mod, h]
  · simp [Nat.and_comm 1, Nat.and_one_is_mod, h]
theorem or_bit {n j k : Nat} : (n ||| 2 ^ j).testBit k = (n.testBit k || decide (k = j)) := by
  rw [Nat.testBit_or, Nat.testBit_two_pow]
  congr 1
  exact decide_eq_decide.2 eq_comm
theorem or_lt {n j m : Nat} (hn : n < 2 ^ m) (hj : j < m) : n ||| 2 ^ j < 2 ^ m := Nat.or_lt_two_pow hn (Nat.pow_lt_pow_right (by omega) hj)
def flw (n : Nat) (W : Nat → Bool) (j : Nat) : List Int := ((List.range' j (n - j)).filter W).map (fun (k : Nat) => (k : Int))
theorem flw_step {n : Nat} {W : Nat → Bool} {j : Nat} (h : j < n) : flw n W j = if W j = true then (j : Int) :: flw n W (j + 1) else flw n W (j + 1) := by
  unfold flw
  rw [show n - j = (n - (j + 1)) + 1 by omega, List.range'_succ, List.filter_cons]
  split <;> rfl
theorem flw_end {n : Nat} {W : Nat → Bool} {j : Nat} (h : n ≤ j) : flw n W j = [] := by
  unfold flw
  rw [show n - j = 0 by omega]; rfl
theorem emit_range {A : Type} {body : Nat → Unit → (Unit → Option (List A)) → Option (List A)} {n : Nat} (W : Nat → Bool) (x : Nat → A)
    (hb : ∀ (i : Nat) (r : Option (List A)), i < n → body i () (fun _ => r) = emitIf (W i) (x i) r) : rangeGo body (fun _ => some []) n 0 () = some (((List.range' 0 n).filter W).map x) := by
  have go : ∀ m i, i + m = n → rangeGo body (fun _ => some []) m i () = some (((List.range' i m).filter W).map x) := by
    intro m
    induction m with
    | zero => intro i _; rfl
    | succ m ih =>
      intro i hi
      have e : rangeGo body (fun _ => some []) (m + 1) i () = body i () (fun u => rangeGo body (fun _ => some []) m (i + 1) u) := rfl
      rw [e]
      have e2 : (fun u => rangeGo body (fun _ => some ([] : List A)) m (i + 1) u) = fun _ => some (((List.range' (i + 1) m).filter W).map x) := by
        funext u; exact ih (i + 1) (by omega)
      rw [e2, hb i _ (by omega), List.range'_succ, List.filter_cons]
      cases W i <;> rfl
  exact go n 0 (by omega)
theorem wp_flw {S R : Type} {body : Int → S → (S → Option R) → Option R} {ex : S → Option R} {s0 : S} {P : R → Prop} (n : Nat) (W : Nat → Bool) (Inv : Nat → S → Prop) (h0 : Inv 0 s0)
    (skip : ∀ (j : Nat) s, j < n → W j = false → Inv j s → Inv (j + 1) s)
    (hb : ∀ (j : Nat) s (K : S → Option R), j < n → W j = true → Inv j s → (∀ s', Inv (j + 1) s' → Wp (K s') P) → Wp (body (j : Int) s K) P) (he : ∀ s, Inv n s → Wp (ex s) P) : Wp (listGo body ex (flw n W 0) s0) P := by
  have go : ∀ (m j : Nat), j + m = n → ∀ s, Inv j s → Wp (listGo body ex (flw n W j) s) P := by
    intro m
    induction m with
    | zero => intro j hj s hs; have e : j = n := by omega
              subst e; rw [flw_end (Nat.le_refl _)]; exact he s hs
    | succ m ih =>
      intro j hj s hs
      rw [flw_step (by omega)]
      cases hW : W j with
      | true => rw [if_pos rfl]; exact hb j s _ (by omega) hW hs (fun s' h' => ih (j + 1) (by omega) s' h')
      | false => rw [if_neg (by simp)]; exact ih (j + 1) (by omega) s (skip j s (by omega) hW hs)
  exact go n 0 (by omega) s0 h0
def mu (n : Nat) (P : Nat → Bool) : Nat := (List.range n).countP (fun k => !P k)
theorem mu_le (n : Nat) (P : Nat → Bool) : mu n P ≤ n := by
  have := List.countP_le_length (p := fun k => !P k) (l := List.range n)
  rwa [List.length_range] at this
theorem mu_mono {n : Nat} {P Q : Nat → Bool} (h : ∀ k, P k = true → Q k = true) : mu n Q ≤ mu n P :=
  List.countP_mono_left (fun k _ hk => by
    cases hP : P k with
    | false => rfl
    | true => rw [h k hP] at hk; cases hk)
theorem countP_lt {T : Type} {p q : T → Bool} {a : T} : ∀ {l : List T}, (∀ x, x ∈ l → p x = true → q x = true) → a ∈ l → q a = true → p a = false → l.countP p < l.countP q
  | x :: l, h, ha, hq, hp => by
    rw [List.countP_cons, List.countP_cons]
    have hm : l.countP p ≤ l.countP q := List.countP_mono_left (fun y hy => h y (List.mem_cons_of_mem _ hy))
    rcases List.mem_cons.1 ha with rfl | ha
    · rw [hp, hq]; simp; omega
    · have := countP_lt (l := l) (fun y hy => h y (List.mem_cons_of_mem _ hy)) ha hq hp
      have hx := h x List.mem_cons_self
      cases hpx : p x with
      | false => simp; omega
      | true => rw [hx hpx]; simp; omega
theorem mu_lt {n j : Nat} {P Q : Nat → Bool} (h : ∀ k, P k = true → Q k = true) (hj : j < n) (hP : P j = false) (hQ : Q j = true) : mu n Q < mu n P :=
  countP_lt (a := j) (fun k _ hk => by
    cases hPk : P k with
    | false => rfl
    | true => rw [h k hPk] at hk; cases hk) (List.mem_range.2 hj) (by rw [hP]; rfl) (by rw [hQ]; rfl)
end Go.Sp
