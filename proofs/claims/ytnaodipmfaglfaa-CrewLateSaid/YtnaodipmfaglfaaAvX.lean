/- Combinators in which the printed definitions are written. No program, no abstract value. -/
set_option linter.all false
namespace Go.Av
def inI (n : Int) : Prop := -9223372036854775808 ≤ n ∧ n ≤ 9223372036854775807
def inU (n : Int) : Prop := 0 ≤ n ∧ n < 18446744073709551616
instance (n : Int) : Decidable (inU n) := inferInstanceAs (Decidable (_ ∧ _))
def room (n bytes : Nat) : Prop := n * bytes ≤ 140737488355328 ∧ n ≤ 9223372036854775807
instance (n : Int) : Decidable (inI n) := inferInstanceAs (Decidable (_ ∧ _))
instance (n b : Nat) : Decidable (room n b) := inferInstanceAs (Decidable (_ ∧ _))
end Go.Av
namespace Go.Sp
def joinK {S R : Type} (f : (S → R) → R) (k : S → R) : R := f k
def rangeGo {S R : Type} (body : Nat → S → (S → R) → R) (exit : S → R) : Nat → Nat → S → R
  | 0, _, s => exit s
  | n + 1, i, s => body i s (rangeGo body exit n (i + 1))
def loopGo {S R : Type} (body : S → (S → Option R) → Option R) : Nat → S → Option R
  | 0, _ => none
  | n + 1, s => body s (loopGo body n)
def listGo {A S R : Type} (body : A → S → (S → R) → R) (exit : S → R) : List A → S → R
  | [], s => exit s
  | x :: l, s => body x s (listGo body exit l)
def emitIf {A : Type} (W : Bool) (x : A) (r : Option (List A)) : Option (List A) := match W with
  | true => match r with
    | some l => some (x :: l)
    | none => none
  | false => r
def copyAt {T : Type} [Inhabited T] (l : List T) (a m : Nat) (src : Nat → T) : List T := (List.range l.length).map fun q => if a ≤ q ∧ q < a + m then src (q - a) else l.getD q default
def must {R : Type} (c : Prop) [Decidable c] (x : Option R) : Option R := if c then x else none
def bindO {S R : Type} (x : Option S) (k : S → Option R) : Option R := match x with
  | some s => k s
  | none => none
structure Mp (T : Type) where
  get : Int → Option T
  card : Nat
def Mp.empty {T : Type} : Mp T := ⟨fun _ => none, 0⟩
def Mp.set {T : Type} (m : Mp T) (k : Int) (x : T) : Mp T := ⟨fun j => if j = k then some x else m.get j, if (m.get k).isSome then m.card else m.card + 1⟩
instance {T : Type} : Inhabited (Mp T) := ⟨Mp.empty⟩
structure Arr1 (T : Type) where
  x0 : T
  deriving Inhabited, DecidableEq
structure Arr2 (T : Type) where
  x0 : T
  x1 : T
  deriving Inhabited, DecidableEq
structure Arr3 (T : Type) where
  x0 : T
  x1 : T
  x2 : T
  deriving Inhabited, DecidableEq
structure Arr4 (T : Type) where
  x0 : T
  x1 : T
  x2 : T
  x3 : T
  deriving Inhabited, DecidableEq
structure Arr5 (T : Type) where
  x0 : T
  x1 : T
  x2 : T
  x3 : T
  x4 : T
  deriving Inhabited, DecidableEq
structure Arr6 (T : Type) where
  x0 : T
  x1 : T
  x2 : T
  x3 : T
  x4 : T
  x5 : T
  deriving Inhabited, DecidableEq
structure Arr7 (T : Type) where
  x0 : T
  x1 : T
  x2 : T
  x3 : T
  x4 : T
  x5 : T
  x6 : T
  deriving Inhabited, DecidableEq
structure Arr8 (T : Type) where
  x0 : T
  x1 : T
  x2 : T
  x3 : T
  x4 : T
  x5 : T
  x6 : T
  x7 : T
  deriving Inhabited, DecidableEq
structure Arr9 (T : Type) where
  x0 : T
  x1 : T
  x2 : T
  x3 : T
  x4 : T
  x5 : T
  x6 : T
  x7 : T
  x8 : T
  deriving Inhabited, DecidableEq
theorem of_must {R : Type} {c : Prop} [Decidable c] {x : Option R} {r : R} (H : must c x = some r) : c ∧ x = some r := by
  unfold must at H
  split at H
  · exact ⟨by assumption, H⟩
  · cases H
theorem of_bindO {S R : Type} {x : Option S} {k : S → Option R} {r : R} (H : bindO x k = some r) : ∃ y, x = some y ∧ k y = some r := by
  unfold bindO at H
  split at H
  · exact ⟨_, rfl, H⟩
  · cases H
theorem of_true {R : Type} {b : Bool} {x y r : R} (H : (bif b then x else y) = r) (h : b = true) : x = r := by subst h; exact H
theorem of_false {R : Type} {b : Bool} {x y r : R} (H : (bif b then x else y) = r) (h : b = false) : y = r := by subst h; exact H
end Go.Sp
