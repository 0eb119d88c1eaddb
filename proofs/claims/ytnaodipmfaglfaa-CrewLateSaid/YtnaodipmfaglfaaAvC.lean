/- The evaluator of one operation over abstract values. It only reckons; that it is right is AvD's part. -/
import Derived.Test.YtnaodipmfaglfaaAvB
import Derived.Test.YtnaodipmfaglfaaAvX
set_option linter.all false
namespace Go.Av
inductive Ds where
  | int (k : IntKind) | bool | ptr (e : TypeId) | slice (e : TypeId) | struct (fs : List (Nat × TypeId)) | array (n : Nat) (e : TypeId) | map (k e : TypeId) | func | iface | other
def Ds.agg : Ds → Bool
  | .struct _ | .array _ _ => true
  | _ => false
structure TyD where
  d : Ds
  zero : List Value
  size : Nat
  bytes : Nat
abbrev Tys := List (Nat × TyD)
def tyOf : Tys → Nat → Option TyD
  | [], _ => none
  | (k, v) :: r, t => match Nat.beq k t with
    | true => some v
    | false => tyOf r t
def TyD.zeroV (T : TyD) : Value := match T.d.agg with
  | true => .agg T.zero.toArray
  | false => T.zero.headD undef
def single : AV → Bool
  | .any | .agg _ | .tup _ | .cnd _ _ | .raw _ => false
  | _ => true
def singles : List AV → Bool
  | [] => true
  | c :: cs => match single c with
    | true => singles cs
    | false => false
def cellsV : AV → Option (List AV)
  | .agg cs => match singles cs with
    | true => some cs
    | false => none
  | v => match single v with
    | true => some [v]
    | false => none
def takeN : Nat → List AV → Option (List AV)
  | 0, _ => some []
  | n + 1, x :: xs => match takeN n xs with
    | some r => some (x :: r)
    | none => none
  | _ + 1, [] => none
def dropN : Nat → List AV → Option (List AV)
  | 0, xs => some xs
  | n + 1, _ :: xs => dropN n xs
  | _ + 1, [] => none
def spine : List AV → Option (List AV)
  | [] => some []
  | x :: xs => match spine xs with
    | some r => some (x :: r)
    | none => none
def layN : Nat → List AV → List AV → Option (List AV)
  | _, [], cs => some cs
  | 0, x :: xs, _ :: cs => match layN 0 xs cs with
    | some r => some (x :: r)
    | none => none
  | n + 1, x :: xs, c :: cs => match layN n (x :: xs) cs with
    | some r => some (c :: r)
    | none => none
  | _, _ :: _, [] => none
def layE (off : Nat) (xs : List AV) (sz : Nat) (cs : List AV) : Option (List AV) := match Nat.beq off 0 && Nat.beq xs.length sz with
  | true => some xs
  | false => layN off xs cs
theorem layN_all : ∀ (xs cs : List AV), cs.length = xs.length → layN 0 xs cs = some xs
  | [], [], _ => rfl
  | x :: xs, c :: cs, h => by simp only [layN]; rw [layN_all xs cs (by simpa using h)]
theorem layE_layN {off : Nat} {xs : List AV} {sz : Nat} {cs es : List AV} (h : layE off xs sz cs = some es) (hl : cs.length = sz) : layN off xs cs = some es := by
  unfold layE at h
  split at h
  · rename_i hb
    simp only [Bool.and_eq_true] at hb
    have h0 := Nat.eq_of_beq_eq_true hb.1
    have h1 := Nat.eq_of_beq_eq_true hb.2
    subst h0
    rw [layN_all xs cs (by rw [hl, h1])]; exact h
  · exact h
def nthN {α : Type} : Nat → List α → Option α
  | 0, x :: _ => some x
  | n + 1, _ :: xs => nthN n xs
  | _, [] => none
def ofCells (T : TyD) (cs : List AV) : Option AV := match T.d.agg with
  | true => match takeN T.size cs with
    | some xs => some (.agg xs)
    | none => none
  | false => match cs with
    | x :: _ => some x
    | [] => none
def zeros : List Value → List AV
  | [] => []
  | v :: vs => ofVal v :: zeros vs
def zeroA (T : TyD) : AV := match T.d.agg with
  | true => .agg (zeros T.zero)
  | false => match T.zero with
    | v :: _ => ofVal v
    | [] => .any
structure R where
  v : AV
  rd : List Nat
  wr : List (Nat × Blk)
  cs : Option Prop
  rq : Option (FuncId × List AV × List (Nat × Blk))
def R.val (v : AV) : R := ⟨v, [], [], none, none⟩
def R.valIf (v : AV) (c : Prop) : R := ⟨v, [], [], some c, none⟩
def andO : Option Prop → Option Prop → Option Prop
  | none, c => c
  | some c, none => some c
  | some c, some d => some (c ∧ d)
def target (mg : Mm) : AV → Option (List AV × List Nat × Option Prop)
  | .rp cs => some (cs, [], none)
  | .lp id off => match mg id with
    | some (.cells cs) => match dropN off cs with
      | some r => some (r, [id], none)
      | none => none
    | _ => none
  | .ep id n i off => match mg id with
    | some (.buf _ _ n' e) => match dropN off (e i) with
      | some r => some (r, [id], some (n = n' ∧ i < n'))
      | none => none
    | _ => none
  | .gp id i => match mg id with
    | some (.grid _ _ _ n m _) => some ([.gr' id i (m i)], [id], some (i < n))
    | _ => none
  | .ge id i k j off => match mg id with
    | some (.grid _ _ _ n m e) => match dropN off (e i j) with
      | some r => some (r, [id], some (k = m i ∧ i < n ∧ j < m i))
      | none => none
    | _ => none
  | _ => none
def ptrAdd (off : Nat) : AV → Option AV
  | .rp cs => match dropN off cs with
    | some r => some (.rp r)
    | none => none
  | .lp id o => some (.lp id (o + off))
  | .ep id n i o => some (.ep id n i (o + off))
  | .ge id i k j o => some (.ge id i k j (o + off))
  | _ => none
def asRo (mg : Mm) : AV → Option (Nat × Nat × (Nat → List AV) × List Nat × Option Prop)
  | .ro sz n e => some (sz, n, e, [], none)
  | .buf id n => match mg id with
    | some (.buf _ sz n' e) => some (sz, n', e, [id], some (n = n'))
    | _ => none
  | _ => none
def view1 (mg : Mm) : AV → Option (AV × List Nat × Option Prop)
  | .buf id n => match mg id with
    | some (.buf _ sz n' e) => some (.ro sz n' e, [id], some (n = n'))
    | _ => none
  | .mp id => match mg id with
    | some (.map z dom e n) => some (.rom z dom e n, [id], none)
    | _ => none
  | v => match v.cl with
    | true => some (v, [], none)
    | false => none
def view1L (mg : Mm) : List AV → Option (List AV × List Nat × Option Prop)
  | [] => some ([], [], none)
  | c :: cs => match view1 mg c with
    | some (c', rd, p) => match view1L mg cs with
      | some (cs', rd', p') => some (c' :: cs', rd ++ rd', andO p p')
      | none => none
    | none => none
mutual
/-- What a call is handed: owned slices and cells as they lie. -/
def view (mg : Mm) : AV → Option (AV × List Nat × Option Prop)
  | .buf id n => match mg id with
    | some (.buf _ sz n' e) => some (.ro sz n' e, [id], some (n = n'))
    | _ => none
  | .lp id off => match mg id with
    | some (.cells cs) => match dropN off cs with
      | some r => match view1L mg r with
        | some (r', rd, c) => some (.rp r', id :: rd, c)
        | none => none
      | none => none
    | _ => none
  | .mp id => match mg id with
    | some (.map z dom e n) => some (.rom z dom e n, [id], none)
    | _ => none
  | .ep _ _ _ _ | .gp _ _ | .gr' _ _ _ | .ge _ _ _ _ _ => none
  | .sb id n a b => match mg id with
    | some (.buf _ sz n' e) => some (.ro sz (b - a) (fun k => e (a + k)), [id], some (n = n' ∧ a ≤ b ∧ b ≤ n'))
    | _ => none
  | .gb id n => match mg id with
    | some (.grid _ _ sz n' m e) => some (.ro 1 n' (fun i => [.ro sz (m i) (e i)]), [id], some (n = n'))
    | _ => none
  | .agg cs => match viewL mg cs with
    | some (cs', rd, c) => some (.agg cs', rd, c)
    | none => none
  | .tup cs => match viewL mg cs with
    | some (cs', rd, c) => some (.tup cs', rd, c)
    | none => none
  | .fn f fs cs => match viewL mg fs with
    | some (fs', rd, c) => match viewL mg cs with
      | some (cs', rd', c') => some (.clo f fs' cs', rd ++ rd', andO c c')
      | none => none
    | none => none
  | .ifc t v => match view mg v with
    | some (v', rd, c) => some (.ifc t v', rd, c)
    | none => none
  | .cnd _ _ => none
  | v => some (v, [], none)
def viewL (mg : Mm) : List AV → Option (List AV × List Nat × Option Prop)
  | [] => some ([], [], none)
  | c :: cs => match view mg c with
    | some (c', rd, p) => match viewL mg cs with
      | some (cs', rd', p') => some (c' :: cs', rd ++ rd', andO p p')
      | none => none
    | none => none
/-- Are cells closed? -/
def viewC : List AV → Bool
  | [] => true
  | c :: cs => match c.cl with
    | true => viewC cs
    | false => false
end
def cutN (off n : Nat) (cs : List AV) : Option (List AV) := match dropN off cs with
  | some r => takeN n r
  | none => none
def eqFs (Γ : Tys) (eq : TypeId → List AV → List AV → Option Bool) : List (Nat × TypeId) → List AV → List AV → Option Bool
  | [], _, _ => some true
  | (off, ft) :: fs, xs, ys => match tyOf Γ ft with
    | some FT => match cutN off FT.size xs, cutN off FT.size ys with
      | some a, some b => match eq ft a b with
        | some p => match fs with
          | [] => some p
          | _ :: _ => match eqFs Γ eq fs xs ys with
            | some q => some (p && q)
            | none => none
        | none => none
      | _, _ => none
    | none => none
def eqTy (Γ : Tys) : Nat → TypeId → List AV → List AV → Option Bool
  | 0, _, _, _ => none
  | fuel + 1, t, xs, ys => match tyOf Γ t with
    | some T => match T.d with
      | .int .i64 => match xs, ys with
        | .int .i64 a :: _, .int .i64 b :: _ => some (decide (a = b))
        | _, _ => none
      | .bool => match xs, ys with
        | .bool a :: _, .bool b :: _ => some (a == b)
        | _, _ => none
      | .struct fs => eqFs Γ (eqTy Γ fuel) fs xs ys
      | _ => none
    | none => none
def cmpI : BinOp → Int → Int → Option Bool
  | .eql, a, b => some (decide (a = b))
  | .neq, a, b => some (!decide (a = b))
  | .lss, a, b => some (decide (a < b))
  | .leq, a, b => some (decide (a ≤ b))
  | .gtr, a, b => some (decide (b < a))
  | .geq, a, b => some (decide (b ≤ a))
  | _, _, _ => none
def binI (op : BinOp) (a b : Int) : Option R := match op with
  | .add => some (.valIf (.int .i64 (a + b)) (inI (a + b)))
  | .sub => some (.valIf (.int .i64 (a - b)) (inI (a - b)))
  | .mul => some (.valIf (.int .i64 (a * b)) (inI (a * b)))
  | .quo => some (.valIf (.int .i64 (a.tdiv b)) (b ≠ 0 ∧ inI (a.tdiv b)))
  | .rem => some (.valIf (.int .i64 (a.tmod b)) (b ≠ 0))
  | .shl => some (.valIf (.int .i64 (a * 2 ^ b.toNat)) (0 ≤ b ∧ b < 64 ∧ inI (a * 2 ^ b.toNat)))
  | .shr => some (.valIf (.int .i64 (a.fdiv (2 ^ b.toNat))) (0 ≤ b ∧ b < 64))
  | .and => some (.valIf (.int .i64 ((a.toNat &&& b.toNat : Nat) : Int)) (0 ≤ a ∧ 0 ≤ b ∧ inI a ∧ inI b))
  | .or => some (.valIf (.int .i64 ((a.toNat ||| b.toNat : Nat) : Int)) (0 ≤ a ∧ 0 ≤ b ∧ inI a ∧ inI b))
  | op => match cmpI op a b with
    | some c => some (.val (.bool c))
    | none => none
def binU (op : BinOp) (a b : Int) : Option R := match op with
  | .add => some (.valIf (.int .u64 (a + b)) (inU (a + b)))
  | .mul => some (.valIf (.int .u64 (a * b)) (inU (a * b)))
  | .shr => some (.valIf (.int .u64 (a.fdiv (2 ^ b.toNat))) (0 ≤ b ∧ b < 64))
  | .and => some (.valIf (.int .u64 ((a.toNat &&& b.toNat : Nat) : Int)) (inU a ∧ inU b))
  | op => match cmpI op a b with
    | some c => some (.val (.bool c))
    | none => none
def evBin (Γ : Tys) (op : BinOp) (t : TypeId) (x y : AV) : Option R := match x, y with
  | .int .i64 a, .int .i64 b => binI op a b
  | .int .u64 a, .int .u64 b => binU op a b
  | .bool a, .bool b => match op with
    | .eql => match tyOf Γ t with
      | some T => match T.d with
        | .bool => some (.val (.bool (a == b)))
        | _ => none
      | none => none
    | .neq => match tyOf Γ t with
      | some T => match T.d with
        | .bool => some (.val (.bool (!(a == b))))
        | _ => none
      | none => none
    | _ => none
  | .agg xs, .agg ys => match tyOf Γ t with
    | some T => match T.d.agg with
      | true => match op with
        | .eql => match eqTy Γ 8 t xs ys with
          | some c => some (.val (.bool c))
          | none => none
        | .neq => match eqTy Γ 8 t xs ys with
          | some c => some (.val (.bool (!c)))
          | none => none
        | _ => none
      | false => none
    | none => none
  | .ro _ n _, .nilS => match op with
    | .eql => match tyOf Γ t with
      | some T => match T.d with
        | .slice _ => some (.val (.nz n))
        | _ => none
      | none => none
    | _ => none
  | _, _ => none
def layParts (zs : List AV) (place : Nat → Option (Nat × Nat)) : List (Nat × AV) → Option (List AV)
  | [] => some zs
  | (i, v) :: ps => match place i with
    | some (off, sz) => match cellsV v with
      | some [] => none
      | some (x :: xs) => match Nat.beq (x :: xs).length sz with
        | true => match layN off (x :: xs) zs with
          | some zs' => layParts zs' place ps
          | none => none
        | false => none
      | none => none
    | none => none
def valsOf (val : Operand → AV) : List (Nat × Operand) → List (Nat × AV)
  | [] => []
  | (i, x) :: r => (i, val x) :: valsOf val r
def repL (zs : List AV) : Nat → List AV
  | 0 => []
  | n + 1 => zs ++ repL zs n
def elemAt (sz : Nat) (cs : List AV) (i : Nat) : List AV := (cs.drop (i * sz)).take sz
def mapAV (val : Operand → AV) : List Operand → List AV
  | [] => []
  | x :: r => val x :: mapAV val r
def fresh (mg : Mm) (o : Oper) : Option Nat := match o.dst with
  | some d => match mg d with
    | none => some d
    | some _ => none
  | none => none
def evAppend (Γ : Tys) (mg : Mm) (o : Oper) (t : TypeId) (s x : AV) : Option R := match tyOf Γ t with
  | some T => match T.d with
    | .slice e => match tyOf Γ e with
      | some E => match asRo mg x with
        | some (sz2, n2, e2, rd, c) => match Nat.beq sz2 E.size with
          | true => match E.size with
           | 0 => none
           | _ + 1 => match s with
            | .nilS => match fresh mg o with
              | some d => some ⟨.buf d n2, d :: rd, [(d, .buf e E.size n2 e2)], andO (some (room n2 E.bytes)) c, none⟩
              | none => none
            | .buf id n => match mg id with
              | some (.buf ty sz n' e1) => match Nat.beq ty e with
                | true => match Nat.beq sz E.size with
                  | true => some ⟨.buf id (n' + n2), id :: rd, [(id, .buf ty sz (n' + n2) (fun k => if k < n' then e1 k else e2 (k - n')))], andO (some (n = n' ∧ room (n' + n2) E.bytes)) c, none⟩
                  | false => none
                | false => none
              | _ => none
            | _ => none
          | false => none
        | none => none
      | none => none
    | _ => none
  | none => none
def evAppendB (Γ : Tys) (mg : Mm) (o : Oper) (t : TypeId) (id n b id2 n2 j k : Nat) : Option R := match tyOf Γ t with
  | some T => match T.d with
    | .slice e => match tyOf Γ e with
      | some E => match mg id with
        | some (.buf ty sz n' e1) => match Nat.beq ty e && Nat.beq sz E.size && Nat.beq id id2 with
          | true => match fresh mg o with
            | some d => some ⟨.buf d (b + (k - j)), [id, d], [(d, .bufk ty sz (b + (k - j)) n' (fun q => if q < b then e1 q else e1 (j + (q - b)))), (id, .dead)], some (n = n' ∧ n2 = n' ∧ b ≤ j ∧ j ≤ k ∧ k ≤ n'), none⟩
            | none => none
          | false => none
        | _ => none
      | none => none
    | _ => none
  | none => none
def evClear (Γ : Tys) (mg : Mm) (t : TypeId) (x : AV) : Option R := match tyOf Γ t with
  | some T => match T.d with
    | .slice e => match tyOf Γ e with
      | some E => match x with
        | .sb id n a b => match mg id with
          | some (.bufk ty sz n' c e1) => match Nat.beq ty e && Nat.beq sz E.size with
            | true => some ⟨.any, [id], [(id, .bufk ty sz n' c e1)], some (n = n' ∧ a = n' ∧ b ≤ c), none⟩
            | false => none
          | _ => none
        | _ => none
      | none => none
    | _ => none
  | none => none
def evCopy (Γ : Tys) (mg : Mm) (t : TypeId) (x y : AV) : Option R := match tyOf Γ t with
  | some T => match T.d with
    | .slice e => match tyOf Γ e with
      | some E => match Nat.beq 1 E.size with
        | true => match x, y with
          | .buf id n, .ro sz2 n2 e2 => match mg id with
            | some (.buf ty sz n' e1) => match Nat.beq ty e && Nat.beq sz 1 && Nat.beq sz2 1 with
              | true => some ⟨.int .i64 ((min n2 n' : Nat) : Int), [id], [(id, .buf ty sz n' (fun q => if q < min n2 n' then e2 q else e1 q))], some (n = n'), none⟩
              | false => none
            | _ => none
          | .sb id n a b, .sb id2 n2 a2 b2 => match mg id with
            | some (.buf ty sz n' e1) => match Nat.beq ty e && Nat.beq sz 1 && Nat.beq id id2 with
              | true => some ⟨.int .i64 ((min (b2 - a2) (b - a) : Nat) : Int), [id], [(id, .buf ty sz n' (fun q => if a ≤ q ∧ q < a + min (b2 - a2) (b - a) then e1 (a2 + (q - a)) else e1 q))], some (n = n' ∧ n2 = n' ∧ a ≤ b ∧ b ≤ n' ∧ a2 ≤ b2 ∧ b2 ≤ n'), none⟩
              | false => none
            | _ => none
          | _, _ => none
        | false => none
      | none => none
    | _ => none
  | none => none
def evLookup (Γ : Tys) (mg : Mm) (t : TypeId) (m k : AV) (ok : Bool) : Option R := match tyOf Γ t with
  | some T => match T.d with
    | .map kt et => match tyOf Γ kt with
      | some KT => match KT.d with
        | .int .i64 => match tyOf Γ et with
          | some E => match k with
            | .int .i64 q => match m with
              | .mp id => match mg id with
                | some (.map z dom e _) => match ok with
                  | true => some ⟨.tup [e q, .bool (dom q)], [id], [], some (z = E.zeroV), none⟩
                  | false => some ⟨e q, [id], [], some (z = E.zeroV), none⟩
                | _ => none
              | .rom z dom e _ => match ok with
                | true => some (.valIf (.tup [e q, .bool (dom q)]) (z = E.zeroV))
                | false => some (.valIf (e q) (z = E.zeroV))
              | .nilMap => match ok with
                | true => some (.val (.tup [zeroA E, .bool false]))
                | false => some (.val (zeroA E))
              | _ => none
            | _ => none
          | none => none
        | _ => none
      | none => none
    | _ => none
  | none => none
def evMapSet (Γ : Tys) (mg : Mm) (t : TypeId) (m k x : AV) : Option R := match tyOf Γ t with
  | some T => match T.d with
    | .map kt _ => match tyOf Γ kt with
      | some KT => match KT.d with
        | .int .i64 => match k with
          | .int .i64 q => match m with
            | .mp id => match mg id with
              | some (.map z dom e n) => match x.cl with
                | true => some ⟨.any, [id], [(id, .map z (fun j => decide (j = q) || dom j) (fun j => bif decide (j = q) then x else e j) (bif dom q then n else n + 1))], none, none⟩
                | false => none
              | _ => none
            | _ => none
          | _ => none
        | _ => none
      | none => none
    | _ => none
  | none => none
def evMapDel (Γ : Tys) (mg : Mm) (t : TypeId) (m k : AV) : Option R := match tyOf Γ t with
  | some T => match T.d with
    | .map kt et => match tyOf Γ kt with
      | some KT => match KT.d with
        | .int .i64 => match tyOf Γ et with
          | some E => match k with
            | .int .i64 q => match m with
              | .mp id => match mg id with
                | some (.map z dom e n) => some ⟨.any, [id], [(id, .map z (fun j => !decide (j = q) && dom j) (fun j => bif decide (j = q) then zeroA E else e j) (bif dom q then n - 1 else n))], some (z = E.zeroV), none⟩
                | _ => none
              | _ => none
            | _ => none
          | none => none
        | _ => none
      | none => none
    | _ => none
  | none => none
def maxes : Int → List AV → Option Int
  | a, [] => some a
  | a, .int .i64 b :: r => maxes (max a b) r
  | _, _ :: _ => none
def mines : Int → List AV → Option Int
  | a, [] => some a
  | a, .int .i64 b :: r => mines (min a b) r
  | _, _ :: _ => none
def evLen (mg : Mm) : AV → Option R
  | .nilS => some (.val (.int .i64 0))
  | .ro _ n _ => some (.val (.int .i64 (n : Int)))
  | .buf id n => match mg id with
    | some (.buf _ _ n' _) => some ⟨.int .i64 (n' : Int), [id], [], some (n = n'), none⟩
    | some (.bufk _ _ n' _ _) => some ⟨.int .i64 (n' : Int), [id], [], some (n = n'), none⟩
    | _ => none
  | .nilMap => some (.val (.int .i64 0))
  | .rom _ _ _ n => some (.val (.int .i64 (n : Int)))
  | .mp id => match mg id with
    | some (.map _ _ _ n) => some ⟨.int .i64 (n : Int), [id], [], none, none⟩
    | _ => none
  | .gb id n => match mg id with
    | some (.grid _ _ _ n' _ _) => some ⟨.int .i64 (n' : Int), [id], [], some (n = n'), none⟩
    | _ => none
  | _ => none
def evBuiltin (Γ : Tys) (mg : Mm) (o : Oper) (b : Builtin) (ts : List TypeId) (xs : List AV) : Option R := match b, ts, xs with
  | .len, t :: _, [x] => match tyOf Γ t with
    | some T => match T.d with
      | .slice _ => match x with
        | .nilMap | .rom _ _ _ _ | .mp _ => none
        | x => evLen mg x
      | .map _ _ => match x with
        | .nilS | .ro _ _ _ | .buf _ _ | .gb _ _ => none
        | x => evLen mg x
      | _ => none
    | none => none
  | .clear, t :: _, [x] => evClear Γ mg t x
  | .copy, [t, _], [x, y] => evCopy Γ mg t x y
  | .append, [t, t'], [s, x] => match Nat.beq t t' with
    | true => match s, x with
      | .sb id n 0 b, .sb id2 n2 j k => evAppendB Γ mg o t id n b id2 n2 j k
      | s, x => evAppend Γ mg o t s x
    | false => none
  | .max, _, .int .i64 a :: r => match maxes a r with
    | some m => some (.val (.int .i64 m))
    | none => none
  | .min, _, .int .i64 a :: r => match mines a r with
    | some m => some (.val (.int .i64 m))
    | none => none
  | .delete, t :: _, [m, k] => evMapDel Γ mg t m k
  | _, _, _ => none
def inList : List Nat → Nat → Bool
  | [], _ => false
  | k :: r, t => match Nat.beq k t with
    | true => true
    | false => inList r t
mutual
/-- Names a value only such blocks? -/
def onlyIds (ids : List Nat) : AV → Bool
  | .lp id _ | .buf id _ | .ep id _ _ _ | .mp id | .gb id _ | .gp id _ | .gr' id _ _ | .ge id _ _ _ _ | .sb id _ _ _ => inList ids id
  | .agg cs | .tup cs => onlyL ids cs
  | .fn _ fs cs => match onlyL ids fs with
    | true => onlyL ids cs
    | false => false
  | .ifc _ v | .cnd _ v => onlyIds ids v
  | _ => true
def onlyL (ids : List Nat) : List AV → Bool
  | [] => true
  | c :: cs => match onlyIds ids c with
    | true => onlyL ids cs
    | false => false
end
def onlyB (ids : List Nat) : Blk → Bool
  | .cells cs => onlyL ids cs
  | _ => true
def onlyBs (ids : List Nat) : List (Nat × Blk) → Bool
  | [] => true
  | (_, b) :: r => match onlyB ids b with
    | true => onlyBs ids r
    | false => false
mutual
/-- Names of blocks, moved on. -/
def AV.sh (k : Nat) : AV → AV
  | .lp id off => .lp (k + id) off
  | .buf id n => .buf (k + id) n
  | .ep id n i off => .ep (k + id) n i off
  | .mp id => .mp (k + id)
  | .gb id n => .gb (k + id) n
  | .gp id i => .gp (k + id) i
  | .gr' id i m => .gr' (k + id) i m
  | .ge id i m j off => .ge (k + id) i m j off
  | .sb id n a b => .sb (k + id) n a b
  | .agg cs => .agg (shL k cs)
  | .tup cs => .tup (shL k cs)
  | .fn f fs cs => .fn f (shL k fs) (shL k cs)
  | .ifc t v => .ifc t (v.sh k)
  | .cnd g v => .cnd g (v.sh k)
  | v => v
def shL (k : Nat) : List AV → List AV
  | [] => []
  | c :: cs => c.sh k :: shL k cs
end
def Blk.sh (k : Nat) : Blk → Blk
  | .cells cs => .cells (shL k cs)
  | b => b
def shB (k : Nat) : List (Nat × Blk) → List (Nat × Blk)
  | [] => []
  | (i, b) :: r => (k + i, b.sh k) :: shB k r
def keysB : List (Nat × Blk) → List Nat
  | [] => []
  | (i, _) :: r => i :: keysB r
def noDup : List Nat → Bool
  | [] => true
  | i :: r => match inList r i with
    | true => false
    | false => noDup r
def freshAll (mg : Mm) : List Nat → Bool
  | [] => true
  | i :: r => match mg i with
    | none => freshAll mg r
    | some _ => false
mutual
/-- A value, laid out. -/
def forceA {β : Type} : AV → (AV → β) → β
  | .agg cs, f => forceL cs fun cs => f (.agg cs)
  | .tup cs, f => forceL cs fun cs => f (.tup cs)
  | .rp cs, f => forceL cs fun cs => f (.rp cs)
  | .fn k fs cs, f => forceL fs fun fs => forceL cs fun cs => f (.fn k fs cs)
  | .ifc t v, f => forceA v fun v => f (.ifc t v)
  | .cnd g v, f => forceA v fun v => f (.cnd g v)
  | .any, f => f .any
  | .nilS, f => f .nilS
  | .nilFn, f => f .nilFn
  | .nilPtr, f => f .nilPtr
  | .nilMap, f => f .nilMap
  | .nilIfc, f => f .nilIfc
  | .bool b, f => f (.bool b)
  | .int k n, f => f (.int k n)
  | .ro sz n e, f => f (.ro sz n e)
  | .lp id off, f => f (.lp id off)
  | .buf id n, f => f (.buf id n)
  | .ep id n i off, f => f (.ep id n i off)
  | .clo k fs cs, f => f (.clo k fs cs)
  | .mp id, f => f (.mp id)
  | .rom z dom e n, f => f (.rom z dom e n)
  | .raw v, f => f (.raw v)
  | .nz n, f => f (.nz n)
  | .po b cs, f => forceL cs fun cs => f (.po b cs)
  | .gb id n, f => f (.gb id n)
  | .gp id i, f => f (.gp id i)
  | .gr' id i m, f => f (.gr' id i m)
  | .ge id i m j off, f => f (.ge id i m j off)
  | .sb id n a b, f => f (.sb id n a b)
def forceL {β : Type} : List AV → (List AV → β) → β
  | [], f => f []
  | x :: r, f => forceA x fun x => forceL r fun r => f (x :: r)
end
mutual
theorem forceA_eq {β : Type} : ∀ (v : AV) (f : AV → β), forceA v f = f v
  | .agg cs, f => by simp only [forceA, forceL_eq]
  | .tup cs, f => by simp only [forceA, forceL_eq]
  | .rp cs, f => by simp only [forceA, forceL_eq]
  | .po b cs, f => by simp only [forceA, forceL_eq]
  | .fn k fs cs, f => by simp only [forceA, forceL_eq]
  | .ifc t v, f => by simp only [forceA, forceA_eq v]
  | .cnd g v, f => by simp only [forceA, forceA_eq v]
  | .any, f | .nilS, f | .nilFn, f | .nilPtr, f | .nilMap, f | .nilIfc, f | .bool _, f | .int _ _, f | .ro _ _ _, f | .lp _ _, f | .buf _ _, f | .ep _ _ _ _, f | .clo _ _ _, f | .mp _, f | .rom _ _ _ _, f | .raw _, f | .nz _, f | .gb _ _, f | .gp _ _, f | .gr' _ _ _, f | .ge _ _ _ _ _, f | .sb _ _ _ _, f => by simp only [forceA]
theorem forceL_eq {β : Type} : ∀ (cs : List AV) (f : List AV → β), forceL cs f = f cs
  | [], f => by simp only [forceL]
  | x :: r, f => by simp only [forceL, forceA_eq x, forceL_eq r]
end
structure RV where
  v : AV
  B : List (Nat × Blk)
  k : Nat
  K : List Nat
def evRet (mg : Mm) (f : FuncId) (args : List AV) (rd : List Nat) (c : Option Prop) (rv : RV) : Option R := match rd with
  | [] => match onlyIds (keysB rv.B) rv.v with
    | true => match onlyBs (keysB rv.B) rv.B with
      | true => match noDup (keysB rv.B) with
        | true => match freshAll mg (keysB (shB rv.k rv.B)) with
          | true => some ⟨rv.v.sh rv.k, keysB (shB rv.k rv.B), shB rv.k rv.B, c, some (f, args, [])⟩
          | false => none
        | false => none
      | false => none
    | false => none
  | _ :: _ => match rv.v.gr with
    | true => match rv.B with
      | [] => some ⟨rv.v, rd, [], c, some (f, args, [])⟩
      | _ :: _ => none
    | false => none
def evTake (mg : Mm) (f : FuncId) (args : List AV) (id : Nat) (v : AV) (B : List (Nat × Blk)) (k : Nat) : Option R := match mg id with
  | some (.buf ty sz n e) => match onlyL [id] args with
    | true => match onlyIds (keysB B) v with
      | true => match onlyBs (keysB B) B with
        | true => match noDup (keysB B) with
          | true => match freshAll mg (keysB (shB k B)) with
            | true => some ⟨v.sh k, id :: keysB (shB k B), (id, .dead) :: shB k B, none, some (f, args, [(id, .buf ty sz n e)])⟩
            | false => none
          | false => none
        | false => none
      | false => none
    | false => none
  | _ => none
def takes : List (Nat × Blk) → Option Nat
  | (id, .dead) :: _ => some id
  | _ => none
def handed (mg : Mm) : List Nat → Option (List (Nat × Blk))
  | [] => some []
  | i :: r => match mg i with
    | some b => match handed mg r with
      | some l => some ((i, b) :: l)
      | none => none
    | none => none
def allIn (ids : List Nat) : List Nat → Bool
  | [] => true
  | i :: r => match inList ids i with
    | true => allIn ids r
    | false => false
def freshOr (K : List Nat) (mg : Mm) : List Nat → Bool
  | [] => true
  | i :: r => match inList K i with
    | true => freshOr K mg r
    | false => match mg i with
      | none => freshOr K mg r
      | some _ => false
def evLend (mg : Mm) (f : FuncId) (args : List AV) (v : AV) (B : List (Nat × Blk)) (K : List Nat) : Option R := match handed mg K with
  | some A => match onlyL K args with
    | true => match onlyBs K A with
      | true => match onlyIds (keysB B) v with
        | true => match onlyBs (keysB B) B with
          | true => match noDup (keysB B) with
            | true => match allIn (keysB B) K with
              | true => match freshOr K mg (keysB B) with
                | true => some ⟨v, keysB B, B, none, some (f, args, A)⟩
                | false => none
              | false => none
            | false => none
          | false => none
        | false => none
      | false => none
    | false => none
  | none => none
def evCall (mg : Mm) (f : FuncId) (args : List AV) (rv : Option RV) : Option R := match rv with
  | some rv => match takes rv.B with
    | some id => forceL args fun args => evTake mg f args id rv.v rv.B.tail rv.k
    | none => match rv.K with
      | [] => match viewL mg args with
        | some (args', rd, c) => forceL args' fun args' => evRet mg f args' rd c rv
        | none => none
      | i :: K => forceL args fun args => evLend mg f args rv.v rv.B (i :: K)
  | none => none
def evClo (mg : Mm) (f : FuncId) (fs args cs : List AV) (rv : Option RV) : Option R := match rv with
  | some rv => match takes rv.B with
    | some _ => none
    | none => match viewL mg args with
      | some (args', rd, c) => forceL args' fun args' => evRet mg f (fs ++ (args' ++ cs)) rd c rv
      | none => none
  | none => none
def evPick (c x y : AV) : Option R := match c with
  | .bool p => match x, y with
    | .bool a, .bool b => some (.val (.bool (bif p then a else b)))
    | .int .i64 a, .int .i64 b => some (.val (.int .i64 (bif p then a else b)))
    | _, _ => none
  | _ => none
def evIndexAddr (Γ : Tys) (mg : Mm) (t : TypeId) (x i : AV) : Option R := match tyOf Γ t with
  | some T => match i with
    | .int .i64 q => match T.d with
      | .slice e => match tyOf Γ e with
        | some E => match x with
          | .ro sz n el => match Nat.beq sz E.size with
            | true => match spine (el q.toNat) with
              | some cs => some (.valIf (.rp cs) (0 ≤ q ∧ q < (n : Int)))
              | none => none
            | false => none
          | .buf id n => match mg id with
            | some (.buf _ sz n' _) => match Nat.beq sz E.size with
              | true => some ⟨.ep id n' q.toNat 0, [id], [], some (n = n' ∧ 0 ≤ q ∧ q < (n' : Int)), none⟩
              | false => none
            | _ => none
          | .gb id n => match mg id with
            | some (.grid _ _ _ n' _ _) => match Nat.beq 1 E.size with
              | true => some ⟨.gp id q.toNat, [id], [], some (n = n' ∧ 0 ≤ q ∧ q < (n' : Int)), none⟩
              | false => none
            | _ => none
          | .gr' id i k => match mg id with
            | some (.grid _ _ sz n' m _) => match Nat.beq sz E.size with
              | true => some ⟨.ge id i k q.toNat 0, [id], [], some (k = m i ∧ i < n' ∧ 0 ≤ q ∧ q < (m i : Int)), none⟩
              | false => none
            | _ => none
          | _ => none
        | none => none
      | .array n e => match tyOf Γ e with
        | some E => match ptrAdd (q.toNat * E.size) x with
          | some p => some (.valIf p (0 ≤ q ∧ q < (n : Int)))
          | none => none
        | none => none
      | _ => none
    | _ => none
  | none => none
def evSlice (Γ : Tys) (t : TypeId) (x : AV) (lo hi : Option AV) : Option R := match tyOf Γ t with
  | some T => match T.d with
    | .slice e => match tyOf Γ e with
      | some E => match x with
        | .ro sz n el => match Nat.beq sz E.size with
          | true => match lo, hi with
            | some (.int .i64 a), some (.int .i64 b) => some (.valIf (.ro sz (b.toNat - a.toNat) (fun k => el (a.toNat + k))) (0 ≤ a ∧ a ≤ b ∧ b ≤ (n : Int)))
            | none, some (.int .i64 b) => some (.valIf (.ro sz b.toNat el) (0 ≤ b ∧ b ≤ (n : Int)))
            | some (.int .i64 a), none => some (.valIf (.ro sz (n - a.toNat) (fun k => el (a.toNat + k))) (0 ≤ a ∧ a ≤ (n : Int)))
            | none, none => some (.val (.ro sz n el))
            | _, _ => none
          | false => none
        | _ => none
      | none => none
    | _ => none
  | none => none
def evSliceB (Γ : Tys) (mg : Mm) (t : TypeId) (id n : Nat) (lo hi mx : Option AV) : Option R := match tyOf Γ t with
  | some T => match T.d with
    | .slice e => match tyOf Γ e with
      | some E => match mg id with
        | some (.buf _ sz n' _) => match Nat.beq sz E.size with
          | true => match lo, hi, mx with
            | some (.int .i64 a), some (.int .i64 b), some (.int .i64 c) => some ⟨.any, [id], [], some (n = n' ∧ 0 ≤ a ∧ a ≤ b ∧ b ≤ c ∧ c ≤ (n' : Int)), none⟩
            | some (.int .i64 a), some (.int .i64 b), none => some ⟨.sb id n' a.toNat b.toNat, [id], [], some (n = n' ∧ 0 < n' ∧ 0 ≤ a ∧ a ≤ b ∧ b ≤ (n' : Int)), none⟩
            | none, some (.int .i64 b), none => some ⟨.sb id n' 0 b.toNat, [id], [], some (n = n' ∧ 0 < n' ∧ 0 ≤ b ∧ b ≤ (n' : Int)), none⟩
            | some (.int .i64 a), none, none => some ⟨.sb id n' a.toNat n', [id], [], some (n = n' ∧ 0 < n' ∧ 0 ≤ a ∧ a ≤ (n' : Int)), none⟩
            | _, _, _ => none
          | false => none
        | some (.bufk _ sz n' c _) => match Nat.beq sz E.size with
          | true => match lo, hi, mx with
            | some (.int .i64 a), some (.int .i64 b), none => some ⟨.sb id n' a.toNat b.toNat, [id], [], some (n = n' ∧ 0 ≤ a ∧ a ≤ b ∧ b ≤ (c : Int)), none⟩
            | _, _, _ => none
          | false => none
        | _ => none
      | none => none
    | _ => none
  | none => none
def optV (val : Operand → AV) : Option Operand → Option AV
  | some x => some (val x)
  | none => none
def gridOf (Γ : Tys) (own : List Nat) (d : Nat) (E : TyD) : Option (Nat × Nat) := match inList own d with
  | true => match E.d with
    | .slice ty => match tyOf Γ ty with
      | some X => match E.zero with
        | .slice none 0 0 :: [] => match Nat.beq E.size 1 with
          | true => some (ty, X.size)
          | false => none
        | _ => none
      | none => none
    | _ => none
  | false => none
def evalOp (Γ : Tys) (own : List Nat) (val : Operand → AV) (mg : Mm) (o : Oper) (rv : Option RV) : Option R := match o.op with
  | .move x | .assign x => some (.val (val x))
  | .pick c x y => evPick (val c) (val x) (val y)
  | .alloc t => match tyOf Γ t with
    | some T => match fresh mg o with
      | some d => some ⟨.lp d 0, [d], [(d, .cells (zeros T.zero))], none, none⟩
      | none => none
    | none => none
  | .box _ x => match cellsV (val x) with
    | some cs => match fresh mg o with
      | some d => some ⟨.lp d 0, [d], [(d, .cells cs)], none, none⟩
      | none => none
    | none => none
  | .build t ps => match tyOf Γ t with
    | some T => match T.d with
      | .struct fs => match layParts (zeros T.zero) (fun i => match nthN i fs with
          | some (off, ft) => match tyOf Γ ft with
            | some FT => some (off, FT.size)
            | none => none
          | none => none) (valsOf val ps.toList) with
        | some cs => some (.val (.agg cs))
        | none => none
      | .array _ e => match tyOf Γ e with
        | some E => match layParts (zeros T.zero) (fun i => some (i * E.size, E.size)) (valsOf val ps.toList) with
          | some cs => some (.val (.agg cs))
          | none => none
        | none => none
      | _ => none
    | none => none
  | .buildSlice t n ps => match tyOf Γ t with
    | some T => match T.d with
      | .slice e => match tyOf Γ e with
        | some E => match Nat.ble (n * E.size) 16777216 with
          | true => match layParts (repL (zeros E.zero) n) (fun i => some (i * E.size, E.size)) (valsOf val ps.toList) with
            | some cs => match viewC cs with
              | true => match singles cs with
                | true => match o.dst with
                  | some d => match inList own d with
                    | true => match mg d with
                      | none => match Nat.ble n 16777216 with
                        | true => some ⟨.buf d n, [d], [(d, .buf e E.size n (elemAt E.size cs))], none, none⟩
                        | false => none
                      | some _ => none
                    | false => match Nat.ble n 16777216 with
                      | true => some (.val (.ro E.size n (elemAt E.size cs)))
                      | false => none
                  | none => none
                | false => none
              | false => none
            | none => none
          | false => none
        | none => none
      | _ => none
    | none => none
  | .load t p => match tyOf Γ t with
    | some T => match target mg (val p) with
      | some (cs, rd, c) => match ofCells T cs with
        | some v => some ⟨v, rd, [], c, none⟩
        | none => none
      | none => none
    | none => none
  | .store t p x => match tyOf Γ t with
    | some T => match cellsV (val x) with
      | some [] => none
      | some (x0 :: xs) => match Nat.beq (x0 :: xs).length T.size with
        | true => match val p with
          | .lp id off => match mg id with
            | some (.cells cs) => match layN off (x0 :: xs) cs with
              | some cs' => some ⟨.any, [id], [(id, .cells cs')], none, none⟩
              | none => none
            | _ => none
          | .ep id n i off => match mg id with
            | some (.buf ty sz n' e) => match viewC (x0 :: xs) with
              | true => match layE off (x0 :: xs) sz (e i) with
                | some es => some ⟨.any, [id], [(id, .buf ty sz n' (fun k => if k = i then es else e k))], some (n = n' ∧ i < n'), none⟩
                | none => none
              | false => none
            | _ => none
          | .gp id i => match val x with
            | .buf id2 k => match mg id with
              | some (.grid tS ty sz n m e) => match mg id2 with
                | some (.buf ty2 sz2 k2 e2) => match Nat.beq ty ty2 && Nat.beq sz sz2 && !Nat.beq id id2 with
                  | true => some ⟨.any, [id, id2], [(id, .grid tS ty sz n (fun a => if a = i then k2 else m a) (fun a => if a = i then e2 else e a)), (id2, .dead)], some (i < n ∧ k = k2 ∧ m i < k2), none⟩
                  | false => none
                | _ => none
              | _ => none
            | _ => none
          | .ge id i k j off => match mg id with
            | some (.grid tS ty sz n m e) => match viewC (x0 :: xs) with
              | true => match layE off (x0 :: xs) sz (e i j) with
                | some es => some ⟨.any, [id], [(id, .grid tS ty sz n m (fun a b => if a = i ∧ b = j then es else e a b))], some (k = m i ∧ i < n ∧ j < m i), none⟩
                | none => none
              | false => none
            | _ => none
          | _ => none
        | false => none
      | none => none
    | none => none
  | .nilCheck x => match val x with
    | .rp cs => some (.val (.rp cs))
    | .po b cs => some (.valIf (.rp cs) (b = true))
    | .lp id off => some (.val (.lp id off))
    | .ep id n i off => some (.val (.ep id n i off))
    | .ge id i k j off => some (.val (.ge id i k j off))
    | _ => none
  | .binOp op t x y _ => evBin Γ op t (val x) (val y)
  | .unOp op _ x => match op, val x with
    | .not, .bool b => some (.val (.bool (!b)))
    | .neg, .int .i64 n => some (.valIf (.int .i64 (0 - n)) (inI (0 - n)))
    | _, _ => none
  | .convert s t x => match tyOf Γ s, tyOf Γ t with
    | some S, some T => match S.d, T.d, val x with
      | .int .i64, .int .i64, .int .i64 n => some (.valIf (.int .i64 n) (inI n))
      | .int .i64, .int .u64, .int .i64 n => some (.valIf (.int .u64 n) (inU n))
      | .int .u64, .int .i64, .int .u64 n => some (.valIf (.int .i64 n) (inI n))
      | _, _, _ => none
    | _, _ => none
  | .makeFunc f fs cs => some (.val (.fn f (mapAV val fs.toList) (mapAV val cs.toList)))
  | .makeMap t none => match tyOf Γ t with
    | some T => match T.d with
      | .map _ e => match tyOf Γ e with
        | some E => match fresh mg o with
          | some d => some ⟨.mp d, [d], [(d, .map E.zeroV (fun _ => false) (fun _ => zeroA E) 0)], none, none⟩
          | none => none
        | none => none
      | _ => none
    | none => none
  | .makeSlice t l c => match tyOf Γ t with
    | some T => match T.d with
      | .slice e => match tyOf Γ e with
        | some E => match val l, val c with
          | .int .i64 n, .int .i64 m => match fresh mg o with
            | some d => match gridOf Γ own d E with
             | some (ty, sz) => some ⟨.gb d n.toNat, [d], [(d, .grid e ty sz n.toNat (fun _ => 0) (fun _ _ => []))], some (0 ≤ n ∧ n ≤ m ∧ room m.toNat E.bytes), none⟩
             | none => some ⟨.buf d n.toNat, [d], [(d, .buf e E.size n.toNat (fun _ => zeros E.zero))], some (0 ≤ n ∧ n ≤ m ∧ room m.toNat E.bytes), none⟩
            | none => none
          | _, _ => none
        | none => none
      | _ => none
    | none => none
  | .slice t x lo hi mx => match val x with
    | .buf id n => evSliceB Γ mg t id n (optV val lo) (optV val hi) (optV val mx)
    | v => match mx with
      | none => evSlice Γ t v (optV val lo) (optV val hi)
      | some _ => none
  | .fieldAddr t p k => match tyOf Γ t with
    | some T => match T.d with
      | .struct fs => match nthN k fs with
        | some (off, ft) => match tyOf Γ ft with
          | some FT => match FT.size with
            | 0 => none
            | _ + 1 => match ptrAdd off (val p) with
              | some v => some (.val v)
              | none => none
          | none => none
        | none => none
      | _ => none
    | none => none
  | .field t x k => match tyOf Γ t with
    | some T => match T.d with
      | .struct fs => match nthN k fs with
        | some (off, ft) => match tyOf Γ ft with
          | some FT => match val x with
            | .agg cs => match dropN off cs with
              | some r => match ofCells FT r with
                | some v => some (.val v)
                | none => none
              | none => none
            | _ => none
          | none => none
        | none => none
      | _ => none
    | none => none
  | .indexAddr t x i => evIndexAddr Γ mg t (val x) (val i)
  | .index t x i => match tyOf Γ t with
    | some T => match T.d with
      | .array n e => match tyOf Γ e with
        | some E => match val x, val i with
          | .agg cs, .int .i64 q => match dropN (q.toNat * E.size) cs with
            | some r => match ofCells E r with
              | some v => some (.valIf v (0 ≤ q ∧ q < (n : Int)))
              | none => none
            | none => none
          | _, _ => none
        | none => none
      | _ => none
    | none => none
  | .lookup t m k ok => evLookup Γ mg t (val m) (val k) ok
  | .mapUpdate t m k x | .insert t m k x => evMapSet Γ mg t (val m) (val k) (val x)
  | .makeInterface t x => match tyOf Γ t with
    | some T => match T.d with
      | .iface => none
      | _ => some (.val (.ifc t (val x)))
    | none => none
  | .extract t i => match val t with
    | .tup vs => match nthN i vs with
      | some v => some (.val v)
      | none => none
    | _ => none
  | .call ⟨.builtin b, args, ts⟩ => evBuiltin Γ mg o b ts.toList (mapAV val args.toList)
  | .call ⟨.value f, args, _⟩ => match val f with
    | .fn (.func g) fs cs => evCall mg g (fs ++ (mapAV val args.toList ++ cs)) rv
    | .clo (.func g) fs cs => evClo mg g fs (mapAV val args.toList) cs rv
    | _ => none
  | _ => none
end Go.Av
