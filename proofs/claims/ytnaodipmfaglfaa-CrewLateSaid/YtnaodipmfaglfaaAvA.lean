/- Abstract values: what a value of the model reads as, over a part of memory that is only read and blocks that the activation owns. No program is in sight. -/
import Derived.WalkKit
import Derived.RangeFuncLeaves
import Derived.OrdersIn
import Derived.RangeFuncOwn
set_option linter.all false
namespace Go.Av
inductive AV where
  | any | nilS | nilFn | nilPtr | nilMap | nilIfc
  | bool (b : Bool)
  | int (k : IntKind) (n : Int)
  | agg (cs : List AV)
  | tup (cs : List AV)
  | ro (sz n : Nat) (e : Nat → List AV)
  | rp (cs : List AV)
  | lp (id off : Nat)
  | buf (id n : Nat)
  | ep (id n i off : Nat)
  | fn (f : Fn) (first captured : List AV)
  | clo (f : Fn) (first captured : List AV)
  | mp (id : Nat)
  | rom (z : Value) (dom : Int → Bool) (e : Int → AV) (n : Nat)
  | ifc (t : TypeId) (v : AV)
  | cnd (g : Bool) (v : AV)
  | raw (v : Value)
  | nz (n : Nat)
  | po (b : Bool) (cs : List AV)
  | gb (id n : Nat)
  | gp (id i : Nat)
  | gr' (id i m : Nat)
  | ge (id i m j off : Nat)
  | sb (id n a b : Nat)
abbrev Hp := Nat → Option Obj
inductive LI where
  | blk (b : Nat)
  | sl (n sz : Nat) (v : Value)
  | grid (v : Value) (sz : Nat) (rows : List (Nat × Value))
abbrev Rho := Nat → Option LI
def ρ0 : Rho := fun _ => none
def LI.owns : LI → Nat → Prop
  | .blk b', b => some b' = some b
  | .sl _ _ v, b => v.ownBlock = some b
  | .grid v _ rows, b => v.ownBlock = some b ∨ ∃ r, r ∈ rows ∧ r.2.ownBlock = some b
def LI.le (a b : LI) : Prop := a = b ∨ (∃ n n' sz v v', a = .sl n sz v ∧ b = .sl n' sz v' ∧ n < n') ∨
  ∃ v sz rows rows', a = .grid v sz rows ∧ b = .grid v sz rows' ∧ rows'.length = rows.length ∧ ∀ (i m : Nat) (x : Value), rows[i]? = some (m, x) → rows'[i]? = some (m, x) ∨ ∃ m' x', rows'[i]? = some (m', x') ∧ m < m'
theorem LI.le_refl (a : LI) : a.le a := .inl rfl
def cellOf (h : Hp) (a : Addr) : Option Value :=
  match h a.block with
  | some (.cells c _ _) => if a.spot.isSome then none else c[a.off]?
  | _ => none
def hcell (h : Hp) (a : Option Addr) (k : Nat) : Option Value :=
  match a with
  | none => none
  | some ad => cellOf h (ad.add k)
inductive Rel (h : Hp) : Rho → AV → Value → Prop
  | any (ρ v) : Rel h ρ .any v
  | nilS (ρ) : Rel h ρ .nilS (.slice none 0 0)
  | nilFn (ρ) : Rel h ρ .nilFn .nilFunc
  | nilPtr (ρ) : Rel h ρ .nilPtr (.pointer none)
  | nilMap (ρ) : Rel h ρ .nilMap (.map none)
  | nilIfc (ρ) : Rel h ρ .nilIfc .nilIface
  | bool (ρ b) : Rel h ρ (.bool b) (.bool b)
  | int (ρ k n) : Rel h ρ (.int k n) (.int k n)
  | agg (ρ cs) (vs : List Value) (hl : vs.length = cs.length) (hc : ∀ (i : Nat) (c : AV) (v : Value), cs[i]? = some c → vs[i]? = some v → Rel h ρ c v) : Rel h ρ (.agg cs) (.agg vs.toArray)
  | tup (ρ cs) (vs : List Value) (hl : vs.length = cs.length) (hc : ∀ (i : Nat) (c : AV) (v : Value), cs[i]? = some c → vs[i]? = some v → Rel h ρ c v) : Rel h ρ (.tup cs) (.tuple vs.toArray)
  | ro (ρ sz n e) (a : Option Addr) (cap : Nat) (hnil : a = none → n = 0) (hcap : n ≤ cap ∧ n ≤ maxLen) (hsz : ∀ i, i < n → (e i).length = sz) (hs : ∀ i j, i < n → j < sz → (hcell h a (i * sz + j)).isSome = true)
      (h1 : ∀ (k : Nat) (v : Value), k < n * sz → hcell h a k = some v → v.oneCell' = true)
      (hc : ∀ (i j : Nat) (c : AV) (v : Value), i < n → (e i)[j]? = some c → hcell h a (i * sz + j) = some v → Rel h ρ0 c v) : Rel h ρ (.ro sz n e) (.slice a n cap)
  | rp (ρ cs) (ad : Addr) (hs : ∀ j, j < cs.length → (cellOf h (ad.add j)).isSome = true)
      (hc : ∀ (j : Nat) (c : AV) (v : Value), cs[j]? = some c → cellOf h (ad.add j) = some v → Rel h ρ0 c v) : Rel h ρ (.rp cs) (.pointer (some ad))
  | lp (ρ id off) (b : Nat) (hb : ρ id = some (.blk b)) : Rel h ρ (.lp id off) (.pointer (some ⟨b, off, none⟩))
  | buf (ρ id n) (n' sz : Nat) (v v' : Value) (hb : ρ id = some (.sl n' sz v')) (hle : n ≤ n') (h1 : v.oneCell' = true) (he : n = n' → v = v') : Rel h ρ (.buf id n) v
  | ep (ρ id n i off) (n' sz : Nat) (v v' : Value) (hb : ρ id = some (.sl n' sz v')) (hle : n ≤ n') (h1 : ∃ ad, v = .pointer (some ad)) (he : n = n' → ∃ b cap, v' = .slice (some ⟨b, 0, none⟩) n' cap ∧ v = .pointer (some ⟨b, i * sz + off, none⟩)) : Rel h ρ (.ep id n i off) v
  | fn (ρ f fs cs) (vs ws : List Value) (hl : vs.length = fs.length) (hm : ws.length = cs.length) (hc : ∀ (i : Nat) (c : AV) (v : Value), fs[i]? = some c → vs[i]? = some v → Rel h ρ c v)
      (hd : ∀ (i : Nat) (c : AV) (v : Value), cs[i]? = some c → ws[i]? = some v → Rel h ρ c v) : Rel h ρ (.fn f fs cs) (.func f vs.toArray ws.toArray)
  | clo (ρ f fs cs v) (hv : Rel h ρ0 (.fn f fs cs) v) : Rel h ρ (.clo f fs cs) v
  | mp (ρ id) (b : Nat) (hb : ρ id = some (.blk b)) : Rel h ρ (.mp id) (.map (some b))
  | rom (ρ z dom e n) (r : Nat) (es : List MapEntry) (clock : Nat) (ks : List Int) (hr : h r = some (.map es.toArray clock)) (hks : ks.Nodup) (hlen : ks.length = n) (hel : es.length = n)
      (hk : ∀ (i : Nat) (k : Int) (x : MapEntry), ks[i]? = some k → es[i]? = some x → x.key = .int .i64 k) (hborn : ∀ x ∈ es, x.born < clock) (hbd : (es.map (·.born)).Nodup)
      (hdom : ∀ k, dom k = true ↔ k ∈ ks) (hz : ∀ k, dom k = false → Rel h ρ0 (e k) z)
      (hc : ∀ (i : Nat) (k : Int) (x : MapEntry), ks[i]? = some k → es[i]? = some x → Rel h ρ0 (e k) x.val) : Rel h ρ (.rom z dom e n) (.map (some r))
  | ifc (ρ t a v) (hv : Rel h ρ a v) : Rel h ρ (.ifc t a) (.iface t v)
  | cnd (ρ g a v) (ht : g = true → Rel h ρ a v) (hf : g = false → v = undef) : Rel h ρ (.cnd g a) v
  | raw (ρ v) : Rel h ρ (.raw v) v
  | nz (ρ n) (b : Bool) (hb : b = true → n = 0) : Rel h ρ (.nz n) (.bool b)
  | po (ρ b cs v) (ht : b = true → Rel h ρ (.rp cs) v) (hf : b = false → v = .pointer none) : Rel h ρ (.po b cs) v
  | gb (ρ id n) (sz : Nat) (rows : List (Nat × Value)) (v : Value) (hb : ρ id = some (.grid v sz rows)) (hn : rows.length = n) (h1 : v.oneCell' = true) : Rel h ρ (.gb id n) v
  | gp (ρ id i) (b n cap sz : Nat) (rows : List (Nat × Value)) (hb : ρ id = some (.grid (.slice (some ⟨b, 0, none⟩) n cap) sz rows)) : Rel h ρ (.gp id i) (.pointer (some ⟨b, i, none⟩))
  | gr' (ρ id i m) (m' sz : Nat) (gv v v' : Value) (rows : List (Nat × Value)) (hb : ρ id = some (.grid gv sz rows)) (hi : rows[i]? = some (m', v')) (hle : m ≤ m') (h1 : v.oneCell' = true) (he : m = m' → v = v') : Rel h ρ (.gr' id i m) v
  | ge (ρ id i m j off) (m' sz : Nat) (gv v v' : Value) (rows : List (Nat × Value)) (hb : ρ id = some (.grid gv sz rows)) (hi : rows[i]? = some (m', v')) (hle : m ≤ m') (h1 : ∃ ad, v = .pointer (some ad)) (he : m = m' → ∃ b cap, v' = .slice (some ⟨b, 0, none⟩) m' cap ∧ v = .pointer (some ⟨b, j * sz + off, none⟩)) : Rel h ρ (.ge id i m j off) v
  | sb (ρ id n a b) (n' sz : Nat) (v v' : Value) (hb : ρ id = some (.sl n' sz v')) (hle : n ≤ n') (h1 : v.oneCell' = true) (he : n = n' → ∃ g cap, v' = .slice (some ⟨g, 0, none⟩) n' cap ∧ v = .slice (some (if cap = a then ⟨g, 0, none⟩ else ⟨g, a * sz, none⟩)) (b - a) (cap - a)) : Rel h ρ (.sb id n a b) v
def Le (h h' : Hp) : Prop := ∀ b o, h b = some o → (∀ l, o ≠ .loop l) → (∀ d, o ≠ .deferred d) → h' b = some o
theorem Le.refl (h : Hp) : Le h h := fun _ _ x _ _ => x
theorem Le.trans {a b c : Hp} (h : Le a b) (k : Le b c) : Le a c := fun i o x y z => k i o (h i o x y z) y z
theorem Le.of {h h' : Hp} (k : ∀ b o, h b = some o → h' b = some o) : Le h h' := fun b o x _ _ => k b o x
theorem Le.cellOf {h h' : Hp} (hh : Le h h') {a : Addr} {v : Value} (hc : cellOf h a = some v) : cellOf h' a = some v := by
  unfold Av.cellOf at hc ⊢
  cases hb : h a.block with
  | none => simp [hb] at hc
  | some o =>
    cases o <;> simp only [hb] at hc <;> (try cases hc)
    rw [hh _ _ hb (by simp) (by simp)]
    exact hc
theorem Le.hcell {h h' : Hp} (hh : Le h h') {a : Option Addr} {k : Nat} {v : Value} (hc : hcell h a k = some v) : hcell h' a k = some v := by
  cases a with
  | none => cases hc
  | some ad => exact Le.cellOf hh hc
theorem Le.of_some {h h' : Hp} (hh : Le h h') {a : Addr} {v : Value} (hs : (Av.cellOf h a).isSome = true) (hc : Av.cellOf h' a = some v) : Av.cellOf h a = some v := by
  obtain ⟨u, hu⟩ := Option.isSome_iff_exists.1 hs
  rw [Le.cellOf hh hu] at hc
  rw [hu, ← hc]
theorem Le.of_hsome {h h' : Hp} (hh : Le h h') {a : Option Addr} {k : Nat} {v : Value} (hs : (Av.hcell h a k).isSome = true) (hc : Av.hcell h' a k = some v) : Av.hcell h a k = some v := by
  obtain ⟨u, hu⟩ := Option.isSome_iff_exists.1 hs
  rw [Le.hcell hh hu] at hc
  rw [hu, ← hc]
theorem Rel.mono {h h' : Hp} {ρ ρ' : Rho} {a : AV} {v : Value} (hh : Le h h') (hr : ∀ id li, ρ id = some li → ∃ li', ρ' id = some li' ∧ li.le li') (H : Rel h ρ a v) : Rel h' ρ' a v := by
  induction H generalizing ρ' with
  | any ρ v => exact .any _ _
  | nilS => exact .nilS _
  | nilFn => exact .nilFn _
  | nilPtr => exact .nilPtr _
  | nilMap => exact .nilMap _
  | nilIfc => exact .nilIfc _
  | bool => exact .bool _ _
  | int => exact .int _ _ _
  | agg ρ cs vs hl hc ih => exact .agg _ _ _ hl fun i c v h1 h2 => ih i c v h1 h2 hr
  | tup ρ cs vs hl hc ih => exact .tup _ _ _ hl fun i c v h1 h2 => ih i c v h1 h2 hr
  | ro ρ sz n e a cap hnil hcap hsz hs h1 hc ih =>
    refine .ro _ _ _ _ _ _ hnil hcap hsz (fun i j hi hj => ?_) (fun k v hk hv => ?_) (fun i j c v hi hj hv => ih i j c v hi hj (Le.of_hsome hh (hs i j hi ?_) hv) (fun _ li h => ⟨li, h, .inl rfl⟩))
    · obtain ⟨u, hu⟩ := Option.isSome_iff_exists.1 (hs i j hi hj)
      rw [Le.hcell hh hu]; rfl
    · have hpos : 0 < sz := by
        rcases Nat.eq_zero_or_pos sz with h0 | h0
        · subst h0; simp at hk
        · exact h0
      have hs' := hs (k / sz) (k % sz) (by rw [Nat.div_lt_iff_lt_mul hpos]; exact hk) (Nat.mod_lt _ hpos)
      rw [Nat.mul_comm, Nat.div_add_mod] at hs'
      exact h1 k v hk (Le.of_hsome hh hs' hv)
    · have := (List.getElem?_eq_some_iff.1 hj).1
      rw [hsz i hi] at this; exact this
  | rp ρ cs ad hs hc ih =>
    refine .rp _ _ _ (fun j hj => ?_) (fun j c v hj hv => ih j c v hj (Le.of_some hh (hs j (List.getElem?_eq_some_iff.1 hj).1) hv) (fun _ li h => ⟨li, h, .inl rfl⟩))
    obtain ⟨u, hu⟩ := Option.isSome_iff_exists.1 (hs j hj)
    rw [Le.cellOf hh hu]; rfl
  | lp ρ id off b hb =>
    obtain ⟨li', h1, h2⟩ := hr _ _ hb
    rcases h2 with rfl | ⟨n, n', sz, v, v', h2, _⟩ | ⟨_, _, _, _, h2, _⟩
    · exact .lp _ _ _ _ h1
    · cases h2
    · cases h2
  | buf ρ id n n' sz v v' hb hle h0 he =>
    obtain ⟨li', h1, h2⟩ := hr _ _ hb
    rcases h2 with rfl | ⟨m, m', sz', u, u', h2, rfl, h3⟩ | ⟨_, _, _, _, h2, _⟩
    · exact .buf _ _ _ _ _ _ _ h1 hle h0 he
    · cases h2; exact .buf _ _ _ _ _ _ _ h1 (by omega) h0 (fun e => by omega)
    · cases h2
  | ep ρ id n i off n' sz v v' hb hle h0 he =>
    obtain ⟨li', h1, h2⟩ := hr _ _ hb
    rcases h2 with rfl | ⟨m, m', sz', u, u', h2, rfl, h3⟩ | ⟨_, _, _, _, h2, _⟩
    · exact .ep _ _ _ _ _ _ _ _ _ h1 hle h0 he
    · cases h2; exact .ep _ _ _ _ _ _ _ _ _ h1 (by omega) h0 (fun e => by omega)
    · cases h2
  | fn ρ f fs cs vs ws hl hm hc hd ih1 ih2 => exact .fn _ _ _ _ _ _ hl hm (fun i c v h1 h2 => ih1 i c v h1 h2 hr) (fun i c v h1 h2 => ih2 i c v h1 h2 hr)
  | clo ρ f fs cs v hv ih => exact .clo _ _ _ _ _ (ih (fun _ li h => ⟨li, h, .inl rfl⟩))
  | mp ρ id b hb =>
    obtain ⟨li', h1, h2⟩ := hr _ _ hb
    rcases h2 with rfl | ⟨n, n', sz, v, v', h2, _⟩ | ⟨_, _, _, _, h2, _⟩
    · exact .mp _ _ _ h1
    · cases h2
    · cases h2
  | rom ρ z dom e n r es clock ks hR hks hlen hel hk hborn hbd hdom hz hc ihz ih =>
    exact .rom _ _ _ _ _ _ _ _ _ (hh _ _ hR (by simp) (by simp)) hks hlen hel hk hborn hbd hdom (fun k h1 => ihz k h1 (fun _ li h => ⟨li, h, .inl rfl⟩)) (fun i k x h1 h2 => ih i k x h1 h2 (fun _ li h => ⟨li, h, .inl rfl⟩))
  | ifc ρ t a v hv ih => exact .ifc _ _ _ _ (ih hr)
  | cnd ρ g a v ht hf ih => exact .cnd _ _ _ _ (fun hg => ih hg hr) hf
  | raw => exact .raw _ _
  | nz ρ n b hb => exact .nz _ _ _ hb
  | po ρ b cs v ht hf ih => exact .po _ _ _ _ (fun hg => ih hg hr) hf
  | gb ρ id n sz rows v hb hn h0 =>
    obtain ⟨li', h1, h2⟩ := hr _ _ hb
    rcases h2 with rfl | ⟨_, _, _, _, _, h2, _⟩ | ⟨_, _, _, rows', h2, rfl, h3, _⟩
    · exact .gb _ _ _ _ _ _ h1 hn h0
    · cases h2
    · cases h2; exact .gb _ _ _ _ _ _ h1 (h3.trans hn) h0
  | gp ρ id i b n cap sz rows hb =>
    obtain ⟨li', h1, h2⟩ := hr _ _ hb
    rcases h2 with rfl | ⟨_, _, _, _, _, h2, _⟩ | ⟨_, _, _, rows', h2, rfl, h3, _⟩
    · exact .gp _ _ _ _ _ _ _ _ h1
    · cases h2
    · cases h2; exact .gp _ _ _ _ _ _ _ _ h1
  | gr' ρ id i m m' sz gv v v' rows hb hi hle h0 he =>
    obtain ⟨li', h1, h2⟩ := hr _ _ hb
    rcases h2 with rfl | ⟨_, _, _, _, _, h2, _⟩ | ⟨_, _, _, rows', h2, rfl, h3, h4⟩
    · exact .gr' _ _ _ _ _ _ _ _ _ _ h1 hi hle h0 he
    · cases h2
    · cases h2
      rcases h4 i m' v' hi with h5 | ⟨m2, x2, h5, h6⟩
      · exact .gr' _ _ _ _ _ _ _ _ _ _ h1 h5 hle h0 he
      · exact .gr' _ _ _ _ _ _ _ _ _ _ h1 h5 (by omega) h0 (fun e => by omega)
  | sb ρ id n a b n' sz v v' hb hle h0 he =>
    obtain ⟨li', h1, h2⟩ := hr _ _ hb
    rcases h2 with rfl | ⟨m, m', sz', u, u', h2, rfl, h3⟩ | ⟨_, _, _, _, h2, _⟩
    · exact .sb _ _ _ _ _ _ _ _ _ h1 hle h0 he
    · cases h2; exact .sb _ _ _ _ _ _ _ _ _ h1 (by omega) h0 (fun e => by omega)
    · cases h2
  | ge ρ id i m j off m' sz gv v v' rows hb hi hle h0 he =>
    obtain ⟨li', h1, h2⟩ := hr _ _ hb
    rcases h2 with rfl | ⟨_, _, _, _, _, h2, _⟩ | ⟨_, _, _, rows', h2, rfl, h3, h4⟩
    · exact .ge _ _ _ _ _ _ _ _ _ _ _ _ h1 hi hle h0 he
    · cases h2
    · cases h2
      rcases h4 i m' v' hi with h5 | ⟨m2, x2, h5, h6⟩
      · exact .ge _ _ _ _ _ _ _ _ _ _ _ _ h1 h5 hle h0 he
      · exact .ge _ _ _ _ _ _ _ _ _ _ _ _ h1 h5 (by omega) h0 (fun e => by omega)
theorem Rel.closed {h : Hp} {ρ : Rho} {a : AV} {v : Value} (H : Rel h ρ0 a v) : Rel h ρ a v := H.mono (Le.refl h) (fun _ _ h => by cases h)
theorem Rel.heap {h h' : Hp} {ρ : Rho} {a : AV} {v : Value} (H : Rel h ρ a v) (hh : Le h h') : Rel h' ρ a v := H.mono hh (fun _ li h => ⟨li, h, .inl rfl⟩)
mutual
/-- Does a value name no owned block? -/
def AV.cl : AV → Bool
  | .lp _ _ | .buf _ _ | .ep _ _ _ _ | .mp _ | .gb _ _ | .gp _ _ | .gr' _ _ _ | .ge _ _ _ _ _ | .sb _ _ _ _ => false
  | .agg cs | .tup cs => clL cs
  | .fn _ fs cs => clL fs && clL cs
  | .ifc _ v | .cnd _ v => v.cl
  | _ => true
def clL : List AV → Bool
  | [] => true
  | c :: cs => c.cl && clL cs
end
theorem clL_get : ∀ {cs : List AV} {i : Nat} {c : AV}, clL cs = true → cs[i]? = some c → c.cl = true
  | [], i, c, _, h => by simp at h
  | x :: cs, 0, c, hc, h => by
    simp only [clL, Bool.and_eq_true] at hc
    simp at h; rw [← h]; exact hc.1
  | x :: cs, i + 1, c, hc, h => by
    simp only [clL, Bool.and_eq_true] at hc
    simp only [List.getElem?_cons_succ] at h
    exact clL_get hc.2 h
theorem Rel.of_cl {h : Hp} {ρ ρ' : Rho} {a : AV} {v : Value} (H : Rel h ρ a v) (hc : a.cl = true) : Rel h ρ' a v := by
  induction H generalizing ρ' with
  | any ρ v => exact .any _ _
  | nilS => exact .nilS _
  | nilFn => exact .nilFn _
  | nilPtr => exact .nilPtr _
  | nilMap => exact .nilMap _
  | nilIfc => exact .nilIfc _
  | bool => exact .bool _ _
  | int => exact .int _ _ _
  | agg ρ cs vs hl hc' ih => exact .agg _ _ _ hl fun i c v h1 h2 => ih i c v h1 h2 (clL_get (by simpa [AV.cl] using hc) h1)
  | tup ρ cs vs hl hc' ih => exact .tup _ _ _ hl fun i c v h1 h2 => ih i c v h1 h2 (clL_get (by simpa [AV.cl] using hc) h1)
  | ro ρ sz n e a cap hnil hcap hsz hs h1 hc' ih => exact .ro _ _ _ _ _ _ hnil hcap hsz hs h1 hc'
  | rp ρ cs ad hs hc' ih => exact .rp _ _ _ hs hc'
  | lp ρ id off b hb => simp [AV.cl] at hc
  | buf ρ id n n' sz v v' hb hle h1 he => simp [AV.cl] at hc
  | ep ρ id n i off n' sz v v' hb hle h1 he => simp [AV.cl] at hc
  | fn ρ f fs cs vs ws hl hm hc' hd ih1 ih2 =>
    simp only [AV.cl, Bool.and_eq_true] at hc
    exact .fn _ _ _ _ _ _ hl hm (fun i c v h1 h2 => ih1 i c v h1 h2 (clL_get hc.1 h1)) (fun i c v h1 h2 => ih2 i c v h1 h2 (clL_get hc.2 h1))
  | clo ρ f fs cs v hv ih => exact .clo _ _ _ _ _ hv
  | mp ρ id b hb => simp [AV.cl] at hc
  | rom ρ z dom e n r es clock ks hR hks hlen hel hk hborn hbd hdom hz hc' ihz ih => exact .rom _ _ _ _ _ _ _ _ _ hR hks hlen hel hk hborn hbd hdom hz hc'
  | ifc ρ t a v hv ih => exact .ifc _ _ _ _ (ih (by simpa [AV.cl] using hc))
  | cnd ρ g a v ht hf ih => exact .cnd _ _ _ _ (fun hg => ih hg (by simpa [AV.cl] using hc)) hf
  | raw => exact .raw _ _
  | nz ρ n b hb => exact .nz _ _ _ hb
  | po ρ b cs v ht hf ih => exact .po _ _ _ _ (fun hg => ih hg rfl) hf
  | gb | gp | gr' | ge | sb => simp [AV.cl] at hc
mutual
/-- Does a value reach no memory at all? -/
def AV.gr : AV → Bool
  | .lp _ _ | .buf _ _ | .ep _ _ _ _ | .mp _ | .ro _ _ _ | .rp _ | .po _ _ | .rom _ _ _ _ | .clo _ _ _ | .gb _ _ | .gp _ _ | .gr' _ _ _ | .ge _ _ _ _ _ | .sb _ _ _ _ => false
  | .agg cs | .tup cs => grL cs
  | .fn _ fs cs => grL fs && grL cs
  | .ifc _ v | .cnd _ v => v.gr
  | _ => true
def grL : List AV → Bool
  | [] => true
  | c :: cs => c.gr && grL cs
end
theorem grL_get : ∀ {cs : List AV} {i : Nat} {c : AV}, grL cs = true → cs[i]? = some c → c.gr = true
  | [], i, c, _, h => by simp at h
  | x :: cs, 0, c, hc, h => by
    simp only [grL, Bool.and_eq_true] at hc
    simp at h; rw [← h]; exact hc.1
  | x :: cs, i + 1, c, hc, h => by
    simp only [grL, Bool.and_eq_true] at hc
    simp only [List.getElem?_cons_succ] at h
    exact grL_get hc.2 h
theorem Rel.of_gr {h h' : Hp} {ρ ρ' : Rho} {a : AV} {v : Value} (H : Rel h ρ a v) (hc : a.gr = true) : Rel h' ρ' a v := by
  induction H generalizing ρ' with
  | any ρ v => exact .any _ _
  | nilS => exact .nilS _
  | nilFn => exact .nilFn _
  | nilPtr => exact .nilPtr _
  | nilMap => exact .nilMap _
  | nilIfc => exact .nilIfc _
  | bool => exact .bool _ _
  | int => exact .int _ _ _
  | agg ρ cs vs hl hc' ih => exact .agg _ _ _ hl fun i c v h1 h2 => ih i c v h1 h2 (grL_get (by simpa [AV.gr] using hc) h1)
  | tup ρ cs vs hl hc' ih => exact .tup _ _ _ hl fun i c v h1 h2 => ih i c v h1 h2 (grL_get (by simpa [AV.gr] using hc) h1)
  | ro | rp | lp | buf | ep | mp | rom | clo | po => simp [AV.gr] at hc
  | fn ρ f fs cs vs ws hl hm hc' hd ih1 ih2 =>
    simp only [AV.gr, Bool.and_eq_true] at hc
    exact .fn _ _ _ _ _ _ hl hm (fun i c v h1 h2 => ih1 i c v h1 h2 (grL_get hc.1 h1)) (fun i c v h1 h2 => ih2 i c v h1 h2 (grL_get hc.2 h1))
  | ifc ρ t a v hv ih => exact .ifc _ _ _ _ (ih (by simpa [AV.gr] using hc))
  | cnd ρ g a v ht hf ih => exact .cnd _ _ _ _ (fun hg => ih hg (by simpa [AV.gr] using hc)) hf
  | raw => exact .raw _ _
  | nz ρ n b hb => exact .nz _ _ _ hb
  | gb | gp | gr' | ge | sb => simp [AV.gr] at hc
def ofVal : Value → AV
  | .bool b => .bool b
  | .int k n => .int k n
  | .slice none 0 0 => .nilS
  | .nilFunc => .nilFn
  | .pointer none => .nilPtr
  | .map none => .nilMap
  | .nilIface => .nilIfc
  | v => .raw v
theorem Rel.ofVal (h : Hp) (ρ : Rho) (v : Value) : Rel h ρ (Av.ofVal v) v := by
  unfold Av.ofVal
  split <;> constructor
end Go.Av
