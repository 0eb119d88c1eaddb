/- The bridge: from what an argument reads as (a row's data) to the abstract value that it is; from a contract to a row's statement that a law returns true and leaves its arguments as they were. -/
import Derived.Test.YtnaodipmfaglfaaAvTk
import Derived.ProofKit
import Derived.OpenShut
import Derived.ReadAgain
import Derived.ChangeStays
import Derived.SizedLaws
import Derived.Carry
import Derived.Below
import Derived.ChangeSame
set_option linter.all false
namespace Go.Av
open Go.RowKit Go.WideShapes Go.ChangeShapes
def Wt {H : Type} (P : Program) (t : TypeId) (d : DataW H) : Prop := ∀ q ∈ d.weights P t, q ≤ reachBytes
theorem wt_all {H : Type} {P : Program} {e : TypeId} : ∀ {ds : List (DataW H)} {d : DataW H}, d ∈ ds → ∀ q ∈ d.weights P e, q ∈ DataW.weightsAll P e ds
  | x :: ds, d, h, q, hq => by
    simp only [DataW.weightsAll, List.mem_append]
    rcases List.mem_cons.1 h with rfl | h
    · exact .inl hq
    · exact .inr (wt_all h q hq)
theorem wt_left {H : Type} {P : Program} : ∀ {ts us : List TypeId} {ds gs : List (DataW H)}, ∀ q ∈ DataW.weightsEach P ts ds, q ∈ DataW.weightsEach P (ts ++ us) (ds ++ gs)
  | [], us, ds, gs, q, h => by cases ds <;> simp [DataW.weightsEach] at h
  | t :: ts, us, [], gs, q, h => by simp [DataW.weightsEach] at h
  | t :: ts, us, d :: ds, gs, q, h => by
    simp only [DataW.weightsEach, List.cons_append, List.mem_append] at h ⊢
    rcases h with h | h
    · exact .inl h
    · exact .inr (wt_left q h)
structure Opn (P : Program) (t : TypeId) (sz : Nat) {X : Type} (e : X → List AV) (ok : X → Prop) : Prop where
  len : ∀ x, (e x).length = sz
  cells : P.cellsOf t = sz
  read : ∀ (H : Type) (enc : TypeId × Value → H) (W : World) (n : Nat) (cs : List Value) (r : DataW H × List MemPlace), DataW.trod enc P W 0 (fun _ => true) true n t cs = some r → Wt P t r.1 →
    ∃ x, RelL (fun b => W.heap[b]?) ρ0 (e x) cs ∧ ok x ∧ ∀ v ∈ cs, v.oneCell' = true
theorem Opn.int {P : Program} {t : TypeId} (ht : P.underlying t = some (.int .i64)) (hc : P.cellsOf t = 1) : Opn P t 1 (fun x : Int => [.int .i64 x]) inI :=
  ⟨fun _ => rfl, hc, fun H enc W n cs r h _ => by
    obtain ⟨x, rfl, rfl, hw⟩ := DataW.trod_int ht h
    refine ⟨x, RelL.cons (.int _ _ _) (RelL.nil _ _), ?_, fun v hv => ?_⟩
    · have := bounds_i64 hw
      exact this
    · simp at hv; subst hv; rfl⟩
theorem Opn.bool {P : Program} {t : TypeId} (ht : P.underlying t = some .bool) (hc : P.cellsOf t = 1) : Opn P t 1 (fun x : Bool => [.bool x]) (fun _ => True) :=
  ⟨fun _ => rfl, hc, fun H enc W n cs r h _ => by
    obtain ⟨x, rfl, rfl⟩ := DataW.trod_bool ht h
    refine ⟨x, RelL.cons (.bool _ _) (RelL.nil _ _), trivial, fun v hv => ?_⟩
    simp at hv; subst hv; rfl⟩
theorem Opn.map {P : Program} {t : TypeId} {sz : Nat} {X Y : Type} {e : X → List AV} {ok : X → Prop} (h : Opn P t sz e ok) (f : X → Y) {e' : Y → List AV} {ok' : Y → Prop}
    (hl : ∀ y, (e' y).length = sz) (he : ∀ x, e' (f x) = e x) (ho : ∀ x, ok x → ok' (f x)) : Opn P t sz e' ok' :=
  ⟨hl, h.cells, fun H enc W n cs r hr hz => by
    obtain ⟨x, h1, h2, h3⟩ := h.read H enc W n cs r hr hz
    exact ⟨f x, by rw [he]; exact h1, ho x h2, h3⟩⟩
structure OpnF (P : Program) (fs : List (Nat × TypeId)) (off sz : Nat) {X : Type} (e : X → List AV) (ok : X → Prop) : Prop where
  len : ∀ x, (e x).length = sz
  read : ∀ (H : Type) (enc : TypeId × Value → H) (W : World) (n : Nat) (cs : List Value), cs.length = off + sz →
    (∀ f ∈ fs, ∃ r, DataW.trod enc P W 0 (fun _ => true) true n f.2 ((cs.drop f.1).take (P.cellsOf f.2)) = some r ∧ Wt P f.2 r.1) →
    ∃ x, RelL (fun b => W.heap[b]?) ρ0 (e x) (cs.drop off) ∧ ok x ∧ ∀ v ∈ cs.drop off, v.oneCell' = true
theorem OpnF.nil {P : Program} {off : Nat} : OpnF P [] off 0 (fun _ : Unit => []) (fun _ => True) :=
  ⟨fun _ => rfl, fun H enc W n cs hl _ => ⟨(), by rw [List.drop_eq_nil_of_le (by omega)]; exact RelL.nil _ _, trivial, by rw [List.drop_eq_nil_of_le (by omega)]; simp⟩⟩
theorem OpnF.cons {P : Program} {t : TypeId} {fs : List (Nat × TypeId)} {off s sz : Nat} {X Y : Type} {e : X → List AV} {ok : X → Prop} {e' : Y → List AV} {ok' : Y → Prop}
    (h : Opn P t s e ok) (h' : OpnF P fs (off + s) sz e' ok') : OpnF P ((off, t) :: fs) off (s + sz) (fun x : X × Y => e x.1 ++ e' x.2) (fun x => ok x.1 ∧ ok' x.2) :=
  ⟨fun x => by rw [List.length_append, h.len, h'.len], fun H enc W n cs hl hr => by
    obtain ⟨r, hr1, hr2⟩ := hr (off, t) (List.mem_cons_self ..)
    obtain ⟨x, h1, h2, h3⟩ := h.read H enc W n _ r hr1 hr2
    obtain ⟨y, k1, k2, k3⟩ := h'.read H enc W n cs (by omega) (fun f hf => hr f (List.mem_cons_of_mem _ hf))
    have e1 : cs.drop off = (cs.drop off).take s ++ cs.drop (off + s) := by
      rw [← List.drop_drop, List.take_append_drop]
    rw [h.cells] at h1 h3
    refine ⟨(x, y), ?_, ⟨h2, k2⟩, fun v hv => ?_⟩
    · rw [e1]; exact RelL.append h1 k1
    · rw [e1, List.mem_append] at hv
      exact hv.elim (h3 v) (k3 v)⟩
theorem Opn.struct {P : Program} {t : TypeId} {fs : Array Field} {sz : Nat} {X Y : Type} {e : X → List AV} {ok : X → Prop} (ht : P.underlying t = some (.struct fs)) (hc : P.cellsOf t = sz)
    (h : OpnF P (fs.toList.map fun f => (f.offset, f.type)) 0 sz e ok) (f : X → Y) {e' : Y → List AV} {ok' : Y → Prop}
    (hl : ∀ y, (e' y).length = sz) (he : ∀ x, e' (f x) = e x) (ho : ∀ x, ok x → ok' (f x)) : Opn P t sz e' ok' :=
  ⟨hl, hc, fun H enc W n cs r hr hz => by
    obtain ⟨xs, m, rfl, rfl, hlen, hx, hi⟩ := DataW.trod_struct ht hr
    obtain ⟨x, h1, h2, h3⟩ := h.read H enc W m cs (by rw [hlen, hc]; omega) (fun g hg => by
      obtain ⟨f0, hf0, rfl⟩ := List.mem_map.1 hg
      obtain ⟨i, hi1, hi2⟩ := List.getElem_of_mem hf0
      have hh := hi i f0 (by rw [← hi2]; simp)
      have hxi : i < xs.length := by rw [hx]; simpa using hi1
      refine ⟨xs[i]'hxi, ?_, fun q hq => hz q ?_⟩
      · rw [hh, List.getElem?_eq_getElem]
      · simp only [DataW.weights, ht]
        exact DataW.weights_mem_each (j := i) (t := f0.type) (d := (xs[i]'hxi).1) (by rw [List.getElem?_map, List.getElem?_eq_getElem hi1, hi2]; rfl) (by rw [List.getElem?_map, List.getElem?_eq_getElem hxi]; rfl) q hq)
    rw [List.drop_zero] at h1 h3
    exact ⟨f x, by rw [he]; exact h1, ho x h2, h3⟩⟩
def arrF (s : Nat) (t : TypeId) (off : Nat) : Nat → List (Nat × TypeId)
  | 0 => []
  | n + 1 => (off, t) :: arrF s t (off + s) n
theorem mem_arrF {s : Nat} {t : TypeId} : ∀ {n off : Nat} {f : Nat × TypeId}, f ∈ arrF s t off n → ∃ i, i < n ∧ f = (off + i * s, t)
  | 0, _, _, h => by cases h
  | n + 1, off, f, h => by
    rcases List.mem_cons.1 h with rfl | h
    · exact ⟨0, by omega, by simp⟩
    · obtain ⟨i, hi, rfl⟩ := mem_arrF h
      exact ⟨i + 1, by omega, by rw [Nat.add_mul]; simp; omega⟩
theorem Opn.array {P : Program} {t u : TypeId} {n s sz : Nat} {X Y : Type} {e : X → List AV} {ok : X → Prop} (ht : P.underlying t = some (.array n u)) (hc : P.cellsOf t = sz) (hu : P.cellsOf u = s)
    (h : OpnF P (arrF s u 0 n) 0 sz e ok) (f : X → Y) {e' : Y → List AV} {ok' : Y → Prop}
    (hl : ∀ y, (e' y).length = sz) (he : ∀ x, e' (f x) = e x) (ho : ∀ x, ok x → ok' (f x)) : Opn P t sz e' ok' :=
  ⟨hl, hc, fun H enc W m cs r hr hz => by
    obtain ⟨xs, m, rfl, rfl, hlen, hx, hi⟩ := DataW.trod_array ht hr
    obtain ⟨x, h1, h2, h3⟩ := h.read H enc W m cs (by rw [hlen, hc]; omega) (fun g hg => by
      obtain ⟨i, hi1, rfl⟩ := mem_arrF hg
      have hh := hi i hi1
      have hxi : i < xs.length := by rw [hx]; exact hi1
      refine ⟨xs[i]'hxi, ?_, fun q hq => hz q ?_⟩
      · rw [hu] at hh ⊢
        simp only [Nat.zero_add]
        rw [hh, List.getElem?_eq_getElem]
      · simp only [DataW.weights, ht]
        exact wt_all (List.mem_map.2 ⟨_, List.getElem_mem hxi, rfl⟩) q hq)
    rw [List.drop_zero] at h1 h3
    exact ⟨f x, by rw [he]; exact h1, ho x h2, h3⟩⟩
theorem choose_list {X : Type} [Inhabited X] {p : Nat → X → Prop} : ∀ (n : Nat), (∀ i, i < n → ∃ x, p i x) → ∃ l : List X, l.length = n ∧ ∀ i, i < n → p i (l.getD i default)
  | 0, _ => ⟨[], rfl, fun i hi => by omega⟩
  | n + 1, h => by
    obtain ⟨l, h1, h2⟩ := choose_list n (fun i hi => h i (by omega))
    obtain ⟨x, hx⟩ := h n (by omega)
    refine ⟨l ++ [x], by simp [h1], fun i hi => ?_⟩
    by_cases hn : i < n
    · have : (l ++ [x]).getD i default = l.getD i default := by
        simp [List.getD_eq_getElem?_getD, List.getElem?_append_left (h1 ▸ hn)]
      rw [this]; exact h2 i hn
    · have hi' : i = n := by omega
      subst hi'
      have : (l ++ [x]).getD i default = x := by
        simp [List.getD_eq_getElem?_getD, List.getElem?_append_right (Nat.le_of_eq h1), h1]
      rw [this]; exact hx
theorem cells?_get {w : World} {a : Addr} {n : Nat} {cs : List Value} (h : w.cells? 0 a n = some cs) : cs.length = n ∧ ∀ j, j < n → w.cell? (a.add j) = cs[j]? := by
  unfold World.cells? at h
  rw [if_pos (Nat.zero_le _)] at h
  exact ⟨by rw [mapM_some_length h]; simp, fun j hj => mapM_some_get h j j (by simp [hj])⟩
theorem Opn.slice {P : Program} {t u : TypeId} {s : Nat} {X : Type} [Inhabited X] {e : X → List AV} {ok : X → Prop} (ht : P.underlying t = some (.slice u)) (hc : P.cellsOf t = 1) (h : Opn P u s e ok) (hs : 0 < s) (hb : 1 ≤ P.bytesOf u) :
    Opn P t 1 (fun l : List X => [roL s e l]) (fun l => l.length ≤ 140737488351232 ∧ ∀ x ∈ l, ok x) :=
  ⟨fun _ => rfl, hc, fun H enc W m cs r hr hz => by
    rcases DataW.trod_slice ht hr with ⟨rfl, _⟩ | ⟨a, len, cap, elems, rest, n, rfl, rfl, rfl, -, hlc, hcm, hel, hi, -, -⟩
    · refine ⟨[], RelL.cons (.ro _ _ _ _ _ _ (fun _ => rfl) ⟨Nat.le_refl _, Nat.zero_le _⟩ (fun i hi => by cases hi) (fun i j hi => by cases hi) (fun k v hk => by simp at hk) (fun i j c v hi => by cases hi)) (RelL.nil _ _), ⟨Nat.zero_le _, by simp⟩, fun v hv => ?_⟩
      simp at hv; subst hv; rfl
    · have hz : ∀ q ∈ DataW.weights P t (.slice (elems.map (·.1)) (rest.map (·.1)) : DataW H), q ≤ reachBytes := hz
      have ew : DataW.weights P t (.slice (elems.map (·.1)) (rest.map (·.1)) : DataW H) = ((elems.map (·.1)).length + (rest.map (·.1)).length) * P.bytesOf u :: (DataW.weightsAll P u (elems.map (·.1)) ++ DataW.weightsAll P u (rest.map (·.1))) := by simp only [DataW.weights, ht]
      rw [ew] at hz
      obtain ⟨l, hl, hp⟩ := choose_list (X := X) (p := fun i x => ∃ ys : List Value, W.cells? 0 (a.add (i * s)) s = some ys ∧ RelL (fun b => W.heap[b]?) ρ0 (e x) ys ∧ ok x ∧ ∀ v ∈ ys, v.oneCell' = true) len (fun i hi' => by
        have := hi i hi'
        rw [h.cells, List.getElem?_eq_getElem (by omega)] at this
        obtain ⟨ys, h1, h2⟩ := Option.bind_eq_some_iff.1 this
        obtain ⟨x, k1, k2, k3⟩ := h.read H enc W n ys _ h2 (fun q hq => hz q (List.mem_cons_of_mem _ (List.mem_append_left _ (wt_all (List.mem_map.2 ⟨_, List.getElem_mem _, rfl⟩) q hq))))
        exact ⟨x, ys, h1, k1, k2, k3⟩)
      have hbig : len ≤ 140737488351232 := by
        have h1 := hz _ List.mem_cons_self
        rw [List.length_map, List.length_map] at h1
        have h2 : reachBytes = 140737488351232 := rfl
        have h3 : elems.length + rest.length ≤ (elems.length + rest.length) * P.bytesOf u := Nat.le_mul_of_pos_right _ hb
        omega
      subst hl
      have cell : ∀ i j, i < l.length → j < s → ∃ ys : List Value, ys.length = s ∧ RelL (fun b => W.heap[b]?) ρ0 (e (l.getD i default)) ys ∧ (∀ v ∈ ys, v.oneCell' = true) ∧ hcell (fun b => W.heap[b]?) (some a) (i * s + j) = ys[j]? := by
        intro i j hi' hj
        obtain ⟨ys, h1, h2, _, h4⟩ := hp i hi'
        obtain ⟨k1, k2⟩ := cells?_get h1
        refine ⟨ys, k1, h2, h4, ?_⟩
        rw [← k2 j hj, Addr.add_add]
        rfl
      refine ⟨l, RelL.cons (.ro _ _ _ _ _ _ (fun h => by cases h) ⟨hlc, by omega⟩ (fun i _ => h.len _) (fun i j hi' hj => ?_) (fun k v hk hv => ?_) (fun i j c v hi' hcj hv => ?_)) (RelL.nil _ _), ⟨hbig, fun x hx => ?_⟩, fun v hv => ?_⟩
      · obtain ⟨ys, k1, _, _, k4⟩ := cell i j hi' hj
        rw [k4, List.getElem?_eq_getElem (by omega)]; rfl
      · obtain ⟨ys, k1, _, k3, k4⟩ := cell (k / s) (k % s) (by rw [Nat.div_lt_iff_lt_mul hs]; exact hk) (Nat.mod_lt _ hs)
        rw [Nat.mul_comm, Nat.div_add_mod] at k4
        rw [k4] at hv
        exact k3 v (List.mem_of_getElem? hv)
      · have hj : j < s := by
          have := (List.getElem?_eq_some_iff.1 hcj).1
          rwa [h.len] at this
        obtain ⟨ys, k1, k2, _, k4⟩ := cell i j hi' hj
        rw [k4] at hv
        exact k2.2 j c v hcj hv
      · obtain ⟨i, hi1, rfl⟩ := List.getElem_of_mem hx
        obtain ⟨_, _, _, h3, _⟩ := hp i (by omega)
        rw [List.getD_eq_getElem?_getD, List.getElem?_eq_getElem hi1] at h3
        exact h3
      · simp at hv; subst hv; rfl⟩
def OpnT (P : Program) (t : TypeId) {X : Type} (e : X → AV) (ok : X → Prop) : Prop :=
  ∀ (H : Type) (enc : TypeId × Value → H) (W : World) (base : Nat) (v : Value) (d : DataW H) (ps : List MemPlace), Value.okWide P W .any base t v → DataW.Trod enc P W 0 (fun _ => true) true t v d ps → Wt P t d →
    ∃ x, Rel (fun b => W.heap[b]?) ρ0 (e x) v ∧ ok x
theorem OpnT.struct {P : Program} {t : TypeId} {fs : Array Field} {sz : Nat} {X : Type} {e : X → List AV} {ok : X → Prop} (ht : P.underlying t = some (.struct fs)) (h : Opn P t sz e ok) : OpnT P t (fun x => .agg (e x)) ok := by
  intro H enc W base v d ps hv hd hz
  obtain ⟨cs, rfl, _⟩ := okWide_struct ht hv
  obtain ⟨n, hn⟩ := hd
  obtain ⟨x, h1, h2, _⟩ := h.read H enc W n _ _ hn hz
  refine ⟨x, ?_, h2⟩
  have : (Value.agg cs) = .agg (Value.agg cs).cells.toList.toArray := by simp [Value.cells]
  rw [this]
  exact .agg _ _ _ h1.1 h1.2
theorem OpnT.int {P : Program} {t : TypeId} (ht : P.underlying t = some (.int .i64)) : OpnT P t (fun x : Int => .int .i64 x) inI := by
  intro H enc W base v d ps hv hd hz
  obtain ⟨n, rfl⟩ := okWide_int ht hv
  obtain ⟨m, hn⟩ := hd
  obtain ⟨x, h1, _, hw⟩ := DataW.trod_int ht hn
  simp only [Value.cells, List.cons.injEq, Value.int.injEq, and_true, true_and] at h1
  subst h1
  exact ⟨n, .int _ _ _, bounds_i64 hw⟩
theorem OpnT.bool {P : Program} {t : TypeId} (ht : P.underlying t = some .bool) : OpnT P t (fun x : Bool => .bool x) (fun _ => True) := by
  intro H enc W base v d ps hv hd hz
  obtain ⟨n, rfl⟩ := okWide_bool ht hv
  exact ⟨n, .bool _ _, trivial⟩
theorem OpnT.slice {P : Program} {t u : TypeId} {s : Nat} {X : Type} [Inhabited X] {e : X → List AV} {ok : X → Prop} (ht : P.underlying t = some (.slice u)) (hc : P.cellsOf t = 1) (h : Opn P u s e ok) (hs : 0 < s) (hb : 1 ≤ P.bytesOf u) :
    OpnT P t (fun l : List X => roL s e l) (fun l => l.length ≤ 140737488351232 ∧ ∀ x ∈ l, ok x) := by
  intro H enc W base v d ps hv hd hz
  obtain ⟨a, len, cap, rfl⟩ := okWide_slice ht hv
  obtain ⟨n, hn⟩ := hd
  obtain ⟨x, h1, h2, _⟩ := (Opn.slice ht hc h hs hb).read H enc W n _ _ hn hz
  exact ⟨x, h1.2 0 _ _ (by simp) (by simp [Value.cells]), h2⟩
def OpnA (P : Program) (ts : List TypeId) {X : Type} (e : X → List AV) (ok : X → Prop) : Prop :=
  ∀ (H : Type) (enc : TypeId × Value → H) (W : World) (base : Nat) (vs : List Value) (ds : List (DataW H)) (ps : List MemPlace), (∀ (j : Nat) t v, ts[j]? = some t → vs[j]? = some v → Value.okWide P W .any base t v) →
    DataW.TrodAll enc P W 0 (fun _ => true) true ts vs ds ps → (∀ q ∈ DataW.weightsEach P ts ds, q ≤ reachBytes) → ds.length = ts.length ∧ ∃ x, RelL (fun b => W.heap[b]?) ρ0 (e x) vs ∧ ok x
theorem OpnA.nil {P : Program} : OpnA P [] (fun _ : Unit => []) (fun _ => True) := by
  intro H enc W base vs ds ps _ h _
  obtain ⟨rfl, rfl, _⟩ := trodAll_nil h
  exact ⟨rfl, (), RelL.nil _ _, trivial⟩
theorem OpnA.cons {P : Program} {t : TypeId} {ts : List TypeId} {X Y : Type} {e : X → AV} {ok : X → Prop} {e' : Y → List AV} {ok' : Y → Prop} (h : OpnT P t e ok) (h' : OpnA P ts e' ok') :
    OpnA P (t :: ts) (fun x : X × Y => e x.1 :: e' x.2) (fun x => ok x.1 ∧ ok' x.2) := by
  intro H enc W base vs ds ps hv hA hz
  obtain ⟨v, vs', d, ds', p, q, rfl, rfl, rfl, h1, h2⟩ := trodAll_cons hA
  obtain ⟨x, k1, k2⟩ := h H enc W base v d p (hv 0 t v (by simp) (by simp)) h1 (fun q hq => hz q (by simp only [DataW.weightsEach, List.mem_append]; exact .inl hq))
  obtain ⟨hl, y, k3, k4⟩ := h' H enc W base vs' ds' q (fun j t' v' a b => hv (j + 1) t' v' (by simpa using a) (by simpa using b)) h2 (fun q hq => hz q (by simp only [DataW.weightsEach, List.mem_append]; exact .inr hq))
  exact ⟨by simp [hl], (x, y), RelL.cons k1 k3, k2, k4⟩
theorem post_fresh {H : Type} {enc : TypeId × Value → H} {P : Program} {f : Func} {s : ChangeSpec} {apart fresh handsOn again : Bool} {W W' : World} {args : Array Value} {v : Value} {ds gs : List (DataW H)} {before pa pv : List MemPlace}
    (hW : DataW.Whole enc P f.params.toList s.vars apart W args.toList ds gs before)
    (hres : ∀ (b : Nat) (sp : Nat → Bool) (hd : Bool), DataW.TrodAll enc P W' b sp hd f.resultTypes.toList (v.resultList f.resultTypes.size) (s.fn H (ds ++ gs)).results [])
    (hargs : ∀ sp : Nat → Bool, (∀ p ∈ before, sp p.block = true) → DataW.TrodAll enc P W' 0 sp true f.params.toList args.toList (s.fn H (ds ++ gs)).args pa)
    (hvars : ∀ sp : Nat → Bool, (∀ p ∈ before, sp p.block = true) → DataW.TrodVars enc P W' sp s.vars (s.fn H (ds ++ gs)).vars pv)
    (hps : before = pa ++ pv) (hb : Below W.heap.size W W')
    (hok : ∀ (j : Nat) (t : TypeId) (r : Value), f.resultTypes[j]? = some t → (v.resultList f.resultTypes.size)[j]? = some r → Value.okWide P W' .any 0 t r) :
    s.post enc P f apart fresh handsOn again W args v W' := by
  have hlt : ∀ p ∈ before, p.block < W.heap.size := fun p hp => hW.lt p hp
  have hold : ∀ p ∈ before, (fun b => decide (b < W.heap.size)) p.block = true := fun p hp => by simpa using hlt p hp
  refine ⟨ds, gs, before, [], pa, pv, hW, hres _ _ _, hargs _ hold, hvars _ hold, World.keptBut_mono (fun p hp => ⟨hp, ?_⟩) (hb.frame (· ∈ before)), fun _ => ?_⟩
  · rw [hps, List.mem_append] at hp
    exact Or.inr hp
  · obtain ⟨_, _, _, _, _, hz, hn⟩ := hW
    refine ⟨hok, _, _, ([] ++ pa) ++ pv, ⟨[] ++ pa, pv, trodAll_append (hargs _ (fun _ _ => rfl)) (hres _ _ _), hvars _ (fun _ _ => rfl), rfl, ?_, ?_⟩, ?_⟩
    · intro b off hp
      have hin : MemPlace.cell b off ∈ before := by rw [hps]; simpa using hp
      rw [hb.frozen (hlt _ hin)]
      exact hz b off hin
    · intro ha
      have := hn ha
      rw [hps] at this
      simpa using this
    · intro p hp _
      rw [hps]
      simpa using hp
theorem TrodAll_carry {H : Type} {enc : TypeId × Value → H} {P : Program} {w w' : World} {base : Nat} {spare : Nat → Bool} {held : Bool} : ∀ {ts : List TypeId} {vs : List Value} {ds : List (DataW H)} {ps : List MemPlace},
    DataW.TrodAll enc P w base spare held ts vs ds ps → (∀ p ∈ ps, w.sameAt w' p) → DataW.TrodAll enc P w' base spare held ts vs ds ps
  | [], [], [], _, h, _ => h
  | _ :: _, _ :: _, _ :: _, _, ⟨p, q, ⟨n, h1⟩, h2, e⟩, hs => ⟨p, q, ⟨n, DataW.trod_carry n _ _ _ h1 (fun x hx => hs x (by rw [e]; exact List.mem_append_left _ hx))⟩,
      TrodAll_carry h2 (fun x hx => hs x (by rw [e]; exact List.mem_append_right _ hx)), e⟩
theorem law_calls {P : Program} {f : FuncId} {fn : Func} {s : ChangeSpec} {apart fresh handsOn again : Bool} {X : Type} {e : X → List AV} {ok : X → Prop} {tb : TypeId}
    (hkids : Kids P (· < P.types.size)) (hfull : ∀ t e, t < P.types.size → P.underlying t = some (.slice e) → 0 < P.cellsOf e) (hp : fn.params.toList.all (· < P.types.size) = true)
    (hA : OpnA P fn.params.toList e ok) (hs : s.vars = []) (hfn : ∀ (H : Type) (ds : List (DataW H)), ds.length = fn.params.toList.length → s.fn H ds = ⟨[.lit (.bool true)], ds, []⟩)
    (hr : fn.resultTypes = #[tb]) (htb : P.underlying tb = some .bool) (hC : ∀ x, ok x → Ctr P f (e x) (.bool true))
    (H : Type) (enc : TypeId × Value → H) (W : World) (base : Nat) (args : Array Value) (ds gs : List (DataW H)) (before : List MemPlace)
    (hval : ∀ (j : Nat) t v, fn.params[j]? = some t → args[j]? = some v → Value.okWide P W .any base t v) (hW : DataW.Whole enc P fn.params.toList s.vars apart W args.toList ds gs before)
    (hbig : (DataW.weightsEach P (fn.params.toList ++ s.plain.varTypes P) (ds ++ gs)).all (· ≤ reachBytes) = true) :
    Calls P f args W fun e W' => ∃ v, e = .returned v ∧ s.post enc P fn apart fresh handsOn again W args v W' := by
  obtain ⟨p, q, hT, hV, hps, hz, hn⟩ := id hW
  have hV' := hV
  rw [hs] at hV'
  obtain ⟨rfl, rfl⟩ := trodVars_none hV'
  obtain ⟨hl, x, hx, hok⟩ := hA H enc W base args.toList ds p (fun j t v a b => hval j t v (by simpa using a) (by simpa using b)) hT (fun q hq => by have := List.all_eq_true.1 hbig q (wt_left q hq); simpa using this)
  have hc := ((hC x hok).2 (fun b => W.heap[b]?) W args.toList hx (fun b o h => h)).calls (fun k d hd => by cases hd)
  rw [Array.toArray_toList] at hc
  refine hc.mono fun en W' hpost => ?_
  cases en with
  | panicked c => exact hpost.elim
  | outgrown => exact hpost.elim
  | returned v =>
    obtain ⟨h', ρ', hb, _, _, hv, _⟩ := hpost
    cases hv
    refine ⟨_, rfl, post_fresh (pa := p) (pv := []) hW (fun b sp hd => ?_) (fun sp hsp => ?_) (fun sp hsp => ?_) hps hb (fun j t r h1 h2 => ?_)⟩
    · rw [List.append_nil, hfn H ds hl, hr]
      exact ⟨[], [], shut_bool htb true, rfl, rfl⟩
    · rw [List.append_nil, hfn H ds hl]
      have hlt : ∀ y ∈ p, y.block < W.heap.size := fun y hy => hW.lt y (by rw [hps]; exact List.mem_append_left _ hy)
      exact TrodAll_carry (DataW.TrodAll.respare hkids hfull (fun t ht => by simpa using List.all_eq_true.1 hp t ht) hT (fun y hy => hsp y (by rw [hps]; exact List.mem_append_left _ hy))) (fun y hy => hb.same (hlt y hy))
    · rw [List.append_nil, hfn H ds hl, hs]
      rfl
    · rw [hr] at h1 h2
      have hj : j = 0 := by
        have := (Array.getElem?_eq_some_iff.1 h1).1
        simpa using this
      subst hj
      simp [Value.resultList] at h1 h2
      subst h1 h2
      simp [Value.okWide, htb, Cell.okWide, Cell.ok]
end Go.Av
