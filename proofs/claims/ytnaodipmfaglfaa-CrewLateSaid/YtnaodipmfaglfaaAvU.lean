/- Rules for the printed definitions: joins, loops. -/
import Derived.Test.YtnaodipmfaglfaaAvT
import Derived.Test.YtnaodipmfaglfaaAvX
set_option linter.all false
namespace Go.Av
open Go.Sp
def roL {T : Type} [Inhabited T] (sz : Nat) (f : T → List AV) (l : List T) : AV := .ro sz l.length (fun i => f (l.getD i default))
def bufL {T : Type} [Inhabited T] (ty sz : Nat) (f : T → List AV) (l : List T) : Blk := .buf ty sz l.length (fun i => f (l.getD i default))
section
variable {P : Program} {N : Nat} {Γ : Tys} {C : Ctx} {rr : Option Nat} {L : List (Nat × AV)} {M : List (Nat × Blk)} {g : Nat} {Q : Exit → Act → World → Prop}
theorem W.loopGo {S R : Type} {body : S → (S → Option R) → Option R} {n : Nat} {s0 : S} {r : R} {c : Code} (H : loopGo body n s0 = some r) (Ls : S → List (Nat × AV)) (Ms : S → List (Nat × Blk)) (hL : Agree (fr L) (Ls s0)) (hM : AgreeM M (Ms s0))
    (round : ∀ (κ : S → Option R) (s : S), body s κ = some r → ∀ K : Act → World → Prop, (∀ s', κ s' = some r → At N C (Ls s') (Ms s') g K) → W P N rr C c (Ls s) (Ms s) g (Exit.then K Q)) : W P N rr C (.loop c) L M g Q := by
  refine W.loop (S := S) (fun n s => Sp.loopGo body n s = some r) Ls Ms H hL hM (fun n s hJ K hK => ?_)
  cases n with
  | zero => simp [Sp.loopGo] at hJ
  | succ n => exact round (Sp.loopGo body n) s hJ K (fun s' hs' => hK n s' (Nat.lt_succ_self n) hs')
theorem W.rangeGo {S R : Type} {body : Nat → S → (S → R) → R} {exit : S → R} {b : Nat} {s0 : S} {r : R} {c : Code} (H : rangeGo body exit b 0 s0 = r) (Ls : Nat → S → List (Nat × AV)) (Ms : Nat → S → List (Nat × Blk)) (hL : Agree (fr L) (Ls 0 s0)) (hM : AgreeM M (Ms 0 s0))
    (round : ∀ (κ : S → R) (i : Nat) (s : S), i ≤ b → (i < b → body i s κ = r) → (b ≤ i → exit s = r) → ∀ K : Act → World → Prop, (i < b → ∀ s', κ s' = r → At N C (Ls (i + 1) s') (Ms (i + 1) s') g K) → W P N rr C c (Ls i s) (Ms i s) g (Exit.then K Q)) :
    W P N rr C (.loop c) L M g Q := by
  refine W.loop (S := Nat × S) (n0 := b) (s0 := (0, s0)) (fun n s => s.1 + n = b ∧ Sp.rangeGo body exit n s.1 s.2 = r) (fun s => Ls s.1 s.2) (fun s => Ms s.1 s.2) ⟨Nat.zero_add _, H⟩ hL hM (fun n s hJ K hK => ?_)
  obtain ⟨i, s⟩ := s
  obtain ⟨h1, h2⟩ := hJ
  simp only at h1 h2 hK ⊢
  cases n with
  | zero => exact round (fun s => exit s) i s (by omega) (fun hlt => by omega) (fun _ => h2) K (fun hlt => by omega)
  | succ n => exact round (Sp.rangeGo body exit n (i + 1)) i s (by omega) (fun _ => h2) (fun hge => by omega) K (fun _ s' hs' => hK n (i + 1, s') (Nat.lt_succ_self n) ⟨by simp only; omega, hs'⟩)
theorem At.convM {M' : List (Nat × Blk)} {R : Act → World → Prop} (hM : AgreeM M M') (K : At N C L M' g R) : At N C L M g R := by
  intro h ρ a w I
  refine K h ρ a w { I with blk := fun id y hy => ?_, dom := fun id hid => I.dom id (((hM.spec id).1).1 hid) }
  obtain ⟨x, h1, h2⟩ := (hM.spec id).2 y hy
  exact h2 h ρ id w (I.blk id x h1)
theorem Sim.nil (sz : Nat) (e : Nat → List AV) : Sim .nilS (.ro sz 0 e) := by
  intro h ρ v H
  cases H
  exact .ro _ _ _ _ none 0 (fun _ => rfl) ⟨Nat.le_refl _, Nat.zero_le _⟩ (fun i hi => by omega) (fun i j hi => by omega) (fun k v hk => by simp at hk) (fun i j c v hi => by omega)
theorem Sim.tup {xs ys : List AV} (hl : xs.length = ys.length) (hs : ∀ (i : Nat) (x y : AV), xs[i]? = some x → ys[i]? = some y → Sim x y) : Sim (.tup xs) (.tup ys) := by
  intro h ρ v H
  cases H with
  | tup _ _ vs hl' hc =>
    refine .tup _ _ _ (by rw [hl', hl]) fun i c v h1 h2 => ?_
    have hi : i < xs.length := by rw [hl]; exact (List.getElem?_eq_some_iff.1 h1).1
    exact hs i xs[i] c (List.getElem?_eq_getElem hi) h1 h ρ v (hc i xs[i] v (List.getElem?_eq_getElem hi) h2)
inductive SimL : List AV → List AV → Prop
  | nil : SimL [] []
  | cons {x y : AV} {r s : List AV} : Sim x y → SimL r s → SimL (x :: r) (y :: s)
theorem SimL.spec {xs ys : List AV} (H : SimL xs ys) : xs.length = ys.length ∧ ∀ (i : Nat) (x y : AV), xs[i]? = some x → ys[i]? = some y → Sim x y := by
  induction H with
  | nil => exact ⟨rfl, fun i x y h => by simp at h⟩
  | cons h _ ih =>
    refine ⟨by simp [ih.1], fun i x y h1 h2 => ?_⟩
    cases i with
    | zero => simp at h1 h2; subst h1 h2; exact h
    | succ i => exact ih.2 i x y (by simpa using h1) (by simpa using h2)
theorem Sim.tupL {xs ys : List AV} (H : SimL xs ys) : Sim (.tup xs) (.tup ys) := Sim.tup H.spec.1 H.spec.2
theorem Sim.aggL {xs ys : List AV} (H : SimL xs ys) : Sim (.agg xs) (.agg ys) := Sim.agg H.spec.1 H.spec.2
theorem W.len {c : Code} {t sz n : Nat} {e : Nat → List AV} (ht : fr L t = .ro sz n e) (K : n ≤ maxLen → W P N rr C c L M g Q) : W P N rr C c L M g Q := by
  intro h ρ a w I
  have := I.slot t
  rw [ht] at this
  generalize a.tmps.getD t undef = v at this
  cases this with
  | ro _ _ _ _ _ _ _ hcap _ _ _ _ => exact K hcap.2 h ρ a w I
theorem BSim.push {T : Type} [Inhabited T] {ty sz : Nat} {f : T → List AV} {l r : List T} {e : Nat → List AV} {n : Nat} (hn : n = r.length) (he : ∀ k, k < r.length → e k = f (r.getD k default)) :
    BSim (.buf ty sz (l.length + n) (fun k => if k < l.length then f (l.getD k default) else e (k - l.length))) (.buf ty sz (l ++ r).length (fun k => f ((l ++ r).getD k default))) := by
  subst hn
  refine BSim.buf (by simp) (fun i hi => ?_)
  by_cases h : i < l.length
  · simp [h, List.getD_eq_getElem?_getD, List.getElem?_append_left h]
  · simp only [h, if_false]
    rw [he _ (by omega)]
    simp [List.getD_eq_getElem?_getD, List.getElem?_append_right (Nat.le_of_not_lt h)]
theorem BSim.set {T : Type} [Inhabited T] {ty sz : Nat} {f : T → List AV} {l : List T} {i : Nat} {x : T} {es : List AV} (he : es = f x) :
    BSim (.buf ty sz l.length (fun k => if k = i then es else f (l.getD k default))) (.buf ty sz (l.set i x).length (fun k => f ((l.set i x).getD k default))) := by
  subst he
  refine BSim.buf (by simp) (fun k hk => ?_)
  by_cases h : k = i
  · subst h; simp [List.getD_eq_getElem?_getD, hk]
  · simp [h, List.getD_eq_getElem?_getD, List.getElem?_set_ne (Ne.symm h)]
theorem BSim.made {T : Type} [Inhabited T] {ty sz n : Nat} {f : T → List AV} {x : T} {e : List AV} (he : e = f x) : BSim (.buf ty sz n (fun _ => e)) (.buf ty sz (List.replicate n x).length (fun k => f ((List.replicate n x).getD k default))) := by
  subst he
  refine BSim.buf (by simp) (fun k hk => ?_)
  simp [List.getD_eq_getElem?_getD, hk]
theorem At.thenC {y : Code} (K : W P N rr C y L M g Q) : At N C L M g (Exit.then (fun a w => y.wpIn (Fw rr) 1 P Q a w) Q .normal) := K
theorem At.thenK {K : Act → World → Prop} (H : At N C L M g K) : At N C L M g (Exit.then K Q .normal) := H
theorem At.inb {id : Nat} (H : At N C L M g (Q .normal)) : At N C L M g (Exit.inBlock id Q .normal) := H
theorem At.rthen {K : Act → World → Prop} (H : At N C L M g (Q .ret)) : At N C L M g (Exit.then K Q .ret) := H
theorem At.rinb {id : Nat} (H : At N C L M g (Q .ret)) : At N C L M g (Exit.inBlock id Q .ret) := H
theorem At.xthen {K : Act → World → Prop} {i : Nat} (H : At N C L M g (Q (.exit i))) : At N C L M g (Exit.then K Q (.exit i)) := H
theorem At.xhere {i : Nat} (H : At N C L M g (Q .normal)) : At N C L M g (Exit.inBlock i Q (.exit i)) := by
  have e : Exit.inBlock i Q (.exit i) = Q .normal := by funext a w; simp [Exit.inBlock]
  rw [e]; exact H
theorem At.xpast {i j : Nat} (h : Nat.beq j i = false) (H : At N C L M g (Q (.exit j))) : At N C L M g (Exit.inBlock i Q (.exit j)) := by
  have hne : j ≠ i := by rintro rfl; simp at h
  have e : Exit.inBlock i Q (.exit j) = Q (.exit j) := by funext a w; simp [Exit.inBlock, hne]
  rw [e]; exact H
theorem Ctr.sim {f : FuncId} {xs ys : List AV} {v : AV} {B : List (Nat × Blk)} (hs : SimL xs ys) (H : Ctr P f ys v B) : Ctr P f xs v B := by
  refine ⟨H.1, fun h w vs hR hp => H.2 h w vs ?_ hp⟩
  obtain ⟨hl, hs'⟩ := hs.spec
  refine ⟨by rw [hR.1, hl], fun i c v hc hv => ?_⟩
  have hi : i < xs.length := by rw [hl]; exact (List.getElem?_eq_some_iff.1 hc).1
  exact hs' i xs[i] c (List.getElem?_eq_getElem hi) hc h ρ0 v (hR.2 i xs[i] v (List.getElem?_eq_getElem hi) hv)
theorem elemAt_flat {T : Type} [Inhabited T] {sz : Nat} {f : T → List AV} (hf : ∀ x, (f x).length = sz) : ∀ (l : List T) (i : Nat), i < l.length → elemAt sz (l.flatMap f) i = f (l.getD i default)
  | x :: l, 0, _ => by
    unfold elemAt
    simp [hf x]
  | x :: l, i + 1, h => by
    have := elemAt_flat hf l i (by simpa using h)
    unfold elemAt at this ⊢
    rw [List.flatMap_cons, Nat.add_mul, Nat.one_mul, Nat.add_comm, ← List.drop_drop]
    have e : (f x ++ l.flatMap f).drop sz = l.flatMap f := by rw [← hf x]; simp
    rw [e, this]
    simp
theorem Sim.lit {T : Type} [Inhabited T] {sz n : Nat} {f : T → List AV} {cs : List AV} (l : List T) (hn : n = l.length) (hc : cs = l.flatMap f) (hf : ∀ x, (f x).length = sz) : Sim (.ro sz n (elemAt sz cs)) (.ro sz l.length (fun i => f (l.getD i default))) := by
  subst hn hc
  exact Sim.ro rfl (fun i hi => elemAt_flat hf l i hi)
theorem BSim.lit {T : Type} [Inhabited T] {ty sz n : Nat} {f : T → List AV} {cs : List AV} (l : List T) (hn : n = l.length) (hc : cs = l.flatMap f) (hf : ∀ x, (f x).length = sz) : BSim (.buf ty sz n (elemAt sz cs)) (.buf ty sz l.length (fun i => f (l.getD i default))) := by
  subst hn hc
  exact BSim.buf rfl (fun i hi => elemAt_flat hf l i hi)
theorem At.slot {R : Act → World → Prop} {t : Nat} {v : AV} (hs : Sim (fr L t) v) (K : At N C ((t, v) :: L) M g R) : At N C L M g R := by
  intro h ρ a w I
  refine K h ρ a w { I with slot := fun u => ?_ }
  simp only [fr, put]
  split
  · rename_i hb
    have := Nat.eq_of_beq_eq_true hb
    subst this
    exact hs h ρ _ (I.slot u)
  · exact I.slot u
theorem At.nilOwn {R : Act → World → Prop} (t id ty sz : Nat) {e : Nat → List AV} (ht : fr L t = .nilS) (hid : mm M id = none) (K : At N C ((t, .buf id 0) :: L) ((id, .buf ty sz 0 e) :: M) g R) : At N C L M g R := by
  intro h ρ a w I
  have hρ := I.dom id hid
  have hle : ∀ i l, ρ i = some l → ∃ l', upd ρ id (some (.sl 0 sz (.slice none 0 0))) i = some l' ∧ l.le l' := by
    intro i l hi
    have hne : i ≠ id := by rintro rfl; rw [hρ] at hi; cases hi
    exact ⟨l, by rw [upd_other _ _ hne]; exact hi, .inl rfl⟩
  have I' : InvH N C h (upd ρ id (some (.sl 0 sz (.slice none 0 0)))) (fr L) (mm ((id, .buf ty sz 0 e) :: M)) g a w := by
    refine I.step (S := fun i => i = id) rfl rfl rfl (Nat.le_refl _) (fun _ _ _ => rfl) (fun i hi => upd_other _ _ hi) hle (fun _ _ h => h) (fun _ _ h => .inl h) (fun i hi => upd_other _ _ hi) ?_ ?_ ?_ ?_
    · rintro i rfl hM; simp only [mm] at hM; rw [upd_same] at hM; cases hM
    · rintro i y rfl hM; simp only [mm] at hM; rw [upd_same] at hM; cases hM
      exact ⟨.slice none 0 0, [], upd_same _ _ _, ⟨by simp, .inl ⟨rfl, rfl⟩⟩, fun j hj => (by omega), fun x hx => (by cases hx), fun j k c x hj => (by omega)⟩
    · rintro i l b rfl h1 h2; rw [upd_same] at h1; cases h1; simp [LI.owns, Value.ownBlock] at h2
    · rintro i i' l l' b rfl rfl _ _ _ _; rfl
  refine K h _ a w { I' with slot := fun u => ?_ }
  simp only [fr, put]
  split
  · rename_i hb
    have := Nat.eq_of_beq_eq_true hb
    subst this
    have hv := I.slot u
    rw [ht] at hv
    generalize a.tmps.getD u undef = x at hv
    cases hv
    exact .buf _ _ _ _ _ _ _ (upd_same _ _ _) (Nat.le_refl _) rfl (fun _ => rfl)
  · exact I'.slot u
theorem Sim.sub {T : Type} [Inhabited T] {sz n : Nat} {f : T → List AV} {l : List T} {e : Nat → List AV} (hn : n = l.length) (he : ∀ i, i < l.length → e i = f (l.getD i default)) : Sim (.ro sz n e) (.ro sz l.length (fun i => f (l.getD i default))) := by
  subst hn
  exact Sim.ro rfl he
def Seg {T : Type} [Inhabited T] (f : T → List AV) (n : Nat) (e : Nat → List AV) (l : List T) : Prop := n = l.length ∧ ∀ k, k < n → e k = f (l.getD k default)
theorem Seg.refl {T : Type} [Inhabited T] (f : T → List AV) (l : List T) : Seg f l.length (fun k => f (l.getD k default)) l := ⟨rfl, fun _ _ => rfl⟩
theorem Seg.lit {T : Type} [Inhabited T] {f : T → List AV} {sz n : Nat} {cs : List AV} (l : List T) (hn : n = l.length) (hc : cs = l.flatMap f) (hf : ∀ x, (f x).length = sz) : Seg f n (elemAt sz cs) l := by
  subst hn hc
  exact ⟨rfl, fun k hk => elemAt_flat hf l k hk⟩
theorem Seg.made {T : Type} [Inhabited T] {f : T → List AV} {n : Nat} (x : T) {e : List AV} (he : e = f x) : Seg f n (fun _ => e) (List.replicate n x) := by
  subst he
  exact ⟨by simp, fun k hk => by simp [List.getD_eq_getElem?_getD, hk]⟩
theorem Seg.push {T : Type} [Inhabited T] {f : T → List AV} {n m : Nat} {e e' : Nat → List AV} {l r : List T} (h : Seg f n e l) (h' : Seg f m e' r) : Seg f (n + m) (fun k => if k < n then e k else e' (k - n)) (l ++ r) := by
  obtain ⟨rfl, h1⟩ := h
  obtain ⟨rfl, h2⟩ := h'
  refine ⟨by simp, fun k hk => ?_⟩
  by_cases h : k < l.length
  · simp only [h, if_true]
    rw [h1 k h]
    simp [List.getD_eq_getElem?_getD, List.getElem?_append_left h]
  · simp only [h, if_false]
    rw [h2 _ (by omega)]
    simp [List.getD_eq_getElem?_getD, List.getElem?_append_right (Nat.le_of_not_lt h)]
theorem Seg.set {T : Type} [Inhabited T] {f : T → List AV} {n i : Nat} {e : Nat → List AV} {l : List T} {es : List AV} (h : Seg f n e l) (x : T) (he : es = f x) : Seg f n (fun k => if k = i then es else e k) (l.set i x) := by
  obtain ⟨rfl, h1⟩ := h
  subst he
  refine ⟨by simp, fun k hk => ?_⟩
  by_cases h : k = i
  · subst h; simp [List.getD_eq_getElem?_getD, hk]
  · simp only [h, if_false]
    rw [h1 k hk]
    simp [List.getD_eq_getElem?_getD, List.getElem?_set_ne (Ne.symm h)]
theorem Seg.take {T : Type} [Inhabited T] (f : T → List AV) (l : List T) (a : Nat) (h : a ≤ l.length) : Seg f a (fun k => f (l.getD k default)) (l.take a) := by
  refine ⟨by simp; omega, fun k hk => ?_⟩
  simp [List.getD_eq_getElem?_getD, List.getElem?_take, hk]
theorem Seg.drop {T : Type} [Inhabited T] (f : T → List AV) (l : List T) (a : Nat) : Seg f (l.length - a) (fun k => f (l.getD (a + k) default)) (l.drop a) := by
  refine ⟨by simp, fun k hk => ?_⟩
  simp [List.getD_eq_getElem?_getD, List.getElem?_drop]
theorem Seg.cut {T : Type} [Inhabited T] (f : T → List AV) (l : List T) (a b : Nat) (h : b ≤ l.length) : Seg f (b - a) (fun k => f (l.getD (a + k) default)) ((l.take b).drop a) := by
  refine ⟨by simp; omega, fun k hk => ?_⟩
  simp [List.getD_eq_getElem?_getD, List.getElem?_drop, List.getElem?_take, show a + k < b by omega]
theorem Sim.seg {T : Type} [Inhabited T] {sz n : Nat} {f : T → List AV} {e : Nat → List AV} {l : List T} (h : Seg f n e l) : Sim (.ro sz n e) (roL sz f l) := Sim.ro h.1 h.2
theorem BSim.seg {T : Type} [Inhabited T] {ty sz n : Nat} {f : T → List AV} {e : Nat → List AV} {l : List T} (h : Seg f n e l) : BSim (.buf ty sz n e) (bufL ty sz f l) := BSim.buf h.1 h.2
end
end Go.Av
