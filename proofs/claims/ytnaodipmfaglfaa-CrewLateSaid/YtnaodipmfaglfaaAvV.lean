/- A scope of labels, without jumps to them; maps read as such. -/
import Derived.Test.YtnaodipmfaglfaaAvU
import Derived.Scope
set_option linter.all false
namespace Go
section
variable {F : Fence} {n : Nat} {P : Program} {b : Frame} {a : Act} {k : List Item} {cs : List Frame} {w : World} {Q : Exit → Act → World → Prop}
theorem av_stepR_scope {c : Code} : step P (lone (b.atR a (.code (.scope c) :: k)) cs w) = .next (lone (b.atR a (.code c :: .inScope c :: k)) cs w) :=
  step_lone_go (by simp [stepG, stepG.exec, Frame.atR])
theorem av_stepR_inScope {c : Code} : step P (lone (b.atR a (.inScope c :: k)) cs w) = .next (lone (b.atR a k) cs w) :=
  step_lone_go (by simp [stepG, stepG.exec, Frame.atR])
theorem av_wpIn_scope {c : Code} (h : c.wpIn F n P (Exit.noGoto Q) a w) : (Code.scope c).wpIn F n P Q a w := by
  intro b k cs hro hb hr
  have h0 : (lone (b.atR a (.code (.scope c) :: k)) cs w).fenced P F := fenced_calm hb hr rfl
  obtain ⟨e, a₁, w₁, hq, harr⟩ := h b (.inScope c :: k) cs hro hb hr
  cases e with
  | normal => exact ⟨.normal, a₁, w₁, hq, .head h0 av_stepR_scope (StepsIn.trans harr (.one (fenced_calm hb hr rfl) av_stepR_inScope))⟩
  | exit id =>
    have hx : exitTo id (.inScope c :: k) = exitTo id k := by simp [exitTo]
    exact ⟨.exit id, a₁, w₁, hq, fun k' hk => .head h0 av_stepR_scope (harr.1 k' (by rw [hx]; exact hk)),
      fun hr' hk => let ⟨k₁, h1, h2⟩ := harr.2 hr' (by rw [hx]; exact hk); ⟨k₁, h1, .head h0 av_stepR_scope h2⟩⟩
  | goto l => exact hq.elim
  | ret => exact ⟨_, a₁, w₁, hq, .of_steps (.one h0 av_stepR_scope) harr⟩
  | panic ch => exact ⟨_, a₁, w₁, hq, .of_steps (.one h0 av_stepR_scope) harr⟩
  | outgrown => exact ⟨_, a₁, w₁, hq, .of_steps (.one h0 av_stepR_scope) harr⟩
end
end Go
namespace Go.Av
section
variable {P : Program} {N : Nat} {Γ : Tys} {C : Ctx} {rr : Option Nat} {L : List (Nat × AV)} {M : List (Nat × Blk)} {g : Nat} {Q : Exit → Act → World → Prop}
theorem W.joinC {S R : Type} {f : (S → R) → R} {k : S → R} {r : R} {x y : Code} (H : Sp.joinK f k = r) (Ls : S → List (Nat × AV)) (Ms : S → List (Nat × Blk))
    (rest : ∀ s, k s = r → W P N rr C y (Ls s) (Ms s) g Q)
    (first : ∀ κ : S → R, f κ = r → (∀ s, κ s = r → At N C (Ls s) (Ms s) g (fun a w => y.wpIn (Fw rr) 1 P Q a w)) → W P N rr C x L M g (Exit.then (fun a w => y.wpIn (Fw rr) 1 P Q a w) Q)) : W P N rr C x L M g (Exit.then (fun a w => y.wpIn (Fw rr) 1 P Q a w) Q) :=
  first k H rest
theorem W.scope {c : Code} (H : W P N rr C c L M g (Exit.noGoto Q)) : W P N rr C (.scope c) L M g Q := fun h ρ a w I => av_wpIn_scope (H h ρ a w I)
theorem W.label {l : Nat} (K : At N C L M g (Q .normal)) : W P N rr C (.label l) L M g Q := fun h ρ a w I => wpIn_label (K h ρ a w I)
theorem At.rins (H : At N C L M g (Q .ret)) : At N C L M g (Exit.noGoto Q .ret) := H
end
def setNil : List AV → Nat → Nat → Option (List AV)
  | .nilS :: r, 0, id => some (.buf id 0 :: r)
  | x :: r, n + 1, id => match setNil r n id with
    | some r' => some (x :: r')
    | none => none
  | _, _, _ => none
theorem setNil_spec {id : Nat} : ∀ {cs cs' : List AV} {j : Nat}, setNil cs j id = some cs' → cs'.length = cs.length ∧ ∀ (i : Nat) (c : AV), cs'[i]? = some c → cs[i]? = some c ∨ (c = .buf id 0 ∧ cs[i]? = some .nilS) := by
  intro cs
  induction cs with
  | nil => intro cs' j h; cases j <;> simp [setNil] at h
  | cons x r ih =>
    intro cs' j h
    cases j with
    | zero =>
      cases x <;> simp only [setNil] at h <;> cases h
      refine ⟨rfl, fun i c hc => ?_⟩
      cases i with
      | zero => simp at hc; subst hc; exact .inr ⟨rfl, rfl⟩
      | succ i => exact .inl (by simpa using hc)
    | succ j =>
      simp only [setNil] at h
      split at h
      · rename_i r' hr
        cases h
        obtain ⟨h1, h2⟩ := ih hr
        refine ⟨by simp [h1], fun i c hc => ?_⟩
        cases i with
        | zero => exact .inl (by simpa using hc)
        | succ i => simpa using h2 i c (by simpa using hc)
      · cases h
section
variable {N : Nat} {C : Ctx} {L : List (Nat × AV)} {M : List (Nat × Blk)} {g : Nat}
theorem At.nilOwnCell {R : Act → World → Prop} (i0 j0 id ty sz : Nat) {e : Nat → List AV} {cs cs' : List AV} (hc : mm M i0 = some (.cells cs)) (hs : setNil cs j0 id = some cs') (hid : mm M id = none) (K : At N C L ((i0, .cells cs') :: (id, .buf ty sz 0 e) :: M) g R) : At N C L M g R := by
  intro h ρ a w I
  have hρ := I.dom id hid
  have hne0 : i0 ≠ id := by rintro rfl; rw [hc] at hid; cases hid
  have hle : ∀ i l, ρ i = some l → ∃ l', upd ρ id (some (.sl 0 sz (.slice none 0 0))) i = some l' ∧ l.le l' := by
    intro i l hi
    have hne : i ≠ id := by rintro rfl; rw [hρ] at hi; cases hi
    exact ⟨l, by rw [upd_other _ _ hne]; exact hi, .inl rfl⟩
  have I' : InvH N C h (upd ρ id (some (.sl 0 sz (.slice none 0 0)))) (fr L) (mm ((id, .buf ty sz 0 e) :: M)) g a w := by
    refine I.step (S := fun i => i = id) rfl rfl rfl (Nat.le_refl _) (fun _ _ _ => rfl) (fun i hi => upd_other _ _ hi) hle (fun _ _ h => h) (fun _ _ h => .inl h) (fun i hi => upd_other _ _ hi) ?_ ?_ ?_ ?_
    · rintro i rfl hM; simp only [mm] at hM; rw [upd_same] at hM; cases hM
    · rintro i y rfl hM; simp only [mm] at hM; rw [upd_same] at hM; cases hM
      exact ⟨.slice none 0 0, [], upd_same _ _ _, ⟨by simp, .inl ⟨rfl, rfl⟩⟩, fun j hj => (by omega), fun x hx => (by cases hx), fun j k c x hj => (by omega)⟩
    · rintro i l b rfl h1 h2; rw [upd_same] at h1; cases h1; simp [LI.owns, Value.ownBlock] at h2
    · rintro i i' l l' b rfl rfl _ _ _ _; rfl
  refine K h _ a w { I' with blk := fun i x hx => ?_, dom := fun i hi => I'.dom i ?_ }
  · simp only [mm] at hx
    by_cases hi : i = i0
    · subst hi
      rw [upd_same] at hx; cases hx
      have hold : mm ((id, .buf ty sz 0 e) :: M) i = some (.cells cs) := by simp only [mm]; rw [upd_other _ _ hne0]; exact hc
      obtain ⟨b, vs, ty', q1, q2, q3, q4⟩ := I'.blk i _ hold
      obtain ⟨s1, s2⟩ := setNil_spec hs
      refine ⟨b, vs, ty', q1, q2, by rw [q3, s1], fun j c v hj hv => ?_⟩
      rcases s2 j c hj with e1 | ⟨rfl, e1⟩
      · exact q4 j c v e1 hv
      · have := q4 j _ v e1 hv
        cases this
        exact .buf _ _ _ _ _ _ _ (upd_same _ _ _) (Nat.le_refl _) rfl (fun _ => rfl)
    · rw [upd_other _ _ hi] at hx
      exact I'.blk i x hx
  · simp only [mm] at hi ⊢
    by_cases hi0 : i = i0
    · subst hi0; rw [upd_same] at hi; cases hi
    · rw [upd_other _ _ hi0] at hi; exact hi
end
open Go.Sp
def MSeg {T : Type} [Inhabited T] (f : T → AV) (dom : Int → Bool) (e : Int → AV) (n : Nat) (m : Mp T) : Prop := (∀ k, dom k = (m.get k).isSome) ∧ (∀ k, e k = f ((m.get k).getD default)) ∧ n = m.card
theorem MSeg.refl {T : Type} [Inhabited T] (f : T → AV) (m : Mp T) : MSeg f (fun k => (m.get k).isSome) (fun k => f ((m.get k).getD default)) m.card m := ⟨fun _ => rfl, fun _ => rfl, rfl⟩
theorem MSeg.empty {T : Type} [Inhabited T] {f : T → AV} {e : AV} (he : e = f default) : MSeg f (fun _ => false) (fun _ => e) 0 Mp.empty := ⟨fun _ => rfl, fun _ => he, rfl⟩
theorem MSeg.set {T : Type} [Inhabited T] {f : T → AV} {dom : Int → Bool} {e : Int → AV} {n : Nat} {m : Mp T} (h : MSeg f dom e n m) {q : Int} (x : T) {ex : AV} (hx : ex = f x) :
    MSeg f (fun j => decide (j = q) || dom j) (fun j => bif decide (j = q) then ex else e j) (bif dom q then n else n + 1) (m.set q x) := by
  obtain ⟨h1, h2, rfl⟩ := h
  subst hx
  refine ⟨fun k => ?_, fun k => ?_, ?_⟩
  · by_cases hk : k = q
    · subst hk; simp [Mp.set]
    · simp [Mp.set, hk, h1]
  · by_cases hk : k = q
    · subst hk; simp [Mp.set]
    · simp [Mp.set, hk, h2]
  · rw [h1]
    simp only [Mp.set]
    cases (m.get q).isSome <;> rfl
end Go.Av
