/- Owned results of several blocks: names changed at the return; empty slices within temporaries. -/
import Derived.Test.YtnaodipmfaglfaaAvLd
set_option linter.all false
namespace Go.Av
section
variable {N : Nat} {C : Ctx} {L : List (Nat × AV)} {M : List (Nat × Blk)} {g : Nat}
theorem fr_ren {π : List (Nat × Nat)} : ∀ {L : List (Nat × AV)} (t : Nat), fr (L.map fun x => (x.1, x.2.ren π)) t = (fr L t).ren π
  | [], t => by simp only [List.map_nil, fr, AV.ren]
  | (u, v) :: r, t => by
    simp only [List.map_cons, fr, put]
    split
    · rfl
    · exact fr_ren t
theorem At.ren {w0 : World} {h0 : Hp} {br : Nat → Prop} {R : Act → World → Prop} (π : List (Nat × Nat)) {K ts : List Nat} {L' : List (Nat × AV)} {M' : List (Nat × Blk)} (hL : filtL K L ts = some L') (hM : filtM K M K = some M') (hk : keysB M' = K) (hB : onlyBs K M' = true) (hi : injOn π K = true)
    (H : At N (Cq w0 h0 [] [] br) (L'.map fun x => (x.1, x.2.ren π)) (renB π M') g R) : At N (Cq w0 h0 [] [] br) L M g R := by
  intro h ρ0' a w I0
  obtain ⟨ρ, _, I⟩ := I0.forget hL hM rfl
  classical
  have hinj := injOn_spec hi
  let ρ' : Rho := fun i => if hx : ∃ j, j ∈ K ∧ look π j = i then ρ (Classical.choose hx) else none
  have hin : ∀ j, j ∈ K → ρ' (look π j) = ρ j := fun j hj => by
    have hx : ∃ k, k ∈ K ∧ look π k = look π j := ⟨j, hj, rfl⟩
    have e1 : ρ' (look π j) = ρ (Classical.choose hx) := dif_pos hx
    obtain ⟨q1, q2⟩ := Classical.choose_spec hx
    rw [e1, hinj _ _ q1 hj q2]
  have hout : ∀ i li, ρ' i = some li → ∃ j, j ∈ K ∧ i = look π j ∧ ρ j = some li := fun i li hi => by
    by_cases hx : ∃ j, j ∈ K ∧ look π j = i
    · obtain ⟨j, q1, rfl⟩ := hx
      exact ⟨j, q1, rfl, (hin j q1).symm.trans hi⟩
    · have : ρ' i = none := dif_neg hx
      rw [this] at hi; cases hi
  have hmB : ∀ j, j ∈ K → mm (renB π M') (look π j) = (mm M' j).map (·.ren π) := mm_renB hinj (fun i hi => hk ▸ hi)
  refine H h ρ' a w { I with slot := fun t => ?_, sav := ⟨rfl, fun i c v h1 => by simp [Cq] at h1⟩, blk := fun i y hy => ?_, dom := fun i hy => ?_, own := fun i li b q1 q2 => ?_, inj := fun i i' li li' b q1 q1' q2 q2' => ?_, gst := ?_ }
  · rw [fr_ren]
    rcases filtL_spec hL t with e | ⟨e, ho⟩
    · rw [e]; exact .any _ _
    · exact (I.slot t).ren (ids := K) hin ho
  · have hi : i ∈ keysB (renB π M') := keysB_mm.2 (by rw [hy]; rfl)
    rw [keys_renB] at hi
    obtain ⟨j, q1, rfl⟩ := List.mem_map.1 hi
    rw [hk] at q1
    rw [hmB j q1] at hy
    obtain ⟨y0, q2, rfl⟩ := Option.map_eq_some_iff.1 hy
    exact (I.blk j y0 q2).ren (ids := K) hin q1 (onlyBs_mm hB j y0 q2)
  · cases hq : ρ' i with
    | none => rfl
    | some li =>
      obtain ⟨j, q1, rfl, q2⟩ := hout i li hq
      rw [hmB j q1] at hy
      have := keysB_mm.1 (hk ▸ q1 : j ∈ keysB M')
      cases hz : mm M' j with
      | none => rw [hz] at this; cases this
      | some z => rw [hz] at hy; cases hy
  · obtain ⟨j, q3, rfl, q4⟩ := hout i li q1
    exact I.own j li b q4 q2
  · obtain ⟨j, q3, rfl, q4⟩ := hout i li q1
    obtain ⟨j', q3', rfl, q4'⟩ := hout i' li' q1'
    rw [I.inj j j' li li' b q4 q4' q2 q2']
  · obtain ⟨X, x1, x2, x3⟩ := I.gst
    refine ⟨X, fun b ⟨i, li, q1, q2⟩ => ?_, x2, x3⟩
    obtain ⟨j, q3, rfl, q4⟩ := hout i li q1
    exact x1 b ⟨j, li, q4, q2⟩
end
end Go.Av
