/- The types of a program, by reckoning. -/
import Derived.Test.YtnaodipmfaglfaaAvS
set_option linter.all false
namespace Go.Av
def mkDs (P : Program) (t : TypeId) : TypeDesc → Option Ds
  | .int k => some (.int k)
  | .bool => some .bool
  | .pointer e => some (.ptr e)
  | .slice e => some (.slice e)
  | .array n e => some (.array n e)
  | .map k e => some (.map k e)
  | .func _ _ _ => some .func
  | .interface _ => some .iface
  | .struct f => if (f.toList.all fun x => (x.name != "_") && (P.info? x.type).isSome) && !P.stoodInHeld t then some (.struct (f.toList.map fun x => (x.offset, x.type))) else none
  | _ => some .other
def mkZero (d : Ds) (z : Value) : Option (List Value) := match d.agg with
  | true => match z with
    | .agg a => some a.toList
    | _ => none
  | false => some [z]
def mkTy (P : Program) (t : TypeId) : Option TyD := match P.info? t with
  | some i => match i.zero with
    | some z => match P.underlying t with
      | some d => match mkDs P t d with
        | some ds => match mkZero ds z with
          | some zs => if zs.length == i.size && (zs.all fun v => single (ofVal v)) && (ds.agg || i.size == 1) then some ⟨ds, zs, i.size, i.bytes⟩ else none
          | none => none
        | none => none
      | none => none
    | none => none
  | none => none
def mkTys (P : Program) : List Nat → Option Tys
  | [] => some []
  | t :: r => match mkTy P t with
    | some T => match mkTys P r with
      | some Γ => some ((t, T) :: Γ)
      | none => none
    | none => none
theorem mkDs_sound {P : Program} {t : TypeId} {d : TypeDesc} {ds : Ds} (h : mkDs P t d = some ds) : DsOk P t ds d := by
  unfold mkDs at h
  cases d <;> simp only [] at h <;> (try (split at h)) <;> cases h <;> simp only [DsOk] <;> (try (first | rfl | exact ⟨_, rfl⟩ | exact ⟨_, _, _, rfl⟩ | (refine ⟨fun f e => ?_, fun n e' e => ?_, fun ms e => ?_⟩ <;> cases e; done)))
  rename_i f hc
  simp only [Bool.and_eq_true, List.all_eq_true, bne_iff_ne, ne_eq, Bool.not_eq_true'] at hc
  exact ⟨f, rfl, rfl, fun x hx => (hc.1 x hx).1, hc.2, fun x hx => (hc.1 x hx).2⟩
theorem mkTy_sound {P : Program} {t : TypeId} {T : TyD} (h : mkTy P t = some T) : TyOk P t T := by
  unfold mkTy at h
  cases hi : P.info? t with
  | none => simp [hi] at h
  | some i =>
  simp only [hi] at h
  cases hz : i.zero with
  | none => simp [hz] at h
  | some z =>
  simp only [hz] at h
  cases hu : P.underlying t with
  | none => simp [hu] at h
  | some d =>
  simp only [hu] at h
  cases hd : mkDs P t d with
  | none => simp [hd] at h
  | some ds =>
  simp only [hd] at h
  cases hm : mkZero ds z with
  | none => simp [hm] at h
  | some zs =>
  simp only [hm] at h
  split at h
  · rename_i hc
    cases h
    simp only [Bool.and_eq_true, beq_iff_eq, List.all_eq_true, Bool.or_eq_true] at hc
    obtain ⟨⟨h1, h2⟩, h3⟩ := hc
    refine ⟨⟨i, hi, rfl, rfl, ?_⟩, h1, h2, fun ha => ?_, d, hu, mkDs_sound hd⟩
    · rw [hz]
      unfold mkZero at hm
      unfold TyD.zeroV
      cases ha : ds.agg with
      | true =>
        simp only [ha] at hm ⊢
        cases z <;> simp only [] at hm <;> cases hm
        simp
      | false =>
        simp only [ha] at hm ⊢
        cases hm; rfl
    · simp only at ha
      rcases h3 with h3 | h3
      · rw [ha] at h3; cases h3
      · exact h3
  · cases h
theorem mkTys_sound {P : Program} : ∀ {ts : List Nat} {Γ : Tys}, mkTys P ts = some Γ → TysOk P Γ
  | [], Γ, h => by simp only [mkTys] at h; cases h; exact TysOk.nil P
  | t :: r, Γ, h => by
    simp only [mkTys] at h
    split at h
    · rename_i T hT
      split at h
      · rename_i G hG
        cases h
        exact TysOk.cons (mkTy_sound hT) (mkTys_sound hG)
      · cases h
    · cases h
end Go.Av
