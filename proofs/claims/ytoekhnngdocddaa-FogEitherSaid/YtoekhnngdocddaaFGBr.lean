/- Printed by opn.py: what the arguments of the laws read as; each law's statement out of its Lean definition. -/
import Derived.Test.YtoekhnngdocddaaFr4
import Derived.Test.YtoekhnngdocddaaCtr2
import Derived.Test.YtoekhnngdocddaaRows
import Derived.JoinedOf
set_option linter.all false
set_option maxRecDepth 100000
set_option linter.unusedVariables false
namespace Go.Sp
open Go Go.Av Go.Proofs Go.Proofs.Ytoekhnngdocddaa
theorem Try_own : ownKnob Try.prog.godebug = none := by kernel_rfl
theorem Try_kids : Kids Try.prog (· < Try.prog.types.size) := kids_rows (by kernel_rfl) (by kernel_rfl)
theorem Try_full : ∀ t e, t < Try.prog.types.size → Try.prog.underlying t = some (.slice e) → 0 < Try.prog.cellsOf e := slices_full_of Try.prog (by kernel_rfl)
def ok_Arr4Int (x : (Arr4 Int)) : Prop := inI x.x0 ∧ inI x.x1 ∧ inI x.x2 ∧ inI x.x3
abbrev en_Arr4Int (x : (Arr4 Int)) : List AV := [.int .i64 (x.x0), .int .i64 (x.x1), .int .i64 (x.x2), .int .i64 (x.x3)]
theorem o_76 : Opn Try.prog 76 4 en_Arr4Int ok_Arr4Int :=
 Opn.array (n := 4) (s := 1) (sz := 4) Try.underlying76 (by kernel_rfl) (by kernel_rfl) (show OpnF Try.prog [(0, 3), (1, 3), (2, 3), (3, 3)] 0 4 _ _ from .cons (Opn.int Try.underlying3 (by kernel_rfl)) (.cons (Opn.int Try.underlying3 (by kernel_rfl)) (.cons (Opn.int Try.underlying3 (by kernel_rfl)) (.cons (Opn.int Try.underlying3 (by kernel_rfl)) (.nil))))) (fun x => (⟨x.1, x.2.1, x.2.2.1, x.2.2.2.1⟩ : (Arr4 Int))) (fun _ => rfl) (fun _ => rfl) (fun x h => ⟨h.1, h.2.1, h.2.2.1, h.2.2.2.1⟩)
def ok_gasolierlaw05_Given (x : gasolierlaw05_Given) : Prop := inI x.Leaf ∧ (fun l : (List Int) => l.length * 8 ≤ 140737488351232 ∧ ∀ x ∈ l, inI x) x.Ids ∧ (fun l : (List Int) => l.length * 8 ≤ 140737488351232 ∧ ∀ x ∈ l, inI x) x.Districts
abbrev en_gasolierlaw05_Given (x : gasolierlaw05_Given) : List AV := [.int .i64 (x.Leaf), roL 1 enc_Int x.Ids, roL 1 enc_Int x.Districts]
theorem o_79 : Opn Try.prog 79 3 en_gasolierlaw05_Given ok_gasolierlaw05_Given :=
 Opn.struct Try.underlying79 (by kernel_rfl) (show OpnF Try.prog [(0, 3), (1, 27), (2, 27)] 0 3 _ _ from .cons (Opn.int Try.underlying3 (by kernel_rfl)) (.cons (Opn.slice (k := 8) Try.underlying27 (by kernel_rfl) (show Opn Try.prog 3 1 enc_Int inI from (Opn.int Try.underlying3 (by kernel_rfl))) (by decide) (by decide +kernel)) (.cons (Opn.slice (k := 8) Try.underlying27 (by kernel_rfl) (show Opn Try.prog 3 1 enc_Int inI from (Opn.int Try.underlying3 (by kernel_rfl))) (by decide) (by decide +kernel)) (.nil)))) (fun x => (⟨x.1, x.2.1, x.2.2.1⟩ : gasolierlaw05_Given)) (fun _ => rfl) (fun _ => rfl) (fun x h => ⟨h.1, h.2.1, h.2.2.1⟩)
theorem args_9 : OpnA Try.prog [23, 27, 79] (fun x : (List (Arr4 Int)) × (List Int) × gasolierlaw05_Given × Unit => [roL 4 enc_Arr4Int x.1, roL 1 enc_Int x.2.1, .agg (en_gasolierlaw05_Given x.2.2.1)]) (fun x => (fun l : (List (Arr4 Int)) => l.length * 32 ≤ 140737488351232 ∧ ∀ x ∈ l, ok_Arr4Int x) x.1 ∧ (fun l : (List Int) => l.length * 8 ≤ 140737488351232 ∧ ∀ x ∈ l, inI x) x.2.1 ∧ ok_gasolierlaw05_Given x.2.2.1 ∧ True) :=
 .cons (.slice (k := 32) Try.underlying23 (by kernel_rfl) (show Opn Try.prog 76 4 enc_Arr4Int ok_Arr4Int from o_76) (by decide) (by decide +kernel)) (.cons (.slice (k := 8) Try.underlying27 (by kernel_rfl) (show Opn Try.prog 3 1 enc_Int inI from (Opn.int Try.underlying3 (by kernel_rfl))) (by decide) (by decide +kernel)) (.cons (.struct Try.underlying79 o_79) (.nil)))
theorem fogEither_lifted (h : ∀ (a0 : (List (Arr4 Int))) (a1 : (List Int)) (a2 : gasolierlaw05_Given), (fun l : (List (Arr4 Int)) => l.length * 32 ≤ 140737488351232 ∧ ∀ x ∈ l, ok_Arr4Int x) a0 → (fun l : (List Int) => l.length * 8 ≤ 140737488351232 ∧ ∀ x ∈ l, inI x) a1 → ok_gasolierlaw05_Given a2 → ∃ fuel, gasolierlaw05_FogEither fuel a0 a1 a2 = some true) (os : Os) (started : os.Started) (H : Type) (enc : TypeId × Value → H) :
   ReturnsInHanded {} Try.checked os 9 .any (Rows.fogEitherSpec.pre6 enc Try.prog Try.f9 Rows.fogEitherRow.domain Rows.fogEitherRow.apart) (Rows.fogEitherSpec.post enc Try.prog Try.f9 Rows.fogEitherRow.apart Rows.fogEitherRow.fresh Rows.fogEitherRow.handsOn Rows.fogEitherRow.again) := by
 refine returnsInHanded_of_change_sized (C := Try.checked) Try_own started (by kernel_rfl) Try.func9
   (ChangeSpec.witness6 (enc := enc) (C := Try.checked) false ⟨#[], #[.slice none 0 0, .slice none 0 0, .agg #[.int .i64 0, .slice none 0 0, .slice none 0 0]], []⟩ 12 (by kernel_rfl) (by kernel_rfl) (by kernel_rfl) (by kernel_rfl)) ?_
 intro W base args ds gs before hval hW _ hbig _
 have hp : Try.f9.params.toList = [23, 27, 79] := by rw [Try.params9]
 refine law_calls (P := Try.prog) (fn := Try.f9) Try_kids Try_full (by rw [hp]; kernel_rfl) (hp ▸ args_9) rfl ?_ (by kernel_rfl) Try.underlying4 ?_ H enc W base args ds gs before hval hW hbig
 · intro H ds hl
   rw [hp] at hl
   match ds, hl with
   | [_, _, _], _ => rfl
 · rintro ⟨a0, a1, a2, _⟩ ⟨h0, h1, h2, _⟩
   obtain ⟨fuel, hf⟩ := h a0 a1 a2 h0 h1 h2
   exact c_gasolierlaw05_FogEither fuel a0 a1 a2 hf
theorem fogEither_of (h : ∀ (a0 : (List (Arr4 Int))) (a1 : (List Int)) (a2 : gasolierlaw05_Given), (fun l : (List (Arr4 Int)) => l.length * 32 ≤ 140737488351232 ∧ ∀ x ∈ l, ok_Arr4Int x) a0 → (fun l : (List Int) => l.length * 8 ≤ 140737488351232 ∧ ∀ x ∈ l, inI x) a1 → ok_gasolierlaw05_Given a2 → ∃ fuel, gasolierlaw05_FogEither fuel a0 a1 a2 = some true) : Rows.FogEitherSaid :=
 OpenClaim.holds_of_wide 9 Try.f9 rfl rfl rfl rfl rfl rfl rfl ⟨rfl, rfl, rfl, rfl, rfl⟩ rfl rfl rfl rfl rfl (by kernel_rfl) Try.func9 (by kernel_rfl)
   (of_decide_eq_true (by kernel_rfl)) (by unfold Func.isWrapper; rw [if_neg (by decide +kernel)]; exact ⟨rfl, rfl⟩)
   (fun os started H enc _ => fogEither_lifted h os started H enc)
end Go.Sp
