/- Printed by opn.py: what the arguments of the laws read as; each law's statement out of its Lean definition. -/
import Derived.Test.YtoekhnngdocddaaFr4
import Derived.Test.YtoekhnngdocddaaCtr2
import Derived.Test.YtoekhnngdocddaaRows
import Derived.JoinedOf
set_option linter.all false
set_option maxRecDepth 100000
set_option linter.unusedVariables false
namespace Go.Sp
open Go Go.Av Go.Proofs Go.Proofs.Ytoekhnngdocddaa
theorem Try_own : ownKnob Try.prog.godebug = none := by kernel_rfl
theorem Try_kids : Kids Try.prog (· < Try.prog.types.size) := kids_rows (by kernel_rfl) (by kernel_rfl)
theorem Try_full : ∀ t e, t < Try.prog.types.size → Try.prog.underlying t = some (.slice e) → 0 < Try.prog.cellsOf e := slices_full_of Try.prog (by kernel_rfl)
def ok_Range (x : Range) : Prop := inI x.Lo ∧ inI x.Hi
abbrev en_Range (x : Range) : List AV := [.int .i64 (x.Lo), .int .i64 (x.Hi)]
theorem o_40 : Opn Try.prog 40 2 en_Range ok_Range :=
 Opn.struct Try.underlying40 (by kernel_rfl) (show OpnF Try.prog [(0, 3), (1, 3)] 0 2 _ _ from .cons (Opn.int Try.underlying3 (by kernel_rfl)) (.cons (Opn.int Try.underlying3 (by kernel_rfl)) (.nil))) (fun x => (⟨x.1, x.2.1⟩ : Range)) (fun _ => rfl) (fun _ => rfl) (fun x h => ⟨h.1, h.2.1⟩)
def ok_Report (x : Report) : Prop := inI x.Source ∧ inI x.District ∧ inI x.Night ∧ inI x.From ∧ inI x.To ∧ ok_Range x.Sight ∧ inI x.Known ∧ inI x.Until
abbrev en_Report (x : Report) : List AV := [.int .i64 (x.Source), .int .i64 (x.District), .int .i64 (x.Night), .int .i64 (x.From), .int .i64 (x.To), .int .i64 (x.Sight.Lo), .int .i64 (x.Sight.Hi), .int .i64 (x.Known), .int .i64 (x.Until)]
theorem o_42 : Opn Try.prog 42 9 en_Report ok_Report :=
 Opn.struct Try.underlying42 (by kernel_rfl) (show OpnF Try.prog [(0, 3), (1, 3), (2, 3), (3, 3), (4, 3), (5, 40), (7, 3), (8, 3)] 0 9 _ _ from .cons (Opn.int Try.underlying3 (by kernel_rfl)) (.cons (Opn.int Try.underlying3 (by kernel_rfl)) (.cons (Opn.int Try.underlying3 (by kernel_rfl)) (.cons (Opn.int Try.underlying3 (by kernel_rfl)) (.cons (Opn.int Try.underlying3 (by kernel_rfl)) (.cons o_40 (.cons (Opn.int Try.underlying3 (by kernel_rfl)) (.cons (Opn.int Try.underlying3 (by kernel_rfl)) (.nil))))))))) (fun x => (⟨x.1, x.2.1, x.2.2.1, x.2.2.2.1, x.2.2.2.2.1, x.2.2.2.2.2.1, x.2.2.2.2.2.2.1, x.2.2.2.2.2.2.2.1⟩ : Report)) (fun _ => rfl) (fun _ => rfl) (fun x h => ⟨h.1, h.2.1, h.2.2.1, h.2.2.2.1, h.2.2.2.2.1, h.2.2.2.2.2.1, h.2.2.2.2.2.2.1, h.2.2.2.2.2.2.2.1⟩)
def ok_gasolierref05_At (x : gasolierref05_At) : Prop := inI x.District ∧ inI x.Night ∧ inI x.Moment
abbrev en_gasolierref05_At (x : gasolierref05_At) : List AV := [.int .i64 (x.District), .int .i64 (x.Night), .int .i64 (x.Moment)]
theorem o_70 : Opn Try.prog 70 3 en_gasolierref05_At ok_gasolierref05_At :=
 Opn.struct Try.underlying70 (by kernel_rfl) (show OpnF Try.prog [(0, 3), (1, 3), (2, 3)] 0 3 _ _ from .cons (Opn.int Try.underlying3 (by kernel_rfl)) (.cons (Opn.int Try.underlying3 (by kernel_rfl)) (.cons (Opn.int Try.underlying3 (by kernel_rfl)) (.nil)))) (fun x => (⟨x.1, x.2.1, x.2.2.1⟩ : gasolierref05_At)) (fun _ => rfl) (fun _ => rfl) (fun x h => ⟨h.1, h.2.1, h.2.2.1⟩)
theorem args_7 : OpnA Try.prog [25, 70, 27] (fun x : (List Report) × gasolierref05_At × (List Int) × Unit => [roL 9 enc_Report x.1, .agg (en_gasolierref05_At x.2.1), roL 1 enc_Int x.2.2.1]) (fun x => (fun l : (List Report) => l.length * 72 ≤ 140737488351232 ∧ ∀ x ∈ l, ok_Report x) x.1 ∧ ok_gasolierref05_At x.2.1 ∧ (fun l : (List Int) => l.length * 8 ≤ 140737488351232 ∧ ∀ x ∈ l, inI x) x.2.2.1 ∧ True) :=
 .cons (.slice (k := 72) Try.underlying25 (by kernel_rfl) (show Opn Try.prog 42 9 enc_Report ok_Report from o_42) (by decide) (by decide +kernel)) (.cons (.struct Try.underlying70 o_70) (.cons (.slice (k := 8) Try.underlying27 (by kernel_rfl) (show Opn Try.prog 3 1 enc_Int inI from (Opn.int Try.underlying3 (by kernel_rfl))) (by decide) (by decide +kernel)) (.nil)))
theorem fogClashes_lifted (h : ∀ (a0 : (List Report)) (a1 : gasolierref05_At) (a2 : (List Int)), (fun l : (List Report) => l.length * 72 ≤ 140737488351232 ∧ ∀ x ∈ l, ok_Report x) a0 → ok_gasolierref05_At a1 → (fun l : (List Int) => l.length * 8 ≤ 140737488351232 ∧ ∀ x ∈ l, inI x) a2 → ∃ fuel, gasolierlaw05_FogClashes fuel a0 a1 a2 = some true) (os : Os) (started : os.Started) (H : Type) (enc : TypeId × Value → H) :
   ReturnsInHanded {} Try.checked os 7 .any (Rows.fogClashesSpec.pre6 enc Try.prog Try.f7 Rows.fogClashesRow.domain Rows.fogClashesRow.apart) (Rows.fogClashesSpec.post enc Try.prog Try.f7 Rows.fogClashesRow.apart Rows.fogClashesRow.fresh Rows.fogClashesRow.handsOn Rows.fogClashesRow.again) := by
 refine returnsInHanded_of_change_sized (C := Try.checked) Try_own started (by kernel_rfl) Try.func7
   (ChangeSpec.witness6 (enc := enc) (C := Try.checked) false ⟨#[], #[.slice none 0 0, .agg #[.int .i64 0, .int .i64 0, .int .i64 0], .slice none 0 0], []⟩ 12 (by kernel_rfl) (by kernel_rfl) (by kernel_rfl) (by kernel_rfl)) ?_
 intro W base args ds gs before hval hW _ hbig _
 have hp : Try.f7.params.toList = [25, 70, 27] := by rw [Try.params7]
 refine law_calls (P := Try.prog) (fn := Try.f7) Try_kids Try_full (by rw [hp]; kernel_rfl) (hp ▸ args_7) rfl ?_ (by kernel_rfl) Try.underlying4 ?_ H enc W base args ds gs before hval hW hbig
 · intro H ds hl
   rw [hp] at hl
   match ds, hl with
   | [_, _, _], _ => rfl
 · rintro ⟨a0, a1, a2, _⟩ ⟨h0, h1, h2, _⟩
   obtain ⟨fuel, hf⟩ := h a0 a1 a2 h0 h1 h2
   exact c_gasolierlaw05_FogClashes fuel a0 a1 a2 hf
theorem fogClashes_of (h : ∀ (a0 : (List Report)) (a1 : gasolierref05_At) (a2 : (List Int)), (fun l : (List Report) => l.length * 72 ≤ 140737488351232 ∧ ∀ x ∈ l, ok_Report x) a0 → ok_gasolierref05_At a1 → (fun l : (List Int) => l.length * 8 ≤ 140737488351232 ∧ ∀ x ∈ l, inI x) a2 → ∃ fuel, gasolierlaw05_FogClashes fuel a0 a1 a2 = some true) : Rows.FogClashesSaid :=
 OpenClaim.holds_of_wide 7 Try.f7 rfl rfl rfl rfl rfl rfl rfl ⟨rfl, rfl, rfl, rfl, rfl⟩ rfl rfl rfl rfl rfl (by kernel_rfl) Try.func7 (by kernel_rfl)
   (of_decide_eq_true (by kernel_rfl)) (by unfold Func.isWrapper; rw [if_neg (by decide +kernel)]; exact ⟨rfl, rfl⟩)
   (fun os started H enc _ => fogClashes_lifted h os started H enc)
end Go.Sp
