/- Printed by opn.py: what the arguments of the laws read as; each law's statement out of its Lean definition. -/
import Derived.Test.YtoekhnngdocddaaGreatFr4
import Derived.Test.YtoekhnngdocddaaGreatCtr2
import Derived.Test.YtoekhnngdocddaaGreatRows
import Derived.JoinedOf
set_option linter.all false
set_option maxRecDepth 100000
set_option linter.unusedVariables false
namespace Go.Sp
open Go Go.Av Go.Proofs Go.Proofs.YtoekhnngdocddaaGreat
theorem Tryz_own : ownKnob Tryz.prog.godebug = none := by kernel_rfl
theorem Tryz_kids : Kids Tryz.prog (· < Tryz.prog.types.size) := kids_rows (by kernel_rfl) (by kernel_rfl)
theorem Tryz_full : ∀ t e, t < Tryz.prog.types.size → Tryz.prog.underlying t = some (.slice e) → 0 < Tryz.prog.cellsOf e := slices_full_of Tryz.prog (by kernel_rfl)
def ok_Range (x : Range) : Prop := inI x.Lo ∧ inI x.Hi
abbrev en_Range (x : Range) : List AV := [.int .i64 (x.Lo), .int .i64 (x.Hi)]
theorem o_45 : Opn Tryz.prog 45 2 en_Range ok_Range :=
 Opn.struct Tryz.underlying45 (by kernel_rfl) (show OpnF Tryz.prog [(0, 3), (1, 3)] 0 2 _ _ from .cons (Opn.int Tryz.underlying3 (by kernel_rfl)) (.cons (Opn.int Tryz.underlying3 (by kernel_rfl)) (.nil))) (fun x => (⟨x.1, x.2.1⟩ : Range)) (fun _ => rfl) (fun _ => rfl) (fun x h => ⟨h.1, h.2.1⟩)
def ok_Report (x : Report) : Prop := inI x.Source ∧ inI x.District ∧ inI x.Night ∧ inI x.From ∧ inI x.To ∧ ok_Range x.Sight ∧ inI x.Known ∧ inI x.Until
abbrev en_Report (x : Report) : List AV := [.int .i64 (x.Source), .int .i64 (x.District), .int .i64 (x.Night), .int .i64 (x.From), .int .i64 (x.To), .int .i64 (x.Sight.Lo), .int .i64 (x.Sight.Hi), .int .i64 (x.Known), .int .i64 (x.Until)]
theorem o_90 : Opn Tryz.prog 90 9 en_Report ok_Report :=
 Opn.struct Tryz.underlying90 (by kernel_rfl) (show OpnF Tryz.prog [(0, 3), (1, 3), (2, 3), (3, 3), (4, 3), (5, 45), (7, 3), (8, 3)] 0 9 _ _ from .cons (Opn.int Tryz.underlying3 (by kernel_rfl)) (.cons (Opn.int Tryz.underlying3 (by kernel_rfl)) (.cons (Opn.int Tryz.underlying3 (by kernel_rfl)) (.cons (Opn.int Tryz.underlying3 (by kernel_rfl)) (.cons (Opn.int Tryz.underlying3 (by kernel_rfl)) (.cons o_45 (.cons (Opn.int Tryz.underlying3 (by kernel_rfl)) (.cons (Opn.int Tryz.underlying3 (by kernel_rfl)) (.nil))))))))) (fun x => (⟨x.1, x.2.1, x.2.2.1, x.2.2.2.1, x.2.2.2.2.1, x.2.2.2.2.2.1, x.2.2.2.2.2.2.1, x.2.2.2.2.2.2.2.1⟩ : Report)) (fun _ => rfl) (fun _ => rfl) (fun x h => ⟨h.1, h.2.1, h.2.2.1, h.2.2.2.1, h.2.2.2.2.1, h.2.2.2.2.2.1, h.2.2.2.2.2.2.1, h.2.2.2.2.2.2.2.1⟩)
theorem args_9 : OpnA Tryz.prog [26, 90, 3] (fun x : (List Report) × Report × Int × Unit => [roL 9 enc_Report x.1, .agg (en_Report x.2.1), .int .i64 x.2.2.1]) (fun x => (fun l : (List Report) => l.length * 72 ≤ 140737488351232 ∧ ∀ x ∈ l, ok_Report x) x.1 ∧ ok_Report x.2.1 ∧ inI x.2.2.1 ∧ True) :=
 .cons (.slice (k := 72) Tryz.underlying26 (by kernel_rfl) (show Opn Tryz.prog 90 9 enc_Report ok_Report from o_90) (by decide) (by decide +kernel)) (.cons (.struct Tryz.underlying90 o_90) (.cons (.int Tryz.underlying3) (.nil)))
theorem fogReports_lifted (h : ∀ (a0 : (List Report)) (a1 : Report) (a2 : Int), (fun l : (List Report) => l.length * 72 ≤ 140737488351232 ∧ ∀ x ∈ l, ok_Report x) a0 → ok_Report a1 → inI a2 → ∃ fuel, gasolierlaw05_FogReports fuel a0 a1 a2 = some true) (os : Os) (started : os.Started) (H : Type) (enc : TypeId × Value → H) :
   ReturnsInHanded {} Tryz.checked os 9 .any (Rows.fogReportsSpec.pre6 enc Tryz.prog Tryz.f9 Rows.fogReportsRow.domain Rows.fogReportsRow.apart) (Rows.fogReportsSpec.post enc Tryz.prog Tryz.f9 Rows.fogReportsRow.apart Rows.fogReportsRow.fresh Rows.fogReportsRow.handsOn Rows.fogReportsRow.again) := by
 refine returnsInHanded_of_change_sized (C := Tryz.checked) Tryz_own started (by kernel_rfl) Tryz.func9
   (ChangeSpec.witness6 (enc := enc) (C := Tryz.checked) false ⟨#[], #[.slice none 0 0, .agg #[.int .i64 0, .int .i64 0, .int .i64 0, .int .i64 0, .int .i64 0, .int .i64 0, .int .i64 0, .int .i64 0, .int .i64 0], .int .i64 0], []⟩ 12 (by kernel_rfl) (by kernel_rfl) (by kernel_rfl) (by kernel_rfl)) ?_
 intro W base args ds gs before hval hW _ hbig _
 have hp : Tryz.f9.params.toList = [26, 90, 3] := by rw [Tryz.params9]
 refine law_calls (P := Tryz.prog) (fn := Tryz.f9) Tryz_kids Tryz_full (by rw [hp]; kernel_rfl) (hp ▸ args_9) rfl ?_ (by kernel_rfl) Tryz.underlying4 ?_ H enc W base args ds gs before hval hW hbig
 · intro H ds hl
   rw [hp] at hl
   match ds, hl with
   | [_, _, _], _ => rfl
 · rintro ⟨a0, a1, a2, _⟩ ⟨h0, h1, h2, _⟩
   obtain ⟨fuel, hf⟩ := h a0 a1 a2 h0 h1 h2
   exact c_gasolierlaw05_FogReports fuel a0 a1 a2 hf
theorem fogReports_of (h : ∀ (a0 : (List Report)) (a1 : Report) (a2 : Int), (fun l : (List Report) => l.length * 72 ≤ 140737488351232 ∧ ∀ x ∈ l, ok_Report x) a0 → ok_Report a1 → inI a2 → ∃ fuel, gasolierlaw05_FogReports fuel a0 a1 a2 = some true) : Rows.FogReportsSaid :=
 OpenClaim.holds_of_wide 9 Tryz.f9 rfl rfl rfl rfl rfl rfl rfl ⟨rfl, rfl, rfl, rfl, rfl⟩ rfl rfl rfl rfl rfl (by kernel_rfl) Tryz.func9 (by kernel_rfl)
   (of_decide_eq_true (by kernel_rfl)) (by unfold Func.isWrapper; rw [if_neg (by decide +kernel)]; exact ⟨rfl, rfl⟩)
   (fun os started H enc _ => fogReports_lifted h os started H enc)
end Go.Sp
