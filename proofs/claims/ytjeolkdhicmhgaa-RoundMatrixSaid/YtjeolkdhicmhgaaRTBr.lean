/- Printed by opn.py: what the arguments of the laws read as; each law's statement out of its Lean definition. -/
import Derived.Test.YtjeolkdhicmhgaaAvBr
import Derived.Test.YtjeolkdhicmhgaaCtr2
import Derived.Test.YtjeolkdhicmhgaaRows
import Derived.JoinedOf
set_option linter.all false
set_option maxRecDepth 100000
set_option linter.unusedVariables false
namespace Go.Sp
open Go Go.Av Go.Proofs Go.Proofs.Ytjeolkdhicmhgaa

theorem Try_own : ownKnob Try.prog.godebug = none := by kernel_rfl
theorem Try_kids : Kids Try.prog (· < Try.prog.types.size) := kids_rows (by kernel_rfl) (by kernel_rfl)
theorem Try_full : ∀ t e, t < Try.prog.types.size → Try.prog.underlying t = some (.slice e) → 0 < Try.prog.cellsOf e := slices_full_of Try.prog (by kernel_rfl)
def ok_Arr7Int (x : (Arr7 Int)) : Prop := inI x.x0 ∧ inI x.x1 ∧ inI x.x2 ∧ inI x.x3 ∧ inI x.x4 ∧ inI x.x5 ∧ inI x.x6
abbrev en_Arr7Int (x : (Arr7 Int)) : List AV := [.int .i64 (x.x0), .int .i64 (x.x1), .int .i64 (x.x2), .int .i64 (x.x3), .int .i64 (x.x4), .int .i64 (x.x5), .int .i64 (x.x6)]
theorem o_103 : Opn Try.prog 103 7 en_Arr7Int ok_Arr7Int :=
  Opn.array (n := 7) (s := 1) (sz := 7) Try.underlying103 (by kernel_rfl) (by kernel_rfl) (show OpnF Try.prog [(0, 3), (1, 3), (2, 3), (3, 3), (4, 3), (5, 3), (6, 3)] 0 7 _ _ from .cons (Opn.int Try.underlying3 (by kernel_rfl)) (.cons (Opn.int Try.underlying3 (by kernel_rfl)) (.cons (Opn.int Try.underlying3 (by kernel_rfl)) (.cons (Opn.int Try.underlying3 (by kernel_rfl)) (.cons (Opn.int Try.underlying3 (by kernel_rfl)) (.cons (Opn.int Try.underlying3 (by kernel_rfl)) (.cons (Opn.int Try.underlying3 (by kernel_rfl)) (.nil)))))))) (fun x => (⟨x.1, x.2.1, x.2.2.1, x.2.2.2.1, x.2.2.2.2.1, x.2.2.2.2.2.1, x.2.2.2.2.2.2.1⟩ : (Arr7 Int))) (fun _ => rfl) (fun _ => rfl) (fun x h => ⟨h.1, h.2.1, h.2.2.1, h.2.2.2.1, h.2.2.2.2.1, h.2.2.2.2.2.1, h.2.2.2.2.2.2.1⟩)
def ok_Arr2Int (x : (Arr2 Int)) : Prop := inI x.x0 ∧ inI x.x1
abbrev en_Arr2Int (x : (Arr2 Int)) : List AV := [.int .i64 (x.x0), .int .i64 (x.x1)]
theorem o_34 : Opn Try.prog 34 2 en_Arr2Int ok_Arr2Int :=
  Opn.array (n := 2) (s := 1) (sz := 2) Try.underlying34 (by kernel_rfl) (by kernel_rfl) (show OpnF Try.prog [(0, 3), (1, 3)] 0 2 _ _ from .cons (Opn.int Try.underlying3 (by kernel_rfl)) (.cons (Opn.int Try.underlying3 (by kernel_rfl)) (.nil))) (fun x => (⟨x.1, x.2.1⟩ : (Arr2 Int))) (fun _ => rfl) (fun _ => rfl) (fun x h => ⟨h.1, h.2.1⟩)
def ok_Arr4Int (x : (Arr4 Int)) : Prop := inI x.x0 ∧ inI x.x1 ∧ inI x.x2 ∧ inI x.x3
abbrev en_Arr4Int (x : (Arr4 Int)) : List AV := [.int .i64 (x.x0), .int .i64 (x.x1), .int .i64 (x.x2), .int .i64 (x.x3)]
theorem o_104 : Opn Try.prog 104 4 en_Arr4Int ok_Arr4Int :=
  Opn.array (n := 4) (s := 1) (sz := 4) Try.underlying104 (by kernel_rfl) (by kernel_rfl) (show OpnF Try.prog [(0, 3), (1, 3), (2, 3), (3, 3)] 0 4 _ _ from .cons (Opn.int Try.underlying3 (by kernel_rfl)) (.cons (Opn.int Try.underlying3 (by kernel_rfl)) (.cons (Opn.int Try.underlying3 (by kernel_rfl)) (.cons (Opn.int Try.underlying3 (by kernel_rfl)) (.nil))))) (fun x => (⟨x.1, x.2.1, x.2.2.1, x.2.2.2.1⟩ : (Arr4 Int))) (fun _ => rfl) (fun _ => rfl) (fun x h => ⟨h.1, h.2.1, h.2.2.1, h.2.2.2.1⟩)
def ok_gasolierref03_Raw (x : gasolierref03_Raw) : Prop := inI x.Places ∧ (fun l : (List (Arr7 Int)) => l.length ≤ maxLen ∧ ∀ x ∈ l, ok_Arr7Int x) x.Ways ∧ ok_Arr2Int x.Round ∧ (fun l : (List (Arr4 Int)) => l.length ≤ maxLen ∧ ∀ x ∈ l, ok_Arr4Int x) x.Stops
abbrev en_gasolierref03_Raw (x : gasolierref03_Raw) : List AV := [.int .i64 (x.Places), roL 7 enc_Arr7Int x.Ways, .int .i64 (x.Round.x0), .int .i64 (x.Round.x1), roL 4 enc_Arr4Int x.Stops]
theorem o_37 : Opn Try.prog 37 5 en_gasolierref03_Raw ok_gasolierref03_Raw :=
  Opn.struct Try.underlying37 (by kernel_rfl) (show OpnF Try.prog [(0, 3), (1, 33), (2, 34), (4, 35)] 0 5 _ _ from .cons (Opn.int Try.underlying3 (by kernel_rfl)) (.cons (Opn.slice Try.underlying33 (by kernel_rfl) (show Opn Try.prog 103 7 en_Arr7Int ok_Arr7Int from o_103) (by decide)) (.cons o_34 (.cons (Opn.slice Try.underlying35 (by kernel_rfl) (show Opn Try.prog 104 4 en_Arr4Int ok_Arr4Int from o_104) (by decide)) (.nil))))) (fun x => (⟨x.1, x.2.1, x.2.2.1, x.2.2.2.1⟩ : gasolierref03_Raw)) (fun _ => rfl) (fun _ => rfl) (fun x h => ⟨h.1, h.2.1, h.2.2.1, h.2.2.2.1⟩)

theorem args_6 : OpnA Try.prog [37, 3] (fun x : gasolierref03_Raw × Int × Unit => [.agg (en_gasolierref03_Raw x.1), .int .i64 x.2.1]) (fun x => ok_gasolierref03_Raw x.1 ∧ inI x.2.1 ∧ True) :=
  .cons (.struct Try.underlying37 o_37) (.cons (.int Try.underlying3) (.nil))

theorem roundMatrix_lifted (h : ∀ (a0 : gasolierref03_Raw) (a1 : Int), ok_gasolierref03_Raw a0 → inI a1 → ∃ fuel, gasolierlaw03_RoundMatrix fuel a0 a1 = some true) (os : Os) (started : os.Started) (H : Type) (enc : TypeId × Value → H) :
    ReturnsInHanded {} Try.checked os 6 .any (Rows.roundMatrixSpec.pre6 enc Try.prog Try.f6 Rows.roundMatrixRow.domain Rows.roundMatrixRow.apart) (Rows.roundMatrixSpec.post enc Try.prog Try.f6 Rows.roundMatrixRow.apart Rows.roundMatrixRow.fresh Rows.roundMatrixRow.handsOn Rows.roundMatrixRow.again) := by
  refine returnsInHanded_of_change (C := Try.checked) Try_own started (by kernel_rfl) Try.func6
    (ChangeSpec.witness6 (enc := enc) (C := Try.checked) false ⟨#[], #[.agg #[.int .i64 0, .slice none 0 0, .int .i64 0, .int .i64 0, .slice none 0 0], .int .i64 0], []⟩ 12 (by kernel_rfl) (by kernel_rfl) (by kernel_rfl) (by kernel_rfl)) ?_
  intro W base args ds gs before hval hW _ _
  have hp : Try.f6.params.toList = [37, 3] := by rw [Try.params6]
  refine law_calls (P := Try.prog) (fn := Try.f6) Try_kids Try_full (by rw [hp]; kernel_rfl) (hp ▸ args_6) rfl ?_ (by kernel_rfl) Try.underlying4 ?_ H enc W base args ds gs before hval hW
  · intro H ds hl
    rw [hp] at hl
    match ds, hl with
    | [_, _], _ => rfl
  · rintro ⟨a0, a1, _⟩ ⟨h0, h1, _⟩
    obtain ⟨fuel, hf⟩ := h a0 a1 h0 h1
    exact c_gasolierlaw03_RoundMatrix fuel a0 a1 hf

theorem roundMatrix_of (h : ∀ (a0 : gasolierref03_Raw) (a1 : Int), ok_gasolierref03_Raw a0 → inI a1 → ∃ fuel, gasolierlaw03_RoundMatrix fuel a0 a1 = some true) : Rows.RoundMatrixSaid :=
  OpenClaim.holds_of_wide 6 Try.f6 rfl rfl rfl rfl rfl rfl rfl ⟨rfl, rfl, rfl, rfl, rfl⟩ rfl rfl rfl rfl rfl (by kernel_rfl) Try.func6 (by kernel_rfl)
    (of_decide_eq_true (by kernel_rfl)) (by unfold Func.isWrapper; rw [if_neg (by decide +kernel)]; exact ⟨rfl, rfl⟩)
    (fun os started H enc _ => roundMatrix_lifted h os started H enc)

end Go.Sp
