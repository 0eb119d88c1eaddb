/- Printed by opn.py: what the arguments of the laws read as; each law's statement out of its Lean definition. -/
import Derived.Test.YtjndodbdfmfjhaaFr3
import Derived.Test.YtjndodbdfmfjhaaCtr1
import Derived.Test.YtjndodbdfmfjhaaRows
import Derived.JoinedOf
set_option linter.all false
set_option maxRecDepth 100000
set_option linter.unusedVariables false
namespace Go.Sp
open Go Go.Av Go.Proofs Go.Proofs.Ytjndodbdfmfjhaa
theorem Try_own : ownKnob Try.prog.godebug = none := by kernel_rfl
theorem Try_kids : Kids Try.prog (· < Try.prog.types.size) := kids_rows (by kernel_rfl) (by kernel_rfl)
theorem Try_full : ∀ t e, t < Try.prog.types.size → Try.prog.underlying t = some (.slice e) → 0 < Try.prog.cellsOf e := slices_full_of Try.prog (by kernel_rfl)
def ok_Arr4Int (x : (Arr4 Int)) : Prop := inI x.x0 ∧ inI x.x1 ∧ inI x.x2 ∧ inI x.x3
abbrev en_Arr4Int (x : (Arr4 Int)) : List AV := [.int .i64 (x.x0), .int .i64 (x.x1), .int .i64 (x.x2), .int .i64 (x.x3)]
theorem o_66 : Opn Try.prog 66 4 en_Arr4Int ok_Arr4Int :=
 Opn.array (n := 4) (s := 1) (sz := 4) Try.underlying66 (by kernel_rfl) (by kernel_rfl) (show OpnF Try.prog [(0, 3), (1, 3), (2, 3), (3, 3)] 0 4 _ _ from .cons (Opn.int Try.underlying3 (by kernel_rfl)) (.cons (Opn.int Try.underlying3 (by kernel_rfl)) (.cons (Opn.int Try.underlying3 (by kernel_rfl)) (.cons (Opn.int Try.underlying3 (by kernel_rfl)) (.nil))))) (fun x => (⟨x.1, x.2.1, x.2.2.1, x.2.2.2.1⟩ : (Arr4 Int))) (fun _ => rfl) (fun _ => rfl) (fun x h => ⟨h.1, h.2.1, h.2.2.1, h.2.2.2.1⟩)
def ok_Arr3Int (x : (Arr3 Int)) : Prop := inI x.x0 ∧ inI x.x1 ∧ inI x.x2
abbrev en_Arr3Int (x : (Arr3 Int)) : List AV := [.int .i64 (x.x0), .int .i64 (x.x1), .int .i64 (x.x2)]
theorem o_24 : Opn Try.prog 24 3 en_Arr3Int ok_Arr3Int :=
 Opn.array (n := 3) (s := 1) (sz := 3) Try.underlying24 (by kernel_rfl) (by kernel_rfl) (show OpnF Try.prog [(0, 3), (1, 3), (2, 3)] 0 3 _ _ from .cons (Opn.int Try.underlying3 (by kernel_rfl)) (.cons (Opn.int Try.underlying3 (by kernel_rfl)) (.cons (Opn.int Try.underlying3 (by kernel_rfl)) (.nil)))) (fun x => (⟨x.1, x.2.1, x.2.2.1⟩ : (Arr3 Int))) (fun _ => rfl) (fun _ => rfl) (fun x h => ⟨h.1, h.2.1, h.2.2.1⟩)
def ok_gasoliertop_Mist (x : gasoliertop_Mist) : Prop := (fun l : (List Int) => l.length ≤ 140737488351232 ∧ ∀ x ∈ l, inI x) x.Sights ∧ (fun l : (List (Arr4 Int)) => l.length ≤ 140737488351232 ∧ ∀ x ∈ l, ok_Arr4Int x) x.Reports ∧ ok_Arr3Int x.Law ∧ inI x.Limit
abbrev en_gasoliertop_Mist (x : gasoliertop_Mist) : List AV := [roL 1 enc_Int x.Sights, roL 4 enc_Arr4Int x.Reports, .int .i64 (x.Law.x0), .int .i64 (x.Law.x1), .int .i64 (x.Law.x2), .int .i64 (x.Limit)]
theorem o_26 : Opn Try.prog 26 6 en_gasoliertop_Mist ok_gasoliertop_Mist :=
 Opn.struct Try.underlying26 (by kernel_rfl) (show OpnF Try.prog [(0, 22), (1, 23), (2, 24), (5, 3)] 0 6 _ _ from .cons (Opn.slice Try.underlying22 (by kernel_rfl) (show Opn Try.prog 3 1 enc_Int inI from (Opn.int Try.underlying3 (by kernel_rfl))) (by decide) (by decide +kernel)) (.cons (Opn.slice Try.underlying23 (by kernel_rfl) (show Opn Try.prog 66 4 en_Arr4Int ok_Arr4Int from o_66) (by decide) (by decide +kernel)) (.cons o_24 (.cons (Opn.int Try.underlying3 (by kernel_rfl)) (.nil))))) (fun x => (⟨x.1, x.2.1, x.2.2.1, x.2.2.2.1⟩ : gasoliertop_Mist)) (fun _ => rfl) (fun _ => rfl) (fun x h => ⟨h.1, h.2.1, h.2.2.1, h.2.2.2.1⟩)
theorem args_3 : OpnA Try.prog [26] (fun x : gasoliertop_Mist × Unit => [.agg (en_gasoliertop_Mist x.1)]) (fun x => ok_gasoliertop_Mist x.1 ∧ True) :=
 .cons (.struct Try.underlying26 o_26) (.nil)
theorem topFog_lifted (h : ∀ (a0 : gasoliertop_Mist), ok_gasoliertop_Mist a0 → ∃ fuel, gasoliertop_TopFog fuel a0 = some true) (os : Os) (started : os.Started) (H : Type) (enc : TypeId × Value → H) :
   ReturnsInHanded {} Try.checked os 3 .any (Rows.topFogSpec.pre6 enc Try.prog Try.f3 Rows.topFogRow.domain Rows.topFogRow.apart) (Rows.topFogSpec.post enc Try.prog Try.f3 Rows.topFogRow.apart Rows.topFogRow.fresh Rows.topFogRow.handsOn Rows.topFogRow.again) := by
 refine returnsInHanded_of_change_sized (C := Try.checked) Try_own started (by kernel_rfl) Try.func3
   (ChangeSpec.witness6 (enc := enc) (C := Try.checked) false ⟨#[], #[.agg #[.slice none 0 0, .slice none 0 0, .int .i64 0, .int .i64 0, .int .i64 0, .int .i64 0]], []⟩ 12 (by kernel_rfl) (by kernel_rfl) (by kernel_rfl) (by kernel_rfl)) ?_
 intro W base args ds gs before hval hW _ hbig _
 have hp : Try.f3.params.toList = [26] := by rw [Try.params3]
 refine law_calls (P := Try.prog) (fn := Try.f3) Try_kids Try_full (by rw [hp]; kernel_rfl) (hp ▸ args_3) rfl ?_ (by kernel_rfl) Try.underlying4 ?_ H enc W base args ds gs before hval hW hbig
 · intro H ds hl
   rw [hp] at hl
   match ds, hl with
   | [_], _ => rfl
 · rintro ⟨a0, _⟩ ⟨h0, _⟩
   obtain ⟨fuel, hf⟩ := h a0 h0
   exact c_gasoliertop_TopFog fuel a0 hf
theorem topFog_of (h : ∀ (a0 : gasoliertop_Mist), ok_gasoliertop_Mist a0 → ∃ fuel, gasoliertop_TopFog fuel a0 = some true) : Rows.TopFogSaid :=
 OpenClaim.holds_of_wide 3 Try.f3 rfl rfl rfl rfl rfl rfl rfl ⟨rfl, rfl, rfl, rfl, rfl⟩ rfl rfl rfl rfl rfl (by kernel_rfl) Try.func3 (by kernel_rfl)
   (of_decide_eq_true (by kernel_rfl)) (by unfold Func.isWrapper; rw [if_neg (by decide +kernel)]; exact ⟨rfl, rfl⟩)
   (fun os started H enc _ => topFog_lifted h os started H enc)
end Go.Sp
