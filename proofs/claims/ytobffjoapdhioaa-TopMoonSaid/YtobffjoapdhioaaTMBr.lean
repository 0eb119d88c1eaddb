/- Printed by opn.py: what the arguments of the laws read as; each law's statement out of its Lean definition. -/
import Derived.Test.YtobffjoapdhioaaFr4
import Derived.Test.YtobffjoapdhioaaCtr2
import Derived.Test.YtobffjoapdhioaaRows
import Derived.JoinedOf
set_option linter.all false
set_option maxRecDepth 100000
set_option linter.unusedVariables false
namespace Go.Sp
open Go Go.Av Go.Proofs Go.Proofs.Ytobffjoapdhioaa
theorem Try_own : ownKnob Try.prog.godebug = none := by kernel_rfl
theorem Try_kids : Kids Try.prog (· < Try.prog.types.size) := kids_rows (by kernel_rfl) (by kernel_rfl)
theorem Try_full : ∀ t e, t < Try.prog.types.size → Try.prog.underlying t = some (.slice e) → 0 < Try.prog.cellsOf e := slices_full_of Try.prog (by kernel_rfl)
def ok_Arr3Int (x : (Arr3 Int)) : Prop := inI x.x0 ∧ inI x.x1 ∧ inI x.x2
abbrev en_Arr3Int (x : (Arr3 Int)) : List AV := [.int .i64 (x.x0), .int .i64 (x.x1), .int .i64 (x.x2)]
theorem o_25 : Opn Try.prog 25 3 en_Arr3Int ok_Arr3Int :=
 Opn.array (n := 3) (s := 1) (sz := 3) Try.underlying25 (by kernel_rfl) (by kernel_rfl) (show OpnF Try.prog [(0, 3), (1, 3), (2, 3)] 0 3 _ _ from .cons (Opn.int Try.underlying3 (by kernel_rfl)) (.cons (Opn.int Try.underlying3 (by kernel_rfl)) (.cons (Opn.int Try.underlying3 (by kernel_rfl)) (.nil)))) (fun x => (⟨x.1, x.2.1, x.2.2.1⟩ : (Arr3 Int))) (fun _ => rfl) (fun _ => rfl) (fun x h => ⟨h.1, h.2.1, h.2.2.1⟩)
def ok_Arr2Int (x : (Arr2 Int)) : Prop := inI x.x0 ∧ inI x.x1
abbrev en_Arr2Int (x : (Arr2 Int)) : List AV := [.int .i64 (x.x0), .int .i64 (x.x1)]
theorem o_23 : Opn Try.prog 23 2 en_Arr2Int ok_Arr2Int :=
 Opn.array (n := 2) (s := 1) (sz := 2) Try.underlying23 (by kernel_rfl) (by kernel_rfl) (show OpnF Try.prog [(0, 3), (1, 3)] 0 2 _ _ from .cons (Opn.int Try.underlying3 (by kernel_rfl)) (.cons (Opn.int Try.underlying3 (by kernel_rfl)) (.nil))) (fun x => (⟨x.1, x.2.1⟩ : (Arr2 Int))) (fun _ => rfl) (fun _ => rfl) (fun x h => ⟨h.1, h.2.1⟩)
def ok_gasoliertop_Heaven (x : gasoliertop_Heaven) : Prop := (fun l : (List (Arr3 Int)) => l.length * 24 ≤ 140737488351232 ∧ ∀ x ∈ l, ok_Arr3Int x) x.Rows ∧ ok_Arr2Int x.Off ∧ (fun l : (List (Arr3 Int)) => l.length * 24 ≤ 140737488351232 ∧ ∀ x ∈ l, ok_Arr3Int x) x.Roofs ∧ (fun l : (List Int) => l.length * 8 ≤ 140737488351232 ∧ ∀ x ∈ l, inI x) x.Looks ∧ ok_Arr3Int x.Light ∧ inI x.Moon
abbrev en_gasoliertop_Heaven (x : gasoliertop_Heaven) : List AV := [roL 3 enc_Arr3Int x.Rows, .int .i64 (x.Off.x0), .int .i64 (x.Off.x1), roL 3 enc_Arr3Int x.Roofs, roL 1 enc_Int x.Looks, .int .i64 (x.Light.x0), .int .i64 (x.Light.x1), .int .i64 (x.Light.x2), .int .i64 (x.Moon)]
theorem o_27 : Opn Try.prog 27 9 en_gasoliertop_Heaven ok_gasoliertop_Heaven :=
 Opn.struct Try.underlying27 (by kernel_rfl) (show OpnF Try.prog [(0, 22), (1, 23), (3, 22), (4, 24), (5, 25), (8, 3)] 0 9 _ _ from .cons (Opn.slice (k := 24) Try.underlying22 (by kernel_rfl) (show Opn Try.prog 25 3 en_Arr3Int ok_Arr3Int from o_25) (by decide) (by decide +kernel)) (.cons o_23 (.cons (Opn.slice (k := 24) Try.underlying22 (by kernel_rfl) (show Opn Try.prog 25 3 en_Arr3Int ok_Arr3Int from o_25) (by decide) (by decide +kernel)) (.cons (Opn.slice (k := 8) Try.underlying24 (by kernel_rfl) (show Opn Try.prog 3 1 enc_Int inI from (Opn.int Try.underlying3 (by kernel_rfl))) (by decide) (by decide +kernel)) (.cons o_25 (.cons (Opn.int Try.underlying3 (by kernel_rfl)) (.nil))))))) (fun x => (⟨x.1, x.2.1, x.2.2.1, x.2.2.2.1, x.2.2.2.2.1, x.2.2.2.2.2.1⟩ : gasoliertop_Heaven)) (fun _ => rfl) (fun _ => rfl) (fun x h => ⟨h.1, h.2.1, h.2.2.1, h.2.2.2.1, h.2.2.2.2.1, h.2.2.2.2.2.1⟩)
theorem args_3 : OpnA Try.prog [27] (fun x : gasoliertop_Heaven × Unit => [.agg (en_gasoliertop_Heaven x.1)]) (fun x => ok_gasoliertop_Heaven x.1 ∧ True) :=
 .cons (.struct Try.underlying27 o_27) (.nil)
theorem topMoon_lifted (h : ∀ (a0 : gasoliertop_Heaven), ok_gasoliertop_Heaven a0 → ∃ fuel, gasoliertop_TopMoon fuel a0 = some true) (os : Os) (started : os.Started) (H : Type) (enc : TypeId × Value → H) :
   ReturnsInHanded {} Try.checked os 3 .any (Rows.topMoonSpec.pre6 enc Try.prog Try.f3 Rows.topMoonRow.domain Rows.topMoonRow.apart) (Rows.topMoonSpec.post enc Try.prog Try.f3 Rows.topMoonRow.apart Rows.topMoonRow.fresh Rows.topMoonRow.handsOn Rows.topMoonRow.again) := by
 refine returnsInHanded_of_change_sized (C := Try.checked) Try_own started (by kernel_rfl) Try.func3
   (ChangeSpec.witness6 (enc := enc) (C := Try.checked) false ⟨#[], #[.agg #[.slice none 0 0, .int .i64 0, .int .i64 0, .slice none 0 0, .slice none 0 0, .int .i64 0, .int .i64 0, .int .i64 0, .int .i64 0]], []⟩ 12 (by kernel_rfl) (by kernel_rfl) (by kernel_rfl) (by kernel_rfl)) ?_
 intro W base args ds gs before hval hW _ hbig _
 have hp : Try.f3.params.toList = [27] := by rw [Try.params3]
 refine law_calls (P := Try.prog) (fn := Try.f3) Try_kids Try_full (by rw [hp]; kernel_rfl) (hp ▸ args_3) rfl ?_ (by kernel_rfl) Try.underlying4 ?_ H enc W base args ds gs before hval hW hbig
 · intro H ds hl
   rw [hp] at hl
   match ds, hl with
   | [_], _ => rfl
 · rintro ⟨a0, _⟩ ⟨h0, _⟩
   obtain ⟨fuel, hf⟩ := h a0 h0
   exact c_gasoliertop_TopMoon fuel a0 hf
theorem topMoon_of (h : ∀ (a0 : gasoliertop_Heaven), ok_gasoliertop_Heaven a0 → ∃ fuel, gasoliertop_TopMoon fuel a0 = some true) : Rows.TopMoonSaid :=
 OpenClaim.holds_of_wide 3 Try.f3 rfl rfl rfl rfl rfl rfl rfl ⟨rfl, rfl, rfl, rfl, rfl⟩ rfl rfl rfl rfl rfl (by kernel_rfl) Try.func3 (by kernel_rfl)
   (of_decide_eq_true (by kernel_rfl)) (by unfold Func.isWrapper; rw [if_neg (by decide +kernel)]; exact ⟨rfl, rfl⟩)
   (fun os started H enc _ => topMoon_lifted h os started H enc)
end Go.Sp
