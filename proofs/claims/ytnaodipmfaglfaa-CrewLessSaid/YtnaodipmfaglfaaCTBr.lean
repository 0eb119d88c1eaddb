/- Printed by opn.py: what the arguments of the laws read as; each law's statement out of its Lean definition. -/
import Derived.Test.YtnaodipmfaglfaaFr4
import Derived.Test.YtnaodipmfaglfaaCtr2
import Derived.Test.YtnaodipmfaglfaaRows
import Derived.JoinedOf
set_option linter.all false
set_option maxRecDepth 100000
set_option linter.unusedVariables false
namespace Go.Sp
open Go Go.Av Go.Proofs Go.Proofs.Ytnaodipmfaglfaa
theorem Try_own : ownKnob Try.prog.godebug = none := by kernel_rfl
theorem Try_kids : Kids Try.prog (· < Try.prog.types.size) := kids_rows (by kernel_rfl) (by kernel_rfl)
theorem Try_full : ∀ t e, t < Try.prog.types.size → Try.prog.underlying t = some (.slice e) → 0 < Try.prog.cellsOf e := slices_full_of Try.prog (by kernel_rfl)
def ok_Task (x : Task) : Prop := inI x.Lamp ∧ inI x.Place ∧ inI x.At ∧ inI x.Serve
abbrev en_Task (x : Task) : List AV := [.int .i64 (x.Lamp), .int .i64 (x.Place), .int .i64 (x.At), .int .i64 (x.Serve)]
theorem o_67 : Opn Try.prog 67 4 en_Task ok_Task :=
 Opn.struct Try.underlying67 (by kernel_rfl) (show OpnF Try.prog [(0, 3), (1, 3), (2, 3), (3, 3)] 0 4 _ _ from .cons (Opn.int Try.underlying3 (by kernel_rfl)) (.cons (Opn.int Try.underlying3 (by kernel_rfl)) (.cons (Opn.int Try.underlying3 (by kernel_rfl)) (.cons (Opn.int Try.underlying3 (by kernel_rfl)) (.nil))))) (fun x => (⟨x.1, x.2.1, x.2.2.1, x.2.2.2.1⟩ : Task)) (fun _ => rfl) (fun _ => rfl) (fun x h => ⟨h.1, h.2.1, h.2.2.1, h.2.2.2.1⟩)
def ok_Range (x : Range) : Prop := inI x.Lo ∧ inI x.Hi
abbrev en_Range (x : Range) : List AV := [.int .i64 (x.Lo), .int .i64 (x.Hi)]
theorem o_49 : Opn Try.prog 49 2 en_Range ok_Range :=
 Opn.struct Try.underlying49 (by kernel_rfl) (show OpnF Try.prog [(0, 3), (1, 3)] 0 2 _ _ from .cons (Opn.int Try.underlying3 (by kernel_rfl)) (.cons (Opn.int Try.underlying3 (by kernel_rfl)) (.nil))) (fun x => (⟨x.1, x.2.1⟩ : Range)) (fun _ => rfl) (fun _ => rfl) (fun x h => ⟨h.1, h.2.1⟩)
def ok_Hand (x : Hand) : Prop := inI x.Id ∧ inI x.From ∧ inI x.To
abbrev en_Hand (x : Hand) : List AV := [.int .i64 (x.Id), .int .i64 (x.From), .int .i64 (x.To)]
theorem o_59 : Opn Try.prog 59 3 en_Hand ok_Hand :=
 Opn.struct Try.underlying59 (by kernel_rfl) (show OpnF Try.prog [(0, 3), (1, 3), (2, 3)] 0 3 _ _ from .cons (Opn.int Try.underlying3 (by kernel_rfl)) (.cons (Opn.int Try.underlying3 (by kernel_rfl)) (.cons (Opn.int Try.underlying3 (by kernel_rfl)) (.nil)))) (fun x => (⟨x.1, x.2.1, x.2.2.1⟩ : Hand)) (fun _ => rfl) (fun _ => rfl) (fun x h => ⟨h.1, h.2.1, h.2.2.1⟩)
def ok_Crew (x : Crew) : Prop := (fun l : (List Task) => l.length * 32 ≤ 140737488351232 ∧ ∀ x ∈ l, ok_Task x) x.Tasks ∧ (fun l : (List (List Range)) => l.length * 24 ≤ 140737488351232 ∧ ∀ x ∈ l, (fun l : (List Range) => l.length * 16 ≤ 140737488351232 ∧ ∀ x ∈ l, ok_Range x) x) x.Travel ∧ (fun l : (List Hand) => l.length * 24 ≤ 140737488351232 ∧ ∀ x ∈ l, ok_Hand x) x.Hands
abbrev en_Crew (x : Crew) : List AV := [roL 4 enc_Task x.Tasks, roL 1 enc_ListRange x.Travel, roL 3 enc_Hand x.Hands]
theorem o_26 : Opn Try.prog 26 3 en_Crew ok_Crew :=
 Opn.struct Try.underlying26 (by kernel_rfl) (show OpnF Try.prog [(0, 22), (1, 23), (2, 24)] 0 3 _ _ from .cons (Opn.slice (k := 32) Try.underlying22 (by kernel_rfl) (show Opn Try.prog 67 4 en_Task ok_Task from o_67) (by decide) (by decide +kernel)) (.cons (Opn.slice (k := 24) Try.underlying23 (by kernel_rfl) (show Opn Try.prog 71 1 enc_ListRange (fun l : (List Range) => l.length * 16 ≤ 140737488351232 ∧ ∀ x ∈ l, ok_Range x) from (Opn.slice (k := 16) Try.underlying71 (by kernel_rfl) (show Opn Try.prog 49 2 en_Range ok_Range from o_49) (by decide) (by decide +kernel))) (by decide) (by decide +kernel)) (.cons (Opn.slice (k := 24) Try.underlying24 (by kernel_rfl) (show Opn Try.prog 59 3 en_Hand ok_Hand from o_59) (by decide) (by decide +kernel)) (.nil)))) (fun x => (⟨x.1, x.2.1, x.2.2.1⟩ : Crew)) (fun _ => rfl) (fun _ => rfl) (fun x h => ⟨h.1, h.2.1, h.2.2.1⟩)
def ok_Arr3Int (x : (Arr3 Int)) : Prop := inI x.x0 ∧ inI x.x1 ∧ inI x.x2
abbrev en_Arr3Int (x : (Arr3 Int)) : List AV := [.int .i64 (x.x0), .int .i64 (x.x1), .int .i64 (x.x2)]
theorem o_64 : Opn Try.prog 64 3 en_Arr3Int ok_Arr3Int :=
 Opn.array (n := 3) (s := 1) (sz := 3) Try.underlying64 (by kernel_rfl) (by kernel_rfl) (show OpnF Try.prog [(0, 3), (1, 3), (2, 3)] 0 3 _ _ from .cons (Opn.int Try.underlying3 (by kernel_rfl)) (.cons (Opn.int Try.underlying3 (by kernel_rfl)) (.cons (Opn.int Try.underlying3 (by kernel_rfl)) (.nil)))) (fun x => (⟨x.1, x.2.1, x.2.2.1⟩ : (Arr3 Int))) (fun _ => rfl) (fun _ => rfl) (fun x h => ⟨h.1, h.2.1, h.2.2.1⟩)
theorem args_8 : OpnA Try.prog [26, 64] (fun x : Crew × (Arr3 Int) × Unit => [.agg (en_Crew x.1), .agg (en_Arr3Int x.2.1)]) (fun x => ok_Crew x.1 ∧ ok_Arr3Int x.2.1 ∧ True) :=
 .cons (.struct Try.underlying26 o_26) (.cons (.array Try.underlying64 o_64) (.nil))
theorem crewLess_lifted (h : ∀ (a0 : Crew) (a1 : (Arr3 Int)), ok_Crew a0 → ok_Arr3Int a1 → ∃ fuel, gasolierlaw04_CrewLess fuel a0 a1 = some true) (os : Os) (started : os.Started) (H : Type) (enc : TypeId × Value → H) :
   ReturnsInHanded {} Try.checked os 8 .any (Rows.crewLessSpec.pre6 enc Try.prog Try.f8 Rows.crewLessRow.domain Rows.crewLessRow.apart) (Rows.crewLessSpec.post enc Try.prog Try.f8 Rows.crewLessRow.apart Rows.crewLessRow.fresh Rows.crewLessRow.handsOn Rows.crewLessRow.again) := by
 refine returnsInHanded_of_change_sized (C := Try.checked) Try_own started (by kernel_rfl) Try.func8
   (ChangeSpec.witness6 (enc := enc) (C := Try.checked) false ⟨#[], #[.agg #[.slice none 0 0, .slice none 0 0, .slice none 0 0], .agg #[.int .i64 0, .int .i64 0, .int .i64 0]], []⟩ 12 (by kernel_rfl) (by kernel_rfl) (by kernel_rfl) (by kernel_rfl)) ?_
 intro W base args ds gs before hval hW _ hbig _
 have hp : Try.f8.params.toList = [26, 64] := by rw [Try.params8]
 refine law_calls (P := Try.prog) (fn := Try.f8) Try_kids Try_full (by rw [hp]; kernel_rfl) (hp ▸ args_8) rfl ?_ (by kernel_rfl) Try.underlying4 ?_ H enc W base args ds gs before hval hW hbig
 · intro H ds hl
   rw [hp] at hl
   match ds, hl with
   | [_, _], _ => rfl
 · rintro ⟨a0, a1, _⟩ ⟨h0, h1, _⟩
   obtain ⟨fuel, hf⟩ := h a0 a1 h0 h1
   exact c_gasolierlaw04_CrewLess fuel a0 a1 hf
theorem crewLess_of (h : ∀ (a0 : Crew) (a1 : (Arr3 Int)), ok_Crew a0 → ok_Arr3Int a1 → ∃ fuel, gasolierlaw04_CrewLess fuel a0 a1 = some true) : Rows.CrewLessSaid :=
 OpenClaim.holds_of_wide 8 Try.f8 rfl rfl rfl rfl rfl rfl rfl ⟨rfl, rfl, rfl, rfl, rfl⟩ rfl rfl rfl rfl rfl (by kernel_rfl) Try.func8 (by kernel_rfl)
   (of_decide_eq_true (by kernel_rfl)) (by unfold Func.isWrapper; rw [if_neg (by decide +kernel)]; exact ⟨rfl, rfl⟩)
   (fun os started H enc _ => crewLess_lifted h os started H enc)
end Go.Sp
