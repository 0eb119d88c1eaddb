/- Printed by opn.py: what the arguments of the laws read as; each law's statement out of its Lean definition. -/
import Derived.Test.YtoekhnngdocddaaFr4
import Derived.Test.YtoekhnngdocddaaCtr2
import Derived.Test.YtoekhnngdocddaaRows
import Derived.JoinedOf
set_option linter.all false
set_option maxRecDepth 100000
set_option linter.unusedVariables false
namespace Go.Sp
open Go Go.Av Go.Proofs Go.Proofs.Ytoekhnngdocddaa
theorem Try_own : ownKnob Try.prog.godebug = none := by kernel_rfl
theorem Try_kids : Kids Try.prog (· < Try.prog.types.size) := kids_rows (by kernel_rfl) (by kernel_rfl)
theorem Try_full : ∀ t e, t < Try.prog.types.size → Try.prog.underlying t = some (.slice e) → 0 < Try.prog.cellsOf e := slices_full_of Try.prog (by kernel_rfl)
def ok_Arr7Int (x : (Arr7 Int)) : Prop := inI x.x0 ∧ inI x.x1 ∧ inI x.x2 ∧ inI x.x3 ∧ inI x.x4 ∧ inI x.x5 ∧ inI x.x6
abbrev en_Arr7Int (x : (Arr7 Int)) : List AV := [.int .i64 (x.x0), .int .i64 (x.x1), .int .i64 (x.x2), .int .i64 (x.x3), .int .i64 (x.x4), .int .i64 (x.x5), .int .i64 (x.x6)]
theorem o_84 : Opn Try.prog 84 7 en_Arr7Int ok_Arr7Int :=
 Opn.array (n := 7) (s := 1) (sz := 7) Try.underlying84 (by kernel_rfl) (by kernel_rfl) (show OpnF Try.prog [(0, 3), (1, 3), (2, 3), (3, 3), (4, 3), (5, 3), (6, 3)] 0 7 _ _ from .cons (Opn.int Try.underlying3 (by kernel_rfl)) (.cons (Opn.int Try.underlying3 (by kernel_rfl)) (.cons (Opn.int Try.underlying3 (by kernel_rfl)) (.cons (Opn.int Try.underlying3 (by kernel_rfl)) (.cons (Opn.int Try.underlying3 (by kernel_rfl)) (.cons (Opn.int Try.underlying3 (by kernel_rfl)) (.cons (Opn.int Try.underlying3 (by kernel_rfl)) (.nil)))))))) (fun x => (⟨x.1, x.2.1, x.2.2.1, x.2.2.2.1, x.2.2.2.2.1, x.2.2.2.2.2.1, x.2.2.2.2.2.2.1⟩ : (Arr7 Int))) (fun _ => rfl) (fun _ => rfl) (fun x h => ⟨h.1, h.2.1, h.2.2.1, h.2.2.2.1, h.2.2.2.2.1, h.2.2.2.2.2.1, h.2.2.2.2.2.2.1⟩)
def ok_Arr4Int (x : (Arr4 Int)) : Prop := inI x.x0 ∧ inI x.x1 ∧ inI x.x2 ∧ inI x.x3
abbrev en_Arr4Int (x : (Arr4 Int)) : List AV := [.int .i64 (x.x0), .int .i64 (x.x1), .int .i64 (x.x2), .int .i64 (x.x3)]
theorem o_76 : Opn Try.prog 76 4 en_Arr4Int ok_Arr4Int :=
 Opn.array (n := 4) (s := 1) (sz := 4) Try.underlying76 (by kernel_rfl) (by kernel_rfl) (show OpnF Try.prog [(0, 3), (1, 3), (2, 3), (3, 3)] 0 4 _ _ from .cons (Opn.int Try.underlying3 (by kernel_rfl)) (.cons (Opn.int Try.underlying3 (by kernel_rfl)) (.cons (Opn.int Try.underlying3 (by kernel_rfl)) (.cons (Opn.int Try.underlying3 (by kernel_rfl)) (.nil))))) (fun x => (⟨x.1, x.2.1, x.2.2.1, x.2.2.2.1⟩ : (Arr4 Int))) (fun _ => rfl) (fun _ => rfl) (fun x h => ⟨h.1, h.2.1, h.2.2.1, h.2.2.2.1⟩)
theorem args_5 : OpnA Try.prog [22, 23, 27] (fun x : (List (Arr7 Int)) × (List (Arr4 Int)) × (List Int) × Unit => [roL 7 enc_Arr7Int x.1, roL 4 enc_Arr4Int x.2.1, roL 1 enc_Int x.2.2.1]) (fun x => (fun l : (List (Arr7 Int)) => l.length * 56 ≤ 140737488351232 ∧ ∀ x ∈ l, ok_Arr7Int x) x.1 ∧ (fun l : (List (Arr4 Int)) => l.length * 32 ≤ 140737488351232 ∧ ∀ x ∈ l, ok_Arr4Int x) x.2.1 ∧ (fun l : (List Int) => l.length * 8 ≤ 140737488351232 ∧ ∀ x ∈ l, inI x) x.2.2.1 ∧ True) :=
 .cons (.slice (k := 56) Try.underlying22 (by kernel_rfl) (show Opn Try.prog 84 7 enc_Arr7Int ok_Arr7Int from o_84) (by decide) (by decide +kernel)) (.cons (.slice (k := 32) Try.underlying23 (by kernel_rfl) (show Opn Try.prog 76 4 enc_Arr4Int ok_Arr4Int from o_76) (by decide) (by decide +kernel)) (.cons (.slice (k := 8) Try.underlying27 (by kernel_rfl) (show Opn Try.prog 3 1 enc_Int inI from (Opn.int Try.underlying3 (by kernel_rfl))) (by decide) (by decide +kernel)) (.nil)))
theorem fogKept_lifted (h : ∀ (a0 : (List (Arr7 Int))) (a1 : (List (Arr4 Int))) (a2 : (List Int)), (fun l : (List (Arr7 Int)) => l.length * 56 ≤ 140737488351232 ∧ ∀ x ∈ l, ok_Arr7Int x) a0 → (fun l : (List (Arr4 Int)) => l.length * 32 ≤ 140737488351232 ∧ ∀ x ∈ l, ok_Arr4Int x) a1 → (fun l : (List Int) => l.length * 8 ≤ 140737488351232 ∧ ∀ x ∈ l, inI x) a2 → ∃ fuel, gasolierlaw05_FogKept fuel a0 a1 a2 = some true) (os : Os) (started : os.Started) (H : Type) (enc : TypeId × Value → H) :
   ReturnsInHanded {} Try.checked os 5 .any (Rows.fogKeptSpec.pre6 enc Try.prog Try.f5 Rows.fogKeptRow.domain Rows.fogKeptRow.apart) (Rows.fogKeptSpec.post enc Try.prog Try.f5 Rows.fogKeptRow.apart Rows.fogKeptRow.fresh Rows.fogKeptRow.handsOn Rows.fogKeptRow.again) := by
 refine returnsInHanded_of_change_sized (C := Try.checked) Try_own started (by kernel_rfl) Try.func5
   (ChangeSpec.witness6 (enc := enc) (C := Try.checked) false ⟨#[], #[.slice none 0 0, .slice none 0 0, .slice none 0 0], []⟩ 12 (by kernel_rfl) (by kernel_rfl) (by kernel_rfl) (by kernel_rfl)) ?_
 intro W base args ds gs before hval hW _ hbig _
 have hp : Try.f5.params.toList = [22, 23, 27] := by rw [Try.params5]
 refine law_calls (P := Try.prog) (fn := Try.f5) Try_kids Try_full (by rw [hp]; kernel_rfl) (hp ▸ args_5) rfl ?_ (by kernel_rfl) Try.underlying4 ?_ H enc W base args ds gs before hval hW hbig
 · intro H ds hl
   rw [hp] at hl
   match ds, hl with
   | [_, _, _], _ => rfl
 · rintro ⟨a0, a1, a2, _⟩ ⟨h0, h1, h2, _⟩
   obtain ⟨fuel, hf⟩ := h a0 a1 a2 h0 h1 h2
   exact c_gasolierlaw05_FogKept fuel a0 a1 a2 hf
theorem fogKept_of (h : ∀ (a0 : (List (Arr7 Int))) (a1 : (List (Arr4 Int))) (a2 : (List Int)), (fun l : (List (Arr7 Int)) => l.length * 56 ≤ 140737488351232 ∧ ∀ x ∈ l, ok_Arr7Int x) a0 → (fun l : (List (Arr4 Int)) => l.length * 32 ≤ 140737488351232 ∧ ∀ x ∈ l, ok_Arr4Int x) a1 → (fun l : (List Int) => l.length * 8 ≤ 140737488351232 ∧ ∀ x ∈ l, inI x) a2 → ∃ fuel, gasolierlaw05_FogKept fuel a0 a1 a2 = some true) : Rows.FogKeptSaid :=
 OpenClaim.holds_of_wide 5 Try.f5 rfl rfl rfl rfl rfl rfl rfl ⟨rfl, rfl, rfl, rfl, rfl⟩ rfl rfl rfl rfl rfl (by kernel_rfl) Try.func5 (by kernel_rfl)
   (of_decide_eq_true (by kernel_rfl)) (by unfold Func.isWrapper; rw [if_neg (by decide +kernel)]; exact ⟨rfl, rfl⟩)
   (fun os started H enc _ => fogKept_lifted h os started H enc)
end Go.Sp
