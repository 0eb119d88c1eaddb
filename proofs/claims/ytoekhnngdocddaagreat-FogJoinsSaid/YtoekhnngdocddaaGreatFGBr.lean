/- Printed by opn.py: what the arguments of the laws read as; each law's statement out of its Lean definition. -/
import Derived.Test.YtoekhnngdocddaaGreatFr4
import Derived.Test.YtoekhnngdocddaaGreatCtr2
import Derived.Test.YtoekhnngdocddaaGreatRows
import Derived.JoinedOf
set_option linter.all false
set_option maxRecDepth 100000
set_option linter.unusedVariables false
namespace Go.Sp
open Go Go.Av Go.Proofs Go.Proofs.YtoekhnngdocddaaGreat
theorem Tryz_own : ownKnob Tryz.prog.godebug = none := by kernel_rfl
theorem Tryz_kids : Kids Tryz.prog (· < Tryz.prog.types.size) := kids_rows (by kernel_rfl) (by kernel_rfl)
theorem Tryz_full : ∀ t e, t < Tryz.prog.types.size → Tryz.prog.underlying t = some (.slice e) → 0 < Tryz.prog.cellsOf e := slices_full_of Tryz.prog (by kernel_rfl)
def ok_Arr7Int (x : (Arr7 Int)) : Prop := inI x.x0 ∧ inI x.x1 ∧ inI x.x2 ∧ inI x.x3 ∧ inI x.x4 ∧ inI x.x5 ∧ inI x.x6
abbrev en_Arr7Int (x : (Arr7 Int)) : List AV := [.int .i64 (x.x0), .int .i64 (x.x1), .int .i64 (x.x2), .int .i64 (x.x3), .int .i64 (x.x4), .int .i64 (x.x5), .int .i64 (x.x6)]
theorem o_146 : Opn Tryz.prog 146 7 en_Arr7Int ok_Arr7Int :=
 Opn.array (n := 7) (s := 1) (sz := 7) Tryz.underlying146 (by kernel_rfl) (by kernel_rfl) (show OpnF Tryz.prog [(0, 3), (1, 3), (2, 3), (3, 3), (4, 3), (5, 3), (6, 3)] 0 7 _ _ from .cons (Opn.int Tryz.underlying3 (by kernel_rfl)) (.cons (Opn.int Tryz.underlying3 (by kernel_rfl)) (.cons (Opn.int Tryz.underlying3 (by kernel_rfl)) (.cons (Opn.int Tryz.underlying3 (by kernel_rfl)) (.cons (Opn.int Tryz.underlying3 (by kernel_rfl)) (.cons (Opn.int Tryz.underlying3 (by kernel_rfl)) (.cons (Opn.int Tryz.underlying3 (by kernel_rfl)) (.nil)))))))) (fun x => (⟨x.1, x.2.1, x.2.2.1, x.2.2.2.1, x.2.2.2.2.1, x.2.2.2.2.2.1, x.2.2.2.2.2.2.1⟩ : (Arr7 Int))) (fun _ => rfl) (fun _ => rfl) (fun x h => ⟨h.1, h.2.1, h.2.2.1, h.2.2.2.1, h.2.2.2.2.1, h.2.2.2.2.2.1, h.2.2.2.2.2.2.1⟩)
def ok_Arr3Int (x : (Arr3 Int)) : Prop := inI x.x0 ∧ inI x.x1 ∧ inI x.x2
abbrev en_Arr3Int (x : (Arr3 Int)) : List AV := [.int .i64 (x.x0), .int .i64 (x.x1), .int .i64 (x.x2)]
theorem o_65 : Opn Tryz.prog 65 3 en_Arr3Int ok_Arr3Int :=
 Opn.array (n := 3) (s := 1) (sz := 3) Tryz.underlying65 (by kernel_rfl) (by kernel_rfl) (show OpnF Tryz.prog [(0, 3), (1, 3), (2, 3)] 0 3 _ _ from .cons (Opn.int Tryz.underlying3 (by kernel_rfl)) (.cons (Opn.int Tryz.underlying3 (by kernel_rfl)) (.cons (Opn.int Tryz.underlying3 (by kernel_rfl)) (.nil)))) (fun x => (⟨x.1, x.2.1, x.2.2.1⟩ : (Arr3 Int))) (fun _ => rfl) (fun _ => rfl) (fun x h => ⟨h.1, h.2.1, h.2.2.1⟩)
theorem args_8 : OpnA Tryz.prog [63, 35, 65] (fun x : (List (Arr7 Int)) × (List Int) × (Arr3 Int) × Unit => [roL 7 enc_Arr7Int x.1, roL 1 enc_Int x.2.1, .agg (en_Arr3Int x.2.2.1)]) (fun x => (fun l : (List (Arr7 Int)) => l.length * 56 ≤ 140737488351232 ∧ ∀ x ∈ l, ok_Arr7Int x) x.1 ∧ (fun l : (List Int) => l.length * 8 ≤ 140737488351232 ∧ ∀ x ∈ l, inI x) x.2.1 ∧ ok_Arr3Int x.2.2.1 ∧ True) :=
 .cons (.slice (k := 56) Tryz.underlying63 (by kernel_rfl) (show Opn Tryz.prog 146 7 enc_Arr7Int ok_Arr7Int from o_146) (by decide) (by decide +kernel)) (.cons (.slice (k := 8) Tryz.underlying35 (by kernel_rfl) (show Opn Tryz.prog 3 1 enc_Int inI from (Opn.int Tryz.underlying3 (by kernel_rfl))) (by decide) (by decide +kernel)) (.cons (.array Tryz.underlying65 o_65) (.nil)))
theorem fogJoins_lifted (h : ∀ (a0 : (List (Arr7 Int))) (a1 : (List Int)) (a2 : (Arr3 Int)), (fun l : (List (Arr7 Int)) => l.length * 56 ≤ 140737488351232 ∧ ∀ x ∈ l, ok_Arr7Int x) a0 → (fun l : (List Int) => l.length * 8 ≤ 140737488351232 ∧ ∀ x ∈ l, inI x) a1 → ok_Arr3Int a2 → ∃ fuel, gasolierlaw05_FogJoins fuel a0 a1 a2 = some true) (os : Os) (started : os.Started) (H : Type) (enc : TypeId × Value → H) :
   ReturnsInHanded {} Tryz.checked os 8 .any (Rows.fogJoinsSpec.pre6 enc Tryz.prog Tryz.f8 Rows.fogJoinsRow.domain Rows.fogJoinsRow.apart) (Rows.fogJoinsSpec.post enc Tryz.prog Tryz.f8 Rows.fogJoinsRow.apart Rows.fogJoinsRow.fresh Rows.fogJoinsRow.handsOn Rows.fogJoinsRow.again) := by
 refine returnsInHanded_of_change_sized (C := Tryz.checked) Tryz_own started (by kernel_rfl) Tryz.func8
   (ChangeSpec.witness6 (enc := enc) (C := Tryz.checked) false ⟨#[], #[.slice none 0 0, .slice none 0 0, .agg #[.int .i64 0, .int .i64 0, .int .i64 0]], []⟩ 12 (by kernel_rfl) (by kernel_rfl) (by kernel_rfl) (by kernel_rfl)) ?_
 intro W base args ds gs before hval hW _ hbig _
 have hp : Tryz.f8.params.toList = [63, 35, 65] := by rw [Tryz.params8]
 refine law_calls (P := Tryz.prog) (fn := Tryz.f8) Tryz_kids Tryz_full (by rw [hp]; kernel_rfl) (hp ▸ args_8) rfl ?_ (by kernel_rfl) Tryz.underlying4 ?_ H enc W base args ds gs before hval hW hbig
 · intro H ds hl
   rw [hp] at hl
   match ds, hl with
   | [_, _, _], _ => rfl
 · rintro ⟨a0, a1, a2, _⟩ ⟨h0, h1, h2, _⟩
   obtain ⟨fuel, hf⟩ := h a0 a1 a2 h0 h1 h2
   exact c_gasolierlaw05_FogJoins fuel a0 a1 a2 hf
theorem fogJoins_of (h : ∀ (a0 : (List (Arr7 Int))) (a1 : (List Int)) (a2 : (Arr3 Int)), (fun l : (List (Arr7 Int)) => l.length * 56 ≤ 140737488351232 ∧ ∀ x ∈ l, ok_Arr7Int x) a0 → (fun l : (List Int) => l.length * 8 ≤ 140737488351232 ∧ ∀ x ∈ l, inI x) a1 → ok_Arr3Int a2 → ∃ fuel, gasolierlaw05_FogJoins fuel a0 a1 a2 = some true) : Rows.FogJoinsSaid :=
 OpenClaim.holds_of_wide 8 Tryz.f8 rfl rfl rfl rfl rfl rfl rfl ⟨rfl, rfl, rfl, rfl, rfl⟩ rfl rfl rfl rfl rfl (by kernel_rfl) Tryz.func8 (by kernel_rfl)
   (of_decide_eq_true (by kernel_rfl)) (by unfold Func.isWrapper; rw [if_neg (by decide +kernel)]; exact ⟨rfl, rfl⟩)
   (fun os started H enc _ => fogJoins_lifted h os started H enc)
end Go.Sp
