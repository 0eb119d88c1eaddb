/- Printed by opn.py: what the arguments of the laws read as; each law's statement out of its Lean definition. -/
import Derived.Test.YtoekhnngdocddaaGreatFr4
import Derived.Test.YtoekhnngdocddaaGreatCtr2
import Derived.Test.YtoekhnngdocddaaGreatRows
import Derived.JoinedOf
set_option linter.all false
set_option maxRecDepth 100000
set_option linter.unusedVariables false
namespace Go.Sp
open Go Go.Av Go.Proofs Go.Proofs.YtoekhnngdocddaaGreat
theorem Tryz_own : ownKnob Tryz.prog.godebug = none := by kernel_rfl
theorem Tryz_kids : Kids Tryz.prog (· < Tryz.prog.types.size) := kids_rows (by kernel_rfl) (by kernel_rfl)
theorem Tryz_full : ∀ t e, t < Tryz.prog.types.size → Tryz.prog.underlying t = some (.slice e) → 0 < Tryz.prog.cellsOf e := slices_full_of Tryz.prog (by kernel_rfl)
def ok_Send (x : Send) : Prop := inI x.District ∧ inI x.Many
abbrev en_Send (x : Send) : List AV := [.int .i64 (x.District), .int .i64 (x.Many)]
theorem o_78 : Opn Tryz.prog 78 2 en_Send ok_Send :=
 Opn.struct Tryz.underlying78 (by kernel_rfl) (show OpnF Tryz.prog [(0, 3), (1, 3)] 0 2 _ _ from .cons (Opn.int Tryz.underlying3 (by kernel_rfl)) (.cons (Opn.int Tryz.underlying3 (by kernel_rfl)) (.nil))) (fun x => (⟨x.1, x.2.1⟩ : Send)) (fun _ => rfl) (fun _ => rfl) (fun x h => ⟨h.1, h.2.1⟩)
def ok_Node (x : Node) : Prop := (fun _ : Bool => True) x.Test ∧ inI x.District ∧ inI x.Minute ∧ inI x.Limit ∧ inI x.Yes ∧ inI x.No ∧ inI x.Maybe ∧ (fun l : (List Send) => l.length * 16 ≤ 140737488351232 ∧ ∀ x ∈ l, ok_Send x) x.Sends
abbrev en_Node (x : Node) : List AV := [.bool (x.Test), .int .i64 (x.District), .int .i64 (x.Minute), .int .i64 (x.Limit), .int .i64 (x.Yes), .int .i64 (x.No), .int .i64 (x.Maybe), roL 2 enc_Send x.Sends]
theorem o_76 : Opn Tryz.prog 76 8 en_Node ok_Node :=
 Opn.struct Tryz.underlying76 (by kernel_rfl) (show OpnF Tryz.prog [(0, 4), (1, 3), (2, 3), (3, 3), (4, 3), (5, 3), (6, 3), (7, 74)] 0 8 _ _ from .cons (Opn.bool Tryz.underlying4 (by kernel_rfl)) (.cons (Opn.int Tryz.underlying3 (by kernel_rfl)) (.cons (Opn.int Tryz.underlying3 (by kernel_rfl)) (.cons (Opn.int Tryz.underlying3 (by kernel_rfl)) (.cons (Opn.int Tryz.underlying3 (by kernel_rfl)) (.cons (Opn.int Tryz.underlying3 (by kernel_rfl)) (.cons (Opn.int Tryz.underlying3 (by kernel_rfl)) (.cons (Opn.slice (k := 16) Tryz.underlying74 (by kernel_rfl) (show Opn Tryz.prog 78 2 en_Send ok_Send from o_78) (by decide) (by decide +kernel)) (.nil))))))))) (fun x => (⟨x.1, x.2.1, x.2.2.1, x.2.2.2.1, x.2.2.2.2.1, x.2.2.2.2.2.1, x.2.2.2.2.2.2.1, x.2.2.2.2.2.2.2.1⟩ : Node)) (fun _ => rfl) (fun _ => rfl) (fun x h => ⟨h.1, h.2.1, h.2.2.1, h.2.2.2.1, h.2.2.2.2.1, h.2.2.2.2.2.1, h.2.2.2.2.2.2.1, h.2.2.2.2.2.2.2.1⟩)
def ok_Runner (x : Runner) : Prop := inI x.Id ∧ (fun l : (List Int) => l.length * 8 ≤ 140737488351232 ∧ ∀ x ∈ l, inI x) x.Districts
abbrev en_Runner (x : Runner) : List AV := [.int .i64 (x.Id), roL 1 enc_Int x.Districts]
theorem o_118 : Opn Tryz.prog 118 2 en_Runner ok_Runner :=
 Opn.struct Tryz.underlying118 (by kernel_rfl) (show OpnF Tryz.prog [(0, 3), (1, 35)] 0 2 _ _ from .cons (Opn.int Tryz.underlying3 (by kernel_rfl)) (.cons (Opn.slice (k := 8) Tryz.underlying35 (by kernel_rfl) (show Opn Tryz.prog 3 1 enc_Int inI from (Opn.int Tryz.underlying3 (by kernel_rfl))) (by decide) (by decide +kernel)) (.nil))) (fun x => (⟨x.1, x.2.1⟩ : Runner)) (fun _ => rfl) (fun _ => rfl) (fun x h => ⟨h.1, h.2.1⟩)
def ok_gasolierref05_Town (x : gasolierref05_Town) : Prop := (fun l : (List Node) => l.length * 80 ≤ 140737488351232 ∧ ∀ x ∈ l, ok_Node x) x.Policy ∧ (fun l : (List Runner) => l.length * 32 ≤ 140737488351232 ∧ ∀ x ∈ l, ok_Runner x) x.Runners
abbrev en_gasolierref05_Town (x : gasolierref05_Town) : List AV := [roL 8 enc_Node x.Policy, roL 2 enc_Runner x.Runners]
theorem o_25 : Opn Tryz.prog 25 2 en_gasolierref05_Town ok_gasolierref05_Town :=
 Opn.struct Tryz.underlying25 (by kernel_rfl) (show OpnF Tryz.prog [(0, 22), (1, 23)] 0 2 _ _ from .cons (Opn.slice (k := 80) Tryz.underlying22 (by kernel_rfl) (show Opn Tryz.prog 76 8 en_Node ok_Node from o_76) (by decide) (by decide +kernel)) (.cons (Opn.slice (k := 32) Tryz.underlying23 (by kernel_rfl) (show Opn Tryz.prog 118 2 en_Runner ok_Runner from o_118) (by decide) (by decide +kernel)) (.nil))) (fun x => (⟨x.1, x.2.1⟩ : gasolierref05_Town)) (fun _ => rfl) (fun _ => rfl) (fun x h => ⟨h.1, h.2.1⟩)
def ok_Range (x : Range) : Prop := inI x.Lo ∧ inI x.Hi
abbrev en_Range (x : Range) : List AV := [.int .i64 (x.Lo), .int .i64 (x.Hi)]
theorem o_45 : Opn Tryz.prog 45 2 en_Range ok_Range :=
 Opn.struct Tryz.underlying45 (by kernel_rfl) (show OpnF Tryz.prog [(0, 3), (1, 3)] 0 2 _ _ from .cons (Opn.int Tryz.underlying3 (by kernel_rfl)) (.cons (Opn.int Tryz.underlying3 (by kernel_rfl)) (.nil))) (fun x => (⟨x.1, x.2.1⟩ : Range)) (fun _ => rfl) (fun _ => rfl) (fun x h => ⟨h.1, h.2.1⟩)
def ok_Report (x : Report) : Prop := inI x.Source ∧ inI x.District ∧ inI x.Night ∧ inI x.From ∧ inI x.To ∧ ok_Range x.Sight ∧ inI x.Known ∧ inI x.Until
abbrev en_Report (x : Report) : List AV := [.int .i64 (x.Source), .int .i64 (x.District), .int .i64 (x.Night), .int .i64 (x.From), .int .i64 (x.To), .int .i64 (x.Sight.Lo), .int .i64 (x.Sight.Hi), .int .i64 (x.Known), .int .i64 (x.Until)]
theorem o_90 : Opn Tryz.prog 90 9 en_Report ok_Report :=
 Opn.struct Tryz.underlying90 (by kernel_rfl) (show OpnF Tryz.prog [(0, 3), (1, 3), (2, 3), (3, 3), (4, 3), (5, 45), (7, 3), (8, 3)] 0 9 _ _ from .cons (Opn.int Tryz.underlying3 (by kernel_rfl)) (.cons (Opn.int Tryz.underlying3 (by kernel_rfl)) (.cons (Opn.int Tryz.underlying3 (by kernel_rfl)) (.cons (Opn.int Tryz.underlying3 (by kernel_rfl)) (.cons (Opn.int Tryz.underlying3 (by kernel_rfl)) (.cons o_45 (.cons (Opn.int Tryz.underlying3 (by kernel_rfl)) (.cons (Opn.int Tryz.underlying3 (by kernel_rfl)) (.nil))))))))) (fun x => (⟨x.1, x.2.1, x.2.2.1, x.2.2.2.1, x.2.2.2.2.1, x.2.2.2.2.2.1, x.2.2.2.2.2.2.1, x.2.2.2.2.2.2.2.1⟩ : Report)) (fun _ => rfl) (fun _ => rfl) (fun x h => ⟨h.1, h.2.1, h.2.2.1, h.2.2.2.1, h.2.2.2.2.1, h.2.2.2.2.2.1, h.2.2.2.2.2.2.1, h.2.2.2.2.2.2.2.1⟩)
def ok_gasolierref05_Source (x : gasolierref05_Source) : Prop := inI x.Source ∧ inI x.Night ∧ inI x.Moment
abbrev en_gasolierref05_Source (x : gasolierref05_Source) : List AV := [.int .i64 (x.Source), .int .i64 (x.Night), .int .i64 (x.Moment)]
theorem o_28 : Opn Tryz.prog 28 3 en_gasolierref05_Source ok_gasolierref05_Source :=
 Opn.struct Tryz.underlying28 (by kernel_rfl) (show OpnF Tryz.prog [(0, 3), (1, 3), (2, 3)] 0 3 _ _ from .cons (Opn.int Tryz.underlying3 (by kernel_rfl)) (.cons (Opn.int Tryz.underlying3 (by kernel_rfl)) (.cons (Opn.int Tryz.underlying3 (by kernel_rfl)) (.nil)))) (fun x => (⟨x.1, x.2.1, x.2.2.1⟩ : gasolierref05_Source)) (fun _ => rfl) (fun _ => rfl) (fun x h => ⟨h.1, h.2.1, h.2.2.1⟩)
theorem args_3 : OpnA Tryz.prog [25, 26, 28] (fun x : gasolierref05_Town × (List Report) × gasolierref05_Source × Unit => [.agg (en_gasolierref05_Town x.1), roL 9 enc_Report x.2.1, .agg (en_gasolierref05_Source x.2.2.1)]) (fun x => ok_gasolierref05_Town x.1 ∧ (fun l : (List Report) => l.length * 72 ≤ 140737488351232 ∧ ∀ x ∈ l, ok_Report x) x.2.1 ∧ ok_gasolierref05_Source x.2.2.1 ∧ True) :=
 .cons (.struct Tryz.underlying25 o_25) (.cons (.slice (k := 72) Tryz.underlying26 (by kernel_rfl) (show Opn Tryz.prog 90 9 enc_Report ok_Report from o_90) (by decide) (by decide +kernel)) (.cons (.struct Tryz.underlying28 o_28) (.nil)))
theorem fogMoves_lifted (h : ∀ (a0 : gasolierref05_Town) (a1 : (List Report)) (a2 : gasolierref05_Source), ok_gasolierref05_Town a0 → (fun l : (List Report) => l.length * 72 ≤ 140737488351232 ∧ ∀ x ∈ l, ok_Report x) a1 → ok_gasolierref05_Source a2 → ∃ fuel, gasolierlaw05_FogMoves fuel a0 a1 a2 = some true) (os : Os) (started : os.Started) (H : Type) (enc : TypeId × Value → H) :
   ReturnsInHanded {} Tryz.checked os 3 .any (Rows.fogMovesSpec.pre6 enc Tryz.prog Tryz.f3 Rows.fogMovesRow.domain Rows.fogMovesRow.apart) (Rows.fogMovesSpec.post enc Tryz.prog Tryz.f3 Rows.fogMovesRow.apart Rows.fogMovesRow.fresh Rows.fogMovesRow.handsOn Rows.fogMovesRow.again) := by
 refine returnsInHanded_of_change_sized (C := Tryz.checked) Tryz_own started (by kernel_rfl) Tryz.func3
   (ChangeSpec.witness6 (enc := enc) (C := Tryz.checked) false ⟨#[], #[.agg #[.slice none 0 0, .slice none 0 0], .slice none 0 0, .agg #[.int .i64 0, .int .i64 0, .int .i64 0]], []⟩ 12 (by kernel_rfl) (by kernel_rfl) (by kernel_rfl) (by kernel_rfl)) ?_
 intro W base args ds gs before hval hW _ hbig _
 have hp : Tryz.f3.params.toList = [25, 26, 28] := by rw [Tryz.params3]
 refine law_calls (P := Tryz.prog) (fn := Tryz.f3) Tryz_kids Tryz_full (by rw [hp]; kernel_rfl) (hp ▸ args_3) rfl ?_ (by kernel_rfl) Tryz.underlying4 ?_ H enc W base args ds gs before hval hW hbig
 · intro H ds hl
   rw [hp] at hl
   match ds, hl with
   | [_, _, _], _ => rfl
 · rintro ⟨a0, a1, a2, _⟩ ⟨h0, h1, h2, _⟩
   obtain ⟨fuel, hf⟩ := h a0 a1 a2 h0 h1 h2
   exact c_gasolierlaw05_FogMoves fuel a0 a1 a2 hf
theorem fogMoves_of (h : ∀ (a0 : gasolierref05_Town) (a1 : (List Report)) (a2 : gasolierref05_Source), ok_gasolierref05_Town a0 → (fun l : (List Report) => l.length * 72 ≤ 140737488351232 ∧ ∀ x ∈ l, ok_Report x) a1 → ok_gasolierref05_Source a2 → ∃ fuel, gasolierlaw05_FogMoves fuel a0 a1 a2 = some true) : Rows.FogMovesSaid :=
 OpenClaim.holds_of_wide 3 Tryz.f3 rfl rfl rfl rfl rfl rfl rfl ⟨rfl, rfl, rfl, rfl, rfl⟩ rfl rfl rfl rfl rfl (by kernel_rfl) Tryz.func3 (by kernel_rfl)
   (of_decide_eq_true (by kernel_rfl)) (by unfold Func.isWrapper; rw [if_neg (by decide +kernel)]; exact ⟨rfl, rfl⟩)
   (fun os started H enc _ => fogMoves_lifted h os started H enc)
end Go.Sp
