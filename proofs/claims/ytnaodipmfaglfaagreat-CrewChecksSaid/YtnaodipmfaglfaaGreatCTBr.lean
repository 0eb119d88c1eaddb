/- Printed by opn.py: what the arguments of the laws read as; each law's statement out of its Lean definition. -/
import Derived.Test.YtnaodipmfaglfaaGreatFr4
import Derived.Test.YtnaodipmfaglfaaGreatCtr2
import Derived.Test.YtnaodipmfaglfaaGreatRows
import Derived.JoinedOf
set_option linter.all false
set_option maxRecDepth 100000
set_option linter.unusedVariables false
namespace Go.Sp
open Go Go.Av Go.Proofs Go.Proofs.YtnaodipmfaglfaaGreat
theorem Tryz_own : ownKnob Tryz.prog.godebug = none := by kernel_rfl
theorem Tryz_kids : Kids Tryz.prog (· < Tryz.prog.types.size) := kids_rows (by kernel_rfl) (by kernel_rfl)
theorem Tryz_full : ∀ t e, t < Tryz.prog.types.size → Tryz.prog.underlying t = some (.slice e) → 0 < Tryz.prog.cellsOf e := slices_full_of Tryz.prog (by kernel_rfl)
def ok_Task (x : Task) : Prop := inI x.Lamp ∧ inI x.Place ∧ inI x.At ∧ inI x.Serve
abbrev en_Task (x : Task) : List AV := [.int .i64 (x.Lamp), .int .i64 (x.Place), .int .i64 (x.At), .int .i64 (x.Serve)]
theorem o_41 : Opn Tryz.prog 41 4 en_Task ok_Task :=
 Opn.struct Tryz.underlying41 (by kernel_rfl) (show OpnF Tryz.prog [(0, 3), (1, 3), (2, 3), (3, 3)] 0 4 _ _ from .cons (Opn.int Tryz.underlying3 (by kernel_rfl)) (.cons (Opn.int Tryz.underlying3 (by kernel_rfl)) (.cons (Opn.int Tryz.underlying3 (by kernel_rfl)) (.cons (Opn.int Tryz.underlying3 (by kernel_rfl)) (.nil))))) (fun x => (⟨x.1, x.2.1, x.2.2.1, x.2.2.2.1⟩ : Task)) (fun _ => rfl) (fun _ => rfl) (fun x h => ⟨h.1, h.2.1, h.2.2.1, h.2.2.2.1⟩)
def ok_Range (x : Range) : Prop := inI x.Lo ∧ inI x.Hi
abbrev en_Range (x : Range) : List AV := [.int .i64 (x.Lo), .int .i64 (x.Hi)]
theorem o_93 : Opn Tryz.prog 93 2 en_Range ok_Range :=
 Opn.struct Tryz.underlying93 (by kernel_rfl) (show OpnF Tryz.prog [(0, 3), (1, 3)] 0 2 _ _ from .cons (Opn.int Tryz.underlying3 (by kernel_rfl)) (.cons (Opn.int Tryz.underlying3 (by kernel_rfl)) (.nil))) (fun x => (⟨x.1, x.2.1⟩ : Range)) (fun _ => rfl) (fun _ => rfl) (fun x h => ⟨h.1, h.2.1⟩)
def ok_Hand (x : Hand) : Prop := inI x.Id ∧ inI x.From ∧ inI x.To
abbrev en_Hand (x : Hand) : List AV := [.int .i64 (x.Id), .int .i64 (x.From), .int .i64 (x.To)]
theorem o_43 : Opn Tryz.prog 43 3 en_Hand ok_Hand :=
 Opn.struct Tryz.underlying43 (by kernel_rfl) (show OpnF Tryz.prog [(0, 3), (1, 3), (2, 3)] 0 3 _ _ from .cons (Opn.int Tryz.underlying3 (by kernel_rfl)) (.cons (Opn.int Tryz.underlying3 (by kernel_rfl)) (.cons (Opn.int Tryz.underlying3 (by kernel_rfl)) (.nil)))) (fun x => (⟨x.1, x.2.1, x.2.2.1⟩ : Hand)) (fun _ => rfl) (fun _ => rfl) (fun x h => ⟨h.1, h.2.1, h.2.2.1⟩)
def ok_Crew (x : Crew) : Prop := (fun l : (List Task) => l.length * 32 ≤ 140737488351232 ∧ ∀ x ∈ l, ok_Task x) x.Tasks ∧ (fun l : (List (List Range)) => l.length * 24 ≤ 140737488351232 ∧ ∀ x ∈ l, (fun l : (List Range) => l.length * 16 ≤ 140737488351232 ∧ ∀ x ∈ l, ok_Range x) x) x.Travel ∧ (fun l : (List Hand) => l.length * 24 ≤ 140737488351232 ∧ ∀ x ∈ l, ok_Hand x) x.Hands
abbrev en_Crew (x : Crew) : List AV := [roL 4 enc_Task x.Tasks, roL 1 enc_ListRange x.Travel, roL 3 enc_Hand x.Hands]
theorem o_26 : Opn Tryz.prog 26 3 en_Crew ok_Crew :=
 Opn.struct Tryz.underlying26 (by kernel_rfl) (show OpnF Tryz.prog [(0, 22), (1, 23), (2, 24)] 0 3 _ _ from .cons (Opn.slice (k := 32) Tryz.underlying22 (by kernel_rfl) (show Opn Tryz.prog 41 4 en_Task ok_Task from o_41) (by decide) (by decide +kernel)) (.cons (Opn.slice (k := 24) Tryz.underlying23 (by kernel_rfl) (show Opn Tryz.prog 106 1 enc_ListRange (fun l : (List Range) => l.length * 16 ≤ 140737488351232 ∧ ∀ x ∈ l, ok_Range x) from (Opn.slice (k := 16) Tryz.underlying106 (by kernel_rfl) (show Opn Tryz.prog 93 2 en_Range ok_Range from o_93) (by decide) (by decide +kernel))) (by decide) (by decide +kernel)) (.cons (Opn.slice (k := 24) Tryz.underlying24 (by kernel_rfl) (show Opn Tryz.prog 43 3 en_Hand ok_Hand from o_43) (by decide) (by decide +kernel)) (.nil)))) (fun x => (⟨x.1, x.2.1, x.2.2.1⟩ : Crew)) (fun _ => rfl) (fun _ => rfl) (fun x h => ⟨h.1, h.2.1, h.2.2.1⟩)
def ok_gasolierlaw04_One (x : gasolierlaw04_One) : Prop := ok_Task x.Task ∧ ok_Hand x.Hand ∧ inI x.Lamp ∧ inI x.Minute
abbrev en_gasolierlaw04_One (x : gasolierlaw04_One) : List AV := [.int .i64 (x.Task.Lamp), .int .i64 (x.Task.Place), .int .i64 (x.Task.At), .int .i64 (x.Task.Serve), .int .i64 (x.Hand.Id), .int .i64 (x.Hand.From), .int .i64 (x.Hand.To), .int .i64 (x.Lamp), .int .i64 (x.Minute)]
theorem o_45 : Opn Tryz.prog 45 9 en_gasolierlaw04_One ok_gasolierlaw04_One :=
 Opn.struct Tryz.underlying45 (by kernel_rfl) (show OpnF Tryz.prog [(0, 41), (4, 43), (7, 3), (8, 3)] 0 9 _ _ from .cons o_41 (.cons o_43 (.cons (Opn.int Tryz.underlying3 (by kernel_rfl)) (.cons (Opn.int Tryz.underlying3 (by kernel_rfl)) (.nil))))) (fun x => (⟨x.1, x.2.1, x.2.2.1, x.2.2.2.1⟩ : gasolierlaw04_One)) (fun _ => rfl) (fun _ => rfl) (fun x h => ⟨h.1, h.2.1, h.2.2.1, h.2.2.2.1⟩)
theorem args_4 : OpnA Tryz.prog [26, 45] (fun x : Crew × gasolierlaw04_One × Unit => [.agg (en_Crew x.1), .agg (en_gasolierlaw04_One x.2.1)]) (fun x => ok_Crew x.1 ∧ ok_gasolierlaw04_One x.2.1 ∧ True) :=
 .cons (.struct Tryz.underlying26 o_26) (.cons (.struct Tryz.underlying45 o_45) (.nil))
theorem crewChecks_lifted (h : ∀ (a0 : Crew) (a1 : gasolierlaw04_One), ok_Crew a0 → ok_gasolierlaw04_One a1 → ∃ fuel, gasolierlaw04_CrewChecks fuel a0 a1 = some true) (os : Os) (started : os.Started) (H : Type) (enc : TypeId × Value → H) :
   ReturnsInHanded {} Tryz.checked os 4 .any (Rows.crewChecksSpec.pre6 enc Tryz.prog Tryz.f4 Rows.crewChecksRow.domain Rows.crewChecksRow.apart) (Rows.crewChecksSpec.post enc Tryz.prog Tryz.f4 Rows.crewChecksRow.apart Rows.crewChecksRow.fresh Rows.crewChecksRow.handsOn Rows.crewChecksRow.again) := by
 refine returnsInHanded_of_change_sized (C := Tryz.checked) Tryz_own started (by kernel_rfl) Tryz.func4
   (ChangeSpec.witness6 (enc := enc) (C := Tryz.checked) false ⟨#[], #[.agg #[.slice none 0 0, .slice none 0 0, .slice none 0 0], .agg #[.int .i64 0, .int .i64 0, .int .i64 0, .int .i64 0, .int .i64 0, .int .i64 0, .int .i64 0, .int .i64 0, .int .i64 0]], []⟩ 12 (by kernel_rfl) (by kernel_rfl) (by kernel_rfl) (by kernel_rfl)) ?_
 intro W base args ds gs before hval hW _ hbig _
 have hp : Tryz.f4.params.toList = [26, 45] := by rw [Tryz.params4]
 refine law_calls (P := Tryz.prog) (fn := Tryz.f4) Tryz_kids Tryz_full (by rw [hp]; kernel_rfl) (hp ▸ args_4) rfl ?_ (by kernel_rfl) Tryz.underlying4 ?_ H enc W base args ds gs before hval hW hbig
 · intro H ds hl
   rw [hp] at hl
   match ds, hl with
   | [_, _], _ => rfl
 · rintro ⟨a0, a1, _⟩ ⟨h0, h1, _⟩
   obtain ⟨fuel, hf⟩ := h a0 a1 h0 h1
   exact c_gasolierlaw04_CrewChecks fuel a0 a1 hf
theorem crewChecks_of (h : ∀ (a0 : Crew) (a1 : gasolierlaw04_One), ok_Crew a0 → ok_gasolierlaw04_One a1 → ∃ fuel, gasolierlaw04_CrewChecks fuel a0 a1 = some true) : Rows.CrewChecksSaid :=
 OpenClaim.holds_of_wide 4 Tryz.f4 rfl rfl rfl rfl rfl rfl rfl ⟨rfl, rfl, rfl, rfl, rfl⟩ rfl rfl rfl rfl rfl (by kernel_rfl) Tryz.func4 (by kernel_rfl)
   (of_decide_eq_true (by kernel_rfl)) (by unfold Func.isWrapper; rw [if_neg (by decide +kernel)]; exact ⟨rfl, rfl⟩)
   (fun os started H enc _ => crewChecks_lifted h os started H enc)
end Go.Sp
