/- Printed by opn.py: what the arguments of the laws read as; each law's statement out of its Lean definition. -/
import Derived.Test.YtjeolkdhicmhgaaAvBr
import Derived.Test.YtjeolkdhicmhgaaCtr2
import Derived.Test.YtjeolkdhicmhgaaRows
import Derived.JoinedOf
set_option linter.all false
set_option maxRecDepth 100000
set_option linter.unusedVariables false
namespace Go.Sp
open Go Go.Av Go.Proofs Go.Proofs.Ytjeolkdhicmhgaa

theorem Try_own : ownKnob Try.prog.godebug = none := by kernel_rfl
theorem Try_kids : Kids Try.prog (· < Try.prog.types.size) := kids_rows (by kernel_rfl) (by kernel_rfl)
theorem Try_full : ∀ t e, t < Try.prog.types.size → Try.prog.underlying t = some (.slice e) → 0 < Try.prog.cellsOf e := slices_full_of Try.prog (by kernel_rfl)
def ok_Range (x : Range) : Prop := inI x.Lo ∧ inI x.Hi
abbrev en_Range (x : Range) : List AV := [.int .i64 (x.Lo), .int .i64 (x.Hi)]
theorem o_51 : Opn Try.prog 51 2 en_Range ok_Range :=
  Opn.struct Try.underlying51 (by kernel_rfl) (show OpnF Try.prog [(0, 3), (1, 3)] 0 2 _ _ from .cons (Opn.int Try.underlying3 (by kernel_rfl)) (.cons (Opn.int Try.underlying3 (by kernel_rfl)) (.nil))) (fun x => (⟨x.1, x.2.1⟩ : Range)) (fun _ => rfl) (fun _ => rfl) (fun x h => ⟨h.1, h.2.1⟩)
def ok_Way (x : Way) : Prop := inI x.From ∧ inI x.To ∧ ok_Range x.Takes ∧ ok_Range x.Open ∧ inI x.Every
abbrev en_Way (x : Way) : List AV := [.int .i64 (x.From), .int .i64 (x.To), .int .i64 (x.Takes.Lo), .int .i64 (x.Takes.Hi), .int .i64 (x.Open.Lo), .int .i64 (x.Open.Hi), .int .i64 (x.Every)]
theorem o_53 : Opn Try.prog 53 7 en_Way ok_Way :=
  Opn.struct Try.underlying53 (by kernel_rfl) (show OpnF Try.prog [(0, 3), (1, 3), (2, 51), (4, 51), (6, 3)] 0 7 _ _ from .cons (Opn.int Try.underlying3 (by kernel_rfl)) (.cons (Opn.int Try.underlying3 (by kernel_rfl)) (.cons o_51 (.cons o_51 (.cons (Opn.int Try.underlying3 (by kernel_rfl)) (.nil)))))) (fun x => (⟨x.1, x.2.1, x.2.2.1, x.2.2.2.1, x.2.2.2.2.1⟩ : Way)) (fun _ => rfl) (fun _ => rfl) (fun x h => ⟨h.1, h.2.1, h.2.2.1, h.2.2.2.1, h.2.2.2.2.1⟩)
def ok_Chart (x : Chart) : Prop := inI x.Places ∧ (fun l : (List Way) => l.length ≤ maxLen ∧ ∀ x ∈ l, ok_Way x) x.Ways
abbrev en_Chart (x : Chart) : List AV := [.int .i64 (x.Places), roL 7 enc_Way x.Ways]
theorem o_24 : Opn Try.prog 24 2 en_Chart ok_Chart :=
  Opn.struct Try.underlying24 (by kernel_rfl) (show OpnF Try.prog [(0, 3), (1, 22)] 0 2 _ _ from .cons (Opn.int Try.underlying3 (by kernel_rfl)) (.cons (Opn.slice Try.underlying22 (by kernel_rfl) (show Opn Try.prog 53 7 en_Way ok_Way from o_53) (by decide)) (.nil))) (fun x => (⟨x.1, x.2.1⟩ : Chart)) (fun _ => rfl) (fun _ => rfl) (fun x h => ⟨h.1, h.2.1⟩)
def ok_Trip (x : Trip) : Prop := inI x.From ∧ inI x.To ∧ inI x.At
abbrev en_Trip (x : Trip) : List AV := [.int .i64 (x.From), .int .i64 (x.To), .int .i64 (x.At)]
theorem o_64 : Opn Try.prog 64 3 en_Trip ok_Trip :=
  Opn.struct Try.underlying64 (by kernel_rfl) (show OpnF Try.prog [(0, 3), (1, 3), (2, 3)] 0 3 _ _ from .cons (Opn.int Try.underlying3 (by kernel_rfl)) (.cons (Opn.int Try.underlying3 (by kernel_rfl)) (.cons (Opn.int Try.underlying3 (by kernel_rfl)) (.nil)))) (fun x => (⟨x.1, x.2.1, x.2.2.1⟩ : Trip)) (fun _ => rfl) (fun _ => rfl) (fun x h => ⟨h.1, h.2.1, h.2.2.1⟩)
def ok_gasolierref03_Going (x : gasolierref03_Going) : Prop := ok_Trip x.Trip ∧ (fun l : (List Int) => l.length ≤ maxLen ∧ ∀ x ∈ l, inI x) x.Path ∧ inI x.By
abbrev en_gasolierref03_Going (x : gasolierref03_Going) : List AV := [.int .i64 (x.Trip.From), .int .i64 (x.Trip.To), .int .i64 (x.Trip.At), roL 1 enc_Int x.Path, .int .i64 (x.By)]
theorem o_76 : Opn Try.prog 76 5 en_gasolierref03_Going ok_gasolierref03_Going :=
  Opn.struct Try.underlying76 (by kernel_rfl) (show OpnF Try.prog [(0, 64), (3, 27), (4, 3)] 0 5 _ _ from .cons o_64 (.cons (Opn.slice Try.underlying27 (by kernel_rfl) (show Opn Try.prog 3 1 enc_Int inI from (Opn.int Try.underlying3 (by kernel_rfl))) (by decide)) (.cons (Opn.int Try.underlying3 (by kernel_rfl)) (.nil)))) (fun x => (⟨x.1, x.2.1, x.2.2.1⟩ : gasolierref03_Going)) (fun _ => rfl) (fun _ => rfl) (fun x h => ⟨h.1, h.2.1, h.2.2.1⟩)

theorem args_11 : OpnA Try.prog [24, 76] (fun x : Chart × gasolierref03_Going × Unit => [.agg (en_Chart x.1), .agg (en_gasolierref03_Going x.2.1)]) (fun x => ok_Chart x.1 ∧ ok_gasolierref03_Going x.2.1 ∧ True) :=
  .cons (.struct Try.underlying24 o_24) (.cons (.struct Try.underlying76 o_76) (.nil))

theorem roundPaths_lifted (h : ∀ (a0 : Chart) (a1 : gasolierref03_Going), ok_Chart a0 → ok_gasolierref03_Going a1 → ∃ fuel, gasolierlaw03_RoundPaths fuel a0 a1 = some true) (os : Os) (started : os.Started) (H : Type) (enc : TypeId × Value → H) :
    ReturnsInHanded {} Try.checked os 11 .any (Rows.roundPathsSpec.pre6 enc Try.prog Try.f11 Rows.roundPathsRow.domain Rows.roundPathsRow.apart) (Rows.roundPathsSpec.post enc Try.prog Try.f11 Rows.roundPathsRow.apart Rows.roundPathsRow.fresh Rows.roundPathsRow.handsOn Rows.roundPathsRow.again) := by
  refine returnsInHanded_of_change (C := Try.checked) Try_own started (by kernel_rfl) Try.func11
    (ChangeSpec.witness6 (enc := enc) (C := Try.checked) false ⟨#[], #[.agg #[.int .i64 0, .slice none 0 0], .agg #[.int .i64 0, .int .i64 0, .int .i64 0, .slice none 0 0, .int .i64 0]], []⟩ 12 (by kernel_rfl) (by kernel_rfl) (by kernel_rfl) (by kernel_rfl)) ?_
  intro W base args ds gs before hval hW _ _
  have hp : Try.f11.params.toList = [24, 76] := by rw [Try.params11]
  refine law_calls (P := Try.prog) (fn := Try.f11) Try_kids Try_full (by rw [hp]; kernel_rfl) (hp ▸ args_11) rfl ?_ (by kernel_rfl) Try.underlying4 ?_ H enc W base args ds gs before hval hW
  · intro H ds hl
    rw [hp] at hl
    match ds, hl with
    | [_, _], _ => rfl
  · rintro ⟨a0, a1, _⟩ ⟨h0, h1, _⟩
    obtain ⟨fuel, hf⟩ := h a0 a1 h0 h1
    exact c_gasolierlaw03_RoundPaths fuel a0 a1 hf

theorem roundPaths_of (h : ∀ (a0 : Chart) (a1 : gasolierref03_Going), ok_Chart a0 → ok_gasolierref03_Going a1 → ∃ fuel, gasolierlaw03_RoundPaths fuel a0 a1 = some true) : Rows.RoundPathsSaid :=
  OpenClaim.holds_of_wide 11 Try.f11 rfl rfl rfl rfl rfl rfl rfl ⟨rfl, rfl, rfl, rfl, rfl⟩ rfl rfl rfl rfl rfl (by kernel_rfl) Try.func11 (by kernel_rfl)
    (of_decide_eq_true (by kernel_rfl)) (by unfold Func.isWrapper; rw [if_neg (by decide +kernel)]; exact ⟨rfl, rfl⟩)
    (fun os started H enc _ => roundPaths_lifted h os started H enc)

end Go.Sp
