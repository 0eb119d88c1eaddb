/-
  No cell of these rows narrows 'for every input' (looked for: loops, veiled, ifaces, maps, wideKeys, modest, calm, conditions, laid).
  DERIVED. THE GIVEN ROWS OF THIS SEAT. 7 by the template 'for every input the law returns true; each argument reads behind the call as it read before'; 0 by the template 'total and deterministic' (their statements: YtoekhnngdocddaaGreatTotals.lean).
  GIVEN WITH THE SEED: the statements are not yours to turn. If you find one false, say at which input.
  Laid BY PROGRAM, IN A SANDBOX (cutbox-rows.mjs): the forced cells as the released guide's own fill.sh prints them over the translation 94767bc6d12676df… (all of the seat's roots in one cut). By AI agents, Wed Nov 11 2026. No macro, syntax, notation, axiom, sorry.
-/
import Derived.Test.YtoekhnngdocddaaGreatChecked
import GoSem.Claim
import GoSem.ClaimJoined
import GoSem.ClaimMapViews
import Derived.JoinedTies
import Derived.KernelRfl
namespace Go.Proofs.YtoekhnngdocddaaGreat
/- THE CELL 'sum', in the pinned program and in every row, IS THE sha256 OF THE DUMP (.gsa) THAT YtoekhnngdocddaaGreatProg.lean LOADS. Nothing in Lean hashes anything: it is a label: what it is worth is what the hold of that sum in a sandbox is worth. -/
noncomputable def Tryz.pinned : Pinned := { name := "ytoekhnngdocddaagreat", sum := "94767bc6d12676dfe64a86c8dd6db7386b7aca76593bcf319c6ed1b133d6bbad", checked := Tryz.checked }
namespace Rows
def none {H : Type} : Left H := { results := [], args := [] }

/-- 'gasolierlaw05.FogMoves': WHATEVER THE INPUT: true; the input reads as it did. -/
def fogMovesSpec : ChangeSpec := { name := "fogMoves", fn := fun _ => fun
  | [d1, d2, d3] => { results := [.lit (.bool true)], args := [d1, d2, d3] }
  | _ => none }
def fogMovesRow : OpenClaim := { program := "ytoekhnngdocddaagreat", sum := "94767bc6d12676dfe64a86c8dd6db7386b7aca76593bcf319c6ed1b133d6bbad", func := "gasolier/gasolierlaw05.FogMoves", spec := "fogMoves", unfollowed := true, recurses := true, apart := false }
def FogMovesSaid : Prop := fogMovesRow.holds Tryz.pinned (OpenSpec.ofChange fogMovesSpec)

/-- ITS FALSE NEIGHBOUR: 'it returns false'. Refute it at one input. -/
def fogMovesWrong : ChangeSpec := { name := "fogMoves", fn := fun _ => fun
  | [d1, d2, d3] => { results := [.lit (.bool false)], args := [d1, d2, d3] }
  | _ => none }
def FogMovesWrongFalsely : Prop := fogMovesRow.holds Tryz.pinned (OpenSpec.ofChange fogMovesWrong)

/-- 'gasolierlaw05.FogSights': WHATEVER THE INPUT: true; the input reads as it did. -/
def fogSightsSpec : ChangeSpec := { name := "fogSights", fn := fun _ => fun
  | [d1, d2, d3] => { results := [.lit (.bool true)], args := [d1, d2, d3] }
  | _ => none }
def fogSightsRow : OpenClaim := { program := "ytoekhnngdocddaagreat", sum := "94767bc6d12676dfe64a86c8dd6db7386b7aca76593bcf319c6ed1b133d6bbad", func := "gasolier/gasolierlaw05.FogSights", spec := "fogSights", unfollowed := true, recurses := true, apart := false }
def FogSightsSaid : Prop := fogSightsRow.holds Tryz.pinned (OpenSpec.ofChange fogSightsSpec)

/-- ITS FALSE NEIGHBOUR: 'it returns false'. Refute it at one input. -/
def fogSightsWrong : ChangeSpec := { name := "fogSights", fn := fun _ => fun
  | [d1, d2, d3] => { results := [.lit (.bool false)], args := [d1, d2, d3] }
  | _ => none }
def FogSightsWrongFalsely : Prop := fogSightsRow.holds Tryz.pinned (OpenSpec.ofChange fogSightsWrong)

/-- 'gasolierlaw05.FogRunners': WHATEVER THE INPUT: true; the input reads as it did. -/
def fogRunnersSpec : ChangeSpec := { name := "fogRunners", fn := fun _ => fun
  | [d1, d2, d3] => { results := [.lit (.bool true)], args := [d1, d2, d3] }
  | _ => none }
def fogRunnersRow : OpenClaim := { program := "ytoekhnngdocddaagreat", sum := "94767bc6d12676dfe64a86c8dd6db7386b7aca76593bcf319c6ed1b133d6bbad", func := "gasolier/gasolierlaw05.FogRunners", spec := "fogRunners", unfollowed := true, recurses := true, apart := false }
def FogRunnersSaid : Prop := fogRunnersRow.holds Tryz.pinned (OpenSpec.ofChange fogRunnersSpec)

/-- ITS FALSE NEIGHBOUR: 'it returns false'. Refute it at one input. -/
def fogRunnersWrong : ChangeSpec := { name := "fogRunners", fn := fun _ => fun
  | [d1, d2, d3] => { results := [.lit (.bool false)], args := [d1, d2, d3] }
  | _ => none }
def FogRunnersWrongFalsely : Prop := fogRunnersRow.holds Tryz.pinned (OpenSpec.ofChange fogRunnersWrong)

/-- 'gasolierlaw05.FogStill': WHATEVER THE INPUT: true; the input reads as it did. -/
def fogStillSpec : ChangeSpec := { name := "fogStill", fn := fun _ => fun
  | [d1, d2, d3] => { results := [.lit (.bool true)], args := [d1, d2, d3] }
  | _ => none }
def fogStillRow : OpenClaim := { program := "ytoekhnngdocddaagreat", sum := "94767bc6d12676dfe64a86c8dd6db7386b7aca76593bcf319c6ed1b133d6bbad", func := "gasolier/gasolierlaw05.FogStill", spec := "fogStill", unfollowed := true, recurses := true, apart := false }
def FogStillSaid : Prop := fogStillRow.holds Tryz.pinned (OpenSpec.ofChange fogStillSpec)

/-- ITS FALSE NEIGHBOUR: 'it returns false'. Refute it at one input. -/
def fogStillWrong : ChangeSpec := { name := "fogStill", fn := fun _ => fun
  | [d1, d2, d3] => { results := [.lit (.bool false)], args := [d1, d2, d3] }
  | _ => none }
def FogStillWrongFalsely : Prop := fogStillRow.holds Tryz.pinned (OpenSpec.ofChange fogStillWrong)

/-- 'gasolierlaw05.FogPolicies': WHATEVER THE INPUT: true; the input reads as it did. -/
def fogPoliciesSpec : ChangeSpec := { name := "fogPolicies", fn := fun _ => fun
  | [d1, d2, d3] => { results := [.lit (.bool true)], args := [d1, d2, d3] }
  | _ => none }
def fogPoliciesRow : OpenClaim := { program := "ytoekhnngdocddaagreat", sum := "94767bc6d12676dfe64a86c8dd6db7386b7aca76593bcf319c6ed1b133d6bbad", func := "gasolier/gasolierlaw05.FogPolicies", spec := "fogPolicies", unfollowed := true, recurses := true, apart := false }
def FogPoliciesSaid : Prop := fogPoliciesRow.holds Tryz.pinned (OpenSpec.ofChange fogPoliciesSpec)

/-- ITS FALSE NEIGHBOUR: 'it returns false'. Refute it at one input. -/
def fogPoliciesWrong : ChangeSpec := { name := "fogPolicies", fn := fun _ => fun
  | [d1, d2, d3] => { results := [.lit (.bool false)], args := [d1, d2, d3] }
  | _ => none }
def FogPoliciesWrongFalsely : Prop := fogPoliciesRow.holds Tryz.pinned (OpenSpec.ofChange fogPoliciesWrong)

/-- 'gasolierlaw05.FogJoins': WHATEVER THE INPUT: true; the input reads as it did. -/
def fogJoinsSpec : ChangeSpec := { name := "fogJoins", fn := fun _ => fun
  | [d1, d2, d3] => { results := [.lit (.bool true)], args := [d1, d2, d3] }
  | _ => none }
def fogJoinsRow : OpenClaim := { program := "ytoekhnngdocddaagreat", sum := "94767bc6d12676dfe64a86c8dd6db7386b7aca76593bcf319c6ed1b133d6bbad", func := "gasolier/gasolierlaw05.FogJoins", spec := "fogJoins", inPlace := ["slices.overlaps[gasolier/api.Report]"], unfollowed := true, recurses := true, apart := false }
def FogJoinsSaid : Prop := fogJoinsRow.holds Tryz.pinned (OpenSpec.ofChange fogJoinsSpec)

/-- ITS FALSE NEIGHBOUR: 'it returns false'. Refute it at one input. -/
def fogJoinsWrong : ChangeSpec := { name := "fogJoins", fn := fun _ => fun
  | [d1, d2, d3] => { results := [.lit (.bool false)], args := [d1, d2, d3] }
  | _ => none }
def FogJoinsWrongFalsely : Prop := fogJoinsRow.holds Tryz.pinned (OpenSpec.ofChange fogJoinsWrong)

/-- 'gasolierlaw05.FogReports': WHATEVER THE INPUT: true; the input reads as it did. -/
def fogReportsSpec : ChangeSpec := { name := "fogReports", fn := fun _ => fun
  | [d1, d2, d3] => { results := [.lit (.bool true)], args := [d1, d2, d3] }
  | _ => none }
def fogReportsRow : OpenClaim := { program := "ytoekhnngdocddaagreat", sum := "94767bc6d12676dfe64a86c8dd6db7386b7aca76593bcf319c6ed1b133d6bbad", func := "gasolier/gasolierlaw05.FogReports", spec := "fogReports", inPlace := ["slices.overlaps[gasolier/api.Report]"], unfollowed := true, recurses := true, apart := false }
def FogReportsSaid : Prop := fogReportsRow.holds Tryz.pinned (OpenSpec.ofChange fogReportsSpec)

/-- ITS FALSE NEIGHBOUR: 'it returns false'. Refute it at one input. -/
def fogReportsWrong : ChangeSpec := { name := "fogReports", fn := fun _ => fun
  | [d1, d2, d3] => { results := [.lit (.bool false)], args := [d1, d2, d3] }
  | _ => none }
def FogReportsWrongFalsely : Prop := fogReportsRow.holds Tryz.pinned (OpenSpec.ofChange fogReportsWrong)

/- THE SECOND FORM. 'bulk': how many values and letters a reading holds, each counted each time it is reached (what is shared counts as often as it is met; a slice's spare places count too). A statement '..UptoSaid' is the law's where the arguments, and the package variables that the reading takes, are together of bulk at most 1048576: NARROWER than '..Said'. Prove '..Said' where nothing that the law and all that it calls make is longer than what came in: it says more and counts as full. Else prove '..UptoSaid'. A law counts once. -/
mutual
def uptoBulk {H : Type} : DataW H → Nat
  | .lit (.string bytes) => bytes.length + 1
  | .lit _ => 1
  | .nil => 1
  | .ptr d => uptoBulk d + 1
  | .slice elems spare => uptoBulkAll elems + uptoBulkAll spare + 1
  | .agg parts => uptoBulkAll parts + 1
  | .iface _ d => uptoBulk d + 1
  | .map entries => uptoBulkEntries entries + 1
  | .held _ => 1
def uptoBulkAll {H : Type} : List (DataW H) → Nat
  | [] => 0
  | d :: r => uptoBulk d + uptoBulkAll r
def uptoBulkEntries {H : Type} : List (Lit × DataW H) → Nat
  | [] => 0
  | x :: r => uptoBulkEntry x + uptoBulkEntries r
def uptoBulkEntry {H : Type} : Lit × DataW H → Nat
  | (.string bytes, d) => bytes.length + uptoBulk d + 1
  | (_, d) => uptoBulk d + 1
 end
def uptoSmall : (H : Type) → List (DataW H) → Bool := fun _ ds => decide (uptoBulkAll ds ≤ 1048576)
def OpenSpec.upto (s : _root_.Go.ChangeSpec) : _root_.Go.OpenSpec := { _root_.Go.OpenSpec.ofChange s with cond := some uptoSmall }

/-- 'gasolierlaw05.FogMoves', WHERE WHAT IT READS IS OF BULK AT MOST 1048576: true; the input reads as it did. -/
def fogMovesUptoRow : OpenClaim := { program := "ytoekhnngdocddaagreat", sum := "94767bc6d12676dfe64a86c8dd6db7386b7aca76593bcf319c6ed1b133d6bbad", func := "gasolier/gasolierlaw05.FogMoves", spec := "fogMoves", unfollowed := true, recurses := true, apart := false, narrowed := true }
def FogMovesUptoSaid : Prop := fogMovesUptoRow.holds Tryz.pinned (OpenSpec.upto fogMovesSpec)

/-- 'gasolierlaw05.FogSights', WHERE WHAT IT READS IS OF BULK AT MOST 1048576: true; the input reads as it did. -/
def fogSightsUptoRow : OpenClaim := { program := "ytoekhnngdocddaagreat", sum := "94767bc6d12676dfe64a86c8dd6db7386b7aca76593bcf319c6ed1b133d6bbad", func := "gasolier/gasolierlaw05.FogSights", spec := "fogSights", unfollowed := true, recurses := true, apart := false, narrowed := true }
def FogSightsUptoSaid : Prop := fogSightsUptoRow.holds Tryz.pinned (OpenSpec.upto fogSightsSpec)

/-- 'gasolierlaw05.FogRunners', WHERE WHAT IT READS IS OF BULK AT MOST 1048576: true; the input reads as it did. -/
def fogRunnersUptoRow : OpenClaim := { program := "ytoekhnngdocddaagreat", sum := "94767bc6d12676dfe64a86c8dd6db7386b7aca76593bcf319c6ed1b133d6bbad", func := "gasolier/gasolierlaw05.FogRunners", spec := "fogRunners", unfollowed := true, recurses := true, apart := false, narrowed := true }
def FogRunnersUptoSaid : Prop := fogRunnersUptoRow.holds Tryz.pinned (OpenSpec.upto fogRunnersSpec)

/-- 'gasolierlaw05.FogStill', WHERE WHAT IT READS IS OF BULK AT MOST 1048576: true; the input reads as it did. -/
def fogStillUptoRow : OpenClaim := { program := "ytoekhnngdocddaagreat", sum := "94767bc6d12676dfe64a86c8dd6db7386b7aca76593bcf319c6ed1b133d6bbad", func := "gasolier/gasolierlaw05.FogStill", spec := "fogStill", unfollowed := true, recurses := true, apart := false, narrowed := true }
def FogStillUptoSaid : Prop := fogStillUptoRow.holds Tryz.pinned (OpenSpec.upto fogStillSpec)

/-- 'gasolierlaw05.FogPolicies', WHERE WHAT IT READS IS OF BULK AT MOST 1048576: true; the input reads as it did. -/
def fogPoliciesUptoRow : OpenClaim := { program := "ytoekhnngdocddaagreat", sum := "94767bc6d12676dfe64a86c8dd6db7386b7aca76593bcf319c6ed1b133d6bbad", func := "gasolier/gasolierlaw05.FogPolicies", spec := "fogPolicies", unfollowed := true, recurses := true, apart := false, narrowed := true }
def FogPoliciesUptoSaid : Prop := fogPoliciesUptoRow.holds Tryz.pinned (OpenSpec.upto fogPoliciesSpec)

/-- 'gasolierlaw05.FogJoins', WHERE WHAT IT READS IS OF BULK AT MOST 1048576: true; the input reads as it did. -/
def fogJoinsUptoRow : OpenClaim := { program := "ytoekhnngdocddaagreat", sum := "94767bc6d12676dfe64a86c8dd6db7386b7aca76593bcf319c6ed1b133d6bbad", func := "gasolier/gasolierlaw05.FogJoins", spec := "fogJoins", inPlace := ["slices.overlaps[gasolier/api.Report]"], unfollowed := true, recurses := true, apart := false, narrowed := true }
def FogJoinsUptoSaid : Prop := fogJoinsUptoRow.holds Tryz.pinned (OpenSpec.upto fogJoinsSpec)

/-- 'gasolierlaw05.FogReports', WHERE WHAT IT READS IS OF BULK AT MOST 1048576: true; the input reads as it did. -/
def fogReportsUptoRow : OpenClaim := { program := "ytoekhnngdocddaagreat", sum := "94767bc6d12676dfe64a86c8dd6db7386b7aca76593bcf319c6ed1b133d6bbad", func := "gasolier/gasolierlaw05.FogReports", spec := "fogReports", inPlace := ["slices.overlaps[gasolier/api.Report]"], unfollowed := true, recurses := true, apart := false, narrowed := true }
def FogReportsUptoSaid : Prop := fogReportsUptoRow.holds Tryz.pinned (OpenSpec.upto fogReportsSpec)

end Rows
end Go.Proofs.YtoekhnngdocddaaGreat
