/-
  No cell of these rows narrows 'for every input' (looked for: loops, veiled, ifaces, maps, wideKeys, modest, calm, conditions, laid).
  DERIVED. THE GIVEN ROWS OF THIS SEAT. 7 by the template 'for every input the law returns true; each argument reads behind the call as it read before'; 0 by the template 'total and deterministic' (their statements: YtoekhnngdocddaaTotals.lean).
  GIVEN WITH THE SEED: the statements are not yours to turn. If you find one false, say at which input.
  Laid BY PROGRAM, IN A SANDBOX (cutbox-rows.mjs): the forced cells as the released guide's own fill.sh prints them over the translation b0cbd9e53d75e8bd… (all of the seat's roots in one cut). By AI agents, Wed Nov 11 2026. No macro, syntax, notation, axiom, sorry.
-/
import Derived.Test.YtoekhnngdocddaaChecked
import GoSem.Claim
import GoSem.ClaimJoined
import GoSem.ClaimMapViews
import Derived.JoinedTies
import Derived.KernelRfl
namespace Go.Proofs.Ytoekhnngdocddaa
/- THE CELL 'sum', in the pinned program and in every row, IS THE sha256 OF THE DUMP (.gsa) THAT YtoekhnngdocddaaProg.lean LOADS. Nothing in Lean hashes anything: it is a label: what it is worth is what the hold of that sum in a sandbox is worth. -/
noncomputable def Try.pinned : Pinned := { name := "ytoekhnngdocddaa", sum := "b0cbd9e53d75e8bd2ec278484179d95c99f9457d6071a0309c808e0f936d0199", checked := Try.checked }
namespace Rows
def none {H : Type} : Left H := { results := [], args := [] }

/-- 'gasolierlaw05.FogForesight': WHATEVER THE INPUT: true; the input reads as it did. -/
def fogForesightSpec : ChangeSpec := { name := "fogForesight", fn := fun _ => fun
  | [d1, d2, d3] => { results := [.lit (.bool true)], args := [d1, d2, d3] }
  | _ => none }
def fogForesightRow : OpenClaim := { program := "ytoekhnngdocddaa", sum := "b0cbd9e53d75e8bd2ec278484179d95c99f9457d6071a0309c808e0f936d0199", func := "gasolier/gasolierlaw05.FogForesight", spec := "fogForesight", unfollowed := true, recurses := true, apart := false }
def FogForesightSaid : Prop := fogForesightRow.holds Try.pinned (OpenSpec.ofChange fogForesightSpec)

/-- ITS FALSE NEIGHBOUR: 'it returns false'. Refute it at one input. -/
def fogForesightWrong : ChangeSpec := { name := "fogForesight", fn := fun _ => fun
  | [d1, d2, d3] => { results := [.lit (.bool false)], args := [d1, d2, d3] }
  | _ => none }
def FogForesightWrongFalsely : Prop := fogForesightRow.holds Try.pinned (OpenSpec.ofChange fogForesightWrong)

/-- 'gasolierlaw05.FogMoved': WHATEVER THE INPUT: true; the input reads as it did. -/
def fogMovedSpec : ChangeSpec := { name := "fogMoved", fn := fun _ => fun
  | [d1, d2, d3] => { results := [.lit (.bool true)], args := [d1, d2, d3] }
  | _ => none }
def fogMovedRow : OpenClaim := { program := "ytoekhnngdocddaa", sum := "b0cbd9e53d75e8bd2ec278484179d95c99f9457d6071a0309c808e0f936d0199", func := "gasolier/gasolierlaw05.FogMoved", spec := "fogMoved", unfollowed := true, recurses := true, apart := false }
def FogMovedSaid : Prop := fogMovedRow.holds Try.pinned (OpenSpec.ofChange fogMovedSpec)

/-- ITS FALSE NEIGHBOUR: 'it returns false'. Refute it at one input. -/
def fogMovedWrong : ChangeSpec := { name := "fogMoved", fn := fun _ => fun
  | [d1, d2, d3] => { results := [.lit (.bool false)], args := [d1, d2, d3] }
  | _ => none }
def FogMovedWrongFalsely : Prop := fogMovedRow.holds Try.pinned (OpenSpec.ofChange fogMovedWrong)

/-- 'gasolierlaw05.FogKept': WHATEVER THE INPUT: true; the input reads as it did. -/
def fogKeptSpec : ChangeSpec := { name := "fogKept", fn := fun _ => fun
  | [d1, d2, d3] => { results := [.lit (.bool true)], args := [d1, d2, d3] }
  | _ => none }
def fogKeptRow : OpenClaim := { program := "ytoekhnngdocddaa", sum := "b0cbd9e53d75e8bd2ec278484179d95c99f9457d6071a0309c808e0f936d0199", func := "gasolier/gasolierlaw05.FogKept", spec := "fogKept", unfollowed := true, recurses := true, apart := false }
def FogKeptSaid : Prop := fogKeptRow.holds Try.pinned (OpenSpec.ofChange fogKeptSpec)

/-- ITS FALSE NEIGHBOUR: 'it returns false'. Refute it at one input. -/
def fogKeptWrong : ChangeSpec := { name := "fogKept", fn := fun _ => fun
  | [d1, d2, d3] => { results := [.lit (.bool false)], args := [d1, d2, d3] }
  | _ => none }
def FogKeptWrongFalsely : Prop := fogKeptRow.holds Try.pinned (OpenSpec.ofChange fogKeptWrong)

/-- 'gasolierlaw05.FogTrue': WHATEVER THE INPUT: true; the input reads as it did. -/
def fogTrueSpec : ChangeSpec := { name := "fogTrue", fn := fun _ => fun
  | [d1, d2, d3] => { results := [.lit (.bool true)], args := [d1, d2, d3] }
  | _ => none }
def fogTrueRow : OpenClaim := { program := "ytoekhnngdocddaa", sum := "b0cbd9e53d75e8bd2ec278484179d95c99f9457d6071a0309c808e0f936d0199", func := "gasolier/gasolierlaw05.FogTrue", spec := "fogTrue", unfollowed := true, recurses := true, apart := false }
def FogTrueSaid : Prop := fogTrueRow.holds Try.pinned (OpenSpec.ofChange fogTrueSpec)

/-- ITS FALSE NEIGHBOUR: 'it returns false'. Refute it at one input. -/
def fogTrueWrong : ChangeSpec := { name := "fogTrue", fn := fun _ => fun
  | [d1, d2, d3] => { results := [.lit (.bool false)], args := [d1, d2, d3] }
  | _ => none }
def FogTrueWrongFalsely : Prop := fogTrueRow.holds Try.pinned (OpenSpec.ofChange fogTrueWrong)

/-- 'gasolierlaw05.FogClashes': WHATEVER THE INPUT: true; the input reads as it did. -/
def fogClashesSpec : ChangeSpec := { name := "fogClashes", fn := fun _ => fun
  | [d1, d2, d3] => { results := [.lit (.bool true)], args := [d1, d2, d3] }
  | _ => none }
def fogClashesRow : OpenClaim := { program := "ytoekhnngdocddaa", sum := "b0cbd9e53d75e8bd2ec278484179d95c99f9457d6071a0309c808e0f936d0199", func := "gasolier/gasolierlaw05.FogClashes", spec := "fogClashes", unfollowed := true, recurses := true, apart := false }
def FogClashesSaid : Prop := fogClashesRow.holds Try.pinned (OpenSpec.ofChange fogClashesSpec)

/-- ITS FALSE NEIGHBOUR: 'it returns false'. Refute it at one input. -/
def fogClashesWrong : ChangeSpec := { name := "fogClashes", fn := fun _ => fun
  | [d1, d2, d3] => { results := [.lit (.bool false)], args := [d1, d2, d3] }
  | _ => none }
def FogClashesWrongFalsely : Prop := fogClashesRow.holds Try.pinned (OpenSpec.ofChange fogClashesWrong)

/-- 'gasolierlaw05.FogShown': WHATEVER THE INPUT: true; the input reads as it did. -/
def fogShownSpec : ChangeSpec := { name := "fogShown", fn := fun _ => fun
  | [d1, d2, d3] => { results := [.lit (.bool true)], args := [d1, d2, d3] }
  | _ => none }
def fogShownRow : OpenClaim := { program := "ytoekhnngdocddaa", sum := "b0cbd9e53d75e8bd2ec278484179d95c99f9457d6071a0309c808e0f936d0199", func := "gasolier/gasolierlaw05.FogShown", spec := "fogShown", unfollowed := true, recurses := true, apart := false }
def FogShownSaid : Prop := fogShownRow.holds Try.pinned (OpenSpec.ofChange fogShownSpec)

/-- ITS FALSE NEIGHBOUR: 'it returns false'. Refute it at one input. -/
def fogShownWrong : ChangeSpec := { name := "fogShown", fn := fun _ => fun
  | [d1, d2, d3] => { results := [.lit (.bool false)], args := [d1, d2, d3] }
  | _ => none }
def FogShownWrongFalsely : Prop := fogShownRow.holds Try.pinned (OpenSpec.ofChange fogShownWrong)

/-- 'gasolierlaw05.FogEither': WHATEVER THE INPUT: true; the input reads as it did. -/
def fogEitherSpec : ChangeSpec := { name := "fogEither", fn := fun _ => fun
  | [d1, d2, d3] => { results := [.lit (.bool true)], args := [d1, d2, d3] }
  | _ => none }
def fogEitherRow : OpenClaim := { program := "ytoekhnngdocddaa", sum := "b0cbd9e53d75e8bd2ec278484179d95c99f9457d6071a0309c808e0f936d0199", func := "gasolier/gasolierlaw05.FogEither", spec := "fogEither", unfollowed := true, recurses := true, apart := false }
def FogEitherSaid : Prop := fogEitherRow.holds Try.pinned (OpenSpec.ofChange fogEitherSpec)

/-- ITS FALSE NEIGHBOUR: 'it returns false'. Refute it at one input. -/
def fogEitherWrong : ChangeSpec := { name := "fogEither", fn := fun _ => fun
  | [d1, d2, d3] => { results := [.lit (.bool false)], args := [d1, d2, d3] }
  | _ => none }
def FogEitherWrongFalsely : Prop := fogEitherRow.holds Try.pinned (OpenSpec.ofChange fogEitherWrong)

/- THE SECOND FORM. 'bulk': how many values and letters a reading holds, each counted each time it is reached (what is shared counts as often as it is met; a slice's spare places count too). A statement '..UptoSaid' is the law's where the arguments, and the package variables that the reading takes, are together of bulk at most 1048576: NARROWER than '..Said'. Prove '..Said' where nothing that the law and all that it calls make is longer than what came in: it says more and counts as full. Else prove '..UptoSaid'. A law counts once. -/
mutual
def uptoBulk {H : Type} : DataW H → Nat
  | .lit (.string bytes) => bytes.length + 1
  | .lit _ => 1
  | .nil => 1
  | .ptr d => uptoBulk d + 1
  | .slice elems spare => uptoBulkAll elems + uptoBulkAll spare + 1
  | .agg parts => uptoBulkAll parts + 1
  | .iface _ d => uptoBulk d + 1
  | .map entries => uptoBulkEntries entries + 1
  | .held _ => 1
def uptoBulkAll {H : Type} : List (DataW H) → Nat
  | [] => 0
  | d :: r => uptoBulk d + uptoBulkAll r
def uptoBulkEntries {H : Type} : List (Lit × DataW H) → Nat
  | [] => 0
  | x :: r => uptoBulkEntry x + uptoBulkEntries r
def uptoBulkEntry {H : Type} : Lit × DataW H → Nat
  | (.string bytes, d) => bytes.length + uptoBulk d + 1
  | (_, d) => uptoBulk d + 1
 end
def uptoSmall : (H : Type) → List (DataW H) → Bool := fun _ ds => decide (uptoBulkAll ds ≤ 1048576)
def OpenSpec.upto (s : _root_.Go.ChangeSpec) : _root_.Go.OpenSpec := { _root_.Go.OpenSpec.ofChange s with cond := some uptoSmall }

/-- 'gasolierlaw05.FogForesight', WHERE WHAT IT READS IS OF BULK AT MOST 1048576: true; the input reads as it did. -/
def fogForesightUptoRow : OpenClaim := { program := "ytoekhnngdocddaa", sum := "b0cbd9e53d75e8bd2ec278484179d95c99f9457d6071a0309c808e0f936d0199", func := "gasolier/gasolierlaw05.FogForesight", spec := "fogForesight", unfollowed := true, recurses := true, apart := false, narrowed := true }
def FogForesightUptoSaid : Prop := fogForesightUptoRow.holds Try.pinned (OpenSpec.upto fogForesightSpec)

/-- 'gasolierlaw05.FogMoved', WHERE WHAT IT READS IS OF BULK AT MOST 1048576: true; the input reads as it did. -/
def fogMovedUptoRow : OpenClaim := { program := "ytoekhnngdocddaa", sum := "b0cbd9e53d75e8bd2ec278484179d95c99f9457d6071a0309c808e0f936d0199", func := "gasolier/gasolierlaw05.FogMoved", spec := "fogMoved", unfollowed := true, recurses := true, apart := false, narrowed := true }
def FogMovedUptoSaid : Prop := fogMovedUptoRow.holds Try.pinned (OpenSpec.upto fogMovedSpec)

/-- 'gasolierlaw05.FogKept', WHERE WHAT IT READS IS OF BULK AT MOST 1048576: true; the input reads as it did. -/
def fogKeptUptoRow : OpenClaim := { program := "ytoekhnngdocddaa", sum := "b0cbd9e53d75e8bd2ec278484179d95c99f9457d6071a0309c808e0f936d0199", func := "gasolier/gasolierlaw05.FogKept", spec := "fogKept", unfollowed := true, recurses := true, apart := false, narrowed := true }
def FogKeptUptoSaid : Prop := fogKeptUptoRow.holds Try.pinned (OpenSpec.upto fogKeptSpec)

/-- 'gasolierlaw05.FogTrue', WHERE WHAT IT READS IS OF BULK AT MOST 1048576: true; the input reads as it did. -/
def fogTrueUptoRow : OpenClaim := { program := "ytoekhnngdocddaa", sum := "b0cbd9e53d75e8bd2ec278484179d95c99f9457d6071a0309c808e0f936d0199", func := "gasolier/gasolierlaw05.FogTrue", spec := "fogTrue", unfollowed := true, recurses := true, apart := false, narrowed := true }
def FogTrueUptoSaid : Prop := fogTrueUptoRow.holds Try.pinned (OpenSpec.upto fogTrueSpec)

/-- 'gasolierlaw05.FogClashes', WHERE WHAT IT READS IS OF BULK AT MOST 1048576: true; the input reads as it did. -/
def fogClashesUptoRow : OpenClaim := { program := "ytoekhnngdocddaa", sum := "b0cbd9e53d75e8bd2ec278484179d95c99f9457d6071a0309c808e0f936d0199", func := "gasolier/gasolierlaw05.FogClashes", spec := "fogClashes", unfollowed := true, recurses := true, apart := false, narrowed := true }
def FogClashesUptoSaid : Prop := fogClashesUptoRow.holds Try.pinned (OpenSpec.upto fogClashesSpec)

/-- 'gasolierlaw05.FogShown', WHERE WHAT IT READS IS OF BULK AT MOST 1048576: true; the input reads as it did. -/
def fogShownUptoRow : OpenClaim := { program := "ytoekhnngdocddaa", sum := "b0cbd9e53d75e8bd2ec278484179d95c99f9457d6071a0309c808e0f936d0199", func := "gasolier/gasolierlaw05.FogShown", spec := "fogShown", unfollowed := true, recurses := true, apart := false, narrowed := true }
def FogShownUptoSaid : Prop := fogShownUptoRow.holds Try.pinned (OpenSpec.upto fogShownSpec)

/-- 'gasolierlaw05.FogEither', WHERE WHAT IT READS IS OF BULK AT MOST 1048576: true; the input reads as it did. -/
def fogEitherUptoRow : OpenClaim := { program := "ytoekhnngdocddaa", sum := "b0cbd9e53d75e8bd2ec278484179d95c99f9457d6071a0309c808e0f936d0199", func := "gasolier/gasolierlaw05.FogEither", spec := "fogEither", unfollowed := true, recurses := true, apart := false, narrowed := true }
def FogEitherUptoSaid : Prop := fogEitherUptoRow.holds Try.pinned (OpenSpec.upto fogEitherSpec)

end Rows
end Go.Proofs.Ytoekhnngdocddaa
