/-
  No cell of these rows narrows 'for every input' (looked for: loops, veiled, ifaces, maps, wideKeys, modest, calm, conditions, laid).
  DERIVED. THE GIVEN ROWS OF THIS SEAT. 13 by the template 'for every input the law returns true; each argument reads behind the call as it read before'; 0 by the template 'total and deterministic' (their statements: YtjeolkdhicmhgaaTotals.lean).
  GIVEN WITH THE SEED: the statements are not yours to turn. If you find one false, say at which input.
  Laid BY PROGRAM, IN A SANDBOX (cutbox-rows.mjs): the forced cells as the released guide's own fill.sh prints them over the translation 1e61d058fffa45ce… (all of the seat's roots in one cut). By AI agents, Wed Nov 11 2026. No macro, syntax, notation, axiom, sorry.
-/
import Derived.Test.YtjeolkdhicmhgaaChecked
import GoSem.Claim
import GoSem.ClaimJoined
import GoSem.ClaimMapViews
import Derived.JoinedTies
import Derived.KernelRfl
namespace Go.Proofs.Ytjeolkdhicmhgaa
/- THE CELL 'sum', in the pinned program and in every row, IS THE sha256 OF THE DUMP (.gsa) THAT YtjeolkdhicmhgaaProg.lean LOADS. Nothing in Lean hashes anything: it is a label: what it is worth is what the hold of that sum in a sandbox is worth. -/
noncomputable def Try.pinned : Pinned := { name := "ytjeolkdhicmhgaa", sum := "1e61d058fffa45ce1d4a173a2485434dd255d83bcd4a4c3fc985b53cf349da24", checked := Try.checked }
namespace Rows
def none {H : Type} : Left H := { results := [], args := [] }

/-- 'gasolierlaw03.RoundMoves': WHATEVER THE INPUT: true; the input reads as it did. -/
def roundMovesSpec : ChangeSpec := { name := "roundMoves", fn := fun _ => fun
  | [d1, d2, d3] => { results := [.lit (.bool true)], args := [d1, d2, d3] }
  | _ => none }
def roundMovesRow : OpenClaim := { program := "ytjeolkdhicmhgaa", sum := "1e61d058fffa45ce1d4a173a2485434dd255d83bcd4a4c3fc985b53cf349da24", func := "gasolier/gasolierlaw03.RoundMoves", spec := "roundMoves", unfollowed := true, recurses := true, apart := false }
def RoundMovesSaid : Prop := roundMovesRow.holds Try.pinned (OpenSpec.ofChange roundMovesSpec)

/-- ITS FALSE NEIGHBOUR: 'it returns false'. Refute it at one input. -/
def roundMovesWrong : ChangeSpec := { name := "roundMoves", fn := fun _ => fun
  | [d1, d2, d3] => { results := [.lit (.bool false)], args := [d1, d2, d3] }
  | _ => none }
def RoundMovesWrongFalsely : Prop := roundMovesRow.holds Try.pinned (OpenSpec.ofChange roundMovesWrong)

/-- 'gasolierlaw03.RoundSure': WHATEVER THE INPUT: true; the input reads as it did. -/
def roundSureSpec : ChangeSpec := { name := "roundSure", fn := fun _ => fun
  | [d1, d2] => { results := [.lit (.bool true)], args := [d1, d2] }
  | _ => none }
def roundSureRow : OpenClaim := { program := "ytjeolkdhicmhgaa", sum := "1e61d058fffa45ce1d4a173a2485434dd255d83bcd4a4c3fc985b53cf349da24", func := "gasolier/gasolierlaw03.RoundSure", spec := "roundSure", unfollowed := true, recurses := true, apart := false }
def RoundSureSaid : Prop := roundSureRow.holds Try.pinned (OpenSpec.ofChange roundSureSpec)

/-- ITS FALSE NEIGHBOUR: 'it returns false'. Refute it at one input. -/
def roundSureWrong : ChangeSpec := { name := "roundSure", fn := fun _ => fun
  | [d1, d2] => { results := [.lit (.bool false)], args := [d1, d2] }
  | _ => none }
def RoundSureWrongFalsely : Prop := roundSureRow.holds Try.pinned (OpenSpec.ofChange roundSureWrong)

/-- 'gasolierlaw03.RoundLater': WHATEVER THE INPUT: true; the input reads as it did. -/
def roundLaterSpec : ChangeSpec := { name := "roundLater", fn := fun _ => fun
  | [d1, d2] => { results := [.lit (.bool true)], args := [d1, d2] }
  | _ => none }
def roundLaterRow : OpenClaim := { program := "ytjeolkdhicmhgaa", sum := "1e61d058fffa45ce1d4a173a2485434dd255d83bcd4a4c3fc985b53cf349da24", func := "gasolier/gasolierlaw03.RoundLater", spec := "roundLater", unfollowed := true, recurses := true, apart := false }
def RoundLaterSaid : Prop := roundLaterRow.holds Try.pinned (OpenSpec.ofChange roundLaterSpec)

/-- ITS FALSE NEIGHBOUR: 'it returns false'. Refute it at one input. -/
def roundLaterWrong : ChangeSpec := { name := "roundLater", fn := fun _ => fun
  | [d1, d2] => { results := [.lit (.bool false)], args := [d1, d2] }
  | _ => none }
def RoundLaterWrongFalsely : Prop := roundLaterRow.holds Try.pinned (OpenSpec.ofChange roundLaterWrong)

/-- 'gasolierlaw03.RoundMatrix': WHATEVER THE INPUT: true; the input reads as it did. -/
def roundMatrixSpec : ChangeSpec := { name := "roundMatrix", fn := fun _ => fun
  | [d1, d2] => { results := [.lit (.bool true)], args := [d1, d2] }
  | _ => none }
def roundMatrixRow : OpenClaim := { program := "ytjeolkdhicmhgaa", sum := "1e61d058fffa45ce1d4a173a2485434dd255d83bcd4a4c3fc985b53cf349da24", func := "gasolier/gasolierlaw03.RoundMatrix", spec := "roundMatrix", unfollowed := true, recurses := true, apart := false }
def RoundMatrixSaid : Prop := roundMatrixRow.holds Try.pinned (OpenSpec.ofChange roundMatrixSpec)

/-- ITS FALSE NEIGHBOUR: 'it returns false'. Refute it at one input. -/
def roundMatrixWrong : ChangeSpec := { name := "roundMatrix", fn := fun _ => fun
  | [d1, d2] => { results := [.lit (.bool false)], args := [d1, d2] }
  | _ => none }
def RoundMatrixWrongFalsely : Prop := roundMatrixRow.holds Try.pinned (OpenSpec.ofChange roundMatrixWrong)

/-- 'gasolierlaw03.RoundRounds': WHATEVER THE INPUT: true; the input reads as it did. -/
def roundRoundsSpec : ChangeSpec := { name := "roundRounds", fn := fun _ => fun
  | [d1, d2] => { results := [.lit (.bool true)], args := [d1, d2] }
  | _ => none }
def roundRoundsRow : OpenClaim := { program := "ytjeolkdhicmhgaa", sum := "1e61d058fffa45ce1d4a173a2485434dd255d83bcd4a4c3fc985b53cf349da24", func := "gasolier/gasolierlaw03.RoundRounds", spec := "roundRounds", unfollowed := true, recurses := true, apart := false }
def RoundRoundsSaid : Prop := roundRoundsRow.holds Try.pinned (OpenSpec.ofChange roundRoundsSpec)

/-- ITS FALSE NEIGHBOUR: 'it returns false'. Refute it at one input. -/
def roundRoundsWrong : ChangeSpec := { name := "roundRounds", fn := fun _ => fun
  | [d1, d2] => { results := [.lit (.bool false)], args := [d1, d2] }
  | _ => none }
def RoundRoundsWrongFalsely : Prop := roundRoundsRow.holds Try.pinned (OpenSpec.ofChange roundRoundsWrong)

/-- 'gasolierlaw03.RoundTimes': WHATEVER THE INPUT: true; the input reads as it did. -/
def roundTimesSpec : ChangeSpec := { name := "roundTimes", fn := fun _ => fun
  | [d1, d2, d3] => { results := [.lit (.bool true)], args := [d1, d2, d3] }
  | _ => none }
def roundTimesRow : OpenClaim := { program := "ytjeolkdhicmhgaa", sum := "1e61d058fffa45ce1d4a173a2485434dd255d83bcd4a4c3fc985b53cf349da24", func := "gasolier/gasolierlaw03.RoundTimes", spec := "roundTimes", unfollowed := true, recurses := true, apart := false }
def RoundTimesSaid : Prop := roundTimesRow.holds Try.pinned (OpenSpec.ofChange roundTimesSpec)

/-- ITS FALSE NEIGHBOUR: 'it returns false'. Refute it at one input. -/
def roundTimesWrong : ChangeSpec := { name := "roundTimes", fn := fun _ => fun
  | [d1, d2, d3] => { results := [.lit (.bool false)], args := [d1, d2, d3] }
  | _ => none }
def RoundTimesWrongFalsely : Prop := roundTimesRow.holds Try.pinned (OpenSpec.ofChange roundTimesWrong)

/-- 'gasolierlaw03.RoundWalks': WHATEVER THE INPUT: true; the input reads as it did. -/
def roundWalksSpec : ChangeSpec := { name := "roundWalks", fn := fun _ => fun
  | [d1, d2, d3] => { results := [.lit (.bool true)], args := [d1, d2, d3] }
  | _ => none }
def roundWalksRow : OpenClaim := { program := "ytjeolkdhicmhgaa", sum := "1e61d058fffa45ce1d4a173a2485434dd255d83bcd4a4c3fc985b53cf349da24", func := "gasolier/gasolierlaw03.RoundWalks", spec := "roundWalks", unfollowed := true, recurses := true, apart := false }
def RoundWalksSaid : Prop := roundWalksRow.holds Try.pinned (OpenSpec.ofChange roundWalksSpec)

/-- ITS FALSE NEIGHBOUR: 'it returns false'. Refute it at one input. -/
def roundWalksWrong : ChangeSpec := { name := "roundWalks", fn := fun _ => fun
  | [d1, d2, d3] => { results := [.lit (.bool false)], args := [d1, d2, d3] }
  | _ => none }
def RoundWalksWrongFalsely : Prop := roundWalksRow.holds Try.pinned (OpenSpec.ofChange roundWalksWrong)

/-- 'gasolierlaw03.RoundMarks': WHATEVER THE INPUT: true; the input reads as it did. -/
def roundMarksSpec : ChangeSpec := { name := "roundMarks", fn := fun _ => fun
  | [d1, d2, d3] => { results := [.lit (.bool true)], args := [d1, d2, d3] }
  | _ => none }
def roundMarksRow : OpenClaim := { program := "ytjeolkdhicmhgaa", sum := "1e61d058fffa45ce1d4a173a2485434dd255d83bcd4a4c3fc985b53cf349da24", func := "gasolier/gasolierlaw03.RoundMarks", spec := "roundMarks", unfollowed := true, recurses := true, apart := false }
def RoundMarksSaid : Prop := roundMarksRow.holds Try.pinned (OpenSpec.ofChange roundMarksSpec)

/-- ITS FALSE NEIGHBOUR: 'it returns false'. Refute it at one input. -/
def roundMarksWrong : ChangeSpec := { name := "roundMarks", fn := fun _ => fun
  | [d1, d2, d3] => { results := [.lit (.bool false)], args := [d1, d2, d3] }
  | _ => none }
def RoundMarksWrongFalsely : Prop := roundMarksRow.holds Try.pinned (OpenSpec.ofChange roundMarksWrong)

/-- 'gasolierlaw03.RoundPaths': WHATEVER THE INPUT: true; the input reads as it did. -/
def roundPathsSpec : ChangeSpec := { name := "roundPaths", fn := fun _ => fun
  | [d1, d2] => { results := [.lit (.bool true)], args := [d1, d2] }
  | _ => none }
def roundPathsRow : OpenClaim := { program := "ytjeolkdhicmhgaa", sum := "1e61d058fffa45ce1d4a173a2485434dd255d83bcd4a4c3fc985b53cf349da24", func := "gasolier/gasolierlaw03.RoundPaths", spec := "roundPaths", unfollowed := true, recurses := true, apart := false }
def RoundPathsSaid : Prop := roundPathsRow.holds Try.pinned (OpenSpec.ofChange roundPathsSpec)

/-- ITS FALSE NEIGHBOUR: 'it returns false'. Refute it at one input. -/
def roundPathsWrong : ChangeSpec := { name := "roundPaths", fn := fun _ => fun
  | [d1, d2] => { results := [.lit (.bool false)], args := [d1, d2] }
  | _ => none }
def RoundPathsWrongFalsely : Prop := roundPathsRow.holds Try.pinned (OpenSpec.ofChange roundPathsWrong)

/-- 'gasolierlaw03.RoundWays': WHATEVER THE INPUT: true; the input reads as it did. -/
def roundWaysSpec : ChangeSpec := { name := "roundWays", fn := fun _ => fun
  | [d1, d2] => { results := [.lit (.bool true)], args := [d1, d2] }
  | _ => none }
def roundWaysRow : OpenClaim := { program := "ytjeolkdhicmhgaa", sum := "1e61d058fffa45ce1d4a173a2485434dd255d83bcd4a4c3fc985b53cf349da24", func := "gasolier/gasolierlaw03.RoundWays", spec := "roundWays", unfollowed := true, recurses := true, apart := false }
def RoundWaysSaid : Prop := roundWaysRow.holds Try.pinned (OpenSpec.ofChange roundWaysSpec)

/-- ITS FALSE NEIGHBOUR: 'it returns false'. Refute it at one input. -/
def roundWaysWrong : ChangeSpec := { name := "roundWays", fn := fun _ => fun
  | [d1, d2] => { results := [.lit (.bool false)], args := [d1, d2] }
  | _ => none }
def RoundWaysWrongFalsely : Prop := roundWaysRow.holds Try.pinned (OpenSpec.ofChange roundWaysWrong)

/-- 'gasolierlaw03.RoundTrue': WHATEVER THE INPUT: true; the input reads as it did. -/
def roundTrueSpec : ChangeSpec := { name := "roundTrue", fn := fun _ => fun
  | [d1, d2] => { results := [.lit (.bool true)], args := [d1, d2] }
  | _ => none }
def roundTrueRow : OpenClaim := { program := "ytjeolkdhicmhgaa", sum := "1e61d058fffa45ce1d4a173a2485434dd255d83bcd4a4c3fc985b53cf349da24", func := "gasolier/gasolierlaw03.RoundTrue", spec := "roundTrue", unfollowed := true, recurses := true, apart := false }
def RoundTrueSaid : Prop := roundTrueRow.holds Try.pinned (OpenSpec.ofChange roundTrueSpec)

/-- ITS FALSE NEIGHBOUR: 'it returns false'. Refute it at one input. -/
def roundTrueWrong : ChangeSpec := { name := "roundTrue", fn := fun _ => fun
  | [d1, d2] => { results := [.lit (.bool false)], args := [d1, d2] }
  | _ => none }
def RoundTrueWrongFalsely : Prop := roundTrueRow.holds Try.pinned (OpenSpec.ofChange roundTrueWrong)

/-- 'gasolierlaw03.RoundCharts': WHATEVER THE INPUT: true; the input reads as it did. -/
def roundChartsSpec : ChangeSpec := { name := "roundCharts", fn := fun _ => fun
  | [d1, d2] => { results := [.lit (.bool true)], args := [d1, d2] }
  | _ => none }
def roundChartsRow : OpenClaim := { program := "ytjeolkdhicmhgaa", sum := "1e61d058fffa45ce1d4a173a2485434dd255d83bcd4a4c3fc985b53cf349da24", func := "gasolier/gasolierlaw03.RoundCharts", spec := "roundCharts", unfollowed := true, recurses := true, apart := false }
def RoundChartsSaid : Prop := roundChartsRow.holds Try.pinned (OpenSpec.ofChange roundChartsSpec)

/-- ITS FALSE NEIGHBOUR: 'it returns false'. Refute it at one input. -/
def roundChartsWrong : ChangeSpec := { name := "roundCharts", fn := fun _ => fun
  | [d1, d2] => { results := [.lit (.bool false)], args := [d1, d2] }
  | _ => none }
def RoundChartsWrongFalsely : Prop := roundChartsRow.holds Try.pinned (OpenSpec.ofChange roundChartsWrong)

/-- 'gasolierlaw03.RoundShown': WHATEVER THE INPUT: true; the input reads as it did. -/
def roundShownSpec : ChangeSpec := { name := "roundShown", fn := fun _ => fun
  | [d1, d2, d3] => { results := [.lit (.bool true)], args := [d1, d2, d3] }
  | _ => none }
def roundShownRow : OpenClaim := { program := "ytjeolkdhicmhgaa", sum := "1e61d058fffa45ce1d4a173a2485434dd255d83bcd4a4c3fc985b53cf349da24", func := "gasolier/gasolierlaw03.RoundShown", spec := "roundShown", unfollowed := true, recurses := true, apart := false }
def RoundShownSaid : Prop := roundShownRow.holds Try.pinned (OpenSpec.ofChange roundShownSpec)

/-- ITS FALSE NEIGHBOUR: 'it returns false'. Refute it at one input. -/
def roundShownWrong : ChangeSpec := { name := "roundShown", fn := fun _ => fun
  | [d1, d2, d3] => { results := [.lit (.bool false)], args := [d1, d2, d3] }
  | _ => none }
def RoundShownWrongFalsely : Prop := roundShownRow.holds Try.pinned (OpenSpec.ofChange roundShownWrong)

/- THE SECOND FORM. 'bulk': how many values and letters a reading holds, each counted each time it is reached (what is shared counts as often as it is met; a slice's spare places count too). A statement '..UptoSaid' is the law's where the arguments, and the package variables that the reading takes, are together of bulk at most 1048576: NARROWER than '..Said'. Prove '..Said' where nothing that the law and all that it calls make is longer than what came in: it says more and counts as full. Else prove '..UptoSaid'. A law counts once. -/
mutual
def uptoBulk {H : Type} : DataW H → Nat
  | .lit (.string bytes) => bytes.length + 1
  | .lit _ => 1
  | .nil => 1
  | .ptr d => uptoBulk d + 1
  | .slice elems spare => uptoBulkAll elems + uptoBulkAll spare + 1
  | .agg parts => uptoBulkAll parts + 1
  | .iface _ d => uptoBulk d + 1
  | .map entries => uptoBulkEntries entries + 1
  | .held _ => 1
def uptoBulkAll {H : Type} : List (DataW H) → Nat
  | [] => 0
  | d :: r => uptoBulk d + uptoBulkAll r
def uptoBulkEntries {H : Type} : List (Lit × DataW H) → Nat
  | [] => 0
  | x :: r => uptoBulkEntry x + uptoBulkEntries r
def uptoBulkEntry {H : Type} : Lit × DataW H → Nat
  | (.string bytes, d) => bytes.length + uptoBulk d + 1
  | (_, d) => uptoBulk d + 1
 end
def uptoSmall : (H : Type) → List (DataW H) → Bool := fun _ ds => decide (uptoBulkAll ds ≤ 1048576)
def OpenSpec.upto (s : _root_.Go.ChangeSpec) : _root_.Go.OpenSpec := { _root_.Go.OpenSpec.ofChange s with cond := some uptoSmall }

/-- 'gasolierlaw03.RoundMoves', WHERE WHAT IT READS IS OF BULK AT MOST 1048576: true; the input reads as it did. -/
def roundMovesUptoRow : OpenClaim := { program := "ytjeolkdhicmhgaa", sum := "1e61d058fffa45ce1d4a173a2485434dd255d83bcd4a4c3fc985b53cf349da24", func := "gasolier/gasolierlaw03.RoundMoves", spec := "roundMoves", unfollowed := true, recurses := true, apart := false, narrowed := true }
def RoundMovesUptoSaid : Prop := roundMovesUptoRow.holds Try.pinned (OpenSpec.upto roundMovesSpec)

/-- 'gasolierlaw03.RoundSure', WHERE WHAT IT READS IS OF BULK AT MOST 1048576: true; the input reads as it did. -/
def roundSureUptoRow : OpenClaim := { program := "ytjeolkdhicmhgaa", sum := "1e61d058fffa45ce1d4a173a2485434dd255d83bcd4a4c3fc985b53cf349da24", func := "gasolier/gasolierlaw03.RoundSure", spec := "roundSure", unfollowed := true, recurses := true, apart := false, narrowed := true }
def RoundSureUptoSaid : Prop := roundSureUptoRow.holds Try.pinned (OpenSpec.upto roundSureSpec)

/-- 'gasolierlaw03.RoundLater', WHERE WHAT IT READS IS OF BULK AT MOST 1048576: true; the input reads as it did. -/
def roundLaterUptoRow : OpenClaim := { program := "ytjeolkdhicmhgaa", sum := "1e61d058fffa45ce1d4a173a2485434dd255d83bcd4a4c3fc985b53cf349da24", func := "gasolier/gasolierlaw03.RoundLater", spec := "roundLater", unfollowed := true, recurses := true, apart := false, narrowed := true }
def RoundLaterUptoSaid : Prop := roundLaterUptoRow.holds Try.pinned (OpenSpec.upto roundLaterSpec)

/-- 'gasolierlaw03.RoundMatrix', WHERE WHAT IT READS IS OF BULK AT MOST 1048576: true; the input reads as it did. -/
def roundMatrixUptoRow : OpenClaim := { program := "ytjeolkdhicmhgaa", sum := "1e61d058fffa45ce1d4a173a2485434dd255d83bcd4a4c3fc985b53cf349da24", func := "gasolier/gasolierlaw03.RoundMatrix", spec := "roundMatrix", unfollowed := true, recurses := true, apart := false, narrowed := true }
def RoundMatrixUptoSaid : Prop := roundMatrixUptoRow.holds Try.pinned (OpenSpec.upto roundMatrixSpec)

/-- 'gasolierlaw03.RoundRounds', WHERE WHAT IT READS IS OF BULK AT MOST 1048576: true; the input reads as it did. -/
def roundRoundsUptoRow : OpenClaim := { program := "ytjeolkdhicmhgaa", sum := "1e61d058fffa45ce1d4a173a2485434dd255d83bcd4a4c3fc985b53cf349da24", func := "gasolier/gasolierlaw03.RoundRounds", spec := "roundRounds", unfollowed := true, recurses := true, apart := false, narrowed := true }
def RoundRoundsUptoSaid : Prop := roundRoundsUptoRow.holds Try.pinned (OpenSpec.upto roundRoundsSpec)

/-- 'gasolierlaw03.RoundTimes', WHERE WHAT IT READS IS OF BULK AT MOST 1048576: true; the input reads as it did. -/
def roundTimesUptoRow : OpenClaim := { program := "ytjeolkdhicmhgaa", sum := "1e61d058fffa45ce1d4a173a2485434dd255d83bcd4a4c3fc985b53cf349da24", func := "gasolier/gasolierlaw03.RoundTimes", spec := "roundTimes", unfollowed := true, recurses := true, apart := false, narrowed := true }
def RoundTimesUptoSaid : Prop := roundTimesUptoRow.holds Try.pinned (OpenSpec.upto roundTimesSpec)

/-- 'gasolierlaw03.RoundWalks', WHERE WHAT IT READS IS OF BULK AT MOST 1048576: true; the input reads as it did. -/
def roundWalksUptoRow : OpenClaim := { program := "ytjeolkdhicmhgaa", sum := "1e61d058fffa45ce1d4a173a2485434dd255d83bcd4a4c3fc985b53cf349da24", func := "gasolier/gasolierlaw03.RoundWalks", spec := "roundWalks", unfollowed := true, recurses := true, apart := false, narrowed := true }
def RoundWalksUptoSaid : Prop := roundWalksUptoRow.holds Try.pinned (OpenSpec.upto roundWalksSpec)

/-- 'gasolierlaw03.RoundMarks', WHERE WHAT IT READS IS OF BULK AT MOST 1048576: true; the input reads as it did. -/
def roundMarksUptoRow : OpenClaim := { program := "ytjeolkdhicmhgaa", sum := "1e61d058fffa45ce1d4a173a2485434dd255d83bcd4a4c3fc985b53cf349da24", func := "gasolier/gasolierlaw03.RoundMarks", spec := "roundMarks", unfollowed := true, recurses := true, apart := false, narrowed := true }
def RoundMarksUptoSaid : Prop := roundMarksUptoRow.holds Try.pinned (OpenSpec.upto roundMarksSpec)

/-- 'gasolierlaw03.RoundPaths', WHERE WHAT IT READS IS OF BULK AT MOST 1048576: true; the input reads as it did. -/
def roundPathsUptoRow : OpenClaim := { program := "ytjeolkdhicmhgaa", sum := "1e61d058fffa45ce1d4a173a2485434dd255d83bcd4a4c3fc985b53cf349da24", func := "gasolier/gasolierlaw03.RoundPaths", spec := "roundPaths", unfollowed := true, recurses := true, apart := false, narrowed := true }
def RoundPathsUptoSaid : Prop := roundPathsUptoRow.holds Try.pinned (OpenSpec.upto roundPathsSpec)

/-- 'gasolierlaw03.RoundWays', WHERE WHAT IT READS IS OF BULK AT MOST 1048576: true; the input reads as it did. -/
def roundWaysUptoRow : OpenClaim := { program := "ytjeolkdhicmhgaa", sum := "1e61d058fffa45ce1d4a173a2485434dd255d83bcd4a4c3fc985b53cf349da24", func := "gasolier/gasolierlaw03.RoundWays", spec := "roundWays", unfollowed := true, recurses := true, apart := false, narrowed := true }
def RoundWaysUptoSaid : Prop := roundWaysUptoRow.holds Try.pinned (OpenSpec.upto roundWaysSpec)

/-- 'gasolierlaw03.RoundTrue', WHERE WHAT IT READS IS OF BULK AT MOST 1048576: true; the input reads as it did. -/
def roundTrueUptoRow : OpenClaim := { program := "ytjeolkdhicmhgaa", sum := "1e61d058fffa45ce1d4a173a2485434dd255d83bcd4a4c3fc985b53cf349da24", func := "gasolier/gasolierlaw03.RoundTrue", spec := "roundTrue", unfollowed := true, recurses := true, apart := false, narrowed := true }
def RoundTrueUptoSaid : Prop := roundTrueUptoRow.holds Try.pinned (OpenSpec.upto roundTrueSpec)

/-- 'gasolierlaw03.RoundCharts', WHERE WHAT IT READS IS OF BULK AT MOST 1048576: true; the input reads as it did. -/
def roundChartsUptoRow : OpenClaim := { program := "ytjeolkdhicmhgaa", sum := "1e61d058fffa45ce1d4a173a2485434dd255d83bcd4a4c3fc985b53cf349da24", func := "gasolier/gasolierlaw03.RoundCharts", spec := "roundCharts", unfollowed := true, recurses := true, apart := false, narrowed := true }
def RoundChartsUptoSaid : Prop := roundChartsUptoRow.holds Try.pinned (OpenSpec.upto roundChartsSpec)

/-- 'gasolierlaw03.RoundShown', WHERE WHAT IT READS IS OF BULK AT MOST 1048576: true; the input reads as it did. -/
def roundShownUptoRow : OpenClaim := { program := "ytjeolkdhicmhgaa", sum := "1e61d058fffa45ce1d4a173a2485434dd255d83bcd4a4c3fc985b53cf349da24", func := "gasolier/gasolierlaw03.RoundShown", spec := "roundShown", unfollowed := true, recurses := true, apart := false, narrowed := true }
def RoundShownUptoSaid : Prop := roundShownUptoRow.holds Try.pinned (OpenSpec.upto roundShownSpec)

end Rows
end Go.Proofs.Ytjeolkdhicmhgaa
