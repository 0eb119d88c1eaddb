/-
  No cell of these rows narrows 'for every input' (looked for: loops, veiled, ifaces, maps, wideKeys, modest, calm, conditions, laid).
  DERIVED. THE GIVEN ROWS OF THIS SEAT. 2 by the template 'for every input the law returns true; each argument reads behind the call as it read before'; 0 by the template 'total and deterministic' (their statements: YtnaodipmfaglfaaGreatTotals.lean).
  GIVEN WITH THE SEED: the statements are not yours to turn. If you find one false, say at which input.
  Laid BY PROGRAM, IN A SANDBOX (cutbox-rows.mjs): the forced cells as the released guide's own fill.sh prints them over the translation 42781d332c9c311d… (all of the seat's roots in one cut). By AI agents, Wed Nov 11 2026. No macro, syntax, notation, axiom, sorry.
-/
import Derived.Test.YtnaodipmfaglfaaGreatChecked
import GoSem.Claim
import GoSem.ClaimJoined
import GoSem.ClaimMapViews
import Derived.JoinedTies
import Derived.KernelRfl
namespace Go.Proofs.YtnaodipmfaglfaaGreat
/- THE CELL 'sum', in the pinned program and in every row, IS THE sha256 OF THE DUMP (.gsa) THAT YtnaodipmfaglfaaGreatProg.lean LOADS. Nothing in Lean hashes anything: it is a label: what it is worth is what the hold of that sum in a sandbox is worth. -/
noncomputable def Tryz.pinned : Pinned := { name := "ytnaodipmfaglfaagreat", sum := "42781d332c9c311de12f07193cde0c851e9b7be956e053ec502570f7c0c0bb97", checked := Tryz.checked }
namespace Rows
def none {H : Type} : Left H := { results := [], args := [] }

/-- 'gasolierlaw04.CrewHands': WHATEVER THE INPUT: true; the input reads as it did. -/
def crewHandsSpec : ChangeSpec := { name := "crewHands", fn := fun _ => fun
  | [d1, d2, d3] => { results := [.lit (.bool true)], args := [d1, d2, d3] }
  | _ => none }
def crewHandsRow : OpenClaim := { program := "ytnaodipmfaglfaagreat", sum := "42781d332c9c311de12f07193cde0c851e9b7be956e053ec502570f7c0c0bb97", func := "gasolier/gasolierlaw04.CrewHands", spec := "crewHands", unfollowed := true, recurses := true, apart := false }
def CrewHandsSaid : Prop := crewHandsRow.holds Tryz.pinned (OpenSpec.ofChange crewHandsSpec)

/-- ITS FALSE NEIGHBOUR: 'it returns false'. Refute it at one input. -/
def crewHandsWrong : ChangeSpec := { name := "crewHands", fn := fun _ => fun
  | [d1, d2, d3] => { results := [.lit (.bool false)], args := [d1, d2, d3] }
  | _ => none }
def CrewHandsWrongFalsely : Prop := crewHandsRow.holds Tryz.pinned (OpenSpec.ofChange crewHandsWrong)

/-- 'gasolierlaw04.CrewChecks': WHATEVER THE INPUT: true; the input reads as it did. -/
def crewChecksSpec : ChangeSpec := { name := "crewChecks", fn := fun _ => fun
  | [d1, d2] => { results := [.lit (.bool true)], args := [d1, d2] }
  | _ => none }
def crewChecksRow : OpenClaim := { program := "ytnaodipmfaglfaagreat", sum := "42781d332c9c311de12f07193cde0c851e9b7be956e053ec502570f7c0c0bb97", func := "gasolier/gasolierlaw04.CrewChecks", spec := "crewChecks", inPlace := ["slices.overlaps[gasolier/api.Task]"], unfollowed := true, recurses := true, apart := false }
def CrewChecksSaid : Prop := crewChecksRow.holds Tryz.pinned (OpenSpec.ofChange crewChecksSpec)

/-- ITS FALSE NEIGHBOUR: 'it returns false'. Refute it at one input. -/
def crewChecksWrong : ChangeSpec := { name := "crewChecks", fn := fun _ => fun
  | [d1, d2] => { results := [.lit (.bool false)], args := [d1, d2] }
  | _ => none }
def CrewChecksWrongFalsely : Prop := crewChecksRow.holds Tryz.pinned (OpenSpec.ofChange crewChecksWrong)

/- THE SECOND FORM. 'bulk': how many values and letters a reading holds, each counted each time it is reached (what is shared counts as often as it is met; a slice's spare places count too). A statement '..UptoSaid' is the law's where the arguments, and the package variables that the reading takes, are together of bulk at most 1048576: NARROWER than '..Said'. Prove '..Said' where nothing that the law and all that it calls make is longer than what came in: it says more and counts as full. Else prove '..UptoSaid'. A law counts once. -/
mutual
def uptoBulk {H : Type} : DataW H → Nat
  | .lit (.string bytes) => bytes.length + 1
  | .lit _ => 1
  | .nil => 1
  | .ptr d => uptoBulk d + 1
  | .slice elems spare => uptoBulkAll elems + uptoBulkAll spare + 1
  | .agg parts => uptoBulkAll parts + 1
  | .iface _ d => uptoBulk d + 1
  | .map entries => uptoBulkEntries entries + 1
  | .held _ => 1
def uptoBulkAll {H : Type} : List (DataW H) → Nat
  | [] => 0
  | d :: r => uptoBulk d + uptoBulkAll r
def uptoBulkEntries {H : Type} : List (Lit × DataW H) → Nat
  | [] => 0
  | x :: r => uptoBulkEntry x + uptoBulkEntries r
def uptoBulkEntry {H : Type} : Lit × DataW H → Nat
  | (.string bytes, d) => bytes.length + uptoBulk d + 1
  | (_, d) => uptoBulk d + 1
 end
def uptoSmall : (H : Type) → List (DataW H) → Bool := fun _ ds => decide (uptoBulkAll ds ≤ 1048576)
def OpenSpec.upto (s : _root_.Go.ChangeSpec) : _root_.Go.OpenSpec := { _root_.Go.OpenSpec.ofChange s with cond := some uptoSmall }

/-- 'gasolierlaw04.CrewHands', WHERE WHAT IT READS IS OF BULK AT MOST 1048576: true; the input reads as it did. -/
def crewHandsUptoRow : OpenClaim := { program := "ytnaodipmfaglfaagreat", sum := "42781d332c9c311de12f07193cde0c851e9b7be956e053ec502570f7c0c0bb97", func := "gasolier/gasolierlaw04.CrewHands", spec := "crewHands", unfollowed := true, recurses := true, apart := false, narrowed := true }
def CrewHandsUptoSaid : Prop := crewHandsUptoRow.holds Tryz.pinned (OpenSpec.upto crewHandsSpec)

/-- 'gasolierlaw04.CrewChecks', WHERE WHAT IT READS IS OF BULK AT MOST 1048576: true; the input reads as it did. -/
def crewChecksUptoRow : OpenClaim := { program := "ytnaodipmfaglfaagreat", sum := "42781d332c9c311de12f07193cde0c851e9b7be956e053ec502570f7c0c0bb97", func := "gasolier/gasolierlaw04.CrewChecks", spec := "crewChecks", inPlace := ["slices.overlaps[gasolier/api.Task]"], unfollowed := true, recurses := true, apart := false, narrowed := true }
def CrewChecksUptoSaid : Prop := crewChecksUptoRow.holds Tryz.pinned (OpenSpec.upto crewChecksSpec)

end Rows
end Go.Proofs.YtnaodipmfaglfaaGreat
