/-
  No cell of these rows narrows 'for every input' (looked for: loops, veiled, ifaces, maps, wideKeys, modest, calm, conditions, laid).
  DERIVED. THE GIVEN ROWS OF THIS SEAT. 10 by the template 'for every input the law returns true; each argument reads behind the call as it read before'; 0 by the template 'total and deterministic' (their statements: YtakjeajlmlmkeaaGreatTotals.lean).
  GIVEN WITH THE SEED: the statements are not yours to turn. If you find one false, say at which input.
  Laid BY PROGRAM, IN A SANDBOX (cutbox-rows.mjs): the forced cells as the released guide's own fill.sh prints them over the translation 3a0c49a7981854dd… (all of the seat's roots in one cut). By AI agents, Wed Nov 11 2026. No macro, syntax, notation, axiom, sorry.
-/
import Derived.Test.YtakjeajlmlmkeaaGreatChecked
import GoSem.Claim
import GoSem.ClaimJoined
import GoSem.ClaimMapViews
import Derived.JoinedTies
import Derived.KernelRfl
namespace Go.Proofs.YtakjeajlmlmkeaaGreat
/- THE CELL 'sum', in the pinned program and in every row, IS THE sha256 OF THE DUMP (.gsa) THAT YtakjeajlmlmkeaaGreatProg.lean LOADS. Nothing in Lean hashes anything: it is a label: what it is worth is what the hold of that sum in a sandbox is worth. -/
noncomputable def Tryz.pinned : Pinned := { name := "ytakjeajlmlmkeaagreat", sum := "3a0c49a7981854dde067858dd0f8cc62c441a2c0ff1f6ff54eeb98fb0886cad5", checked := Tryz.checked }
namespace Rows
def none {H : Type} : Left H := { results := [], args := [] }

/-- 'gasolierlaw06.MantleChecks': WHATEVER THE INPUT: true; the input reads as it did. -/
def mantleChecksSpec : ChangeSpec := { name := "mantleChecks", fn := fun _ => fun
  | [d1, d2] => { results := [.lit (.bool true)], args := [d1, d2] }
  | _ => none }
def mantleChecksRow : OpenClaim := { program := "ytakjeajlmlmkeaagreat", sum := "3a0c49a7981854dde067858dd0f8cc62c441a2c0ff1f6ff54eeb98fb0886cad5", func := "gasolier/gasolierlaw06.MantleChecks", spec := "mantleChecks", inPlace := ["slices.overlaps[gasolier/api.Look]"], unfollowed := true, recurses := true, apart := false }
def MantleChecksSaid : Prop := mantleChecksRow.holds Tryz.pinned (OpenSpec.ofChange mantleChecksSpec)

/-- ITS FALSE NEIGHBOUR: 'it returns false'. Refute it at one input. -/
def mantleChecksWrong : ChangeSpec := { name := "mantleChecks", fn := fun _ => fun
  | [d1, d2] => { results := [.lit (.bool false)], args := [d1, d2] }
  | _ => none }
def MantleChecksWrongFalsely : Prop := mantleChecksRow.holds Tryz.pinned (OpenSpec.ofChange mantleChecksWrong)

/-- 'gasolierlaw06.MantleLooked': WHATEVER THE INPUT: true; the input reads as it did. -/
def mantleLookedSpec : ChangeSpec := { name := "mantleLooked", fn := fun _ => fun
  | [d1, d2, d3] => { results := [.lit (.bool true)], args := [d1, d2, d3] }
  | _ => none }
def mantleLookedRow : OpenClaim := { program := "ytakjeajlmlmkeaagreat", sum := "3a0c49a7981854dde067858dd0f8cc62c441a2c0ff1f6ff54eeb98fb0886cad5", func := "gasolier/gasolierlaw06.MantleLooked", spec := "mantleLooked", inPlace := ["slices.overlaps[gasolier/api.Look]"], unfollowed := true, recurses := true, apart := false }
def MantleLookedSaid : Prop := mantleLookedRow.holds Tryz.pinned (OpenSpec.ofChange mantleLookedSpec)

/-- ITS FALSE NEIGHBOUR: 'it returns false'. Refute it at one input. -/
def mantleLookedWrong : ChangeSpec := { name := "mantleLooked", fn := fun _ => fun
  | [d1, d2, d3] => { results := [.lit (.bool false)], args := [d1, d2, d3] }
  | _ => none }
def MantleLookedWrongFalsely : Prop := mantleLookedRow.holds Tryz.pinned (OpenSpec.ofChange mantleLookedWrong)

/-- 'gasolierlaw06.MantleAges': WHATEVER THE INPUT: true; the input reads as it did. -/
def mantleAgesSpec : ChangeSpec := { name := "mantleAges", fn := fun _ => fun
  | [d1, d2] => { results := [.lit (.bool true)], args := [d1, d2] }
  | _ => none }
def mantleAgesRow : OpenClaim := { program := "ytakjeajlmlmkeaagreat", sum := "3a0c49a7981854dde067858dd0f8cc62c441a2c0ff1f6ff54eeb98fb0886cad5", func := "gasolier/gasolierlaw06.MantleAges", spec := "mantleAges", inPlace := ["slices.overlaps[gasolier/api.Look]"], unfollowed := true, recurses := true, apart := false }
def MantleAgesSaid : Prop := mantleAgesRow.holds Tryz.pinned (OpenSpec.ofChange mantleAgesSpec)

/-- ITS FALSE NEIGHBOUR: 'it returns false'. Refute it at one input. -/
def mantleAgesWrong : ChangeSpec := { name := "mantleAges", fn := fun _ => fun
  | [d1, d2] => { results := [.lit (.bool false)], args := [d1, d2] }
  | _ => none }
def MantleAgesWrongFalsely : Prop := mantleAgesRow.holds Tryz.pinned (OpenSpec.ofChange mantleAgesWrong)

/-- 'gasolierlaw06.MantleNights': WHATEVER THE INPUT: true; the input reads as it did. -/
def mantleNightsSpec : ChangeSpec := { name := "mantleNights", fn := fun _ => fun
  | [d1, d2, d3] => { results := [.lit (.bool true)], args := [d1, d2, d3] }
  | _ => none }
def mantleNightsRow : OpenClaim := { program := "ytakjeajlmlmkeaagreat", sum := "3a0c49a7981854dde067858dd0f8cc62c441a2c0ff1f6ff54eeb98fb0886cad5", func := "gasolier/gasolierlaw06.MantleNights", spec := "mantleNights", inPlace := ["slices.overlaps[gasolier/api.Look]"], unfollowed := true, recurses := true, apart := false }
def MantleNightsSaid : Prop := mantleNightsRow.holds Tryz.pinned (OpenSpec.ofChange mantleNightsSpec)

/-- ITS FALSE NEIGHBOUR: 'it returns false'. Refute it at one input. -/
def mantleNightsWrong : ChangeSpec := { name := "mantleNights", fn := fun _ => fun
  | [d1, d2, d3] => { results := [.lit (.bool false)], args := [d1, d2, d3] }
  | _ => none }
def MantleNightsWrongFalsely : Prop := mantleNightsRow.holds Tryz.pinned (OpenSpec.ofChange mantleNightsWrong)

/-- 'gasolierlaw06.MantleLives': WHATEVER THE INPUT: true; the input reads as it did. -/
def mantleLivesSpec : ChangeSpec := { name := "mantleLives", fn := fun _ => fun
  | [d1, d2, d3] => { results := [.lit (.bool true)], args := [d1, d2, d3] }
  | _ => none }
def mantleLivesRow : OpenClaim := { program := "ytakjeajlmlmkeaagreat", sum := "3a0c49a7981854dde067858dd0f8cc62c441a2c0ff1f6ff54eeb98fb0886cad5", func := "gasolier/gasolierlaw06.MantleLives", spec := "mantleLives", inPlace := ["slices.overlaps[gasolier/api.Look]"], unfollowed := true, recurses := true, apart := false }
def MantleLivesSaid : Prop := mantleLivesRow.holds Tryz.pinned (OpenSpec.ofChange mantleLivesSpec)

/-- ITS FALSE NEIGHBOUR: 'it returns false'. Refute it at one input. -/
def mantleLivesWrong : ChangeSpec := { name := "mantleLives", fn := fun _ => fun
  | [d1, d2, d3] => { results := [.lit (.bool false)], args := [d1, d2, d3] }
  | _ => none }
def MantleLivesWrongFalsely : Prop := mantleLivesRow.holds Tryz.pinned (OpenSpec.ofChange mantleLivesWrong)

/-- 'gasolierlaw06.MantleTwo': WHATEVER THE INPUT: true; the input reads as it did. -/
def mantleTwoSpec : ChangeSpec := { name := "mantleTwo", fn := fun _ => fun
  | [d1, d2, d3] => { results := [.lit (.bool true)], args := [d1, d2, d3] }
  | _ => none }
def mantleTwoRow : OpenClaim := { program := "ytakjeajlmlmkeaagreat", sum := "3a0c49a7981854dde067858dd0f8cc62c441a2c0ff1f6ff54eeb98fb0886cad5", func := "gasolier/gasolierlaw06.MantleTwo", spec := "mantleTwo", inPlace := ["slices.overlaps[gasolier/api.Look]"], unfollowed := true, recurses := true, apart := false }
def MantleTwoSaid : Prop := mantleTwoRow.holds Tryz.pinned (OpenSpec.ofChange mantleTwoSpec)

/-- ITS FALSE NEIGHBOUR: 'it returns false'. Refute it at one input. -/
def mantleTwoWrong : ChangeSpec := { name := "mantleTwo", fn := fun _ => fun
  | [d1, d2, d3] => { results := [.lit (.bool false)], args := [d1, d2, d3] }
  | _ => none }
def MantleTwoWrongFalsely : Prop := mantleTwoRow.holds Tryz.pinned (OpenSpec.ofChange mantleTwoWrong)

/-- 'gasolierlaw06.MantleMoves': WHATEVER THE INPUT: true; the input reads as it did. -/
def mantleMovesSpec : ChangeSpec := { name := "mantleMoves", fn := fun _ => fun
  | [d1, d2, d3] => { results := [.lit (.bool true)], args := [d1, d2, d3] }
  | _ => none }
def mantleMovesRow : OpenClaim := { program := "ytakjeajlmlmkeaagreat", sum := "3a0c49a7981854dde067858dd0f8cc62c441a2c0ff1f6ff54eeb98fb0886cad5", func := "gasolier/gasolierlaw06.MantleMoves", spec := "mantleMoves", inPlace := ["slices.overlaps[gasolier/api.Look]"], unfollowed := true, recurses := true, apart := false }
def MantleMovesSaid : Prop := mantleMovesRow.holds Tryz.pinned (OpenSpec.ofChange mantleMovesSpec)

/-- ITS FALSE NEIGHBOUR: 'it returns false'. Refute it at one input. -/
def mantleMovesWrong : ChangeSpec := { name := "mantleMoves", fn := fun _ => fun
  | [d1, d2, d3] => { results := [.lit (.bool false)], args := [d1, d2, d3] }
  | _ => none }
def MantleMovesWrongFalsely : Prop := mantleMovesRow.holds Tryz.pinned (OpenSpec.ofChange mantleMovesWrong)

/-- 'gasolierlaw06.MantleKnown': WHATEVER THE INPUT: true; the input reads as it did. -/
def mantleKnownSpec : ChangeSpec := { name := "mantleKnown", fn := fun _ => fun
  | [d1, d2] => { results := [.lit (.bool true)], args := [d1, d2] }
  | _ => none }
def mantleKnownRow : OpenClaim := { program := "ytakjeajlmlmkeaagreat", sum := "3a0c49a7981854dde067858dd0f8cc62c441a2c0ff1f6ff54eeb98fb0886cad5", func := "gasolier/gasolierlaw06.MantleKnown", spec := "mantleKnown", inPlace := ["slices.overlaps[gasolier/api.Look]"], unfollowed := true, recurses := true, apart := false }
def MantleKnownSaid : Prop := mantleKnownRow.holds Tryz.pinned (OpenSpec.ofChange mantleKnownSpec)

/-- ITS FALSE NEIGHBOUR: 'it returns false'. Refute it at one input. -/
def mantleKnownWrong : ChangeSpec := { name := "mantleKnown", fn := fun _ => fun
  | [d1, d2] => { results := [.lit (.bool false)], args := [d1, d2] }
  | _ => none }
def MantleKnownWrongFalsely : Prop := mantleKnownRow.holds Tryz.pinned (OpenSpec.ofChange mantleKnownWrong)

/-- 'gasolierlaw06.MantleSettled': WHATEVER THE INPUT: true; the input reads as it did. -/
def mantleSettledSpec : ChangeSpec := { name := "mantleSettled", fn := fun _ => fun
  | [d1, d2, d3] => { results := [.lit (.bool true)], args := [d1, d2, d3] }
  | _ => none }
def mantleSettledRow : OpenClaim := { program := "ytakjeajlmlmkeaagreat", sum := "3a0c49a7981854dde067858dd0f8cc62c441a2c0ff1f6ff54eeb98fb0886cad5", func := "gasolier/gasolierlaw06.MantleSettled", spec := "mantleSettled", inPlace := ["slices.overlaps[gasolier/api.Look]"], unfollowed := true, recurses := true, apart := false }
def MantleSettledSaid : Prop := mantleSettledRow.holds Tryz.pinned (OpenSpec.ofChange mantleSettledSpec)

/-- ITS FALSE NEIGHBOUR: 'it returns false'. Refute it at one input. -/
def mantleSettledWrong : ChangeSpec := { name := "mantleSettled", fn := fun _ => fun
  | [d1, d2, d3] => { results := [.lit (.bool false)], args := [d1, d2, d3] }
  | _ => none }
def MantleSettledWrongFalsely : Prop := mantleSettledRow.holds Tryz.pinned (OpenSpec.ofChange mantleSettledWrong)

/-- 'gasolierlaw06.MantleWhatever': WHATEVER THE INPUT: true; the input reads as it did. -/
def mantleWhateverSpec : ChangeSpec := { name := "mantleWhatever", fn := fun _ => fun
  | [d1, d2, d3] => { results := [.lit (.bool true)], args := [d1, d2, d3] }
  | _ => none }
def mantleWhateverRow : OpenClaim := { program := "ytakjeajlmlmkeaagreat", sum := "3a0c49a7981854dde067858dd0f8cc62c441a2c0ff1f6ff54eeb98fb0886cad5", func := "gasolier/gasolierlaw06.MantleWhatever", spec := "mantleWhatever", inPlace := ["slices.overlaps[gasolier/api.Look]"], unfollowed := true, recurses := true, apart := false }
def MantleWhateverSaid : Prop := mantleWhateverRow.holds Tryz.pinned (OpenSpec.ofChange mantleWhateverSpec)

/-- ITS FALSE NEIGHBOUR: 'it returns false'. Refute it at one input. -/
def mantleWhateverWrong : ChangeSpec := { name := "mantleWhatever", fn := fun _ => fun
  | [d1, d2, d3] => { results := [.lit (.bool false)], args := [d1, d2, d3] }
  | _ => none }
def MantleWhateverWrongFalsely : Prop := mantleWhateverRow.holds Tryz.pinned (OpenSpec.ofChange mantleWhateverWrong)

/- THE SECOND FORM. 'bulk': how many values and letters a reading holds, each counted each time it is reached (what is shared counts as often as it is met; a slice's spare places count too). A statement '..UptoSaid' is the law's where the arguments, and the package variables that the reading takes, are together of bulk at most 1048576: NARROWER than '..Said'. Prove '..Said' where nothing that the law and all that it calls make is longer than what came in: it says more and counts as full. Else prove '..UptoSaid'. A law counts once. -/
mutual
def uptoBulk {H : Type} : DataW H → Nat
  | .lit (.string bytes) => bytes.length + 1
  | .lit _ => 1
  | .nil => 1
  | .ptr d => uptoBulk d + 1
  | .slice elems spare => uptoBulkAll elems + uptoBulkAll spare + 1
  | .agg parts => uptoBulkAll parts + 1
  | .iface _ d => uptoBulk d + 1
  | .map entries => uptoBulkEntries entries + 1
  | .held _ => 1
def uptoBulkAll {H : Type} : List (DataW H) → Nat
  | [] => 0
  | d :: r => uptoBulk d + uptoBulkAll r
def uptoBulkEntries {H : Type} : List (Lit × DataW H) → Nat
  | [] => 0
  | x :: r => uptoBulkEntry x + uptoBulkEntries r
def uptoBulkEntry {H : Type} : Lit × DataW H → Nat
  | (.string bytes, d) => bytes.length + uptoBulk d + 1
  | (_, d) => uptoBulk d + 1
 end
def uptoSmall : (H : Type) → List (DataW H) → Bool := fun _ ds => decide (uptoBulkAll ds ≤ 1048576)
def OpenSpec.upto (s : _root_.Go.ChangeSpec) : _root_.Go.OpenSpec := { _root_.Go.OpenSpec.ofChange s with cond := some uptoSmall }

/-- 'gasolierlaw06.MantleChecks', WHERE WHAT IT READS IS OF BULK AT MOST 1048576: true; the input reads as it did. -/
def mantleChecksUptoRow : OpenClaim := { program := "ytakjeajlmlmkeaagreat", sum := "3a0c49a7981854dde067858dd0f8cc62c441a2c0ff1f6ff54eeb98fb0886cad5", func := "gasolier/gasolierlaw06.MantleChecks", spec := "mantleChecks", inPlace := ["slices.overlaps[gasolier/api.Look]"], unfollowed := true, recurses := true, apart := false, narrowed := true }
def MantleChecksUptoSaid : Prop := mantleChecksUptoRow.holds Tryz.pinned (OpenSpec.upto mantleChecksSpec)

/-- 'gasolierlaw06.MantleLooked', WHERE WHAT IT READS IS OF BULK AT MOST 1048576: true; the input reads as it did. -/
def mantleLookedUptoRow : OpenClaim := { program := "ytakjeajlmlmkeaagreat", sum := "3a0c49a7981854dde067858dd0f8cc62c441a2c0ff1f6ff54eeb98fb0886cad5", func := "gasolier/gasolierlaw06.MantleLooked", spec := "mantleLooked", inPlace := ["slices.overlaps[gasolier/api.Look]"], unfollowed := true, recurses := true, apart := false, narrowed := true }
def MantleLookedUptoSaid : Prop := mantleLookedUptoRow.holds Tryz.pinned (OpenSpec.upto mantleLookedSpec)

/-- 'gasolierlaw06.MantleAges', WHERE WHAT IT READS IS OF BULK AT MOST 1048576: true; the input reads as it did. -/
def mantleAgesUptoRow : OpenClaim := { program := "ytakjeajlmlmkeaagreat", sum := "3a0c49a7981854dde067858dd0f8cc62c441a2c0ff1f6ff54eeb98fb0886cad5", func := "gasolier/gasolierlaw06.MantleAges", spec := "mantleAges", inPlace := ["slices.overlaps[gasolier/api.Look]"], unfollowed := true, recurses := true, apart := false, narrowed := true }
def MantleAgesUptoSaid : Prop := mantleAgesUptoRow.holds Tryz.pinned (OpenSpec.upto mantleAgesSpec)

/-- 'gasolierlaw06.MantleNights', WHERE WHAT IT READS IS OF BULK AT MOST 1048576: true; the input reads as it did. -/
def mantleNightsUptoRow : OpenClaim := { program := "ytakjeajlmlmkeaagreat", sum := "3a0c49a7981854dde067858dd0f8cc62c441a2c0ff1f6ff54eeb98fb0886cad5", func := "gasolier/gasolierlaw06.MantleNights", spec := "mantleNights", inPlace := ["slices.overlaps[gasolier/api.Look]"], unfollowed := true, recurses := true, apart := false, narrowed := true }
def MantleNightsUptoSaid : Prop := mantleNightsUptoRow.holds Tryz.pinned (OpenSpec.upto mantleNightsSpec)

/-- 'gasolierlaw06.MantleLives', WHERE WHAT IT READS IS OF BULK AT MOST 1048576: true; the input reads as it did. -/
def mantleLivesUptoRow : OpenClaim := { program := "ytakjeajlmlmkeaagreat", sum := "3a0c49a7981854dde067858dd0f8cc62c441a2c0ff1f6ff54eeb98fb0886cad5", func := "gasolier/gasolierlaw06.MantleLives", spec := "mantleLives", inPlace := ["slices.overlaps[gasolier/api.Look]"], unfollowed := true, recurses := true, apart := false, narrowed := true }
def MantleLivesUptoSaid : Prop := mantleLivesUptoRow.holds Tryz.pinned (OpenSpec.upto mantleLivesSpec)

/-- 'gasolierlaw06.MantleTwo', WHERE WHAT IT READS IS OF BULK AT MOST 1048576: true; the input reads as it did. -/
def mantleTwoUptoRow : OpenClaim := { program := "ytakjeajlmlmkeaagreat", sum := "3a0c49a7981854dde067858dd0f8cc62c441a2c0ff1f6ff54eeb98fb0886cad5", func := "gasolier/gasolierlaw06.MantleTwo", spec := "mantleTwo", inPlace := ["slices.overlaps[gasolier/api.Look]"], unfollowed := true, recurses := true, apart := false, narrowed := true }
def MantleTwoUptoSaid : Prop := mantleTwoUptoRow.holds Tryz.pinned (OpenSpec.upto mantleTwoSpec)

/-- 'gasolierlaw06.MantleMoves', WHERE WHAT IT READS IS OF BULK AT MOST 1048576: true; the input reads as it did. -/
def mantleMovesUptoRow : OpenClaim := { program := "ytakjeajlmlmkeaagreat", sum := "3a0c49a7981854dde067858dd0f8cc62c441a2c0ff1f6ff54eeb98fb0886cad5", func := "gasolier/gasolierlaw06.MantleMoves", spec := "mantleMoves", inPlace := ["slices.overlaps[gasolier/api.Look]"], unfollowed := true, recurses := true, apart := false, narrowed := true }
def MantleMovesUptoSaid : Prop := mantleMovesUptoRow.holds Tryz.pinned (OpenSpec.upto mantleMovesSpec)

/-- 'gasolierlaw06.MantleKnown', WHERE WHAT IT READS IS OF BULK AT MOST 1048576: true; the input reads as it did. -/
def mantleKnownUptoRow : OpenClaim := { program := "ytakjeajlmlmkeaagreat", sum := "3a0c49a7981854dde067858dd0f8cc62c441a2c0ff1f6ff54eeb98fb0886cad5", func := "gasolier/gasolierlaw06.MantleKnown", spec := "mantleKnown", inPlace := ["slices.overlaps[gasolier/api.Look]"], unfollowed := true, recurses := true, apart := false, narrowed := true }
def MantleKnownUptoSaid : Prop := mantleKnownUptoRow.holds Tryz.pinned (OpenSpec.upto mantleKnownSpec)

/-- 'gasolierlaw06.MantleSettled', WHERE WHAT IT READS IS OF BULK AT MOST 1048576: true; the input reads as it did. -/
def mantleSettledUptoRow : OpenClaim := { program := "ytakjeajlmlmkeaagreat", sum := "3a0c49a7981854dde067858dd0f8cc62c441a2c0ff1f6ff54eeb98fb0886cad5", func := "gasolier/gasolierlaw06.MantleSettled", spec := "mantleSettled", inPlace := ["slices.overlaps[gasolier/api.Look]"], unfollowed := true, recurses := true, apart := false, narrowed := true }
def MantleSettledUptoSaid : Prop := mantleSettledUptoRow.holds Tryz.pinned (OpenSpec.upto mantleSettledSpec)

/-- 'gasolierlaw06.MantleWhatever', WHERE WHAT IT READS IS OF BULK AT MOST 1048576: true; the input reads as it did. -/
def mantleWhateverUptoRow : OpenClaim := { program := "ytakjeajlmlmkeaagreat", sum := "3a0c49a7981854dde067858dd0f8cc62c441a2c0ff1f6ff54eeb98fb0886cad5", func := "gasolier/gasolierlaw06.MantleWhatever", spec := "mantleWhatever", inPlace := ["slices.overlaps[gasolier/api.Look]"], unfollowed := true, recurses := true, apart := false, narrowed := true }
def MantleWhateverUptoSaid : Prop := mantleWhateverUptoRow.holds Tryz.pinned (OpenSpec.upto mantleWhateverSpec)

end Rows
end Go.Proofs.YtakjeajlmlmkeaaGreat
