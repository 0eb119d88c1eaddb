/-
  No cell of these rows narrows 'for every input' (looked for: loops, veiled, ifaces, maps, wideKeys, modest, calm, conditions, laid).
  DERIVED. THE GIVEN ROWS OF THIS SEAT. 6 by the template 'for every input the law returns true; each argument reads behind the call as it read before'; 0 by the template 'total and deterministic' (their statements: YtnaodipmfaglfaaTotals.lean).
  GIVEN WITH THE SEED: the statements are not yours to turn. If you find one false, say at which input.
  Laid BY PROGRAM, IN A SANDBOX (cutbox-rows.mjs): the forced cells as the released guide's own fill.sh prints them over the translation bb4a8d30d50a7bf7… (all of the seat's roots in one cut). By AI agents, Wed Nov 11 2026. No macro, syntax, notation, axiom, sorry.
-/
import Derived.Test.YtnaodipmfaglfaaChecked
import GoSem.Claim
import GoSem.ClaimJoined
import GoSem.ClaimMapViews
import Derived.JoinedTies
import Derived.KernelRfl
namespace Go.Proofs.Ytnaodipmfaglfaa
/- THE CELL 'sum', in the pinned program and in every row, IS THE sha256 OF THE DUMP (.gsa) THAT YtnaodipmfaglfaaProg.lean LOADS. Nothing in Lean hashes anything: it is a label: what it is worth is what the hold of that sum in a sandbox is worth. -/
noncomputable def Try.pinned : Pinned := { name := "ytnaodipmfaglfaa", sum := "bb4a8d30d50a7bf75e151c60b1aa073c73b028ff8940acebc91008e416c69949", checked := Try.checked }
namespace Rows
def none {H : Type} : Left H := { results := [], args := [] }

/-- 'gasolierlaw04.CrewLate': WHATEVER THE INPUT: true; the input reads as it did. -/
def crewLateSpec : ChangeSpec := { name := "crewLate", fn := fun _ => fun
  | [d1, d2] => { results := [.lit (.bool true)], args := [d1, d2] }
  | _ => none }
def crewLateRow : OpenClaim := { program := "ytnaodipmfaglfaa", sum := "bb4a8d30d50a7bf75e151c60b1aa073c73b028ff8940acebc91008e416c69949", func := "gasolier/gasolierlaw04.CrewLate", spec := "crewLate", unfollowed := true, recurses := true, apart := false }
def CrewLateSaid : Prop := crewLateRow.holds Try.pinned (OpenSpec.ofChange crewLateSpec)

/-- ITS FALSE NEIGHBOUR: 'it returns false'. Refute it at one input. -/
def crewLateWrong : ChangeSpec := { name := "crewLate", fn := fun _ => fun
  | [d1, d2] => { results := [.lit (.bool false)], args := [d1, d2] }
  | _ => none }
def CrewLateWrongFalsely : Prop := crewLateRow.holds Try.pinned (OpenSpec.ofChange crewLateWrong)

/-- 'gasolierlaw04.CrewTime': WHATEVER THE INPUT: true; the input reads as it did. -/
def crewTimeSpec : ChangeSpec := { name := "crewTime", fn := fun _ => fun
  | [d1, d2] => { results := [.lit (.bool true)], args := [d1, d2] }
  | _ => none }
def crewTimeRow : OpenClaim := { program := "ytnaodipmfaglfaa", sum := "bb4a8d30d50a7bf75e151c60b1aa073c73b028ff8940acebc91008e416c69949", func := "gasolier/gasolierlaw04.CrewTime", spec := "crewTime", unfollowed := true, recurses := true, apart := false }
def CrewTimeSaid : Prop := crewTimeRow.holds Try.pinned (OpenSpec.ofChange crewTimeSpec)

/-- ITS FALSE NEIGHBOUR: 'it returns false'. Refute it at one input. -/
def crewTimeWrong : ChangeSpec := { name := "crewTime", fn := fun _ => fun
  | [d1, d2] => { results := [.lit (.bool false)], args := [d1, d2] }
  | _ => none }
def CrewTimeWrongFalsely : Prop := crewTimeRow.holds Try.pinned (OpenSpec.ofChange crewTimeWrong)

/-- 'gasolierlaw04.CrewRounds': WHATEVER THE INPUT: true; the input reads as it did. -/
def crewRoundsSpec : ChangeSpec := { name := "crewRounds", fn := fun _ => fun
  | [d1, d2, d3] => { results := [.lit (.bool true)], args := [d1, d2, d3] }
  | _ => none }
def crewRoundsRow : OpenClaim := { program := "ytnaodipmfaglfaa", sum := "bb4a8d30d50a7bf75e151c60b1aa073c73b028ff8940acebc91008e416c69949", func := "gasolier/gasolierlaw04.CrewRounds", spec := "crewRounds", unfollowed := true, recurses := true, apart := false }
def CrewRoundsSaid : Prop := crewRoundsRow.holds Try.pinned (OpenSpec.ofChange crewRoundsSpec)

/-- ITS FALSE NEIGHBOUR: 'it returns false'. Refute it at one input. -/
def crewRoundsWrong : ChangeSpec := { name := "crewRounds", fn := fun _ => fun
  | [d1, d2, d3] => { results := [.lit (.bool false)], args := [d1, d2, d3] }
  | _ => none }
def CrewRoundsWrongFalsely : Prop := crewRoundsRow.holds Try.pinned (OpenSpec.ofChange crewRoundsWrong)

/-- 'gasolierlaw04.CrewFewest': WHATEVER THE INPUT: true; the input reads as it did. -/
def crewFewestSpec : ChangeSpec := { name := "crewFewest", fn := fun _ => fun
  | [d1, d2] => { results := [.lit (.bool true)], args := [d1, d2] }
  | _ => none }
def crewFewestRow : OpenClaim := { program := "ytnaodipmfaglfaa", sum := "bb4a8d30d50a7bf75e151c60b1aa073c73b028ff8940acebc91008e416c69949", func := "gasolier/gasolierlaw04.CrewFewest", spec := "crewFewest", unfollowed := true, recurses := true, apart := false }
def CrewFewestSaid : Prop := crewFewestRow.holds Try.pinned (OpenSpec.ofChange crewFewestSpec)

/-- ITS FALSE NEIGHBOUR: 'it returns false'. Refute it at one input. -/
def crewFewestWrong : ChangeSpec := { name := "crewFewest", fn := fun _ => fun
  | [d1, d2] => { results := [.lit (.bool false)], args := [d1, d2] }
  | _ => none }
def CrewFewestWrongFalsely : Prop := crewFewestRow.holds Try.pinned (OpenSpec.ofChange crewFewestWrong)

/-- 'gasolierlaw04.CrewEither': WHATEVER THE INPUT: true; the input reads as it did. -/
def crewEitherSpec : ChangeSpec := { name := "crewEither", fn := fun _ => fun
  | [d1, d2, d3] => { results := [.lit (.bool true)], args := [d1, d2, d3] }
  | _ => none }
def crewEitherRow : OpenClaim := { program := "ytnaodipmfaglfaa", sum := "bb4a8d30d50a7bf75e151c60b1aa073c73b028ff8940acebc91008e416c69949", func := "gasolier/gasolierlaw04.CrewEither", spec := "crewEither", unfollowed := true, recurses := true, apart := false }
def CrewEitherSaid : Prop := crewEitherRow.holds Try.pinned (OpenSpec.ofChange crewEitherSpec)

/-- ITS FALSE NEIGHBOUR: 'it returns false'. Refute it at one input. -/
def crewEitherWrong : ChangeSpec := { name := "crewEither", fn := fun _ => fun
  | [d1, d2, d3] => { results := [.lit (.bool false)], args := [d1, d2, d3] }
  | _ => none }
def CrewEitherWrongFalsely : Prop := crewEitherRow.holds Try.pinned (OpenSpec.ofChange crewEitherWrong)

/-- 'gasolierlaw04.CrewLess': WHATEVER THE INPUT: true; the input reads as it did. -/
def crewLessSpec : ChangeSpec := { name := "crewLess", fn := fun _ => fun
  | [d1, d2] => { results := [.lit (.bool true)], args := [d1, d2] }
  | _ => none }
def crewLessRow : OpenClaim := { program := "ytnaodipmfaglfaa", sum := "bb4a8d30d50a7bf75e151c60b1aa073c73b028ff8940acebc91008e416c69949", func := "gasolier/gasolierlaw04.CrewLess", spec := "crewLess", inPlace := ["slices.overlaps[gasolier/api.Task]"], unfollowed := true, recurses := true, apart := false }
def CrewLessSaid : Prop := crewLessRow.holds Try.pinned (OpenSpec.ofChange crewLessSpec)

/-- ITS FALSE NEIGHBOUR: 'it returns false'. Refute it at one input. -/
def crewLessWrong : ChangeSpec := { name := "crewLess", fn := fun _ => fun
  | [d1, d2] => { results := [.lit (.bool false)], args := [d1, d2] }
  | _ => none }
def CrewLessWrongFalsely : Prop := crewLessRow.holds Try.pinned (OpenSpec.ofChange crewLessWrong)

/- THE SECOND FORM. 'bulk': how many values and letters a reading holds, each counted each time it is reached (what is shared counts as often as it is met; a slice's spare places count too). A statement '..UptoSaid' is the law's where the arguments, and the package variables that the reading takes, are together of bulk at most 1048576: NARROWER than '..Said'. Prove '..Said' where nothing that the law and all that it calls make is longer than what came in: it says more and counts as full. Else prove '..UptoSaid'. A law counts once. -/
mutual
def uptoBulk {H : Type} : DataW H → Nat
  | .lit (.string bytes) => bytes.length + 1
  | .lit _ => 1
  | .nil => 1
  | .ptr d => uptoBulk d + 1
  | .slice elems spare => uptoBulkAll elems + uptoBulkAll spare + 1
  | .agg parts => uptoBulkAll parts + 1
  | .iface _ d => uptoBulk d + 1
  | .map entries => uptoBulkEntries entries + 1
  | .held _ => 1
def uptoBulkAll {H : Type} : List (DataW H) → Nat
  | [] => 0
  | d :: r => uptoBulk d + uptoBulkAll r
def uptoBulkEntries {H : Type} : List (Lit × DataW H) → Nat
  | [] => 0
  | x :: r => uptoBulkEntry x + uptoBulkEntries r
def uptoBulkEntry {H : Type} : Lit × DataW H → Nat
  | (.string bytes, d) => bytes.length + uptoBulk d + 1
  | (_, d) => uptoBulk d + 1
 end
def uptoSmall : (H : Type) → List (DataW H) → Bool := fun _ ds => decide (uptoBulkAll ds ≤ 1048576)
def OpenSpec.upto (s : _root_.Go.ChangeSpec) : _root_.Go.OpenSpec := { _root_.Go.OpenSpec.ofChange s with cond := some uptoSmall }

/-- 'gasolierlaw04.CrewLate', WHERE WHAT IT READS IS OF BULK AT MOST 1048576: true; the input reads as it did. -/
def crewLateUptoRow : OpenClaim := { program := "ytnaodipmfaglfaa", sum := "bb4a8d30d50a7bf75e151c60b1aa073c73b028ff8940acebc91008e416c69949", func := "gasolier/gasolierlaw04.CrewLate", spec := "crewLate", unfollowed := true, recurses := true, apart := false, narrowed := true }
def CrewLateUptoSaid : Prop := crewLateUptoRow.holds Try.pinned (OpenSpec.upto crewLateSpec)

/-- 'gasolierlaw04.CrewTime', WHERE WHAT IT READS IS OF BULK AT MOST 1048576: true; the input reads as it did. -/
def crewTimeUptoRow : OpenClaim := { program := "ytnaodipmfaglfaa", sum := "bb4a8d30d50a7bf75e151c60b1aa073c73b028ff8940acebc91008e416c69949", func := "gasolier/gasolierlaw04.CrewTime", spec := "crewTime", unfollowed := true, recurses := true, apart := false, narrowed := true }
def CrewTimeUptoSaid : Prop := crewTimeUptoRow.holds Try.pinned (OpenSpec.upto crewTimeSpec)

/-- 'gasolierlaw04.CrewRounds', WHERE WHAT IT READS IS OF BULK AT MOST 1048576: true; the input reads as it did. -/
def crewRoundsUptoRow : OpenClaim := { program := "ytnaodipmfaglfaa", sum := "bb4a8d30d50a7bf75e151c60b1aa073c73b028ff8940acebc91008e416c69949", func := "gasolier/gasolierlaw04.CrewRounds", spec := "crewRounds", unfollowed := true, recurses := true, apart := false, narrowed := true }
def CrewRoundsUptoSaid : Prop := crewRoundsUptoRow.holds Try.pinned (OpenSpec.upto crewRoundsSpec)

/-- 'gasolierlaw04.CrewFewest', WHERE WHAT IT READS IS OF BULK AT MOST 1048576: true; the input reads as it did. -/
def crewFewestUptoRow : OpenClaim := { program := "ytnaodipmfaglfaa", sum := "bb4a8d30d50a7bf75e151c60b1aa073c73b028ff8940acebc91008e416c69949", func := "gasolier/gasolierlaw04.CrewFewest", spec := "crewFewest", unfollowed := true, recurses := true, apart := false, narrowed := true }
def CrewFewestUptoSaid : Prop := crewFewestUptoRow.holds Try.pinned (OpenSpec.upto crewFewestSpec)

/-- 'gasolierlaw04.CrewEither', WHERE WHAT IT READS IS OF BULK AT MOST 1048576: true; the input reads as it did. -/
def crewEitherUptoRow : OpenClaim := { program := "ytnaodipmfaglfaa", sum := "bb4a8d30d50a7bf75e151c60b1aa073c73b028ff8940acebc91008e416c69949", func := "gasolier/gasolierlaw04.CrewEither", spec := "crewEither", unfollowed := true, recurses := true, apart := false, narrowed := true }
def CrewEitherUptoSaid : Prop := crewEitherUptoRow.holds Try.pinned (OpenSpec.upto crewEitherSpec)

/-- 'gasolierlaw04.CrewLess', WHERE WHAT IT READS IS OF BULK AT MOST 1048576: true; the input reads as it did. -/
def crewLessUptoRow : OpenClaim := { program := "ytnaodipmfaglfaa", sum := "bb4a8d30d50a7bf75e151c60b1aa073c73b028ff8940acebc91008e416c69949", func := "gasolier/gasolierlaw04.CrewLess", spec := "crewLess", inPlace := ["slices.overlaps[gasolier/api.Task]"], unfollowed := true, recurses := true, apart := false, narrowed := true }
def CrewLessUptoSaid : Prop := crewLessUptoRow.holds Try.pinned (OpenSpec.upto crewLessSpec)

end Rows
end Go.Proofs.Ytnaodipmfaglfaa
