/-
  No cell of these rows narrows 'for every input' (looked for: loops, veiled, ifaces, maps, wideKeys, modest, calm, conditions, laid).
  DERIVED. THE GIVEN ROWS OF THIS SEAT. 18 by the template 'for every input the law returns true; each argument reads behind the call as it read before'; 0 by the template 'total and deterministic' (their statements: YtokeoodkioobdaaTotals.lean).
  GIVEN WITH THE SEED: the statements are not yours to turn. If you find one false, say at which input.
  Laid BY PROGRAM, IN A SANDBOX (cutbox-rows.mjs): the forced cells as the released guide's own fill.sh prints them over the translation cce07b709029a449… (all of the seat's roots in one cut). By AI agents, Wed Nov 11 2026. No macro, syntax, notation, axiom, sorry.
-/
import Derived.Test.YtokeoodkioobdaaChecked
import GoSem.Claim
import GoSem.ClaimJoined
import GoSem.ClaimMapViews
import Derived.JoinedTies
import Derived.KernelRfl
namespace Go.Proofs.Ytokeoodkioobdaa
/- THE CELL 'sum', in the pinned program and in every row, IS THE sha256 OF THE DUMP (.gsa) THAT YtokeoodkioobdaaProg.lean LOADS. Nothing in Lean hashes anything: it is a label: what it is worth is what the hold of that sum in a sandbox is worth. -/
noncomputable def Try.pinned : Pinned := { name := "ytokeoodkioobdaa", sum := "cce07b709029a449c048883dc5bbc2ed56b6ada302b7b8bd6272b07073687629", checked := Try.checked }
namespace Rows
def none {H : Type} : Left H := { results := [], args := [] }

/-- 'hourglasslaw01.FieldLaws': WHATEVER THE INPUT: true; the input reads as it did. -/
def fieldLawsSpec : ChangeSpec := { name := "fieldLaws", fn := fun _ => fun
  | [d1, d2, d3] => { results := [.lit (.bool true)], args := [d1, d2, d3] }
  | _ => none }
def fieldLawsRow : OpenClaim := { program := "ytokeoodkioobdaa", sum := "cce07b709029a449c048883dc5bbc2ed56b6ada302b7b8bd6272b07073687629", func := "hourglass/hourglasslaw01.FieldLaws", spec := "fieldLaws", apart := false }
def FieldLawsSaid : Prop := fieldLawsRow.holds Try.pinned (OpenSpec.ofChange fieldLawsSpec)

/-- ITS FALSE NEIGHBOUR: 'it returns false'. Refute it at one input. -/
def fieldLawsWrong : ChangeSpec := { name := "fieldLaws", fn := fun _ => fun
  | [d1, d2, d3] => { results := [.lit (.bool false)], args := [d1, d2, d3] }
  | _ => none }
def FieldLawsWrongFalsely : Prop := fieldLawsRow.holds Try.pinned (OpenSpec.ofChange fieldLawsWrong)

/-- 'hourglasslaw01.FieldDots': WHATEVER THE INPUT: true; the input reads as it did. -/
def fieldDotsSpec : ChangeSpec := { name := "fieldDots", fn := fun _ => fun
  | [d1, d2] => { results := [.lit (.bool true)], args := [d1, d2] }
  | _ => none }
def fieldDotsRow : OpenClaim := { program := "ytokeoodkioobdaa", sum := "cce07b709029a449c048883dc5bbc2ed56b6ada302b7b8bd6272b07073687629", func := "hourglass/hourglasslaw01.FieldDots", spec := "fieldDots", apart := false }
def FieldDotsSaid : Prop := fieldDotsRow.holds Try.pinned (OpenSpec.ofChange fieldDotsSpec)

/-- ITS FALSE NEIGHBOUR: 'it returns false'. Refute it at one input. -/
def fieldDotsWrong : ChangeSpec := { name := "fieldDots", fn := fun _ => fun
  | [d1, d2] => { results := [.lit (.bool false)], args := [d1, d2] }
  | _ => none }
def FieldDotsWrongFalsely : Prop := fieldDotsRow.holds Try.pinned (OpenSpec.ofChange fieldDotsWrong)

/-- 'hourglasslaw01.FieldPowers': WHATEVER THE INPUT: true; the input reads as it did. -/
def fieldPowersSpec : ChangeSpec := { name := "fieldPowers", fn := fun _ => fun
  | [d1, d2, d3, d4] => { results := [.lit (.bool true)], args := [d1, d2, d3, d4] }
  | _ => none }
def fieldPowersRow : OpenClaim := { program := "ytokeoodkioobdaa", sum := "cce07b709029a449c048883dc5bbc2ed56b6ada302b7b8bd6272b07073687629", func := "hourglass/hourglasslaw01.FieldPowers", spec := "fieldPowers", apart := false }
def FieldPowersSaid : Prop := fieldPowersRow.holds Try.pinned (OpenSpec.ofChange fieldPowersSpec)

/-- ITS FALSE NEIGHBOUR: 'it returns false'. Refute it at one input. -/
def fieldPowersWrong : ChangeSpec := { name := "fieldPowers", fn := fun _ => fun
  | [d1, d2, d3, d4] => { results := [.lit (.bool false)], args := [d1, d2, d3, d4] }
  | _ => none }
def FieldPowersWrongFalsely : Prop := fieldPowersRow.holds Try.pinned (OpenSpec.ofChange fieldPowersWrong)

/-- 'hourglasslaw01.FieldDoes': WHATEVER THE INPUT: true; the input reads as it did. -/
def fieldDoesSpec : ChangeSpec := { name := "fieldDoes", fn := fun _ => fun
  | [d1, d2, d3] => { results := [.lit (.bool true)], args := [d1, d2, d3] }
  | _ => none }
def fieldDoesRow : OpenClaim := { program := "ytokeoodkioobdaa", sum := "cce07b709029a449c048883dc5bbc2ed56b6ada302b7b8bd6272b07073687629", func := "hourglass/hourglasslaw01.FieldDoes", spec := "fieldDoes", apart := false }
def FieldDoesSaid : Prop := fieldDoesRow.holds Try.pinned (OpenSpec.ofChange fieldDoesSpec)

/-- ITS FALSE NEIGHBOUR: 'it returns false'. Refute it at one input. -/
def fieldDoesWrong : ChangeSpec := { name := "fieldDoes", fn := fun _ => fun
  | [d1, d2, d3] => { results := [.lit (.bool false)], args := [d1, d2, d3] }
  | _ => none }
def FieldDoesWrongFalsely : Prop := fieldDoesRow.holds Try.pinned (OpenSpec.ofChange fieldDoesWrong)

/-- 'hourglasslaw01.FieldAll': WHATEVER THE INPUT: true; the input reads as it did. -/
def fieldAllSpec : ChangeSpec := { name := "fieldAll", fn := fun _ => fun
  | [] => { results := [.lit (.bool true)], args := [] }
  | _ => none }
def fieldAllRow : OpenClaim := { program := "ytokeoodkioobdaa", sum := "cce07b709029a449c048883dc5bbc2ed56b6ada302b7b8bd6272b07073687629", func := "hourglass/hourglasslaw01.FieldAll", spec := "fieldAll", apart := false }
def FieldAllSaid : Prop := fieldAllRow.holds Try.pinned (OpenSpec.ofChange fieldAllSpec)

/-- ITS FALSE NEIGHBOUR: 'it returns false'. Refute it at one input. -/
def fieldAllWrong : ChangeSpec := { name := "fieldAll", fn := fun _ => fun
  | [] => { results := [.lit (.bool false)], args := [] }
  | _ => none }
def FieldAllWrongFalsely : Prop := fieldAllRow.holds Try.pinned (OpenSpec.ofChange fieldAllWrong)

/-- 'hourglasslaw02.PolyThrough': WHATEVER THE INPUT: true; the input reads as it did. -/
def polyThroughSpec : ChangeSpec := { name := "polyThrough", fn := fun _ => fun
  | [d1, d2] => { results := [.lit (.bool true)], args := [d1, d2] }
  | _ => none }
def polyThroughRow : OpenClaim := { program := "ytokeoodkioobdaa", sum := "cce07b709029a449c048883dc5bbc2ed56b6ada302b7b8bd6272b07073687629", func := "hourglass/hourglasslaw02.PolyThrough", spec := "polyThrough", unfollowed := true, recurses := true, apart := false }
def PolyThroughSaid : Prop := polyThroughRow.holds Try.pinned (OpenSpec.ofChange polyThroughSpec)

/-- ITS FALSE NEIGHBOUR: 'it returns false'. Refute it at one input. -/
def polyThroughWrong : ChangeSpec := { name := "polyThrough", fn := fun _ => fun
  | [d1, d2] => { results := [.lit (.bool false)], args := [d1, d2] }
  | _ => none }
def PolyThroughWrongFalsely : Prop := polyThroughRow.holds Try.pinned (OpenSpec.ofChange polyThroughWrong)

/-- 'hourglasslaw02.PolyOne': WHATEVER THE INPUT: true; the input reads as it did. -/
def polyOneSpec : ChangeSpec := { name := "polyOne", fn := fun _ => fun
  | [d1, d2, d3] => { results := [.lit (.bool true)], args := [d1, d2, d3] }
  | _ => none }
def polyOneRow : OpenClaim := { program := "ytokeoodkioobdaa", sum := "cce07b709029a449c048883dc5bbc2ed56b6ada302b7b8bd6272b07073687629", func := "hourglass/hourglasslaw02.PolyOne", spec := "polyOne", unfollowed := true, recurses := true, apart := false }
def PolyOneSaid : Prop := polyOneRow.holds Try.pinned (OpenSpec.ofChange polyOneSpec)

/-- ITS FALSE NEIGHBOUR: 'it returns false'. Refute it at one input. -/
def polyOneWrong : ChangeSpec := { name := "polyOne", fn := fun _ => fun
  | [d1, d2, d3] => { results := [.lit (.bool false)], args := [d1, d2, d3] }
  | _ => none }
def PolyOneWrongFalsely : Prop := polyOneRow.holds Try.pinned (OpenSpec.ofChange polyOneWrong)

/-- 'hourglasslaw04.LagrDoes': WHATEVER THE INPUT: true; the input reads as it did. -/
def lagrDoesSpec : ChangeSpec := { name := "lagrDoes", fn := fun _ => fun
  | [d1, d2, d3, d4] => { results := [.lit (.bool true)], args := [d1, d2, d3, d4] }
  | _ => none }
def lagrDoesRow : OpenClaim := { program := "ytokeoodkioobdaa", sum := "cce07b709029a449c048883dc5bbc2ed56b6ada302b7b8bd6272b07073687629", func := "hourglass/hourglasslaw04.LagrDoes", spec := "lagrDoes", apart := false }
def LagrDoesSaid : Prop := lagrDoesRow.holds Try.pinned (OpenSpec.ofChange lagrDoesSpec)

/-- ITS FALSE NEIGHBOUR: 'it returns false'. Refute it at one input. -/
def lagrDoesWrong : ChangeSpec := { name := "lagrDoes", fn := fun _ => fun
  | [d1, d2, d3, d4] => { results := [.lit (.bool false)], args := [d1, d2, d3, d4] }
  | _ => none }
def LagrDoesWrongFalsely : Prop := lagrDoesRow.holds Try.pinned (OpenSpec.ofChange lagrDoesWrong)

/-- 'hourglasslaw04.LagrOnes': WHATEVER THE INPUT: true; the input reads as it did. -/
def lagrOnesSpec : ChangeSpec := { name := "lagrOnes", fn := fun _ => fun
  | [d1, d2, d3, d4] => { results := [.lit (.bool true)], args := [d1, d2, d3, d4] }
  | _ => none }
def lagrOnesRow : OpenClaim := { program := "ytokeoodkioobdaa", sum := "cce07b709029a449c048883dc5bbc2ed56b6ada302b7b8bd6272b07073687629", func := "hourglass/hourglasslaw04.LagrOnes", spec := "lagrOnes", apart := false }
def LagrOnesSaid : Prop := lagrOnesRow.holds Try.pinned (OpenSpec.ofChange lagrOnesSpec)

/-- ITS FALSE NEIGHBOUR: 'it returns false'. Refute it at one input. -/
def lagrOnesWrong : ChangeSpec := { name := "lagrOnes", fn := fun _ => fun
  | [d1, d2, d3, d4] => { results := [.lit (.bool false)], args := [d1, d2, d3, d4] }
  | _ => none }
def LagrOnesWrongFalsely : Prop := lagrOnesRow.holds Try.pinned (OpenSpec.ofChange lagrOnesWrong)

/-- 'hourglasslaw02.PolyDoes': WHATEVER THE INPUT: true; the input reads as it did. -/
def polyDoesSpec : ChangeSpec := { name := "polyDoes", fn := fun _ => fun
  | [d1, d2, d3] => { results := [.lit (.bool true)], args := [d1, d2, d3] }
  | _ => none }
def polyDoesRow : OpenClaim := { program := "ytokeoodkioobdaa", sum := "cce07b709029a449c048883dc5bbc2ed56b6ada302b7b8bd6272b07073687629", func := "hourglass/hourglasslaw02.PolyDoes", spec := "polyDoes", unfollowed := true, recurses := true, apart := false }
def PolyDoesSaid : Prop := polyDoesRow.holds Try.pinned (OpenSpec.ofChange polyDoesSpec)

/-- ITS FALSE NEIGHBOUR: 'it returns false'. Refute it at one input. -/
def polyDoesWrong : ChangeSpec := { name := "polyDoes", fn := fun _ => fun
  | [d1, d2, d3] => { results := [.lit (.bool false)], args := [d1, d2, d3] }
  | _ => none }
def PolyDoesWrongFalsely : Prop := polyDoesRow.holds Try.pinned (OpenSpec.ofChange polyDoesWrong)

/-- 'hourglasslaw02.PolyEnds': WHATEVER THE INPUT: true; the input reads as it did. -/
def polyEndsSpec : ChangeSpec := { name := "polyEnds", fn := fun _ => fun
  | [] => { results := [.lit (.bool true)], args := [] }
  | _ => none }
def polyEndsRow : OpenClaim := { program := "ytokeoodkioobdaa", sum := "cce07b709029a449c048883dc5bbc2ed56b6ada302b7b8bd6272b07073687629", func := "hourglass/hourglasslaw02.PolyEnds", spec := "polyEnds", unfollowed := true, recurses := true, apart := false }
def PolyEndsSaid : Prop := polyEndsRow.holds Try.pinned (OpenSpec.ofChange polyEndsSpec)

/-- ITS FALSE NEIGHBOUR: 'it returns false'. Refute it at one input. -/
def polyEndsWrong : ChangeSpec := { name := "polyEnds", fn := fun _ => fun
  | [] => { results := [.lit (.bool false)], args := [] }
  | _ => none }
def PolyEndsWrongFalsely : Prop := polyEndsRow.holds Try.pinned (OpenSpec.ofChange polyEndsWrong)

/-- 'hourglasslaw02.PolyValues': WHATEVER THE INPUT: true; the input reads as it did. -/
def polyValuesSpec : ChangeSpec := { name := "polyValues", fn := fun _ => fun
  | [d1, d2, d3] => { results := [.lit (.bool true)], args := [d1, d2, d3] }
  | _ => none }
def polyValuesRow : OpenClaim := { program := "ytokeoodkioobdaa", sum := "cce07b709029a449c048883dc5bbc2ed56b6ada302b7b8bd6272b07073687629", func := "hourglass/hourglasslaw02.PolyValues", spec := "polyValues", unfollowed := true, recurses := true, apart := false }
def PolyValuesSaid : Prop := polyValuesRow.holds Try.pinned (OpenSpec.ofChange polyValuesSpec)

/-- ITS FALSE NEIGHBOUR: 'it returns false'. Refute it at one input. -/
def polyValuesWrong : ChangeSpec := { name := "polyValues", fn := fun _ => fun
  | [d1, d2, d3] => { results := [.lit (.bool false)], args := [d1, d2, d3] }
  | _ => none }
def PolyValuesWrongFalsely : Prop := polyValuesRow.holds Try.pinned (OpenSpec.ofChange polyValuesWrong)

/-- 'hourglasslaw04.LagrTables': WHATEVER THE INPUT: true; the input reads as it did. -/
def lagrTablesSpec : ChangeSpec := { name := "lagrTables", fn := fun _ => fun
  | [] => { results := [.lit (.bool true)], args := [] }
  | _ => none }
def lagrTablesRow : OpenClaim := { program := "ytokeoodkioobdaa", sum := "cce07b709029a449c048883dc5bbc2ed56b6ada302b7b8bd6272b07073687629", func := "hourglass/hourglasslaw04.LagrTables", spec := "lagrTables", apart := false }
def LagrTablesSaid : Prop := lagrTablesRow.holds Try.pinned (OpenSpec.ofChange lagrTablesSpec)

/-- ITS FALSE NEIGHBOUR: 'it returns false'. Refute it at one input. -/
def lagrTablesWrong : ChangeSpec := { name := "lagrTables", fn := fun _ => fun
  | [] => { results := [.lit (.bool false)], args := [] }
  | _ => none }
def LagrTablesWrongFalsely : Prop := lagrTablesRow.holds Try.pinned (OpenSpec.ofChange lagrTablesWrong)

/-- 'hourglasslaw03.RowsNest': WHATEVER THE INPUT: true; the input reads as it did. -/
def rowsNestSpec : ChangeSpec := { name := "rowsNest", fn := fun _ => fun
  | [d1, d2, d3] => { results := [.lit (.bool true)], args := [d1, d2, d3] }
  | _ => none }
def rowsNestRow : OpenClaim := { program := "ytokeoodkioobdaa", sum := "cce07b709029a449c048883dc5bbc2ed56b6ada302b7b8bd6272b07073687629", func := "hourglass/hourglasslaw03.RowsNest", spec := "rowsNest", unfollowed := true, recurses := true, apart := false }
def RowsNestSaid : Prop := rowsNestRow.holds Try.pinned (OpenSpec.ofChange rowsNestSpec)

/-- ITS FALSE NEIGHBOUR: 'it returns false'. Refute it at one input. -/
def rowsNestWrong : ChangeSpec := { name := "rowsNest", fn := fun _ => fun
  | [d1, d2, d3] => { results := [.lit (.bool false)], args := [d1, d2, d3] }
  | _ => none }
def RowsNestWrongFalsely : Prop := rowsNestRow.holds Try.pinned (OpenSpec.ofChange rowsNestWrong)

/-- 'hourglasslaw03.RowsDo': WHATEVER THE INPUT: true; the input reads as it did. -/
def rowsDoSpec : ChangeSpec := { name := "rowsDo", fn := fun _ => fun
  | [d1, d2, d3, d4] => { results := [.lit (.bool true)], args := [d1, d2, d3, d4] }
  | _ => none }
def rowsDoRow : OpenClaim := { program := "ytokeoodkioobdaa", sum := "cce07b709029a449c048883dc5bbc2ed56b6ada302b7b8bd6272b07073687629", func := "hourglass/hourglasslaw03.RowsDo", spec := "rowsDo", unfollowed := true, recurses := true, apart := false }
def RowsDoSaid : Prop := rowsDoRow.holds Try.pinned (OpenSpec.ofChange rowsDoSpec)

/-- ITS FALSE NEIGHBOUR: 'it returns false'. Refute it at one input. -/
def rowsDoWrong : ChangeSpec := { name := "rowsDo", fn := fun _ => fun
  | [d1, d2, d3, d4] => { results := [.lit (.bool false)], args := [d1, d2, d3, d4] }
  | _ => none }
def RowsDoWrongFalsely : Prop := rowsDoRow.holds Try.pinned (OpenSpec.ofChange rowsDoWrong)

/-- 'hourglasslaw03.RowsEnds': WHATEVER THE INPUT: true; the input reads as it did. -/
def rowsEndsSpec : ChangeSpec := { name := "rowsEnds", fn := fun _ => fun
  | [] => { results := [.lit (.bool true)], args := [] }
  | _ => none }
def rowsEndsRow : OpenClaim := { program := "ytokeoodkioobdaa", sum := "cce07b709029a449c048883dc5bbc2ed56b6ada302b7b8bd6272b07073687629", func := "hourglass/hourglasslaw03.RowsEnds", spec := "rowsEnds", unfollowed := true, recurses := true, apart := false }
def RowsEndsSaid : Prop := rowsEndsRow.holds Try.pinned (OpenSpec.ofChange rowsEndsSpec)

/-- ITS FALSE NEIGHBOUR: 'it returns false'. Refute it at one input. -/
def rowsEndsWrong : ChangeSpec := { name := "rowsEnds", fn := fun _ => fun
  | [] => { results := [.lit (.bool false)], args := [] }
  | _ => none }
def RowsEndsWrongFalsely : Prop := rowsEndsRow.holds Try.pinned (OpenSpec.ofChange rowsEndsWrong)

/-- 'hourglasslaw03.RowsBack': WHATEVER THE INPUT: true; the input reads as it did. -/
def rowsBackSpec : ChangeSpec := { name := "rowsBack", fn := fun _ => fun
  | [d1, d2] => { results := [.lit (.bool true)], args := [d1, d2] }
  | _ => none }
def rowsBackRow : OpenClaim := { program := "ytokeoodkioobdaa", sum := "cce07b709029a449c048883dc5bbc2ed56b6ada302b7b8bd6272b07073687629", func := "hourglass/hourglasslaw03.RowsBack", spec := "rowsBack", unfollowed := true, recurses := true, apart := false }
def RowsBackSaid : Prop := rowsBackRow.holds Try.pinned (OpenSpec.ofChange rowsBackSpec)

/-- ITS FALSE NEIGHBOUR: 'it returns false'. Refute it at one input. -/
def rowsBackWrong : ChangeSpec := { name := "rowsBack", fn := fun _ => fun
  | [d1, d2] => { results := [.lit (.bool false)], args := [d1, d2] }
  | _ => none }
def RowsBackWrongFalsely : Prop := rowsBackRow.holds Try.pinned (OpenSpec.ofChange rowsBackWrong)

/-- 'hourglasslaw04.LagrAny': WHATEVER THE INPUT: true; the input reads as it did. -/
def lagrAnySpec : ChangeSpec := { name := "lagrAny", fn := fun _ => fun
  | [d1, d2, d3, d4, d5, d6] => { results := [.lit (.bool true)], args := [d1, d2, d3, d4, d5, d6] }
  | _ => none }
def lagrAnyRow : OpenClaim := { program := "ytokeoodkioobdaa", sum := "cce07b709029a449c048883dc5bbc2ed56b6ada302b7b8bd6272b07073687629", func := "hourglass/hourglasslaw04.LagrAny", spec := "lagrAny", unfollowed := true, recurses := true, apart := false }
def LagrAnySaid : Prop := lagrAnyRow.holds Try.pinned (OpenSpec.ofChange lagrAnySpec)

/-- ITS FALSE NEIGHBOUR: 'it returns false'. Refute it at one input. -/
def lagrAnyWrong : ChangeSpec := { name := "lagrAny", fn := fun _ => fun
  | [d1, d2, d3, d4, d5, d6] => { results := [.lit (.bool false)], args := [d1, d2, d3, d4, d5, d6] }
  | _ => none }
def LagrAnyWrongFalsely : Prop := lagrAnyRow.holds Try.pinned (OpenSpec.ofChange lagrAnyWrong)

/- THE SECOND FORM. 'bulk': how many values and letters a reading holds, each counted each time it is reached (what is shared counts as often as it is met; a slice's spare places count too). A statement '..UptoSaid' is the law's where the arguments, and the package variables that the reading takes, are together of bulk at most 1048576: NARROWER than '..Said'. Prove '..Said' where nothing that the law and all that it calls make is longer than what came in: it says more and counts as full. Else prove '..UptoSaid'. A law counts once. -/
mutual
def uptoBulk {H : Type} : DataW H → Nat
  | .lit (.string bytes) => bytes.length + 1
  | .lit _ => 1
  | .nil => 1
  | .ptr d => uptoBulk d + 1
  | .slice elems spare => uptoBulkAll elems + uptoBulkAll spare + 1
  | .agg parts => uptoBulkAll parts + 1
  | .iface _ d => uptoBulk d + 1
  | .map entries => uptoBulkEntries entries + 1
  | .held _ => 1
def uptoBulkAll {H : Type} : List (DataW H) → Nat
  | [] => 0
  | d :: r => uptoBulk d + uptoBulkAll r
def uptoBulkEntries {H : Type} : List (Lit × DataW H) → Nat
  | [] => 0
  | x :: r => uptoBulkEntry x + uptoBulkEntries r
def uptoBulkEntry {H : Type} : Lit × DataW H → Nat
  | (.string bytes, d) => bytes.length + uptoBulk d + 1
  | (_, d) => uptoBulk d + 1
 end
def uptoSmall : (H : Type) → List (DataW H) → Bool := fun _ ds => decide (uptoBulkAll ds ≤ 1048576)
def OpenSpec.upto (s : _root_.Go.ChangeSpec) : _root_.Go.OpenSpec := { _root_.Go.OpenSpec.ofChange s with cond := some uptoSmall }

/-- 'hourglasslaw01.FieldLaws', WHERE WHAT IT READS IS OF BULK AT MOST 1048576: true; the input reads as it did. -/
def fieldLawsUptoRow : OpenClaim := { program := "ytokeoodkioobdaa", sum := "cce07b709029a449c048883dc5bbc2ed56b6ada302b7b8bd6272b07073687629", func := "hourglass/hourglasslaw01.FieldLaws", spec := "fieldLaws", apart := false, narrowed := true }
def FieldLawsUptoSaid : Prop := fieldLawsUptoRow.holds Try.pinned (OpenSpec.upto fieldLawsSpec)

/-- 'hourglasslaw01.FieldDots', WHERE WHAT IT READS IS OF BULK AT MOST 1048576: true; the input reads as it did. -/
def fieldDotsUptoRow : OpenClaim := { program := "ytokeoodkioobdaa", sum := "cce07b709029a449c048883dc5bbc2ed56b6ada302b7b8bd6272b07073687629", func := "hourglass/hourglasslaw01.FieldDots", spec := "fieldDots", apart := false, narrowed := true }
def FieldDotsUptoSaid : Prop := fieldDotsUptoRow.holds Try.pinned (OpenSpec.upto fieldDotsSpec)

/-- 'hourglasslaw01.FieldPowers', WHERE WHAT IT READS IS OF BULK AT MOST 1048576: true; the input reads as it did. -/
def fieldPowersUptoRow : OpenClaim := { program := "ytokeoodkioobdaa", sum := "cce07b709029a449c048883dc5bbc2ed56b6ada302b7b8bd6272b07073687629", func := "hourglass/hourglasslaw01.FieldPowers", spec := "fieldPowers", apart := false, narrowed := true }
def FieldPowersUptoSaid : Prop := fieldPowersUptoRow.holds Try.pinned (OpenSpec.upto fieldPowersSpec)

/-- 'hourglasslaw01.FieldDoes', WHERE WHAT IT READS IS OF BULK AT MOST 1048576: true; the input reads as it did. -/
def fieldDoesUptoRow : OpenClaim := { program := "ytokeoodkioobdaa", sum := "cce07b709029a449c048883dc5bbc2ed56b6ada302b7b8bd6272b07073687629", func := "hourglass/hourglasslaw01.FieldDoes", spec := "fieldDoes", apart := false, narrowed := true }
def FieldDoesUptoSaid : Prop := fieldDoesUptoRow.holds Try.pinned (OpenSpec.upto fieldDoesSpec)

/-- 'hourglasslaw01.FieldAll', WHERE WHAT IT READS IS OF BULK AT MOST 1048576: true; the input reads as it did. -/
def fieldAllUptoRow : OpenClaim := { program := "ytokeoodkioobdaa", sum := "cce07b709029a449c048883dc5bbc2ed56b6ada302b7b8bd6272b07073687629", func := "hourglass/hourglasslaw01.FieldAll", spec := "fieldAll", apart := false, narrowed := true }
def FieldAllUptoSaid : Prop := fieldAllUptoRow.holds Try.pinned (OpenSpec.upto fieldAllSpec)

/-- 'hourglasslaw02.PolyThrough', WHERE WHAT IT READS IS OF BULK AT MOST 1048576: true; the input reads as it did. -/
def polyThroughUptoRow : OpenClaim := { program := "ytokeoodkioobdaa", sum := "cce07b709029a449c048883dc5bbc2ed56b6ada302b7b8bd6272b07073687629", func := "hourglass/hourglasslaw02.PolyThrough", spec := "polyThrough", unfollowed := true, recurses := true, apart := false, narrowed := true }
def PolyThroughUptoSaid : Prop := polyThroughUptoRow.holds Try.pinned (OpenSpec.upto polyThroughSpec)

/-- 'hourglasslaw02.PolyOne', WHERE WHAT IT READS IS OF BULK AT MOST 1048576: true; the input reads as it did. -/
def polyOneUptoRow : OpenClaim := { program := "ytokeoodkioobdaa", sum := "cce07b709029a449c048883dc5bbc2ed56b6ada302b7b8bd6272b07073687629", func := "hourglass/hourglasslaw02.PolyOne", spec := "polyOne", unfollowed := true, recurses := true, apart := false, narrowed := true }
def PolyOneUptoSaid : Prop := polyOneUptoRow.holds Try.pinned (OpenSpec.upto polyOneSpec)

/-- 'hourglasslaw04.LagrDoes', WHERE WHAT IT READS IS OF BULK AT MOST 1048576: true; the input reads as it did. -/
def lagrDoesUptoRow : OpenClaim := { program := "ytokeoodkioobdaa", sum := "cce07b709029a449c048883dc5bbc2ed56b6ada302b7b8bd6272b07073687629", func := "hourglass/hourglasslaw04.LagrDoes", spec := "lagrDoes", apart := false, narrowed := true }
def LagrDoesUptoSaid : Prop := lagrDoesUptoRow.holds Try.pinned (OpenSpec.upto lagrDoesSpec)

/-- 'hourglasslaw04.LagrOnes', WHERE WHAT IT READS IS OF BULK AT MOST 1048576: true; the input reads as it did. -/
def lagrOnesUptoRow : OpenClaim := { program := "ytokeoodkioobdaa", sum := "cce07b709029a449c048883dc5bbc2ed56b6ada302b7b8bd6272b07073687629", func := "hourglass/hourglasslaw04.LagrOnes", spec := "lagrOnes", apart := false, narrowed := true }
def LagrOnesUptoSaid : Prop := lagrOnesUptoRow.holds Try.pinned (OpenSpec.upto lagrOnesSpec)

/-- 'hourglasslaw02.PolyDoes', WHERE WHAT IT READS IS OF BULK AT MOST 1048576: true; the input reads as it did. -/
def polyDoesUptoRow : OpenClaim := { program := "ytokeoodkioobdaa", sum := "cce07b709029a449c048883dc5bbc2ed56b6ada302b7b8bd6272b07073687629", func := "hourglass/hourglasslaw02.PolyDoes", spec := "polyDoes", unfollowed := true, recurses := true, apart := false, narrowed := true }
def PolyDoesUptoSaid : Prop := polyDoesUptoRow.holds Try.pinned (OpenSpec.upto polyDoesSpec)

/-- 'hourglasslaw02.PolyEnds', WHERE WHAT IT READS IS OF BULK AT MOST 1048576: true; the input reads as it did. -/
def polyEndsUptoRow : OpenClaim := { program := "ytokeoodkioobdaa", sum := "cce07b709029a449c048883dc5bbc2ed56b6ada302b7b8bd6272b07073687629", func := "hourglass/hourglasslaw02.PolyEnds", spec := "polyEnds", unfollowed := true, recurses := true, apart := false, narrowed := true }
def PolyEndsUptoSaid : Prop := polyEndsUptoRow.holds Try.pinned (OpenSpec.upto polyEndsSpec)

/-- 'hourglasslaw02.PolyValues', WHERE WHAT IT READS IS OF BULK AT MOST 1048576: true; the input reads as it did. -/
def polyValuesUptoRow : OpenClaim := { program := "ytokeoodkioobdaa", sum := "cce07b709029a449c048883dc5bbc2ed56b6ada302b7b8bd6272b07073687629", func := "hourglass/hourglasslaw02.PolyValues", spec := "polyValues", unfollowed := true, recurses := true, apart := false, narrowed := true }
def PolyValuesUptoSaid : Prop := polyValuesUptoRow.holds Try.pinned (OpenSpec.upto polyValuesSpec)

/-- 'hourglasslaw04.LagrTables', WHERE WHAT IT READS IS OF BULK AT MOST 1048576: true; the input reads as it did. -/
def lagrTablesUptoRow : OpenClaim := { program := "ytokeoodkioobdaa", sum := "cce07b709029a449c048883dc5bbc2ed56b6ada302b7b8bd6272b07073687629", func := "hourglass/hourglasslaw04.LagrTables", spec := "lagrTables", apart := false, narrowed := true }
def LagrTablesUptoSaid : Prop := lagrTablesUptoRow.holds Try.pinned (OpenSpec.upto lagrTablesSpec)

/-- 'hourglasslaw03.RowsNest', WHERE WHAT IT READS IS OF BULK AT MOST 1048576: true; the input reads as it did. -/
def rowsNestUptoRow : OpenClaim := { program := "ytokeoodkioobdaa", sum := "cce07b709029a449c048883dc5bbc2ed56b6ada302b7b8bd6272b07073687629", func := "hourglass/hourglasslaw03.RowsNest", spec := "rowsNest", unfollowed := true, recurses := true, apart := false, narrowed := true }
def RowsNestUptoSaid : Prop := rowsNestUptoRow.holds Try.pinned (OpenSpec.upto rowsNestSpec)

/-- 'hourglasslaw03.RowsDo', WHERE WHAT IT READS IS OF BULK AT MOST 1048576: true; the input reads as it did. -/
def rowsDoUptoRow : OpenClaim := { program := "ytokeoodkioobdaa", sum := "cce07b709029a449c048883dc5bbc2ed56b6ada302b7b8bd6272b07073687629", func := "hourglass/hourglasslaw03.RowsDo", spec := "rowsDo", unfollowed := true, recurses := true, apart := false, narrowed := true }
def RowsDoUptoSaid : Prop := rowsDoUptoRow.holds Try.pinned (OpenSpec.upto rowsDoSpec)

/-- 'hourglasslaw03.RowsEnds', WHERE WHAT IT READS IS OF BULK AT MOST 1048576: true; the input reads as it did. -/
def rowsEndsUptoRow : OpenClaim := { program := "ytokeoodkioobdaa", sum := "cce07b709029a449c048883dc5bbc2ed56b6ada302b7b8bd6272b07073687629", func := "hourglass/hourglasslaw03.RowsEnds", spec := "rowsEnds", unfollowed := true, recurses := true, apart := false, narrowed := true }
def RowsEndsUptoSaid : Prop := rowsEndsUptoRow.holds Try.pinned (OpenSpec.upto rowsEndsSpec)

/-- 'hourglasslaw03.RowsBack', WHERE WHAT IT READS IS OF BULK AT MOST 1048576: true; the input reads as it did. -/
def rowsBackUptoRow : OpenClaim := { program := "ytokeoodkioobdaa", sum := "cce07b709029a449c048883dc5bbc2ed56b6ada302b7b8bd6272b07073687629", func := "hourglass/hourglasslaw03.RowsBack", spec := "rowsBack", unfollowed := true, recurses := true, apart := false, narrowed := true }
def RowsBackUptoSaid : Prop := rowsBackUptoRow.holds Try.pinned (OpenSpec.upto rowsBackSpec)

/-- 'hourglasslaw04.LagrAny', WHERE WHAT IT READS IS OF BULK AT MOST 1048576: true; the input reads as it did. -/
def lagrAnyUptoRow : OpenClaim := { program := "ytokeoodkioobdaa", sum := "cce07b709029a449c048883dc5bbc2ed56b6ada302b7b8bd6272b07073687629", func := "hourglass/hourglasslaw04.LagrAny", spec := "lagrAny", unfollowed := true, recurses := true, apart := false, narrowed := true }
def LagrAnyUptoSaid : Prop := lagrAnyUptoRow.holds Try.pinned (OpenSpec.upto lagrAnySpec)

end Rows
end Go.Proofs.Ytokeoodkioobdaa
