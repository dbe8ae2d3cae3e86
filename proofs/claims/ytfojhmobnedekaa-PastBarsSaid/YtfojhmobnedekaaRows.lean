/-
  No cell of these rows narrows 'for every input' (looked for: loops, veiled, ifaces, maps, wideKeys, modest, calm, conditions, laid).
  DERIVED. THE GIVEN ROWS OF THIS SEAT. 11 by the template 'for every input the law returns true; each argument reads behind the call as it read before'; 0 by the template 'total and deterministic' (their statements: YtfojhmobnedekaaTotals.lean).
  GIVEN WITH THE SEED: the statements are not yours to turn. If you find one false, say at which input.
  Laid BY PROGRAM, IN A SANDBOX (cutbox-rows.mjs): the forced cells as the released guide's own fill.sh prints them over the translation cdb444b82288197f… (all of the seat's roots in one cut). By AI agents, Wed Nov 11 2026. No macro, syntax, notation, axiom, sorry.
-/
import Derived.Test.YtfojhmobnedekaaChecked
import GoSem.Claim
import GoSem.ClaimJoined
import GoSem.ClaimMapViews
import Derived.JoinedTies
import Derived.KernelRfl
namespace Go.Proofs.Ytfojhmobnedekaa
/- THE CELL 'sum', in the pinned program and in every row, IS THE sha256 OF THE DUMP (.gsa) THAT YtfojhmobnedekaaProg.lean LOADS. Nothing in Lean hashes anything: it is a label: what it is worth is what the hold of that sum in a sandbox is worth. -/
noncomputable def Try.pinned : Pinned := { name := "ytfojhmobnedekaa", sum := "cdb444b82288197fa02d3bf37b91c517a91062d91daa7a11736b3a9b272b362a", checked := Try.checked }
namespace Rows
def none {H : Type} : Left H := { results := [], args := [] }

/-- 'hourglasslaw27.FateLands': WHATEVER THE INPUT: true; the input reads as it did. -/
def fateLandsSpec : ChangeSpec := { name := "fateLands", fn := fun _ => fun
  | [d1, d2, d3, d4] => { results := [.lit (.bool true)], args := [d1, d2, d3, d4] }
  | _ => none }
def fateLandsRow : OpenClaim := { program := "ytfojhmobnedekaa", sum := "cdb444b82288197fa02d3bf37b91c517a91062d91daa7a11736b3a9b272b362a", func := "hourglass/hourglasslaw27.FateLands", spec := "fateLands", unfollowed := true, recurses := true, apart := false }
def FateLandsSaid : Prop := fateLandsRow.holds Try.pinned (OpenSpec.ofChange fateLandsSpec)

/-- ITS FALSE NEIGHBOUR: 'it returns false'. Refute it at one input. -/
def fateLandsWrong : ChangeSpec := { name := "fateLands", fn := fun _ => fun
  | [d1, d2, d3, d4] => { results := [.lit (.bool false)], args := [d1, d2, d3, d4] }
  | _ => none }
def FateLandsWrongFalsely : Prop := fateLandsRow.holds Try.pinned (OpenSpec.ofChange fateLandsWrong)

/-- 'hourglasslaw27.FateKeeps': WHATEVER THE INPUT: true; the input reads as it did. -/
def fateKeepsSpec : ChangeSpec := { name := "fateKeeps", fn := fun _ => fun
  | [d1, d2, d3] => { results := [.lit (.bool true)], args := [d1, d2, d3] }
  | _ => none }
def fateKeepsRow : OpenClaim := { program := "ytfojhmobnedekaa", sum := "cdb444b82288197fa02d3bf37b91c517a91062d91daa7a11736b3a9b272b362a", func := "hourglass/hourglasslaw27.FateKeeps", spec := "fateKeeps", unfollowed := true, recurses := true, apart := false }
def FateKeepsSaid : Prop := fateKeepsRow.holds Try.pinned (OpenSpec.ofChange fateKeepsSpec)

/-- ITS FALSE NEIGHBOUR: 'it returns false'. Refute it at one input. -/
def fateKeepsWrong : ChangeSpec := { name := "fateKeeps", fn := fun _ => fun
  | [d1, d2, d3] => { results := [.lit (.bool false)], args := [d1, d2, d3] }
  | _ => none }
def FateKeepsWrongFalsely : Prop := fateKeepsRow.holds Try.pinned (OpenSpec.ofChange fateKeepsWrong)

/-- 'hourglasslaw27.FateTurns': WHATEVER THE INPUT: true; the input reads as it did. -/
def fateTurnsSpec : ChangeSpec := { name := "fateTurns", fn := fun _ => fun
  | [d1, d2, d3] => { results := [.lit (.bool true)], args := [d1, d2, d3] }
  | _ => none }
def fateTurnsRow : OpenClaim := { program := "ytfojhmobnedekaa", sum := "cdb444b82288197fa02d3bf37b91c517a91062d91daa7a11736b3a9b272b362a", func := "hourglass/hourglasslaw27.FateTurns", spec := "fateTurns", unfollowed := true, recurses := true, apart := false }
def FateTurnsSaid : Prop := fateTurnsRow.holds Try.pinned (OpenSpec.ofChange fateTurnsSpec)

/-- ITS FALSE NEIGHBOUR: 'it returns false'. Refute it at one input. -/
def fateTurnsWrong : ChangeSpec := { name := "fateTurns", fn := fun _ => fun
  | [d1, d2, d3] => { results := [.lit (.bool false)], args := [d1, d2, d3] }
  | _ => none }
def FateTurnsWrongFalsely : Prop := fateTurnsRow.holds Try.pinned (OpenSpec.ofChange fateTurnsWrong)

/-- 'hourglasslaw27.FateTells': WHATEVER THE INPUT: true; the input reads as it did. -/
def fateTellsSpec : ChangeSpec := { name := "fateTells", fn := fun _ => fun
  | [d1, d2] => { results := [.lit (.bool true)], args := [d1, d2] }
  | _ => none }
def fateTellsRow : OpenClaim := { program := "ytfojhmobnedekaa", sum := "cdb444b82288197fa02d3bf37b91c517a91062d91daa7a11736b3a9b272b362a", func := "hourglass/hourglasslaw27.FateTells", spec := "fateTells", unfollowed := true, recurses := true, apart := false }
def FateTellsSaid : Prop := fateTellsRow.holds Try.pinned (OpenSpec.ofChange fateTellsSpec)

/-- ITS FALSE NEIGHBOUR: 'it returns false'. Refute it at one input. -/
def fateTellsWrong : ChangeSpec := { name := "fateTells", fn := fun _ => fun
  | [d1, d2] => { results := [.lit (.bool false)], args := [d1, d2] }
  | _ => none }
def FateTellsWrongFalsely : Prop := fateTellsRow.holds Try.pinned (OpenSpec.ofChange fateTellsWrong)

/-- 'hourglasslaw27.FateSmall': WHATEVER THE INPUT: true; the input reads as it did. -/
def fateSmallSpec : ChangeSpec := { name := "fateSmall", fn := fun _ => fun
  | [] => { results := [.lit (.bool true)], args := [] }
  | _ => none }
def fateSmallRow : OpenClaim := { program := "ytfojhmobnedekaa", sum := "cdb444b82288197fa02d3bf37b91c517a91062d91daa7a11736b3a9b272b362a", func := "hourglass/hourglasslaw27.FateSmall", spec := "fateSmall", unfollowed := true, recurses := true, apart := false }
def FateSmallSaid : Prop := fateSmallRow.holds Try.pinned (OpenSpec.ofChange fateSmallSpec)

/-- ITS FALSE NEIGHBOUR: 'it returns false'. Refute it at one input. -/
def fateSmallWrong : ChangeSpec := { name := "fateSmall", fn := fun _ => fun
  | [] => { results := [.lit (.bool false)], args := [] }
  | _ => none }
def FateSmallWrongFalsely : Prop := fateSmallRow.holds Try.pinned (OpenSpec.ofChange fateSmallWrong)

/-- 'hourglasslaw28.WireOnce': WHATEVER THE INPUT: true; the input reads as it did. -/
def wireOnceSpec : ChangeSpec := { name := "wireOnce", fn := fun _ => fun
  | [d1, d2] => { results := [.lit (.bool true)], args := [d1, d2] }
  | _ => none }
def wireOnceRow : OpenClaim := { program := "ytfojhmobnedekaa", sum := "cdb444b82288197fa02d3bf37b91c517a91062d91daa7a11736b3a9b272b362a", func := "hourglass/hourglasslaw28.WireOnce", spec := "wireOnce", inPlace := ["slices.overlaps[hourglass/wire.landing]"], unfollowed := true, recurses := true, apart := false }
def WireOnceSaid : Prop := wireOnceRow.holds Try.pinned (OpenSpec.ofChange wireOnceSpec)

/-- ITS FALSE NEIGHBOUR: 'it returns false'. Refute it at one input. -/
def wireOnceWrong : ChangeSpec := { name := "wireOnce", fn := fun _ => fun
  | [d1, d2] => { results := [.lit (.bool false)], args := [d1, d2] }
  | _ => none }
def WireOnceWrongFalsely : Prop := wireOnceRow.holds Try.pinned (OpenSpec.ofChange wireOnceWrong)

/-- 'hourglasslaw28.WireSteps': WHATEVER THE INPUT: true; the input reads as it did. -/
def wireStepsSpec : ChangeSpec := { name := "wireSteps", fn := fun _ => fun
  | [d1, d2] => { results := [.lit (.bool true)], args := [d1, d2] }
  | _ => none }
def wireStepsRow : OpenClaim := { program := "ytfojhmobnedekaa", sum := "cdb444b82288197fa02d3bf37b91c517a91062d91daa7a11736b3a9b272b362a", func := "hourglass/hourglasslaw28.WireSteps", spec := "wireSteps", inPlace := ["slices.overlaps[hourglass/wire.landing]"], unfollowed := true, recurses := true, apart := false }
def WireStepsSaid : Prop := wireStepsRow.holds Try.pinned (OpenSpec.ofChange wireStepsSpec)

/-- ITS FALSE NEIGHBOUR: 'it returns false'. Refute it at one input. -/
def wireStepsWrong : ChangeSpec := { name := "wireSteps", fn := fun _ => fun
  | [d1, d2] => { results := [.lit (.bool false)], args := [d1, d2] }
  | _ => none }
def WireStepsWrongFalsely : Prop := wireStepsRow.holds Try.pinned (OpenSpec.ofChange wireStepsWrong)

/-- 'hourglasslaw28.WireDoes': WHATEVER THE INPUT: true; the input reads as it did. -/
def wireDoesSpec : ChangeSpec := { name := "wireDoes", fn := fun _ => fun
  | [d] => { results := [.lit (.bool true)], args := [d] }
  | _ => none }
def wireDoesRow : OpenClaim := { program := "ytfojhmobnedekaa", sum := "cdb444b82288197fa02d3bf37b91c517a91062d91daa7a11736b3a9b272b362a", func := "hourglass/hourglasslaw28.WireDoes", spec := "wireDoes", inPlace := ["slices.overlaps[hourglass/wire.landing]"], unfollowed := true, recurses := true, apart := false }
def WireDoesSaid : Prop := wireDoesRow.holds Try.pinned (OpenSpec.ofChange wireDoesSpec)

/-- ITS FALSE NEIGHBOUR: 'it returns false'. Refute it at one input. -/
def wireDoesWrong : ChangeSpec := { name := "wireDoes", fn := fun _ => fun
  | [d] => { results := [.lit (.bool false)], args := [d] }
  | _ => none }
def WireDoesWrongFalsely : Prop := wireDoesRow.holds Try.pinned (OpenSpec.ofChange wireDoesWrong)

/-- 'hourglasslaw28.WireSmall': WHATEVER THE INPUT: true; the input reads as it did. -/
def wireSmallSpec : ChangeSpec := { name := "wireSmall", fn := fun _ => fun
  | [] => { results := [.lit (.bool true)], args := [] }
  | _ => none }
def wireSmallRow : OpenClaim := { program := "ytfojhmobnedekaa", sum := "cdb444b82288197fa02d3bf37b91c517a91062d91daa7a11736b3a9b272b362a", func := "hourglass/hourglasslaw28.WireSmall", spec := "wireSmall", inPlace := ["slices.overlaps[hourglass/wire.landing]"], unfollowed := true, recurses := true, apart := false }
def WireSmallSaid : Prop := wireSmallRow.holds Try.pinned (OpenSpec.ofChange wireSmallSpec)

/-- ITS FALSE NEIGHBOUR: 'it returns false'. Refute it at one input. -/
def wireSmallWrong : ChangeSpec := { name := "wireSmall", fn := fun _ => fun
  | [] => { results := [.lit (.bool false)], args := [] }
  | _ => none }
def WireSmallWrongFalsely : Prop := wireSmallRow.holds Try.pinned (OpenSpec.ofChange wireSmallWrong)

/-- 'hourglasslaw19.PastOrder': WHATEVER THE INPUT: true; the input reads as it did. -/
def pastOrderSpec : ChangeSpec := { name := "pastOrder", fn := fun _ => fun
  | [d1, d2, d3] => { results := [.lit (.bool true)], args := [d1, d2, d3] }
  | _ => none }
def pastOrderRow : OpenClaim := { program := "ytfojhmobnedekaa", sum := "cdb444b82288197fa02d3bf37b91c517a91062d91daa7a11736b3a9b272b362a", func := "hourglass/hourglasslaw19.PastOrder", spec := "pastOrder", unfollowed := true, recurses := true, apart := false }
def PastOrderSaid : Prop := pastOrderRow.holds Try.pinned (OpenSpec.ofChange pastOrderSpec)

/-- ITS FALSE NEIGHBOUR: 'it returns false'. Refute it at one input. -/
def pastOrderWrong : ChangeSpec := { name := "pastOrder", fn := fun _ => fun
  | [d1, d2, d3] => { results := [.lit (.bool false)], args := [d1, d2, d3] }
  | _ => none }
def PastOrderWrongFalsely : Prop := pastOrderRow.holds Try.pinned (OpenSpec.ofChange pastOrderWrong)

/-- 'hourglasslaw19.PastBars': WHATEVER THE INPUT: true; the input reads as it did. -/
def pastBarsSpec : ChangeSpec := { name := "pastBars", fn := fun _ => fun
  | [d1, d2] => { results := [.lit (.bool true)], args := [d1, d2] }
  | _ => none }
def pastBarsRow : OpenClaim := { program := "ytfojhmobnedekaa", sum := "cdb444b82288197fa02d3bf37b91c517a91062d91daa7a11736b3a9b272b362a", func := "hourglass/hourglasslaw19.PastBars", spec := "pastBars", unfollowed := true, recurses := true, apart := false }
def PastBarsSaid : Prop := pastBarsRow.holds Try.pinned (OpenSpec.ofChange pastBarsSpec)

/-- ITS FALSE NEIGHBOUR: 'it returns false'. Refute it at one input. -/
def pastBarsWrong : ChangeSpec := { name := "pastBars", fn := fun _ => fun
  | [d1, d2] => { results := [.lit (.bool false)], args := [d1, d2] }
  | _ => none }
def PastBarsWrongFalsely : Prop := pastBarsRow.holds Try.pinned (OpenSpec.ofChange pastBarsWrong)

/- THE SECOND FORM. 'bulk': how many values and letters a reading holds, each counted each time it is reached (what is shared counts as often as it is met; a slice's spare places count too). A statement '..UptoSaid' is the law's where the arguments, and the package variables that the reading takes, are together of bulk at most 1048576: NARROWER than '..Said'. Prove '..Said' where nothing that the law and all that it calls make is longer than what came in: it says more and counts as full. Else prove '..UptoSaid'. A law counts once. -/
mutual
def uptoBulk {H : Type} : DataW H → Nat
  | .lit (.string bytes) => bytes.length + 1
  | .lit _ => 1
  | .nil => 1
  | .ptr d => uptoBulk d + 1
  | .slice elems spare => uptoBulkAll elems + uptoBulkAll spare + 1
  | .agg parts => uptoBulkAll parts + 1
  | .iface _ d => uptoBulk d + 1
  | .map entries => uptoBulkEntries entries + 1
  | .held _ => 1
def uptoBulkAll {H : Type} : List (DataW H) → Nat
  | [] => 0
  | d :: r => uptoBulk d + uptoBulkAll r
def uptoBulkEntries {H : Type} : List (Lit × DataW H) → Nat
  | [] => 0
  | x :: r => uptoBulkEntry x + uptoBulkEntries r
def uptoBulkEntry {H : Type} : Lit × DataW H → Nat
  | (.string bytes, d) => bytes.length + uptoBulk d + 1
  | (_, d) => uptoBulk d + 1
 end
def uptoSmall : (H : Type) → List (DataW H) → Bool := fun _ ds => decide (uptoBulkAll ds ≤ 1048576)
def OpenSpec.upto (s : _root_.Go.ChangeSpec) : _root_.Go.OpenSpec := { _root_.Go.OpenSpec.ofChange s with cond := some uptoSmall }

/-- 'hourglasslaw27.FateLands', WHERE WHAT IT READS IS OF BULK AT MOST 1048576: true; the input reads as it did. -/
def fateLandsUptoRow : OpenClaim := { program := "ytfojhmobnedekaa", sum := "cdb444b82288197fa02d3bf37b91c517a91062d91daa7a11736b3a9b272b362a", func := "hourglass/hourglasslaw27.FateLands", spec := "fateLands", unfollowed := true, recurses := true, apart := false, narrowed := true }
def FateLandsUptoSaid : Prop := fateLandsUptoRow.holds Try.pinned (OpenSpec.upto fateLandsSpec)

/-- 'hourglasslaw27.FateKeeps', WHERE WHAT IT READS IS OF BULK AT MOST 1048576: true; the input reads as it did. -/
def fateKeepsUptoRow : OpenClaim := { program := "ytfojhmobnedekaa", sum := "cdb444b82288197fa02d3bf37b91c517a91062d91daa7a11736b3a9b272b362a", func := "hourglass/hourglasslaw27.FateKeeps", spec := "fateKeeps", unfollowed := true, recurses := true, apart := false, narrowed := true }
def FateKeepsUptoSaid : Prop := fateKeepsUptoRow.holds Try.pinned (OpenSpec.upto fateKeepsSpec)

/-- 'hourglasslaw27.FateTurns', WHERE WHAT IT READS IS OF BULK AT MOST 1048576: true; the input reads as it did. -/
def fateTurnsUptoRow : OpenClaim := { program := "ytfojhmobnedekaa", sum := "cdb444b82288197fa02d3bf37b91c517a91062d91daa7a11736b3a9b272b362a", func := "hourglass/hourglasslaw27.FateTurns", spec := "fateTurns", unfollowed := true, recurses := true, apart := false, narrowed := true }
def FateTurnsUptoSaid : Prop := fateTurnsUptoRow.holds Try.pinned (OpenSpec.upto fateTurnsSpec)

/-- 'hourglasslaw27.FateTells', WHERE WHAT IT READS IS OF BULK AT MOST 1048576: true; the input reads as it did. -/
def fateTellsUptoRow : OpenClaim := { program := "ytfojhmobnedekaa", sum := "cdb444b82288197fa02d3bf37b91c517a91062d91daa7a11736b3a9b272b362a", func := "hourglass/hourglasslaw27.FateTells", spec := "fateTells", unfollowed := true, recurses := true, apart := false, narrowed := true }
def FateTellsUptoSaid : Prop := fateTellsUptoRow.holds Try.pinned (OpenSpec.upto fateTellsSpec)

/-- 'hourglasslaw27.FateSmall', WHERE WHAT IT READS IS OF BULK AT MOST 1048576: true; the input reads as it did. -/
def fateSmallUptoRow : OpenClaim := { program := "ytfojhmobnedekaa", sum := "cdb444b82288197fa02d3bf37b91c517a91062d91daa7a11736b3a9b272b362a", func := "hourglass/hourglasslaw27.FateSmall", spec := "fateSmall", unfollowed := true, recurses := true, apart := false, narrowed := true }
def FateSmallUptoSaid : Prop := fateSmallUptoRow.holds Try.pinned (OpenSpec.upto fateSmallSpec)

/-- 'hourglasslaw28.WireOnce', WHERE WHAT IT READS IS OF BULK AT MOST 1048576: true; the input reads as it did. -/
def wireOnceUptoRow : OpenClaim := { program := "ytfojhmobnedekaa", sum := "cdb444b82288197fa02d3bf37b91c517a91062d91daa7a11736b3a9b272b362a", func := "hourglass/hourglasslaw28.WireOnce", spec := "wireOnce", inPlace := ["slices.overlaps[hourglass/wire.landing]"], unfollowed := true, recurses := true, apart := false, narrowed := true }
def WireOnceUptoSaid : Prop := wireOnceUptoRow.holds Try.pinned (OpenSpec.upto wireOnceSpec)

/-- 'hourglasslaw28.WireSteps', WHERE WHAT IT READS IS OF BULK AT MOST 1048576: true; the input reads as it did. -/
def wireStepsUptoRow : OpenClaim := { program := "ytfojhmobnedekaa", sum := "cdb444b82288197fa02d3bf37b91c517a91062d91daa7a11736b3a9b272b362a", func := "hourglass/hourglasslaw28.WireSteps", spec := "wireSteps", inPlace := ["slices.overlaps[hourglass/wire.landing]"], unfollowed := true, recurses := true, apart := false, narrowed := true }
def WireStepsUptoSaid : Prop := wireStepsUptoRow.holds Try.pinned (OpenSpec.upto wireStepsSpec)

/-- 'hourglasslaw28.WireDoes', WHERE WHAT IT READS IS OF BULK AT MOST 1048576: true; the input reads as it did. -/
def wireDoesUptoRow : OpenClaim := { program := "ytfojhmobnedekaa", sum := "cdb444b82288197fa02d3bf37b91c517a91062d91daa7a11736b3a9b272b362a", func := "hourglass/hourglasslaw28.WireDoes", spec := "wireDoes", inPlace := ["slices.overlaps[hourglass/wire.landing]"], unfollowed := true, recurses := true, apart := false, narrowed := true }
def WireDoesUptoSaid : Prop := wireDoesUptoRow.holds Try.pinned (OpenSpec.upto wireDoesSpec)

/-- 'hourglasslaw28.WireSmall', WHERE WHAT IT READS IS OF BULK AT MOST 1048576: true; the input reads as it did. -/
def wireSmallUptoRow : OpenClaim := { program := "ytfojhmobnedekaa", sum := "cdb444b82288197fa02d3bf37b91c517a91062d91daa7a11736b3a9b272b362a", func := "hourglass/hourglasslaw28.WireSmall", spec := "wireSmall", inPlace := ["slices.overlaps[hourglass/wire.landing]"], unfollowed := true, recurses := true, apart := false, narrowed := true }
def WireSmallUptoSaid : Prop := wireSmallUptoRow.holds Try.pinned (OpenSpec.upto wireSmallSpec)

/-- 'hourglasslaw19.PastOrder', WHERE WHAT IT READS IS OF BULK AT MOST 1048576: true; the input reads as it did. -/
def pastOrderUptoRow : OpenClaim := { program := "ytfojhmobnedekaa", sum := "cdb444b82288197fa02d3bf37b91c517a91062d91daa7a11736b3a9b272b362a", func := "hourglass/hourglasslaw19.PastOrder", spec := "pastOrder", unfollowed := true, recurses := true, apart := false, narrowed := true }
def PastOrderUptoSaid : Prop := pastOrderUptoRow.holds Try.pinned (OpenSpec.upto pastOrderSpec)

/-- 'hourglasslaw19.PastBars', WHERE WHAT IT READS IS OF BULK AT MOST 1048576: true; the input reads as it did. -/
def pastBarsUptoRow : OpenClaim := { program := "ytfojhmobnedekaa", sum := "cdb444b82288197fa02d3bf37b91c517a91062d91daa7a11736b3a9b272b362a", func := "hourglass/hourglasslaw19.PastBars", spec := "pastBars", unfollowed := true, recurses := true, apart := false, narrowed := true }
def PastBarsUptoSaid : Prop := pastBarsUptoRow.holds Try.pinned (OpenSpec.upto pastBarsSpec)

end Rows
end Go.Proofs.Ytfojhmobnedekaa
