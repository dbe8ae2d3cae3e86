/-
  DERIVED. GIVEN WITH THE SEED: THE CARDS: each row of YtfojhmobnedekaaDoorRows.lean that lists a variable, with what it lists TIED to the program's text (the seventh form; the later family's looks); each row that meets fmt, with fmt's text TOLD by the authors' own Lean function (tested against real Go, not proved from fmt's source: count such statements apart). THE CARD IS WHAT COUNTS. Prove the row's statement (the work); the ties are given (YtfojhmobnedekaaDoorTie.lean); close each card by the builder's one call (the guide's Derived/Test/ToyasCard.lean, 'card_holds'). Laid BY PROGRAM, IN A SANDBOX (cutbox-door.mjs). By AI agents, Wed Nov 11 2026. No macro, syntax, notation, axiom, sorry.
-/
import Derived.Test.YtfojhmobnedekaaDoorRows
import GoSem.ClaimSeven
namespace Go.Proofs.YtfojhmobnedekaaDoor
namespace Rows

/-- THE TIED CARD OF 'hourglasslaw29.StatCounts'. -/
def statCountsCard : Claim7 := { stood := { row := statCountsRow, standIns := [], harness := (true, "5e38ed5fc8ed5c380b9761ae4f41ed922b82500c53267c5358b0f86efd3a8178"), looks := false }, kinds := [], alts := [], laidByText := true, laidKinds := [.data, .data, .data], laidTests := true, laidLooks := .later }
def StatCountsCardSaid : Prop := Claim7.holds Tryd.pinned (.plain (OpenSpec.ofChange statCountsSpec)) statCountsCard

/-- THE TIED CARD OF 'hourglasslaw29.StatSmall'. -/
def statSmallCard : Claim7 := { stood := { row := statSmallRow, standIns := [], harness := (true, "5e38ed5fc8ed5c380b9761ae4f41ed922b82500c53267c5358b0f86efd3a8178"), looks := false }, kinds := [], alts := [], laidByText := true, laidKinds := [.data, .data, .data], laidTests := true, laidLooks := .later }
def StatSmallCardSaid : Prop := Claim7.holds Tryd.pinned (.plain (OpenSpec.ofChange statSmallSpec)) statSmallCard

/-- THE TIED CARD OF 'hourglasslaw29.StatExact'. -/
def statExactCard : Claim7 := { stood := { row := statExactRow, standIns := [], harness := (true, "5e38ed5fc8ed5c380b9761ae4f41ed922b82500c53267c5358b0f86efd3a8178"), looks := false }, kinds := [], alts := [], laidByText := true, laidKinds := [.data, .data, .data], laidTests := true, laidLooks := .later }
def StatExactCardSaid : Prop := Claim7.holds Tryd.pinned (.plain (OpenSpec.ofChange statExactSpec)) statExactCard

/-- THE TIED CARD OF 'hourglasslaw29.StatTexts'. -/
def statTextsCard : Claim7 := { stood := { row := statTextsRow, standIns := [], harness := (true, "5e38ed5fc8ed5c380b9761ae4f41ed922b82500c53267c5358b0f86efd3a8178"), looks := false }, kinds := [], alts := [], laidByText := true, laidKinds := [.data, .data, .data], laidTests := true, laidLooks := .later }
def StatTextsCardSaid : Prop := Claim7.holds Tryd.pinned (.plain (OpenSpec.ofChange statTextsSpec)) statTextsCard

/-- THE SECOND FORM's CARD OF 'hourglasslaw29.StatCounts'. -/
def statCountsUptoCard : Claim7 := { stood := { row := statCountsUptoRow, standIns := [], harness := (true, "5e38ed5fc8ed5c380b9761ae4f41ed922b82500c53267c5358b0f86efd3a8178"), looks := false }, kinds := [], alts := [], laidByText := true, laidKinds := [.data, .data, .data], laidTests := true, laidLooks := .later }
def StatCountsUptoCardSaid : Prop := Claim7.holds Tryd.pinned (.plain (OpenSpec.upto statCountsSpec)) statCountsUptoCard

/-- THE SECOND FORM's CARD OF 'hourglasslaw29.StatSmall'. -/
def statSmallUptoCard : Claim7 := { stood := { row := statSmallUptoRow, standIns := [], harness := (true, "5e38ed5fc8ed5c380b9761ae4f41ed922b82500c53267c5358b0f86efd3a8178"), looks := false }, kinds := [], alts := [], laidByText := true, laidKinds := [.data, .data, .data], laidTests := true, laidLooks := .later }
def StatSmallUptoCardSaid : Prop := Claim7.holds Tryd.pinned (.plain (OpenSpec.upto statSmallSpec)) statSmallUptoCard

/-- THE SECOND FORM's CARD OF 'hourglasslaw29.StatExact'. -/
def statExactUptoCard : Claim7 := { stood := { row := statExactUptoRow, standIns := [], harness := (true, "5e38ed5fc8ed5c380b9761ae4f41ed922b82500c53267c5358b0f86efd3a8178"), looks := false }, kinds := [], alts := [], laidByText := true, laidKinds := [.data, .data, .data], laidTests := true, laidLooks := .later }
def StatExactUptoCardSaid : Prop := Claim7.holds Tryd.pinned (.plain (OpenSpec.upto statExactSpec)) statExactUptoCard

/-- THE SECOND FORM's CARD OF 'hourglasslaw29.StatTexts'. -/
def statTextsUptoCard : Claim7 := { stood := { row := statTextsUptoRow, standIns := [], harness := (true, "5e38ed5fc8ed5c380b9761ae4f41ed922b82500c53267c5358b0f86efd3a8178"), looks := false }, kinds := [], alts := [], laidByText := true, laidKinds := [.data, .data, .data], laidTests := true, laidLooks := .later }
def StatTextsUptoCardSaid : Prop := Claim7.holds Tryd.pinned (.plain (OpenSpec.upto statTextsSpec)) statTextsUptoCard
end Rows
end Go.Proofs.YtfojhmobnedekaaDoor
