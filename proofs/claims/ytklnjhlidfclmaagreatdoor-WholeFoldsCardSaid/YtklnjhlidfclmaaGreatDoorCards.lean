/-
  DERIVED. GIVEN WITH THE SEED: THE CARDS: each row of YtklnjhlidfclmaaGreatDoorRows.lean that lists a variable, with what it lists TIED to the program's text (the seventh form; the later family's looks); each row that meets fmt, with fmt's text TOLD by the authors' own Lean function (tested against real Go, not proved from fmt's source: count such statements apart). THE CARD IS WHAT COUNTS. Prove the row's statement (the work); the ties are given (YtklnjhlidfclmaaGreatDoorTie.lean); close each card by the builder's one call (the guide's Derived/Test/ToyasCard.lean, 'card_holds'). Laid BY PROGRAM, IN A SANDBOX (cutbox-door.mjs). By AI agents, Wed Nov 11 2026. No macro, syntax, notation, axiom, sorry.
-/
import Derived.Test.YtklnjhlidfclmaaGreatDoorRows
import GoSem.ClaimSeven
namespace Go.Proofs.YtklnjhlidfclmaaGreatDoor
namespace Rows

/-- THE TIED CARD OF 'copestonelaw01.WholeQuotients'. -/
def wholeQuotientsCard : Claim7 := { stood := { row := wholeQuotientsRow, standIns := [], harness := (true, "3863f6ea86578db4fa36359ee730971cae68c569cb569843fc704e6741cd1471"), looks := false }, kinds := [], alts := [], laidByText := true, laidKinds := [.data, .pinned], laidTests := true, laidLooks := .later }
def WholeQuotientsCardSaid : Prop := Claim7.holds Tryz.pinned (.plain (OpenSpec.ofChange wholeQuotientsSpec)) wholeQuotientsCard

/-- THE TIED CARD OF 'copestonelaw01.WholeReads'. -/
def wholeReadsCard : Claim7 := { stood := { row := wholeReadsRow, standIns := [], harness := (true, "3863f6ea86578db4fa36359ee730971cae68c569cb569843fc704e6741cd1471"), looks := false }, kinds := [], alts := [], laidByText := true, laidKinds := [.data, .pinned], laidTests := true, laidLooks := .later }
def WholeReadsCardSaid : Prop := Claim7.holds Tryz.pinned (.plain (OpenSpec.ofChange wholeReadsSpec)) wholeReadsCard

/-- THE TIED CARD OF 'copestonelaw01.WholeTexts'. -/
def wholeTextsCard : Claim7 := { stood := { row := wholeTextsRow, standIns := [], harness := (true, "3863f6ea86578db4fa36359ee730971cae68c569cb569843fc704e6741cd1471"), looks := false }, kinds := [], alts := [], laidByText := true, laidKinds := [.data, .pinned], laidTests := true, laidLooks := .later }
def WholeTextsCardSaid : Prop := Claim7.holds Tryz.pinned (.plain (OpenSpec.ofChange wholeTextsSpec)) wholeTextsCard

/-- THE TIED CARD OF 'copestonelaw01.WholeOps'. -/
def wholeOpsCard : Claim7 := { stood := { row := wholeOpsRow, standIns := [], harness := (true, "3863f6ea86578db4fa36359ee730971cae68c569cb569843fc704e6741cd1471"), looks := false }, kinds := [], alts := [], laidByText := true, laidKinds := [.data, .pinned], laidTests := true, laidLooks := .later }
def WholeOpsCardSaid : Prop := Claim7.holds Tryz.pinned (.plain (OpenSpec.ofChange wholeOpsSpec)) wholeOpsCard

/-- THE TIED CARD OF 'copestonelaw01.WholeRatios'. -/
def wholeRatiosCard : Claim7 := { stood := { row := wholeRatiosRow, standIns := [], harness := (true, "3863f6ea86578db4fa36359ee730971cae68c569cb569843fc704e6741cd1471"), looks := false }, kinds := [], alts := [], laidByText := true, laidKinds := [.data, .pinned], laidTests := true, laidLooks := .later }
def WholeRatiosCardSaid : Prop := Claim7.holds Tryz.pinned (.plain (OpenSpec.ofChange wholeRatiosSpec)) wholeRatiosCard

/-- THE TIED CARD OF 'copestonelaw01.WholeSums'. -/
def wholeSumsCard : Claim7 := { stood := { row := wholeSumsRow, standIns := [], harness := (true, "3863f6ea86578db4fa36359ee730971cae68c569cb569843fc704e6741cd1471"), looks := false }, kinds := [], alts := [], laidByText := true, laidKinds := [.data, .pinned], laidTests := true, laidLooks := .later }
def WholeSumsCardSaid : Prop := Claim7.holds Tryz.pinned (.plain (OpenSpec.ofChange wholeSumsSpec)) wholeSumsCard

/-- THE TIED CARD OF 'copestonelaw01.WholeField'. -/
def wholeFieldCard : Claim7 := { stood := { row := wholeFieldRow, standIns := [], harness := (true, "3863f6ea86578db4fa36359ee730971cae68c569cb569843fc704e6741cd1471"), looks := false }, kinds := [], alts := [], laidByText := true, laidKinds := [.data, .pinned], laidTests := true, laidLooks := .later }
def WholeFieldCardSaid : Prop := Claim7.holds Tryz.pinned (.plain (OpenSpec.ofChange wholeFieldSpec)) wholeFieldCard

/-- THE TIED CARD OF 'copestonelaw01.WholeFolds'. -/
def wholeFoldsCard : Claim7 := { stood := { row := wholeFoldsRow, standIns := [], harness := (true, "3863f6ea86578db4fa36359ee730971cae68c569cb569843fc704e6741cd1471"), looks := false }, kinds := [], alts := [], laidByText := true, laidKinds := [.data, .pinned], laidTests := true, laidLooks := .later }
def WholeFoldsCardSaid : Prop := Claim7.holds Tryz.pinned (.plain (OpenSpec.ofChange wholeFoldsSpec)) wholeFoldsCard

/-- THE TIED CARD OF 'copestonelaw01.WholePairs'. -/
def wholePairsCard : Claim7 := { stood := { row := wholePairsRow, standIns := [], harness := (true, "3863f6ea86578db4fa36359ee730971cae68c569cb569843fc704e6741cd1471"), looks := false }, kinds := [], alts := [], laidByText := true, laidKinds := [.data, .pinned], laidTests := true, laidLooks := .later }
def WholePairsCardSaid : Prop := Claim7.holds Tryz.pinned (.plain (OpenSpec.ofChange wholePairsSpec)) wholePairsCard

/-- THE TIED CARD OF 'copestonelaw01.WholeTurns'. -/
def wholeTurnsCard : Claim7 := { stood := { row := wholeTurnsRow, standIns := [], harness := (true, "3863f6ea86578db4fa36359ee730971cae68c569cb569843fc704e6741cd1471"), looks := false }, kinds := [], alts := [], laidByText := true, laidKinds := [.data, .pinned], laidTests := true, laidLooks := .later }
def WholeTurnsCardSaid : Prop := Claim7.holds Tryz.pinned (.plain (OpenSpec.ofChange wholeTurnsSpec)) wholeTurnsCard

/-- THE SECOND FORM's CARD OF 'copestonelaw01.WholeQuotients'. -/
def wholeQuotientsUptoCard : Claim7 := { stood := { row := wholeQuotientsUptoRow, standIns := [], harness := (true, "3863f6ea86578db4fa36359ee730971cae68c569cb569843fc704e6741cd1471"), looks := false }, kinds := [], alts := [], laidByText := true, laidKinds := [.data, .pinned], laidTests := true, laidLooks := .later }
def WholeQuotientsUptoCardSaid : Prop := Claim7.holds Tryz.pinned (.plain (OpenSpec.upto wholeQuotientsSpec)) wholeQuotientsUptoCard

/-- THE SECOND FORM's CARD OF 'copestonelaw01.WholeReads'. -/
def wholeReadsUptoCard : Claim7 := { stood := { row := wholeReadsUptoRow, standIns := [], harness := (true, "3863f6ea86578db4fa36359ee730971cae68c569cb569843fc704e6741cd1471"), looks := false }, kinds := [], alts := [], laidByText := true, laidKinds := [.data, .pinned], laidTests := true, laidLooks := .later }
def WholeReadsUptoCardSaid : Prop := Claim7.holds Tryz.pinned (.plain (OpenSpec.upto wholeReadsSpec)) wholeReadsUptoCard

/-- THE SECOND FORM's CARD OF 'copestonelaw01.WholeTexts'. -/
def wholeTextsUptoCard : Claim7 := { stood := { row := wholeTextsUptoRow, standIns := [], harness := (true, "3863f6ea86578db4fa36359ee730971cae68c569cb569843fc704e6741cd1471"), looks := false }, kinds := [], alts := [], laidByText := true, laidKinds := [.data, .pinned], laidTests := true, laidLooks := .later }
def WholeTextsUptoCardSaid : Prop := Claim7.holds Tryz.pinned (.plain (OpenSpec.upto wholeTextsSpec)) wholeTextsUptoCard

/-- THE SECOND FORM's CARD OF 'copestonelaw01.WholeOps'. -/
def wholeOpsUptoCard : Claim7 := { stood := { row := wholeOpsUptoRow, standIns := [], harness := (true, "3863f6ea86578db4fa36359ee730971cae68c569cb569843fc704e6741cd1471"), looks := false }, kinds := [], alts := [], laidByText := true, laidKinds := [.data, .pinned], laidTests := true, laidLooks := .later }
def WholeOpsUptoCardSaid : Prop := Claim7.holds Tryz.pinned (.plain (OpenSpec.upto wholeOpsSpec)) wholeOpsUptoCard

/-- THE SECOND FORM's CARD OF 'copestonelaw01.WholeRatios'. -/
def wholeRatiosUptoCard : Claim7 := { stood := { row := wholeRatiosUptoRow, standIns := [], harness := (true, "3863f6ea86578db4fa36359ee730971cae68c569cb569843fc704e6741cd1471"), looks := false }, kinds := [], alts := [], laidByText := true, laidKinds := [.data, .pinned], laidTests := true, laidLooks := .later }
def WholeRatiosUptoCardSaid : Prop := Claim7.holds Tryz.pinned (.plain (OpenSpec.upto wholeRatiosSpec)) wholeRatiosUptoCard

/-- THE SECOND FORM's CARD OF 'copestonelaw01.WholeSums'. -/
def wholeSumsUptoCard : Claim7 := { stood := { row := wholeSumsUptoRow, standIns := [], harness := (true, "3863f6ea86578db4fa36359ee730971cae68c569cb569843fc704e6741cd1471"), looks := false }, kinds := [], alts := [], laidByText := true, laidKinds := [.data, .pinned], laidTests := true, laidLooks := .later }
def WholeSumsUptoCardSaid : Prop := Claim7.holds Tryz.pinned (.plain (OpenSpec.upto wholeSumsSpec)) wholeSumsUptoCard

/-- THE SECOND FORM's CARD OF 'copestonelaw01.WholeField'. -/
def wholeFieldUptoCard : Claim7 := { stood := { row := wholeFieldUptoRow, standIns := [], harness := (true, "3863f6ea86578db4fa36359ee730971cae68c569cb569843fc704e6741cd1471"), looks := false }, kinds := [], alts := [], laidByText := true, laidKinds := [.data, .pinned], laidTests := true, laidLooks := .later }
def WholeFieldUptoCardSaid : Prop := Claim7.holds Tryz.pinned (.plain (OpenSpec.upto wholeFieldSpec)) wholeFieldUptoCard

/-- THE SECOND FORM's CARD OF 'copestonelaw01.WholeFolds'. -/
def wholeFoldsUptoCard : Claim7 := { stood := { row := wholeFoldsUptoRow, standIns := [], harness := (true, "3863f6ea86578db4fa36359ee730971cae68c569cb569843fc704e6741cd1471"), looks := false }, kinds := [], alts := [], laidByText := true, laidKinds := [.data, .pinned], laidTests := true, laidLooks := .later }
def WholeFoldsUptoCardSaid : Prop := Claim7.holds Tryz.pinned (.plain (OpenSpec.upto wholeFoldsSpec)) wholeFoldsUptoCard

/-- THE SECOND FORM's CARD OF 'copestonelaw01.WholePairs'. -/
def wholePairsUptoCard : Claim7 := { stood := { row := wholePairsUptoRow, standIns := [], harness := (true, "3863f6ea86578db4fa36359ee730971cae68c569cb569843fc704e6741cd1471"), looks := false }, kinds := [], alts := [], laidByText := true, laidKinds := [.data, .pinned], laidTests := true, laidLooks := .later }
def WholePairsUptoCardSaid : Prop := Claim7.holds Tryz.pinned (.plain (OpenSpec.upto wholePairsSpec)) wholePairsUptoCard

/-- THE SECOND FORM's CARD OF 'copestonelaw01.WholeTurns'. -/
def wholeTurnsUptoCard : Claim7 := { stood := { row := wholeTurnsUptoRow, standIns := [], harness := (true, "3863f6ea86578db4fa36359ee730971cae68c569cb569843fc704e6741cd1471"), looks := false }, kinds := [], alts := [], laidByText := true, laidKinds := [.data, .pinned], laidTests := true, laidLooks := .later }
def WholeTurnsUptoCardSaid : Prop := Claim7.holds Tryz.pinned (.plain (OpenSpec.upto wholeTurnsSpec)) wholeTurnsUptoCard
end Rows
end Go.Proofs.YtklnjhlidfclmaaGreatDoor
