/-
  DERIVED. GIVEN WITH THE SEED: THE CARDS: each row of YtpjcebajkfeacaaGreatDoorRows.lean that lists a variable, with what it lists TIED to the program's text (the seventh form; the later family's looks); each row that meets fmt, with fmt's text TOLD by the authors' own Lean function (tested against real Go, not proved from fmt's source: count such statements apart). THE CARD IS WHAT COUNTS. Prove the row's statement (the work); the ties are given (YtpjcebajkfeacaaGreatDoorTie.lean); close each card by the builder's one call (the guide's Derived/Test/ToyasCard.lean, 'card_holds'). Laid BY PROGRAM, IN A SANDBOX (cutbox-door.mjs). By AI agents, Wed Nov 11 2026. No macro, syntax, notation, axiom, sorry.
-/
import Derived.Test.YtpjcebajkfeacaaGreatDoorRows
import GoSem.ClaimSeven
namespace Go.Proofs.YtpjcebajkfeacaaGreatDoor
namespace Rows

/-- THE TIED CARD OF 'tranchelaw09.RequestNames'. -/
def requestNamesCard : Claim7 := { stood := { row := requestNamesRow, standIns := [], harness := (true, "d27c2d62486008f393ffd5b16b652d20c7d410936fffa07243c5afef0653a32e"), looks := true }, kinds := [], alts := [], laidByText := true, laidKinds := [.data, .data, .data], laidTests := true, laidLooks := .later }
def RequestNamesCardSaid : Prop := Claim7.holds Tryz.pinned (.plain (OpenSpec.ofChange requestNamesSpec)) requestNamesCard

/-- THE TIED CARD OF 'tranchelaw09.RequestBytes'. -/
def requestBytesCard : Claim7 := { stood := { row := requestBytesRow, standIns := [], harness := (true, "d27c2d62486008f393ffd5b16b652d20c7d410936fffa07243c5afef0653a32e"), looks := true }, kinds := [], alts := [], laidByText := true, laidKinds := [.data, .data, .data], laidTests := true, laidLooks := .later }
def RequestBytesCardSaid : Prop := Claim7.holds Tryz.pinned (.plain (OpenSpec.ofChange requestBytesSpec)) requestBytesCard

/-- THE TIED CARD OF 'tranchelaw09.RequestJudges'. -/
def requestJudgesCard : Claim7 := { stood := { row := requestJudgesRow, standIns := [], harness := (true, "d27c2d62486008f393ffd5b16b652d20c7d410936fffa07243c5afef0653a32e"), looks := true }, kinds := [], alts := [], laidByText := true, laidKinds := [.data, .data, .data], laidTests := true, laidLooks := .later }
def RequestJudgesCardSaid : Prop := Claim7.holds Tryz.pinned (.plain (OpenSpec.ofChange requestJudgesSpec)) requestJudgesCard

/-- THE TIED CARD OF 'tranchelaw09.RequestDeclared'. -/
def requestDeclaredCard : Claim7 := { stood := { row := requestDeclaredRow, standIns := [], harness := (true, "d27c2d62486008f393ffd5b16b652d20c7d410936fffa07243c5afef0653a32e"), looks := true }, kinds := [], alts := [], laidByText := true, laidKinds := [.data, .data, .data], laidTests := true, laidLooks := .later }
def RequestDeclaredCardSaid : Prop := Claim7.holds Tryz.pinned (.plain (OpenSpec.ofChange requestDeclaredSpec)) requestDeclaredCard

/-- THE TIED CARD OF 'tranchelaw09.RequestPieces'. -/
def requestPiecesCard : Claim7 := { stood := { row := requestPiecesRow, standIns := [], harness := (true, "d27c2d62486008f393ffd5b16b652d20c7d410936fffa07243c5afef0653a32e"), looks := true }, kinds := [], alts := [], laidByText := true, laidKinds := [.data, .data, .data], laidTests := true, laidLooks := .later }
def RequestPiecesCardSaid : Prop := Claim7.holds Tryz.pinned (.plain (OpenSpec.ofChange requestPiecesSpec)) requestPiecesCard

/-- THE TIED CARD OF 'tranchelaw09.RequestStreams'. -/
def requestStreamsCard : Claim7 := { stood := { row := requestStreamsRow, standIns := [], harness := (true, "d27c2d62486008f393ffd5b16b652d20c7d410936fffa07243c5afef0653a32e"), looks := true }, kinds := [], alts := [], laidByText := true, laidKinds := [.data, .data, .data], laidTests := true, laidLooks := .later }
def RequestStreamsCardSaid : Prop := Claim7.holds Tryz.pinned (.plain (OpenSpec.ofChange requestStreamsSpec)) requestStreamsCard

/-- THE TIED CARD OF 'tranchelaw09.RequestWhole'. -/
def requestWholeCard : Claim7 := { stood := { row := requestWholeRow, standIns := [], harness := (true, "d27c2d62486008f393ffd5b16b652d20c7d410936fffa07243c5afef0653a32e"), looks := true }, kinds := [], alts := [], laidByText := true, laidKinds := [.data, .data, .data], laidTests := true, laidLooks := .later }
def RequestWholeCardSaid : Prop := Claim7.holds Tryz.pinned (.plain (OpenSpec.ofChange requestWholeSpec)) requestWholeCard

/-- THE TIED CARD OF 'tranchelaw09.RequestTexts'. -/
def requestTextsCard : Claim7 := { stood := { row := requestTextsRow, standIns := [], harness := (true, "d27c2d62486008f393ffd5b16b652d20c7d410936fffa07243c5afef0653a32e"), looks := true }, kinds := [], alts := [], laidByText := true, laidKinds := [.data, .data, .data, .sentinel, .sentinel], laidTests := true, laidLooks := .later }
def RequestTextsCardSaid : Prop := Claim7.holds Tryz.pinned (.plain (OpenSpec.ofChange requestTextsSpec)) requestTextsCard

/-- THE TIED CARD OF 'tranchelaw09.RequestBack'. -/
def requestBackCard : Claim7 := { stood := { row := requestBackRow, standIns := [], harness := (true, "d27c2d62486008f393ffd5b16b652d20c7d410936fffa07243c5afef0653a32e"), looks := true }, kinds := [], alts := [], laidByText := true, laidKinds := [.data, .data, .data, .sentinel, .sentinel], laidTests := true, laidLooks := .later }
def RequestBackCardSaid : Prop := Claim7.holds Tryz.pinned (.plain (OpenSpec.ofChange requestBackSpec)) requestBackCard

/-- THE SECOND FORM's CARD OF 'tranchelaw09.RequestNames'. -/
def requestNamesUptoCard : Claim7 := { stood := { row := requestNamesUptoRow, standIns := [], harness := (true, "d27c2d62486008f393ffd5b16b652d20c7d410936fffa07243c5afef0653a32e"), looks := true }, kinds := [], alts := [], laidByText := true, laidKinds := [.data, .data, .data], laidTests := true, laidLooks := .later }
def RequestNamesUptoCardSaid : Prop := Claim7.holds Tryz.pinned (.plain (OpenSpec.upto requestNamesSpec)) requestNamesUptoCard

/-- THE SECOND FORM's CARD OF 'tranchelaw09.RequestBytes'. -/
def requestBytesUptoCard : Claim7 := { stood := { row := requestBytesUptoRow, standIns := [], harness := (true, "d27c2d62486008f393ffd5b16b652d20c7d410936fffa07243c5afef0653a32e"), looks := true }, kinds := [], alts := [], laidByText := true, laidKinds := [.data, .data, .data], laidTests := true, laidLooks := .later }
def RequestBytesUptoCardSaid : Prop := Claim7.holds Tryz.pinned (.plain (OpenSpec.upto requestBytesSpec)) requestBytesUptoCard

/-- THE SECOND FORM's CARD OF 'tranchelaw09.RequestJudges'. -/
def requestJudgesUptoCard : Claim7 := { stood := { row := requestJudgesUptoRow, standIns := [], harness := (true, "d27c2d62486008f393ffd5b16b652d20c7d410936fffa07243c5afef0653a32e"), looks := true }, kinds := [], alts := [], laidByText := true, laidKinds := [.data, .data, .data], laidTests := true, laidLooks := .later }
def RequestJudgesUptoCardSaid : Prop := Claim7.holds Tryz.pinned (.plain (OpenSpec.upto requestJudgesSpec)) requestJudgesUptoCard

/-- THE SECOND FORM's CARD OF 'tranchelaw09.RequestDeclared'. -/
def requestDeclaredUptoCard : Claim7 := { stood := { row := requestDeclaredUptoRow, standIns := [], harness := (true, "d27c2d62486008f393ffd5b16b652d20c7d410936fffa07243c5afef0653a32e"), looks := true }, kinds := [], alts := [], laidByText := true, laidKinds := [.data, .data, .data], laidTests := true, laidLooks := .later }
def RequestDeclaredUptoCardSaid : Prop := Claim7.holds Tryz.pinned (.plain (OpenSpec.upto requestDeclaredSpec)) requestDeclaredUptoCard

/-- THE SECOND FORM's CARD OF 'tranchelaw09.RequestPieces'. -/
def requestPiecesUptoCard : Claim7 := { stood := { row := requestPiecesUptoRow, standIns := [], harness := (true, "d27c2d62486008f393ffd5b16b652d20c7d410936fffa07243c5afef0653a32e"), looks := true }, kinds := [], alts := [], laidByText := true, laidKinds := [.data, .data, .data], laidTests := true, laidLooks := .later }
def RequestPiecesUptoCardSaid : Prop := Claim7.holds Tryz.pinned (.plain (OpenSpec.upto requestPiecesSpec)) requestPiecesUptoCard

/-- THE SECOND FORM's CARD OF 'tranchelaw09.RequestStreams'. -/
def requestStreamsUptoCard : Claim7 := { stood := { row := requestStreamsUptoRow, standIns := [], harness := (true, "d27c2d62486008f393ffd5b16b652d20c7d410936fffa07243c5afef0653a32e"), looks := true }, kinds := [], alts := [], laidByText := true, laidKinds := [.data, .data, .data], laidTests := true, laidLooks := .later }
def RequestStreamsUptoCardSaid : Prop := Claim7.holds Tryz.pinned (.plain (OpenSpec.upto requestStreamsSpec)) requestStreamsUptoCard

/-- THE SECOND FORM's CARD OF 'tranchelaw09.RequestWhole'. -/
def requestWholeUptoCard : Claim7 := { stood := { row := requestWholeUptoRow, standIns := [], harness := (true, "d27c2d62486008f393ffd5b16b652d20c7d410936fffa07243c5afef0653a32e"), looks := true }, kinds := [], alts := [], laidByText := true, laidKinds := [.data, .data, .data], laidTests := true, laidLooks := .later }
def RequestWholeUptoCardSaid : Prop := Claim7.holds Tryz.pinned (.plain (OpenSpec.upto requestWholeSpec)) requestWholeUptoCard

/-- THE SECOND FORM's CARD OF 'tranchelaw09.RequestTexts'. -/
def requestTextsUptoCard : Claim7 := { stood := { row := requestTextsUptoRow, standIns := [], harness := (true, "d27c2d62486008f393ffd5b16b652d20c7d410936fffa07243c5afef0653a32e"), looks := true }, kinds := [], alts := [], laidByText := true, laidKinds := [.data, .data, .data, .sentinel, .sentinel], laidTests := true, laidLooks := .later }
def RequestTextsUptoCardSaid : Prop := Claim7.holds Tryz.pinned (.plain (OpenSpec.upto requestTextsSpec)) requestTextsUptoCard

/-- THE SECOND FORM's CARD OF 'tranchelaw09.RequestBack'. -/
def requestBackUptoCard : Claim7 := { stood := { row := requestBackUptoRow, standIns := [], harness := (true, "d27c2d62486008f393ffd5b16b652d20c7d410936fffa07243c5afef0653a32e"), looks := true }, kinds := [], alts := [], laidByText := true, laidKinds := [.data, .data, .data, .sentinel, .sentinel], laidTests := true, laidLooks := .later }
def RequestBackUptoCardSaid : Prop := Claim7.holds Tryz.pinned (.plain (OpenSpec.upto requestBackSpec)) requestBackUptoCard
end Rows
end Go.Proofs.YtpjcebajkfeacaaGreatDoor
