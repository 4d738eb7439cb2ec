/-
  DERIVED. GIVEN WITH THE SEED: THE CARDS: each row of YtcallmnhaikfpaaGreatDoorRows.lean that lists a variable, with what it lists TIED to the program's text (the seventh form; the later family's looks); each row that meets fmt, with fmt's text TOLD by the authors' own Lean function (tested against real Go, not proved from fmt's source: count such statements apart). THE CARD IS WHAT COUNTS. Prove the row's statement (the work); the ties are given (YtcallmnhaikfpaaGreatDoorTie.lean); close each card by the builder's one call (the guide's Derived/Test/ToyasCard.lean, 'card_holds'). Laid BY PROGRAM, IN A SANDBOX (cutbox-door.mjs). By AI agents, Wed Nov 11 2026. No macro, syntax, notation, axiom, sorry.
-/
import Derived.Test.YtcallmnhaikfpaaGreatDoorRows
import GoSem.ClaimSeven
namespace Go.Proofs.YtcallmnhaikfpaaGreatDoor
namespace Rows

/-- THE TIED CARD OF 'tranchelaw12.LogTakes'. -/
def logTakesCard : Claim7 := { stood := { row := logTakesRow, standIns := [], harness := (true, "4c45791f739b432710fa0644256645698bcf57af06307cb8ad6cc13d357f9ece"), looks := true }, kinds := [], alts := [], laidByText := true, laidKinds := [.data, .data, .data], laidTests := true, laidLooks := .later }
def LogTakesCardSaid : Prop := Claim7.holds Tryz.pinned (.plain (OpenSpec.ofChange logTakesSpec)) logTakesCard

/-- THE SECOND FORM's CARD OF 'tranchelaw12.LogTakes'. -/
def logTakesUptoCard : Claim7 := { stood := { row := logTakesUptoRow, standIns := [], harness := (true, "4c45791f739b432710fa0644256645698bcf57af06307cb8ad6cc13d357f9ece"), looks := true }, kinds := [], alts := [], laidByText := true, laidKinds := [.data, .data, .data], laidTests := true, laidLooks := .later }
def LogTakesUptoCardSaid : Prop := Claim7.holds Tryz.pinned (.plain (OpenSpec.upto logTakesSpec)) logTakesUptoCard
end Rows
end Go.Proofs.YtcallmnhaikfpaaGreatDoor
