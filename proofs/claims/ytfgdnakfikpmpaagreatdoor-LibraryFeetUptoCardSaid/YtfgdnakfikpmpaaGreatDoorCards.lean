/-
  DERIVED. GIVEN WITH THE SEED: THE CARDS: each row of YtfgdnakfikpmpaaGreatDoorRows.lean that lists a variable, with what it lists TIED to the program's text (the seventh form; the later family's looks); each row that meets fmt, with fmt's text TOLD by the authors' own Lean function (tested against real Go, not proved from fmt's source: count such statements apart). THE CARD IS WHAT COUNTS. Prove the row's statement (the work); the ties are given (YtfgdnakfikpmpaaGreatDoorTie.lean); close each card by the builder's one call (the guide's Derived/Test/ToyasCard.lean, 'card_holds'). Laid BY PROGRAM, IN A SANDBOX (cutbox-door.mjs). By AI agents, Wed Nov 11 2026. No macro, syntax, notation, axiom, sorry.
-/
import Derived.Test.YtfgdnakfikpmpaaGreatDoorRows
import GoSem.ClaimSeven
namespace Go.Proofs.YtfgdnakfikpmpaaGreatDoor
namespace Rows

/-- THE TIED CARD OF 'tranchelaw08.LibraryChecks'. -/
def libraryChecksCard : Claim7 := { stood := { row := libraryChecksRow, standIns := [], harness := (true, "df44f98cbda8c8deec93fbe1bda1fc7eb8d3fec5c92d704318f90b8eac454e1c"), looks := true }, kinds := [], alts := [], laidByText := true, laidKinds := [.data, .data, .data, .data, .sentinel, .sentinel, .widerDeep, .pinned], laidTests := true, laidLooks := .later }
def LibraryChecksCardSaid : Prop := Claim7.holds Tryz.pinned (.plain (OpenSpec.ofChange libraryChecksSpec)) libraryChecksCard

/-- THE TIED CARD OF 'tranchelaw08.LibraryReads'. -/
def libraryReadsCard : Claim7 := { stood := { row := libraryReadsRow, standIns := [], harness := (true, "df44f98cbda8c8deec93fbe1bda1fc7eb8d3fec5c92d704318f90b8eac454e1c"), looks := true }, kinds := [], alts := [], laidByText := true, laidKinds := [.data, .data, .data, .data, .sentinel, .sentinel, .widerDeep, .pinned], laidTests := true, laidLooks := .later }
def LibraryReadsCardSaid : Prop := Claim7.holds Tryz.pinned (.plain (OpenSpec.ofChange libraryReadsSpec)) libraryReadsCard

/-- THE TIED CARD OF 'tranchelaw08.LibraryFeet'. -/
def libraryFeetCard : Claim7 := { stood := { row := libraryFeetRow, standIns := [], harness := (true, "df44f98cbda8c8deec93fbe1bda1fc7eb8d3fec5c92d704318f90b8eac454e1c"), looks := true }, kinds := [], alts := [], laidByText := true, laidKinds := [.data, .data, .data, .data, .sentinel, .sentinel, .widerDeep, .pinned], laidTests := true, laidLooks := .later }
def LibraryFeetCardSaid : Prop := Claim7.holds Tryz.pinned (.plain (OpenSpec.ofChange libraryFeetSpec)) libraryFeetCard

/-- THE TIED CARD OF 'tranchelaw08.LibraryKeys'. -/
def libraryKeysCard : Claim7 := { stood := { row := libraryKeysRow, standIns := [], harness := (true, "df44f98cbda8c8deec93fbe1bda1fc7eb8d3fec5c92d704318f90b8eac454e1c"), looks := true }, kinds := [], alts := [], laidByText := true, laidKinds := [.data, .data, .data, .data, .sentinel, .sentinel, .widerDeep, .pinned], laidTests := true, laidLooks := .later }
def LibraryKeysCardSaid : Prop := Claim7.holds Tryz.pinned (.plain (OpenSpec.ofChange libraryKeysSpec)) libraryKeysCard

/-- THE TIED CARD OF 'tranchelaw08.LibraryNil'. -/
def libraryNilCard : Claim7 := { stood := { row := libraryNilRow, standIns := [], harness := (true, "df44f98cbda8c8deec93fbe1bda1fc7eb8d3fec5c92d704318f90b8eac454e1c"), looks := true }, kinds := [], alts := [], laidByText := true, laidKinds := [.data, .data, .data, .data, .sentinel, .sentinel, .widerDeep, .pinned], laidTests := true, laidLooks := .later }
def LibraryNilCardSaid : Prop := Claim7.holds Tryz.pinned (.plain (OpenSpec.ofChange libraryNilSpec)) libraryNilCard

/-- THE TIED CARD OF 'tranchelaw08.LibraryMakes'. -/
def libraryMakesCard : Claim7 := { stood := { row := libraryMakesRow, standIns := [], harness := (true, "df44f98cbda8c8deec93fbe1bda1fc7eb8d3fec5c92d704318f90b8eac454e1c"), looks := true }, kinds := [], alts := [], laidByText := true, laidKinds := [.data, .data, .data, .data, .sentinel, .sentinel, .widerDeep, .pinned], laidTests := true, laidLooks := .later }
def LibraryMakesCardSaid : Prop := Claim7.holds Tryz.pinned (.plain (OpenSpec.ofChange libraryMakesSpec)) libraryMakesCard

/-- THE TIED CARD OF 'tranchelaw08.LibraryBack'. -/
def libraryBackCard : Claim7 := { stood := { row := libraryBackRow, standIns := [], harness := (true, "df44f98cbda8c8deec93fbe1bda1fc7eb8d3fec5c92d704318f90b8eac454e1c"), looks := true }, kinds := [], alts := [], laidByText := true, laidKinds := [.data, .data, .data, .data, .sentinel, .sentinel, .widerDeep, .pinned], laidTests := true, laidLooks := .later }
def LibraryBackCardSaid : Prop := Claim7.holds Tryz.pinned (.plain (OpenSpec.ofChange libraryBackSpec)) libraryBackCard

/-- THE TIED CARD OF 'tranchelaw08.LibraryOrder'. -/
def libraryOrderCard : Claim7 := { stood := { row := libraryOrderRow, standIns := [], harness := (true, "df44f98cbda8c8deec93fbe1bda1fc7eb8d3fec5c92d704318f90b8eac454e1c"), looks := true }, kinds := [], alts := [], laidByText := true, laidKinds := [.data, .data, .data, .data, .sentinel, .sentinel, .widerDeep, .pinned], laidTests := true, laidLooks := .later }
def LibraryOrderCardSaid : Prop := Claim7.holds Tryz.pinned (.plain (OpenSpec.ofChange libraryOrderSpec)) libraryOrderCard

/-- THE TIED CARD OF 'tranchelaw08.LibraryInfers'. -/
def libraryInfersCard : Claim7 := { stood := { row := libraryInfersRow, standIns := [], harness := (true, "df44f98cbda8c8deec93fbe1bda1fc7eb8d3fec5c92d704318f90b8eac454e1c"), looks := true }, kinds := [], alts := [], laidByText := true, laidKinds := [.data, .data, .data, .data, .sentinel, .sentinel, .data, .widerDeep, .pinned], laidTests := true, laidLooks := .later }
def LibraryInfersCardSaid : Prop := Claim7.holds Tryz.pinned (.plain (OpenSpec.ofChange libraryInfersSpec)) libraryInfersCard

/-- THE TIED CARD OF 'tranchelaw08.LibraryEnough'. -/
def libraryEnoughCard : Claim7 := { stood := { row := libraryEnoughRow, standIns := [], harness := (true, "df44f98cbda8c8deec93fbe1bda1fc7eb8d3fec5c92d704318f90b8eac454e1c"), looks := true }, kinds := [], alts := [], laidByText := true, laidKinds := [.data, .data, .data, .data, .sentinel, .sentinel, .data, .widerDeep, .pinned], laidTests := true, laidLooks := .later }
def LibraryEnoughCardSaid : Prop := Claim7.holds Tryz.pinned (.plain (OpenSpec.ofChange libraryEnoughSpec)) libraryEnoughCard

/-- THE SECOND FORM's CARD OF 'tranchelaw08.LibraryChecks'. -/
def libraryChecksUptoCard : Claim7 := { stood := { row := libraryChecksUptoRow, standIns := [], harness := (true, "df44f98cbda8c8deec93fbe1bda1fc7eb8d3fec5c92d704318f90b8eac454e1c"), looks := true }, kinds := [], alts := [], laidByText := true, laidKinds := [.data, .data, .data, .data, .sentinel, .sentinel, .widerDeep, .pinned], laidTests := true, laidLooks := .later }
def LibraryChecksUptoCardSaid : Prop := Claim7.holds Tryz.pinned (.plain (OpenSpec.upto libraryChecksSpec)) libraryChecksUptoCard

/-- THE SECOND FORM's CARD OF 'tranchelaw08.LibraryReads'. -/
def libraryReadsUptoCard : Claim7 := { stood := { row := libraryReadsUptoRow, standIns := [], harness := (true, "df44f98cbda8c8deec93fbe1bda1fc7eb8d3fec5c92d704318f90b8eac454e1c"), looks := true }, kinds := [], alts := [], laidByText := true, laidKinds := [.data, .data, .data, .data, .sentinel, .sentinel, .widerDeep, .pinned], laidTests := true, laidLooks := .later }
def LibraryReadsUptoCardSaid : Prop := Claim7.holds Tryz.pinned (.plain (OpenSpec.upto libraryReadsSpec)) libraryReadsUptoCard

/-- THE SECOND FORM's CARD OF 'tranchelaw08.LibraryFeet'. -/
def libraryFeetUptoCard : Claim7 := { stood := { row := libraryFeetUptoRow, standIns := [], harness := (true, "df44f98cbda8c8deec93fbe1bda1fc7eb8d3fec5c92d704318f90b8eac454e1c"), looks := true }, kinds := [], alts := [], laidByText := true, laidKinds := [.data, .data, .data, .data, .sentinel, .sentinel, .widerDeep, .pinned], laidTests := true, laidLooks := .later }
def LibraryFeetUptoCardSaid : Prop := Claim7.holds Tryz.pinned (.plain (OpenSpec.upto libraryFeetSpec)) libraryFeetUptoCard

/-- THE SECOND FORM's CARD OF 'tranchelaw08.LibraryKeys'. -/
def libraryKeysUptoCard : Claim7 := { stood := { row := libraryKeysUptoRow, standIns := [], harness := (true, "df44f98cbda8c8deec93fbe1bda1fc7eb8d3fec5c92d704318f90b8eac454e1c"), looks := true }, kinds := [], alts := [], laidByText := true, laidKinds := [.data, .data, .data, .data, .sentinel, .sentinel, .widerDeep, .pinned], laidTests := true, laidLooks := .later }
def LibraryKeysUptoCardSaid : Prop := Claim7.holds Tryz.pinned (.plain (OpenSpec.upto libraryKeysSpec)) libraryKeysUptoCard

/-- THE SECOND FORM's CARD OF 'tranchelaw08.LibraryNil'. -/
def libraryNilUptoCard : Claim7 := { stood := { row := libraryNilUptoRow, standIns := [], harness := (true, "df44f98cbda8c8deec93fbe1bda1fc7eb8d3fec5c92d704318f90b8eac454e1c"), looks := true }, kinds := [], alts := [], laidByText := true, laidKinds := [.data, .data, .data, .data, .sentinel, .sentinel, .widerDeep, .pinned], laidTests := true, laidLooks := .later }
def LibraryNilUptoCardSaid : Prop := Claim7.holds Tryz.pinned (.plain (OpenSpec.upto libraryNilSpec)) libraryNilUptoCard

/-- THE SECOND FORM's CARD OF 'tranchelaw08.LibraryMakes'. -/
def libraryMakesUptoCard : Claim7 := { stood := { row := libraryMakesUptoRow, standIns := [], harness := (true, "df44f98cbda8c8deec93fbe1bda1fc7eb8d3fec5c92d704318f90b8eac454e1c"), looks := true }, kinds := [], alts := [], laidByText := true, laidKinds := [.data, .data, .data, .data, .sentinel, .sentinel, .widerDeep, .pinned], laidTests := true, laidLooks := .later }
def LibraryMakesUptoCardSaid : Prop := Claim7.holds Tryz.pinned (.plain (OpenSpec.upto libraryMakesSpec)) libraryMakesUptoCard

/-- THE SECOND FORM's CARD OF 'tranchelaw08.LibraryBack'. -/
def libraryBackUptoCard : Claim7 := { stood := { row := libraryBackUptoRow, standIns := [], harness := (true, "df44f98cbda8c8deec93fbe1bda1fc7eb8d3fec5c92d704318f90b8eac454e1c"), looks := true }, kinds := [], alts := [], laidByText := true, laidKinds := [.data, .data, .data, .data, .sentinel, .sentinel, .widerDeep, .pinned], laidTests := true, laidLooks := .later }
def LibraryBackUptoCardSaid : Prop := Claim7.holds Tryz.pinned (.plain (OpenSpec.upto libraryBackSpec)) libraryBackUptoCard

/-- THE SECOND FORM's CARD OF 'tranchelaw08.LibraryOrder'. -/
def libraryOrderUptoCard : Claim7 := { stood := { row := libraryOrderUptoRow, standIns := [], harness := (true, "df44f98cbda8c8deec93fbe1bda1fc7eb8d3fec5c92d704318f90b8eac454e1c"), looks := true }, kinds := [], alts := [], laidByText := true, laidKinds := [.data, .data, .data, .data, .sentinel, .sentinel, .widerDeep, .pinned], laidTests := true, laidLooks := .later }
def LibraryOrderUptoCardSaid : Prop := Claim7.holds Tryz.pinned (.plain (OpenSpec.upto libraryOrderSpec)) libraryOrderUptoCard

/-- THE SECOND FORM's CARD OF 'tranchelaw08.LibraryInfers'. -/
def libraryInfersUptoCard : Claim7 := { stood := { row := libraryInfersUptoRow, standIns := [], harness := (true, "df44f98cbda8c8deec93fbe1bda1fc7eb8d3fec5c92d704318f90b8eac454e1c"), looks := true }, kinds := [], alts := [], laidByText := true, laidKinds := [.data, .data, .data, .data, .sentinel, .sentinel, .data, .widerDeep, .pinned], laidTests := true, laidLooks := .later }
def LibraryInfersUptoCardSaid : Prop := Claim7.holds Tryz.pinned (.plain (OpenSpec.upto libraryInfersSpec)) libraryInfersUptoCard

/-- THE SECOND FORM's CARD OF 'tranchelaw08.LibraryEnough'. -/
def libraryEnoughUptoCard : Claim7 := { stood := { row := libraryEnoughUptoRow, standIns := [], harness := (true, "df44f98cbda8c8deec93fbe1bda1fc7eb8d3fec5c92d704318f90b8eac454e1c"), looks := true }, kinds := [], alts := [], laidByText := true, laidKinds := [.data, .data, .data, .data, .sentinel, .sentinel, .data, .widerDeep, .pinned], laidTests := true, laidLooks := .later }
def LibraryEnoughUptoCardSaid : Prop := Claim7.holds Tryz.pinned (.plain (OpenSpec.upto libraryEnoughSpec)) libraryEnoughUptoCard
end Rows
end Go.Proofs.YtfgdnakfikpmpaaGreatDoor
