/-
  DERIVED. GIVEN WITH THE SEED: THE CARDS: each row of YtipblphfjejpbaaGreatDoorRows.lean that lists a variable, with what it lists TIED to the program's text (the seventh form; the later family's looks); each row that meets fmt, with fmt's text TOLD by the authors' own Lean function (tested against real Go, not proved from fmt's source: count such statements apart). THE CARD IS WHAT COUNTS. Prove the row's statement (the work); the ties are given (YtipblphfjejpbaaGreatDoorTie.lean); close each card by the builder's one call (the guide's Derived/Test/ToyasCard.lean, 'card_holds'). Laid BY PROGRAM, IN A SANDBOX (cutbox-door.mjs). By AI agents, Wed Nov 11 2026. No macro, syntax, notation, axiom, sorry.
-/
import Derived.Test.YtipblphfjejpbaaGreatDoorRows
import GoSem.ClaimSeven
namespace Go.Proofs.YtipblphfjejpbaaGreatDoor
namespace Rows

/-- THE TIED CARD OF 'handlebodylaw1.CellsBorders'. -/
def cellsBordersCard : Claim7 := { stood := { row := cellsBordersRow, standIns := [], harness := (true, "c8027ad4b923c3f9c1831e87b0358ba9bd0ab1a38aaeb8bac308e46f08f284bb"), looks := true }, kinds := [], alts := [], laidByText := true, laidKinds := [.handle, .sentinel, .sentinel, .sentinel, .sentinel, .sentinel, .sentinel, .sentinel, .sentinel], laidTests := true, laidLooks := .later }
def CellsBordersCardSaid : Prop := Claim7.holds Tryz.pinned (.plain (OpenSpec.ofChange cellsBordersSpec)) cellsBordersCard

/-- THE TIED CARD OF 'handlebodylaw1.CellsEuler'. -/
def cellsEulerCard : Claim7 := { stood := { row := cellsEulerRow, standIns := [], harness := (true, "c8027ad4b923c3f9c1831e87b0358ba9bd0ab1a38aaeb8bac308e46f08f284bb"), looks := true }, kinds := [], alts := [], laidByText := true, laidKinds := [.sentinel, .sentinel, .sentinel], laidTests := true, laidLooks := .later }
def CellsEulerCardSaid : Prop := Claim7.holds Tryz.pinned (.plain (OpenSpec.ofChange cellsEulerSpec)) cellsEulerCard

/-- THE TIED CARD OF 'handlebodylaw1.CellsFaces'. -/
def cellsFacesCard : Claim7 := { stood := { row := cellsFacesRow, standIns := [], harness := (true, "c8027ad4b923c3f9c1831e87b0358ba9bd0ab1a38aaeb8bac308e46f08f284bb"), looks := true }, kinds := [], alts := [], laidByText := true, laidKinds := [.handle, .sentinel, .sentinel, .sentinel, .sentinel, .sentinel, .sentinel, .sentinel, .sentinel], laidTests := true, laidLooks := .later }
def CellsFacesCardSaid : Prop := Claim7.holds Tryz.pinned (.plain (OpenSpec.ofChange cellsFacesSpec)) cellsFacesCard

/-- THE TIED CARD OF 'handlebodylaw1.CellsProducts'. -/
def cellsProductsCard : Claim7 := { stood := { row := cellsProductsRow, standIns := [], harness := (true, "c8027ad4b923c3f9c1831e87b0358ba9bd0ab1a38aaeb8bac308e46f08f284bb"), looks := true }, kinds := [], alts := [], laidByText := true, laidKinds := [.handle, .sentinel, .sentinel, .sentinel, .sentinel, .sentinel, .sentinel, .sentinel, .sentinel], laidTests := true, laidLooks := .later }
def CellsProductsCardSaid : Prop := Claim7.holds Tryz.pinned (.plain (OpenSpec.ofChange cellsProductsSpec)) cellsProductsCard

/-- THE TIED CARD OF 'handlebodylaw1.CellsParts'. -/
def cellsPartsCard : Claim7 := { stood := { row := cellsPartsRow, standIns := [], harness := (true, "c8027ad4b923c3f9c1831e87b0358ba9bd0ab1a38aaeb8bac308e46f08f284bb"), looks := true }, kinds := [], alts := [], laidByText := true, laidKinds := [.handle, .sentinel, .sentinel, .sentinel, .sentinel, .sentinel, .sentinel, .sentinel, .sentinel], laidTests := true, laidLooks := .later }
def CellsPartsCardSaid : Prop := Claim7.holds Tryz.pinned (.plain (OpenSpec.ofChange cellsPartsSpec)) cellsPartsCard

/-- THE TIED CARD OF 'handlebodylaw1.CellsJoins'. -/
def cellsJoinsCard : Claim7 := { stood := { row := cellsJoinsRow, standIns := [], harness := (true, "c8027ad4b923c3f9c1831e87b0358ba9bd0ab1a38aaeb8bac308e46f08f284bb"), looks := true }, kinds := [], alts := [], laidByText := true, laidKinds := [.handle, .sentinel, .sentinel, .sentinel, .sentinel, .sentinel, .sentinel, .sentinel, .sentinel], laidTests := true, laidLooks := .later }
def CellsJoinsCardSaid : Prop := Claim7.holds Tryz.pinned (.plain (OpenSpec.ofChange cellsJoinsSpec)) cellsJoinsCard

/-- THE TIED CARD OF 'handlebodylaw1.CellsTexts'. -/
def cellsTextsCard : Claim7 := { stood := { row := cellsTextsRow, standIns := [], harness := (true, "c8027ad4b923c3f9c1831e87b0358ba9bd0ab1a38aaeb8bac308e46f08f284bb"), looks := true }, kinds := [], alts := [], laidByText := true, laidKinds := [.data, .data, .data, .handle, .sentinel, .sentinel, .sentinel, .sentinel, .sentinel, .sentinel, .sentinel, .sentinel, .sentinel, .sentinel], laidTests := true, laidLooks := .later }
def CellsTextsCardSaid : Prop := Claim7.holds Tryz.pinned (.plain (OpenSpec.ofChange cellsTextsSpec)) cellsTextsCard

/-- THE SECOND FORM's CARD OF 'handlebodylaw1.CellsBorders'. -/
def cellsBordersUptoCard : Claim7 := { stood := { row := cellsBordersUptoRow, standIns := [], harness := (true, "c8027ad4b923c3f9c1831e87b0358ba9bd0ab1a38aaeb8bac308e46f08f284bb"), looks := true }, kinds := [], alts := [], laidByText := true, laidKinds := [.handle, .sentinel, .sentinel, .sentinel, .sentinel, .sentinel, .sentinel, .sentinel, .sentinel], laidTests := true, laidLooks := .later }
def CellsBordersUptoCardSaid : Prop := Claim7.holds Tryz.pinned (.plain (OpenSpec.upto cellsBordersSpec)) cellsBordersUptoCard

/-- THE SECOND FORM's CARD OF 'handlebodylaw1.CellsEuler'. -/
def cellsEulerUptoCard : Claim7 := { stood := { row := cellsEulerUptoRow, standIns := [], harness := (true, "c8027ad4b923c3f9c1831e87b0358ba9bd0ab1a38aaeb8bac308e46f08f284bb"), looks := true }, kinds := [], alts := [], laidByText := true, laidKinds := [.sentinel, .sentinel, .sentinel], laidTests := true, laidLooks := .later }
def CellsEulerUptoCardSaid : Prop := Claim7.holds Tryz.pinned (.plain (OpenSpec.upto cellsEulerSpec)) cellsEulerUptoCard

/-- THE SECOND FORM's CARD OF 'handlebodylaw1.CellsFaces'. -/
def cellsFacesUptoCard : Claim7 := { stood := { row := cellsFacesUptoRow, standIns := [], harness := (true, "c8027ad4b923c3f9c1831e87b0358ba9bd0ab1a38aaeb8bac308e46f08f284bb"), looks := true }, kinds := [], alts := [], laidByText := true, laidKinds := [.handle, .sentinel, .sentinel, .sentinel, .sentinel, .sentinel, .sentinel, .sentinel, .sentinel], laidTests := true, laidLooks := .later }
def CellsFacesUptoCardSaid : Prop := Claim7.holds Tryz.pinned (.plain (OpenSpec.upto cellsFacesSpec)) cellsFacesUptoCard

/-- THE SECOND FORM's CARD OF 'handlebodylaw1.CellsProducts'. -/
def cellsProductsUptoCard : Claim7 := { stood := { row := cellsProductsUptoRow, standIns := [], harness := (true, "c8027ad4b923c3f9c1831e87b0358ba9bd0ab1a38aaeb8bac308e46f08f284bb"), looks := true }, kinds := [], alts := [], laidByText := true, laidKinds := [.handle, .sentinel, .sentinel, .sentinel, .sentinel, .sentinel, .sentinel, .sentinel, .sentinel], laidTests := true, laidLooks := .later }
def CellsProductsUptoCardSaid : Prop := Claim7.holds Tryz.pinned (.plain (OpenSpec.upto cellsProductsSpec)) cellsProductsUptoCard

/-- THE SECOND FORM's CARD OF 'handlebodylaw1.CellsParts'. -/
def cellsPartsUptoCard : Claim7 := { stood := { row := cellsPartsUptoRow, standIns := [], harness := (true, "c8027ad4b923c3f9c1831e87b0358ba9bd0ab1a38aaeb8bac308e46f08f284bb"), looks := true }, kinds := [], alts := [], laidByText := true, laidKinds := [.handle, .sentinel, .sentinel, .sentinel, .sentinel, .sentinel, .sentinel, .sentinel, .sentinel], laidTests := true, laidLooks := .later }
def CellsPartsUptoCardSaid : Prop := Claim7.holds Tryz.pinned (.plain (OpenSpec.upto cellsPartsSpec)) cellsPartsUptoCard

/-- THE SECOND FORM's CARD OF 'handlebodylaw1.CellsJoins'. -/
def cellsJoinsUptoCard : Claim7 := { stood := { row := cellsJoinsUptoRow, standIns := [], harness := (true, "c8027ad4b923c3f9c1831e87b0358ba9bd0ab1a38aaeb8bac308e46f08f284bb"), looks := true }, kinds := [], alts := [], laidByText := true, laidKinds := [.handle, .sentinel, .sentinel, .sentinel, .sentinel, .sentinel, .sentinel, .sentinel, .sentinel], laidTests := true, laidLooks := .later }
def CellsJoinsUptoCardSaid : Prop := Claim7.holds Tryz.pinned (.plain (OpenSpec.upto cellsJoinsSpec)) cellsJoinsUptoCard

/-- THE SECOND FORM's CARD OF 'handlebodylaw1.CellsTexts'. -/
def cellsTextsUptoCard : Claim7 := { stood := { row := cellsTextsUptoRow, standIns := [], harness := (true, "c8027ad4b923c3f9c1831e87b0358ba9bd0ab1a38aaeb8bac308e46f08f284bb"), looks := true }, kinds := [], alts := [], laidByText := true, laidKinds := [.data, .data, .data, .handle, .sentinel, .sentinel, .sentinel, .sentinel, .sentinel, .sentinel, .sentinel, .sentinel, .sentinel, .sentinel], laidTests := true, laidLooks := .later }
def CellsTextsUptoCardSaid : Prop := Claim7.holds Tryz.pinned (.plain (OpenSpec.upto cellsTextsSpec)) cellsTextsUptoCard
end Rows
end Go.Proofs.YtipblphfjejpbaaGreatDoor
