/-
  DERIVED. GIVEN WITH THE SEED: THE CARDS: each row of YtipblphfjejpbaaDoorRows.lean that lists a variable, with what it lists TIED to the program's text (the seventh form; the later family's looks); each row that meets fmt, with fmt's text TOLD by the authors' own Lean function (tested against real Go, not proved from fmt's source: count such statements apart). THE CARD IS WHAT COUNTS. Prove the row's statement (the work); the ties are given (YtipblphfjejpbaaDoorTie.lean); close each card by the builder's one call (the guide's Derived/Test/ToyasCard.lean, 'card_holds'). Laid BY PROGRAM, IN A SANDBOX (cutbox-door.mjs). By AI agents, Wed Nov 11 2026. No macro, syntax, notation, axiom, sorry.
-/
import Derived.Test.YtipblphfjejpbaaDoorRows
import GoSem.ClaimSeven
namespace Go.Proofs.YtipblphfjejpbaaDoor
namespace Rows

/-- THE TIED CARD OF 'handlebodylaw1.CellsMakes'. -/
def cellsMakesCard : Claim7 := { stood := { row := cellsMakesRow, standIns := [], harness := (true, "d75dca825143879a48bdd28441631bf11ed67bf81b11b4fbdd61c184ef7f21a1"), looks := true }, kinds := [], alts := [], laidByText := true, laidKinds := [.handle, .sentinel, .sentinel, .sentinel, .sentinel, .sentinel, .sentinel, .sentinel, .sentinel], laidTests := true, laidLooks := .later }
def CellsMakesCardSaid : Prop := Claim7.holds Tryd.pinned (.plain (OpenSpec.ofChange cellsMakesSpec)) cellsMakesCard

/-- THE SECOND FORM's CARD OF 'handlebodylaw1.CellsMakes'. -/
def cellsMakesUptoCard : Claim7 := { stood := { row := cellsMakesUptoRow, standIns := [], harness := (true, "d75dca825143879a48bdd28441631bf11ed67bf81b11b4fbdd61c184ef7f21a1"), looks := true }, kinds := [], alts := [], laidByText := true, laidKinds := [.handle, .sentinel, .sentinel, .sentinel, .sentinel, .sentinel, .sentinel, .sentinel, .sentinel], laidTests := true, laidLooks := .later }
def CellsMakesUptoCardSaid : Prop := Claim7.holds Tryd.pinned (.plain (OpenSpec.upto cellsMakesSpec)) cellsMakesUptoCard
end Rows
end Go.Proofs.YtipblphfjejpbaaDoor
