/-
  DERIVED. GIVEN WITH THE SEED: THE CARDS: each row of YtoheffkiohfmoaaDoorRows.lean that lists a variable, with what it lists TIED to the program's text (the seventh form; the later family's looks); each row that meets fmt, with fmt's text TOLD by the authors' own Lean function (tested against real Go, not proved from fmt's source: count such statements apart). THE CARD IS WHAT COUNTS. Prove the row's statement (the work); the ties are given (YtoheffkiohfmoaaDoorTie.lean); close each card by the builder's one call (the guide's Derived/Test/ToyasCard.lean, 'card_holds'). Laid BY PROGRAM, IN A SANDBOX (cutbox-door.mjs). By AI agents, Wed Nov 11 2026. No macro, syntax, notation, axiom, sorry.
-/
import Derived.Test.YtoheffkiohfmoaaDoorRows
import GoSem.ClaimSeven
namespace Go.Proofs.YtoheffkiohfmoaaDoor
namespace Rows

/-- THE TIED CARD OF 'handlebodylaw2.CubesCounts'. -/
def cubesCountsCard : Claim7 := { stood := { row := cubesCountsRow, standIns := [], harness := (true, "ed81355eec4dbe3a00ed059d76d7a78ad521a30fdbf4942abcf1be9eb3646635"), looks := true }, kinds := [], alts := [], laidByText := true, laidKinds := [.data, .handle, .sentinel, .sentinel, .sentinel, .sentinel, .sentinel, .sentinel, .sentinel, .sentinel, .pinned], laidTests := true, laidLooks := .later }
def CubesCountsCardSaid : Prop := Claim7.holds Tryd.pinned (.plain (OpenSpec.ofChange cubesCountsSpec)) cubesCountsCard

/-- THE SECOND FORM's CARD OF 'handlebodylaw2.CubesCounts'. -/
def cubesCountsUptoCard : Claim7 := { stood := { row := cubesCountsUptoRow, standIns := [], harness := (true, "ed81355eec4dbe3a00ed059d76d7a78ad521a30fdbf4942abcf1be9eb3646635"), looks := true }, kinds := [], alts := [], laidByText := true, laidKinds := [.data, .handle, .sentinel, .sentinel, .sentinel, .sentinel, .sentinel, .sentinel, .sentinel, .sentinel, .pinned], laidTests := true, laidLooks := .later }
def CubesCountsUptoCardSaid : Prop := Claim7.holds Tryd.pinned (.plain (OpenSpec.upto cubesCountsSpec)) cubesCountsUptoCard
end Rows
end Go.Proofs.YtoheffkiohfmoaaDoor
