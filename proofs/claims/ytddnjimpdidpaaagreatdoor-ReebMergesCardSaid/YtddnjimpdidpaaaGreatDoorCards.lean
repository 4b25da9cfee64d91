/-
  DERIVED. GIVEN WITH THE SEED: THE CARDS: each row of YtddnjimpdidpaaaGreatDoorRows.lean that lists a variable, with what it lists TIED to the program's text (the seventh form; the later family's looks); each row that meets fmt, with fmt's text TOLD by the authors' own Lean function (tested against real Go, not proved from fmt's source: count such statements apart). THE CARD IS WHAT COUNTS. Prove the row's statement (the work); the ties are given (YtddnjimpdidpaaaGreatDoorTie.lean); close each card by the builder's one call (the guide's Derived/Test/ToyasCard.lean, 'card_holds'). Laid BY PROGRAM, IN A SANDBOX (cutbox-door.mjs). By AI agents, Wed Nov 11 2026. No macro, syntax, notation, axiom, sorry.
-/
import Derived.Test.YtddnjimpdidpaaaGreatDoorRows
import GoSem.ClaimSeven
namespace Go.Proofs.YtddnjimpdidpaaaGreatDoor
namespace Rows

/-- THE TIED CARD OF 'handlebodylaw5.ReebMerges'. -/
def reebMergesCard : Claim7 := { stood := { row := reebMergesRow, standIns := [], harness := (true, "4fff6cbde762a752e21ba1b03d381bb0f792a82166285f38862d2a4aed2d62ed"), looks := true }, kinds := [], alts := [], laidByText := true, laidKinds := [.handle, .sentinel, .sentinel, .sentinel, .sentinel, .sentinel, .sentinel, .sentinel, .sentinel], laidTests := true, laidLooks := .later }
def ReebMergesCardSaid : Prop := Claim7.holds Tryz.pinned (.plain (OpenSpec.ofChange reebMergesSpec)) reebMergesCard

/-- THE TIED CARD OF 'handlebodylaw5.IndexHeights'. -/
def indexHeightsCard : Claim7 := { stood := { row := indexHeightsRow, standIns := [], harness := (true, "4fff6cbde762a752e21ba1b03d381bb0f792a82166285f38862d2a4aed2d62ed"), looks := true }, kinds := [], alts := [], laidByText := true, laidKinds := [.handle, .sentinel, .sentinel, .sentinel, .sentinel, .sentinel, .sentinel, .sentinel, .sentinel], laidTests := true, laidLooks := .later }
def IndexHeightsCardSaid : Prop := Claim7.holds Tryz.pinned (.plain (OpenSpec.ofChange indexHeightsSpec)) indexHeightsCard

/-- THE TIED CARD OF 'handlebodylaw5.IndexMaps'. -/
def indexMapsCard : Claim7 := { stood := { row := indexMapsRow, standIns := [], harness := (true, "4fff6cbde762a752e21ba1b03d381bb0f792a82166285f38862d2a4aed2d62ed"), looks := true }, kinds := [], alts := [], laidByText := true, laidKinds := [.handle, .sentinel, .sentinel, .sentinel, .sentinel, .sentinel, .sentinel, .sentinel, .sentinel], laidTests := true, laidLooks := .later }
def IndexMapsCardSaid : Prop := Claim7.holds Tryz.pinned (.plain (OpenSpec.ofChange indexMapsSpec)) indexMapsCard

/-- THE SECOND FORM's CARD OF 'handlebodylaw5.ReebMerges'. -/
def reebMergesUptoCard : Claim7 := { stood := { row := reebMergesUptoRow, standIns := [], harness := (true, "4fff6cbde762a752e21ba1b03d381bb0f792a82166285f38862d2a4aed2d62ed"), looks := true }, kinds := [], alts := [], laidByText := true, laidKinds := [.handle, .sentinel, .sentinel, .sentinel, .sentinel, .sentinel, .sentinel, .sentinel, .sentinel], laidTests := true, laidLooks := .later }
def ReebMergesUptoCardSaid : Prop := Claim7.holds Tryz.pinned (.plain (OpenSpec.upto reebMergesSpec)) reebMergesUptoCard

/-- THE SECOND FORM's CARD OF 'handlebodylaw5.IndexHeights'. -/
def indexHeightsUptoCard : Claim7 := { stood := { row := indexHeightsUptoRow, standIns := [], harness := (true, "4fff6cbde762a752e21ba1b03d381bb0f792a82166285f38862d2a4aed2d62ed"), looks := true }, kinds := [], alts := [], laidByText := true, laidKinds := [.handle, .sentinel, .sentinel, .sentinel, .sentinel, .sentinel, .sentinel, .sentinel, .sentinel], laidTests := true, laidLooks := .later }
def IndexHeightsUptoCardSaid : Prop := Claim7.holds Tryz.pinned (.plain (OpenSpec.upto indexHeightsSpec)) indexHeightsUptoCard

/-- THE SECOND FORM's CARD OF 'handlebodylaw5.IndexMaps'. -/
def indexMapsUptoCard : Claim7 := { stood := { row := indexMapsUptoRow, standIns := [], harness := (true, "4fff6cbde762a752e21ba1b03d381bb0f792a82166285f38862d2a4aed2d62ed"), looks := true }, kinds := [], alts := [], laidByText := true, laidKinds := [.handle, .sentinel, .sentinel, .sentinel, .sentinel, .sentinel, .sentinel, .sentinel, .sentinel], laidTests := true, laidLooks := .later }
def IndexMapsUptoCardSaid : Prop := Claim7.holds Tryz.pinned (.plain (OpenSpec.upto indexMapsSpec)) indexMapsUptoCard
end Rows
end Go.Proofs.YtddnjimpdidpaaaGreatDoor
