/-
  DERIVED. GIVEN WITH THE SEED: THE CARDS: each row of YtnijedeopnjklaaGreatDoorRows.lean that lists a variable, with what it lists TIED to the program's text (the seventh form; the later family's looks); each row that meets fmt, with fmt's text TOLD by the authors' own Lean function (tested against real Go, not proved from fmt's source: count such statements apart). THE CARD IS WHAT COUNTS. Prove the row's statement (the work); the ties are given (YtnijedeopnjklaaGreatDoorTie.lean); close each card by the builder's one call (the guide's Derived/Test/ToyasCard.lean, 'card_holds'). Laid BY PROGRAM, IN A SANDBOX (cutbox-door.mjs). By AI agents, Wed Nov 11 2026. No macro, syntax, notation, axiom, sorry.
-/
import Derived.Test.YtnijedeopnjklaaGreatDoorRows
import GoSem.ClaimSeven
namespace Go.Proofs.YtnijedeopnjklaaGreatDoor
namespace Rows

/-- THE TIED CARD OF 'handlebodylaw4.LabelSperner'. -/
def labelSpernerCard : Claim7 := { stood := { row := labelSpernerRow, standIns := [], harness := (true, "5e62723c91ce860ac50e0fecaa571c4769c7b2ae51b0bc97ae936bbcf5200316"), looks := true }, kinds := [], alts := [], laidByText := true, laidKinds := [.handle, .sentinel, .sentinel, .sentinel, .sentinel, .sentinel, .sentinel, .sentinel, .sentinel], laidTests := true, laidLooks := .later }
def LabelSpernerCardSaid : Prop := Claim7.holds Tryz.pinned (.plain (OpenSpec.ofChange labelSpernerSpec)) labelSpernerCard

/-- THE SECOND FORM's CARD OF 'handlebodylaw4.LabelSperner'. -/
def labelSpernerUptoCard : Claim7 := { stood := { row := labelSpernerUptoRow, standIns := [], harness := (true, "5e62723c91ce860ac50e0fecaa571c4769c7b2ae51b0bc97ae936bbcf5200316"), looks := true }, kinds := [], alts := [], laidByText := true, laidKinds := [.handle, .sentinel, .sentinel, .sentinel, .sentinel, .sentinel, .sentinel, .sentinel, .sentinel], laidTests := true, laidLooks := .later }
def LabelSpernerUptoCardSaid : Prop := Claim7.holds Tryz.pinned (.plain (OpenSpec.upto labelSpernerSpec)) labelSpernerUptoCard
end Rows
end Go.Proofs.YtnijedeopnjklaaGreatDoor
