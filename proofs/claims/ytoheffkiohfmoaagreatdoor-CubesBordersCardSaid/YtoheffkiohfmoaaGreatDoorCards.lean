/-
  DERIVED. GIVEN WITH THE SEED: THE CARDS: each row of YtoheffkiohfmoaaGreatDoorRows.lean that lists a variable, with what it lists TIED to the program's text (the seventh form; the later family's looks); each row that meets fmt, with fmt's text TOLD by the authors' own Lean function (tested against real Go, not proved from fmt's source: count such statements apart). THE CARD IS WHAT COUNTS. Prove the row's statement (the work); the ties are given (YtoheffkiohfmoaaGreatDoorTie.lean); close each card by the builder's one call (the guide's Derived/Test/ToyasCard.lean, 'card_holds'). Laid BY PROGRAM, IN A SANDBOX (cutbox-door.mjs). By AI agents, Wed Nov 11 2026. No macro, syntax, notation, axiom, sorry.
-/
import Derived.Test.YtoheffkiohfmoaaGreatDoorRows
import GoSem.ClaimSeven
namespace Go.Proofs.YtoheffkiohfmoaaGreatDoor
namespace Rows

/-- THE TIED CARD OF 'handlebodylaw2.MorseFree'. -/
def morseFreeCard : Claim7 := { stood := { row := morseFreeRow, standIns := [], harness := (true, "6105b37893c6be0691b195c167d607a653c5084c728d49638e271f1ce1bbbe8c"), looks := true }, kinds := [], alts := [], laidByText := true, laidKinds := [.handle, .sentinel, .sentinel, .sentinel, .sentinel, .sentinel, .sentinel, .sentinel, .sentinel], laidTests := true, laidLooks := .later }
def MorseFreeCardSaid : Prop := Claim7.holds Tryz.pinned (.plain (OpenSpec.ofChange morseFreeSpec)) morseFreeCard

/-- THE TIED CARD OF 'handlebodylaw2.MorseChecks'. -/
def morseChecksCard : Claim7 := { stood := { row := morseChecksRow, standIns := [], harness := (true, "6105b37893c6be0691b195c167d607a653c5084c728d49638e271f1ce1bbbe8c"), looks := true }, kinds := [], alts := [], laidByText := true, laidKinds := [.handle, .sentinel, .sentinel, .sentinel, .sentinel, .sentinel, .sentinel, .sentinel, .sentinel], laidTests := true, laidLooks := .later }
def MorseChecksCardSaid : Prop := Claim7.holds Tryz.pinned (.plain (OpenSpec.ofChange morseChecksSpec)) morseChecksCard

/-- THE TIED CARD OF 'handlebodylaw2.CubesBorders'. -/
def cubesBordersCard : Claim7 := { stood := { row := cubesBordersRow, standIns := [], harness := (true, "6105b37893c6be0691b195c167d607a653c5084c728d49638e271f1ce1bbbe8c"), looks := true }, kinds := [], alts := [], laidByText := true, laidKinds := [.data, .handle, .sentinel, .sentinel, .sentinel, .sentinel, .sentinel, .sentinel, .sentinel, .sentinel, .pinned], laidTests := true, laidLooks := .later }
def CubesBordersCardSaid : Prop := Claim7.holds Tryz.pinned (.plain (OpenSpec.ofChange cubesBordersSpec)) cubesBordersCard

/-- THE SECOND FORM's CARD OF 'handlebodylaw2.MorseFree'. -/
def morseFreeUptoCard : Claim7 := { stood := { row := morseFreeUptoRow, standIns := [], harness := (true, "6105b37893c6be0691b195c167d607a653c5084c728d49638e271f1ce1bbbe8c"), looks := true }, kinds := [], alts := [], laidByText := true, laidKinds := [.handle, .sentinel, .sentinel, .sentinel, .sentinel, .sentinel, .sentinel, .sentinel, .sentinel], laidTests := true, laidLooks := .later }
def MorseFreeUptoCardSaid : Prop := Claim7.holds Tryz.pinned (.plain (OpenSpec.upto morseFreeSpec)) morseFreeUptoCard

/-- THE SECOND FORM's CARD OF 'handlebodylaw2.MorseChecks'. -/
def morseChecksUptoCard : Claim7 := { stood := { row := morseChecksUptoRow, standIns := [], harness := (true, "6105b37893c6be0691b195c167d607a653c5084c728d49638e271f1ce1bbbe8c"), looks := true }, kinds := [], alts := [], laidByText := true, laidKinds := [.handle, .sentinel, .sentinel, .sentinel, .sentinel, .sentinel, .sentinel, .sentinel, .sentinel], laidTests := true, laidLooks := .later }
def MorseChecksUptoCardSaid : Prop := Claim7.holds Tryz.pinned (.plain (OpenSpec.upto morseChecksSpec)) morseChecksUptoCard

/-- THE SECOND FORM's CARD OF 'handlebodylaw2.CubesBorders'. -/
def cubesBordersUptoCard : Claim7 := { stood := { row := cubesBordersUptoRow, standIns := [], harness := (true, "6105b37893c6be0691b195c167d607a653c5084c728d49638e271f1ce1bbbe8c"), looks := true }, kinds := [], alts := [], laidByText := true, laidKinds := [.data, .handle, .sentinel, .sentinel, .sentinel, .sentinel, .sentinel, .sentinel, .sentinel, .sentinel, .pinned], laidTests := true, laidLooks := .later }
def CubesBordersUptoCardSaid : Prop := Claim7.holds Tryz.pinned (.plain (OpenSpec.upto cubesBordersSpec)) cubesBordersUptoCard
end Rows
end Go.Proofs.YtoheffkiohfmoaaGreatDoor
