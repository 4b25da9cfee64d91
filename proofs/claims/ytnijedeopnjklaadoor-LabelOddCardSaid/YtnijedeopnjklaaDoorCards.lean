/-
  DERIVED. GIVEN WITH THE SEED: THE CARDS: each row of YtnijedeopnjklaaDoorRows.lean that lists a variable, with what it lists TIED to the program's text (the seventh form; the later family's looks); each row that meets fmt, with fmt's text TOLD by the authors' own Lean function (tested against real Go, not proved from fmt's source: count such statements apart). THE CARD IS WHAT COUNTS. Prove the row's statement (the work); the ties are given (YtnijedeopnjklaaDoorTie.lean); close each card by the builder's one call (the guide's Derived/Test/ToyasCard.lean, 'card_holds'). Laid BY PROGRAM, IN A SANDBOX (cutbox-door.mjs). By AI agents, Wed Nov 11 2026. No macro, syntax, notation, axiom, sorry.
-/
import Derived.Test.YtnijedeopnjklaaDoorRows
import GoSem.ClaimSeven
namespace Go.Proofs.YtnijedeopnjklaaDoor
namespace Rows

/-- THE TIED CARD OF 'handlebodylaw4.LabelOdd'. -/
def labelOddCard : Claim7 := { stood := { row := labelOddRow, standIns := [], harness := (true, "6df488734d89dd2e795e464d057b25a7ad63f40c97416cc27d873aff3bd7171d"), looks := true }, kinds := [], alts := [], laidByText := true, laidKinds := [.sentinel, .sentinel, .sentinel], laidTests := true, laidLooks := .later }
def LabelOddCardSaid : Prop := Claim7.holds Tryd.pinned (.plain (OpenSpec.ofChange labelOddSpec)) labelOddCard

/-- THE TIED CARD OF 'handlebodylaw4.LabelTucker'. -/
def labelTuckerCard : Claim7 := { stood := { row := labelTuckerRow, standIns := [], harness := (true, "6df488734d89dd2e795e464d057b25a7ad63f40c97416cc27d873aff3bd7171d"), looks := true }, kinds := [], alts := [], laidByText := true, laidKinds := [.handle, .sentinel, .sentinel, .sentinel, .sentinel, .sentinel, .sentinel, .sentinel, .sentinel], laidTests := true, laidLooks := .later }
def LabelTuckerCardSaid : Prop := Claim7.holds Tryd.pinned (.plain (OpenSpec.ofChange labelTuckerSpec)) labelTuckerCard

/-- THE SECOND FORM's CARD OF 'handlebodylaw4.LabelOdd'. -/
def labelOddUptoCard : Claim7 := { stood := { row := labelOddUptoRow, standIns := [], harness := (true, "6df488734d89dd2e795e464d057b25a7ad63f40c97416cc27d873aff3bd7171d"), looks := true }, kinds := [], alts := [], laidByText := true, laidKinds := [.sentinel, .sentinel, .sentinel], laidTests := true, laidLooks := .later }
def LabelOddUptoCardSaid : Prop := Claim7.holds Tryd.pinned (.plain (OpenSpec.upto labelOddSpec)) labelOddUptoCard

/-- THE SECOND FORM's CARD OF 'handlebodylaw4.LabelTucker'. -/
def labelTuckerUptoCard : Claim7 := { stood := { row := labelTuckerUptoRow, standIns := [], harness := (true, "6df488734d89dd2e795e464d057b25a7ad63f40c97416cc27d873aff3bd7171d"), looks := true }, kinds := [], alts := [], laidByText := true, laidKinds := [.handle, .sentinel, .sentinel, .sentinel, .sentinel, .sentinel, .sentinel, .sentinel, .sentinel], laidTests := true, laidLooks := .later }
def LabelTuckerUptoCardSaid : Prop := Claim7.holds Tryd.pinned (.plain (OpenSpec.upto labelTuckerSpec)) labelTuckerUptoCard
end Rows
end Go.Proofs.YtnijedeopnjklaaDoor
