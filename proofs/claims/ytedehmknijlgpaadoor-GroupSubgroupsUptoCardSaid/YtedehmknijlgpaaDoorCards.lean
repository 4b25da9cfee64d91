/-
  DERIVED. GIVEN WITH THE SEED: THE CARDS: each row of YtedehmknijlgpaaDoorRows.lean that lists a variable, with what it lists TIED to the program's text (the seventh form; the later family's looks); each row that meets fmt, with fmt's text TOLD by the authors' own Lean function (tested against real Go, not proved from fmt's source: count such statements apart). THE CARD IS WHAT COUNTS. Prove the row's statement (the work); the ties are given (YtedehmknijlgpaaDoorTie.lean); close each card by the builder's one call (the guide's Derived/Test/ToyasCard.lean, 'card_holds'). Laid BY PROGRAM, IN A SANDBOX (cutbox-door.mjs). By AI agents, Wed Nov 11 2026. No macro, syntax, notation, axiom, sorry.
-/
import Derived.Test.YtedehmknijlgpaaDoorRows
import GoSem.ClaimSeven
namespace Go.Proofs.YtedehmknijlgpaaDoor
namespace Rows

/-- THE TIED CARD OF 'handlebodylaw3.GroupTables'. -/
def groupTablesCard : Claim7 := { stood := { row := groupTablesRow, standIns := [], harness := (true, "8a664335085e01e42602e39392756865f10654f63060b5cbe9eda39e8321233f"), looks := true }, kinds := [], alts := [], laidByText := true, laidKinds := [.sentinel, .sentinel], laidTests := true, laidLooks := .later }
def GroupTablesCardSaid : Prop := Claim7.holds Tryd.pinned (.plain (OpenSpec.ofChange groupTablesSpec)) groupTablesCard

/-- THE TIED CARD OF 'handlebodylaw3.GroupCosets'. -/
def groupCosetsCard : Claim7 := { stood := { row := groupCosetsRow, standIns := [], harness := (true, "8a664335085e01e42602e39392756865f10654f63060b5cbe9eda39e8321233f"), looks := true }, kinds := [], alts := [], laidByText := true, laidKinds := [.handle, .sentinel, .sentinel, .sentinel, .sentinel, .sentinel, .sentinel, .sentinel, .sentinel], laidTests := true, laidLooks := .later }
def GroupCosetsCardSaid : Prop := Claim7.holds Tryd.pinned (.plain (OpenSpec.ofChange groupCosetsSpec)) groupCosetsCard

/-- THE TIED CARD OF 'handlebodylaw3.GroupSubgroups'. -/
def groupSubgroupsCard : Claim7 := { stood := { row := groupSubgroupsRow, standIns := [], harness := (true, "8a664335085e01e42602e39392756865f10654f63060b5cbe9eda39e8321233f"), looks := true }, kinds := [], alts := [], laidByText := true, laidKinds := [.handle, .sentinel, .sentinel, .sentinel, .sentinel, .sentinel, .sentinel, .sentinel, .sentinel], laidTests := true, laidLooks := .later }
def GroupSubgroupsCardSaid : Prop := Claim7.holds Tryd.pinned (.plain (OpenSpec.ofChange groupSubgroupsSpec)) groupSubgroupsCard

/-- THE SECOND FORM's CARD OF 'handlebodylaw3.GroupTables'. -/
def groupTablesUptoCard : Claim7 := { stood := { row := groupTablesUptoRow, standIns := [], harness := (true, "8a664335085e01e42602e39392756865f10654f63060b5cbe9eda39e8321233f"), looks := true }, kinds := [], alts := [], laidByText := true, laidKinds := [.sentinel, .sentinel], laidTests := true, laidLooks := .later }
def GroupTablesUptoCardSaid : Prop := Claim7.holds Tryd.pinned (.plain (OpenSpec.upto groupTablesSpec)) groupTablesUptoCard

/-- THE SECOND FORM's CARD OF 'handlebodylaw3.GroupCosets'. -/
def groupCosetsUptoCard : Claim7 := { stood := { row := groupCosetsUptoRow, standIns := [], harness := (true, "8a664335085e01e42602e39392756865f10654f63060b5cbe9eda39e8321233f"), looks := true }, kinds := [], alts := [], laidByText := true, laidKinds := [.handle, .sentinel, .sentinel, .sentinel, .sentinel, .sentinel, .sentinel, .sentinel, .sentinel], laidTests := true, laidLooks := .later }
def GroupCosetsUptoCardSaid : Prop := Claim7.holds Tryd.pinned (.plain (OpenSpec.upto groupCosetsSpec)) groupCosetsUptoCard

/-- THE SECOND FORM's CARD OF 'handlebodylaw3.GroupSubgroups'. -/
def groupSubgroupsUptoCard : Claim7 := { stood := { row := groupSubgroupsUptoRow, standIns := [], harness := (true, "8a664335085e01e42602e39392756865f10654f63060b5cbe9eda39e8321233f"), looks := true }, kinds := [], alts := [], laidByText := true, laidKinds := [.handle, .sentinel, .sentinel, .sentinel, .sentinel, .sentinel, .sentinel, .sentinel, .sentinel], laidTests := true, laidLooks := .later }
def GroupSubgroupsUptoCardSaid : Prop := Claim7.holds Tryd.pinned (.plain (OpenSpec.upto groupSubgroupsSpec)) groupSubgroupsUptoCard
end Rows
end Go.Proofs.YtedehmknijlgpaaDoor
