/-
  NARROWER THAN 'FOR EVERY INPUT', by the rows' own cells (each row's printed sentence says how): GroupTables: laid · GroupCosets: laid · GroupSubgroups: laid.
  DERIVED. THE GIVEN ROWS OF THIS SEAT. 3 by the template 'for every input the law returns true; each argument reads behind the call as it read before'; 0 by the template 'total and deterministic' (their statements: YtedehmknijlgpaaDoorTotals.lean).
  GIVEN WITH THE SEED: the statements are not yours to turn. If you find one false, say at which input.
  Laid BY PROGRAM, IN A SANDBOX (cutbox-rows.mjs): the forced cells as the released guide's own fill.sh prints them over the translation af3e1557c51583bb… (all of the seat's roots in one cut). By AI agents, Wed Nov 11 2026. No macro, syntax, notation, axiom, sorry.
-/
import Derived.Test.YtedehmknijlgpaaDoorChecked
import GoSem.Claim
import GoSem.ClaimJoined
import GoSem.ClaimMapViews
import Derived.JoinedTies
import Derived.KernelRfl
namespace Go.Proofs.YtedehmknijlgpaaDoor
/- THE CELL 'sum', in the pinned program and in every row, IS THE sha256 OF THE DUMP (.gsa) THAT YtedehmknijlgpaaDoorProg.lean LOADS. Nothing in Lean hashes anything: it is a label: what it is worth is what the hold of that sum in a sandbox is worth. -/
noncomputable def Tryd.pinned : Pinned := { name := "ytedehmknijlgpaadoor", sum := "af3e1557c51583bb5b97d914d154a4843c6001849d70bb03b44648780fd09427", checked := Tryd.checked }
namespace Rows
def none {H : Type} : Left H := { results := [], args := [] }

/- WHAT THE LISTED PACKAGE-LEVEL VARIABLES READ AS WHEN THE CALL BEGINS. Each datum BY PROGRAM (the guide's laid-datum.mjs) off the statement by which the dump's own 'gosem.cut.vars' lays the variable. In a bare row this is a premise. The card (YtedehmknijlgpaaDoorCards.lean) ties it to the program's text. -/
def laid_handlebody_api_ErrBound {H : Type} : DataW H := .iface "*errors.errorString" (.ptr (.agg [.lit (.string [104, 97, 110, 100, 108, 101, 98, 111, 100, 121, 58, 32, 98, 111, 117, 110, 100])]))
def laid_handlebody_api_ErrShape {H : Type} : DataW H := .iface "*errors.errorString" (.ptr (.agg [.lit (.string [104, 97, 110, 100, 108, 101, 98, 111, 100, 121, 58, 32, 115, 104, 97, 112, 101])]))
def laid_errors_errorType {H : Type} : DataW H := .iface "internal/reflectlite.rtype" (.agg [.ptr (.lit (.string [101, 114, 114, 111, 114]))])
def laid_handlebody_api_ErrText {H : Type} : DataW H := .iface "*errors.errorString" (.ptr (.agg [.lit (.string [104, 97, 110, 100, 108, 101, 98, 111, 100, 121, 58, 32, 116, 101, 120, 116])]))
def laid_handlebody_api_ErrFace {H : Type} : DataW H := .iface "*errors.errorString" (.ptr (.agg [.lit (.string [104, 97, 110, 100, 108, 101, 98, 111, 100, 121, 58, 32, 102, 97, 99, 101])]))
def laid_handlebody_api_ErrName {H : Type} : DataW H := .iface "*errors.errorString" (.ptr (.agg [.lit (.string [104, 97, 110, 100, 108, 101, 98, 111, 100, 121, 58, 32, 110, 97, 109, 101])]))
def laid_handlebody_api_ErrNone {H : Type} : DataW H := .iface "*errors.errorString" (.ptr (.agg [.lit (.string [104, 97, 110, 100, 108, 101, 98, 111, 100, 121, 58, 32, 110, 111, 110, 101])]))
def laid_handlebody_api_ErrOrder {H : Type} : DataW H := .iface "*errors.errorString" (.ptr (.agg [.lit (.string [104, 97, 110, 100, 108, 101, 98, 111, 100, 121, 58, 32, 111, 114, 100, 101, 114])]))
def laid_handlebody_api_ErrKind {H : Type} : DataW H := .iface "*errors.errorString" (.ptr (.agg [.lit (.string [104, 97, 110, 100, 108, 101, 98, 111, 100, 121, 58, 32, 107, 105, 110, 100])]))

/-- 'handlebodylaw3.GroupTables': WHATEVER THE INPUT: true; the input reads as it did. -/
def groupTablesSpec : ChangeSpec := { name := "groupTables", fn := fun _ => fun
  | [d1, d2] => { results := [.lit (.bool true)], args := [d1, d2] }
  | _ => none }
def groupTablesRow : OpenClaim := { program := "ytedehmknijlgpaadoor", sum := "af3e1557c51583bb5b97d914d154a4843c6001849d70bb03b44648780fd09427", func := "handlebody/handlebodylaw3.GroupTables", spec := "groupTables", unfollowed := true, recurses := true, named := ["handlebody/api.ErrBound", "handlebody/api.ErrShape"], apart := false, laid := [("handlebody/api.ErrBound", laid_handlebody_api_ErrBound), ("handlebody/api.ErrShape", laid_handlebody_api_ErrShape)] }
def GroupTablesSaid : Prop := groupTablesRow.holds Tryd.pinned (OpenSpec.ofChange groupTablesSpec)

/-- ITS FALSE NEIGHBOUR: 'it returns false'. Refute it at one input. -/
def groupTablesWrong : ChangeSpec := { name := "groupTables", fn := fun _ => fun
  | [d1, d2] => { results := [.lit (.bool false)], args := [d1, d2] }
  | _ => none }
def GroupTablesWrongFalsely : Prop := groupTablesRow.holds Tryd.pinned (OpenSpec.ofChange groupTablesWrong)

/-- 'handlebodylaw3.GroupCosets': WHATEVER THE INPUT: true; the input reads as it did. -/
def groupCosetsSpec : ChangeSpec := { name := "groupCosets", fn := fun _ => fun
  | [d1, d2] => { results := [.lit (.bool true)], args := [d1, d2] }
  | _ => none }
def groupCosetsRow : OpenClaim := { program := "ytedehmknijlgpaadoor", sum := "af3e1557c51583bb5b97d914d154a4843c6001849d70bb03b44648780fd09427", func := "handlebody/handlebodylaw3.GroupCosets", spec := "groupCosets", inPlace := ["internal/reflectlite.ValueOf", "(internal/reflectlite.Value).Type", "(internal/reflectlite.Value).IsNil", "internal/reflectlite.TypeOf", "(internal/reflectlite.Value).Elem", "(internal/reflectlite.Value).Set"], unfollowed := true, recurses := true, named := ["handlebody/api.ErrBound", "handlebody/api.ErrShape", "handlebody/api.ErrText", "handlebody/api.ErrFace", "handlebody/api.ErrName", "handlebody/api.ErrNone", "handlebody/api.ErrOrder", "handlebody/api.ErrKind", "errors.errorType"], apart := false, laid := [("errors.errorType", laid_errors_errorType), ("handlebody/api.ErrText", laid_handlebody_api_ErrText), ("handlebody/api.ErrBound", laid_handlebody_api_ErrBound), ("handlebody/api.ErrShape", laid_handlebody_api_ErrShape), ("handlebody/api.ErrFace", laid_handlebody_api_ErrFace), ("handlebody/api.ErrName", laid_handlebody_api_ErrName), ("handlebody/api.ErrNone", laid_handlebody_api_ErrNone), ("handlebody/api.ErrOrder", laid_handlebody_api_ErrOrder), ("handlebody/api.ErrKind", laid_handlebody_api_ErrKind)] }
def GroupCosetsSaid : Prop := groupCosetsRow.holds Tryd.pinned (OpenSpec.ofChange groupCosetsSpec)

/-- ITS FALSE NEIGHBOUR: 'it returns false'. Refute it at one input. -/
def groupCosetsWrong : ChangeSpec := { name := "groupCosets", fn := fun _ => fun
  | [d1, d2] => { results := [.lit (.bool false)], args := [d1, d2] }
  | _ => none }
def GroupCosetsWrongFalsely : Prop := groupCosetsRow.holds Tryd.pinned (OpenSpec.ofChange groupCosetsWrong)

/-- 'handlebodylaw3.GroupSubgroups': WHATEVER THE INPUT: true; the input reads as it did. -/
def groupSubgroupsSpec : ChangeSpec := { name := "groupSubgroups", fn := fun _ => fun
  | [d1, d2] => { results := [.lit (.bool true)], args := [d1, d2] }
  | _ => none }
def groupSubgroupsRow : OpenClaim := { program := "ytedehmknijlgpaadoor", sum := "af3e1557c51583bb5b97d914d154a4843c6001849d70bb03b44648780fd09427", func := "handlebody/handlebodylaw3.GroupSubgroups", spec := "groupSubgroups", inPlace := ["internal/reflectlite.ValueOf", "(internal/reflectlite.Value).Type", "(internal/reflectlite.Value).IsNil", "internal/reflectlite.TypeOf", "(internal/reflectlite.Value).Elem", "(internal/reflectlite.Value).Set"], unfollowed := true, recurses := true, named := ["handlebody/api.ErrBound", "handlebody/api.ErrShape", "handlebody/api.ErrText", "handlebody/api.ErrFace", "handlebody/api.ErrName", "handlebody/api.ErrNone", "handlebody/api.ErrOrder", "handlebody/api.ErrKind", "errors.errorType"], apart := false, laid := [("errors.errorType", laid_errors_errorType), ("handlebody/api.ErrText", laid_handlebody_api_ErrText), ("handlebody/api.ErrBound", laid_handlebody_api_ErrBound), ("handlebody/api.ErrShape", laid_handlebody_api_ErrShape), ("handlebody/api.ErrFace", laid_handlebody_api_ErrFace), ("handlebody/api.ErrName", laid_handlebody_api_ErrName), ("handlebody/api.ErrNone", laid_handlebody_api_ErrNone), ("handlebody/api.ErrOrder", laid_handlebody_api_ErrOrder), ("handlebody/api.ErrKind", laid_handlebody_api_ErrKind)] }
def GroupSubgroupsSaid : Prop := groupSubgroupsRow.holds Tryd.pinned (OpenSpec.ofChange groupSubgroupsSpec)

/-- ITS FALSE NEIGHBOUR: 'it returns false'. Refute it at one input. -/
def groupSubgroupsWrong : ChangeSpec := { name := "groupSubgroups", fn := fun _ => fun
  | [d1, d2] => { results := [.lit (.bool false)], args := [d1, d2] }
  | _ => none }
def GroupSubgroupsWrongFalsely : Prop := groupSubgroupsRow.holds Tryd.pinned (OpenSpec.ofChange groupSubgroupsWrong)

/- THE SECOND FORM. 'bulk': how many values and letters a reading holds, each counted each time it is reached (what is shared counts as often as it is met; a slice's spare places count too). A statement '..UptoSaid' is the law's where the arguments, and the package variables that the reading takes, are together of bulk at most 1048576: NARROWER than '..Said'. Prove '..Said' where nothing that the law and all that it calls make is longer than what came in: it says more and counts as full. Else prove '..UptoSaid'. A law counts once. -/
mutual
def uptoBulk {H : Type} : DataW H → Nat
  | .lit (.string bytes) => bytes.length + 1
  | .lit _ => 1
  | .nil => 1
  | .ptr d => uptoBulk d + 1
  | .slice elems spare => uptoBulkAll elems + uptoBulkAll spare + 1
  | .agg parts => uptoBulkAll parts + 1
  | .iface _ d => uptoBulk d + 1
  | .map entries => uptoBulkEntries entries + 1
  | .held _ => 1
def uptoBulkAll {H : Type} : List (DataW H) → Nat
  | [] => 0
  | d :: r => uptoBulk d + uptoBulkAll r
def uptoBulkEntries {H : Type} : List (Lit × DataW H) → Nat
  | [] => 0
  | x :: r => uptoBulkEntry x + uptoBulkEntries r
def uptoBulkEntry {H : Type} : Lit × DataW H → Nat
  | (.string bytes, d) => bytes.length + uptoBulk d + 1
  | (_, d) => uptoBulk d + 1
 end
def uptoSmall : (H : Type) → List (DataW H) → Bool := fun _ ds => decide (uptoBulkAll ds ≤ 1048576)
def OpenSpec.upto (s : _root_.Go.ChangeSpec) : _root_.Go.OpenSpec := { _root_.Go.OpenSpec.ofChange s with cond := some uptoSmall }

/-- 'handlebodylaw3.GroupTables', WHERE WHAT IT READS IS OF BULK AT MOST 1048576: true; the input reads as it did. -/
def groupTablesUptoRow : OpenClaim := { program := "ytedehmknijlgpaadoor", sum := "af3e1557c51583bb5b97d914d154a4843c6001849d70bb03b44648780fd09427", func := "handlebody/handlebodylaw3.GroupTables", spec := "groupTables", unfollowed := true, recurses := true, named := ["handlebody/api.ErrBound", "handlebody/api.ErrShape"], apart := false, laid := [("handlebody/api.ErrBound", laid_handlebody_api_ErrBound), ("handlebody/api.ErrShape", laid_handlebody_api_ErrShape)], narrowed := true }
def GroupTablesUptoSaid : Prop := groupTablesUptoRow.holds Tryd.pinned (OpenSpec.upto groupTablesSpec)

/-- 'handlebodylaw3.GroupCosets', WHERE WHAT IT READS IS OF BULK AT MOST 1048576: true; the input reads as it did. -/
def groupCosetsUptoRow : OpenClaim := { program := "ytedehmknijlgpaadoor", sum := "af3e1557c51583bb5b97d914d154a4843c6001849d70bb03b44648780fd09427", func := "handlebody/handlebodylaw3.GroupCosets", spec := "groupCosets", inPlace := ["internal/reflectlite.ValueOf", "(internal/reflectlite.Value).Type", "(internal/reflectlite.Value).IsNil", "internal/reflectlite.TypeOf", "(internal/reflectlite.Value).Elem", "(internal/reflectlite.Value).Set"], unfollowed := true, recurses := true, named := ["handlebody/api.ErrBound", "handlebody/api.ErrShape", "handlebody/api.ErrText", "handlebody/api.ErrFace", "handlebody/api.ErrName", "handlebody/api.ErrNone", "handlebody/api.ErrOrder", "handlebody/api.ErrKind", "errors.errorType"], apart := false, laid := [("errors.errorType", laid_errors_errorType), ("handlebody/api.ErrText", laid_handlebody_api_ErrText), ("handlebody/api.ErrBound", laid_handlebody_api_ErrBound), ("handlebody/api.ErrShape", laid_handlebody_api_ErrShape), ("handlebody/api.ErrFace", laid_handlebody_api_ErrFace), ("handlebody/api.ErrName", laid_handlebody_api_ErrName), ("handlebody/api.ErrNone", laid_handlebody_api_ErrNone), ("handlebody/api.ErrOrder", laid_handlebody_api_ErrOrder), ("handlebody/api.ErrKind", laid_handlebody_api_ErrKind)], narrowed := true }
def GroupCosetsUptoSaid : Prop := groupCosetsUptoRow.holds Tryd.pinned (OpenSpec.upto groupCosetsSpec)

/-- 'handlebodylaw3.GroupSubgroups', WHERE WHAT IT READS IS OF BULK AT MOST 1048576: true; the input reads as it did. -/
def groupSubgroupsUptoRow : OpenClaim := { program := "ytedehmknijlgpaadoor", sum := "af3e1557c51583bb5b97d914d154a4843c6001849d70bb03b44648780fd09427", func := "handlebody/handlebodylaw3.GroupSubgroups", spec := "groupSubgroups", inPlace := ["internal/reflectlite.ValueOf", "(internal/reflectlite.Value).Type", "(internal/reflectlite.Value).IsNil", "internal/reflectlite.TypeOf", "(internal/reflectlite.Value).Elem", "(internal/reflectlite.Value).Set"], unfollowed := true, recurses := true, named := ["handlebody/api.ErrBound", "handlebody/api.ErrShape", "handlebody/api.ErrText", "handlebody/api.ErrFace", "handlebody/api.ErrName", "handlebody/api.ErrNone", "handlebody/api.ErrOrder", "handlebody/api.ErrKind", "errors.errorType"], apart := false, laid := [("errors.errorType", laid_errors_errorType), ("handlebody/api.ErrText", laid_handlebody_api_ErrText), ("handlebody/api.ErrBound", laid_handlebody_api_ErrBound), ("handlebody/api.ErrShape", laid_handlebody_api_ErrShape), ("handlebody/api.ErrFace", laid_handlebody_api_ErrFace), ("handlebody/api.ErrName", laid_handlebody_api_ErrName), ("handlebody/api.ErrNone", laid_handlebody_api_ErrNone), ("handlebody/api.ErrOrder", laid_handlebody_api_ErrOrder), ("handlebody/api.ErrKind", laid_handlebody_api_ErrKind)], narrowed := true }
def GroupSubgroupsUptoSaid : Prop := groupSubgroupsUptoRow.holds Tryd.pinned (OpenSpec.upto groupSubgroupsSpec)

end Rows
end Go.Proofs.YtedehmknijlgpaaDoor
