/-
  NARROWER THAN 'FOR EVERY INPUT', by the rows' own cells (each row's printed sentence says how): ReebMerges: laid · IndexHeights: laid · IndexMaps: laid.
  DERIVED. THE GIVEN ROWS OF THIS SEAT. 3 by the template 'for every input the law returns true; each argument reads behind the call as it read before'; 0 by the template 'total and deterministic' (their statements: YtddnjimpdidpaaaGreatDoorTotals.lean).
  GIVEN WITH THE SEED: the statements are not yours to turn. If you find one false, say at which input.
  Laid BY PROGRAM, IN A SANDBOX (cutbox-rows.mjs): the forced cells as the released guide's own fill.sh prints them over the translation 5330e9dc239fcc9e… (all of the seat's roots in one cut). By AI agents, Wed Nov 11 2026. No macro, syntax, notation, axiom, sorry.
-/
import Derived.Test.YtddnjimpdidpaaaGreatDoorChecked
import GoSem.Claim
import GoSem.ClaimJoined
import GoSem.ClaimMapViews
import Derived.JoinedTies
import Derived.KernelRfl
namespace Go.Proofs.YtddnjimpdidpaaaGreatDoor
/- THE CELL 'sum', in the pinned program and in every row, IS THE sha256 OF THE DUMP (.gsa) THAT YtddnjimpdidpaaaGreatDoorProg.lean LOADS. Nothing in Lean hashes anything: it is a label: what it is worth is what the hold of that sum in a sandbox is worth. -/
noncomputable def Tryz.pinned : Pinned := { name := "ytddnjimpdidpaaagreatdoor", sum := "5330e9dc239fcc9e0463311c9d1227175c9c8a1450f0b4c11af239a91c7e2414", checked := Tryz.checked }
namespace Rows
def none {H : Type} : Left H := { results := [], args := [] }

/- WHAT THE LISTED PACKAGE-LEVEL VARIABLES READ AS WHEN THE CALL BEGINS. Each datum BY PROGRAM (the guide's laid-datum.mjs) off the statement by which the dump's own 'gosem.cut.vars' lays the variable. In a bare row this is a premise. The card (YtddnjimpdidpaaaGreatDoorCards.lean) ties it to the program's text. -/
def laid_errors_errorType {H : Type} : DataW H := .iface "internal/reflectlite.rtype" (.agg [.ptr (.lit (.string [101, 114, 114, 111, 114]))])
def laid_handlebody_api_ErrText {H : Type} : DataW H := .iface "*errors.errorString" (.ptr (.agg [.lit (.string [104, 97, 110, 100, 108, 101, 98, 111, 100, 121, 58, 32, 116, 101, 120, 116])]))
def laid_handlebody_api_ErrBound {H : Type} : DataW H := .iface "*errors.errorString" (.ptr (.agg [.lit (.string [104, 97, 110, 100, 108, 101, 98, 111, 100, 121, 58, 32, 98, 111, 117, 110, 100])]))
def laid_handlebody_api_ErrShape {H : Type} : DataW H := .iface "*errors.errorString" (.ptr (.agg [.lit (.string [104, 97, 110, 100, 108, 101, 98, 111, 100, 121, 58, 32, 115, 104, 97, 112, 101])]))
def laid_handlebody_api_ErrFace {H : Type} : DataW H := .iface "*errors.errorString" (.ptr (.agg [.lit (.string [104, 97, 110, 100, 108, 101, 98, 111, 100, 121, 58, 32, 102, 97, 99, 101])]))
def laid_handlebody_api_ErrName {H : Type} : DataW H := .iface "*errors.errorString" (.ptr (.agg [.lit (.string [104, 97, 110, 100, 108, 101, 98, 111, 100, 121, 58, 32, 110, 97, 109, 101])]))
def laid_handlebody_api_ErrNone {H : Type} : DataW H := .iface "*errors.errorString" (.ptr (.agg [.lit (.string [104, 97, 110, 100, 108, 101, 98, 111, 100, 121, 58, 32, 110, 111, 110, 101])]))
def laid_handlebody_api_ErrOrder {H : Type} : DataW H := .iface "*errors.errorString" (.ptr (.agg [.lit (.string [104, 97, 110, 100, 108, 101, 98, 111, 100, 121, 58, 32, 111, 114, 100, 101, 114])]))
def laid_handlebody_api_ErrKind {H : Type} : DataW H := .iface "*errors.errorString" (.ptr (.agg [.lit (.string [104, 97, 110, 100, 108, 101, 98, 111, 100, 121, 58, 32, 107, 105, 110, 100])]))

/-- 'handlebodylaw5.ReebMerges': WHATEVER THE INPUT: true; the input reads as it did. -/
def reebMergesSpec : ChangeSpec := { name := "reebMerges", fn := fun _ => fun
  | [d1, d2] => { results := [.lit (.bool true)], args := [d1, d2] }
  | _ => none }
def reebMergesRow : OpenClaim := { program := "ytddnjimpdidpaaagreatdoor", sum := "5330e9dc239fcc9e0463311c9d1227175c9c8a1450f0b4c11af239a91c7e2414", func := "handlebody/handlebodylaw5.ReebMerges", spec := "reebMerges", inPlace := ["internal/reflectlite.ValueOf", "(internal/reflectlite.Value).Type", "(internal/reflectlite.Value).IsNil", "internal/reflectlite.TypeOf", "(internal/reflectlite.Value).Elem", "(internal/reflectlite.Value).Set"], unfollowed := true, recurses := true, named := ["handlebody/api.ErrShape", "handlebody/api.ErrFace", "handlebody/api.ErrBound", "handlebody/api.ErrText", "handlebody/api.ErrName", "handlebody/api.ErrNone", "handlebody/api.ErrOrder", "handlebody/api.ErrKind", "errors.errorType"], apart := false, laid := [("errors.errorType", laid_errors_errorType), ("handlebody/api.ErrText", laid_handlebody_api_ErrText), ("handlebody/api.ErrBound", laid_handlebody_api_ErrBound), ("handlebody/api.ErrShape", laid_handlebody_api_ErrShape), ("handlebody/api.ErrFace", laid_handlebody_api_ErrFace), ("handlebody/api.ErrName", laid_handlebody_api_ErrName), ("handlebody/api.ErrNone", laid_handlebody_api_ErrNone), ("handlebody/api.ErrOrder", laid_handlebody_api_ErrOrder), ("handlebody/api.ErrKind", laid_handlebody_api_ErrKind)] }
def ReebMergesSaid : Prop := reebMergesRow.holds Tryz.pinned (OpenSpec.ofChange reebMergesSpec)

/-- ITS FALSE NEIGHBOUR: 'it returns false'. Refute it at one input. -/
def reebMergesWrong : ChangeSpec := { name := "reebMerges", fn := fun _ => fun
  | [d1, d2] => { results := [.lit (.bool false)], args := [d1, d2] }
  | _ => none }
def ReebMergesWrongFalsely : Prop := reebMergesRow.holds Tryz.pinned (OpenSpec.ofChange reebMergesWrong)

/-- 'handlebodylaw5.IndexHeights': WHATEVER THE INPUT: true; the input reads as it did. -/
def indexHeightsSpec : ChangeSpec := { name := "indexHeights", fn := fun _ => fun
  | [d1, d2] => { results := [.lit (.bool true)], args := [d1, d2] }
  | _ => none }
def indexHeightsRow : OpenClaim := { program := "ytddnjimpdidpaaagreatdoor", sum := "5330e9dc239fcc9e0463311c9d1227175c9c8a1450f0b4c11af239a91c7e2414", func := "handlebody/handlebodylaw5.IndexHeights", spec := "indexHeights", inPlace := ["internal/reflectlite.ValueOf", "(internal/reflectlite.Value).Type", "(internal/reflectlite.Value).IsNil", "internal/reflectlite.TypeOf", "(internal/reflectlite.Value).Elem", "(internal/reflectlite.Value).Set"], unfollowed := true, recurses := true, named := ["handlebody/api.ErrBound", "handlebody/api.ErrShape", "handlebody/api.ErrOrder", "handlebody/api.ErrFace", "handlebody/api.ErrText", "handlebody/api.ErrName", "handlebody/api.ErrNone", "handlebody/api.ErrKind", "errors.errorType"], apart := false, laid := [("errors.errorType", laid_errors_errorType), ("handlebody/api.ErrText", laid_handlebody_api_ErrText), ("handlebody/api.ErrBound", laid_handlebody_api_ErrBound), ("handlebody/api.ErrShape", laid_handlebody_api_ErrShape), ("handlebody/api.ErrFace", laid_handlebody_api_ErrFace), ("handlebody/api.ErrName", laid_handlebody_api_ErrName), ("handlebody/api.ErrNone", laid_handlebody_api_ErrNone), ("handlebody/api.ErrOrder", laid_handlebody_api_ErrOrder), ("handlebody/api.ErrKind", laid_handlebody_api_ErrKind)] }
def IndexHeightsSaid : Prop := indexHeightsRow.holds Tryz.pinned (OpenSpec.ofChange indexHeightsSpec)

/-- ITS FALSE NEIGHBOUR: 'it returns false'. Refute it at one input. -/
def indexHeightsWrong : ChangeSpec := { name := "indexHeights", fn := fun _ => fun
  | [d1, d2] => { results := [.lit (.bool false)], args := [d1, d2] }
  | _ => none }
def IndexHeightsWrongFalsely : Prop := indexHeightsRow.holds Tryz.pinned (OpenSpec.ofChange indexHeightsWrong)

/-- 'handlebodylaw5.IndexMaps': WHATEVER THE INPUT: true; the input reads as it did. -/
def indexMapsSpec : ChangeSpec := { name := "indexMaps", fn := fun _ => fun
  | [d1, d2, d3] => { results := [.lit (.bool true)], args := [d1, d2, d3] }
  | _ => none }
def indexMapsRow : OpenClaim := { program := "ytddnjimpdidpaaagreatdoor", sum := "5330e9dc239fcc9e0463311c9d1227175c9c8a1450f0b4c11af239a91c7e2414", func := "handlebody/handlebodylaw5.IndexMaps", spec := "indexMaps", inPlace := ["internal/reflectlite.ValueOf", "(internal/reflectlite.Value).Type", "(internal/reflectlite.Value).IsNil", "internal/reflectlite.TypeOf", "(internal/reflectlite.Value).Elem", "(internal/reflectlite.Value).Set"], unfollowed := true, recurses := true, named := ["handlebody/api.ErrBound", "handlebody/api.ErrShape", "handlebody/api.ErrOrder", "handlebody/api.ErrFace", "handlebody/api.ErrText", "handlebody/api.ErrName", "handlebody/api.ErrNone", "handlebody/api.ErrKind", "errors.errorType"], apart := false, laid := [("errors.errorType", laid_errors_errorType), ("handlebody/api.ErrText", laid_handlebody_api_ErrText), ("handlebody/api.ErrBound", laid_handlebody_api_ErrBound), ("handlebody/api.ErrShape", laid_handlebody_api_ErrShape), ("handlebody/api.ErrFace", laid_handlebody_api_ErrFace), ("handlebody/api.ErrName", laid_handlebody_api_ErrName), ("handlebody/api.ErrNone", laid_handlebody_api_ErrNone), ("handlebody/api.ErrOrder", laid_handlebody_api_ErrOrder), ("handlebody/api.ErrKind", laid_handlebody_api_ErrKind)] }
def IndexMapsSaid : Prop := indexMapsRow.holds Tryz.pinned (OpenSpec.ofChange indexMapsSpec)

/-- ITS FALSE NEIGHBOUR: 'it returns false'. Refute it at one input. -/
def indexMapsWrong : ChangeSpec := { name := "indexMaps", fn := fun _ => fun
  | [d1, d2, d3] => { results := [.lit (.bool false)], args := [d1, d2, d3] }
  | _ => none }
def IndexMapsWrongFalsely : Prop := indexMapsRow.holds Tryz.pinned (OpenSpec.ofChange indexMapsWrong)

/- THE SECOND FORM. 'bulk': how many values and letters a reading holds, each counted each time it is reached (what is shared counts as often as it is met; a slice's spare places count too). A statement '..UptoSaid' is the law's where the arguments, and the package variables that the reading takes, are together of bulk at most 1048576: NARROWER than '..Said'. Prove '..Said' where nothing that the law and all that it calls make is longer than what came in: it says more and counts as full. Else prove '..UptoSaid'. A law counts once. -/
mutual
def uptoBulk {H : Type} : DataW H → Nat
  | .lit (.string bytes) => bytes.length + 1
  | .lit _ => 1
  | .nil => 1
  | .ptr d => uptoBulk d + 1
  | .slice elems spare => uptoBulkAll elems + uptoBulkAll spare + 1
  | .agg parts => uptoBulkAll parts + 1
  | .iface _ d => uptoBulk d + 1
  | .map entries => uptoBulkEntries entries + 1
  | .held _ => 1
def uptoBulkAll {H : Type} : List (DataW H) → Nat
  | [] => 0
  | d :: r => uptoBulk d + uptoBulkAll r
def uptoBulkEntries {H : Type} : List (Lit × DataW H) → Nat
  | [] => 0
  | x :: r => uptoBulkEntry x + uptoBulkEntries r
def uptoBulkEntry {H : Type} : Lit × DataW H → Nat
  | (.string bytes, d) => bytes.length + uptoBulk d + 1
  | (_, d) => uptoBulk d + 1
 end
def uptoSmall : (H : Type) → List (DataW H) → Bool := fun _ ds => decide (uptoBulkAll ds ≤ 1048576)
def OpenSpec.upto (s : _root_.Go.ChangeSpec) : _root_.Go.OpenSpec := { _root_.Go.OpenSpec.ofChange s with cond := some uptoSmall }

/-- 'handlebodylaw5.ReebMerges', WHERE WHAT IT READS IS OF BULK AT MOST 1048576: true; the input reads as it did. -/
def reebMergesUptoRow : OpenClaim := { program := "ytddnjimpdidpaaagreatdoor", sum := "5330e9dc239fcc9e0463311c9d1227175c9c8a1450f0b4c11af239a91c7e2414", func := "handlebody/handlebodylaw5.ReebMerges", spec := "reebMerges", inPlace := ["internal/reflectlite.ValueOf", "(internal/reflectlite.Value).Type", "(internal/reflectlite.Value).IsNil", "internal/reflectlite.TypeOf", "(internal/reflectlite.Value).Elem", "(internal/reflectlite.Value).Set"], unfollowed := true, recurses := true, named := ["handlebody/api.ErrShape", "handlebody/api.ErrFace", "handlebody/api.ErrBound", "handlebody/api.ErrText", "handlebody/api.ErrName", "handlebody/api.ErrNone", "handlebody/api.ErrOrder", "handlebody/api.ErrKind", "errors.errorType"], apart := false, laid := [("errors.errorType", laid_errors_errorType), ("handlebody/api.ErrText", laid_handlebody_api_ErrText), ("handlebody/api.ErrBound", laid_handlebody_api_ErrBound), ("handlebody/api.ErrShape", laid_handlebody_api_ErrShape), ("handlebody/api.ErrFace", laid_handlebody_api_ErrFace), ("handlebody/api.ErrName", laid_handlebody_api_ErrName), ("handlebody/api.ErrNone", laid_handlebody_api_ErrNone), ("handlebody/api.ErrOrder", laid_handlebody_api_ErrOrder), ("handlebody/api.ErrKind", laid_handlebody_api_ErrKind)], narrowed := true }
def ReebMergesUptoSaid : Prop := reebMergesUptoRow.holds Tryz.pinned (OpenSpec.upto reebMergesSpec)

/-- 'handlebodylaw5.IndexHeights', WHERE WHAT IT READS IS OF BULK AT MOST 1048576: true; the input reads as it did. -/
def indexHeightsUptoRow : OpenClaim := { program := "ytddnjimpdidpaaagreatdoor", sum := "5330e9dc239fcc9e0463311c9d1227175c9c8a1450f0b4c11af239a91c7e2414", func := "handlebody/handlebodylaw5.IndexHeights", spec := "indexHeights", inPlace := ["internal/reflectlite.ValueOf", "(internal/reflectlite.Value).Type", "(internal/reflectlite.Value).IsNil", "internal/reflectlite.TypeOf", "(internal/reflectlite.Value).Elem", "(internal/reflectlite.Value).Set"], unfollowed := true, recurses := true, named := ["handlebody/api.ErrBound", "handlebody/api.ErrShape", "handlebody/api.ErrOrder", "handlebody/api.ErrFace", "handlebody/api.ErrText", "handlebody/api.ErrName", "handlebody/api.ErrNone", "handlebody/api.ErrKind", "errors.errorType"], apart := false, laid := [("errors.errorType", laid_errors_errorType), ("handlebody/api.ErrText", laid_handlebody_api_ErrText), ("handlebody/api.ErrBound", laid_handlebody_api_ErrBound), ("handlebody/api.ErrShape", laid_handlebody_api_ErrShape), ("handlebody/api.ErrFace", laid_handlebody_api_ErrFace), ("handlebody/api.ErrName", laid_handlebody_api_ErrName), ("handlebody/api.ErrNone", laid_handlebody_api_ErrNone), ("handlebody/api.ErrOrder", laid_handlebody_api_ErrOrder), ("handlebody/api.ErrKind", laid_handlebody_api_ErrKind)], narrowed := true }
def IndexHeightsUptoSaid : Prop := indexHeightsUptoRow.holds Tryz.pinned (OpenSpec.upto indexHeightsSpec)

/-- 'handlebodylaw5.IndexMaps', WHERE WHAT IT READS IS OF BULK AT MOST 1048576: true; the input reads as it did. -/
def indexMapsUptoRow : OpenClaim := { program := "ytddnjimpdidpaaagreatdoor", sum := "5330e9dc239fcc9e0463311c9d1227175c9c8a1450f0b4c11af239a91c7e2414", func := "handlebody/handlebodylaw5.IndexMaps", spec := "indexMaps", inPlace := ["internal/reflectlite.ValueOf", "(internal/reflectlite.Value).Type", "(internal/reflectlite.Value).IsNil", "internal/reflectlite.TypeOf", "(internal/reflectlite.Value).Elem", "(internal/reflectlite.Value).Set"], unfollowed := true, recurses := true, named := ["handlebody/api.ErrBound", "handlebody/api.ErrShape", "handlebody/api.ErrOrder", "handlebody/api.ErrFace", "handlebody/api.ErrText", "handlebody/api.ErrName", "handlebody/api.ErrNone", "handlebody/api.ErrKind", "errors.errorType"], apart := false, laid := [("errors.errorType", laid_errors_errorType), ("handlebody/api.ErrText", laid_handlebody_api_ErrText), ("handlebody/api.ErrBound", laid_handlebody_api_ErrBound), ("handlebody/api.ErrShape", laid_handlebody_api_ErrShape), ("handlebody/api.ErrFace", laid_handlebody_api_ErrFace), ("handlebody/api.ErrName", laid_handlebody_api_ErrName), ("handlebody/api.ErrNone", laid_handlebody_api_ErrNone), ("handlebody/api.ErrOrder", laid_handlebody_api_ErrOrder), ("handlebody/api.ErrKind", laid_handlebody_api_ErrKind)], narrowed := true }
def IndexMapsUptoSaid : Prop := indexMapsUptoRow.holds Tryz.pinned (OpenSpec.upto indexMapsSpec)

end Rows
end Go.Proofs.YtddnjimpdidpaaaGreatDoor
