/-
  NARROWER THAN 'FOR EVERY INPUT', by the rows' own cells (each row's printed sentence says how): LabelOdd: laid · LabelTucker: laid.
  DERIVED. THE GIVEN ROWS OF THIS SEAT. 2 by the template 'for every input the law returns true; each argument reads behind the call as it read before'; 0 by the template 'total and deterministic' (their statements: YtnijedeopnjklaaDoorTotals.lean).
  GIVEN WITH THE SEED: the statements are not yours to turn. If you find one false, say at which input.
  Laid BY PROGRAM, IN A SANDBOX (cutbox-rows.mjs): the forced cells as the released guide's own fill.sh prints them over the translation a7b8838a9e8c0a4a… (all of the seat's roots in one cut). By AI agents, Wed Nov 11 2026. No macro, syntax, notation, axiom, sorry.
-/
import Derived.Test.YtnijedeopnjklaaDoorChecked
import GoSem.Claim
import GoSem.ClaimJoined
import GoSem.ClaimMapViews
import Derived.JoinedTies
import Derived.KernelRfl
namespace Go.Proofs.YtnijedeopnjklaaDoor
/- THE CELL 'sum', in the pinned program and in every row, IS THE sha256 OF THE DUMP (.gsa) THAT YtnijedeopnjklaaDoorProg.lean LOADS. Nothing in Lean hashes anything: it is a label: what it is worth is what the hold of that sum in a sandbox is worth. -/
noncomputable def Tryd.pinned : Pinned := { name := "ytnijedeopnjklaadoor", sum := "a7b8838a9e8c0a4a6f73083e1890d3f79e0c3246d7a9fdd172c2925eba09a67d", checked := Tryd.checked }
namespace Rows
def none {H : Type} : Left H := { results := [], args := [] }

/- WHAT THE LISTED PACKAGE-LEVEL VARIABLES READ AS WHEN THE CALL BEGINS. Each datum BY PROGRAM (the guide's laid-datum.mjs) off the statement by which the dump's own 'gosem.cut.vars' lays the variable. In a bare row this is a premise. The card (YtnijedeopnjklaaDoorCards.lean) ties it to the program's text. -/
def laid_handlebody_api_ErrBound {H : Type} : DataW H := .iface "*errors.errorString" (.ptr (.agg [.lit (.string [104, 97, 110, 100, 108, 101, 98, 111, 100, 121, 58, 32, 98, 111, 117, 110, 100])]))
def laid_handlebody_api_ErrShape {H : Type} : DataW H := .iface "*errors.errorString" (.ptr (.agg [.lit (.string [104, 97, 110, 100, 108, 101, 98, 111, 100, 121, 58, 32, 115, 104, 97, 112, 101])]))
def laid_handlebody_api_ErrKind {H : Type} : DataW H := .iface "*errors.errorString" (.ptr (.agg [.lit (.string [104, 97, 110, 100, 108, 101, 98, 111, 100, 121, 58, 32, 107, 105, 110, 100])]))
def laid_errors_errorType {H : Type} : DataW H := .iface "internal/reflectlite.rtype" (.agg [.ptr (.lit (.string [101, 114, 114, 111, 114]))])
def laid_handlebody_api_ErrText {H : Type} : DataW H := .iface "*errors.errorString" (.ptr (.agg [.lit (.string [104, 97, 110, 100, 108, 101, 98, 111, 100, 121, 58, 32, 116, 101, 120, 116])]))
def laid_handlebody_api_ErrFace {H : Type} : DataW H := .iface "*errors.errorString" (.ptr (.agg [.lit (.string [104, 97, 110, 100, 108, 101, 98, 111, 100, 121, 58, 32, 102, 97, 99, 101])]))
def laid_handlebody_api_ErrName {H : Type} : DataW H := .iface "*errors.errorString" (.ptr (.agg [.lit (.string [104, 97, 110, 100, 108, 101, 98, 111, 100, 121, 58, 32, 110, 97, 109, 101])]))
def laid_handlebody_api_ErrNone {H : Type} : DataW H := .iface "*errors.errorString" (.ptr (.agg [.lit (.string [104, 97, 110, 100, 108, 101, 98, 111, 100, 121, 58, 32, 110, 111, 110, 101])]))
def laid_handlebody_api_ErrOrder {H : Type} : DataW H := .iface "*errors.errorString" (.ptr (.agg [.lit (.string [104, 97, 110, 100, 108, 101, 98, 111, 100, 121, 58, 32, 111, 114, 100, 101, 114])]))

/-- 'handlebodylaw4.LabelOdd': WHATEVER THE INPUT: true; the input reads as it did. -/
def labelOddSpec : ChangeSpec := { name := "labelOdd", fn := fun _ => fun
  | [d1, d2] => { results := [.lit (.bool true)], args := [d1, d2] }
  | _ => none }
def labelOddRow : OpenClaim := { program := "ytnijedeopnjklaadoor", sum := "a7b8838a9e8c0a4a6f73083e1890d3f79e0c3246d7a9fdd172c2925eba09a67d", func := "handlebody/handlebodylaw4.LabelOdd", spec := "labelOdd", unfollowed := true, recurses := true, named := ["handlebody/api.ErrBound", "handlebody/api.ErrShape", "handlebody/api.ErrKind"], apart := false, laid := [("handlebody/api.ErrBound", laid_handlebody_api_ErrBound), ("handlebody/api.ErrShape", laid_handlebody_api_ErrShape), ("handlebody/api.ErrKind", laid_handlebody_api_ErrKind)] }
def LabelOddSaid : Prop := labelOddRow.holds Tryd.pinned (OpenSpec.ofChange labelOddSpec)

/-- ITS FALSE NEIGHBOUR: 'it returns false'. Refute it at one input. -/
def labelOddWrong : ChangeSpec := { name := "labelOdd", fn := fun _ => fun
  | [d1, d2] => { results := [.lit (.bool false)], args := [d1, d2] }
  | _ => none }
def LabelOddWrongFalsely : Prop := labelOddRow.holds Tryd.pinned (OpenSpec.ofChange labelOddWrong)

/-- 'handlebodylaw4.LabelTucker': WHATEVER THE INPUT: true; the input reads as it did. -/
def labelTuckerSpec : ChangeSpec := { name := "labelTucker", fn := fun _ => fun
  | [d1, d2] => { results := [.lit (.bool true)], args := [d1, d2] }
  | _ => none }
def labelTuckerRow : OpenClaim := { program := "ytnijedeopnjklaadoor", sum := "a7b8838a9e8c0a4a6f73083e1890d3f79e0c3246d7a9fdd172c2925eba09a67d", func := "handlebody/handlebodylaw4.LabelTucker", spec := "labelTucker", inPlace := ["internal/reflectlite.ValueOf", "(internal/reflectlite.Value).Type", "(internal/reflectlite.Value).IsNil", "internal/reflectlite.TypeOf", "(internal/reflectlite.Value).Elem", "(internal/reflectlite.Value).Set"], unfollowed := true, recurses := true, named := ["handlebody/api.ErrBound", "handlebody/api.ErrShape", "handlebody/api.ErrKind", "handlebody/api.ErrText", "handlebody/api.ErrFace", "handlebody/api.ErrName", "handlebody/api.ErrNone", "handlebody/api.ErrOrder", "errors.errorType"], apart := false, laid := [("errors.errorType", laid_errors_errorType), ("handlebody/api.ErrText", laid_handlebody_api_ErrText), ("handlebody/api.ErrBound", laid_handlebody_api_ErrBound), ("handlebody/api.ErrShape", laid_handlebody_api_ErrShape), ("handlebody/api.ErrFace", laid_handlebody_api_ErrFace), ("handlebody/api.ErrName", laid_handlebody_api_ErrName), ("handlebody/api.ErrNone", laid_handlebody_api_ErrNone), ("handlebody/api.ErrOrder", laid_handlebody_api_ErrOrder), ("handlebody/api.ErrKind", laid_handlebody_api_ErrKind)] }
def LabelTuckerSaid : Prop := labelTuckerRow.holds Tryd.pinned (OpenSpec.ofChange labelTuckerSpec)

/-- ITS FALSE NEIGHBOUR: 'it returns false'. Refute it at one input. -/
def labelTuckerWrong : ChangeSpec := { name := "labelTucker", fn := fun _ => fun
  | [d1, d2] => { results := [.lit (.bool false)], args := [d1, d2] }
  | _ => none }
def LabelTuckerWrongFalsely : Prop := labelTuckerRow.holds Tryd.pinned (OpenSpec.ofChange labelTuckerWrong)

/- THE SECOND FORM. 'bulk': how many values and letters a reading holds, each counted each time it is reached (what is shared counts as often as it is met; a slice's spare places count too). A statement '..UptoSaid' is the law's where the arguments, and the package variables that the reading takes, are together of bulk at most 1048576: NARROWER than '..Said'. Prove '..Said' where nothing that the law and all that it calls make is longer than what came in: it says more and counts as full. Else prove '..UptoSaid'. A law counts once. -/
mutual
def uptoBulk {H : Type} : DataW H → Nat
  | .lit (.string bytes) => bytes.length + 1
  | .lit _ => 1
  | .nil => 1
  | .ptr d => uptoBulk d + 1
  | .slice elems spare => uptoBulkAll elems + uptoBulkAll spare + 1
  | .agg parts => uptoBulkAll parts + 1
  | .iface _ d => uptoBulk d + 1
  | .map entries => uptoBulkEntries entries + 1
  | .held _ => 1
def uptoBulkAll {H : Type} : List (DataW H) → Nat
  | [] => 0
  | d :: r => uptoBulk d + uptoBulkAll r
def uptoBulkEntries {H : Type} : List (Lit × DataW H) → Nat
  | [] => 0
  | x :: r => uptoBulkEntry x + uptoBulkEntries r
def uptoBulkEntry {H : Type} : Lit × DataW H → Nat
  | (.string bytes, d) => bytes.length + uptoBulk d + 1
  | (_, d) => uptoBulk d + 1
 end
def uptoSmall : (H : Type) → List (DataW H) → Bool := fun _ ds => decide (uptoBulkAll ds ≤ 1048576)
def OpenSpec.upto (s : _root_.Go.ChangeSpec) : _root_.Go.OpenSpec := { _root_.Go.OpenSpec.ofChange s with cond := some uptoSmall }

/-- 'handlebodylaw4.LabelOdd', WHERE WHAT IT READS IS OF BULK AT MOST 1048576: true; the input reads as it did. -/
def labelOddUptoRow : OpenClaim := { program := "ytnijedeopnjklaadoor", sum := "a7b8838a9e8c0a4a6f73083e1890d3f79e0c3246d7a9fdd172c2925eba09a67d", func := "handlebody/handlebodylaw4.LabelOdd", spec := "labelOdd", unfollowed := true, recurses := true, named := ["handlebody/api.ErrBound", "handlebody/api.ErrShape", "handlebody/api.ErrKind"], apart := false, laid := [("handlebody/api.ErrBound", laid_handlebody_api_ErrBound), ("handlebody/api.ErrShape", laid_handlebody_api_ErrShape), ("handlebody/api.ErrKind", laid_handlebody_api_ErrKind)], narrowed := true }
def LabelOddUptoSaid : Prop := labelOddUptoRow.holds Tryd.pinned (OpenSpec.upto labelOddSpec)

/-- 'handlebodylaw4.LabelTucker', WHERE WHAT IT READS IS OF BULK AT MOST 1048576: true; the input reads as it did. -/
def labelTuckerUptoRow : OpenClaim := { program := "ytnijedeopnjklaadoor", sum := "a7b8838a9e8c0a4a6f73083e1890d3f79e0c3246d7a9fdd172c2925eba09a67d", func := "handlebody/handlebodylaw4.LabelTucker", spec := "labelTucker", inPlace := ["internal/reflectlite.ValueOf", "(internal/reflectlite.Value).Type", "(internal/reflectlite.Value).IsNil", "internal/reflectlite.TypeOf", "(internal/reflectlite.Value).Elem", "(internal/reflectlite.Value).Set"], unfollowed := true, recurses := true, named := ["handlebody/api.ErrBound", "handlebody/api.ErrShape", "handlebody/api.ErrKind", "handlebody/api.ErrText", "handlebody/api.ErrFace", "handlebody/api.ErrName", "handlebody/api.ErrNone", "handlebody/api.ErrOrder", "errors.errorType"], apart := false, laid := [("errors.errorType", laid_errors_errorType), ("handlebody/api.ErrText", laid_handlebody_api_ErrText), ("handlebody/api.ErrBound", laid_handlebody_api_ErrBound), ("handlebody/api.ErrShape", laid_handlebody_api_ErrShape), ("handlebody/api.ErrFace", laid_handlebody_api_ErrFace), ("handlebody/api.ErrName", laid_handlebody_api_ErrName), ("handlebody/api.ErrNone", laid_handlebody_api_ErrNone), ("handlebody/api.ErrOrder", laid_handlebody_api_ErrOrder), ("handlebody/api.ErrKind", laid_handlebody_api_ErrKind)], narrowed := true }
def LabelTuckerUptoSaid : Prop := labelTuckerUptoRow.holds Tryd.pinned (OpenSpec.upto labelTuckerSpec)

end Rows
end Go.Proofs.YtnijedeopnjklaaDoor
