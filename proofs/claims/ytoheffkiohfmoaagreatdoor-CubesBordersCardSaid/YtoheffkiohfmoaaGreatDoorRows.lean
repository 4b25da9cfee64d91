/-
  NARROWER THAN 'FOR EVERY INPUT', by the rows' own cells (each row's printed sentence says how): MorseFree: laid · MorseChecks: laid · CubesBorders: laid.
  DERIVED. THE GIVEN ROWS OF THIS SEAT. 3 by the template 'for every input the law returns true; each argument reads behind the call as it read before'; 0 by the template 'total and deterministic' (their statements: YtoheffkiohfmoaaGreatDoorTotals.lean).
  GIVEN WITH THE SEED: the statements are not yours to turn. If you find one false, say at which input.
  Laid BY PROGRAM, IN A SANDBOX (cutbox-rows.mjs): the forced cells as the released guide's own fill.sh prints them over the translation 7531f0fc09e1f299… (all of the seat's roots in one cut). By AI agents, Wed Nov 11 2026. No macro, syntax, notation, axiom, sorry.
-/
import Derived.Test.YtoheffkiohfmoaaGreatDoorChecked
import GoSem.PinnedTables
import GoSem.Claim
import GoSem.ClaimJoined
import GoSem.ClaimMapViews
import Derived.JoinedTies
import Derived.KernelRfl
namespace Go.Proofs.YtoheffkiohfmoaaGreatDoor
/- THE CELL 'sum', in the pinned program and in every row, IS THE sha256 OF THE DUMP (.gsa) THAT YtoheffkiohfmoaaGreatDoorProg.lean LOADS. Nothing in Lean hashes anything: it is a label: what it is worth is what the hold of that sum in a sandbox is worth. -/
noncomputable def Tryz.pinned : Pinned := { name := "ytoheffkiohfmoaagreatdoor", sum := "7531f0fc09e1f2995a8487e77e58695b47cfaccbe850e49bf9f9f720c1c83a03", checked := Tryz.checked }
namespace Rows
def none {H : Type} : Left H := { results := [], args := [] }

/- WHAT THE LISTED PACKAGE-LEVEL VARIABLES READ AS WHEN THE CALL BEGINS. Each datum BY PROGRAM (the guide's laid-datum.mjs) off the statement by which the dump's own 'gosem.cut.vars' lays the variable. In a bare row this is a premise. The card (YtoheffkiohfmoaaGreatDoorCards.lean) ties it to the program's text. -/
def laid_errors_errorType {H : Type} : DataW H := .iface "internal/reflectlite.rtype" (.agg [.ptr (.lit (.string [101, 114, 114, 111, 114]))])
def laid_handlebody_api_ErrText {H : Type} : DataW H := .iface "*errors.errorString" (.ptr (.agg [.lit (.string [104, 97, 110, 100, 108, 101, 98, 111, 100, 121, 58, 32, 116, 101, 120, 116])]))
def laid_handlebody_api_ErrBound {H : Type} : DataW H := .iface "*errors.errorString" (.ptr (.agg [.lit (.string [104, 97, 110, 100, 108, 101, 98, 111, 100, 121, 58, 32, 98, 111, 117, 110, 100])]))
def laid_handlebody_api_ErrShape {H : Type} : DataW H := .iface "*errors.errorString" (.ptr (.agg [.lit (.string [104, 97, 110, 100, 108, 101, 98, 111, 100, 121, 58, 32, 115, 104, 97, 112, 101])]))
def laid_handlebody_api_ErrFace {H : Type} : DataW H := .iface "*errors.errorString" (.ptr (.agg [.lit (.string [104, 97, 110, 100, 108, 101, 98, 111, 100, 121, 58, 32, 102, 97, 99, 101])]))
def laid_handlebody_api_ErrName {H : Type} : DataW H := .iface "*errors.errorString" (.ptr (.agg [.lit (.string [104, 97, 110, 100, 108, 101, 98, 111, 100, 121, 58, 32, 110, 97, 109, 101])]))
def laid_handlebody_api_ErrNone {H : Type} : DataW H := .iface "*errors.errorString" (.ptr (.agg [.lit (.string [104, 97, 110, 100, 108, 101, 98, 111, 100, 121, 58, 32, 110, 111, 110, 101])]))
def laid_handlebody_api_ErrOrder {H : Type} : DataW H := .iface "*errors.errorString" (.ptr (.agg [.lit (.string [104, 97, 110, 100, 108, 101, 98, 111, 100, 121, 58, 32, 111, 114, 100, 101, 114])]))
def laid_handlebody_api_ErrKind {H : Type} : DataW H := .iface "*errors.errorString" (.ptr (.agg [.lit (.string [104, 97, 110, 100, 108, 101, 98, 111, 100, 121, 58, 32, 107, 105, 110, 100])]))
def laid_unicode_utf8_acceptRanges {H : Type} : DataW H := .agg [.agg [.lit (.int .u8 128), .lit (.int .u8 191)], .agg [.lit (.int .u8 160), .lit (.int .u8 191)], .agg [.lit (.int .u8 128), .lit (.int .u8 159)], .agg [.lit (.int .u8 144), .lit (.int .u8 191)], .agg [.lit (.int .u8 128), .lit (.int .u8 143)], .agg [.lit (.int .u8 0), .lit (.int .u8 0)], .agg [.lit (.int .u8 0), .lit (.int .u8 0)], .agg [.lit (.int .u8 0), .lit (.int .u8 0)], .agg [.lit (.int .u8 0), .lit (.int .u8 0)], .agg [.lit (.int .u8 0), .lit (.int .u8 0)], .agg [.lit (.int .u8 0), .lit (.int .u8 0)], .agg [.lit (.int .u8 0), .lit (.int .u8 0)], .agg [.lit (.int .u8 0), .lit (.int .u8 0)], .agg [.lit (.int .u8 0), .lit (.int .u8 0)], .agg [.lit (.int .u8 0), .lit (.int .u8 0)], .agg [.lit (.int .u8 0), .lit (.int .u8 0)]]
/-- One of Go's own tables, pinned by name: the form's constant. -/
def laid_unicode_utf8_first : DataW Unit := Go.Pinned.utf8First

/-- 'handlebodylaw2.MorseFree': WHATEVER THE INPUT: true; the input reads as it did. -/
def morseFreeSpec : ChangeSpec := { name := "morseFree", fn := fun _ => fun
  | [d1, d2] => { results := [.lit (.bool true)], args := [d1, d2] }
  | _ => none }
def morseFreeRow : OpenClaim := { program := "ytoheffkiohfmoaagreatdoor", sum := "7531f0fc09e1f2995a8487e77e58695b47cfaccbe850e49bf9f9f720c1c83a03", func := "handlebody/handlebodylaw2.MorseFree", spec := "morseFree", inPlace := ["internal/reflectlite.ValueOf", "(internal/reflectlite.Value).Type", "(internal/reflectlite.Value).IsNil", "internal/reflectlite.TypeOf", "(internal/reflectlite.Value).Elem", "(internal/reflectlite.Value).Set"], unfollowed := true, recurses := true, named := ["handlebody/api.ErrShape", "handlebody/api.ErrFace", "handlebody/api.ErrBound", "handlebody/api.ErrText", "handlebody/api.ErrName", "handlebody/api.ErrNone", "handlebody/api.ErrOrder", "handlebody/api.ErrKind", "errors.errorType"], plainKeys := false, apart := false, laid := [("errors.errorType", laid_errors_errorType), ("handlebody/api.ErrText", laid_handlebody_api_ErrText), ("handlebody/api.ErrBound", laid_handlebody_api_ErrBound), ("handlebody/api.ErrShape", laid_handlebody_api_ErrShape), ("handlebody/api.ErrFace", laid_handlebody_api_ErrFace), ("handlebody/api.ErrName", laid_handlebody_api_ErrName), ("handlebody/api.ErrNone", laid_handlebody_api_ErrNone), ("handlebody/api.ErrOrder", laid_handlebody_api_ErrOrder), ("handlebody/api.ErrKind", laid_handlebody_api_ErrKind)] }
def MorseFreeSaid : Prop := morseFreeRow.holds Tryz.pinned (OpenSpec.ofChange morseFreeSpec)

/-- ITS FALSE NEIGHBOUR: 'it returns false'. Refute it at one input. -/
def morseFreeWrong : ChangeSpec := { name := "morseFree", fn := fun _ => fun
  | [d1, d2] => { results := [.lit (.bool false)], args := [d1, d2] }
  | _ => none }
def MorseFreeWrongFalsely : Prop := morseFreeRow.holds Tryz.pinned (OpenSpec.ofChange morseFreeWrong)

/-- 'handlebodylaw2.MorseChecks': WHATEVER THE INPUT: true; the input reads as it did. -/
def morseChecksSpec : ChangeSpec := { name := "morseChecks", fn := fun _ => fun
  | [d1, d2, d3] => { results := [.lit (.bool true)], args := [d1, d2, d3] }
  | _ => none }
def morseChecksRow : OpenClaim := { program := "ytoheffkiohfmoaagreatdoor", sum := "7531f0fc09e1f2995a8487e77e58695b47cfaccbe850e49bf9f9f720c1c83a03", func := "handlebody/handlebodylaw2.MorseChecks", spec := "morseChecks", inPlace := ["internal/reflectlite.ValueOf", "(internal/reflectlite.Value).Type", "(internal/reflectlite.Value).IsNil", "internal/reflectlite.TypeOf", "(internal/reflectlite.Value).Elem", "(internal/reflectlite.Value).Set"], unfollowed := true, recurses := true, named := ["handlebody/api.ErrShape", "handlebody/api.ErrFace", "handlebody/api.ErrBound", "handlebody/api.ErrOrder", "handlebody/api.ErrText", "handlebody/api.ErrName", "handlebody/api.ErrNone", "handlebody/api.ErrKind", "errors.errorType"], plainKeys := false, apart := false, laid := [("errors.errorType", laid_errors_errorType), ("handlebody/api.ErrText", laid_handlebody_api_ErrText), ("handlebody/api.ErrBound", laid_handlebody_api_ErrBound), ("handlebody/api.ErrShape", laid_handlebody_api_ErrShape), ("handlebody/api.ErrFace", laid_handlebody_api_ErrFace), ("handlebody/api.ErrName", laid_handlebody_api_ErrName), ("handlebody/api.ErrNone", laid_handlebody_api_ErrNone), ("handlebody/api.ErrOrder", laid_handlebody_api_ErrOrder), ("handlebody/api.ErrKind", laid_handlebody_api_ErrKind)] }
def MorseChecksSaid : Prop := morseChecksRow.holds Tryz.pinned (OpenSpec.ofChange morseChecksSpec)

/-- ITS FALSE NEIGHBOUR: 'it returns false'. Refute it at one input. -/
def morseChecksWrong : ChangeSpec := { name := "morseChecks", fn := fun _ => fun
  | [d1, d2, d3] => { results := [.lit (.bool false)], args := [d1, d2, d3] }
  | _ => none }
def MorseChecksWrongFalsely : Prop := morseChecksRow.holds Tryz.pinned (OpenSpec.ofChange morseChecksWrong)

/-- 'handlebodylaw2.CubesBorders': WHATEVER THE INPUT: true; the input reads as it did. -/
def cubesBordersSpec : ChangeSpec := { name := "cubesBorders", fn := fun _ => fun
  | [d1, d2] => { results := [.lit (.bool true)], args := [d1, d2] }
  | _ => none }
def cubesBordersRow : OpenClaim := { program := "ytoheffkiohfmoaagreatdoor", sum := "7531f0fc09e1f2995a8487e77e58695b47cfaccbe850e49bf9f9f720c1c83a03", func := "handlebody/handlebodylaw2.CubesBorders", spec := "cubesBorders", inPlace := ["internal/bytealg.IndexByteString", "internal/bytealg.IndexString", "internal/reflectlite.ValueOf", "(internal/reflectlite.Value).Type", "(internal/reflectlite.Value).IsNil", "internal/reflectlite.TypeOf", "(internal/reflectlite.Value).Elem", "(internal/reflectlite.Value).Set"], unfollowed := true, recurses := true, named := ["handlebody/api.ErrBound", "handlebody/api.ErrShape", "handlebody/api.ErrText", "unicode/utf8.first", "unicode/utf8.acceptRanges", "handlebody/api.ErrFace", "handlebody/api.ErrName", "handlebody/api.ErrNone", "handlebody/api.ErrOrder", "handlebody/api.ErrKind", "errors.errorType", "internal/bytealg.MaxLen"], plainKeys := false, apart := false, laid := [("unicode/utf8.acceptRanges", laid_unicode_utf8_acceptRanges), ("errors.errorType", laid_errors_errorType), ("handlebody/api.ErrText", laid_handlebody_api_ErrText), ("handlebody/api.ErrBound", laid_handlebody_api_ErrBound), ("handlebody/api.ErrShape", laid_handlebody_api_ErrShape), ("handlebody/api.ErrFace", laid_handlebody_api_ErrFace), ("handlebody/api.ErrName", laid_handlebody_api_ErrName), ("handlebody/api.ErrNone", laid_handlebody_api_ErrNone), ("handlebody/api.ErrOrder", laid_handlebody_api_ErrOrder), ("handlebody/api.ErrKind", laid_handlebody_api_ErrKind), ("unicode/utf8.first", laid_unicode_utf8_first)] }
def CubesBordersSaid : Prop := cubesBordersRow.holds Tryz.pinned (OpenSpec.ofChange cubesBordersSpec)

/-- ITS FALSE NEIGHBOUR: 'it returns false'. Refute it at one input. -/
def cubesBordersWrong : ChangeSpec := { name := "cubesBorders", fn := fun _ => fun
  | [d1, d2] => { results := [.lit (.bool false)], args := [d1, d2] }
  | _ => none }
def CubesBordersWrongFalsely : Prop := cubesBordersRow.holds Tryz.pinned (OpenSpec.ofChange cubesBordersWrong)

/- THE SECOND FORM. 'bulk': how many values and letters a reading holds, each counted each time it is reached (what is shared counts as often as it is met; a slice's spare places count too). A statement '..UptoSaid' is the law's where the arguments, and the package variables that the reading takes, are together of bulk at most 1048576: NARROWER than '..Said'. Prove '..Said' where nothing that the law and all that it calls make is longer than what came in: it says more and counts as full. Else prove '..UptoSaid'. A law counts once. -/
mutual
def uptoBulk {H : Type} : DataW H → Nat
  | .lit (.string bytes) => bytes.length + 1
  | .lit _ => 1
  | .nil => 1
  | .ptr d => uptoBulk d + 1
  | .slice elems spare => uptoBulkAll elems + uptoBulkAll spare + 1
  | .agg parts => uptoBulkAll parts + 1
  | .iface _ d => uptoBulk d + 1
  | .map entries => uptoBulkEntries entries + 1
  | .held _ => 1
def uptoBulkAll {H : Type} : List (DataW H) → Nat
  | [] => 0
  | d :: r => uptoBulk d + uptoBulkAll r
def uptoBulkEntries {H : Type} : List (Lit × DataW H) → Nat
  | [] => 0
  | x :: r => uptoBulkEntry x + uptoBulkEntries r
def uptoBulkEntry {H : Type} : Lit × DataW H → Nat
  | (.string bytes, d) => bytes.length + uptoBulk d + 1
  | (_, d) => uptoBulk d + 1
 end
def uptoSmall : (H : Type) → List (DataW H) → Bool := fun _ ds => decide (uptoBulkAll ds ≤ 1048576)
def OpenSpec.upto (s : _root_.Go.ChangeSpec) : _root_.Go.OpenSpec := { _root_.Go.OpenSpec.ofChange s with cond := some uptoSmall }

/-- 'handlebodylaw2.MorseFree', WHERE WHAT IT READS IS OF BULK AT MOST 1048576: true; the input reads as it did. -/
def morseFreeUptoRow : OpenClaim := { program := "ytoheffkiohfmoaagreatdoor", sum := "7531f0fc09e1f2995a8487e77e58695b47cfaccbe850e49bf9f9f720c1c83a03", func := "handlebody/handlebodylaw2.MorseFree", spec := "morseFree", inPlace := ["internal/reflectlite.ValueOf", "(internal/reflectlite.Value).Type", "(internal/reflectlite.Value).IsNil", "internal/reflectlite.TypeOf", "(internal/reflectlite.Value).Elem", "(internal/reflectlite.Value).Set"], unfollowed := true, recurses := true, named := ["handlebody/api.ErrShape", "handlebody/api.ErrFace", "handlebody/api.ErrBound", "handlebody/api.ErrText", "handlebody/api.ErrName", "handlebody/api.ErrNone", "handlebody/api.ErrOrder", "handlebody/api.ErrKind", "errors.errorType"], plainKeys := false, apart := false, laid := [("errors.errorType", laid_errors_errorType), ("handlebody/api.ErrText", laid_handlebody_api_ErrText), ("handlebody/api.ErrBound", laid_handlebody_api_ErrBound), ("handlebody/api.ErrShape", laid_handlebody_api_ErrShape), ("handlebody/api.ErrFace", laid_handlebody_api_ErrFace), ("handlebody/api.ErrName", laid_handlebody_api_ErrName), ("handlebody/api.ErrNone", laid_handlebody_api_ErrNone), ("handlebody/api.ErrOrder", laid_handlebody_api_ErrOrder), ("handlebody/api.ErrKind", laid_handlebody_api_ErrKind)], narrowed := true }
def MorseFreeUptoSaid : Prop := morseFreeUptoRow.holds Tryz.pinned (OpenSpec.upto morseFreeSpec)

/-- 'handlebodylaw2.MorseChecks', WHERE WHAT IT READS IS OF BULK AT MOST 1048576: true; the input reads as it did. -/
def morseChecksUptoRow : OpenClaim := { program := "ytoheffkiohfmoaagreatdoor", sum := "7531f0fc09e1f2995a8487e77e58695b47cfaccbe850e49bf9f9f720c1c83a03", func := "handlebody/handlebodylaw2.MorseChecks", spec := "morseChecks", inPlace := ["internal/reflectlite.ValueOf", "(internal/reflectlite.Value).Type", "(internal/reflectlite.Value).IsNil", "internal/reflectlite.TypeOf", "(internal/reflectlite.Value).Elem", "(internal/reflectlite.Value).Set"], unfollowed := true, recurses := true, named := ["handlebody/api.ErrShape", "handlebody/api.ErrFace", "handlebody/api.ErrBound", "handlebody/api.ErrOrder", "handlebody/api.ErrText", "handlebody/api.ErrName", "handlebody/api.ErrNone", "handlebody/api.ErrKind", "errors.errorType"], plainKeys := false, apart := false, laid := [("errors.errorType", laid_errors_errorType), ("handlebody/api.ErrText", laid_handlebody_api_ErrText), ("handlebody/api.ErrBound", laid_handlebody_api_ErrBound), ("handlebody/api.ErrShape", laid_handlebody_api_ErrShape), ("handlebody/api.ErrFace", laid_handlebody_api_ErrFace), ("handlebody/api.ErrName", laid_handlebody_api_ErrName), ("handlebody/api.ErrNone", laid_handlebody_api_ErrNone), ("handlebody/api.ErrOrder", laid_handlebody_api_ErrOrder), ("handlebody/api.ErrKind", laid_handlebody_api_ErrKind)], narrowed := true }
def MorseChecksUptoSaid : Prop := morseChecksUptoRow.holds Tryz.pinned (OpenSpec.upto morseChecksSpec)

/-- 'handlebodylaw2.CubesBorders', WHERE WHAT IT READS IS OF BULK AT MOST 1048576: true; the input reads as it did. -/
def cubesBordersUptoRow : OpenClaim := { program := "ytoheffkiohfmoaagreatdoor", sum := "7531f0fc09e1f2995a8487e77e58695b47cfaccbe850e49bf9f9f720c1c83a03", func := "handlebody/handlebodylaw2.CubesBorders", spec := "cubesBorders", inPlace := ["internal/bytealg.IndexByteString", "internal/bytealg.IndexString", "internal/reflectlite.ValueOf", "(internal/reflectlite.Value).Type", "(internal/reflectlite.Value).IsNil", "internal/reflectlite.TypeOf", "(internal/reflectlite.Value).Elem", "(internal/reflectlite.Value).Set"], unfollowed := true, recurses := true, named := ["handlebody/api.ErrBound", "handlebody/api.ErrShape", "handlebody/api.ErrText", "unicode/utf8.first", "unicode/utf8.acceptRanges", "handlebody/api.ErrFace", "handlebody/api.ErrName", "handlebody/api.ErrNone", "handlebody/api.ErrOrder", "handlebody/api.ErrKind", "errors.errorType", "internal/bytealg.MaxLen"], plainKeys := false, apart := false, laid := [("unicode/utf8.acceptRanges", laid_unicode_utf8_acceptRanges), ("errors.errorType", laid_errors_errorType), ("handlebody/api.ErrText", laid_handlebody_api_ErrText), ("handlebody/api.ErrBound", laid_handlebody_api_ErrBound), ("handlebody/api.ErrShape", laid_handlebody_api_ErrShape), ("handlebody/api.ErrFace", laid_handlebody_api_ErrFace), ("handlebody/api.ErrName", laid_handlebody_api_ErrName), ("handlebody/api.ErrNone", laid_handlebody_api_ErrNone), ("handlebody/api.ErrOrder", laid_handlebody_api_ErrOrder), ("handlebody/api.ErrKind", laid_handlebody_api_ErrKind), ("unicode/utf8.first", laid_unicode_utf8_first)], narrowed := true }
def CubesBordersUptoSaid : Prop := cubesBordersUptoRow.holds Tryz.pinned (OpenSpec.upto cubesBordersSpec)

end Rows
end Go.Proofs.YtoheffkiohfmoaaGreatDoor
