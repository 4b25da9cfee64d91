/-
  NARROWER THAN 'FOR EVERY INPUT', by the rows' own cells (each row's printed sentence says how): CellsBorders: laid · CellsEuler: laid · CellsFaces: laid · CellsProducts: laid · CellsParts: laid · CellsJoins: laid · CellsTexts: laid.
  DERIVED. THE GIVEN ROWS OF THIS SEAT. 7 by the template 'for every input the law returns true; each argument reads behind the call as it read before'; 0 by the template 'total and deterministic' (their statements: YtipblphfjejpbaaGreatDoorTotals.lean).
  GIVEN WITH THE SEED: the statements are not yours to turn. If you find one false, say at which input.
  Laid BY PROGRAM, IN A SANDBOX (cutbox-rows.mjs): the forced cells as the released guide's own fill.sh prints them over the translation 9e49975e1801331f… (all of the seat's roots in one cut). By AI agents, Wed Nov 11 2026. No macro, syntax, notation, axiom, sorry.
-/
import Derived.Test.YtipblphfjejpbaaGreatDoorChecked
import GoSem.Claim
import GoSem.ClaimJoined
import GoSem.ClaimMapViews
import Derived.JoinedTies
import Derived.KernelRfl
namespace Go.Proofs.YtipblphfjejpbaaGreatDoor
/- THE CELL 'sum', in the pinned program and in every row, IS THE sha256 OF THE DUMP (.gsa) THAT YtipblphfjejpbaaGreatDoorProg.lean LOADS. Nothing in Lean hashes anything: it is a label: what it is worth is what the hold of that sum in a sandbox is worth. -/
noncomputable def Tryz.pinned : Pinned := { name := "ytipblphfjejpbaagreatdoor", sum := "9e49975e1801331f75ed7995398ad053dccd4293de4721df65588ab57c88e574", checked := Tryz.checked }
namespace Rows
def none {H : Type} : Left H := { results := [], args := [] }

/- WHAT THE LISTED PACKAGE-LEVEL VARIABLES READ AS WHEN THE CALL BEGINS. Each datum BY PROGRAM (the guide's laid-datum.mjs) off the statement by which the dump's own 'gosem.cut.vars' lays the variable. In a bare row this is a premise. The card (YtipblphfjejpbaaGreatDoorCards.lean) ties it to the program's text. -/
def laid_errors_errorType {H : Type} : DataW H := .iface "internal/reflectlite.rtype" (.agg [.ptr (.lit (.string [101, 114, 114, 111, 114]))])
def laid_handlebody_api_ErrText {H : Type} : DataW H := .iface "*errors.errorString" (.ptr (.agg [.lit (.string [104, 97, 110, 100, 108, 101, 98, 111, 100, 121, 58, 32, 116, 101, 120, 116])]))
def laid_handlebody_api_ErrBound {H : Type} : DataW H := .iface "*errors.errorString" (.ptr (.agg [.lit (.string [104, 97, 110, 100, 108, 101, 98, 111, 100, 121, 58, 32, 98, 111, 117, 110, 100])]))
def laid_handlebody_api_ErrShape {H : Type} : DataW H := .iface "*errors.errorString" (.ptr (.agg [.lit (.string [104, 97, 110, 100, 108, 101, 98, 111, 100, 121, 58, 32, 115, 104, 97, 112, 101])]))
def laid_handlebody_api_ErrFace {H : Type} : DataW H := .iface "*errors.errorString" (.ptr (.agg [.lit (.string [104, 97, 110, 100, 108, 101, 98, 111, 100, 121, 58, 32, 102, 97, 99, 101])]))
def laid_handlebody_api_ErrName {H : Type} : DataW H := .iface "*errors.errorString" (.ptr (.agg [.lit (.string [104, 97, 110, 100, 108, 101, 98, 111, 100, 121, 58, 32, 110, 97, 109, 101])]))
def laid_handlebody_api_ErrNone {H : Type} : DataW H := .iface "*errors.errorString" (.ptr (.agg [.lit (.string [104, 97, 110, 100, 108, 101, 98, 111, 100, 121, 58, 32, 110, 111, 110, 101])]))
def laid_handlebody_api_ErrOrder {H : Type} : DataW H := .iface "*errors.errorString" (.ptr (.agg [.lit (.string [104, 97, 110, 100, 108, 101, 98, 111, 100, 121, 58, 32, 111, 114, 100, 101, 114])]))
def laid_handlebody_api_ErrKind {H : Type} : DataW H := .iface "*errors.errorString" (.ptr (.agg [.lit (.string [104, 97, 110, 100, 108, 101, 98, 111, 100, 121, 58, 32, 107, 105, 110, 100])]))
def laid_math_bits_deBruijn32tab {H : Type} : DataW H := .agg [.lit (.int .u8 0), .lit (.int .u8 1), .lit (.int .u8 28), .lit (.int .u8 2), .lit (.int .u8 29), .lit (.int .u8 14), .lit (.int .u8 24), .lit (.int .u8 3), .lit (.int .u8 30), .lit (.int .u8 22), .lit (.int .u8 20), .lit (.int .u8 15), .lit (.int .u8 25), .lit (.int .u8 17), .lit (.int .u8 4), .lit (.int .u8 8), .lit (.int .u8 31), .lit (.int .u8 27), .lit (.int .u8 13), .lit (.int .u8 23), .lit (.int .u8 21), .lit (.int .u8 19), .lit (.int .u8 16), .lit (.int .u8 7), .lit (.int .u8 26), .lit (.int .u8 12), .lit (.int .u8 18), .lit (.int .u8 6), .lit (.int .u8 11), .lit (.int .u8 5), .lit (.int .u8 10), .lit (.int .u8 9)]
def laid_math_bits_deBruijn64tab {H : Type} : DataW H := .agg [.lit (.int .u8 0), .lit (.int .u8 1), .lit (.int .u8 56), .lit (.int .u8 2), .lit (.int .u8 57), .lit (.int .u8 49), .lit (.int .u8 28), .lit (.int .u8 3), .lit (.int .u8 61), .lit (.int .u8 58), .lit (.int .u8 42), .lit (.int .u8 50), .lit (.int .u8 38), .lit (.int .u8 29), .lit (.int .u8 17), .lit (.int .u8 4), .lit (.int .u8 62), .lit (.int .u8 47), .lit (.int .u8 59), .lit (.int .u8 36), .lit (.int .u8 45), .lit (.int .u8 43), .lit (.int .u8 51), .lit (.int .u8 22), .lit (.int .u8 53), .lit (.int .u8 39), .lit (.int .u8 33), .lit (.int .u8 30), .lit (.int .u8 24), .lit (.int .u8 18), .lit (.int .u8 12), .lit (.int .u8 5), .lit (.int .u8 63), .lit (.int .u8 55), .lit (.int .u8 48), .lit (.int .u8 27), .lit (.int .u8 60), .lit (.int .u8 41), .lit (.int .u8 37), .lit (.int .u8 16), .lit (.int .u8 46), .lit (.int .u8 35), .lit (.int .u8 44), .lit (.int .u8 21), .lit (.int .u8 52), .lit (.int .u8 32), .lit (.int .u8 23), .lit (.int .u8 11), .lit (.int .u8 54), .lit (.int .u8 26), .lit (.int .u8 40), .lit (.int .u8 15), .lit (.int .u8 34), .lit (.int .u8 20), .lit (.int .u8 31), .lit (.int .u8 10), .lit (.int .u8 25), .lit (.int .u8 14), .lit (.int .u8 19), .lit (.int .u8 9), .lit (.int .u8 13), .lit (.int .u8 8), .lit (.int .u8 7), .lit (.int .u8 6)]
def laid_internal_strconv_uint64pow10 {H : Type} : DataW H := .agg [.lit (.int .u64 1), .lit (.int .u64 10), .lit (.int .u64 100), .lit (.int .u64 1000), .lit (.int .u64 10000), .lit (.int .u64 100000), .lit (.int .u64 1000000), .lit (.int .u64 10000000), .lit (.int .u64 100000000), .lit (.int .u64 1000000000), .lit (.int .u64 10000000000), .lit (.int .u64 100000000000), .lit (.int .u64 1000000000000), .lit (.int .u64 10000000000000), .lit (.int .u64 100000000000000), .lit (.int .u64 1000000000000000), .lit (.int .u64 10000000000000000), .lit (.int .u64 100000000000000000), .lit (.int .u64 1000000000000000000), .lit (.int .u64 10000000000000000000)]
def laid_strconv_ErrRange {H : Type} : DataW H := .iface "*errors.errorString" (.ptr (.agg [.lit (.string [118, 97, 108, 117, 101, 32, 111, 117, 116, 32, 111, 102, 32, 114, 97, 110, 103, 101])]))
def laid_strconv_ErrSyntax {H : Type} : DataW H := .iface "*errors.errorString" (.ptr (.agg [.lit (.string [105, 110, 118, 97, 108, 105, 100, 32, 115, 121, 110, 116, 97, 120])]))

/-- 'handlebodylaw1.CellsBorders': WHATEVER THE INPUT: true; the input reads as it did. -/
def cellsBordersSpec : ChangeSpec := { name := "cellsBorders", fn := fun _ => fun
  | [d1, d2] => { results := [.lit (.bool true)], args := [d1, d2] }
  | _ => none }
def cellsBordersRow : OpenClaim := { program := "ytipblphfjejpbaagreatdoor", sum := "9e49975e1801331f75ed7995398ad053dccd4293de4721df65588ab57c88e574", func := "handlebody/handlebodylaw1.CellsBorders", spec := "cellsBorders", inPlace := ["internal/reflectlite.ValueOf", "(internal/reflectlite.Value).Type", "(internal/reflectlite.Value).IsNil", "internal/reflectlite.TypeOf", "(internal/reflectlite.Value).Elem", "(internal/reflectlite.Value).Set"], unfollowed := true, recurses := true, named := ["handlebody/api.ErrFace", "handlebody/api.ErrBound", "handlebody/api.ErrShape", "handlebody/api.ErrText", "handlebody/api.ErrName", "handlebody/api.ErrNone", "handlebody/api.ErrOrder", "handlebody/api.ErrKind", "errors.errorType"], apart := false, laid := [("errors.errorType", laid_errors_errorType), ("handlebody/api.ErrText", laid_handlebody_api_ErrText), ("handlebody/api.ErrBound", laid_handlebody_api_ErrBound), ("handlebody/api.ErrShape", laid_handlebody_api_ErrShape), ("handlebody/api.ErrFace", laid_handlebody_api_ErrFace), ("handlebody/api.ErrName", laid_handlebody_api_ErrName), ("handlebody/api.ErrNone", laid_handlebody_api_ErrNone), ("handlebody/api.ErrOrder", laid_handlebody_api_ErrOrder), ("handlebody/api.ErrKind", laid_handlebody_api_ErrKind)] }
def CellsBordersSaid : Prop := cellsBordersRow.holds Tryz.pinned (OpenSpec.ofChange cellsBordersSpec)

/-- ITS FALSE NEIGHBOUR: 'it returns false'. Refute it at one input. -/
def cellsBordersWrong : ChangeSpec := { name := "cellsBorders", fn := fun _ => fun
  | [d1, d2] => { results := [.lit (.bool false)], args := [d1, d2] }
  | _ => none }
def CellsBordersWrongFalsely : Prop := cellsBordersRow.holds Tryz.pinned (OpenSpec.ofChange cellsBordersWrong)

/-- 'handlebodylaw1.CellsEuler': WHATEVER THE INPUT: true; the input reads as it did. -/
def cellsEulerSpec : ChangeSpec := { name := "cellsEuler", fn := fun _ => fun
  | [d1, d2, d3, d4] => { results := [.lit (.bool true)], args := [d1, d2, d3, d4] }
  | _ => none }
def cellsEulerRow : OpenClaim := { program := "ytipblphfjejpbaagreatdoor", sum := "9e49975e1801331f75ed7995398ad053dccd4293de4721df65588ab57c88e574", func := "handlebody/handlebodylaw1.CellsEuler", spec := "cellsEuler", unfollowed := true, recurses := true, named := ["handlebody/api.ErrFace", "handlebody/api.ErrBound", "handlebody/api.ErrShape"], apart := false, laid := [("handlebody/api.ErrBound", laid_handlebody_api_ErrBound), ("handlebody/api.ErrShape", laid_handlebody_api_ErrShape), ("handlebody/api.ErrFace", laid_handlebody_api_ErrFace)] }
def CellsEulerSaid : Prop := cellsEulerRow.holds Tryz.pinned (OpenSpec.ofChange cellsEulerSpec)

/-- ITS FALSE NEIGHBOUR: 'it returns false'. Refute it at one input. -/
def cellsEulerWrong : ChangeSpec := { name := "cellsEuler", fn := fun _ => fun
  | [d1, d2, d3, d4] => { results := [.lit (.bool false)], args := [d1, d2, d3, d4] }
  | _ => none }
def CellsEulerWrongFalsely : Prop := cellsEulerRow.holds Tryz.pinned (OpenSpec.ofChange cellsEulerWrong)

/-- 'handlebodylaw1.CellsFaces': WHATEVER THE INPUT: true; the input reads as it did. -/
def cellsFacesSpec : ChangeSpec := { name := "cellsFaces", fn := fun _ => fun
  | [d1, d2, d3] => { results := [.lit (.bool true)], args := [d1, d2, d3] }
  | _ => none }
def cellsFacesRow : OpenClaim := { program := "ytipblphfjejpbaagreatdoor", sum := "9e49975e1801331f75ed7995398ad053dccd4293de4721df65588ab57c88e574", func := "handlebody/handlebodylaw1.CellsFaces", spec := "cellsFaces", inPlace := ["internal/reflectlite.ValueOf", "(internal/reflectlite.Value).Type", "(internal/reflectlite.Value).IsNil", "internal/reflectlite.TypeOf", "(internal/reflectlite.Value).Elem", "(internal/reflectlite.Value).Set"], unfollowed := true, recurses := true, named := ["handlebody/api.ErrFace", "handlebody/api.ErrBound", "handlebody/api.ErrShape", "handlebody/api.ErrText", "handlebody/api.ErrName", "handlebody/api.ErrNone", "handlebody/api.ErrOrder", "handlebody/api.ErrKind", "errors.errorType"], apart := false, laid := [("errors.errorType", laid_errors_errorType), ("handlebody/api.ErrText", laid_handlebody_api_ErrText), ("handlebody/api.ErrBound", laid_handlebody_api_ErrBound), ("handlebody/api.ErrShape", laid_handlebody_api_ErrShape), ("handlebody/api.ErrFace", laid_handlebody_api_ErrFace), ("handlebody/api.ErrName", laid_handlebody_api_ErrName), ("handlebody/api.ErrNone", laid_handlebody_api_ErrNone), ("handlebody/api.ErrOrder", laid_handlebody_api_ErrOrder), ("handlebody/api.ErrKind", laid_handlebody_api_ErrKind)] }
def CellsFacesSaid : Prop := cellsFacesRow.holds Tryz.pinned (OpenSpec.ofChange cellsFacesSpec)

/-- ITS FALSE NEIGHBOUR: 'it returns false'. Refute it at one input. -/
def cellsFacesWrong : ChangeSpec := { name := "cellsFaces", fn := fun _ => fun
  | [d1, d2, d3] => { results := [.lit (.bool false)], args := [d1, d2, d3] }
  | _ => none }
def CellsFacesWrongFalsely : Prop := cellsFacesRow.holds Tryz.pinned (OpenSpec.ofChange cellsFacesWrong)

/-- 'handlebodylaw1.CellsProducts': WHATEVER THE INPUT: true; the input reads as it did. -/
def cellsProductsSpec : ChangeSpec := { name := "cellsProducts", fn := fun _ => fun
  | [d1, d2] => { results := [.lit (.bool true)], args := [d1, d2] }
  | _ => none }
def cellsProductsRow : OpenClaim := { program := "ytipblphfjejpbaagreatdoor", sum := "9e49975e1801331f75ed7995398ad053dccd4293de4721df65588ab57c88e574", func := "handlebody/handlebodylaw1.CellsProducts", spec := "cellsProducts", inPlace := ["internal/reflectlite.ValueOf", "(internal/reflectlite.Value).Type", "(internal/reflectlite.Value).IsNil", "internal/reflectlite.TypeOf", "(internal/reflectlite.Value).Elem", "(internal/reflectlite.Value).Set"], unfollowed := true, recurses := true, named := ["handlebody/api.ErrFace", "handlebody/api.ErrBound", "handlebody/api.ErrShape", "handlebody/api.ErrText", "handlebody/api.ErrName", "handlebody/api.ErrNone", "handlebody/api.ErrOrder", "handlebody/api.ErrKind", "errors.errorType"], apart := false, laid := [("errors.errorType", laid_errors_errorType), ("handlebody/api.ErrText", laid_handlebody_api_ErrText), ("handlebody/api.ErrBound", laid_handlebody_api_ErrBound), ("handlebody/api.ErrShape", laid_handlebody_api_ErrShape), ("handlebody/api.ErrFace", laid_handlebody_api_ErrFace), ("handlebody/api.ErrName", laid_handlebody_api_ErrName), ("handlebody/api.ErrNone", laid_handlebody_api_ErrNone), ("handlebody/api.ErrOrder", laid_handlebody_api_ErrOrder), ("handlebody/api.ErrKind", laid_handlebody_api_ErrKind)] }
def CellsProductsSaid : Prop := cellsProductsRow.holds Tryz.pinned (OpenSpec.ofChange cellsProductsSpec)

/-- ITS FALSE NEIGHBOUR: 'it returns false'. Refute it at one input. -/
def cellsProductsWrong : ChangeSpec := { name := "cellsProducts", fn := fun _ => fun
  | [d1, d2] => { results := [.lit (.bool false)], args := [d1, d2] }
  | _ => none }
def CellsProductsWrongFalsely : Prop := cellsProductsRow.holds Tryz.pinned (OpenSpec.ofChange cellsProductsWrong)

/-- 'handlebodylaw1.CellsParts': WHATEVER THE INPUT: true; the input reads as it did. -/
def cellsPartsSpec : ChangeSpec := { name := "cellsParts", fn := fun _ => fun
  | [d1, d2, d3] => { results := [.lit (.bool true)], args := [d1, d2, d3] }
  | _ => none }
def cellsPartsRow : OpenClaim := { program := "ytipblphfjejpbaagreatdoor", sum := "9e49975e1801331f75ed7995398ad053dccd4293de4721df65588ab57c88e574", func := "handlebody/handlebodylaw1.CellsParts", spec := "cellsParts", inPlace := ["internal/reflectlite.ValueOf", "(internal/reflectlite.Value).Type", "(internal/reflectlite.Value).IsNil", "internal/reflectlite.TypeOf", "(internal/reflectlite.Value).Elem", "(internal/reflectlite.Value).Set"], unfollowed := true, recurses := true, named := ["handlebody/api.ErrFace", "handlebody/api.ErrBound", "handlebody/api.ErrShape", "handlebody/api.ErrText", "handlebody/api.ErrName", "handlebody/api.ErrNone", "handlebody/api.ErrOrder", "handlebody/api.ErrKind", "errors.errorType"], apart := false, laid := [("errors.errorType", laid_errors_errorType), ("handlebody/api.ErrText", laid_handlebody_api_ErrText), ("handlebody/api.ErrBound", laid_handlebody_api_ErrBound), ("handlebody/api.ErrShape", laid_handlebody_api_ErrShape), ("handlebody/api.ErrFace", laid_handlebody_api_ErrFace), ("handlebody/api.ErrName", laid_handlebody_api_ErrName), ("handlebody/api.ErrNone", laid_handlebody_api_ErrNone), ("handlebody/api.ErrOrder", laid_handlebody_api_ErrOrder), ("handlebody/api.ErrKind", laid_handlebody_api_ErrKind)] }
def CellsPartsSaid : Prop := cellsPartsRow.holds Tryz.pinned (OpenSpec.ofChange cellsPartsSpec)

/-- ITS FALSE NEIGHBOUR: 'it returns false'. Refute it at one input. -/
def cellsPartsWrong : ChangeSpec := { name := "cellsParts", fn := fun _ => fun
  | [d1, d2, d3] => { results := [.lit (.bool false)], args := [d1, d2, d3] }
  | _ => none }
def CellsPartsWrongFalsely : Prop := cellsPartsRow.holds Tryz.pinned (OpenSpec.ofChange cellsPartsWrong)

/-- 'handlebodylaw1.CellsJoins': WHATEVER THE INPUT: true; the input reads as it did. -/
def cellsJoinsSpec : ChangeSpec := { name := "cellsJoins", fn := fun _ => fun
  | [d1, d2] => { results := [.lit (.bool true)], args := [d1, d2] }
  | _ => none }
def cellsJoinsRow : OpenClaim := { program := "ytipblphfjejpbaagreatdoor", sum := "9e49975e1801331f75ed7995398ad053dccd4293de4721df65588ab57c88e574", func := "handlebody/handlebodylaw1.CellsJoins", spec := "cellsJoins", inPlace := ["internal/reflectlite.ValueOf", "(internal/reflectlite.Value).Type", "(internal/reflectlite.Value).IsNil", "internal/reflectlite.TypeOf", "(internal/reflectlite.Value).Elem", "(internal/reflectlite.Value).Set"], unfollowed := true, recurses := true, named := ["handlebody/api.ErrFace", "handlebody/api.ErrBound", "handlebody/api.ErrShape", "handlebody/api.ErrText", "handlebody/api.ErrName", "handlebody/api.ErrNone", "handlebody/api.ErrOrder", "handlebody/api.ErrKind", "errors.errorType"], apart := false, laid := [("errors.errorType", laid_errors_errorType), ("handlebody/api.ErrText", laid_handlebody_api_ErrText), ("handlebody/api.ErrBound", laid_handlebody_api_ErrBound), ("handlebody/api.ErrShape", laid_handlebody_api_ErrShape), ("handlebody/api.ErrFace", laid_handlebody_api_ErrFace), ("handlebody/api.ErrName", laid_handlebody_api_ErrName), ("handlebody/api.ErrNone", laid_handlebody_api_ErrNone), ("handlebody/api.ErrOrder", laid_handlebody_api_ErrOrder), ("handlebody/api.ErrKind", laid_handlebody_api_ErrKind)] }
def CellsJoinsSaid : Prop := cellsJoinsRow.holds Tryz.pinned (OpenSpec.ofChange cellsJoinsSpec)

/-- ITS FALSE NEIGHBOUR: 'it returns false'. Refute it at one input. -/
def cellsJoinsWrong : ChangeSpec := { name := "cellsJoins", fn := fun _ => fun
  | [d1, d2] => { results := [.lit (.bool false)], args := [d1, d2] }
  | _ => none }
def CellsJoinsWrongFalsely : Prop := cellsJoinsRow.holds Tryz.pinned (OpenSpec.ofChange cellsJoinsWrong)

/-- 'handlebodylaw1.CellsTexts': WHATEVER THE INPUT: true; the input reads as it did. -/
def cellsTextsSpec : ChangeSpec := { name := "cellsTexts", fn := fun _ => fun
  | [d1, d2] => { results := [.lit (.bool true)], args := [d1, d2] }
  | _ => none }
def cellsTextsRow : OpenClaim := { program := "ytipblphfjejpbaagreatdoor", sum := "9e49975e1801331f75ed7995398ad053dccd4293de4721df65588ab57c88e574", func := "handlebody/handlebodylaw1.CellsTexts", spec := "cellsTexts", inPlace := ["internal/reflectlite.ValueOf", "(internal/reflectlite.Value).Type", "(internal/reflectlite.Value).IsNil", "internal/reflectlite.TypeOf", "(internal/reflectlite.Value).Elem", "(internal/reflectlite.Value).Set"], unfollowed := true, recurses := true, named := ["handlebody/api.ErrFace", "handlebody/api.ErrBound", "handlebody/api.ErrShape", "internal/strconv.uint64pow10", "math/bits.deBruijn32tab", "math/bits.deBruijn64tab", "handlebody/api.ErrText", "handlebody/api.ErrName", "handlebody/api.ErrNone", "handlebody/api.ErrOrder", "handlebody/api.ErrKind", "errors.errorType", "strconv.ErrSyntax", "strconv.ErrRange"], apart := false, laid := [("math/bits.deBruijn32tab", laid_math_bits_deBruijn32tab), ("math/bits.deBruijn64tab", laid_math_bits_deBruijn64tab), ("internal/strconv.uint64pow10", laid_internal_strconv_uint64pow10), ("errors.errorType", laid_errors_errorType), ("handlebody/api.ErrText", laid_handlebody_api_ErrText), ("handlebody/api.ErrBound", laid_handlebody_api_ErrBound), ("handlebody/api.ErrShape", laid_handlebody_api_ErrShape), ("handlebody/api.ErrFace", laid_handlebody_api_ErrFace), ("handlebody/api.ErrName", laid_handlebody_api_ErrName), ("handlebody/api.ErrNone", laid_handlebody_api_ErrNone), ("handlebody/api.ErrOrder", laid_handlebody_api_ErrOrder), ("handlebody/api.ErrKind", laid_handlebody_api_ErrKind), ("strconv.ErrRange", laid_strconv_ErrRange), ("strconv.ErrSyntax", laid_strconv_ErrSyntax)] }
def CellsTextsSaid : Prop := cellsTextsRow.holds Tryz.pinned (OpenSpec.ofChange cellsTextsSpec)

/-- ITS FALSE NEIGHBOUR: 'it returns false'. Refute it at one input. -/
def cellsTextsWrong : ChangeSpec := { name := "cellsTexts", fn := fun _ => fun
  | [d1, d2] => { results := [.lit (.bool false)], args := [d1, d2] }
  | _ => none }
def CellsTextsWrongFalsely : Prop := cellsTextsRow.holds Tryz.pinned (OpenSpec.ofChange cellsTextsWrong)

/- THE SECOND FORM. 'bulk': how many values and letters a reading holds, each counted each time it is reached (what is shared counts as often as it is met; a slice's spare places count too). A statement '..UptoSaid' is the law's where the arguments, and the package variables that the reading takes, are together of bulk at most 1048576: NARROWER than '..Said'. Prove '..Said' where nothing that the law and all that it calls make is longer than what came in: it says more and counts as full. Else prove '..UptoSaid'. A law counts once. -/
mutual
def uptoBulk {H : Type} : DataW H → Nat
  | .lit (.string bytes) => bytes.length + 1
  | .lit _ => 1
  | .nil => 1
  | .ptr d => uptoBulk d + 1
  | .slice elems spare => uptoBulkAll elems + uptoBulkAll spare + 1
  | .agg parts => uptoBulkAll parts + 1
  | .iface _ d => uptoBulk d + 1
  | .map entries => uptoBulkEntries entries + 1
  | .held _ => 1
def uptoBulkAll {H : Type} : List (DataW H) → Nat
  | [] => 0
  | d :: r => uptoBulk d + uptoBulkAll r
def uptoBulkEntries {H : Type} : List (Lit × DataW H) → Nat
  | [] => 0
  | x :: r => uptoBulkEntry x + uptoBulkEntries r
def uptoBulkEntry {H : Type} : Lit × DataW H → Nat
  | (.string bytes, d) => bytes.length + uptoBulk d + 1
  | (_, d) => uptoBulk d + 1
 end
def uptoSmall : (H : Type) → List (DataW H) → Bool := fun _ ds => decide (uptoBulkAll ds ≤ 1048576)
def OpenSpec.upto (s : _root_.Go.ChangeSpec) : _root_.Go.OpenSpec := { _root_.Go.OpenSpec.ofChange s with cond := some uptoSmall }

/-- 'handlebodylaw1.CellsBorders', WHERE WHAT IT READS IS OF BULK AT MOST 1048576: true; the input reads as it did. -/
def cellsBordersUptoRow : OpenClaim := { program := "ytipblphfjejpbaagreatdoor", sum := "9e49975e1801331f75ed7995398ad053dccd4293de4721df65588ab57c88e574", func := "handlebody/handlebodylaw1.CellsBorders", spec := "cellsBorders", inPlace := ["internal/reflectlite.ValueOf", "(internal/reflectlite.Value).Type", "(internal/reflectlite.Value).IsNil", "internal/reflectlite.TypeOf", "(internal/reflectlite.Value).Elem", "(internal/reflectlite.Value).Set"], unfollowed := true, recurses := true, named := ["handlebody/api.ErrFace", "handlebody/api.ErrBound", "handlebody/api.ErrShape", "handlebody/api.ErrText", "handlebody/api.ErrName", "handlebody/api.ErrNone", "handlebody/api.ErrOrder", "handlebody/api.ErrKind", "errors.errorType"], apart := false, laid := [("errors.errorType", laid_errors_errorType), ("handlebody/api.ErrText", laid_handlebody_api_ErrText), ("handlebody/api.ErrBound", laid_handlebody_api_ErrBound), ("handlebody/api.ErrShape", laid_handlebody_api_ErrShape), ("handlebody/api.ErrFace", laid_handlebody_api_ErrFace), ("handlebody/api.ErrName", laid_handlebody_api_ErrName), ("handlebody/api.ErrNone", laid_handlebody_api_ErrNone), ("handlebody/api.ErrOrder", laid_handlebody_api_ErrOrder), ("handlebody/api.ErrKind", laid_handlebody_api_ErrKind)], narrowed := true }
def CellsBordersUptoSaid : Prop := cellsBordersUptoRow.holds Tryz.pinned (OpenSpec.upto cellsBordersSpec)

/-- 'handlebodylaw1.CellsEuler', WHERE WHAT IT READS IS OF BULK AT MOST 1048576: true; the input reads as it did. -/
def cellsEulerUptoRow : OpenClaim := { program := "ytipblphfjejpbaagreatdoor", sum := "9e49975e1801331f75ed7995398ad053dccd4293de4721df65588ab57c88e574", func := "handlebody/handlebodylaw1.CellsEuler", spec := "cellsEuler", unfollowed := true, recurses := true, named := ["handlebody/api.ErrFace", "handlebody/api.ErrBound", "handlebody/api.ErrShape"], apart := false, laid := [("handlebody/api.ErrBound", laid_handlebody_api_ErrBound), ("handlebody/api.ErrShape", laid_handlebody_api_ErrShape), ("handlebody/api.ErrFace", laid_handlebody_api_ErrFace)], narrowed := true }
def CellsEulerUptoSaid : Prop := cellsEulerUptoRow.holds Tryz.pinned (OpenSpec.upto cellsEulerSpec)

/-- 'handlebodylaw1.CellsFaces', WHERE WHAT IT READS IS OF BULK AT MOST 1048576: true; the input reads as it did. -/
def cellsFacesUptoRow : OpenClaim := { program := "ytipblphfjejpbaagreatdoor", sum := "9e49975e1801331f75ed7995398ad053dccd4293de4721df65588ab57c88e574", func := "handlebody/handlebodylaw1.CellsFaces", spec := "cellsFaces", inPlace := ["internal/reflectlite.ValueOf", "(internal/reflectlite.Value).Type", "(internal/reflectlite.Value).IsNil", "internal/reflectlite.TypeOf", "(internal/reflectlite.Value).Elem", "(internal/reflectlite.Value).Set"], unfollowed := true, recurses := true, named := ["handlebody/api.ErrFace", "handlebody/api.ErrBound", "handlebody/api.ErrShape", "handlebody/api.ErrText", "handlebody/api.ErrName", "handlebody/api.ErrNone", "handlebody/api.ErrOrder", "handlebody/api.ErrKind", "errors.errorType"], apart := false, laid := [("errors.errorType", laid_errors_errorType), ("handlebody/api.ErrText", laid_handlebody_api_ErrText), ("handlebody/api.ErrBound", laid_handlebody_api_ErrBound), ("handlebody/api.ErrShape", laid_handlebody_api_ErrShape), ("handlebody/api.ErrFace", laid_handlebody_api_ErrFace), ("handlebody/api.ErrName", laid_handlebody_api_ErrName), ("handlebody/api.ErrNone", laid_handlebody_api_ErrNone), ("handlebody/api.ErrOrder", laid_handlebody_api_ErrOrder), ("handlebody/api.ErrKind", laid_handlebody_api_ErrKind)], narrowed := true }
def CellsFacesUptoSaid : Prop := cellsFacesUptoRow.holds Tryz.pinned (OpenSpec.upto cellsFacesSpec)

/-- 'handlebodylaw1.CellsProducts', WHERE WHAT IT READS IS OF BULK AT MOST 1048576: true; the input reads as it did. -/
def cellsProductsUptoRow : OpenClaim := { program := "ytipblphfjejpbaagreatdoor", sum := "9e49975e1801331f75ed7995398ad053dccd4293de4721df65588ab57c88e574", func := "handlebody/handlebodylaw1.CellsProducts", spec := "cellsProducts", inPlace := ["internal/reflectlite.ValueOf", "(internal/reflectlite.Value).Type", "(internal/reflectlite.Value).IsNil", "internal/reflectlite.TypeOf", "(internal/reflectlite.Value).Elem", "(internal/reflectlite.Value).Set"], unfollowed := true, recurses := true, named := ["handlebody/api.ErrFace", "handlebody/api.ErrBound", "handlebody/api.ErrShape", "handlebody/api.ErrText", "handlebody/api.ErrName", "handlebody/api.ErrNone", "handlebody/api.ErrOrder", "handlebody/api.ErrKind", "errors.errorType"], apart := false, laid := [("errors.errorType", laid_errors_errorType), ("handlebody/api.ErrText", laid_handlebody_api_ErrText), ("handlebody/api.ErrBound", laid_handlebody_api_ErrBound), ("handlebody/api.ErrShape", laid_handlebody_api_ErrShape), ("handlebody/api.ErrFace", laid_handlebody_api_ErrFace), ("handlebody/api.ErrName", laid_handlebody_api_ErrName), ("handlebody/api.ErrNone", laid_handlebody_api_ErrNone), ("handlebody/api.ErrOrder", laid_handlebody_api_ErrOrder), ("handlebody/api.ErrKind", laid_handlebody_api_ErrKind)], narrowed := true }
def CellsProductsUptoSaid : Prop := cellsProductsUptoRow.holds Tryz.pinned (OpenSpec.upto cellsProductsSpec)

/-- 'handlebodylaw1.CellsParts', WHERE WHAT IT READS IS OF BULK AT MOST 1048576: true; the input reads as it did. -/
def cellsPartsUptoRow : OpenClaim := { program := "ytipblphfjejpbaagreatdoor", sum := "9e49975e1801331f75ed7995398ad053dccd4293de4721df65588ab57c88e574", func := "handlebody/handlebodylaw1.CellsParts", spec := "cellsParts", inPlace := ["internal/reflectlite.ValueOf", "(internal/reflectlite.Value).Type", "(internal/reflectlite.Value).IsNil", "internal/reflectlite.TypeOf", "(internal/reflectlite.Value).Elem", "(internal/reflectlite.Value).Set"], unfollowed := true, recurses := true, named := ["handlebody/api.ErrFace", "handlebody/api.ErrBound", "handlebody/api.ErrShape", "handlebody/api.ErrText", "handlebody/api.ErrName", "handlebody/api.ErrNone", "handlebody/api.ErrOrder", "handlebody/api.ErrKind", "errors.errorType"], apart := false, laid := [("errors.errorType", laid_errors_errorType), ("handlebody/api.ErrText", laid_handlebody_api_ErrText), ("handlebody/api.ErrBound", laid_handlebody_api_ErrBound), ("handlebody/api.ErrShape", laid_handlebody_api_ErrShape), ("handlebody/api.ErrFace", laid_handlebody_api_ErrFace), ("handlebody/api.ErrName", laid_handlebody_api_ErrName), ("handlebody/api.ErrNone", laid_handlebody_api_ErrNone), ("handlebody/api.ErrOrder", laid_handlebody_api_ErrOrder), ("handlebody/api.ErrKind", laid_handlebody_api_ErrKind)], narrowed := true }
def CellsPartsUptoSaid : Prop := cellsPartsUptoRow.holds Tryz.pinned (OpenSpec.upto cellsPartsSpec)

/-- 'handlebodylaw1.CellsJoins', WHERE WHAT IT READS IS OF BULK AT MOST 1048576: true; the input reads as it did. -/
def cellsJoinsUptoRow : OpenClaim := { program := "ytipblphfjejpbaagreatdoor", sum := "9e49975e1801331f75ed7995398ad053dccd4293de4721df65588ab57c88e574", func := "handlebody/handlebodylaw1.CellsJoins", spec := "cellsJoins", inPlace := ["internal/reflectlite.ValueOf", "(internal/reflectlite.Value).Type", "(internal/reflectlite.Value).IsNil", "internal/reflectlite.TypeOf", "(internal/reflectlite.Value).Elem", "(internal/reflectlite.Value).Set"], unfollowed := true, recurses := true, named := ["handlebody/api.ErrFace", "handlebody/api.ErrBound", "handlebody/api.ErrShape", "handlebody/api.ErrText", "handlebody/api.ErrName", "handlebody/api.ErrNone", "handlebody/api.ErrOrder", "handlebody/api.ErrKind", "errors.errorType"], apart := false, laid := [("errors.errorType", laid_errors_errorType), ("handlebody/api.ErrText", laid_handlebody_api_ErrText), ("handlebody/api.ErrBound", laid_handlebody_api_ErrBound), ("handlebody/api.ErrShape", laid_handlebody_api_ErrShape), ("handlebody/api.ErrFace", laid_handlebody_api_ErrFace), ("handlebody/api.ErrName", laid_handlebody_api_ErrName), ("handlebody/api.ErrNone", laid_handlebody_api_ErrNone), ("handlebody/api.ErrOrder", laid_handlebody_api_ErrOrder), ("handlebody/api.ErrKind", laid_handlebody_api_ErrKind)], narrowed := true }
def CellsJoinsUptoSaid : Prop := cellsJoinsUptoRow.holds Tryz.pinned (OpenSpec.upto cellsJoinsSpec)

/-- 'handlebodylaw1.CellsTexts', WHERE WHAT IT READS IS OF BULK AT MOST 1048576: true; the input reads as it did. -/
def cellsTextsUptoRow : OpenClaim := { program := "ytipblphfjejpbaagreatdoor", sum := "9e49975e1801331f75ed7995398ad053dccd4293de4721df65588ab57c88e574", func := "handlebody/handlebodylaw1.CellsTexts", spec := "cellsTexts", inPlace := ["internal/reflectlite.ValueOf", "(internal/reflectlite.Value).Type", "(internal/reflectlite.Value).IsNil", "internal/reflectlite.TypeOf", "(internal/reflectlite.Value).Elem", "(internal/reflectlite.Value).Set"], unfollowed := true, recurses := true, named := ["handlebody/api.ErrFace", "handlebody/api.ErrBound", "handlebody/api.ErrShape", "internal/strconv.uint64pow10", "math/bits.deBruijn32tab", "math/bits.deBruijn64tab", "handlebody/api.ErrText", "handlebody/api.ErrName", "handlebody/api.ErrNone", "handlebody/api.ErrOrder", "handlebody/api.ErrKind", "errors.errorType", "strconv.ErrSyntax", "strconv.ErrRange"], apart := false, laid := [("math/bits.deBruijn32tab", laid_math_bits_deBruijn32tab), ("math/bits.deBruijn64tab", laid_math_bits_deBruijn64tab), ("internal/strconv.uint64pow10", laid_internal_strconv_uint64pow10), ("errors.errorType", laid_errors_errorType), ("handlebody/api.ErrText", laid_handlebody_api_ErrText), ("handlebody/api.ErrBound", laid_handlebody_api_ErrBound), ("handlebody/api.ErrShape", laid_handlebody_api_ErrShape), ("handlebody/api.ErrFace", laid_handlebody_api_ErrFace), ("handlebody/api.ErrName", laid_handlebody_api_ErrName), ("handlebody/api.ErrNone", laid_handlebody_api_ErrNone), ("handlebody/api.ErrOrder", laid_handlebody_api_ErrOrder), ("handlebody/api.ErrKind", laid_handlebody_api_ErrKind), ("strconv.ErrRange", laid_strconv_ErrRange), ("strconv.ErrSyntax", laid_strconv_ErrSyntax)], narrowed := true }
def CellsTextsUptoSaid : Prop := cellsTextsUptoRow.holds Tryz.pinned (OpenSpec.upto cellsTextsSpec)

end Rows
end Go.Proofs.YtipblphfjejpbaaGreatDoor
