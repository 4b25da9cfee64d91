/-
  DERIVED. GIVEN WITH THE SEED: THE PROGRAM's TIES (one call each: nine closed facts by the kernel) AND EACH ROW's TIE, after the 31st guide's Derived/Test/Toyas{Tie, Card}.lean. No idea stands in it: it is a product of the set-up. Laid BY PROGRAM, IN A SANDBOX (cutbox-door.mjs). By AI agents, Wed Nov 11 2026. No macro, syntax, notation, axiom, sorry.
-/
import Derived.Test.YtddnjimpdidpaaaGreatDoorRows
import Derived.LaidByTextLater
import Derived.SevenTiedAt
import Derived.LaidSub
import Derived.LaidOnce
namespace Go.Proofs.YtddnjimpdidpaaaGreatDoor
open Go
set_option maxRecDepth 100000
theorem seatTie1 : Tryz.prog.laidByTextLater [("errors.errorType", Rows.laid_errors_errorType), ("handlebody/api.ErrText", Rows.laid_handlebody_api_ErrText), ("handlebody/api.ErrBound", Rows.laid_handlebody_api_ErrBound), ("handlebody/api.ErrShape", Rows.laid_handlebody_api_ErrShape), ("handlebody/api.ErrFace", Rows.laid_handlebody_api_ErrFace), ("handlebody/api.ErrName", Rows.laid_handlebody_api_ErrName), ("handlebody/api.ErrNone", Rows.laid_handlebody_api_ErrNone), ("handlebody/api.ErrOrder", Rows.laid_handlebody_api_ErrOrder), ("handlebody/api.ErrKind", Rows.laid_handlebody_api_ErrKind)] [.handle, .sentinel, .sentinel, .sentinel, .sentinel, .sentinel, .sentinel, .sentinel, .sentinel] true :=
  Program.laidByTextLater_by_one 168 8 2 (by kernel_rfl) (by kernel_rfl) (by kernel_rfl) (by kernel_rfl) (by kernel_rfl) (by kernel_rfl) (fun _ _ => by kernel_rfl)
theorem noOwnUnsafe : Tryz.pinned.checked.prog.headLifts.contains "ownunsafe" = false := by kernel_rfl
theorem tie : Tryz.prog.laidByTextLater [("errors.errorType", Rows.laid_errors_errorType), ("handlebody/api.ErrText", Rows.laid_handlebody_api_ErrText), ("handlebody/api.ErrBound", Rows.laid_handlebody_api_ErrBound), ("handlebody/api.ErrShape", Rows.laid_handlebody_api_ErrShape), ("handlebody/api.ErrFace", Rows.laid_handlebody_api_ErrFace), ("handlebody/api.ErrName", Rows.laid_handlebody_api_ErrName), ("handlebody/api.ErrNone", Rows.laid_handlebody_api_ErrNone), ("handlebody/api.ErrOrder", Rows.laid_handlebody_api_ErrOrder), ("handlebody/api.ErrKind", Rows.laid_handlebody_api_ErrKind)] [.handle, .sentinel, .sentinel, .sentinel, .sentinel, .sentinel, .sentinel, .sentinel, .sentinel] true :=
  Program.laidByTextLater.sub seatTie1 ["errors.errorType", "handlebody/api.ErrText", "handlebody/api.ErrBound", "handlebody/api.ErrShape", "handlebody/api.ErrFace", "handlebody/api.ErrName", "handlebody/api.ErrNone", "handlebody/api.ErrOrder", "handlebody/api.ErrKind"] (by kernel_rfl) (by kernel_rfl)
theorem reebMerges_row_tie : Rows.reebMergesRow.laidByTextAt .later Tryz.pinned [.handle, .sentinel, .sentinel, .sentinel, .sentinel, .sentinel, .sentinel, .sentinel, .sentinel] true :=
  OpenClaim.laidByTextAt_later rfl rfl tie noOwnUnsafe
theorem indexHeights_row_tie : Rows.indexHeightsRow.laidByTextAt .later Tryz.pinned [.handle, .sentinel, .sentinel, .sentinel, .sentinel, .sentinel, .sentinel, .sentinel, .sentinel] true :=
  OpenClaim.laidByTextAt_later rfl rfl tie noOwnUnsafe
theorem indexMaps_row_tie : Rows.indexMapsRow.laidByTextAt .later Tryz.pinned [.handle, .sentinel, .sentinel, .sentinel, .sentinel, .sentinel, .sentinel, .sentinel, .sentinel] true :=
  OpenClaim.laidByTextAt_later rfl rfl tie noOwnUnsafe
theorem reebMergesUpto_row_tie : Rows.reebMergesUptoRow.laidByTextAt .later Tryz.pinned [.handle, .sentinel, .sentinel, .sentinel, .sentinel, .sentinel, .sentinel, .sentinel, .sentinel] true :=
  OpenClaim.laidByTextAt_later rfl rfl tie noOwnUnsafe
theorem indexHeightsUpto_row_tie : Rows.indexHeightsUptoRow.laidByTextAt .later Tryz.pinned [.handle, .sentinel, .sentinel, .sentinel, .sentinel, .sentinel, .sentinel, .sentinel, .sentinel] true :=
  OpenClaim.laidByTextAt_later rfl rfl tie noOwnUnsafe
theorem indexMapsUpto_row_tie : Rows.indexMapsUptoRow.laidByTextAt .later Tryz.pinned [.handle, .sentinel, .sentinel, .sentinel, .sentinel, .sentinel, .sentinel, .sentinel, .sentinel] true :=
  OpenClaim.laidByTextAt_later rfl rfl tie noOwnUnsafe
end Go.Proofs.YtddnjimpdidpaaaGreatDoor
