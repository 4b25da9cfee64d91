/-
  DERIVED. GIVEN WITH THE SEED: THE PROGRAM's TIES (one call each: nine closed facts by the kernel) AND EACH ROW's TIE, after the 31st guide's Derived/Test/Toyas{Tie, Card}.lean. No idea stands in it: it is a product of the set-up. Laid BY PROGRAM, IN A SANDBOX (cutbox-door.mjs). By AI agents, Wed Nov 11 2026. No macro, syntax, notation, axiom, sorry.
-/
import Derived.Test.YtoheffkiohfmoaaGreatDoorRows
import Derived.LaidByTextLater
import Derived.SevenTiedAt
import Derived.LaidSub
import Derived.LaidOnce
namespace Go.Proofs.YtoheffkiohfmoaaGreatDoor
open Go
set_option maxRecDepth 100000
theorem seatTie1 : Tryz.prog.laidByTextLater [("unicode/utf8.acceptRanges", Rows.laid_unicode_utf8_acceptRanges), ("errors.errorType", Rows.laid_errors_errorType), ("handlebody/api.ErrText", Rows.laid_handlebody_api_ErrText), ("handlebody/api.ErrBound", Rows.laid_handlebody_api_ErrBound), ("handlebody/api.ErrShape", Rows.laid_handlebody_api_ErrShape), ("handlebody/api.ErrFace", Rows.laid_handlebody_api_ErrFace), ("handlebody/api.ErrName", Rows.laid_handlebody_api_ErrName), ("handlebody/api.ErrNone", Rows.laid_handlebody_api_ErrNone), ("handlebody/api.ErrOrder", Rows.laid_handlebody_api_ErrOrder), ("handlebody/api.ErrKind", Rows.laid_handlebody_api_ErrKind)] [.data, .handle, .sentinel, .sentinel, .sentinel, .sentinel, .sentinel, .sentinel, .sentinel, .sentinel] true :=
  Program.laidByTextLater_by_one 178 8 33 (by kernel_rfl) (by kernel_rfl) (by kernel_rfl) (by kernel_rfl) (by kernel_rfl) (by kernel_rfl) (fun _ _ => by kernel_rfl)
theorem pin_laid_unicode_utf8_first : Tryz.pinned.checked.prog.pinnedFits "unicode/utf8.first" = true := by kernel_rfl
theorem noOwnUnsafe : Tryz.pinned.checked.prog.headLifts.contains "ownunsafe" = false := by kernel_rfl
theorem tie : Tryz.prog.laidByTextLater [("errors.errorType", Rows.laid_errors_errorType), ("handlebody/api.ErrText", Rows.laid_handlebody_api_ErrText), ("handlebody/api.ErrBound", Rows.laid_handlebody_api_ErrBound), ("handlebody/api.ErrShape", Rows.laid_handlebody_api_ErrShape), ("handlebody/api.ErrFace", Rows.laid_handlebody_api_ErrFace), ("handlebody/api.ErrName", Rows.laid_handlebody_api_ErrName), ("handlebody/api.ErrNone", Rows.laid_handlebody_api_ErrNone), ("handlebody/api.ErrOrder", Rows.laid_handlebody_api_ErrOrder), ("handlebody/api.ErrKind", Rows.laid_handlebody_api_ErrKind)] [.handle, .sentinel, .sentinel, .sentinel, .sentinel, .sentinel, .sentinel, .sentinel, .sentinel] true :=
  Program.laidByTextLater.sub seatTie1 ["errors.errorType", "handlebody/api.ErrText", "handlebody/api.ErrBound", "handlebody/api.ErrShape", "handlebody/api.ErrFace", "handlebody/api.ErrName", "handlebody/api.ErrNone", "handlebody/api.ErrOrder", "handlebody/api.ErrKind"] (by kernel_rfl) (by kernel_rfl)
theorem morseFree_row_tie : Rows.morseFreeRow.laidByTextAt .later Tryz.pinned [.handle, .sentinel, .sentinel, .sentinel, .sentinel, .sentinel, .sentinel, .sentinel, .sentinel] true :=
  OpenClaim.laidByTextAt_later rfl rfl tie noOwnUnsafe
theorem morseChecks_row_tie : Rows.morseChecksRow.laidByTextAt .later Tryz.pinned [.handle, .sentinel, .sentinel, .sentinel, .sentinel, .sentinel, .sentinel, .sentinel, .sentinel] true :=
  OpenClaim.laidByTextAt_later rfl rfl tie noOwnUnsafe
theorem fits2 : Tryz.pinned.checked.prog.listedFits [("unicode/utf8.acceptRanges", Rows.laid_unicode_utf8_acceptRanges), ("errors.errorType", Rows.laid_errors_errorType), ("handlebody/api.ErrText", Rows.laid_handlebody_api_ErrText), ("handlebody/api.ErrBound", Rows.laid_handlebody_api_ErrBound), ("handlebody/api.ErrShape", Rows.laid_handlebody_api_ErrShape), ("handlebody/api.ErrFace", Rows.laid_handlebody_api_ErrFace), ("handlebody/api.ErrName", Rows.laid_handlebody_api_ErrName), ("handlebody/api.ErrNone", Rows.laid_handlebody_api_ErrNone), ("handlebody/api.ErrOrder", Rows.laid_handlebody_api_ErrOrder), ("handlebody/api.ErrKind", Rows.laid_handlebody_api_ErrKind), ("unicode/utf8.first", Rows.laid_unicode_utf8_first)] = true := by
  unfold Program.listedFits
  rw [noOwnUnsafe]
  kernel_rfl
theorem tie2 : Tryz.prog.laidByTextLater [("unicode/utf8.acceptRanges", Rows.laid_unicode_utf8_acceptRanges), ("errors.errorType", Rows.laid_errors_errorType), ("handlebody/api.ErrText", Rows.laid_handlebody_api_ErrText), ("handlebody/api.ErrBound", Rows.laid_handlebody_api_ErrBound), ("handlebody/api.ErrShape", Rows.laid_handlebody_api_ErrShape), ("handlebody/api.ErrFace", Rows.laid_handlebody_api_ErrFace), ("handlebody/api.ErrName", Rows.laid_handlebody_api_ErrName), ("handlebody/api.ErrNone", Rows.laid_handlebody_api_ErrNone), ("handlebody/api.ErrOrder", Rows.laid_handlebody_api_ErrOrder), ("handlebody/api.ErrKind", Rows.laid_handlebody_api_ErrKind)] [.data, .handle, .sentinel, .sentinel, .sentinel, .sentinel, .sentinel, .sentinel, .sentinel, .sentinel] true :=
  Program.laidByTextLater.sub seatTie1 ["unicode/utf8.acceptRanges", "errors.errorType", "handlebody/api.ErrText", "handlebody/api.ErrBound", "handlebody/api.ErrShape", "handlebody/api.ErrFace", "handlebody/api.ErrName", "handlebody/api.ErrNone", "handlebody/api.ErrOrder", "handlebody/api.ErrKind"] (by kernel_rfl) (by kernel_rfl)
theorem cubesBorders_row_tie : Rows.cubesBordersRow.laidByTextAt .later Tryz.pinned [.data, .handle, .sentinel, .sentinel, .sentinel, .sentinel, .sentinel, .sentinel, .sentinel, .sentinel, .pinned] true :=
  OpenClaim.laidByTextAt_pinned rfl rfl tie2 rfl rfl rfl rfl (fun y hy _e => by
    simp only [Rows.cubesBordersRow, List.zip_cons_cons, List.zip_nil_right, List.mem_cons, List.mem_nil_iff, or_false] at hy
    rcases hy with rfl | rfl | rfl | rfl | rfl | rfl | rfl | rfl | rfl | rfl | rfl
    · cases _e
    · cases _e
    · cases _e
    · cases _e
    · cases _e
    · cases _e
    · cases _e
    · cases _e
    · cases _e
    · cases _e
    · exact ⟨pin_laid_unicode_utf8_first, by kernel_rfl⟩) fits2
theorem morseFreeUpto_row_tie : Rows.morseFreeUptoRow.laidByTextAt .later Tryz.pinned [.handle, .sentinel, .sentinel, .sentinel, .sentinel, .sentinel, .sentinel, .sentinel, .sentinel] true :=
  OpenClaim.laidByTextAt_later rfl rfl tie noOwnUnsafe
theorem morseChecksUpto_row_tie : Rows.morseChecksUptoRow.laidByTextAt .later Tryz.pinned [.handle, .sentinel, .sentinel, .sentinel, .sentinel, .sentinel, .sentinel, .sentinel, .sentinel] true :=
  OpenClaim.laidByTextAt_later rfl rfl tie noOwnUnsafe
theorem cubesBordersUpto_row_tie : Rows.cubesBordersUptoRow.laidByTextAt .later Tryz.pinned [.data, .handle, .sentinel, .sentinel, .sentinel, .sentinel, .sentinel, .sentinel, .sentinel, .sentinel, .pinned] true :=
  OpenClaim.laidByTextAt_pinned rfl rfl tie2 rfl rfl rfl rfl (fun y hy _e => by
    simp only [Rows.cubesBordersUptoRow, List.zip_cons_cons, List.zip_nil_right, List.mem_cons, List.mem_nil_iff, or_false] at hy
    rcases hy with rfl | rfl | rfl | rfl | rfl | rfl | rfl | rfl | rfl | rfl | rfl
    · cases _e
    · cases _e
    · cases _e
    · cases _e
    · cases _e
    · cases _e
    · cases _e
    · cases _e
    · cases _e
    · cases _e
    · exact ⟨pin_laid_unicode_utf8_first, by kernel_rfl⟩) fits2
end Go.Proofs.YtoheffkiohfmoaaGreatDoor
