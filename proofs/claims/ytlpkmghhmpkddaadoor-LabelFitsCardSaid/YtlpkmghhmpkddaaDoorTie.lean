/-
  DERIVED. GIVEN WITH THE SEED: THE PROGRAM's TIES (one call each: nine closed facts by the kernel) AND EACH ROW's TIE, after the 31st guide's Derived/Test/Toyas{Tie, Card}.lean. No idea stands in it: it is a product of the set-up. Laid BY PROGRAM, IN A SANDBOX (cutbox-door.mjs). By AI agents, Wed Nov 11 2026. No macro, syntax, notation, axiom, sorry.
-/
import Derived.Test.YtlpkmghhmpkddaaDoorRows
import Derived.LaidByTextLater
import Derived.SevenTiedAt
import Derived.LaidSub
import Derived.LaidOnce
namespace Go.Proofs.YtlpkmghhmpkddaaDoor
open Go
set_option maxRecDepth 100000
theorem seatTie1 : Tryd.prog.laidByTextLater [("errors.errorType", Rows.laid_errors_errorType), ("tidegauge/api.ErrText", Rows.laid_tidegauge_api_ErrText), ("tidegauge/api.ErrBound", Rows.laid_tidegauge_api_ErrBound), ("tidegauge/api.ErrShape", Rows.laid_tidegauge_api_ErrShape), ("tidegauge/api.ErrName", Rows.laid_tidegauge_api_ErrName), ("tidegauge/api.ErrNone", Rows.laid_tidegauge_api_ErrNone), ("tidegauge/api.ErrExist", Rows.laid_tidegauge_api_ErrExist), ("tidegauge/api.ErrFull", Rows.laid_tidegauge_api_ErrFull), ("tidegauge/api.ErrOld", Rows.laid_tidegauge_api_ErrOld), ("tidegauge/api.ErrSum", Rows.laid_tidegauge_api_ErrSum), ("tidegauge/api.ErrOff", Rows.laid_tidegauge_api_ErrOff), ("tidegauge/api.ErrKind", Rows.laid_tidegauge_api_ErrKind)] [.handle, .sentinel, .sentinel, .sentinel, .sentinel, .sentinel, .sentinel, .sentinel, .sentinel, .sentinel, .sentinel, .sentinel] true :=
  Program.laidByTextLater_by_one 225 8 2 (by kernel_rfl) (by kernel_rfl) (by kernel_rfl) (by kernel_rfl) (by kernel_rfl) (by kernel_rfl) (fun _ _ => by kernel_rfl)
theorem noOwnUnsafe : Tryd.pinned.checked.prog.headLifts.contains "ownunsafe" = false := by kernel_rfl
theorem tie : Tryd.prog.laidByTextLater [("errors.errorType", Rows.laid_errors_errorType), ("tidegauge/api.ErrText", Rows.laid_tidegauge_api_ErrText), ("tidegauge/api.ErrBound", Rows.laid_tidegauge_api_ErrBound), ("tidegauge/api.ErrShape", Rows.laid_tidegauge_api_ErrShape), ("tidegauge/api.ErrName", Rows.laid_tidegauge_api_ErrName), ("tidegauge/api.ErrNone", Rows.laid_tidegauge_api_ErrNone), ("tidegauge/api.ErrExist", Rows.laid_tidegauge_api_ErrExist), ("tidegauge/api.ErrFull", Rows.laid_tidegauge_api_ErrFull), ("tidegauge/api.ErrOld", Rows.laid_tidegauge_api_ErrOld), ("tidegauge/api.ErrSum", Rows.laid_tidegauge_api_ErrSum), ("tidegauge/api.ErrOff", Rows.laid_tidegauge_api_ErrOff), ("tidegauge/api.ErrKind", Rows.laid_tidegauge_api_ErrKind)] [.handle, .sentinel, .sentinel, .sentinel, .sentinel, .sentinel, .sentinel, .sentinel, .sentinel, .sentinel, .sentinel, .sentinel] true :=
  Program.laidByTextLater.sub seatTie1 ["errors.errorType", "tidegauge/api.ErrText", "tidegauge/api.ErrBound", "tidegauge/api.ErrShape", "tidegauge/api.ErrName", "tidegauge/api.ErrNone", "tidegauge/api.ErrExist", "tidegauge/api.ErrFull", "tidegauge/api.ErrOld", "tidegauge/api.ErrSum", "tidegauge/api.ErrOff", "tidegauge/api.ErrKind"] (by kernel_rfl) (by kernel_rfl)
theorem labelFits_row_tie : Rows.labelFitsRow.laidByTextAt .later Tryd.pinned [.handle, .sentinel, .sentinel, .sentinel, .sentinel, .sentinel, .sentinel, .sentinel, .sentinel, .sentinel, .sentinel, .sentinel] true :=
  OpenClaim.laidByTextAt_later rfl rfl tie noOwnUnsafe
theorem labelFitsUpto_row_tie : Rows.labelFitsUptoRow.laidByTextAt .later Tryd.pinned [.handle, .sentinel, .sentinel, .sentinel, .sentinel, .sentinel, .sentinel, .sentinel, .sentinel, .sentinel, .sentinel, .sentinel] true :=
  OpenClaim.laidByTextAt_later rfl rfl tie noOwnUnsafe
end Go.Proofs.YtlpkmghhmpkddaaDoor
