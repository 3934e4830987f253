/-
  DERIVED. GIVEN WITH THE SEED: THE PROGRAM's TIES (one call each: nine closed facts by the kernel) AND EACH ROW's TIE, after the 31st guide's Derived/Test/Toyas{Tie, Card}.lean. No idea stands in it: it is a product of the set-up. Laid BY PROGRAM, IN A SANDBOX (cutbox-door.mjs). By AI agents, Wed Nov 11 2026. No macro, syntax, notation, axiom, sorry.
-/
import Derived.Test.YtiohnehccmbplaaDoorRows
import Derived.LaidByTextLater
import Derived.SevenTiedAt
import Derived.LaidSub
import Derived.LaidOnce
namespace Go.Proofs.YtiohnehccmbplaaDoor
open Go
set_option maxRecDepth 100000
theorem seatTie1 : Tryd.prog.laidByTextLater [("math/bits.deBruijn64tab", Rows.laid_math_bits_deBruijn64tab), ("errors.errorType", Rows.laid_errors_errorType), ("tidegauge/api.ErrText", Rows.laid_tidegauge_api_ErrText), ("tidegauge/api.ErrBound", Rows.laid_tidegauge_api_ErrBound), ("tidegauge/api.ErrShape", Rows.laid_tidegauge_api_ErrShape), ("tidegauge/api.ErrName", Rows.laid_tidegauge_api_ErrName), ("tidegauge/api.ErrNone", Rows.laid_tidegauge_api_ErrNone), ("tidegauge/api.ErrExist", Rows.laid_tidegauge_api_ErrExist), ("tidegauge/api.ErrFull", Rows.laid_tidegauge_api_ErrFull), ("tidegauge/api.ErrOld", Rows.laid_tidegauge_api_ErrOld), ("tidegauge/api.ErrSum", Rows.laid_tidegauge_api_ErrSum), ("tidegauge/api.ErrOff", Rows.laid_tidegauge_api_ErrOff), ("tidegauge/api.ErrKind", Rows.laid_tidegauge_api_ErrKind)] [.data, .handle, .sentinel, .sentinel, .sentinel, .sentinel, .sentinel, .sentinel, .sentinel, .sentinel, .sentinel, .sentinel, .sentinel] true :=
  Program.laidByTextLater_by_one 230 8 65 (by kernel_rfl) (by kernel_rfl) (by kernel_rfl) (by kernel_rfl) (by kernel_rfl) (by kernel_rfl) (fun _ _ => by kernel_rfl)
theorem noOwnUnsafe : Tryd.pinned.checked.prog.headLifts.contains "ownunsafe" = false := by kernel_rfl
theorem tie : Tryd.prog.laidByTextLater [("tidegauge/api.ErrBound", Rows.laid_tidegauge_api_ErrBound), ("tidegauge/api.ErrShape", Rows.laid_tidegauge_api_ErrShape), ("tidegauge/api.ErrFull", Rows.laid_tidegauge_api_ErrFull)] [.sentinel, .sentinel, .sentinel] true :=
  Program.laidByTextLater.sub seatTie1 ["tidegauge/api.ErrBound", "tidegauge/api.ErrShape", "tidegauge/api.ErrFull"] (by kernel_rfl) (by kernel_rfl)
theorem waveShort_row_tie : Rows.waveShortRow.laidByTextAt .later Tryd.pinned [.sentinel, .sentinel, .sentinel] true :=
  OpenClaim.laidByTextAt_later rfl rfl tie noOwnUnsafe
theorem tie2 : Tryd.prog.laidByTextLater [("errors.errorType", Rows.laid_errors_errorType), ("tidegauge/api.ErrText", Rows.laid_tidegauge_api_ErrText), ("tidegauge/api.ErrBound", Rows.laid_tidegauge_api_ErrBound), ("tidegauge/api.ErrShape", Rows.laid_tidegauge_api_ErrShape), ("tidegauge/api.ErrName", Rows.laid_tidegauge_api_ErrName), ("tidegauge/api.ErrNone", Rows.laid_tidegauge_api_ErrNone), ("tidegauge/api.ErrExist", Rows.laid_tidegauge_api_ErrExist), ("tidegauge/api.ErrFull", Rows.laid_tidegauge_api_ErrFull), ("tidegauge/api.ErrOld", Rows.laid_tidegauge_api_ErrOld), ("tidegauge/api.ErrSum", Rows.laid_tidegauge_api_ErrSum), ("tidegauge/api.ErrOff", Rows.laid_tidegauge_api_ErrOff), ("tidegauge/api.ErrKind", Rows.laid_tidegauge_api_ErrKind)] [.handle, .sentinel, .sentinel, .sentinel, .sentinel, .sentinel, .sentinel, .sentinel, .sentinel, .sentinel, .sentinel, .sentinel] true :=
  Program.laidByTextLater.sub seatTie1 ["errors.errorType", "tidegauge/api.ErrText", "tidegauge/api.ErrBound", "tidegauge/api.ErrShape", "tidegauge/api.ErrName", "tidegauge/api.ErrNone", "tidegauge/api.ErrExist", "tidegauge/api.ErrFull", "tidegauge/api.ErrOld", "tidegauge/api.ErrSum", "tidegauge/api.ErrOff", "tidegauge/api.ErrKind"] (by kernel_rfl) (by kernel_rfl)
theorem names_row_tie : Rows.namesRow.laidByTextAt .later Tryd.pinned [.handle, .sentinel, .sentinel, .sentinel, .sentinel, .sentinel, .sentinel, .sentinel, .sentinel, .sentinel, .sentinel, .sentinel] true :=
  OpenClaim.laidByTextAt_later rfl rfl tie2 noOwnUnsafe
theorem sumsOf_row_tie : Rows.sumsOfRow.laidByTextAt .later Tryd.pinned [.handle, .sentinel, .sentinel, .sentinel, .sentinel, .sentinel, .sentinel, .sentinel, .sentinel, .sentinel, .sentinel, .sentinel] true :=
  OpenClaim.laidByTextAt_later rfl rfl tie2 noOwnUnsafe
theorem bitsRows_row_tie : Rows.bitsRowsRow.laidByTextAt .later Tryd.pinned [.handle, .sentinel, .sentinel, .sentinel, .sentinel, .sentinel, .sentinel, .sentinel, .sentinel, .sentinel, .sentinel, .sentinel] true :=
  OpenClaim.laidByTextAt_later rfl rfl tie2 noOwnUnsafe
theorem waveReads_row_tie : Rows.waveReadsRow.laidByTextAt .later Tryd.pinned [.handle, .sentinel, .sentinel, .sentinel, .sentinel, .sentinel, .sentinel, .sentinel, .sentinel, .sentinel, .sentinel, .sentinel] true :=
  OpenClaim.laidByTextAt_later rfl rfl tie2 noOwnUnsafe
theorem waveNumbers_row_tie : Rows.waveNumbersRow.laidByTextAt .later Tryd.pinned [.handle, .sentinel, .sentinel, .sentinel, .sentinel, .sentinel, .sentinel, .sentinel, .sentinel, .sentinel, .sentinel, .sentinel] true :=
  OpenClaim.laidByTextAt_later rfl rfl tie2 noOwnUnsafe
theorem waveTicks_row_tie : Rows.waveTicksRow.laidByTextAt .later Tryd.pinned [.handle, .sentinel, .sentinel, .sentinel, .sentinel, .sentinel, .sentinel, .sentinel, .sentinel, .sentinel, .sentinel, .sentinel] true :=
  OpenClaim.laidByTextAt_later rfl rfl tie2 noOwnUnsafe
theorem tie3 : Tryd.prog.laidByTextLater [("math/bits.deBruijn64tab", Rows.laid_math_bits_deBruijn64tab), ("errors.errorType", Rows.laid_errors_errorType), ("tidegauge/api.ErrText", Rows.laid_tidegauge_api_ErrText), ("tidegauge/api.ErrBound", Rows.laid_tidegauge_api_ErrBound), ("tidegauge/api.ErrShape", Rows.laid_tidegauge_api_ErrShape), ("tidegauge/api.ErrName", Rows.laid_tidegauge_api_ErrName), ("tidegauge/api.ErrNone", Rows.laid_tidegauge_api_ErrNone), ("tidegauge/api.ErrExist", Rows.laid_tidegauge_api_ErrExist), ("tidegauge/api.ErrFull", Rows.laid_tidegauge_api_ErrFull), ("tidegauge/api.ErrOld", Rows.laid_tidegauge_api_ErrOld), ("tidegauge/api.ErrSum", Rows.laid_tidegauge_api_ErrSum), ("tidegauge/api.ErrOff", Rows.laid_tidegauge_api_ErrOff), ("tidegauge/api.ErrKind", Rows.laid_tidegauge_api_ErrKind)] [.data, .handle, .sentinel, .sentinel, .sentinel, .sentinel, .sentinel, .sentinel, .sentinel, .sentinel, .sentinel, .sentinel, .sentinel] true :=
  Program.laidByTextLater.sub seatTie1 ["math/bits.deBruijn64tab", "errors.errorType", "tidegauge/api.ErrText", "tidegauge/api.ErrBound", "tidegauge/api.ErrShape", "tidegauge/api.ErrName", "tidegauge/api.ErrNone", "tidegauge/api.ErrExist", "tidegauge/api.ErrFull", "tidegauge/api.ErrOld", "tidegauge/api.ErrSum", "tidegauge/api.ErrOff", "tidegauge/api.ErrKind"] (by kernel_rfl) (by kernel_rfl)
theorem maskReads_row_tie : Rows.maskReadsRow.laidByTextAt .later Tryd.pinned [.data, .handle, .sentinel, .sentinel, .sentinel, .sentinel, .sentinel, .sentinel, .sentinel, .sentinel, .sentinel, .sentinel, .sentinel] true :=
  OpenClaim.laidByTextAt_later rfl rfl tie3 noOwnUnsafe
theorem maskValues_row_tie : Rows.maskValuesRow.laidByTextAt .later Tryd.pinned [.data, .handle, .sentinel, .sentinel, .sentinel, .sentinel, .sentinel, .sentinel, .sentinel, .sentinel, .sentinel, .sentinel, .sentinel] true :=
  OpenClaim.laidByTextAt_later rfl rfl tie3 noOwnUnsafe
theorem tie4 : Tryd.prog.laidByTextLater [("math/bits.deBruijn64tab", Rows.laid_math_bits_deBruijn64tab), ("tidegauge/api.ErrText", Rows.laid_tidegauge_api_ErrText), ("tidegauge/api.ErrBound", Rows.laid_tidegauge_api_ErrBound), ("tidegauge/api.ErrShape", Rows.laid_tidegauge_api_ErrShape), ("tidegauge/api.ErrNone", Rows.laid_tidegauge_api_ErrNone), ("tidegauge/api.ErrFull", Rows.laid_tidegauge_api_ErrFull), ("tidegauge/api.ErrOld", Rows.laid_tidegauge_api_ErrOld), ("tidegauge/api.ErrSum", Rows.laid_tidegauge_api_ErrSum)] [.data, .sentinel, .sentinel, .sentinel, .sentinel, .sentinel, .sentinel, .sentinel] true :=
  Program.laidByTextLater.sub seatTie1 ["math/bits.deBruijn64tab", "tidegauge/api.ErrText", "tidegauge/api.ErrBound", "tidegauge/api.ErrShape", "tidegauge/api.ErrNone", "tidegauge/api.ErrFull", "tidegauge/api.ErrOld", "tidegauge/api.ErrSum"] (by kernel_rfl) (by kernel_rfl)
theorem chunkSizes_row_tie : Rows.chunkSizesRow.laidByTextAt .later Tryd.pinned [.data, .sentinel, .sentinel, .sentinel, .sentinel, .sentinel, .sentinel, .sentinel] true :=
  OpenClaim.laidByTextAt_later rfl rfl tie4 noOwnUnsafe
theorem chunkMerges_row_tie : Rows.chunkMergesRow.laidByTextAt .later Tryd.pinned [.data, .sentinel, .sentinel, .sentinel, .sentinel, .sentinel, .sentinel, .sentinel] true :=
  OpenClaim.laidByTextAt_later rfl rfl tie4 noOwnUnsafe
theorem waveShortUpto_row_tie : Rows.waveShortUptoRow.laidByTextAt .later Tryd.pinned [.sentinel, .sentinel, .sentinel] true :=
  OpenClaim.laidByTextAt_later rfl rfl tie noOwnUnsafe
theorem namesUpto_row_tie : Rows.namesUptoRow.laidByTextAt .later Tryd.pinned [.handle, .sentinel, .sentinel, .sentinel, .sentinel, .sentinel, .sentinel, .sentinel, .sentinel, .sentinel, .sentinel, .sentinel] true :=
  OpenClaim.laidByTextAt_later rfl rfl tie2 noOwnUnsafe
theorem sumsOfUpto_row_tie : Rows.sumsOfUptoRow.laidByTextAt .later Tryd.pinned [.handle, .sentinel, .sentinel, .sentinel, .sentinel, .sentinel, .sentinel, .sentinel, .sentinel, .sentinel, .sentinel, .sentinel] true :=
  OpenClaim.laidByTextAt_later rfl rfl tie2 noOwnUnsafe
theorem bitsRowsUpto_row_tie : Rows.bitsRowsUptoRow.laidByTextAt .later Tryd.pinned [.handle, .sentinel, .sentinel, .sentinel, .sentinel, .sentinel, .sentinel, .sentinel, .sentinel, .sentinel, .sentinel, .sentinel] true :=
  OpenClaim.laidByTextAt_later rfl rfl tie2 noOwnUnsafe
theorem waveReadsUpto_row_tie : Rows.waveReadsUptoRow.laidByTextAt .later Tryd.pinned [.handle, .sentinel, .sentinel, .sentinel, .sentinel, .sentinel, .sentinel, .sentinel, .sentinel, .sentinel, .sentinel, .sentinel] true :=
  OpenClaim.laidByTextAt_later rfl rfl tie2 noOwnUnsafe
theorem waveNumbersUpto_row_tie : Rows.waveNumbersUptoRow.laidByTextAt .later Tryd.pinned [.handle, .sentinel, .sentinel, .sentinel, .sentinel, .sentinel, .sentinel, .sentinel, .sentinel, .sentinel, .sentinel, .sentinel] true :=
  OpenClaim.laidByTextAt_later rfl rfl tie2 noOwnUnsafe
theorem waveTicksUpto_row_tie : Rows.waveTicksUptoRow.laidByTextAt .later Tryd.pinned [.handle, .sentinel, .sentinel, .sentinel, .sentinel, .sentinel, .sentinel, .sentinel, .sentinel, .sentinel, .sentinel, .sentinel] true :=
  OpenClaim.laidByTextAt_later rfl rfl tie2 noOwnUnsafe
theorem maskReadsUpto_row_tie : Rows.maskReadsUptoRow.laidByTextAt .later Tryd.pinned [.data, .handle, .sentinel, .sentinel, .sentinel, .sentinel, .sentinel, .sentinel, .sentinel, .sentinel, .sentinel, .sentinel, .sentinel] true :=
  OpenClaim.laidByTextAt_later rfl rfl tie3 noOwnUnsafe
theorem maskValuesUpto_row_tie : Rows.maskValuesUptoRow.laidByTextAt .later Tryd.pinned [.data, .handle, .sentinel, .sentinel, .sentinel, .sentinel, .sentinel, .sentinel, .sentinel, .sentinel, .sentinel, .sentinel, .sentinel] true :=
  OpenClaim.laidByTextAt_later rfl rfl tie3 noOwnUnsafe
theorem chunkSizesUpto_row_tie : Rows.chunkSizesUptoRow.laidByTextAt .later Tryd.pinned [.data, .sentinel, .sentinel, .sentinel, .sentinel, .sentinel, .sentinel, .sentinel] true :=
  OpenClaim.laidByTextAt_later rfl rfl tie4 noOwnUnsafe
theorem chunkMergesUpto_row_tie : Rows.chunkMergesUptoRow.laidByTextAt .later Tryd.pinned [.data, .sentinel, .sentinel, .sentinel, .sentinel, .sentinel, .sentinel, .sentinel] true :=
  OpenClaim.laidByTextAt_later rfl rfl tie4 noOwnUnsafe
end Go.Proofs.YtiohnehccmbplaaDoor
