/-
  DERIVED. GIVEN WITH THE SEED: THE PROGRAM's TIES (one call each: nine closed facts by the kernel) AND EACH ROW's TIE, after the 31st guide's Derived/Test/Toyas{Tie, Card}.lean. No idea stands in it: it is a product of the set-up. Laid BY PROGRAM, IN A SANDBOX (cutbox-door.mjs). By AI agents, Wed Nov 11 2026. No macro, syntax, notation, axiom, sorry.
-/
import Derived.Test.YtfnjgminbjopeaaDoorRows
import Derived.LaidByTextLater
import Derived.SevenTiedAt
import Derived.LaidSub
import Derived.LaidOnce
namespace Go.Proofs.YtfnjgminbjopeaaDoor
open Go
set_option maxRecDepth 100000
theorem seatTie1 : Tryd.prog.laidByTextLater [("math/bits.deBruijn64tab", Rows.laid_math_bits_deBruijn64tab), ("unicode/utf8.acceptRanges", Rows.laid_unicode_utf8_acceptRanges), ("errors.errorType", Rows.laid_errors_errorType), ("tidegauge/api.ErrText", Rows.laid_tidegauge_api_ErrText), ("tidegauge/api.ErrBound", Rows.laid_tidegauge_api_ErrBound), ("tidegauge/api.ErrShape", Rows.laid_tidegauge_api_ErrShape), ("tidegauge/api.ErrName", Rows.laid_tidegauge_api_ErrName), ("tidegauge/api.ErrNone", Rows.laid_tidegauge_api_ErrNone), ("tidegauge/api.ErrExist", Rows.laid_tidegauge_api_ErrExist), ("tidegauge/api.ErrFull", Rows.laid_tidegauge_api_ErrFull), ("tidegauge/api.ErrOld", Rows.laid_tidegauge_api_ErrOld), ("tidegauge/api.ErrSum", Rows.laid_tidegauge_api_ErrSum), ("tidegauge/api.ErrOff", Rows.laid_tidegauge_api_ErrOff), ("tidegauge/api.ErrKind", Rows.laid_tidegauge_api_ErrKind)] [.data, .data, .handle, .sentinel, .sentinel, .sentinel, .sentinel, .sentinel, .sentinel, .sentinel, .sentinel, .sentinel, .sentinel, .sentinel] true :=
  Program.laidByTextLater_by_one 240 8 65 (by kernel_rfl) (by kernel_rfl) (by kernel_rfl) (by kernel_rfl) (by kernel_rfl) (by kernel_rfl) (fun _ _ => by kernel_rfl)
theorem pin_laid_unicode_utf8_first : Tryd.pinned.checked.prog.pinnedFits "unicode/utf8.first" = true := by kernel_rfl
theorem noOwnUnsafe : Tryd.pinned.checked.prog.headLifts.contains "ownunsafe" = false := by kernel_rfl
theorem tie : Tryd.prog.laidByTextLater [("math/bits.deBruijn64tab", Rows.laid_math_bits_deBruijn64tab), ("tidegauge/api.ErrText", Rows.laid_tidegauge_api_ErrText), ("tidegauge/api.ErrBound", Rows.laid_tidegauge_api_ErrBound), ("tidegauge/api.ErrShape", Rows.laid_tidegauge_api_ErrShape), ("tidegauge/api.ErrNone", Rows.laid_tidegauge_api_ErrNone), ("tidegauge/api.ErrFull", Rows.laid_tidegauge_api_ErrFull), ("tidegauge/api.ErrOld", Rows.laid_tidegauge_api_ErrOld), ("tidegauge/api.ErrSum", Rows.laid_tidegauge_api_ErrSum)] [.data, .sentinel, .sentinel, .sentinel, .sentinel, .sentinel, .sentinel, .sentinel] true :=
  Program.laidByTextLater.sub seatTie1 ["math/bits.deBruijn64tab", "tidegauge/api.ErrText", "tidegauge/api.ErrBound", "tidegauge/api.ErrShape", "tidegauge/api.ErrNone", "tidegauge/api.ErrFull", "tidegauge/api.ErrOld", "tidegauge/api.ErrSum"] (by kernel_rfl) (by kernel_rfl)
theorem chunkMerges_row_tie : Rows.chunkMergesRow.laidByTextAt .later Tryd.pinned [.data, .sentinel, .sentinel, .sentinel, .sentinel, .sentinel, .sentinel, .sentinel] true :=
  OpenClaim.laidByTextAt_later rfl rfl tie noOwnUnsafe
theorem fits2 : Tryd.pinned.checked.prog.listedFits [("unicode/utf8.acceptRanges", Rows.laid_unicode_utf8_acceptRanges), ("errors.errorType", Rows.laid_errors_errorType), ("tidegauge/api.ErrText", Rows.laid_tidegauge_api_ErrText), ("tidegauge/api.ErrBound", Rows.laid_tidegauge_api_ErrBound), ("tidegauge/api.ErrShape", Rows.laid_tidegauge_api_ErrShape), ("tidegauge/api.ErrName", Rows.laid_tidegauge_api_ErrName), ("tidegauge/api.ErrNone", Rows.laid_tidegauge_api_ErrNone), ("tidegauge/api.ErrExist", Rows.laid_tidegauge_api_ErrExist), ("tidegauge/api.ErrFull", Rows.laid_tidegauge_api_ErrFull), ("tidegauge/api.ErrOld", Rows.laid_tidegauge_api_ErrOld), ("tidegauge/api.ErrSum", Rows.laid_tidegauge_api_ErrSum), ("tidegauge/api.ErrOff", Rows.laid_tidegauge_api_ErrOff), ("tidegauge/api.ErrKind", Rows.laid_tidegauge_api_ErrKind), ("unicode/utf8.first", Rows.laid_unicode_utf8_first)] = true := by
  unfold Program.listedFits
  rw [noOwnUnsafe]
  kernel_rfl
theorem tie2 : Tryd.prog.laidByTextLater [("unicode/utf8.acceptRanges", Rows.laid_unicode_utf8_acceptRanges), ("errors.errorType", Rows.laid_errors_errorType), ("tidegauge/api.ErrText", Rows.laid_tidegauge_api_ErrText), ("tidegauge/api.ErrBound", Rows.laid_tidegauge_api_ErrBound), ("tidegauge/api.ErrShape", Rows.laid_tidegauge_api_ErrShape), ("tidegauge/api.ErrName", Rows.laid_tidegauge_api_ErrName), ("tidegauge/api.ErrNone", Rows.laid_tidegauge_api_ErrNone), ("tidegauge/api.ErrExist", Rows.laid_tidegauge_api_ErrExist), ("tidegauge/api.ErrFull", Rows.laid_tidegauge_api_ErrFull), ("tidegauge/api.ErrOld", Rows.laid_tidegauge_api_ErrOld), ("tidegauge/api.ErrSum", Rows.laid_tidegauge_api_ErrSum), ("tidegauge/api.ErrOff", Rows.laid_tidegauge_api_ErrOff), ("tidegauge/api.ErrKind", Rows.laid_tidegauge_api_ErrKind)] [.data, .handle, .sentinel, .sentinel, .sentinel, .sentinel, .sentinel, .sentinel, .sentinel, .sentinel, .sentinel, .sentinel, .sentinel] true :=
  Program.laidByTextLater.sub seatTie1 ["unicode/utf8.acceptRanges", "errors.errorType", "tidegauge/api.ErrText", "tidegauge/api.ErrBound", "tidegauge/api.ErrShape", "tidegauge/api.ErrName", "tidegauge/api.ErrNone", "tidegauge/api.ErrExist", "tidegauge/api.ErrFull", "tidegauge/api.ErrOld", "tidegauge/api.ErrSum", "tidegauge/api.ErrOff", "tidegauge/api.ErrKind"] (by kernel_rfl) (by kernel_rfl)
theorem labelTexts_row_tie : Rows.labelTextsRow.laidByTextAt .later Tryd.pinned [.data, .handle, .sentinel, .sentinel, .sentinel, .sentinel, .sentinel, .sentinel, .sentinel, .sentinel, .sentinel, .sentinel, .sentinel, .pinned] true :=
  OpenClaim.laidByTextAt_pinned rfl rfl tie2 rfl rfl rfl rfl (fun y hy _e => by
    simp only [Rows.labelTextsRow, List.zip_cons_cons, List.zip_nil_right, List.mem_cons, List.mem_nil_iff, or_false] at hy
    rcases hy with rfl | rfl | rfl | rfl | rfl | rfl | rfl | rfl | rfl | rfl | rfl | rfl | rfl | rfl
    · cases _e
    · cases _e
    · cases _e
    · cases _e
    · cases _e
    · cases _e
    · cases _e
    · cases _e
    · cases _e
    · cases _e
    · cases _e
    · cases _e
    · cases _e
    · exact ⟨pin_laid_unicode_utf8_first, by kernel_rfl⟩) fits2
theorem headMany_row_tie : Rows.headManyRow.laidByTextAt .later Tryd.pinned [.data, .handle, .sentinel, .sentinel, .sentinel, .sentinel, .sentinel, .sentinel, .sentinel, .sentinel, .sentinel, .sentinel, .sentinel, .pinned] true :=
  OpenClaim.laidByTextAt_pinned rfl rfl tie2 rfl rfl rfl rfl (fun y hy _e => by
    simp only [Rows.headManyRow, List.zip_cons_cons, List.zip_nil_right, List.mem_cons, List.mem_nil_iff, or_false] at hy
    rcases hy with rfl | rfl | rfl | rfl | rfl | rfl | rfl | rfl | rfl | rfl | rfl | rfl | rfl | rfl
    · cases _e
    · cases _e
    · cases _e
    · cases _e
    · cases _e
    · cases _e
    · cases _e
    · cases _e
    · cases _e
    · cases _e
    · cases _e
    · cases _e
    · cases _e
    · exact ⟨pin_laid_unicode_utf8_first, by kernel_rfl⟩) fits2
theorem tie3 : Tryd.prog.laidByTextLater [("errors.errorType", Rows.laid_errors_errorType), ("tidegauge/api.ErrText", Rows.laid_tidegauge_api_ErrText), ("tidegauge/api.ErrBound", Rows.laid_tidegauge_api_ErrBound), ("tidegauge/api.ErrShape", Rows.laid_tidegauge_api_ErrShape), ("tidegauge/api.ErrName", Rows.laid_tidegauge_api_ErrName), ("tidegauge/api.ErrNone", Rows.laid_tidegauge_api_ErrNone), ("tidegauge/api.ErrExist", Rows.laid_tidegauge_api_ErrExist), ("tidegauge/api.ErrFull", Rows.laid_tidegauge_api_ErrFull), ("tidegauge/api.ErrOld", Rows.laid_tidegauge_api_ErrOld), ("tidegauge/api.ErrSum", Rows.laid_tidegauge_api_ErrSum), ("tidegauge/api.ErrOff", Rows.laid_tidegauge_api_ErrOff), ("tidegauge/api.ErrKind", Rows.laid_tidegauge_api_ErrKind)] [.handle, .sentinel, .sentinel, .sentinel, .sentinel, .sentinel, .sentinel, .sentinel, .sentinel, .sentinel, .sentinel, .sentinel] true :=
  Program.laidByTextLater.sub seatTie1 ["errors.errorType", "tidegauge/api.ErrText", "tidegauge/api.ErrBound", "tidegauge/api.ErrShape", "tidegauge/api.ErrName", "tidegauge/api.ErrNone", "tidegauge/api.ErrExist", "tidegauge/api.ErrFull", "tidegauge/api.ErrOld", "tidegauge/api.ErrSum", "tidegauge/api.ErrOff", "tidegauge/api.ErrKind"] (by kernel_rfl) (by kernel_rfl)
theorem labelFits_row_tie : Rows.labelFitsRow.laidByTextAt .later Tryd.pinned [.handle, .sentinel, .sentinel, .sentinel, .sentinel, .sentinel, .sentinel, .sentinel, .sentinel, .sentinel, .sentinel, .sentinel] true :=
  OpenClaim.laidByTextAt_later rfl rfl tie3 noOwnUnsafe
theorem tie4 : Tryd.prog.laidByTextLater [("math/bits.deBruijn64tab", Rows.laid_math_bits_deBruijn64tab), ("errors.errorType", Rows.laid_errors_errorType), ("tidegauge/api.ErrText", Rows.laid_tidegauge_api_ErrText), ("tidegauge/api.ErrBound", Rows.laid_tidegauge_api_ErrBound), ("tidegauge/api.ErrShape", Rows.laid_tidegauge_api_ErrShape), ("tidegauge/api.ErrName", Rows.laid_tidegauge_api_ErrName), ("tidegauge/api.ErrNone", Rows.laid_tidegauge_api_ErrNone), ("tidegauge/api.ErrExist", Rows.laid_tidegauge_api_ErrExist), ("tidegauge/api.ErrFull", Rows.laid_tidegauge_api_ErrFull), ("tidegauge/api.ErrOld", Rows.laid_tidegauge_api_ErrOld), ("tidegauge/api.ErrSum", Rows.laid_tidegauge_api_ErrSum), ("tidegauge/api.ErrOff", Rows.laid_tidegauge_api_ErrOff), ("tidegauge/api.ErrKind", Rows.laid_tidegauge_api_ErrKind)] [.data, .handle, .sentinel, .sentinel, .sentinel, .sentinel, .sentinel, .sentinel, .sentinel, .sentinel, .sentinel, .sentinel, .sentinel] true :=
  Program.laidByTextLater.sub seatTie1 ["math/bits.deBruijn64tab", "errors.errorType", "tidegauge/api.ErrText", "tidegauge/api.ErrBound", "tidegauge/api.ErrShape", "tidegauge/api.ErrName", "tidegauge/api.ErrNone", "tidegauge/api.ErrExist", "tidegauge/api.ErrFull", "tidegauge/api.ErrOld", "tidegauge/api.ErrSum", "tidegauge/api.ErrOff", "tidegauge/api.ErrKind"] (by kernel_rfl) (by kernel_rfl)
theorem chunkCodes_row_tie : Rows.chunkCodesRow.laidByTextAt .later Tryd.pinned [.data, .handle, .sentinel, .sentinel, .sentinel, .sentinel, .sentinel, .sentinel, .sentinel, .sentinel, .sentinel, .sentinel, .sentinel] true :=
  OpenClaim.laidByTextAt_later rfl rfl tie4 noOwnUnsafe
theorem chunkReads_row_tie : Rows.chunkReadsRow.laidByTextAt .later Tryd.pinned [.data, .handle, .sentinel, .sentinel, .sentinel, .sentinel, .sentinel, .sentinel, .sentinel, .sentinel, .sentinel, .sentinel, .sentinel] true :=
  OpenClaim.laidByTextAt_later rfl rfl tie4 noOwnUnsafe
theorem chunkPlain_row_tie : Rows.chunkPlainRow.laidByTextAt .later Tryd.pinned [.data, .handle, .sentinel, .sentinel, .sentinel, .sentinel, .sentinel, .sentinel, .sentinel, .sentinel, .sentinel, .sentinel, .sentinel] true :=
  OpenClaim.laidByTextAt_later rfl rfl tie4 noOwnUnsafe
theorem fits5 : Tryd.pinned.checked.prog.listedFits [("unicode/utf8.acceptRanges", Rows.laid_unicode_utf8_acceptRanges), ("tidegauge/api.ErrText", Rows.laid_tidegauge_api_ErrText), ("tidegauge/api.ErrBound", Rows.laid_tidegauge_api_ErrBound), ("tidegauge/api.ErrShape", Rows.laid_tidegauge_api_ErrShape), ("tidegauge/api.ErrName", Rows.laid_tidegauge_api_ErrName), ("tidegauge/api.ErrNone", Rows.laid_tidegauge_api_ErrNone), ("tidegauge/api.ErrFull", Rows.laid_tidegauge_api_ErrFull), ("tidegauge/api.ErrOld", Rows.laid_tidegauge_api_ErrOld), ("unicode/utf8.first", Rows.laid_unicode_utf8_first)] = true := by
  unfold Program.listedFits
  rw [noOwnUnsafe]
  kernel_rfl
theorem tie5 : Tryd.prog.laidByTextLater [("unicode/utf8.acceptRanges", Rows.laid_unicode_utf8_acceptRanges), ("tidegauge/api.ErrText", Rows.laid_tidegauge_api_ErrText), ("tidegauge/api.ErrBound", Rows.laid_tidegauge_api_ErrBound), ("tidegauge/api.ErrShape", Rows.laid_tidegauge_api_ErrShape), ("tidegauge/api.ErrName", Rows.laid_tidegauge_api_ErrName), ("tidegauge/api.ErrNone", Rows.laid_tidegauge_api_ErrNone), ("tidegauge/api.ErrFull", Rows.laid_tidegauge_api_ErrFull), ("tidegauge/api.ErrOld", Rows.laid_tidegauge_api_ErrOld)] [.data, .sentinel, .sentinel, .sentinel, .sentinel, .sentinel, .sentinel, .sentinel] true :=
  Program.laidByTextLater.sub seatTie1 ["unicode/utf8.acceptRanges", "tidegauge/api.ErrText", "tidegauge/api.ErrBound", "tidegauge/api.ErrShape", "tidegauge/api.ErrName", "tidegauge/api.ErrNone", "tidegauge/api.ErrFull", "tidegauge/api.ErrOld"] (by kernel_rfl) (by kernel_rfl)
theorem headRises_row_tie : Rows.headRisesRow.laidByTextAt .later Tryd.pinned [.data, .sentinel, .sentinel, .sentinel, .sentinel, .sentinel, .sentinel, .sentinel, .pinned] true :=
  OpenClaim.laidByTextAt_pinned rfl rfl tie5 rfl rfl rfl rfl (fun y hy _e => by
    simp only [Rows.headRisesRow, List.zip_cons_cons, List.zip_nil_right, List.mem_cons, List.mem_nil_iff, or_false] at hy
    rcases hy with rfl | rfl | rfl | rfl | rfl | rfl | rfl | rfl | rfl
    · cases _e
    · cases _e
    · cases _e
    · cases _e
    · cases _e
    · cases _e
    · cases _e
    · cases _e
    · exact ⟨pin_laid_unicode_utf8_first, by kernel_rfl⟩) fits5
theorem chunkMergesUpto_row_tie : Rows.chunkMergesUptoRow.laidByTextAt .later Tryd.pinned [.data, .sentinel, .sentinel, .sentinel, .sentinel, .sentinel, .sentinel, .sentinel] true :=
  OpenClaim.laidByTextAt_later rfl rfl tie noOwnUnsafe
theorem labelTextsUpto_row_tie : Rows.labelTextsUptoRow.laidByTextAt .later Tryd.pinned [.data, .handle, .sentinel, .sentinel, .sentinel, .sentinel, .sentinel, .sentinel, .sentinel, .sentinel, .sentinel, .sentinel, .sentinel, .pinned] true :=
  OpenClaim.laidByTextAt_pinned rfl rfl tie2 rfl rfl rfl rfl (fun y hy _e => by
    simp only [Rows.labelTextsUptoRow, List.zip_cons_cons, List.zip_nil_right, List.mem_cons, List.mem_nil_iff, or_false] at hy
    rcases hy with rfl | rfl | rfl | rfl | rfl | rfl | rfl | rfl | rfl | rfl | rfl | rfl | rfl | rfl
    · cases _e
    · cases _e
    · cases _e
    · cases _e
    · cases _e
    · cases _e
    · cases _e
    · cases _e
    · cases _e
    · cases _e
    · cases _e
    · cases _e
    · cases _e
    · exact ⟨pin_laid_unicode_utf8_first, by kernel_rfl⟩) fits2
theorem labelFitsUpto_row_tie : Rows.labelFitsUptoRow.laidByTextAt .later Tryd.pinned [.handle, .sentinel, .sentinel, .sentinel, .sentinel, .sentinel, .sentinel, .sentinel, .sentinel, .sentinel, .sentinel, .sentinel] true :=
  OpenClaim.laidByTextAt_later rfl rfl tie3 noOwnUnsafe
theorem chunkCodesUpto_row_tie : Rows.chunkCodesUptoRow.laidByTextAt .later Tryd.pinned [.data, .handle, .sentinel, .sentinel, .sentinel, .sentinel, .sentinel, .sentinel, .sentinel, .sentinel, .sentinel, .sentinel, .sentinel] true :=
  OpenClaim.laidByTextAt_later rfl rfl tie4 noOwnUnsafe
theorem chunkReadsUpto_row_tie : Rows.chunkReadsUptoRow.laidByTextAt .later Tryd.pinned [.data, .handle, .sentinel, .sentinel, .sentinel, .sentinel, .sentinel, .sentinel, .sentinel, .sentinel, .sentinel, .sentinel, .sentinel] true :=
  OpenClaim.laidByTextAt_later rfl rfl tie4 noOwnUnsafe
theorem chunkPlainUpto_row_tie : Rows.chunkPlainUptoRow.laidByTextAt .later Tryd.pinned [.data, .handle, .sentinel, .sentinel, .sentinel, .sentinel, .sentinel, .sentinel, .sentinel, .sentinel, .sentinel, .sentinel, .sentinel] true :=
  OpenClaim.laidByTextAt_later rfl rfl tie4 noOwnUnsafe
theorem headRisesUpto_row_tie : Rows.headRisesUptoRow.laidByTextAt .later Tryd.pinned [.data, .sentinel, .sentinel, .sentinel, .sentinel, .sentinel, .sentinel, .sentinel, .pinned] true :=
  OpenClaim.laidByTextAt_pinned rfl rfl tie5 rfl rfl rfl rfl (fun y hy _e => by
    simp only [Rows.headRisesUptoRow, List.zip_cons_cons, List.zip_nil_right, List.mem_cons, List.mem_nil_iff, or_false] at hy
    rcases hy with rfl | rfl | rfl | rfl | rfl | rfl | rfl | rfl | rfl
    · cases _e
    · cases _e
    · cases _e
    · cases _e
    · cases _e
    · cases _e
    · cases _e
    · cases _e
    · exact ⟨pin_laid_unicode_utf8_first, by kernel_rfl⟩) fits5
theorem headManyUpto_row_tie : Rows.headManyUptoRow.laidByTextAt .later Tryd.pinned [.data, .handle, .sentinel, .sentinel, .sentinel, .sentinel, .sentinel, .sentinel, .sentinel, .sentinel, .sentinel, .sentinel, .sentinel, .pinned] true :=
  OpenClaim.laidByTextAt_pinned rfl rfl tie2 rfl rfl rfl rfl (fun y hy _e => by
    simp only [Rows.headManyUptoRow, List.zip_cons_cons, List.zip_nil_right, List.mem_cons, List.mem_nil_iff, or_false] at hy
    rcases hy with rfl | rfl | rfl | rfl | rfl | rfl | rfl | rfl | rfl | rfl | rfl | rfl | rfl | rfl
    · cases _e
    · cases _e
    · cases _e
    · cases _e
    · cases _e
    · cases _e
    · cases _e
    · cases _e
    · cases _e
    · cases _e
    · cases _e
    · cases _e
    · cases _e
    · exact ⟨pin_laid_unicode_utf8_first, by kernel_rfl⟩) fits2
end Go.Proofs.YtfnjgminbjopeaaDoor
