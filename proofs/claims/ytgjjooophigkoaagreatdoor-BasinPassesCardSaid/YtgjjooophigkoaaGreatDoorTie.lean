/-
  DERIVED. GIVEN WITH THE SEED: THE PROGRAM's TIES (one call each: nine closed facts by the kernel) AND EACH ROW's TIE, after the 31st guide's Derived/Test/Toyas{Tie, Card}.lean. No idea stands in it: it is a product of the set-up. Laid BY PROGRAM, IN A SANDBOX (cutbox-door.mjs). By AI agents, Wed Nov 11 2026. No macro, syntax, notation, axiom, sorry.
-/
import Derived.Test.YtgjjooophigkoaaGreatDoorRows
import Derived.LaidByTextLater
import Derived.SevenTiedAt
import Derived.LaidSub
import Derived.LaidOnce
namespace Go.Proofs.YtgjjooophigkoaaGreatDoor
open Go
set_option maxRecDepth 100000
theorem seatTie1 : Tryz.prog.laidByTextLater [("math/bits.deBruijn32tab", Rows.laid_math_bits_deBruijn32tab), ("math/bits.deBruijn64tab", Rows.laid_math_bits_deBruijn64tab), ("internal/strconv.uint64pow10", Rows.laid_internal_strconv_uint64pow10), ("unicode/utf8.acceptRanges", Rows.laid_unicode_utf8_acceptRanges), ("errors.errorType", Rows.laid_errors_errorType), ("mercator/api.ErrText", Rows.laid_mercator_api_ErrText), ("mercator/api.ErrBound", Rows.laid_mercator_api_ErrBound), ("mercator/api.ErrShape", Rows.laid_mercator_api_ErrShape), ("mercator/api.ErrRange", Rows.laid_mercator_api_ErrRange), ("mercator/api.ErrName", Rows.laid_mercator_api_ErrName), ("mercator/api.ErrNone", Rows.laid_mercator_api_ErrNone), ("mercator/api.ErrOrder", Rows.laid_mercator_api_ErrOrder), ("mercator/api.ErrFile", Rows.laid_mercator_api_ErrFile), ("strconv.ErrRange", Rows.laid_strconv_ErrRange), ("strconv.ErrSyntax", Rows.laid_strconv_ErrSyntax)] [.data, .data, .data, .data, .handle, .sentinel, .sentinel, .sentinel, .sentinel, .sentinel, .sentinel, .sentinel, .sentinel, .sentinel, .sentinel] true :=
  Program.laidByTextLater_by_one 231 8 65 (by kernel_rfl) (by kernel_rfl) (by kernel_rfl) (by kernel_rfl) (by kernel_rfl) (by kernel_rfl) (fun _ _ => by kernel_rfl)
theorem pin_laid_unicode_utf8_first : Tryz.pinned.checked.prog.pinnedFits "unicode/utf8.first" = true := by kernel_rfl
theorem noOwnUnsafe : Tryz.pinned.checked.prog.headLifts.contains "ownunsafe" = false := by kernel_rfl
theorem tie : Tryz.prog.laidByTextLater [("errors.errorType", Rows.laid_errors_errorType), ("mercator/api.ErrText", Rows.laid_mercator_api_ErrText), ("mercator/api.ErrBound", Rows.laid_mercator_api_ErrBound), ("mercator/api.ErrShape", Rows.laid_mercator_api_ErrShape), ("mercator/api.ErrRange", Rows.laid_mercator_api_ErrRange), ("mercator/api.ErrName", Rows.laid_mercator_api_ErrName), ("mercator/api.ErrNone", Rows.laid_mercator_api_ErrNone), ("mercator/api.ErrOrder", Rows.laid_mercator_api_ErrOrder), ("mercator/api.ErrFile", Rows.laid_mercator_api_ErrFile)] [.handle, .sentinel, .sentinel, .sentinel, .sentinel, .sentinel, .sentinel, .sentinel, .sentinel] true :=
  Program.laidByTextLater.sub seatTie1 ["errors.errorType", "mercator/api.ErrText", "mercator/api.ErrBound", "mercator/api.ErrShape", "mercator/api.ErrRange", "mercator/api.ErrName", "mercator/api.ErrNone", "mercator/api.ErrOrder", "mercator/api.ErrFile"] (by kernel_rfl) (by kernel_rfl)
theorem fieldZones_row_tie : Rows.fieldZonesRow.laidByTextAt .later Tryz.pinned [.handle, .sentinel, .sentinel, .sentinel, .sentinel, .sentinel, .sentinel, .sentinel, .sentinel] true :=
  OpenClaim.laidByTextAt_later rfl rfl tie noOwnUnsafe
theorem basinPasses_row_tie : Rows.basinPassesRow.laidByTextAt .later Tryz.pinned [.handle, .sentinel, .sentinel, .sentinel, .sentinel, .sentinel, .sentinel, .sentinel, .sentinel] true :=
  OpenClaim.laidByTextAt_later rfl rfl tie noOwnUnsafe
theorem fits2 : Tryz.pinned.checked.prog.listedFits [("math/bits.deBruijn32tab", Rows.laid_math_bits_deBruijn32tab), ("math/bits.deBruijn64tab", Rows.laid_math_bits_deBruijn64tab), ("internal/strconv.uint64pow10", Rows.laid_internal_strconv_uint64pow10), ("unicode/utf8.acceptRanges", Rows.laid_unicode_utf8_acceptRanges), ("errors.errorType", Rows.laid_errors_errorType), ("mercator/api.ErrText", Rows.laid_mercator_api_ErrText), ("mercator/api.ErrBound", Rows.laid_mercator_api_ErrBound), ("mercator/api.ErrShape", Rows.laid_mercator_api_ErrShape), ("mercator/api.ErrRange", Rows.laid_mercator_api_ErrRange), ("mercator/api.ErrName", Rows.laid_mercator_api_ErrName), ("mercator/api.ErrNone", Rows.laid_mercator_api_ErrNone), ("mercator/api.ErrOrder", Rows.laid_mercator_api_ErrOrder), ("mercator/api.ErrFile", Rows.laid_mercator_api_ErrFile), ("strconv.ErrRange", Rows.laid_strconv_ErrRange), ("strconv.ErrSyntax", Rows.laid_strconv_ErrSyntax), ("unicode/utf8.first", Rows.laid_unicode_utf8_first)] = true := by
  unfold Program.listedFits
  rw [noOwnUnsafe]
  kernel_rfl
theorem tie2 : Tryz.prog.laidByTextLater [("math/bits.deBruijn32tab", Rows.laid_math_bits_deBruijn32tab), ("math/bits.deBruijn64tab", Rows.laid_math_bits_deBruijn64tab), ("internal/strconv.uint64pow10", Rows.laid_internal_strconv_uint64pow10), ("unicode/utf8.acceptRanges", Rows.laid_unicode_utf8_acceptRanges), ("errors.errorType", Rows.laid_errors_errorType), ("mercator/api.ErrText", Rows.laid_mercator_api_ErrText), ("mercator/api.ErrBound", Rows.laid_mercator_api_ErrBound), ("mercator/api.ErrShape", Rows.laid_mercator_api_ErrShape), ("mercator/api.ErrRange", Rows.laid_mercator_api_ErrRange), ("mercator/api.ErrName", Rows.laid_mercator_api_ErrName), ("mercator/api.ErrNone", Rows.laid_mercator_api_ErrNone), ("mercator/api.ErrOrder", Rows.laid_mercator_api_ErrOrder), ("mercator/api.ErrFile", Rows.laid_mercator_api_ErrFile), ("strconv.ErrRange", Rows.laid_strconv_ErrRange), ("strconv.ErrSyntax", Rows.laid_strconv_ErrSyntax)] [.data, .data, .data, .data, .handle, .sentinel, .sentinel, .sentinel, .sentinel, .sentinel, .sentinel, .sentinel, .sentinel, .sentinel, .sentinel] true :=
  Program.laidByTextLater.sub seatTie1 ["math/bits.deBruijn32tab", "math/bits.deBruijn64tab", "internal/strconv.uint64pow10", "unicode/utf8.acceptRanges", "errors.errorType", "mercator/api.ErrText", "mercator/api.ErrBound", "mercator/api.ErrShape", "mercator/api.ErrRange", "mercator/api.ErrName", "mercator/api.ErrNone", "mercator/api.ErrOrder", "mercator/api.ErrFile", "strconv.ErrRange", "strconv.ErrSyntax"] (by kernel_rfl) (by kernel_rfl)
theorem fieldTexts_row_tie : Rows.fieldTextsRow.laidByTextAt .later Tryz.pinned [.data, .data, .data, .data, .handle, .sentinel, .sentinel, .sentinel, .sentinel, .sentinel, .sentinel, .sentinel, .sentinel, .sentinel, .sentinel, .pinned] true :=
  OpenClaim.laidByTextAt_pinned rfl rfl tie2 rfl rfl rfl rfl (fun y hy _e => by
    simp only [Rows.fieldTextsRow, List.zip_cons_cons, List.zip_nil_right, List.mem_cons, List.mem_nil_iff, or_false] at hy
    rcases hy with rfl | rfl | rfl | rfl | rfl | rfl | rfl | rfl | rfl | rfl | rfl | rfl | rfl | rfl | rfl | rfl
    · cases _e
    · cases _e
    · cases _e
    · cases _e
    · cases _e
    · cases _e
    · cases _e
    · cases _e
    · cases _e
    · cases _e
    · cases _e
    · cases _e
    · cases _e
    · cases _e
    · cases _e
    · exact ⟨pin_laid_unicode_utf8_first, by kernel_rfl⟩) fits2
theorem fieldZonesUpto_row_tie : Rows.fieldZonesUptoRow.laidByTextAt .later Tryz.pinned [.handle, .sentinel, .sentinel, .sentinel, .sentinel, .sentinel, .sentinel, .sentinel, .sentinel] true :=
  OpenClaim.laidByTextAt_later rfl rfl tie noOwnUnsafe
theorem fieldTextsUpto_row_tie : Rows.fieldTextsUptoRow.laidByTextAt .later Tryz.pinned [.data, .data, .data, .data, .handle, .sentinel, .sentinel, .sentinel, .sentinel, .sentinel, .sentinel, .sentinel, .sentinel, .sentinel, .sentinel, .pinned] true :=
  OpenClaim.laidByTextAt_pinned rfl rfl tie2 rfl rfl rfl rfl (fun y hy _e => by
    simp only [Rows.fieldTextsUptoRow, List.zip_cons_cons, List.zip_nil_right, List.mem_cons, List.mem_nil_iff, or_false] at hy
    rcases hy with rfl | rfl | rfl | rfl | rfl | rfl | rfl | rfl | rfl | rfl | rfl | rfl | rfl | rfl | rfl | rfl
    · cases _e
    · cases _e
    · cases _e
    · cases _e
    · cases _e
    · cases _e
    · cases _e
    · cases _e
    · cases _e
    · cases _e
    · cases _e
    · cases _e
    · cases _e
    · cases _e
    · cases _e
    · exact ⟨pin_laid_unicode_utf8_first, by kernel_rfl⟩) fits2
theorem basinPassesUpto_row_tie : Rows.basinPassesUptoRow.laidByTextAt .later Tryz.pinned [.handle, .sentinel, .sentinel, .sentinel, .sentinel, .sentinel, .sentinel, .sentinel, .sentinel] true :=
  OpenClaim.laidByTextAt_later rfl rfl tie noOwnUnsafe
end Go.Proofs.YtgjjooophigkoaaGreatDoor
