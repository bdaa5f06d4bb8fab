/-
  DERIVED. GIVEN WITH THE SEED: THE PROGRAM's TIES (one call each: nine closed facts by the kernel) AND EACH ROW's TIE, after the 31st guide's Derived/Test/Toyas{Tie, Card}.lean. No idea stands in it: it is a product of the set-up. Laid BY PROGRAM, IN A SANDBOX (cutbox-door.mjs). By AI agents, Wed Nov 11 2026. No macro, syntax, notation, axiom, sorry.
-/
import Derived.Test.YtcfalmdfohphoaaDoorRows
import Derived.LaidByTextLater
import Derived.SevenTiedAt
import Derived.LaidSub
import Derived.LaidOnce
namespace Go.Proofs.YtcfalmdfohphoaaDoor
open Go
set_option maxRecDepth 100000
theorem seatTie1 : Tryd.prog.laidByTextLater [("errors.errorType", Rows.laid_errors_errorType), ("mercator/api.ErrText", Rows.laid_mercator_api_ErrText), ("mercator/api.ErrBound", Rows.laid_mercator_api_ErrBound), ("mercator/api.ErrShape", Rows.laid_mercator_api_ErrShape), ("mercator/api.ErrRange", Rows.laid_mercator_api_ErrRange), ("mercator/api.ErrName", Rows.laid_mercator_api_ErrName), ("mercator/api.ErrNone", Rows.laid_mercator_api_ErrNone), ("mercator/api.ErrOrder", Rows.laid_mercator_api_ErrOrder), ("mercator/api.ErrFile", Rows.laid_mercator_api_ErrFile)] [.handle, .sentinel, .sentinel, .sentinel, .sentinel, .sentinel, .sentinel, .sentinel, .sentinel] true :=
  Program.laidByTextLater_by_one 168 8 2 (by kernel_rfl) (by kernel_rfl) (by kernel_rfl) (by kernel_rfl) (by kernel_rfl) (by kernel_rfl) (fun _ _ => by kernel_rfl)
theorem noOwnUnsafe : Tryd.pinned.checked.prog.headLifts.contains "ownunsafe" = false := by kernel_rfl
theorem tie : Tryd.prog.laidByTextLater [("mercator/api.ErrBound", Rows.laid_mercator_api_ErrBound), ("mercator/api.ErrShape", Rows.laid_mercator_api_ErrShape), ("mercator/api.ErrOrder", Rows.laid_mercator_api_ErrOrder)] [.sentinel, .sentinel, .sentinel] true :=
  Program.laidByTextLater.sub seatTie1 ["mercator/api.ErrBound", "mercator/api.ErrShape", "mercator/api.ErrOrder"] (by kernel_rfl) (by kernel_rfl)
theorem shapeEuler_row_tie : Rows.shapeEulerRow.laidByTextAt .later Tryd.pinned [.sentinel, .sentinel, .sentinel] true :=
  OpenClaim.laidByTextAt_later rfl rfl tie noOwnUnsafe
theorem shapeKeeps_row_tie : Rows.shapeKeepsRow.laidByTextAt .later Tryd.pinned [.sentinel, .sentinel, .sentinel] true :=
  OpenClaim.laidByTextAt_later rfl rfl tie noOwnUnsafe
theorem tie2 : Tryd.prog.laidByTextLater [("errors.errorType", Rows.laid_errors_errorType), ("mercator/api.ErrText", Rows.laid_mercator_api_ErrText), ("mercator/api.ErrBound", Rows.laid_mercator_api_ErrBound), ("mercator/api.ErrShape", Rows.laid_mercator_api_ErrShape), ("mercator/api.ErrRange", Rows.laid_mercator_api_ErrRange), ("mercator/api.ErrName", Rows.laid_mercator_api_ErrName), ("mercator/api.ErrNone", Rows.laid_mercator_api_ErrNone), ("mercator/api.ErrOrder", Rows.laid_mercator_api_ErrOrder), ("mercator/api.ErrFile", Rows.laid_mercator_api_ErrFile)] [.handle, .sentinel, .sentinel, .sentinel, .sentinel, .sentinel, .sentinel, .sentinel, .sentinel] true :=
  Program.laidByTextLater.sub seatTie1 ["errors.errorType", "mercator/api.ErrText", "mercator/api.ErrBound", "mercator/api.ErrShape", "mercator/api.ErrRange", "mercator/api.ErrName", "mercator/api.ErrNone", "mercator/api.ErrOrder", "mercator/api.ErrFile"] (by kernel_rfl) (by kernel_rfl)
theorem shapeFaces_row_tie : Rows.shapeFacesRow.laidByTextAt .later Tryd.pinned [.handle, .sentinel, .sentinel, .sentinel, .sentinel, .sentinel, .sentinel, .sentinel, .sentinel] true :=
  OpenClaim.laidByTextAt_later rfl rfl tie2 noOwnUnsafe
theorem shapeThins_row_tie : Rows.shapeThinsRow.laidByTextAt .later Tryd.pinned [.handle, .sentinel, .sentinel, .sentinel, .sentinel, .sentinel, .sentinel, .sentinel, .sentinel] true :=
  OpenClaim.laidByTextAt_later rfl rfl tie2 noOwnUnsafe
theorem shapeEulerUpto_row_tie : Rows.shapeEulerUptoRow.laidByTextAt .later Tryd.pinned [.sentinel, .sentinel, .sentinel] true :=
  OpenClaim.laidByTextAt_later rfl rfl tie noOwnUnsafe
theorem shapeKeepsUpto_row_tie : Rows.shapeKeepsUptoRow.laidByTextAt .later Tryd.pinned [.sentinel, .sentinel, .sentinel] true :=
  OpenClaim.laidByTextAt_later rfl rfl tie noOwnUnsafe
theorem shapeFacesUpto_row_tie : Rows.shapeFacesUptoRow.laidByTextAt .later Tryd.pinned [.handle, .sentinel, .sentinel, .sentinel, .sentinel, .sentinel, .sentinel, .sentinel, .sentinel] true :=
  OpenClaim.laidByTextAt_later rfl rfl tie2 noOwnUnsafe
theorem shapeThinsUpto_row_tie : Rows.shapeThinsUptoRow.laidByTextAt .later Tryd.pinned [.handle, .sentinel, .sentinel, .sentinel, .sentinel, .sentinel, .sentinel, .sentinel, .sentinel] true :=
  OpenClaim.laidByTextAt_later rfl rfl tie2 noOwnUnsafe
end Go.Proofs.YtcfalmdfohphoaaDoor
