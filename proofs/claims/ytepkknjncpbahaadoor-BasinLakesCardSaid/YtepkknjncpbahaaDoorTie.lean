/-
  DERIVED. GIVEN WITH THE SEED: THE PROGRAM's TIES (one call each: nine closed facts by the kernel) AND EACH ROW's TIE, after the 31st guide's Derived/Test/Toyas{Tie, Card}.lean. No idea stands in it: it is a product of the set-up. Laid BY PROGRAM, IN A SANDBOX (cutbox-door.mjs). By AI agents, Wed Nov 11 2026. No macro, syntax, notation, axiom, sorry.
-/
import Derived.Test.YtepkknjncpbahaaDoorRows
import Derived.LaidByTextLater
import Derived.SevenTiedAt
import Derived.LaidSub
import Derived.LaidOnce
namespace Go.Proofs.YtepkknjncpbahaaDoor
open Go
set_option maxRecDepth 100000
theorem seatTie1 : Tryd.prog.laidByTextLater [("errors.errorType", Rows.laid_errors_errorType), ("mercator/api.ErrText", Rows.laid_mercator_api_ErrText), ("mercator/api.ErrBound", Rows.laid_mercator_api_ErrBound), ("mercator/api.ErrShape", Rows.laid_mercator_api_ErrShape), ("mercator/api.ErrRange", Rows.laid_mercator_api_ErrRange), ("mercator/api.ErrName", Rows.laid_mercator_api_ErrName), ("mercator/api.ErrNone", Rows.laid_mercator_api_ErrNone), ("mercator/api.ErrOrder", Rows.laid_mercator_api_ErrOrder), ("mercator/api.ErrFile", Rows.laid_mercator_api_ErrFile)] [.handle, .sentinel, .sentinel, .sentinel, .sentinel, .sentinel, .sentinel, .sentinel, .sentinel] true :=
  Program.laidByTextLater_by_one 168 8 2 (by kernel_rfl) (by kernel_rfl) (by kernel_rfl) (by kernel_rfl) (by kernel_rfl) (by kernel_rfl) (fun _ _ => by kernel_rfl)
theorem noOwnUnsafe : Tryd.pinned.checked.prog.headLifts.contains "ownunsafe" = false := by kernel_rfl
theorem tie : Tryd.prog.laidByTextLater [("mercator/api.ErrBound", Rows.laid_mercator_api_ErrBound), ("mercator/api.ErrShape", Rows.laid_mercator_api_ErrShape), ("mercator/api.ErrRange", Rows.laid_mercator_api_ErrRange)] [.sentinel, .sentinel, .sentinel] true :=
  Program.laidByTextLater.sub seatTie1 ["mercator/api.ErrBound", "mercator/api.ErrShape", "mercator/api.ErrRange"] (by kernel_rfl) (by kernel_rfl)
theorem drainAlways_row_tie : Rows.drainAlwaysRow.laidByTextAt .later Tryd.pinned [.sentinel, .sentinel, .sentinel] true :=
  OpenClaim.laidByTextAt_later rfl rfl tie noOwnUnsafe
theorem tie2 : Tryd.prog.laidByTextLater [("errors.errorType", Rows.laid_errors_errorType), ("mercator/api.ErrText", Rows.laid_mercator_api_ErrText), ("mercator/api.ErrBound", Rows.laid_mercator_api_ErrBound), ("mercator/api.ErrShape", Rows.laid_mercator_api_ErrShape), ("mercator/api.ErrRange", Rows.laid_mercator_api_ErrRange), ("mercator/api.ErrName", Rows.laid_mercator_api_ErrName), ("mercator/api.ErrNone", Rows.laid_mercator_api_ErrNone), ("mercator/api.ErrOrder", Rows.laid_mercator_api_ErrOrder), ("mercator/api.ErrFile", Rows.laid_mercator_api_ErrFile)] [.handle, .sentinel, .sentinel, .sentinel, .sentinel, .sentinel, .sentinel, .sentinel, .sentinel] true :=
  Program.laidByTextLater.sub seatTie1 ["errors.errorType", "mercator/api.ErrText", "mercator/api.ErrBound", "mercator/api.ErrShape", "mercator/api.ErrRange", "mercator/api.ErrName", "mercator/api.ErrNone", "mercator/api.ErrOrder", "mercator/api.ErrFile"] (by kernel_rfl) (by kernel_rfl)
theorem drainFloods_row_tie : Rows.drainFloodsRow.laidByTextAt .later Tryd.pinned [.handle, .sentinel, .sentinel, .sentinel, .sentinel, .sentinel, .sentinel, .sentinel, .sentinel] true :=
  OpenClaim.laidByTextAt_later rfl rfl tie2 noOwnUnsafe
theorem basinParts_row_tie : Rows.basinPartsRow.laidByTextAt .later Tryd.pinned [.handle, .sentinel, .sentinel, .sentinel, .sentinel, .sentinel, .sentinel, .sentinel, .sentinel] true :=
  OpenClaim.laidByTextAt_later rfl rfl tie2 noOwnUnsafe
theorem drainGathers_row_tie : Rows.drainGathersRow.laidByTextAt .later Tryd.pinned [.handle, .sentinel, .sentinel, .sentinel, .sentinel, .sentinel, .sentinel, .sentinel, .sentinel] true :=
  OpenClaim.laidByTextAt_later rfl rfl tie2 noOwnUnsafe
theorem drainStreams_row_tie : Rows.drainStreamsRow.laidByTextAt .later Tryd.pinned [.handle, .sentinel, .sentinel, .sentinel, .sentinel, .sentinel, .sentinel, .sentinel, .sentinel] true :=
  OpenClaim.laidByTextAt_later rfl rfl tie2 noOwnUnsafe
theorem basinLakes_row_tie : Rows.basinLakesRow.laidByTextAt .later Tryd.pinned [.handle, .sentinel, .sentinel, .sentinel, .sentinel, .sentinel, .sentinel, .sentinel, .sentinel] true :=
  OpenClaim.laidByTextAt_later rfl rfl tie2 noOwnUnsafe
theorem drainAlwaysUpto_row_tie : Rows.drainAlwaysUptoRow.laidByTextAt .later Tryd.pinned [.sentinel, .sentinel, .sentinel] true :=
  OpenClaim.laidByTextAt_later rfl rfl tie noOwnUnsafe
theorem drainFloodsUpto_row_tie : Rows.drainFloodsUptoRow.laidByTextAt .later Tryd.pinned [.handle, .sentinel, .sentinel, .sentinel, .sentinel, .sentinel, .sentinel, .sentinel, .sentinel] true :=
  OpenClaim.laidByTextAt_later rfl rfl tie2 noOwnUnsafe
theorem basinPartsUpto_row_tie : Rows.basinPartsUptoRow.laidByTextAt .later Tryd.pinned [.handle, .sentinel, .sentinel, .sentinel, .sentinel, .sentinel, .sentinel, .sentinel, .sentinel] true :=
  OpenClaim.laidByTextAt_later rfl rfl tie2 noOwnUnsafe
theorem drainGathersUpto_row_tie : Rows.drainGathersUptoRow.laidByTextAt .later Tryd.pinned [.handle, .sentinel, .sentinel, .sentinel, .sentinel, .sentinel, .sentinel, .sentinel, .sentinel] true :=
  OpenClaim.laidByTextAt_later rfl rfl tie2 noOwnUnsafe
theorem drainStreamsUpto_row_tie : Rows.drainStreamsUptoRow.laidByTextAt .later Tryd.pinned [.handle, .sentinel, .sentinel, .sentinel, .sentinel, .sentinel, .sentinel, .sentinel, .sentinel] true :=
  OpenClaim.laidByTextAt_later rfl rfl tie2 noOwnUnsafe
theorem basinLakesUpto_row_tie : Rows.basinLakesUptoRow.laidByTextAt .later Tryd.pinned [.handle, .sentinel, .sentinel, .sentinel, .sentinel, .sentinel, .sentinel, .sentinel, .sentinel] true :=
  OpenClaim.laidByTextAt_later rfl rfl tie2 noOwnUnsafe
end Go.Proofs.YtepkknjncpbahaaDoor
