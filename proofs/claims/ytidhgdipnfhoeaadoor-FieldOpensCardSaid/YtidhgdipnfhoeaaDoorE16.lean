/-
  FieldOpens answers true: of every raster and of none.
-/
import Derived.Test.YtidhgdipnfhoeaaDoorE11
import Derived.Test.YtidhgdipnfhoeaaDoorE15
namespace Go.Proofs.YtidhgdipnfhoeaaDoor
open Go Go.Ab
set_option maxRecDepth 100000
theorem opens_some (E : Errs) (a : Ras) (reach : Int) (hl : a.2.2.length ≤ 9223372036854775807) (hr : I64 reach) : ACall Tryd.prog (GE E) 3 [.fptr RasT a, .fz int reach] [] fun r _ => r = .fz .bool true :=
  opens_any E a reach hl hr (fun h0 h1 _ => opens_plain h0 h1) _ rfl
theorem opens_nil (E : Errs) (reach : Int) : ACall Tryd.prog (GE E) 3 [.fz .raw (.pointer none), .fz int reach] [] fun r _ => r = .fz .bool true := by
  refine acall_mk (E := envAt (GE E) 228 0) (envOk _ _ _) Tryd.func3 rfl rfl rfl rfl rfl ?_
  (repeat' (first | exact trivial | exact fun h => h | refine And.intro ?_ ?_ | (intro hb; first | (simp at hb; done) | (simp at hb) | skip) | omega | exact rfl | exact Nat.le_refl _ | (show _ + 1 ≤ 4294967296; omega) | (dsimp only; omega) | (show wantB _ _ = true; simp; done) | (show wantB _ _ = true; simp; omega) | (show (_ : Bool) = _; simp_all; done) | (exfalso; omega) | refine aRegion_auto (by decide +kernel) ?_ | fail))
  refine acall_frame0 rfl (rasters_any E _ ?_)
  (repeat' (first | exact trivial | exact fun h => h | refine And.intro ?_ ?_ | (intro hb; first | (simp at hb; done) | (simp at hb) | skip) | omega | exact rfl | exact Nat.le_refl _ | (show _ + 1 ≤ 4294967296; omega) | (dsimp only; omega) | (show wantB _ _ = true; simp; done) | (show wantB _ _ = true; simp; omega) | (show (_ : Bool) = _; simp_all; done) | (exfalso; omega) | refine aRegion_auto (by decide +kernel) ?_ | fail))
  refine acall_frame0 rfl (small_nil _ _ ?_)
  (repeat' (first | exact trivial | exact fun h => h | refine And.intro ?_ ?_ | (intro hb; first | (simp at hb; done) | (simp at hb) | skip) | omega | exact rfl | exact Nat.le_refl _ | (show _ + 1 ≤ 4294967296; omega) | (dsimp only; omega) | (show wantB _ _ = true; simp; done) | (show wantB _ _ = true; simp; omega) | (show (_ : Bool) = _; simp_all; done) | (exfalso; omega) | refine aRegion_auto (by decide +kernel) ?_ | refine ⟨_, _, REnt.drop ⟨rfl, rfl⟩, ?_⟩ | fail))
end Go.Proofs.YtidhgdipnfhoeaaDoor
