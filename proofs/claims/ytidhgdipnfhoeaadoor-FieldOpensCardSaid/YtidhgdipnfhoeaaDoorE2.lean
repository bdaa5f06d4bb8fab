/-
  Rasters: are they right?
-/
import Derived.Test.YtidhgdipnfhoeaaDoorE1
namespace Go.Proofs.YtidhgdipnfhoeaaDoor
open Go Go.Ab
set_option maxRecDepth 100000
/-- where the errors lie -/
structure Errs where
  text : Addr
  bound : Addr
  shape : Addr
  range : Addr
  name : Addr
  none : Addr
  order : Addr
  file : Addr
abbrev errV (a : Addr) : Value := .iface 102 (.pointer (some a))
abbrev GE (E : Errs) : List (Nat × Value) := [(0, errV E.shape), (1, errV E.range), (2, errV E.bound)]
/-! ### is a raster right? -/
abbrev Ras := Int × Int × List Int
/-- 0, or the number of an error -/
def rerr (a : Ras) : Nat := if 128 < a.1 ∨ 128 < a.2.1 then 2 else if a.1 < 1 ∨ a.2.1 < 1 ∨ (a.2.2.length : Int) ≠ a.1 * a.2.1 then 3 else if a.2.2.any bigB then 4 else 0
theorem mul_bd {a b A B : Int} (h1 : 0 ≤ a) (h2 : a ≤ A) (h3 : 0 ≤ b) (h4 : b ≤ B) : 0 ≤ a * b ∧ a * b ≤ A * B :=
  ⟨Int.mul_nonneg h1 h3, Int.mul_le_mul h2 h4 h3 (Int.le_trans h1 h2)⟩
theorem valid_any (E : Errs) (a : Ras) (hl : a.2.2.length ≤ 1000000000000) (K : AV → List AO → Prop)
    (h0 : rerr a = 0 → K (.fz .raw .nilIface) []) (h2 : rerr a = 2 → K (.fz .raw (errV E.bound)) []) (h3 : rerr a = 3 → K (.fz .raw (errV E.shape)) []) (h4 : rerr a = 4 → K (.fz .raw (errV E.range)) []) : ACall Tryd.prog (GE E) 17 [.fz RasT a] [] K := by
  refine acall_mk (E := envAt (GE E) 36 0) (envOk _ _ _) Tryd.func17 rfl rfl rfl rfl rfl ?_
  (repeat' (first | exact trivial | exact fun h => h | refine And.intro ?_ ?_ | (intro hb; first | (simp at hb; done) | (simp at hb) | skip) | omega | exact rfl | exact Nat.le_refl _ | (show _ + 1 ≤ 4294967296; omega) | (dsimp only; omega) | (show wantB _ _ = true; simp; done) | (show wantB _ _ = true; simp; omega) | (show (_ : Bool) = _; simp_all; done) | (exfalso; omega) | refine aRegion_auto (by decide +kernel) ?_ | fail))
  · refine ⟨_, _, REnt.drop ⟨rfl, rfl⟩, ?_⟩
    exact h2 (by unfold rerr; rw [if_pos hb])
  · have := mul_bd (a := a.1) (b := a.2.1) (A := 128) (B := 128) (by omega) (by omega) (by omega) (by omega); omega
  · have := mul_bd (a := a.1) (b := a.2.1) (A := 128) (B := 128) (by omega) (by omega) (by omega) (by omega); omega
  · refine ⟨_, _, REnt.drop ⟨rfl, rfl⟩, ?_⟩
    exact h3 (by unfold rerr; rw [if_neg (by omega), if_pos (by omega)])
  · refine acall_frame0 rfl (containsFunc_any (GE E) a.2.2 _ bigB (big1_any (GE E)) hl _ ?_)
    (repeat' (first | exact trivial | exact fun h => h | refine And.intro ?_ ?_ | (intro hb; first | (simp at hb; done) | (simp at hb) | skip) | omega | exact rfl | exact Nat.le_refl _ | (show _ + 1 ≤ 4294967296; omega) | (dsimp only; omega) | (show wantB _ _ = true; simp; done) | (show wantB _ _ = true; simp; omega) | (show (_ : Bool) = _; simp_all; done) | (exfalso; omega) | refine aRegion_auto (by decide +kernel) ?_ | fail))
    · refine ⟨_, _, REnt.drop ⟨rfl, rfl⟩, ?_⟩
      exact h4 (by unfold rerr; rw [if_neg (by omega), if_neg (by omega), if_pos (by simpa using hb)])
    · refine ⟨_, _, REnt.drop ⟨rfl, rfl⟩, ?_⟩
      exact h0 (by unfold rerr; rw [if_neg (by omega), if_neg (by omega), if_neg (by simpa using hb)])
end Go.Proofs.YtidhgdipnfhoeaaDoor
