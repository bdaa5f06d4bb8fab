/-
  The same numbers; a raster of such a size; two rasters.
-/
import Derived.Test.YtidhgdipnfhoeaaDoorE5
namespace Go.Proofs.YtidhgdipnfhoeaaDoor
open Go Go.Ab
set_option maxRecDepth 100000
theorem sameInts_any (G : List (Nat × Value)) (xs ys : List Int) (hl : xs.length ≤ 1000000000000) (K : AV → List AO → Prop) (hK : K (.fz .bool (decide (xs = ys))) []) :
    ACall Tryd.prog G 32 [.fz (.list int) xs, .fz (.list int) ys] [] K := by
  refine acall_mk (E := envAt G 26 0) (envOk _ _ _) Tryd.func32 rfl rfl rfl rfl rfl ?_
  (repeat' (first | exact trivial | exact fun h => h | refine And.intro ?_ ?_ | (intro hb; first | (simp at hb; done) | (simp at hb) | skip) | omega | exact rfl | exact Nat.le_refl _ | (show _ + 1 ≤ 4294967296; omega) | (dsimp only; omega) | (show wantB _ _ = true; simp; done) | (show wantB _ _ = true; simp; omega) | (show (_ : Bool) = _; simp_all; done) | (exfalso; omega) | refine aRegion_auto (by decide +kernel) ?_ | fail))
  · refine ⟨_, _, REnt.drop ⟨rfl, rfl⟩, ?_⟩
    have : decide (xs = ys) = false := by simp; intro h; subst h; exact hb rfl
    rw [this] at hK; exact hK
  refine ⟨Nat, fun k => ⟨[(0, .fz (.list int) xs), (1, .fz (.list int) ys), (5, .fz int k)], []⟩, fun k => k ≤ xs.length ∧ ∀ j, j < k → xs.getD j 0 = ys.getD j 0, fun k => xs.length - k, 0, ⟨Nat.zero_le _, fun j h => absurd h (Nat.not_lt_zero _)⟩, Ent.sub rfl ⟨rfl, rfl, rfl⟩, ?_⟩
  intro k ⟨hk, hp⟩
  (repeat' (first | exact trivial | exact fun h => h | refine And.intro ?_ ?_ | (intro hb; first | (simp at hb; done) | (simp at hb) | skip) | omega | exact rfl | exact Nat.le_refl _ | (show _ + 1 ≤ 4294967296; omega) | (dsimp only; omega) | (show wantB _ _ = true; simp; done) | (show wantB _ _ = true; simp; omega) | (show (_ : Bool) = _; simp_all; done) | (exfalso; omega) | refine aRegion_auto (by decide +kernel) ?_ | fail))
  · refine ⟨_, _, REnt.drop ⟨rfl, rfl⟩, ?_⟩
    have : decide (xs = ys) = false := by
      simp; intro h; subst h
      exact hb rfl
    rw [this] at hK; exact hK
  · refine ⟨k + 1, ⟨by omega, fun j hj => ?_⟩, by show _ - _ < _ - _; omega, Ent.sub rfl ⟨rfl, rfl, rfl⟩⟩
    by_cases h : j = k
    · subst h; exact hb
    · exact hp j (by omega)
  · refine ⟨_, _, REnt.drop ⟨rfl, rfl⟩, ?_⟩
    have : decide (xs = ys) = true := by
      simp
      refine List.ext_getElem (by omega) fun i h1 h2 => ?_
      have := hp i (by omega)
      simpa [List.getD, h1, h2] using this
    rw [this] at hK; exact hK
def isB (a : Ras) (w h : Int) (l : List Int) : Bool := decide (a.1 = w) && decide (a.2.1 = h) && decide (a.2.2 = l)
theorem is_any (G : List (Nat × Value)) (a : Ras) (w h : Int) (l : List Int) (hl : a.2.2.length ≤ 1000000000000) (K : AV → List AO → Prop) (hK : K (.fz .bool (isB a w h l)) []) :
    ACall Tryd.prog G 13 [.fz RasT a, .fz int w, .fz int h, .fz (.list int) l] [] K := by
  refine acall_mk (E := envAt G 25 0) (envOk _ _ _) Tryd.func13 rfl rfl rfl rfl rfl ?_
  (repeat' (first | exact trivial | exact fun h => h | refine And.intro ?_ ?_ | (intro hb; first | (simp at hb; done) | (simp at hb) | skip) | omega | exact rfl | exact Nat.le_refl _ | (show _ + 1 ≤ 4294967296; omega) | (dsimp only; omega) | (show wantB _ _ = true; simp; done) | (show wantB _ _ = true; simp; omega) | (show (_ : Bool) = _; simp_all; done) | (exfalso; omega) | refine aRegion_auto (by decide +kernel) ?_ | refine ⟨_, _, REnt.drop ⟨rfl, rfl⟩, ?_⟩ | fail))
  · refine acall_frame0 rfl (sameInts_any _ _ _ hl _ ?_)
    (repeat' (first | exact trivial | exact fun h => h | refine And.intro ?_ ?_ | (intro hb; first | (simp at hb; done) | (simp at hb) | skip) | omega | exact rfl | exact Nat.le_refl _ | (show _ + 1 ≤ 4294967296; omega) | (dsimp only; omega) | (show wantB _ _ = true; simp; done) | (show wantB _ _ = true; simp; omega) | (show (_ : Bool) = _; simp_all; done) | (exfalso; omega) | refine aRegion_auto (by decide +kernel) ?_ | refine ⟨_, _, REnt.drop ⟨rfl, rfl⟩, ?_⟩ | fail))
    have e : isB a w h l = decide (a.2.2 = l) := by simp [isB, hb]
    simp only [hb, beq_self_eq_true, cond_true]
    rw [e] at hK; exact hK
  · have e : isB a w h l = false := by
      unfold isB
      by_cases h1 : a.1 = w
      · simp [h1, hb h1]
      · simp [h1]
    rw [e] at hK; exact hK
end Go.Proofs.YtidhgdipnfhoeaaDoor
