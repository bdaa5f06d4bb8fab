/-
  Rasters: heights, sizes.
-/
import Derived.Test.YtidhgdipnfhoeaaDoorTab
namespace Go.Proofs.YtidhgdipnfhoeaaDoor
open Go Go.Ab
set_option maxRecDepth 100000
abbrev int : Ty := .int .i64
abbrev RasT : Ty := .pair int (.pair int (.list int))
def bigB (h : Int) : Bool := decide (1048576 < h) || decide (h < -1048576)
theorem bif_or (a b : Bool) : (bif a then true else b) = (a || b) := by cases a <;> rfl
theorem bif_and (a b : Bool) : (bif a then b else false) = (a && b) := by cases a <;> rfl
theorem great_any (G : List (Nat × Value)) (h : Int) (K : AV → List AO → Prop) (hK : K (.fz .bool (bigB h)) []) : ACall Tryd.prog G 31 [.fz int h] [] K := by
  refine acall_mk (E := envAt G 9 0) (envOk _ _ _) Tryd.func31 rfl rfl rfl rfl rfl ?_
  (repeat' (first | exact trivial | exact fun h => h | refine And.intro ?_ ?_ | (intro hb; first | (simp at hb; done) | (simp at hb) | skip) | omega | exact rfl | exact Nat.le_refl _ | (show _ + 1 ≤ 4294967296; omega) | (dsimp only; omega) | (show wantB _ _ = true; simp; done) | (show wantB _ _ = true; simp; omega) | (show (_ : Bool) = _; simp_all; done) | (exfalso; omega) | refine aRegion_auto (by decide +kernel) ?_ | fail))
  refine ⟨_, _, REnt.refl _ _ _, ?_⟩
  rw [bif_or]; exact hK
theorem big1_any (G : List (Nat × Value)) (h : Int) (K : AV → List AO → Prop) (hK : K (.fz .bool (bigB h)) []) : ACall Tryd.prog G 36 [.fz int h] [] K := by
  refine acall_mk (E := envAt G 9 0) (envOk _ _ _) Tryd.func36 rfl rfl rfl rfl rfl ?_
  (repeat' (first | exact trivial | exact fun h => h | refine And.intro ?_ ?_ | (intro hb; first | (simp at hb; done) | (simp at hb) | skip) | omega | exact rfl | exact Nat.le_refl _ | (show _ + 1 ≤ 4294967296; omega) | (dsimp only; omega) | (show wantB _ _ = true; simp; done) | (show wantB _ _ = true; simp; omega) | (show (_ : Bool) = _; simp_all; done) | (exfalso; omega) | refine aRegion_auto (by decide +kernel) ?_ | fail))
  refine ⟨_, _, REnt.refl _ _ _, ?_⟩
  rw [bif_or]; exact hK
def idxF (p : Int → Bool) (xs : List Int) : Int := match xs.findIdx? p with
  | some i => (i : Nat)
  | none => -1
theorem indexFunc_any (G : List (Nat × Value)) (xs : List Int) (g : FuncId) (p : Int → Bool) (hg : ∀ h K, K (.fz .bool (p h)) [] → ACall Tryd.prog G g [.fz int h] [] K) (hl : xs.length ≤ 1000000000000) (K : AV → List AO → Prop) (hK : K (.fz int (idxF p xs)) []) :
    ACall Tryd.prog G 46 [.fz (.list int) xs, .fn g []] [] K := by
  refine acall_mk (E := envAt G 19 0) (envOk _ _ _) Tryd.func46 rfl rfl rfl rfl rfl ?_
  (repeat' (first | exact trivial | exact fun h => h | refine And.intro ?_ ?_ | (intro hb; first | (simp at hb; done) | (simp at hb) | skip) | omega | exact rfl | exact Nat.le_refl _ | (show _ + 1 ≤ 4294967296; omega) | (dsimp only; omega) | (show wantB _ _ = true; simp; done) | (show wantB _ _ = true; simp; omega) | (show (_ : Bool) = _; simp_all; done) | (exfalso; omega) | refine aRegion_auto (by decide +kernel) ?_ | fail))
  refine ⟨Nat, fun k => ⟨[(0, .fz (.list int) xs), (1, .fn g []), (7, .fz int xs.length), (8, .fz int k)], []⟩, fun k => k ≤ xs.length ∧ ∀ j, j < k → p (xs.getD j 0) = false, fun k => xs.length - k, 0, ⟨Nat.zero_le _, fun j h => absurd h (Nat.not_lt_zero _)⟩, Ent.sub rfl ⟨rfl, rfl, rfl, rfl⟩, ?_⟩
  intro k ⟨hk, hp⟩
  (repeat' (first | exact trivial | exact fun h => h | refine And.intro ?_ ?_ | (intro hb; first | (simp at hb; done) | (simp at hb) | skip) | omega | exact rfl | exact Nat.le_refl _ | (show _ + 1 ≤ 4294967296; omega) | (dsimp only; omega) | (show wantB _ _ = true; simp; done) | (show wantB _ _ = true; simp; omega) | (show (_ : Bool) = _; simp_all; done) | (exfalso; omega) | refine aRegion_auto (by decide +kernel) ?_ | fail))
  · refine acall_frame0 rfl (hg _ _ ?_)
    (repeat' (first | exact trivial | exact fun h => h | refine And.intro ?_ ?_ | (intro hb; first | (simp at hb; done) | (simp at hb) | skip) | omega | exact rfl | exact Nat.le_refl _ | (show _ + 1 ≤ 4294967296; omega) | (dsimp only; omega) | (show wantB _ _ = true; simp; done) | (show wantB _ _ = true; simp; omega) | (show (_ : Bool) = _; simp_all; done) | (exfalso; omega) | refine aRegion_auto (by decide +kernel) ?_ | fail))
    · refine ⟨_, _, REnt.refl _ _ _, ?_⟩
      have : idxF p xs = k := by
        unfold idxF
        have : xs.findIdx? p = some k := by
          rw [List.findIdx?_eq_some_iff_getElem]
          refine ⟨by assumption, ?_, fun j hj => ?_⟩
          · simpa [List.getD, show k < xs.length by assumption] using hb
          · have := hp j hj
            have hlt : j < xs.length := by omega
            simpa [List.getD, hlt] using this
        rw [this]
      rw [this] at hK; exact hK
    · refine ⟨k + 1, ⟨by omega, fun j hj => ?_⟩, by show _ - _ < _ - _; omega, Ent.sub rfl ⟨rfl, rfl, rfl, rfl⟩⟩
      by_cases h : j = k
      · subst h; exact hb
      · exact hp j (by omega)
  · refine ⟨_, _, REnt.refl _ _ _, ?_⟩
    have : idxF p xs = -1 := by
      unfold idxF
      have : xs.findIdx? p = none := by
        rw [List.findIdx?_eq_none_iff]
        intro x hx
        obtain ⟨j, hj, rfl⟩ := List.getElem_of_mem hx
        have := hp j (by omega)
        simpa [List.getD, hj] using this
      rw [this]
    rw [this] at hK; exact hK
theorem containsFunc_any (G : List (Nat × Value)) (xs : List Int) (g : FuncId) (p : Int → Bool) (hg : ∀ h K, K (.fz .bool (p h)) [] → ACall Tryd.prog G g [.fz int h] [] K) (hl : xs.length ≤ 1000000000000) (K : AV → List AO → Prop) (hK : K (.fz .bool (xs.any p)) []) :
    ACall Tryd.prog G 35 [.fz (.list int) xs, .fn g []] [] K := by
  refine acall_mk (E := envAt G 9 0) (envOk _ _ _) Tryd.func35 rfl rfl rfl rfl rfl ?_
  (repeat' (first | exact trivial | exact fun h => h | refine And.intro ?_ ?_ | (intro hb; first | (simp at hb; done) | (simp at hb) | skip) | omega | exact rfl | exact Nat.le_refl _ | (show _ + 1 ≤ 4294967296; omega) | (dsimp only; omega) | (show wantB _ _ = true; simp; done) | (show wantB _ _ = true; simp; omega) | (show (_ : Bool) = _; simp_all; done) | (exfalso; omega) | refine aRegion_auto (by decide +kernel) ?_ | fail))
  refine acall_frame0 rfl (indexFunc_any G xs g p hg hl _ ?_)
  (repeat' (first | exact trivial | exact fun h => h | refine And.intro ?_ ?_ | (intro hb; first | (simp at hb; done) | (simp at hb) | skip) | omega | exact rfl | exact Nat.le_refl _ | (show _ + 1 ≤ 4294967296; omega) | (dsimp only; omega) | (show wantB _ _ = true; simp; done) | (show wantB _ _ = true; simp; omega) | (show (_ : Bool) = _; simp_all; done) | (exfalso; omega) | refine aRegion_auto (by decide +kernel) ?_ | fail))
  refine ⟨_, _, REnt.refl _ _ _, ?_⟩
  have : decide ((0 : Int) ≤ idxF p xs) = xs.any p := by
    unfold idxF
    cases h : xs.findIdx? p with
    | none =>
      rw [List.findIdx?_eq_none_iff] at h
      simp; intro x hx; simpa using h x hx
    | some i =>
      obtain ⟨h1, h2, _⟩ := List.findIdx?_eq_some_iff_getElem.1 h
      simp; exact ⟨_, List.getElem_mem h1, h2⟩
  rw [this]; exact hK
end Go.Proofs.YtidhgdipnfhoeaaDoor
