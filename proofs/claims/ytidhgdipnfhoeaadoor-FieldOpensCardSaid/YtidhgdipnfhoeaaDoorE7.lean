/-
  Two rasters, cell by cell.
-/
import Derived.Test.YtidhgdipnfhoeaaDoorE6
namespace Go.Proofs.YtidhgdipnfhoeaaDoor
open Go Go.Ab
set_option maxRecDepth 100000
theorem kb {K : AV → List AO → Prop} {b b' : Bool} (h : K (.fz .bool b) []) (e : b = b') : K (.fz .bool b') [] := e ▸ h
theorem kz {K : AV → List AO → Prop} {b b' : Int} (h : K (.fz int b) []) (e : b = b') : K (.fz int b') [] := e ▸ h
def perr (a b : Ras) : Nat := if 0 < rerr a then rerr a else if 0 < rerr b then rerr b else if a.1 ≠ b.1 ∨ a.2.1 ≠ b.2.1 then 3 else 0
theorem alike_any (E : Errs) (a b : Ras) (ha : a.2.2.length ≤ 1000000000000) (hb : b.2.2.length ≤ 1000000000000) (K : AV → List AO → Prop)
    (h0 : perr a b = 0 → K (.fz .raw .nilIface) []) (he : ∀ e, perr a b = e → 0 < e → K (.fz .raw (errV (errA E e))) []) : ACall Tryd.prog (GE E) 33 [.fz RasT a, .fz RasT b] [] K := by
  refine acall_mk (E := envAt (GE E) 35 0) (envOk _ _ _) Tryd.func33 rfl rfl rfl rfl rfl ?_
  (repeat' (first | exact trivial | exact fun h => h | refine And.intro ?_ ?_ | (intro hb; first | (simp at hb; done) | (simp at hb) | skip) | omega | exact rfl | exact Nat.le_refl _ | (show _ + 1 ≤ 4294967296; omega) | (dsimp only; omega) | (show wantB _ _ = true; simp; done) | (show wantB _ _ = true; simp; omega) | (show (_ : Bool) = _; simp_all; done) | (exfalso; omega) | refine aRegion_auto (by decide +kernel) ?_ | refine ⟨_, _, REnt.drop ⟨rfl, rfl⟩, ?_⟩ | fail))
  refine ⟨Nat, fun k => ⟨[(2, .ptr 0 0), (3, .ptr 1 0), (4, .fz .raw .nilIface), (10, .ref 2 0 2), (11, .fz int 2), (12, .fz int k)], [.box [.fz int a.1, .fz int a.2.1, .fz (.list int) a.2.2], .box [.fz int b.1, .fz int b.2.1, .fz (.list int) b.2.2], .row RasT [a, b]]⟩, fun k => k ≤ 2 ∧ ∀ j, j < k → rerr (([a, b] : List Ras).getD j a) = 0, fun k => 2 - k, 0, ⟨Nat.zero_le _, fun j h => absurd h (Nat.not_lt_zero _)⟩, Ent.sub rfl ⟨rfl, rfl, rfl, rfl, rfl, rfl⟩, ?_⟩
  intro k ⟨hk, hp⟩
  have hl2 : List.length ([a, b] : List RasT.den) = 2 := rfl
  (repeat' (first | exact trivial | exact fun h => h | refine And.intro ?_ ?_ | (intro hb; first | (simp at hb; done) | (simp at hb) | skip) | omega | exact rfl | exact Nat.le_refl _ | (show _ + 1 ≤ 4294967296; omega) | (dsimp only; omega) | (show wantB _ _ = true; simp; done) | (show wantB _ _ = true; simp; omega) | (show (_ : Bool) = _; simp_all; done) | (exfalso; omega) | refine aRegion_auto (by decide +kernel) ?_ | refine ⟨_, _, REnt.drop ⟨rfl, rfl⟩, ?_⟩ | fail))
  · have hx : ∀ P : Ras → Prop, P a → P b → P (([a, b] : List Ras).getD (0 + Int.toNat (k : Int)) (Ty.dft RasT)) := by
      intro P h1 h2
      rcases (show k = 0 ∨ k = 1 by omega) with rfl | rfl
      · exact h1
      · exact h2
    refine acall_conv [.dat RasT] _ _ _ rfl trivial (acall_frame0 rfl (valid_err E _ (hx (fun x => x.2.2.length ≤ 1000000000000) ha (by assumption)) _ (fun h => ?_) (fun e h1 h2 => ?_)))
    · (repeat' (first | exact trivial | exact fun h => h | refine And.intro ?_ ?_ | (intro hb; first | (simp at hb; done) | (simp at hb) | skip) | omega | exact rfl | exact Nat.le_refl _ | (show _ + 1 ≤ 4294967296; omega) | (dsimp only; omega) | (show wantB _ _ = true; simp; done) | (show wantB _ _ = true; simp; omega) | (show (_ : Bool) = _; simp_all; done) | (exfalso; omega) | refine aRegion_auto (by decide +kernel) ?_ | refine ⟨_, _, REnt.drop ⟨rfl, rfl⟩, ?_⟩ | fail))
      refine ⟨k + 1, ⟨by omega, fun j hj => ?_⟩, by show _ - _ < _ - _; omega, Ent.ren [0, 1, 2] rfl ?_ ?_⟩
      · by_cases hjk : j = k
        · subst hjk
          rcases (show j = 0 ∨ j = 1 by omega) with rfl | rfl
          · exact h
          · exact h
        · exact hp j (by omega)
      · (repeat' (first | exact trivial | exact rfl | refine And.intro ?_ ?_))
      · (repeat' (first | exact trivial | exact rfl | refine And.intro ?_ ?_))
    · (repeat' (first | exact trivial | exact fun h => h | refine And.intro ?_ ?_ | (intro hb; first | (simp at hb; done) | (simp at hb) | skip) | omega | exact rfl | exact Nat.le_refl _ | (show _ + 1 ≤ 4294967296; omega) | (dsimp only; omega) | (show wantB _ _ = true; simp; done) | (show wantB _ _ = true; simp; omega) | (show (_ : Bool) = _; simp_all; done) | (exfalso; omega) | refine aRegion_auto (by decide +kernel) ?_ | refine ⟨_, _, REnt.drop ⟨rfl, rfl⟩, ?_⟩ | fail))
      refine he e ?_ h2
      rcases (show k = 0 ∨ k = 1 by omega) with rfl | rfl
      · have h1 : rerr a = e := h1
        unfold perr; rw [if_pos (by omega)]; exact h1
      · have h1 : rerr b = e := h1
        have h3 := hp 0 (by omega)
        simp at h3
        unfold perr; rw [if_neg (by omega), if_pos (by omega)]; exact h1
  · refine he 3 ?_ (by decide)
    have h1 := hp 0 (by omega)
    have h2 := hp 1 (by omega)
    simp at h1 h2
    unfold perr; rw [if_neg (by omega), if_neg (by omega), if_pos hb]
  · refine h0 ?_
    have h1 := hp 0 (by omega)
    have h2 := hp 1 (by omega)
    simp at h1 h2
    unfold perr; rw [if_neg (by omega), if_neg (by omega), if_neg (by omega)]
end Go.Proofs.YtidhgdipnfhoeaaDoor
