/-
  Most, least; opened, closed; two rasters.
-/
import Derived.Test.YtidhgdipnfhoeaaDoorE4
namespace Go.Proofs.YtidhgdipnfhoeaaDoor
open Go Go.Ab
set_option maxRecDepth 100000
abbrev RE (a : Ras) (v : Value) : AV := .tup [.fz RasT a, .fz .raw v]
theorem most_any (E : Errs) (a : Ras) (reach : Int) (hl : a.2.2.length ≤ 1000000000000) (hr : I64 reach) (K : AV → List AO → Prop)
    (h0 : rerr a = 0 → 0 ≤ reach → reach ≤ 128 → K (RE (a.1, a.2.1, allW maxL a reach a.2.1.toNat) .nilIface) [])
    (he : ∀ e, aerr a reach = e → 0 < e → K (RE (0, 0, []) (errV (errA E e))) []) : ACall Tryd.prog (GE E) 28 [.fz RasT a, .fz int reach] [] K := by
  refine acall_mk (E := envAt (GE E) 11 0) (envOk _ _ _) Tryd.func28 rfl rfl rfl rfl rfl ?_
  (repeat' (first | exact trivial | exact fun h => h | refine And.intro ?_ ?_ | (intro hb; first | (simp at hb; done) | (simp at hb) | skip) | omega | exact rfl | exact Nat.le_refl _ | (show _ + 1 ≤ 4294967296; omega) | (dsimp only; omega) | (show wantB _ _ = true; simp; done) | (show wantB _ _ = true; simp; omega) | (show (_ : Bool) = _; simp_all; done) | (exfalso; omega) | refine aRegion_auto (by decide +kernel) ?_ | fail))
  refine acall_conv [.dat RasT, .keep, .keep] _ _ _ rfl trivial (acall_frame0 rfl (around_any E a reach _ maxL (fun xs K hn hs _ hK => max_any _ xs hn (by omega) K hK) hl hr _ (fun h1 h2 h3 => ?_) (fun e h1 h2 => ?_)))
  · (repeat' (first | exact trivial | exact fun h => h | refine And.intro ?_ ?_ | (intro hb; first | (simp at hb; done) | (simp at hb) | skip) | omega | exact rfl | exact Nat.le_refl _ | (show _ + 1 ≤ 4294967296; omega) | (dsimp only; omega) | (show wantB _ _ = true; simp; done) | (show wantB _ _ = true; simp; omega) | (show (_ : Bool) = _; simp_all; done) | (exfalso; omega) | refine aRegion_auto (by decide +kernel) ?_ | fail))
    refine ⟨_, _, (REnt.conv [.dat RasT, .keep] _ rfl trivial).trans (REnt.drop ⟨rfl, rfl⟩), ?_⟩
    exact h0 h1 h2 h3
  · (repeat' (first | exact trivial | exact fun h => h | refine And.intro ?_ ?_ | (intro hb; first | (simp at hb; done) | (simp at hb) | skip) | omega | exact rfl | exact Nat.le_refl _ | (show _ + 1 ≤ 4294967296; omega) | (dsimp only; omega) | (show wantB _ _ = true; simp; done) | (show wantB _ _ = true; simp; omega) | (show (_ : Bool) = _; simp_all; done) | (exfalso; omega) | refine aRegion_auto (by decide +kernel) ?_ | fail))
    refine ⟨_, _, (REnt.conv [.dat RasT, .keep] _ rfl trivial).trans (REnt.drop ⟨rfl, rfl⟩), ?_⟩
    exact he e h1 h2
theorem least_any (E : Errs) (a : Ras) (reach : Int) (hl : a.2.2.length ≤ 1000000000000) (hr : I64 reach) (K : AV → List AO → Prop)
    (h0 : rerr a = 0 → 0 ≤ reach → reach ≤ 128 → K (RE (a.1, a.2.1, allW minL a reach a.2.1.toNat) .nilIface) [])
    (he : ∀ e, aerr a reach = e → 0 < e → K (RE (0, 0, []) (errV (errA E e))) []) : ACall Tryd.prog (GE E) 29 [.fz RasT a, .fz int reach] [] K := by
  refine acall_mk (E := envAt (GE E) 11 0) (envOk _ _ _) Tryd.func29 rfl rfl rfl rfl rfl ?_
  (repeat' (first | exact trivial | exact fun h => h | refine And.intro ?_ ?_ | (intro hb; first | (simp at hb; done) | (simp at hb) | skip) | omega | exact rfl | exact Nat.le_refl _ | (show _ + 1 ≤ 4294967296; omega) | (dsimp only; omega) | (show wantB _ _ = true; simp; done) | (show wantB _ _ = true; simp; omega) | (show (_ : Bool) = _; simp_all; done) | (exfalso; omega) | refine aRegion_auto (by decide +kernel) ?_ | fail))
  refine acall_conv [.dat RasT, .keep, .keep] _ _ _ rfl trivial (acall_frame0 rfl (around_any E a reach _ minL (fun xs K hn hs _ hK => min_any _ xs hn (by omega) K hK) hl hr _ (fun h1 h2 h3 => ?_) (fun e h1 h2 => ?_)))
  · (repeat' (first | exact trivial | exact fun h => h | refine And.intro ?_ ?_ | (intro hb; first | (simp at hb; done) | (simp at hb) | skip) | omega | exact rfl | exact Nat.le_refl _ | (show _ + 1 ≤ 4294967296; omega) | (dsimp only; omega) | (show wantB _ _ = true; simp; done) | (show wantB _ _ = true; simp; omega) | (show (_ : Bool) = _; simp_all; done) | (exfalso; omega) | refine aRegion_auto (by decide +kernel) ?_ | fail))
    refine ⟨_, _, (REnt.conv [.dat RasT, .keep] _ rfl trivial).trans (REnt.drop ⟨rfl, rfl⟩), ?_⟩
    exact h0 h1 h2 h3
  · (repeat' (first | exact trivial | exact fun h => h | refine And.intro ?_ ?_ | (intro hb; first | (simp at hb; done) | (simp at hb) | skip) | omega | exact rfl | exact Nat.le_refl _ | (show _ + 1 ≤ 4294967296; omega) | (dsimp only; omega) | (show wantB _ _ = true; simp; done) | (show wantB _ _ = true; simp; omega) | (show (_ : Bool) = _; simp_all; done) | (exfalso; omega) | refine aRegion_auto (by decide +kernel) ?_ | fail))
    refine ⟨_, _, (REnt.conv [.dat RasT, .keep] _ rfl trivial).trans (REnt.drop ⟨rfl, rfl⟩), ?_⟩
    exact he e h1 h2
/-- most, least of a raster -/
def onR (F : List Int → Int) (a : Ras) (reach : Int) : Ras := (a.1, a.2.1, allW F a reach a.2.1.toNat)
theorem onR_len {F : List Int → Int} {a : Ras} {reach : Int} (h : rerr a = 0) : (onR F a reach).2.2.length = a.2.2.length := by
  obtain ⟨⟨h1, h2, _, _, h3⟩, _⟩ := rerr_ok h
  show (allW F a reach a.2.1.toNat).length = _
  rw [allW_len]
  have : ((a.2.1.toNat * a.1.toNat : Nat) : Int) = a.2.1 * a.1 := by rw [Int.natCast_mul]; congr 1 <;> omega
  rw [Int.mul_comm] at this; omega
theorem open_any (E : Errs) (a : Ras) (reach : Int) (h0 : rerr a = 0) (h1 : 0 ≤ reach) (h2 : reach ≤ 128) (hb : rerr (onR minL a reach) = 0) (hl : a.2.2.length ≤ 1000000000000) (K : AV → List AO → Prop)
    (hK : K (RE (onR maxL (onR minL a reach) reach) .nilIface) []) : ACall Tryd.prog (GE E) 11 [.fz RasT a, .fz int reach] [] K := by
  have hr : I64 reach := ⟨by omega, by omega⟩
  have ha : ∀ e, aerr a reach = e → 0 < e → False := fun e h he => by unfold aerr at h; rw [if_neg (by omega), if_neg (by omega)] at h; omega
  have hb' : ∀ e, aerr (onR minL a reach) reach = e → 0 < e → False := fun e h he => by unfold aerr at h; rw [if_neg (by omega), if_neg (by omega)] at h; omega
  refine acall_mk (E := envAt (GE E) 23 0) (envOk _ _ _) Tryd.func11 rfl rfl rfl rfl rfl ?_
  (repeat' (first | exact trivial | exact fun h => h | refine And.intro ?_ ?_ | (intro hb; first | (simp at hb; done) | (simp at hb) | skip) | omega | exact rfl | exact Nat.le_refl _ | (show _ + 1 ≤ 4294967296; omega) | (dsimp only; omega) | (show wantB _ _ = true; simp; done) | (show wantB _ _ = true; simp; omega) | (show (_ : Bool) = _; simp_all; done) | (exfalso; omega) | refine aRegion_auto (by decide +kernel) ?_ | fail))
  refine acall_conv [.dat RasT, .keep] _ _ _ rfl trivial (acall_frame0 rfl (least_any E a reach hl hr _ (fun _ _ _ => ?_) (fun e g1 g2 => (ha e g1 g2).elim)))
  (repeat' (first | exact trivial | exact fun h => h | refine And.intro ?_ ?_ | (intro hb; first | (simp at hb; done) | (simp at hb) | skip) | omega | exact rfl | exact Nat.le_refl _ | (show _ + 1 ≤ 4294967296; omega) | (dsimp only; omega) | (show wantB _ _ = true; simp; done) | (show wantB _ _ = true; simp; omega) | (show (_ : Bool) = _; simp_all; done) | (exfalso; omega) | refine aRegion_auto (by decide +kernel) ?_ | fail))
  refine acall_conv [.dat RasT, .keep] _ _ _ rfl trivial (acall_frame0 rfl (most_any E (onR minL a reach) reach (by rw [onR_len h0]; exact hl) hr _ (fun _ _ _ => ?_) (fun e g1 g2 => (hb' e g1 g2).elim)))
  (repeat' (first | exact trivial | exact fun h => h | refine And.intro ?_ ?_ | (intro hb; first | (simp at hb; done) | (simp at hb) | skip) | omega | exact rfl | exact Nat.le_refl _ | (show _ + 1 ≤ 4294967296; omega) | (dsimp only; omega) | (show wantB _ _ = true; simp; done) | (show wantB _ _ = true; simp; omega) | (show (_ : Bool) = _; simp_all; done) | (exfalso; omega) | refine aRegion_auto (by decide +kernel) ?_ | fail))
  refine ⟨_, _, (REnt.conv [.dat RasT, .keep] _ rfl trivial).trans (REnt.drop ⟨rfl, rfl⟩), ?_⟩
  exact hK
theorem close_any (E : Errs) (a : Ras) (reach : Int) (h0 : rerr a = 0) (h1 : 0 ≤ reach) (h2 : reach ≤ 128) (hb : rerr (onR maxL a reach) = 0) (hl : a.2.2.length ≤ 1000000000000) (K : AV → List AO → Prop)
    (hK : K (RE (onR minL (onR maxL a reach) reach) .nilIface) []) : ACall Tryd.prog (GE E) 12 [.fz RasT a, .fz int reach] [] K := by
  have hr : I64 reach := ⟨by omega, by omega⟩
  have ha : ∀ e, aerr a reach = e → 0 < e → False := fun e h he => by unfold aerr at h; rw [if_neg (by omega), if_neg (by omega)] at h; omega
  have hb' : ∀ e, aerr (onR maxL a reach) reach = e → 0 < e → False := fun e h he => by unfold aerr at h; rw [if_neg (by omega), if_neg (by omega)] at h; omega
  refine acall_mk (E := envAt (GE E) 23 0) (envOk _ _ _) Tryd.func12 rfl rfl rfl rfl rfl ?_
  (repeat' (first | exact trivial | exact fun h => h | refine And.intro ?_ ?_ | (intro hb; first | (simp at hb; done) | (simp at hb) | skip) | omega | exact rfl | exact Nat.le_refl _ | (show _ + 1 ≤ 4294967296; omega) | (dsimp only; omega) | (show wantB _ _ = true; simp; done) | (show wantB _ _ = true; simp; omega) | (show (_ : Bool) = _; simp_all; done) | (exfalso; omega) | refine aRegion_auto (by decide +kernel) ?_ | fail))
  refine acall_conv [.dat RasT, .keep] _ _ _ rfl trivial (acall_frame0 rfl (most_any E a reach hl hr _ (fun _ _ _ => ?_) (fun e g1 g2 => (ha e g1 g2).elim)))
  (repeat' (first | exact trivial | exact fun h => h | refine And.intro ?_ ?_ | (intro hb; first | (simp at hb; done) | (simp at hb) | skip) | omega | exact rfl | exact Nat.le_refl _ | (show _ + 1 ≤ 4294967296; omega) | (dsimp only; omega) | (show wantB _ _ = true; simp; done) | (show wantB _ _ = true; simp; omega) | (show (_ : Bool) = _; simp_all; done) | (exfalso; omega) | refine aRegion_auto (by decide +kernel) ?_ | fail))
  refine acall_conv [.dat RasT, .keep] _ _ _ rfl trivial (acall_frame0 rfl (least_any E (onR maxL a reach) reach (by rw [onR_len h0]; exact hl) hr _ (fun _ _ _ => ?_) (fun e g1 g2 => (hb' e g1 g2).elim)))
  (repeat' (first | exact trivial | exact fun h => h | refine And.intro ?_ ?_ | (intro hb; first | (simp at hb; done) | (simp at hb) | skip) | omega | exact rfl | exact Nat.le_refl _ | (show _ + 1 ≤ 4294967296; omega) | (dsimp only; omega) | (show wantB _ _ = true; simp; done) | (show wantB _ _ = true; simp; omega) | (show (_ : Bool) = _; simp_all; done) | (exfalso; omega) | refine aRegion_auto (by decide +kernel) ?_ | fail))
  refine ⟨_, _, (REnt.conv [.dat RasT, .keep] _ rfl trivial).trans (REnt.drop ⟨rfl, rfl⟩), ?_⟩
  exact hK
end Go.Proofs.YtidhgdipnfhoeaaDoor
