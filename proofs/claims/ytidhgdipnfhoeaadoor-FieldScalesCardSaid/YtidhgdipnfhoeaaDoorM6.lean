/-
  FieldScales: the walk.
-/
import Derived.Test.YtidhgdipnfhoeaaDoorM5
import Derived.LaidHandle
import Derived.LaidSub
import Derived.Test.YtidhgdipnfhoeaaDoorChecked
import Derived.WalkKit
import Derived.ProofKit
import Derived.OpenShut
import Derived.Carry
import Derived.Test.YtidhgdipnfhoeaaDoorTie
import Derived.Test.YtidhgdipnfhoeaaDoorCards
import Derived.SevenTiedAt
import Derived.LaidMore
import Derived.Lay
import Derived.Deep.Slices
import Derived.Lib.SmallJoins
import Derived.Stop.Joined
namespace Go.Proofs.YtidhgdipnfhoeaaDoor
open Go Go.Ab
set_option maxRecDepth 100000
set_option maxHeartbeats 4000000 in
theorem fieldScales_some {E : Errs} (hE : (EL E).Nodup) (a : Ras) (by_ : Int) (hla : a.2.2.length ≤ 9223372036854775807) (hr : I64 by_) (K : AV → List AO → Prop) (hK : K (.fz .bool true) []) :
    ACall Tryd.prog (G8 E) 5 [.fptr RasT a, .fz int by_] [] K := by
  refine acall_mk (E := envAt (G8 E) 221 0) (envOk _ _ _) Tryd.func5 rfl rfl rfl rfl rfl ?_
  (repeat' (first | exact trivial | exact fun h => h | refine And.intro ?_ ?_ | (intro hb; first | (simp at hb; done) | (simp at hb) | skip) | omega | exact rfl | exact Nat.le_refl _ | (show _ + 1 ≤ 4294967296; omega) | (dsimp only; omega) | (show wantB _ _ = true; simp; done) | (show wantB _ _ = true; simp; omega) | (show (_ : Bool) = _; simp_all; done) | (exfalso; omega) | refine aRegion_auto (by decide +kernel) ?_ | refine ⟨_, _, REnt.drop ⟨rfl, rfl⟩, ?_⟩ | fail))
  refine acall_frame0 rfl (up8 (rasters_any E _ ?_))
  (repeat' (first | exact trivial | exact fun h => h | refine And.intro ?_ ?_ | (intro hb; first | (simp at hb; done) | (simp at hb) | skip) | omega | exact rfl | exact Nat.le_refl _ | (show _ + 1 ≤ 4294967296; omega) | (dsimp only; omega) | (show wantB _ _ = true; simp; done) | (show wantB _ _ = true; simp; omega) | (show (_ : Bool) = _; simp_all; done) | (exfalso; omega) | refine aRegion_auto (by decide +kernel) ?_ | refine ⟨_, _, REnt.drop ⟨rfl, rfl⟩, ?_⟩ | fail))
  refine acall_frame0 rfl (small_any _ a _ ?_)
  (repeat' (first | exact trivial | exact fun h => h | refine And.intro ?_ ?_ | (intro hb; first | (simp at hb; done) | (simp at hb) | skip) | omega | exact rfl | exact Nat.le_refl _ | (show _ + 1 ≤ 4294967296; omega) | (dsimp only; omega) | (show wantB _ _ = true; simp; done) | (show wantB _ _ = true; simp; omega) | (show (_ : Bool) = _; simp_all; done) | (exfalso; omega) | refine aRegion_auto (by decide +kernel) ?_ | refine ⟨_, _, REnt.drop ⟨rfl, rfl⟩, ?_⟩ | fail))
  · exact hK
  have hl2 : a.2.2.length ≤ 200 := hb
  refine acall_frame0 rfl (coarse_one E a by_ (by omega) _ ?_)
  (repeat' (first | exact trivial | exact fun h => h | refine And.intro ?_ ?_ | (intro hb; first | (simp at hb; done) | (simp at hb) | skip) | omega | exact rfl | exact Nat.le_refl _ | (show _ + 1 ≤ 4294967296; omega) | (dsimp only; omega) | (show wantB _ _ = true; simp; done) | (show wantB _ _ = true; simp; omega) | (show (_ : Bool) = _; simp_all; done) | (exfalso; omega) | refine aRegion_auto (by decide +kernel) ?_ | refine ⟨_, _, REnt.drop ⟨rfl, rfl⟩, ?_⟩ | fail))
  refine acall_frame0 rfl (fine_one E a by_ (by omega) _ ?_)
  (repeat' (first | exact trivial | exact fun h => h | refine And.intro ?_ ?_ | (intro hb; first | (simp at hb; done) | (simp at hb) | skip) | omega | exact rfl | exact Nat.le_refl _ | (show _ + 1 ≤ 4294967296; omega) | (dsimp only; omega) | (show wantB _ _ = true; simp; done) | (show wantB _ _ = true; simp; omega) | (show (_ : Bool) = _; simp_all; done) | (exfalso; omega) | refine aRegion_auto (by decide +kernel) ?_ | refine ⟨_, _, REnt.drop ⟨rfl, rfl⟩, ?_⟩ | fail))
  refine acall_frame0 rfl (rasterError_any _ a (by omega) _ ?_)
  have hzc : cerr a by_ ≠ 0 → coarseQ a by_ = (0, 0, []) := fun h => by unfold coarseQ; rw [if_neg h]
  have hzf : ferr a by_ ≠ 0 → fineQ a by_ = (0, 0, []) := fun h => by unfold fineQ; rw [if_neg h]
  have hg := cerr_le (a := a) (by_ := by_)
  have hg2 := ferr_le (a := a) (by_ := by_)
  (repeat' (first | exact trivial | exact fun h => h | refine And.intro ?_ ?_ | (intro hb; first | (simp at hb; done) | (simp at hb) | skip) | omega | exact rfl | exact Nat.le_refl _ | (show _ + 1 ≤ 4294967296; omega) | (dsimp only; omega) | (show wantB _ _ = true; simp; done) | (show wantB _ _ = true; simp; omega) | (show (_ : Bool) = _; simp_all; done) | (exfalso; omega) | refine aRegion_auto (by decide +kernel) ?_ | refine ⟨_, _, REnt.drop ⟨rfl, rfl⟩, ?_⟩ | fail))
  · rename_i hc _
    have ea : cerr a by_ = 3 := by unfold cerr; rw [if_neg (by omega), if_pos (by omega)]
    have ef : ferr a by_ = 3 := by unfold ferr; rw [if_pos (by omega), ea]
    refine acall_frame0 rfl (coded_mercatorlaw3 hE (by omega) 3 _ ?_)
    rw [decide_eq_true (show ((cerr a by_ : Nat) : Int) = 3 by omega)]
    (repeat' (first | exact trivial | exact fun h => h | refine And.intro ?_ ?_ | (intro hb; first | (simp at hb; done) | (simp at hb) | skip) | omega | exact rfl | exact Nat.le_refl _ | (show _ + 1 ≤ 4294967296; omega) | (dsimp only; omega) | (show wantB _ _ = true; simp; done) | (show wantB _ _ = true; simp; omega) | (show (_ : Bool) = _; simp_all; done) | (exfalso; omega) | refine aRegion_auto (by decide +kernel) ?_ | refine ⟨_, _, REnt.drop ⟨rfl, rfl⟩, ?_⟩ | fail))
    refine acall_frame0 rfl (coded_mercatorlaw3 hE (by omega) 3 _ ?_)
    rw [decide_eq_true (show ((ferr a by_ : Nat) : Int) = 3 by omega)]
    (repeat' (first | exact trivial | exact fun h => h | refine And.intro ?_ ?_ | (intro hb; first | (simp at hb; done) | (simp at hb) | skip) | omega | exact rfl | exact Nat.le_refl _ | (show _ + 1 ≤ 4294967296; omega) | (dsimp only; omega) | (show wantB _ _ = true; simp; done) | (show wantB _ _ = true; simp; omega) | (show (_ : Bool) = _; simp_all; done) | (exfalso; omega) | refine aRegion_auto (by decide +kernel) ?_ | refine ⟨_, _, REnt.drop ⟨rfl, rfl⟩, ?_⟩ | fail))
    refine acall_conv [.dat RasT] _ _ _ rfl trivial (acall_frame0 rfl (nothing_any _ (coarseQ a by_) _ ?_))
    rw [hzc (by omega)]
    (repeat' (first | exact trivial | exact fun h => h | refine And.intro ?_ ?_ | (intro hb; first | (simp at hb; done) | (simp at hb) | skip) | omega | exact rfl | exact Nat.le_refl _ | (show _ + 1 ≤ 4294967296; omega) | (dsimp only; omega) | (show wantB _ _ = true; simp; done) | (show wantB _ _ = true; simp; omega) | (show (_ : Bool) = _; simp_all; done) | (exfalso; omega) | refine aRegion_auto (by decide +kernel) ?_ | refine ⟨_, _, REnt.drop ⟨rfl, rfl⟩, ?_⟩ | fail))
    refine acall_conv [.dat RasT] _ _ _ rfl trivial (acall_frame0 rfl (nothing_any _ (fineQ a by_) _ ?_))
    rw [hzf (by omega)]
    (repeat' (first | exact trivial | exact fun h => h | refine And.intro ?_ ?_ | (intro hb; first | (simp at hb; done) | (simp at hb) | skip) | omega | exact rfl | exact Nat.le_refl _ | (show _ + 1 ≤ 4294967296; omega) | (dsimp only; omega) | (show wantB _ _ = true; simp; done) | (show wantB _ _ = true; simp; omega) | (show (_ : Bool) = _; simp_all; done) | (exfalso; omega) | refine aRegion_auto (by decide +kernel) ?_ | refine ⟨_, _, REnt.drop ⟨rfl, rfl⟩, ?_⟩ | fail))
    exact kb hK (by simp)
  · rename_i hc
    have ea : cerr a by_ = rerr a := by unfold cerr; rw [if_pos (by omega)]
    have ef : ferr a by_ = rerr a := by unfold ferr; rw [if_pos (by omega), ea]
    refine acall_frame0 rfl (coded_mercatorlaw3 hE (by omega) (rerr a) _ ?_)
    rw [decide_eq_true (show ((cerr a by_ : Nat) : Int) = rerr a by omega)]
    (repeat' (first | exact trivial | exact fun h => h | refine And.intro ?_ ?_ | (intro hb; first | (simp at hb; done) | (simp at hb) | skip) | omega | exact rfl | exact Nat.le_refl _ | (show _ + 1 ≤ 4294967296; omega) | (dsimp only; omega) | (show wantB _ _ = true; simp; done) | (show wantB _ _ = true; simp; omega) | (show (_ : Bool) = _; simp_all; done) | (exfalso; omega) | refine aRegion_auto (by decide +kernel) ?_ | refine ⟨_, _, REnt.drop ⟨rfl, rfl⟩, ?_⟩ | fail))
    refine acall_frame0 rfl (coded_mercatorlaw3 hE (by omega) (rerr a) _ ?_)
    rw [decide_eq_true (show ((ferr a by_ : Nat) : Int) = rerr a by omega)]
    (repeat' (first | exact trivial | exact fun h => h | refine And.intro ?_ ?_ | (intro hb; first | (simp at hb; done) | (simp at hb) | skip) | omega | exact rfl | exact Nat.le_refl _ | (show _ + 1 ≤ 4294967296; omega) | (dsimp only; omega) | (show wantB _ _ = true; simp; done) | (show wantB _ _ = true; simp; omega) | (show (_ : Bool) = _; simp_all; done) | (exfalso; omega) | refine aRegion_auto (by decide +kernel) ?_ | refine ⟨_, _, REnt.drop ⟨rfl, rfl⟩, ?_⟩ | fail))
    refine acall_conv [.dat RasT] _ _ _ rfl trivial (acall_frame0 rfl (nothing_any _ (coarseQ a by_) _ ?_))
    rw [hzc (by omega)]
    (repeat' (first | exact trivial | exact fun h => h | refine And.intro ?_ ?_ | (intro hb; first | (simp at hb; done) | (simp at hb) | skip) | omega | exact rfl | exact Nat.le_refl _ | (show _ + 1 ≤ 4294967296; omega) | (dsimp only; omega) | (show wantB _ _ = true; simp; done) | (show wantB _ _ = true; simp; omega) | (show (_ : Bool) = _; simp_all; done) | (exfalso; omega) | refine aRegion_auto (by decide +kernel) ?_ | refine ⟨_, _, REnt.drop ⟨rfl, rfl⟩, ?_⟩ | fail))
    refine acall_conv [.dat RasT] _ _ _ rfl trivial (acall_frame0 rfl (nothing_any _ (fineQ a by_) _ ?_))
    rw [hzf (by omega)]
    (repeat' (first | exact trivial | exact fun h => h | refine And.intro ?_ ?_ | (intro hb; first | (simp at hb; done) | (simp at hb) | skip) | omega | exact rfl | exact Nat.le_refl _ | (show _ + 1 ≤ 4294967296; omega) | (dsimp only; omega) | (show wantB _ _ = true; simp; done) | (show wantB _ _ = true; simp; omega) | (show (_ : Bool) = _; simp_all; done) | (exfalso; omega) | refine aRegion_auto (by decide +kernel) ?_ | refine ⟨_, _, REnt.drop ⟨rfl, rfl⟩, ?_⟩ | fail))
    exact kb hK (by simp)
  · rename_i hc
    have hv : rerr a = 0 := hb
    obtain ⟨hb1, hb2⟩ := hc hv
    have ea : cerr a by_ = 0 := cerr_zero.2 ⟨hv, hb1, hb2⟩
    obtain ⟨⟨hW1, hH1, hW2, hH2, hlen⟩, hbig⟩ := rerr_ok hv
    obtain ⟨W, eW⟩ : ∃ W : Nat, a.1 = (W : Int) := ⟨a.1.toNat, by omega⟩
    obtain ⟨H, eH⟩ : ∃ H : Nat, a.2.1 = (H : Int) := ⟨a.2.1.toNat, by omega⟩
    obtain ⟨b, rfl⟩ : ∃ b : Nat, by_ = (b : Int) := ⟨by_.toNat, by omega⟩
    have tW : a.1.toNat = W := by omega
    have tH : a.2.1.toNat = H := by omega
    have qc : coarseQ a (b : Int) = coarseR W H b a.2.2 := by unfold coarseQ; rw [if_pos ea, tW, tH, Int.toNat_natCast]
    have c1 := cd_alt (n := W) (b := b) (by omega) (by omega)
    have c2 := cd_alt (n := H) (b := b) (by omega) (by omega)
    rw [← eW] at c1
    rw [← eH] at c2
    obtain ⟨cW1, cW2, cW3⟩ := cd_le (n := W) (b := b) (by omega) (by omega)
    obtain ⟨cH1, cH2, cH3⟩ := cd_le (n := H) (b := b) (by omega) (by omega)
    have hll : a.2.2.length = W * H := by rw [eW, eH, ← Int.natCast_mul] at hlen; omega
    have i1 : isB (coarseQ a (b : Int)) (Int.tdiv (a.1 - 1) b + 1) (Int.tdiv (a.2.1 - 1) b + 1) (call W H b a.2.2 (cd H b)) = true := by
      rw [qc, c1, c2]; simp [isB, coarseR]
    have lc : (coarseQ a (b : Int)).2.2.length ≤ 1000000000000 := by
      rw [qc]; show (call W H b a.2.2 (cd H b)).length ≤ _
      rw [call_len]
      have : cd H b * cd W b ≤ 128 * 128 := Nat.mul_le_mul (by omega) (by omega)
      omega
    have m1 := mul_bd (a := a.1) (b := (b : Int)) (A := 128) (B := 128) (by omega) (by omega) (by omega) (by omega)
    have m2 := mul_bd (a := a.2.1) (b := (b : Int)) (A := 128) (B := 128) (by omega) (by omega) (by omega) (by omega)
    rw [ea]
    (repeat' (first | exact trivial | exact fun h => h | refine And.intro ?_ ?_ | (intro hb; first | (simp at hb; done) | (simp at hb) | skip) | omega | exact rfl | exact Nat.le_refl _ | (show _ + 1 ≤ 4294967296; omega) | (dsimp only; omega) | (show wantB _ _ = true; simp; done) | (show wantB _ _ = true; simp; omega) | (show (_ : Bool) = _; simp_all; done) | (exfalso; omega) | refine aRegion_auto (by decide +kernel) ?_ | refine ⟨_, _, REnt.drop ⟨rfl, rfl⟩, ?_⟩ | fail))
    apply exEff
    · refine And.intro (fun _ => ?_) (fun h => by simp at h)
      refine And.intro (by simp) ?_
      refine acall_frame0 rfl (coarseOf_any _ a W H b eW eH hv (by omega) (by omega) _ ?_)
      exact ⟨rfl, rfl⟩
    (repeat' (first | exact trivial | exact fun h => h | refine And.intro ?_ ?_ | (intro hb; first | (simp at hb; done) | (simp at hb) | skip) | omega | exact rfl | exact Nat.le_refl _ | (show _ + 1 ≤ 4294967296; omega) | (dsimp only; omega) | (show wantB _ _ = true; simp; done) | (show wantB _ _ = true; simp; omega) | (show (_ : Bool) = _; simp_all; done) | (exfalso; omega) | refine aRegion_auto (by decide +kernel) ?_ | refine ⟨_, _, REnt.drop ⟨rfl, rfl⟩, ?_⟩ | fail))
    apply exEff
    · refine And.intro (fun _ => ?_) (fun h => by simp at h)
      refine And.intro (by simp) ?_
      refine acall_conv [.dat RasT, .keep, .keep, .keep] _ _ _ rfl trivial (acall_frame0 rfl (is_any _ (coarseQ a (b : Int)) _ _ (call W H b a.2.2 (cd H b)) lc _ ?_))
      rw [i1]
      exact ⟨rfl, rfl⟩
    (repeat' (first | exact trivial | exact fun h => h | refine And.intro ?_ ?_ | (intro hb; first | (simp at hb; done) | (simp at hb) | skip) | omega | exact rfl | exact Nat.le_refl _ | (show _ + 1 ≤ 4294967296; omega) | (dsimp only; omega) | (show wantB _ _ = true; simp; done) | (show wantB _ _ = true; simp; omega) | (show (_ : Bool) = _; simp_all; done) | (exfalso; omega) | refine aRegion_auto (by decide +kernel) ?_ | refine ⟨_, _, REnt.drop ⟨rfl, rfl⟩, ?_⟩ | fail))
    · have ef : ferr a (b : Int) = 2 := by unfold ferr; rw [if_neg (by omega), if_pos (by omega)]
      refine acall_frame0 rfl (coded_mercatorlaw3 hE (by omega) 2 _ ?_)
      rw [decide_eq_true (show ((ferr a (b : Int) : Nat) : Int) = 2 by omega)]
      (repeat' (first | exact trivial | exact fun h => h | refine And.intro ?_ ?_ | (intro hb; first | (simp at hb; done) | (simp at hb) | skip) | omega | exact rfl | exact Nat.le_refl _ | (show _ + 1 ≤ 4294967296; omega) | (dsimp only; omega) | (show wantB _ _ = true; simp; done) | (show wantB _ _ = true; simp; omega) | (show (_ : Bool) = _; simp_all; done) | (exfalso; omega) | refine aRegion_auto (by decide +kernel) ?_ | refine ⟨_, _, REnt.drop ⟨rfl, rfl⟩, ?_⟩ | fail))
      refine acall_conv [.dat RasT] _ _ _ rfl trivial (acall_frame0 rfl (nothing_any _ (fineQ a (b : Int)) _ ?_))
      rw [hzf (by omega)]
      (repeat' (first | exact trivial | exact fun h => h | refine And.intro ?_ ?_ | (intro hb; first | (simp at hb; done) | (simp at hb) | skip) | omega | exact rfl | exact Nat.le_refl _ | (show _ + 1 ≤ 4294967296; omega) | (dsimp only; omega) | (show wantB _ _ = true; simp; done) | (show wantB _ _ = true; simp; omega) | (show (_ : Bool) = _; simp_all; done) | (exfalso; omega) | refine aRegion_auto (by decide +kernel) ?_ | refine ⟨_, _, REnt.drop ⟨rfl, rfl⟩, ?_⟩ | fail))
      exact kb hK (by simp)
    have ef : ferr a (b : Int) = 0 := by unfold ferr; rw [if_neg (by omega), if_neg (by omega)]
    have qf : fineQ a (b : Int) = fineR W H b a.2.2 := by unfold fineQ; rw [if_pos ef, tW, tH, Int.toNat_natCast]
    have n1 : ((W * b : Nat) : Int) = a.1 * b := by rw [eW, Int.natCast_mul]
    have n2 : ((H * b : Nat) : Int) = a.2.1 * b := by rw [eH, Int.natCast_mul]
    rw [ef, qf]
    generalize hF : fineR W H b a.2.2 = F
    have F1 : F.1 = a.1 * b := by rw [← hF, ← n1]; rfl
    have F2 : F.2.1 = a.2.1 * b := by rw [← hF, ← n2]; rfl
    have F3 : F.2.2 = fall W b a.2.2 (H * b) := by rw [← hF]; rfl
    have F4 : (F.2.2.length : Int) = F.1 * F.2.1 := by rw [F3, F1, F2, fall_len, ← n1, ← n2, ← Int.natCast_mul, Nat.mul_comm]
    have m3 := mul_bd (a := F.1) (b := F.2.1) (A := 128) (B := 128) (by omega) (by omega) (by omega) (by omega)
    (repeat' (first | exact trivial | exact fun h => h | refine And.intro ?_ ?_ | (intro hb; first | (simp at hb; done) | (simp at hb) | skip) | omega | exact rfl | exact Nat.le_refl _ | (show _ + 1 ≤ 4294967296; omega) | (dsimp only; omega) | (show wantB _ _ = true; simp; done) | (show wantB _ _ = true; simp; omega) | (show (_ : Bool) = _; simp_all; done) | (exfalso; omega) | refine aRegion_auto (by decide +kernel) ?_ | refine ⟨_, _, REnt.drop ⟨rfl, rfl⟩, ?_⟩ | fail))
    refine ⟨Nat, fun i => ⟨[(0, .fptr RasT a), (1, .fz int b), (9, .ptr 1 0), (13, .fz int i)], [.box [.fz int (coarseQ a (b : Int)).1, .fz int (coarseQ a (b : Int)).2.1, .fz (.list int) (coarseQ a (b : Int)).2.2], .box [.fz int F.1, .fz int F.2.1, .fz (.list int) F.2.2]]⟩, fun i => i ≤ F.2.2.length, fun i => F.2.2.length - i, 0, Nat.zero_le _, Ent.sub rfl ?_, ?_⟩
    · (repeat' (first | exact trivial | exact rfl | refine And.intro ?_ ?_))
    intro i hi
    have hx : i < F.2.2.length → ∃ x y : Nat, Int.tdiv (Int.tdiv (i : Int) F.1) b = (x : Int) ∧ Int.tdiv (Int.tmod (i : Int) F.1) b = (y : Int) ∧ Int.tdiv (i : Int) F.1 ≤ i ∧ 0 ≤ Int.tdiv (i : Int) F.1 ∧ x * W + y < W * H ∧ x ≤ i ∧ y ≤ i ∧ F.2.2.getD i 0 = a.2.2.getD (x * W + y) 0 := by
      intro h
      rw [F3] at h ⊢
      have := fine_at (W := W) (H := H) (b := b) (l := a.2.2) (by omega) (by omega) h
      have q1 : Int.tdiv (i : Int) F.1 = ((i / (W * b) : Nat) : Int) := by rw [F1, ← n1]; exact (Int.ofNat_tdiv _ _).symm
      have q2 : Int.tmod (i : Int) F.1 = ((i % (W * b) : Nat) : Int) := by rw [F1, ← n1]; exact (Int.ofNat_tmod _ _).symm
      have q3 : i / (W * b) ≤ i := Nat.div_le_self ..
      refine ⟨i / (W * b) / b, i % (W * b) / b, by rw [q1]; exact (Int.ofNat_tdiv _ _).symm, by rw [q2]; exact (Int.ofNat_tdiv _ _).symm, by rw [q1]; exact Int.ofNat_le.2 q3, by rw [q1]; exact Int.natCast_nonneg _, this.2, Nat.le_trans (Nat.div_le_self ..) q3, Nat.le_trans (Nat.div_le_self ..) (Nat.mod_le ..), this.1⟩
    have fp : 1 ≤ F.1 := by rw [F1, ← n1]; have := Nat.mul_pos (show 0 < W by omega) (show 0 < b by omega); omega
    have hlF : F.2.2.length ≤ 16384 := by omega
    by_cases hlt : i < F.2.2.length
    · obtain ⟨x, y, x1, y1, z1, z2, z3, z4, z5, z6⟩ := hx hlt
      have w1 : Int.tdiv (Int.tdiv (i : Int) F.1) b * a.1 = ((x * W : Nat) : Int) := by rw [x1, eW, Int.natCast_mul]
      have w2 : Int.tdiv (Int.tdiv (i : Int) F.1) b * a.1 + Int.tdiv (Int.tmod (i : Int) F.1) b = ((x * W + y : Nat) : Int) := by rw [w1, y1, Int.natCast_add]
      have w3 : List.getD a.2.2 (Int.toNat (Int.tdiv (Int.tdiv (i : Int) F.1) b * a.1 + Int.tdiv (Int.tmod (i : Int) F.1) b)) (Ty.dft int) = F.2.2.getD i 0 := by rw [w2, Int.toNat_natCast, z6]; rfl
      have w4 : List.getD F.2.2 (Int.toNat (i : Int)) (Ty.dft int) = F.2.2.getD i 0 := rfl
      (repeat' (first | exact trivial | exact fun h => h | refine And.intro ?_ ?_ | (intro hb; first | (simp at hb; done) | (simp at hb) | skip) | omega | exact rfl | exact Nat.le_refl _ | (show _ + 1 ≤ 4294967296; omega) | (dsimp only; omega) | (show wantB _ _ = true; simp; done) | (show wantB _ _ = true; simp; omega) | (show (_ : Bool) = _; simp_all; done) | (exfalso; omega) | refine aRegion_auto (by decide +kernel) ?_ | refine ⟨_, _, REnt.drop ⟨rfl, rfl⟩, ?_⟩ | fail))
      · exact absurd (by simpa using w4.trans w3.symm) hb
      · refine ⟨i + 1, by show _ ≤ _; omega, by show _ - _ < _ - _; omega, Ent.sub rfl ?_⟩
        (repeat' (first | exact trivial | exact rfl | refine And.intro ?_ ?_))
    · have hi2 : i = F.2.2.length := by omega
      have ceF : cerr F (b : Int) = 0 := cerr_zero.2 ⟨by rw [← hF]; exact fine_right (by omega) (by omega) (by omega) (by omega) (by omega) hbig, by omega, by omega⟩
      have cqF : coarseQ F (b : Int) = ((W : Int), (H : Int), a.2.2) := by
        unfold coarseQ
        have g1 : F.1.toNat = W * b := by omega
        have g2 : F.2.1.toNat = H * b := by omega
        rw [if_pos ceF, g1, g2, Int.toNat_natCast, F3]
        exact back_again (by omega) (by omega) hll
      (repeat' (first | exact trivial | exact fun h => h | refine And.intro ?_ ?_ | (intro hb; first | (simp at hb; done) | (simp at hb) | skip) | omega | exact rfl | exact Nat.le_refl _ | (show _ + 1 ≤ 4294967296; omega) | (dsimp only; omega) | (show wantB _ _ = true; simp; done) | (show wantB _ _ = true; simp; omega) | (show (_ : Bool) = _; simp_all; done) | (exfalso; omega) | refine aRegion_auto (by decide +kernel) ?_ | refine ⟨_, _, REnt.drop ⟨rfl, rfl⟩, ?_⟩ | fail))
      refine acall_conv [.dat RasT, .keep] _ _ _ rfl trivial (acall_frame0 rfl (coarse_one E F (b : Int) (by omega) _ ?_))
      rw [ceF, cqF]
      (repeat' (first | exact trivial | exact fun h => h | refine And.intro ?_ ?_ | (intro hb; first | (simp at hb; done) | (simp at hb) | skip) | omega | exact rfl | exact Nat.le_refl _ | (show _ + 1 ≤ 4294967296; omega) | (dsimp only; omega) | (show wantB _ _ = true; simp; done) | (show wantB _ _ = true; simp; omega) | (show (_ : Bool) = _; simp_all; done) | (exfalso; omega) | refine aRegion_auto (by decide +kernel) ?_ | refine ⟨_, _, REnt.drop ⟨rfl, rfl⟩, ?_⟩ | fail))
      apply exEff
      · refine And.intro (fun _ => ?_) (fun h => by simp at h)
        refine And.intro (by simp) ?_
        refine acall_conv [.dat RasT, .keep, .keep, .keep] _ _ _ rfl trivial (acall_frame0 rfl (is_any _ ((W : Int), (H : Int), a.2.2) _ _ a.2.2 (by show a.2.2.length ≤ _; omega) _ ?_))
        rw [show isB ((W : Int), (H : Int), a.2.2) a.1 a.2.1 a.2.2 = true by simp [isB, eW, eH]]
        exact ⟨rfl, rfl⟩
      (repeat' (first | exact trivial | exact fun h => h | refine And.intro ?_ ?_ | (intro hb; first | (simp at hb; done) | (simp at hb) | skip) | omega | exact rfl | exact Nat.le_refl _ | (show _ + 1 ≤ 4294967296; omega) | (dsimp only; omega) | (show wantB _ _ = true; simp; done) | (show wantB _ _ = true; simp; omega) | (show (_ : Bool) = _; simp_all; done) | (exfalso; omega) | refine aRegion_auto (by decide +kernel) ?_ | refine ⟨_, _, REnt.drop ⟨rfl, rfl⟩, ?_⟩ | fail))
      exact hK
theorem fieldScales_nil {E : Errs} (by_ : Int) (K : AV → List AO → Prop) (hK : K (.fz .bool true) []) :
    ACall Tryd.prog (G8 E) 5 [.fz .raw (.pointer none), .fz int by_] [] K := by
  refine acall_mk (E := envAt (G8 E) 221 0) (envOk _ _ _) Tryd.func5 rfl rfl rfl rfl rfl ?_
  (repeat' (first | exact trivial | exact fun h => h | refine And.intro ?_ ?_ | (intro hb; first | (simp at hb; done) | (simp at hb) | skip) | omega | exact rfl | exact Nat.le_refl _ | (show _ + 1 ≤ 4294967296; omega) | (dsimp only; omega) | (show wantB _ _ = true; simp; done) | (show wantB _ _ = true; simp; omega) | (show (_ : Bool) = _; simp_all; done) | (exfalso; omega) | refine aRegion_auto (by decide +kernel) ?_ | refine ⟨_, _, REnt.drop ⟨rfl, rfl⟩, ?_⟩ | fail))
  refine acall_frame0 rfl (up8 (rasters_any E _ ?_))
  (repeat' (first | exact trivial | exact fun h => h | refine And.intro ?_ ?_ | (intro hb; first | (simp at hb; done) | (simp at hb) | skip) | omega | exact rfl | exact Nat.le_refl _ | (show _ + 1 ≤ 4294967296; omega) | (dsimp only; omega) | (show wantB _ _ = true; simp; done) | (show wantB _ _ = true; simp; omega) | (show (_ : Bool) = _; simp_all; done) | (exfalso; omega) | refine aRegion_auto (by decide +kernel) ?_ | refine ⟨_, _, REnt.drop ⟨rfl, rfl⟩, ?_⟩ | fail))
  refine acall_frame0 rfl (small_nil _ _ ?_)
  (repeat' (first | exact trivial | exact fun h => h | refine And.intro ?_ ?_ | (intro hb; first | (simp at hb; done) | (simp at hb) | skip) | omega | exact rfl | exact Nat.le_refl _ | (show _ + 1 ≤ 4294967296; omega) | (dsimp only; omega) | (show wantB _ _ = true; simp; done) | (show wantB _ _ = true; simp; omega) | (show (_ : Bool) = _; simp_all; done) | (exfalso; omega) | refine aRegion_auto (by decide +kernel) ?_ | refine ⟨_, _, REnt.drop ⟨rfl, rfl⟩, ?_⟩ | fail))
  exact hK
end Go.Proofs.YtidhgdipnfhoeaaDoor
/-
  What the laid variables give: eight errors, all different, and the handle of type error.
-/
namespace Go.Proofs.YtidhgdipnfhoeaaDoor
open Go Go.Ab Go.RowKit Go.ChangeShapes
set_option maxRecDepth 100000
theorem star : "*" ++ "errors.errorString" = "*errors.errorString" := by decide
theorem names_at (u : TypeId) (h : Tryd.prog.typeName? 3 u = some "*errors.errorString") : u = 102 :=
  typeName_ptr_named (nm := "errors.errorString") (by rw [star]; kernel_rfl) (by kernel_rfl) (by decide) u (by rw [star]; exact h)
theorem cells_es : Tryd.prog.cellsOf 126 = 1 := by kernel_rfl
theorem cells_str : Tryd.prog.cellsOf 9 = 1 := by kernel_rfl
theorem glob_ty (g : Nat) (hg : g ∈ [4, 2, 0, 1, 5, 6, 7, 3]) :
    ∃ ti ms, (Tryd.prog.globals[g]?).map (·.type) = some ti ∧ Tryd.prog.underlying ti = some (.interface ms) := by
  have : ([4, 2, 0, 1, 5, 6, 7, 3].all fun g => (Tryd.prog.globals[g]?).map (·.type) == some 30) = true := by kernel_rfl
  exact ⟨30, _, by simpa using List.all_eq_true.1 this g hg, Tryd.underlying30⟩
theorem et_at : Tryd.prog.globalNamed "errors.errorType" = some 8 := by kernel_rfl
theorem rt_at : (Tryd.prog.cutTypes.find? (·.1 == "internal/reflectlite.rtype")).map (·.2) = some 88 := by kernel_rfl
theorem one_row : ((List.range Tryd.prog.types.size).filter fun t => Tryd.prog.rowNamed t [101, 114, 114, 111, 114]) = [30] := by kernel_rfl
/-- of a list of the eight errors and the handle -/
theorem globs8 {W : World} {l : List (String × DataW Unit)} {x1 x2 x3 x4 x5 x6 x7 x8 : List UInt8} (h : laidMetH Tryd.prog l W)
    (hl : (l.filter fun x => x.2.handleName?.isNone) = [("mercator/api.ErrText", errD x1), ("mercator/api.ErrBound", errD x2), ("mercator/api.ErrShape", errD x3), ("mercator/api.ErrRange", errD x4), ("mercator/api.ErrName", errD x5), ("mercator/api.ErrNone", errD x6), ("mercator/api.ErrOrder", errD x7), ("mercator/api.ErrFile", errD x8)])
    (hh : (l.filter fun x => x.2.handleName?.isSome) = [("errors.errorType", .iface "internal/reflectlite.rtype" (.agg [.ptr (.lit (.string [101, 114, 114, 111, 114]))]))]) :
    ∃ E : Errs, (EL E).Nodup ∧ ∀ g v, gk (G8 E) g = some v → Glo0 W g v := by
  obtain ⟨h1, h2⟩ := laidMetH_iff.1 h
  rw [hl] at h1
  rw [hh] at h2
  obtain ⟨ps, hv, hn, hall⟩ := h1
  obtain ⟨al, k1, k2, k3, _⟩ := laid_errs names_at Tryd.underlying102 Tryd.underlying126 rfl rfl Tryd.underlying9 cells_es cells_str
    [("mercator/api.ErrText", x1), ("mercator/api.ErrBound", x2), ("mercator/api.ErrShape", x3), ("mercator/api.ErrRange", x4), ("mercator/api.ErrName", x5), ("mercator/api.ErrNone", x6), ("mercator/api.ErrOrder", x7), ("mercator/api.ErrFile", x8)]
    [4, 2, 0, 1, 5, 6, 7, 3] ps hv hn hall (by kernel_rfl) glob_ty
  obtain ⟨a1, a2, a3, a4, a5, a6, a7, a8, rfl⟩ : ∃ a1 a2 a3 a4 a5 a6 a7 a8, al = [a1, a2, a3, a4, a5, a6, a7, a8] := by
    match al, k1 with
    | [a1, a2, a3, a4, a5, a6, a7, a8], _ => exact ⟨a1, a2, a3, a4, a5, a6, a7, a8, rfl⟩
  have hE : Glo0 W 8 asK.errType := by
    obtain ⟨name, u, ty, e1, e2, e3, e4, e5⟩ := h2 _ (List.mem_singleton.2 rfl)
    have en : name = [101, 114, 114, 111, 114] := (Option.some.inj e1).symm
    subst en
    obtain rfl := Option.some.inj (rt_at.symm.trans e2)
    have hm : ty ∈ (List.range Tryd.prog.types.size).filter fun t => Tryd.prog.rowNamed t [101, 114, 114, 111, 114] := List.mem_filter.2 ⟨List.mem_range.2 e3, e4⟩
    rw [one_row] at hm
    obtain rfl := List.mem_singleton.1 hm
    have hh : typeHandle Tryd.prog 30 = .pointer (some ⟨9, 30, none⟩) := by kernel_rfl
    rw [hh] at e5
    exact ⟨by simpa [asK.errType] using World.var?_cell et_at e5 0, rfl, fun T a e => by cases e⟩
  refine ⟨⟨a1, a2, a3, a4, a5, a6, a7, a8⟩, k2, fun g v hg => ?_⟩
  unfold G8 gk at hg
  split at hg
  · rename_i e; subst e; cases hg; exact k3 2 _ _ rfl rfl
  unfold gk at hg
  split at hg
  · rename_i e; subst e; cases hg; exact k3 3 _ _ rfl rfl
  unfold gk at hg
  split at hg
  · rename_i e; subst e; cases hg; exact k3 1 _ _ rfl rfl
  unfold gk at hg
  split at hg
  · rename_i e; subst e; cases hg; exact k3 0 _ _ rfl rfl
  unfold gk at hg
  split at hg
  · rename_i e; subst e; cases hg; exact k3 4 _ _ rfl rfl
  unfold gk at hg
  split at hg
  · rename_i e; subst e; cases hg; exact k3 5 _ _ rfl rfl
  unfold gk at hg
  split at hg
  · rename_i e; subst e; cases hg; exact k3 6 _ _ rfl rfl
  unfold gk at hg
  split at hg
  · rename_i e; subst e; cases hg; exact k3 7 _ _ rfl rfl
  unfold gk at hg
  split at hg
  · rename_i e; subst e; cases hg; exact hE
  · cases hg
end Go.Proofs.YtidhgdipnfhoeaaDoor
/-
  Arguments read again behind a call that leaves old memory alone; a slice of points opened.
-/
namespace Go.Proofs.YtidhgdipnfhoeaaDoor
open Go Go.ChangeShapes Go.WideShapes Go.ChangeAt Go.RowKit
theorem trodAll_below {H : Type} {enc : TypeId × Value → H} {P : Program} (hl : laidOutB P = true) {W W' : World} (hb : Below W.heap.size W W') :
    ∀ (ts : List TypeId) (vs : List Value) (ds : List (DataW H)) (ps : List MemPlace), (∀ t ∈ ts, P.readableRec t = true ∧ t < P.types.size) →
      DataW.TrodAll enc P W 0 (fun _ => true) true ts vs ds ps → (∀ x ∈ ps, x.block < W.heap.size) →
      DataW.TrodAll enc P W' 0 (fun b => decide (b < W.heap.size)) true ts vs ds ps
  | [], [], [], ps, _, h, _ => h
  | [], [], _ :: _, _, _, h, _ => h.elim
  | [], _ :: _, _, _, _, h, _ => h.elim
  | _ :: _, [], _, _, _, h, _ => h.elim
  | _ :: _, _ :: _, [], _, _, h, _ => h.elim
  | t :: ts, v :: vs, d :: ds, ps, hr, h, hlt => by
    obtain ⟨p, q, h1, h2, rfl⟩ := h
    refine ⟨p, q, Below.trod hl (hr t (List.mem_cons_self ..)).1 (hr t (List.mem_cons_self ..)).2 h1 hb (fun x hx => hlt x (List.mem_append.2 (.inl hx))), ?_, rfl⟩
    exact trodAll_below hl hb ts vs ds q (fun t ht => hr t (List.mem_cons_of_mem _ ht)) h2 (fun x hx => hlt x (List.mem_append.2 (.inr hx)))
end Go.Proofs.YtidhgdipnfhoeaaDoor
/-
  FieldScales answers true, whatever it is asked (no condition).
-/
namespace Go.Proofs.YtidhgdipnfhoeaaDoor.fieldScales
open Go Go.ChangeShapes Go.WideShapes Go.ChangeAt Go.RowKit Go.Ab
set_option maxRecDepth 100000
theorem own : ownKnob Tryd.prog.godebug = none := by kernel_rfl
theorem laidOut : laidOutB Tryd.prog = true := by kernel_rfl
theorem lifted (os : Os) (started : os.Started) (H : Type) (enc : TypeId × Value → H) :
    ReturnsInHanded {} Tryd.checked os 5 .any (fun w args => (Rows.fieldScalesSpec.pre enc Tryd.prog Tryd.f5 [] false w args ∧ laidMetH Tryd.prog Rows.fieldScalesRow.laid w) ∧ sizedMet enc Tryd.prog Tryd.f5 (OpenSpec.ofChange Rows.fieldScalesSpec) false w args)
      (Rows.fieldScalesSpec.post enc Tryd.prog Tryd.f5 false true false false) := by
  refine returnsInHanded_of_change_and (C := Tryd.checked) (X := fun w _ => laidMetH Tryd.prog Rows.fieldScalesRow.laid w) (fun _ _ _ hh h => h.of_heap hh) own started (by kernel_rfl) Tryd.func5
    (ChangeSpec.witness_shaped (enc := enc) (C := Tryd.checked) (os := os) (X := fun w _ => laidMetH Tryd.prog Rows.fieldScalesRow.laid w) false (World.doorLaid Tryd.prog 400 os) #[.pointer none, .int .i64 0] 8 rfl (World.shaped_of_RefB (by kernel_rfl) (by kernel_rfl)) (by kernel_rfl) (by kernel_rfl) (by kernel_rfl)
      (laidMetH_of_parts3 (fuel := 8) (laidMet_of_run' 8 (by kernel_rfl) (by kernel_rfl)) (by kernel_rfl) (by kernel_rfl))) ?_
  intro W base args ds gs before hval0 hW _ _ hL _
  have hval : ∀ (j : Nat) t v, Tryd.f5.params[j]? = some t → args[j]? = some v → Value.okWide Tryd.prog W .any base t v := hval0
  have hW' := hW
  obtain ⟨p, q, hA0, hV, rfl, hfz, hnd⟩ := hW
  have hA : DataW.TrodAll enc Tryd.prog W 0 (fun _ => true) true Tryd.f5.params.toList args.toList ds p := hA0
  obtain ⟨rfl, rfl⟩ := trodVars_none hV
  simp only [List.append_nil] at hW'
  have hAll : ∀ W', Below W.heap.size W W' → DataW.TrodAll enc Tryd.prog W' 0 (fun b => decide (b < W.heap.size)) true Tryd.f5.params.toList args.toList ds p :=
    fun W' hb => trodAll_below laidOut hb _ _ _ _ (by rw [Tryd.params5]; exact of_decide_eq_true (by kernel_rfl)) hA (fun x hx => hW'.lt x hx)
  rw [Tryd.params5] at hA hval
  obtain ⟨v0, vs0, d0, ds0, p0, q0, hargs, rfl, rfl, h0, t0⟩ := trodAll_cons hA
  obtain ⟨v1, vs1, d1, ds1, p1, q1, rfl, rfl, rfl, h1, t1⟩ := trodAll_cons t0
  obtain ⟨rfl, rfl, rfl⟩ := trodAll_nil t1
  obtain rfl : args = #[v0, v1] := by cases args; simp_all
  clear hA0 hval0
  obtain ⟨E, hN, hE⟩ := globs8 hL rfl rfl
  have o0 := open_ptr (n := 4) (ty := RasT) tabOk (show tptrTo tab 22 = some 28 by kernel_rfl) (by kernel_rfl) (G8 E) (hval 0 _ v0 rfl rfl) h0
  obtain ⟨y1, r1, b1⟩ := open_val (n := 2) (ty := int) tabOk (by kernel_rfl) (G8 E) (hval 1 _ v1 rfl rfl) h1
  have fin : Calls Tryd.prog 5 #[v0, v1] W fun e w' => e = .returned (.bool true) ∧ Below W.heap.size W w' := by
    have hh : I64 y1 := b1
    rcases o0 with rfl | ⟨y0, r0, b0⟩
    · exact acall_true (vs := [.pointer none, v1]) (fieldScales_nil y1 _ rfl) hE ⟨_, _, rfl, (rel_raw rfl).2 rfl, _, _, rfl, r1, rfl⟩
    · have hl0 : y0.2.2.length ≤ 9223372036854775807 := by have := b0.2.2.1; unfold maxLen at this; omega
      exact acall_true (vs := [v0, v1]) (fieldScales_some hN y0 y1 hl0 hh _ rfl) hE ⟨_, _, rfl, r0, _, _, rfl, r1, rfl⟩
  refine fin.mono fun e W' ⟨he, hg⟩ => ?_
  subst he
  exact ⟨_, rfl, _, _, _, [], _, [], hW', trodAll_mk1 (shut_bool Tryd.underlying4 _), hAll W' hg, rfl, hg.frame _, fun h => by cases h⟩
theorem row : Rows.FieldScalesSaid :=
  OpenClaim.holds_of_wide 5 Tryd.f5 rfl rfl rfl rfl rfl rfl rfl ⟨rfl, rfl, rfl, rfl, rfl⟩ rfl rfl rfl rfl rfl (by kernel_rfl) Tryd.func5 (by kernel_rfl)
    (of_decide_eq_true (by kernel_rfl)) (by unfold Func.isWrapper; first | (rw [if_pos (by decide +kernel)]; kernel_rfl) | (rw [if_neg (by decide +kernel)]; exact ⟨rfl, rfl⟩))
    (fun os started H enc _ => lifted os started H enc)
theorem proved : Rows.FieldScalesCardSaid :=
  Claim7.holds_tied_plain_at .later [] [.handle, .sentinel, .sentinel, .sentinel, .sentinel, .sentinel, .sentinel, .sentinel, .sentinel] true (true, "d9ba17cb8c775913e4e79aa0abcab4e8278fdccc2206235b70534f3ffca94fc6") true
    row (fun _ h => by cases h) (by kernel_rfl) (fun _ h => by cases h) fieldScales_row_tie rfl ⟨rfl, rfl⟩ (by kernel_rfl) rfl
    (fun f fn hf hfn => by
      obtain rfl : f = 5 := Option.some.inj ((show Tryd.prog.funcNamed "mercator/mercatorlaw3.FieldScales" = some 5 by kernel_rfl).symm.trans hf) |>.symm
      obtain rfl : fn = Tryd.f5 := (Option.some.inj (Tryd.func5.symm.trans hfn)).symm
      exact ⟨by kernel_rfl, fun j t ht => by
        rw [Tryd.params5] at ht
        have hm : t ∈ [22, 3] := by simpa using Array.mem_of_getElem? ht
        have hall : ([22, 3].all fun u => !Tryd.prog.wantsStandIn u) = true := by kernel_rfl
        exact (show Tryd.prog.wantsStandIn t = false by simpa using List.all_eq_true.1 hall t hm)⟩)
    (by kernel_rfl)
end Go.Proofs.YtidhgdipnfhoeaaDoor.fieldScales
