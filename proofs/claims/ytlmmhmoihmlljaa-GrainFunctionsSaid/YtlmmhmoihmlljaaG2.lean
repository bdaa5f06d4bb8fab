/-
  Contract: grain.parts, for every angle.
-/
import Derived.Test.YtlmmhmoihmlljaaG1
import Derived.Test.YtlmmhmoihmlljaaFs
namespace Go.Proofs.Ytlmmhmoihmlljaa
open Go Go.RowKit Fl Fs
set_option maxRecDepth 100000
attribute [local go_sem] run_store_float
section
variable {P : Program} (w : World)
theorem run_mul_ok (t : TypeId) {x y r : Nat} (h : Ieee.Format.mul Ieee.double x y = some r) : (binOp .mul t (.float .f64 x) (.float .f64 y)).run P w = .ok (.float .f64 r) w := run_float_arith w .mul t .f64 x y r h
theorem run_add_ok (t : TypeId) {x y r : Nat} (h : Ieee.Format.add Ieee.double x y = some r) : (binOp .add t (.float .f64 x) (.float .f64 y)).run P w = .ok (.float .f64 r) w := run_float_arith w .add t .f64 x y r h
end
def pw (w : World) : World := (w.alloc (.cells (tabS.map (Value.float .f64)).toArray 77)).alloc (.cells (tabD.map (Value.float .f64)).toArray 77)
theorem pw_size (w : World) : (pw w).heap.size = w.heap.size + 2 := by simp [pw]
theorem pw_below (w : World) : Below w.heap.size w (pw w) := ((Below.refl _ _).alloc (Nat.le_refl _) _).alloc (by simp) _
theorem tab_cell (l : List Nat) (k : Nat) (hk : k < l.length) : (l.map (Value.float .f64)).toArray[k]? = some (.float .f64 (l.getD k 0)) := by
  simp [hk]
theorem pw_cellS (w : World) (k : Nat) (hk : k < 8) : (pw w).cell? ⟨w.heap.size, k, none⟩ = some (.float .f64 (coef 1 (k + 1))) := by
  have h := (tab_coef ⟨k, hk⟩).1
  simp only at h
  rw [← h, ← tab_cell tabS k hk]
  exact cell_of_row _ _ _ _ _ (0, 0) ((Below.heap_alloc _ _ _ (by simp)).trans (heap_alloc_new _ _))
theorem pw_cellD (w : World) (k : Nat) (hk : k < 8) : (pw w).cell? ⟨w.heap.size + 1, k, none⟩ = some (.float .f64 (coef 0 (k + 1))) := by
  have h := (tab_coef ⟨k, hk⟩).2
  simp only at h
  rw [← h, ← tab_cell tabD k hk]
  have hb := heap_alloc_new (w.alloc (.cells (tabS.map (Value.float .f64)).toArray 77)) (.cells (tabD.map (Value.float .f64)).toArray 77)
  rw [World.size_alloc] at hb
  exact cell_of_row _ _ _ _ _ (0, 0) hb
theorem below_drewN {B : Nat} {a w : World} (h : Below B a w) (n : Nat) : Below B a (w.drewN n) := ⟨h.os, h.tape, h.output, h.size, h.block⟩
set_option maxHeartbeats 400000 in
theorem parts_any (a : Int) (w : World) : Calls Try.prog 37 #[.int .i64 a] w fun e w' => e = .returned (.tuple #[.int .i64 (quarter (G.norm a) % 4), .float .f64 (sinOf (G.norm a)), .float .f64 (cosOf (G.norm a))]) ∧ Below w.heap.size w w' := by
  obtain ⟨hn1, hn2⟩ := G.norm_range a
  generalize hN : G.norm a = N at *
  have HN := Lib.hid hN; clear hN
  have hx : ∀ w, (binOp .mul 22 (.float .f64 (floatOfInt .f64 (N - (N + 45000000000) / 90000000000 * 90000000000))) (.float .f64 4445950764994258515)).run Try.prog w = .ok (.float .f64 (xOf N)) w := fun w => run_mul_ok (P := Try.prog) w 22 (xOf_mul N)
  have hq0 : 0 ≤ (N + 45000000000) / 90000000000 := by omega
  have hq1 : (N + 45000000000) / 90000000000 ≤ 4 := by omega
  have hz := fun w => run_mul_ok (P := Try.prog) w 22 (z_mul N)
  go_enter Try.func37, Try.ntmps37
  go_wp2_with (go_at_call 8; refine (Norm_any a _).mono ?_; rintro e w' ⟨rfl, rfl⟩; rw [HN.out])
  go_quiet (fail)
  clear hx hz
  have hz := z_bd N
  have hx := xOf_bd N
  generalize hZ : mul (xOf N) (xOf N) = z at *
  have HZ := Lib.hid hZ; clear hZ
  go_wp2
  go_loopw [3, 4, 9] (fun s c i wr => ∃ (m : Nat) (i0 : Int) (n : Nat), m ≤ 7 ∧ i0 = (m : Int) - 1 ∧ i = .int .i64 i0 ∧ s = .float .f64 (ser z 1 (8 - m)) ∧ c = .float .f64 (ser z 0 (8 - m)) ∧ wr = (pw w).drewN n) (fun _ _ i _ => (intOf i + 1).toNat)
  case atStart => exact ⟨7, 6, nq, by omega, by omega, rfl, rfl, rfl, rfl⟩
  case round =>
    obtain ⟨m, i0, n, hm, hi0, rfl, rfl, rfl, rfl⟩ := hrel
    rcases m with _ | k
    · obtain rfl : i0 = -1 := by omega
      have m1 := fun w => run_mul_ok (P := Try.prog) w 22 (ser_mul (odd := 1) (j := 8) hz (by omega) (by omega)).1
      have m0 := fun w => run_mul_ok (P := Try.prog) w 22 (ser_mul (odd := 0) (j := 8) hz (by omega) (by omega)).1
      have a1 : ∀ w, (binOp .add 22 (.float .f64 4607182418800017408) (.float .f64 (mul z (ser z 1 8)))).run Try.prog w = .ok (.float .f64 (series z 1)) w := fun w => run_add_ok (P := Try.prog) w 22 (series_add (odd := 1) hz (by omega))
      have a0 : ∀ w, (binOp .add 22 (.float .f64 4607182418800017408) (.float .f64 (mul z (ser z 0 8)))).run Try.prog w = .ok (.float .f64 (series z 0)) w := fun w => run_add_ok (P := Try.prog) w 22 (series_add (odd := 0) hz (by omega))
      have x1 := fun w => run_mul_ok (P := Try.prog) w 22 (mul_bd hx (series_bd (odd := 1) hz (by omega)) (by omega)).1
      clear hi0 hm
      go_wp2
      go_ret3
      refine ⟨?_, ?_⟩
      · unfold sinOf cosOf; rw [HZ.out]; rfl
      · exact below_drewN (pw_below w) _
    · obtain rfl : i0 = (k : Int) := by omega
      have h1 := pw_cellS w k (by omega)
      have h2 := pw_cellD w k (by omega)
      rw [show 8 - (k + 1) = 7 - k by omega]
      have m1 := fun w => run_mul_ok (P := Try.prog) w 22 (ser_mul (odd := 1) (j := 7 - k) hz (by omega) (by omega)).1
      have m0 := fun w => run_mul_ok (P := Try.prog) w 22 (ser_mul (odd := 0) (j := 7 - k) hz (by omega) (by omega)).1
      have a1 := fun w => run_add_ok (P := Try.prog) w 22 (ser_step (odd := 1) hz (by omega) (show k < 7 by omega))
      have a0 := fun w => run_add_ok (P := Try.prog) w 22 (ser_step (odd := 0) hz (by omega) (show k < 7 by omega))
      have hk : (k : Int) ≤ 6 := by omega
      clear hi0 hm
      go_wp2
      go_quiet (fail)
      go_wp2
      go_roundw
      case rel => exact ⟨k, (k : Int) - 1, _, by omega, rfl, rfl, rfl, rfl, rfl⟩
      case measure => simp [intOf]
end Go.Proofs.Ytlmmhmoihmlljaa
