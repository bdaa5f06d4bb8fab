/-
  Contract: AngleOf, for every point.
-/
import Derived.Test.YtlmmhmoihmlljaaG6
namespace Go.Proofs.Ytlmmhmoihmlljaa
open Go Go.RowKit Fl Fs
set_option maxRecDepth 100000
attribute [local go_sem] run_store_float run_neg_float
/-- it returns v, and has drawn at most -/
def Ret (v : Value) (w : World) (e : Ending) (w' : World) : Prop := ∃ n, e = .returned v ∧ w.drewN n = w'
theorem AngleOf_no1 (x y : Nat) (hx : fin x = false) (w : World) : Calls Try.prog 14 #[.float .f64 y, .float .f64 x] w (Ret (.tuple #[.int .i64 0, .bool false]) w) := by
  have Hx := Lib.hid hx; clear hx
  cases hy : fin y
  all_goals (have Hy := Lib.hid hy; clear hy)
  all_goals go_enter Try.func14, Try.ntmps14
  all_goals go_wp2_with (go_at_call 40; refine (Finite_any _ _).mono ?_; rintro e w' ⟨n, rfl, rfl⟩; first | rw [Hx.out] | rw [Hy.out])
  all_goals (go_ret2; exact ⟨_, rfl, rfl⟩)
theorem AngleOf_no2 (x y : Nat) (hx : fin x = true) (hy : fin y = false) (w : World) : Calls Try.prog 14 #[.float .f64 y, .float .f64 x] w (Ret (.tuple #[.int .i64 0, .bool false]) w) := by
  have Hx := Lib.hid hx; clear hx
  have Hy := Lib.hid hy; clear hy
  go_enter Try.func14, Try.ntmps14
  go_wp2_with (go_at_call 40; refine (Finite_any _ _).mono ?_; rintro e w' ⟨n, rfl, rfl⟩; first | rw [Hx.out] | rw [Hy.out])
  go_ret2
  exact ⟨_, rfl, rfl⟩
theorem AngleOf_no3 (x y : Nat) (hx : fin x = true) (hy : fin y = true) (sx : FloatKind.f64.format.order x 0 = some .eq) (sy : FloatKind.f64.format.order y 0 = some .eq) (w : World) : Calls Try.prog 14 #[.float .f64 y, .float .f64 x] w (Ret (.tuple #[.int .i64 0, .bool false]) w) := by
  have Hx := Lib.hid hx; clear hx
  have Hy := Lib.hid hy; clear hy
  go_enter Try.func14, Try.ntmps14
  go_wp2_with (go_at_call 40; refine (Finite_any _ _).mono ?_; rintro e w' ⟨n, rfl, rfl⟩; first | rw [Hx.out] | rw [Hy.out])
  go_ret2
  exact ⟨_, rfl, rfl⟩
set_option maxHeartbeats 400000 in
theorem AngleOf_lt_lt (x y : Nat) (R : Int) (Hx : Hid (fin x = true)) (Hy : Hid (fin y = true)) (Fu : Hid (fin (neg x) = true)) (Fv : Hid (fin (neg y) = true))
    (sx : FloatKind.f64.format.order x 0 = some .lt) (sy : FloatKind.f64.format.order y 0 = some .lt) (HR : Hid (bisect (neg x) (neg y) = R)) (w : World) :
    Calls Try.prog 14 #[.float .f64 y, .float .f64 x] w (Ret (.tuple #[.int .i64 (angle .lt .lt R), .bool true]) w) := by
  go_enter Try.func14, Try.ntmps14
  go_wp2_with (go_at_call 40; refine (Finite_any _ _).mono ?_; rintro e w' ⟨n, rfl, rfl⟩; first | rw [Hx.out] | rw [Hy.out])
  go_loop [10, 11] (fun l h => ∃ (f : Nat) (lo hi : Int), 0 ≤ lo ∧ lo < hi ∧ hi ≤ 90000000001 ∧ hi - lo ≤ 2 ^ f ∧ bis (neg x) (neg y) f lo hi = R ∧ l = .int .i64 lo ∧ h = .int .i64 hi) (fun l h => (intOf h - intOf l).toNat)
  case atStart => exact ⟨37, 0, 90000000001, by omega, by omega, by omega, by decide, HR.out, rfl, rfl⟩
  case round =>
    obtain ⟨f, lo, hi, h0, h1, h2, h3, h4, rfl, rfl⟩ := hrel
    have H3 := Lib.hid h3; clear h3
    have H4 := Lib.hid h4; clear h4
    by_cases hgt : 1 < hi - lo
    · obtain ⟨f, rfl⟩ : ∃ g, f = g + 1 := by
        rcases f with _ | g
        · have := H3.out; simp at this; omega
        · exact ⟨g, rfl⟩
      obtain ⟨b1, b2, b3⟩ := bis_round (u := neg x) (w := neg y) hgt H3.out
      have B1 := Lib.hid b1; clear b1
      have B2 := Lib.hid b2; clear b2
      have B3 := Lib.hid b3; clear b3
      have m0 : 0 ≤ (lo + hi) / 2 := by omega
      have m1 : (lo + hi) / 2 < 90000000001 := by omega
      have m2 : lo < (lo + hi) / 2 := by omega
      have m3 : (lo + hi) / 2 < hi := by omega
      have Hm := Lib.hid (norm_same m0 (by omega))
      have x1 := fun w => run_mul_ok (P := Try.prog) w 22 (mul_fin (sin_fin ((lo + hi) / 2)) Fu.out)
      have x2 := fun w => run_mul_ok (P := Try.prog) w 22 (mul_fin (cos_fin ((lo + hi) / 2)) Fv.out)
      go_wp2_with (go_at_call 9; refine (SinCos_any _ _).mono ?_; rintro e w1 ⟨rfl, rfl⟩; rw [Hm.out])
      all_goals go_round
      all_goals first
        | (simp [intOf]; omega)
        | exact ⟨f, (lo + hi) / 2, hi, by omega, m3, h2, B2.out, bis_t B1.out H4.out ‹_›, rfl, rfl⟩
        | exact ⟨f, lo, (lo + hi) / 2, h0, m2, by omega, B3.out, bis_f B1.out H4.out ‹_›, rfl, rfl⟩
    · have hlo : R = lo := by rw [← H4.out]; exact bis_done _ _ f lo hi (by omega)
      have HL := Lib.hid hlo; clear hlo
      have l1 : lo ≤ 90000000000 := by omega
      go_wp2_with (go_at_call 17; refine (NormOf_any _ _).mono ?_; rintro e w3 ⟨rfl, rfl⟩)
      go_ret2
      exact ⟨_, by rw [HL.out]; rfl, rfl⟩
set_option maxHeartbeats 400000 in
theorem AngleOf_lt_eq (x y : Nat) (R : Int) (Hx : Hid (fin x = true)) (Hy : Hid (fin y = true)) (Fu : Hid (fin (neg x) = true)) (Fv : Hid (fin (y) = true))
    (sx : FloatKind.f64.format.order x 0 = some .lt) (sy : FloatKind.f64.format.order y 0 = some .eq) (HR : Hid (bisect (neg x) (y) = R)) (w : World) :
    Calls Try.prog 14 #[.float .f64 y, .float .f64 x] w (Ret (.tuple #[.int .i64 (angle .lt .eq R), .bool true]) w) := by
  go_enter Try.func14, Try.ntmps14
  go_wp2_with (go_at_call 40; refine (Finite_any _ _).mono ?_; rintro e w' ⟨n, rfl, rfl⟩; first | rw [Hx.out] | rw [Hy.out])
  go_loop [10, 11] (fun l h => ∃ (f : Nat) (lo hi : Int), 0 ≤ lo ∧ lo < hi ∧ hi ≤ 90000000001 ∧ hi - lo ≤ 2 ^ f ∧ bis (neg x) (y) f lo hi = R ∧ l = .int .i64 lo ∧ h = .int .i64 hi) (fun l h => (intOf h - intOf l).toNat)
  case atStart => exact ⟨37, 0, 90000000001, by omega, by omega, by omega, by decide, HR.out, rfl, rfl⟩
  case round =>
    obtain ⟨f, lo, hi, h0, h1, h2, h3, h4, rfl, rfl⟩ := hrel
    have H3 := Lib.hid h3; clear h3
    have H4 := Lib.hid h4; clear h4
    by_cases hgt : 1 < hi - lo
    · obtain ⟨f, rfl⟩ : ∃ g, f = g + 1 := by
        rcases f with _ | g
        · have := H3.out; simp at this; omega
        · exact ⟨g, rfl⟩
      obtain ⟨b1, b2, b3⟩ := bis_round (u := neg x) (w := y) hgt H3.out
      have B1 := Lib.hid b1; clear b1
      have B2 := Lib.hid b2; clear b2
      have B3 := Lib.hid b3; clear b3
      have m0 : 0 ≤ (lo + hi) / 2 := by omega
      have m1 : (lo + hi) / 2 < 90000000001 := by omega
      have m2 : lo < (lo + hi) / 2 := by omega
      have m3 : (lo + hi) / 2 < hi := by omega
      have Hm := Lib.hid (norm_same m0 (by omega))
      have x1 := fun w => run_mul_ok (P := Try.prog) w 22 (mul_fin (sin_fin ((lo + hi) / 2)) Fu.out)
      have x2 := fun w => run_mul_ok (P := Try.prog) w 22 (mul_fin (cos_fin ((lo + hi) / 2)) Fv.out)
      go_wp2_with (go_at_call 9; refine (SinCos_any _ _).mono ?_; rintro e w1 ⟨rfl, rfl⟩; rw [Hm.out])
      all_goals go_round
      all_goals first
        | (simp [intOf]; omega)
        | exact ⟨f, (lo + hi) / 2, hi, by omega, m3, h2, B2.out, bis_t B1.out H4.out ‹_›, rfl, rfl⟩
        | exact ⟨f, lo, (lo + hi) / 2, h0, m2, by omega, B3.out, bis_f B1.out H4.out ‹_›, rfl, rfl⟩
    · have hlo : R = lo := by rw [← H4.out]; exact bis_done _ _ f lo hi (by omega)
      have HL := Lib.hid hlo; clear hlo
      have l1 : lo ≤ 90000000000 := by omega
      go_wp2_with (go_at_call 17; refine (NormOf_any _ _).mono ?_; rintro e w3 ⟨rfl, rfl⟩)
      go_ret2
      exact ⟨_, by rw [HL.out]; rfl, rfl⟩
set_option maxHeartbeats 400000 in
theorem AngleOf_lt_gt (x y : Nat) (R : Int) (Hx : Hid (fin x = true)) (Hy : Hid (fin y = true)) (Fu : Hid (fin (neg x) = true)) (Fv : Hid (fin (y) = true))
    (sx : FloatKind.f64.format.order x 0 = some .lt) (sy : FloatKind.f64.format.order y 0 = some .gt) (HR : Hid (bisect (neg x) (y) = R)) (w : World) :
    Calls Try.prog 14 #[.float .f64 y, .float .f64 x] w (Ret (.tuple #[.int .i64 (angle .lt .gt R), .bool true]) w) := by
  go_enter Try.func14, Try.ntmps14
  go_wp2_with (go_at_call 40; refine (Finite_any _ _).mono ?_; rintro e w' ⟨n, rfl, rfl⟩; first | rw [Hx.out] | rw [Hy.out])
  go_loop [10, 11] (fun l h => ∃ (f : Nat) (lo hi : Int), 0 ≤ lo ∧ lo < hi ∧ hi ≤ 90000000001 ∧ hi - lo ≤ 2 ^ f ∧ bis (neg x) (y) f lo hi = R ∧ l = .int .i64 lo ∧ h = .int .i64 hi) (fun l h => (intOf h - intOf l).toNat)
  case atStart => exact ⟨37, 0, 90000000001, by omega, by omega, by omega, by decide, HR.out, rfl, rfl⟩
  case round =>
    obtain ⟨f, lo, hi, h0, h1, h2, h3, h4, rfl, rfl⟩ := hrel
    have H3 := Lib.hid h3; clear h3
    have H4 := Lib.hid h4; clear h4
    by_cases hgt : 1 < hi - lo
    · obtain ⟨f, rfl⟩ : ∃ g, f = g + 1 := by
        rcases f with _ | g
        · have := H3.out; simp at this; omega
        · exact ⟨g, rfl⟩
      obtain ⟨b1, b2, b3⟩ := bis_round (u := neg x) (w := y) hgt H3.out
      have B1 := Lib.hid b1; clear b1
      have B2 := Lib.hid b2; clear b2
      have B3 := Lib.hid b3; clear b3
      have m0 : 0 ≤ (lo + hi) / 2 := by omega
      have m1 : (lo + hi) / 2 < 90000000001 := by omega
      have m2 : lo < (lo + hi) / 2 := by omega
      have m3 : (lo + hi) / 2 < hi := by omega
      have Hm := Lib.hid (norm_same m0 (by omega))
      have x1 := fun w => run_mul_ok (P := Try.prog) w 22 (mul_fin (sin_fin ((lo + hi) / 2)) Fu.out)
      have x2 := fun w => run_mul_ok (P := Try.prog) w 22 (mul_fin (cos_fin ((lo + hi) / 2)) Fv.out)
      go_wp2_with (go_at_call 9; refine (SinCos_any _ _).mono ?_; rintro e w1 ⟨rfl, rfl⟩; rw [Hm.out])
      all_goals go_round
      all_goals first
        | (simp [intOf]; omega)
        | exact ⟨f, (lo + hi) / 2, hi, by omega, m3, h2, B2.out, bis_t B1.out H4.out ‹_›, rfl, rfl⟩
        | exact ⟨f, lo, (lo + hi) / 2, h0, m2, by omega, B3.out, bis_f B1.out H4.out ‹_›, rfl, rfl⟩
    · have hlo : R = lo := by rw [← H4.out]; exact bis_done _ _ f lo hi (by omega)
      have HL := Lib.hid hlo; clear hlo
      have l1 : lo ≤ 90000000000 := by omega
      go_wp2_with (go_at_call 17; refine (NormOf_any _ _).mono ?_; rintro e w3 ⟨rfl, rfl⟩)
      go_ret2
      exact ⟨_, by rw [HL.out]; rfl, rfl⟩
set_option maxHeartbeats 400000 in
theorem AngleOf_eq_lt (x y : Nat) (R : Int) (Hx : Hid (fin x = true)) (Hy : Hid (fin y = true)) (Fu : Hid (fin (x) = true)) (Fv : Hid (fin (neg y) = true))
    (sx : FloatKind.f64.format.order x 0 = some .eq) (sy : FloatKind.f64.format.order y 0 = some .lt) (HR : Hid (bisect (x) (neg y) = R)) (w : World) :
    Calls Try.prog 14 #[.float .f64 y, .float .f64 x] w (Ret (.tuple #[.int .i64 (angle .eq .lt R), .bool true]) w) := by
  go_enter Try.func14, Try.ntmps14
  go_wp2_with (go_at_call 40; refine (Finite_any _ _).mono ?_; rintro e w' ⟨n, rfl, rfl⟩; first | rw [Hx.out] | rw [Hy.out])
  go_loop [10, 11] (fun l h => ∃ (f : Nat) (lo hi : Int), 0 ≤ lo ∧ lo < hi ∧ hi ≤ 90000000001 ∧ hi - lo ≤ 2 ^ f ∧ bis (x) (neg y) f lo hi = R ∧ l = .int .i64 lo ∧ h = .int .i64 hi) (fun l h => (intOf h - intOf l).toNat)
  case atStart => exact ⟨37, 0, 90000000001, by omega, by omega, by omega, by decide, HR.out, rfl, rfl⟩
  case round =>
    obtain ⟨f, lo, hi, h0, h1, h2, h3, h4, rfl, rfl⟩ := hrel
    have H3 := Lib.hid h3; clear h3
    have H4 := Lib.hid h4; clear h4
    by_cases hgt : 1 < hi - lo
    · obtain ⟨f, rfl⟩ : ∃ g, f = g + 1 := by
        rcases f with _ | g
        · have := H3.out; simp at this; omega
        · exact ⟨g, rfl⟩
      obtain ⟨b1, b2, b3⟩ := bis_round (u := x) (w := neg y) hgt H3.out
      have B1 := Lib.hid b1; clear b1
      have B2 := Lib.hid b2; clear b2
      have B3 := Lib.hid b3; clear b3
      have m0 : 0 ≤ (lo + hi) / 2 := by omega
      have m1 : (lo + hi) / 2 < 90000000001 := by omega
      have m2 : lo < (lo + hi) / 2 := by omega
      have m3 : (lo + hi) / 2 < hi := by omega
      have Hm := Lib.hid (norm_same m0 (by omega))
      have x1 := fun w => run_mul_ok (P := Try.prog) w 22 (mul_fin (sin_fin ((lo + hi) / 2)) Fu.out)
      have x2 := fun w => run_mul_ok (P := Try.prog) w 22 (mul_fin (cos_fin ((lo + hi) / 2)) Fv.out)
      go_wp2_with (go_at_call 9; refine (SinCos_any _ _).mono ?_; rintro e w1 ⟨rfl, rfl⟩; rw [Hm.out])
      all_goals go_round
      all_goals first
        | (simp [intOf]; omega)
        | exact ⟨f, (lo + hi) / 2, hi, by omega, m3, h2, B2.out, bis_t B1.out H4.out ‹_›, rfl, rfl⟩
        | exact ⟨f, lo, (lo + hi) / 2, h0, m2, by omega, B3.out, bis_f B1.out H4.out ‹_›, rfl, rfl⟩
    · have hlo : R = lo := by rw [← H4.out]; exact bis_done _ _ f lo hi (by omega)
      have HL := Lib.hid hlo; clear hlo
      have l1 : lo ≤ 90000000000 := by omega
      go_wp2_with (go_at_call 17; refine (NormOf_any _ _).mono ?_; rintro e w3 ⟨rfl, rfl⟩)
      go_ret2
      exact ⟨_, by rw [HL.out]; rfl, rfl⟩
set_option maxHeartbeats 400000 in
theorem AngleOf_eq_gt (x y : Nat) (R : Int) (Hx : Hid (fin x = true)) (Hy : Hid (fin y = true)) (Fu : Hid (fin (x) = true)) (Fv : Hid (fin (y) = true))
    (sx : FloatKind.f64.format.order x 0 = some .eq) (sy : FloatKind.f64.format.order y 0 = some .gt) (HR : Hid (bisect (x) (y) = R)) (w : World) :
    Calls Try.prog 14 #[.float .f64 y, .float .f64 x] w (Ret (.tuple #[.int .i64 (angle .eq .gt R), .bool true]) w) := by
  go_enter Try.func14, Try.ntmps14
  go_wp2_with (go_at_call 40; refine (Finite_any _ _).mono ?_; rintro e w' ⟨n, rfl, rfl⟩; first | rw [Hx.out] | rw [Hy.out])
  go_loop [10, 11] (fun l h => ∃ (f : Nat) (lo hi : Int), 0 ≤ lo ∧ lo < hi ∧ hi ≤ 90000000001 ∧ hi - lo ≤ 2 ^ f ∧ bis (x) (y) f lo hi = R ∧ l = .int .i64 lo ∧ h = .int .i64 hi) (fun l h => (intOf h - intOf l).toNat)
  case atStart => exact ⟨37, 0, 90000000001, by omega, by omega, by omega, by decide, HR.out, rfl, rfl⟩
  case round =>
    obtain ⟨f, lo, hi, h0, h1, h2, h3, h4, rfl, rfl⟩ := hrel
    have H3 := Lib.hid h3; clear h3
    have H4 := Lib.hid h4; clear h4
    by_cases hgt : 1 < hi - lo
    · obtain ⟨f, rfl⟩ : ∃ g, f = g + 1 := by
        rcases f with _ | g
        · have := H3.out; simp at this; omega
        · exact ⟨g, rfl⟩
      obtain ⟨b1, b2, b3⟩ := bis_round (u := x) (w := y) hgt H3.out
      have B1 := Lib.hid b1; clear b1
      have B2 := Lib.hid b2; clear b2
      have B3 := Lib.hid b3; clear b3
      have m0 : 0 ≤ (lo + hi) / 2 := by omega
      have m1 : (lo + hi) / 2 < 90000000001 := by omega
      have m2 : lo < (lo + hi) / 2 := by omega
      have m3 : (lo + hi) / 2 < hi := by omega
      have Hm := Lib.hid (norm_same m0 (by omega))
      have x1 := fun w => run_mul_ok (P := Try.prog) w 22 (mul_fin (sin_fin ((lo + hi) / 2)) Fu.out)
      have x2 := fun w => run_mul_ok (P := Try.prog) w 22 (mul_fin (cos_fin ((lo + hi) / 2)) Fv.out)
      go_wp2_with (go_at_call 9; refine (SinCos_any _ _).mono ?_; rintro e w1 ⟨rfl, rfl⟩; rw [Hm.out])
      all_goals go_round
      all_goals first
        | (simp [intOf]; omega)
        | exact ⟨f, (lo + hi) / 2, hi, by omega, m3, h2, B2.out, bis_t B1.out H4.out ‹_›, rfl, rfl⟩
        | exact ⟨f, lo, (lo + hi) / 2, h0, m2, by omega, B3.out, bis_f B1.out H4.out ‹_›, rfl, rfl⟩
    · have hlo : R = lo := by rw [← H4.out]; exact bis_done _ _ f lo hi (by omega)
      have HL := Lib.hid hlo; clear hlo
      have l1 : lo ≤ 90000000000 := by omega
      go_wp2_with (go_at_call 17; refine (NormOf_any _ _).mono ?_; rintro e w3 ⟨rfl, rfl⟩)
      go_ret2
      exact ⟨_, by rw [HL.out]; rfl, rfl⟩
set_option maxHeartbeats 400000 in
theorem AngleOf_gt_lt (x y : Nat) (R : Int) (Hx : Hid (fin x = true)) (Hy : Hid (fin y = true)) (Fu : Hid (fin (x) = true)) (Fv : Hid (fin (neg y) = true))
    (sx : FloatKind.f64.format.order x 0 = some .gt) (sy : FloatKind.f64.format.order y 0 = some .lt) (HR : Hid (bisect (x) (neg y) = R)) (w : World) :
    Calls Try.prog 14 #[.float .f64 y, .float .f64 x] w (Ret (.tuple #[.int .i64 (angle .gt .lt R), .bool true]) w) := by
  go_enter Try.func14, Try.ntmps14
  go_wp2_with (go_at_call 40; refine (Finite_any _ _).mono ?_; rintro e w' ⟨n, rfl, rfl⟩; first | rw [Hx.out] | rw [Hy.out])
  go_loop [10, 11] (fun l h => ∃ (f : Nat) (lo hi : Int), 0 ≤ lo ∧ lo < hi ∧ hi ≤ 90000000001 ∧ hi - lo ≤ 2 ^ f ∧ bis (x) (neg y) f lo hi = R ∧ l = .int .i64 lo ∧ h = .int .i64 hi) (fun l h => (intOf h - intOf l).toNat)
  case atStart => exact ⟨37, 0, 90000000001, by omega, by omega, by omega, by decide, HR.out, rfl, rfl⟩
  case round =>
    obtain ⟨f, lo, hi, h0, h1, h2, h3, h4, rfl, rfl⟩ := hrel
    have H3 := Lib.hid h3; clear h3
    have H4 := Lib.hid h4; clear h4
    by_cases hgt : 1 < hi - lo
    · obtain ⟨f, rfl⟩ : ∃ g, f = g + 1 := by
        rcases f with _ | g
        · have := H3.out; simp at this; omega
        · exact ⟨g, rfl⟩
      obtain ⟨b1, b2, b3⟩ := bis_round (u := x) (w := neg y) hgt H3.out
      have B1 := Lib.hid b1; clear b1
      have B2 := Lib.hid b2; clear b2
      have B3 := Lib.hid b3; clear b3
      have m0 : 0 ≤ (lo + hi) / 2 := by omega
      have m1 : (lo + hi) / 2 < 90000000001 := by omega
      have m2 : lo < (lo + hi) / 2 := by omega
      have m3 : (lo + hi) / 2 < hi := by omega
      have Hm := Lib.hid (norm_same m0 (by omega))
      have x1 := fun w => run_mul_ok (P := Try.prog) w 22 (mul_fin (sin_fin ((lo + hi) / 2)) Fu.out)
      have x2 := fun w => run_mul_ok (P := Try.prog) w 22 (mul_fin (cos_fin ((lo + hi) / 2)) Fv.out)
      go_wp2_with (go_at_call 9; refine (SinCos_any _ _).mono ?_; rintro e w1 ⟨rfl, rfl⟩; rw [Hm.out])
      all_goals go_round
      all_goals first
        | (simp [intOf]; omega)
        | exact ⟨f, (lo + hi) / 2, hi, by omega, m3, h2, B2.out, bis_t B1.out H4.out ‹_›, rfl, rfl⟩
        | exact ⟨f, lo, (lo + hi) / 2, h0, m2, by omega, B3.out, bis_f B1.out H4.out ‹_›, rfl, rfl⟩
    · have hlo : R = lo := by rw [← H4.out]; exact bis_done _ _ f lo hi (by omega)
      have HL := Lib.hid hlo; clear hlo
      have l1 : lo ≤ 90000000000 := by omega
      go_wp2_with (go_at_call 17; refine (NormOf_any _ _).mono ?_; rintro e w3 ⟨rfl, rfl⟩)
      go_ret2
      exact ⟨_, by rw [HL.out]; rfl, rfl⟩
set_option maxHeartbeats 400000 in
theorem AngleOf_gt_eq (x y : Nat) (R : Int) (Hx : Hid (fin x = true)) (Hy : Hid (fin y = true)) (Fu : Hid (fin (x) = true)) (Fv : Hid (fin (y) = true))
    (sx : FloatKind.f64.format.order x 0 = some .gt) (sy : FloatKind.f64.format.order y 0 = some .eq) (HR : Hid (bisect (x) (y) = R)) (w : World) :
    Calls Try.prog 14 #[.float .f64 y, .float .f64 x] w (Ret (.tuple #[.int .i64 (angle .gt .eq R), .bool true]) w) := by
  go_enter Try.func14, Try.ntmps14
  go_wp2_with (go_at_call 40; refine (Finite_any _ _).mono ?_; rintro e w' ⟨n, rfl, rfl⟩; first | rw [Hx.out] | rw [Hy.out])
  go_loop [10, 11] (fun l h => ∃ (f : Nat) (lo hi : Int), 0 ≤ lo ∧ lo < hi ∧ hi ≤ 90000000001 ∧ hi - lo ≤ 2 ^ f ∧ bis (x) (y) f lo hi = R ∧ l = .int .i64 lo ∧ h = .int .i64 hi) (fun l h => (intOf h - intOf l).toNat)
  case atStart => exact ⟨37, 0, 90000000001, by omega, by omega, by omega, by decide, HR.out, rfl, rfl⟩
  case round =>
    obtain ⟨f, lo, hi, h0, h1, h2, h3, h4, rfl, rfl⟩ := hrel
    have H3 := Lib.hid h3; clear h3
    have H4 := Lib.hid h4; clear h4
    by_cases hgt : 1 < hi - lo
    · obtain ⟨f, rfl⟩ : ∃ g, f = g + 1 := by
        rcases f with _ | g
        · have := H3.out; simp at this; omega
        · exact ⟨g, rfl⟩
      obtain ⟨b1, b2, b3⟩ := bis_round (u := x) (w := y) hgt H3.out
      have B1 := Lib.hid b1; clear b1
      have B2 := Lib.hid b2; clear b2
      have B3 := Lib.hid b3; clear b3
      have m0 : 0 ≤ (lo + hi) / 2 := by omega
      have m1 : (lo + hi) / 2 < 90000000001 := by omega
      have m2 : lo < (lo + hi) / 2 := by omega
      have m3 : (lo + hi) / 2 < hi := by omega
      have Hm := Lib.hid (norm_same m0 (by omega))
      have x1 := fun w => run_mul_ok (P := Try.prog) w 22 (mul_fin (sin_fin ((lo + hi) / 2)) Fu.out)
      have x2 := fun w => run_mul_ok (P := Try.prog) w 22 (mul_fin (cos_fin ((lo + hi) / 2)) Fv.out)
      go_wp2_with (go_at_call 9; refine (SinCos_any _ _).mono ?_; rintro e w1 ⟨rfl, rfl⟩; rw [Hm.out])
      all_goals go_round
      all_goals first
        | (simp [intOf]; omega)
        | exact ⟨f, (lo + hi) / 2, hi, by omega, m3, h2, B2.out, bis_t B1.out H4.out ‹_›, rfl, rfl⟩
        | exact ⟨f, lo, (lo + hi) / 2, h0, m2, by omega, B3.out, bis_f B1.out H4.out ‹_›, rfl, rfl⟩
    · have hlo : R = lo := by rw [← H4.out]; exact bis_done _ _ f lo hi (by omega)
      have HL := Lib.hid hlo; clear hlo
      have l1 : lo ≤ 90000000000 := by omega
      go_wp2_with (go_at_call 17; refine (NormOf_any _ _).mono ?_; rintro e w3 ⟨rfl, rfl⟩)
      go_ret2
      exact ⟨_, by rw [HL.out]; rfl, rfl⟩
set_option maxHeartbeats 400000 in
theorem AngleOf_gt_gt (x y : Nat) (R : Int) (Hx : Hid (fin x = true)) (Hy : Hid (fin y = true)) (Fu : Hid (fin (x) = true)) (Fv : Hid (fin (y) = true))
    (sx : FloatKind.f64.format.order x 0 = some .gt) (sy : FloatKind.f64.format.order y 0 = some .gt) (HR : Hid (bisect (x) (y) = R)) (w : World) :
    Calls Try.prog 14 #[.float .f64 y, .float .f64 x] w (Ret (.tuple #[.int .i64 (angle .gt .gt R), .bool true]) w) := by
  go_enter Try.func14, Try.ntmps14
  go_wp2_with (go_at_call 40; refine (Finite_any _ _).mono ?_; rintro e w' ⟨n, rfl, rfl⟩; first | rw [Hx.out] | rw [Hy.out])
  go_loop [10, 11] (fun l h => ∃ (f : Nat) (lo hi : Int), 0 ≤ lo ∧ lo < hi ∧ hi ≤ 90000000001 ∧ hi - lo ≤ 2 ^ f ∧ bis (x) (y) f lo hi = R ∧ l = .int .i64 lo ∧ h = .int .i64 hi) (fun l h => (intOf h - intOf l).toNat)
  case atStart => exact ⟨37, 0, 90000000001, by omega, by omega, by omega, by decide, HR.out, rfl, rfl⟩
  case round =>
    obtain ⟨f, lo, hi, h0, h1, h2, h3, h4, rfl, rfl⟩ := hrel
    have H3 := Lib.hid h3; clear h3
    have H4 := Lib.hid h4; clear h4
    by_cases hgt : 1 < hi - lo
    · obtain ⟨f, rfl⟩ : ∃ g, f = g + 1 := by
        rcases f with _ | g
        · have := H3.out; simp at this; omega
        · exact ⟨g, rfl⟩
      obtain ⟨b1, b2, b3⟩ := bis_round (u := x) (w := y) hgt H3.out
      have B1 := Lib.hid b1; clear b1
      have B2 := Lib.hid b2; clear b2
      have B3 := Lib.hid b3; clear b3
      have m0 : 0 ≤ (lo + hi) / 2 := by omega
      have m1 : (lo + hi) / 2 < 90000000001 := by omega
      have m2 : lo < (lo + hi) / 2 := by omega
      have m3 : (lo + hi) / 2 < hi := by omega
      have Hm := Lib.hid (norm_same m0 (by omega))
      have x1 := fun w => run_mul_ok (P := Try.prog) w 22 (mul_fin (sin_fin ((lo + hi) / 2)) Fu.out)
      have x2 := fun w => run_mul_ok (P := Try.prog) w 22 (mul_fin (cos_fin ((lo + hi) / 2)) Fv.out)
      go_wp2_with (go_at_call 9; refine (SinCos_any _ _).mono ?_; rintro e w1 ⟨rfl, rfl⟩; rw [Hm.out])
      all_goals go_round
      all_goals first
        | (simp [intOf]; omega)
        | exact ⟨f, (lo + hi) / 2, hi, by omega, m3, h2, B2.out, bis_t B1.out H4.out ‹_›, rfl, rfl⟩
        | exact ⟨f, lo, (lo + hi) / 2, h0, m2, by omega, B3.out, bis_f B1.out H4.out ‹_›, rfl, rfl⟩
    · have hlo : R = lo := by rw [← H4.out]; exact bis_done _ _ f lo hi (by omega)
      have HL := Lib.hid hlo; clear hlo
      have l1 : lo ≤ 90000000000 := by omega
      go_wp2_with (go_at_call 17; refine (NormOf_any _ _).mono ?_; rintro e w3 ⟨rfl, rfl⟩)
      go_ret2
      exact ⟨_, by rw [HL.out]; rfl, rfl⟩
theorem AngleOf_yes (x y : Nat) (lx : x < 2 ^ 64) (ly : y < 2 ^ 64) (hx : fin x = true) (hy : fin y = true) (s t : Ordering) (sx : FloatKind.f64.format.order x 0 = some s) (sy : FloatKind.f64.format.order y 0 = some t) (hst : ¬ (s = .eq ∧ t = .eq)) (w : World) :
    Calls Try.prog 14 #[.float .f64 y, .float .f64 x] w (Ret (.tuple #[.int .i64 (angle s t (bisect (x % 2 ^ 63) (y % 2 ^ 63))), .bool true]) w) := by
  have nx : fin (neg x) = true := by rw [fin_neg lx]; exact hx
  have ny : fin (neg y) = true := by rw [fin_neg ly]; exact hy
  have hR := bisect_size lx ly hx hy sx sy
  cases s <;> cases t
  · exact AngleOf_lt_lt x y _ hx hy nx ny sx sy hR w
  · exact AngleOf_lt_eq x y _ hx hy nx hy sx sy hR w
  · exact AngleOf_lt_gt x y _ hx hy nx hy sx sy hR w
  · exact AngleOf_eq_lt x y _ hx hy hx ny sx sy hR w
  · exact absurd ⟨rfl, rfl⟩ hst
  · exact AngleOf_eq_gt x y _ hx hy hx hy sx sy hR w
  · exact AngleOf_gt_lt x y _ hx hy hx ny sx sy hR w
  · exact AngleOf_gt_eq x y _ hx hy hx hy sx sy hR w
  · exact AngleOf_gt_gt x y _ hx hy hx hy sx sy hR w
end Go.Proofs.Ytlmmhmoihmlljaa
