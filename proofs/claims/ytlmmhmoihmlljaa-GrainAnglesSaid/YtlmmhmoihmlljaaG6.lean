/-
  Contract: grain.Angle, for every point.
-/
import Derived.Test.YtlmmhmoihmlljaaG4
import Derived.Test.YtlmmhmoihmlljaaFb
namespace Go.Proofs.Ytlmmhmoihmlljaa
open Go Go.RowKit Fl Fs
set_option maxRecDepth 100000
attribute [local go_sem] run_store_float run_neg_float
theorem norm_same {m : Int} (h0 : 0 ≤ m) (h1 : m < 360000000000) : G.norm m = m := by unfold G.norm G.turn; omega
theorem bis_round {u w f : Nat} {lo hi : Int} (h : 1 < hi - lo) (hf : hi - lo ≤ 2 ^ (f + 1)) :
    bis u w (f + 1) lo hi = (if test u w ((lo + hi) / 2) then bis u w f ((lo + hi) / 2) hi else bis u w f lo ((lo + hi) / 2)) ∧ hi - (lo + hi) / 2 ≤ 2 ^ f ∧ (lo + hi) / 2 - lo ≤ 2 ^ f := by
  refine ⟨by conv => lhs; unfold bis
             rw [if_pos h], ?_, ?_⟩
  · rw [Int.pow_succ] at hf; omega
  · rw [Int.pow_succ] at hf; omega
theorem bis_t {u v f : Nat} {lo hi R : Int} (B : bis u v (f + 1) lo hi = if test u v ((lo + hi) / 2) = true then bis u v f ((lo + hi) / 2) hi else bis u v f lo ((lo + hi) / 2)) (H : bis u v (f + 1) lo hi = R)
    (h : (FloatKind.f64.format.order (mul (sin ((lo + hi) / 2)) u) (mul (cos ((lo + hi) / 2)) v) == some Ordering.lt) = true ∨ (FloatKind.f64.format.order (mul (sin ((lo + hi) / 2)) u) (mul (cos ((lo + hi) / 2)) v) == some Ordering.eq) = true) : bis u v f ((lo + hi) / 2) hi = R := by
  have ht : test u v ((lo + hi) / 2) = true := by
    unfold test leq
    rcases h with h | h <;> rw [h]
    · rfl
    · rw [Bool.or_true]
  rw [ht, if_pos rfl] at B
  rw [← B]; exact H
theorem bis_f {u v f : Nat} {lo hi R : Int} (B : bis u v (f + 1) lo hi = if test u v ((lo + hi) / 2) = true then bis u v f ((lo + hi) / 2) hi else bis u v f lo ((lo + hi) / 2)) (H : bis u v (f + 1) lo hi = R)
    (h : (FloatKind.f64.format.order (mul (sin ((lo + hi) / 2)) u) (mul (cos ((lo + hi) / 2)) v) == some Ordering.lt) = false ∧ (FloatKind.f64.format.order (mul (sin ((lo + hi) / 2)) u) (mul (cos ((lo + hi) / 2)) v) == some Ordering.eq) = false) : bis u v f lo ((lo + hi) / 2) = R := by
  have ht : test u v ((lo + hi) / 2) = false := by
    unfold test leq
    rw [h.1, h.2]; rfl
  rw [ht, if_neg (by simp)] at B
  rw [← B]; exact H
/-- no point -/
theorem Angle_no1 (x y : Nat) (hx : fin x = false) (w : World) : Calls Try.prog 13 #[.float .f64 y, .float .f64 x] w fun e w' => e = .returned (.tuple #[.int .i64 0, .bool false]) ∧ Below w.heap.size w w' := by
  go_enter Try.func13, Try.ntmps13
  go_wp2_with (go_at_call 38; refine (finite_any x _).mono ?_; rintro e w' ⟨n, rfl, rfl⟩; rw [hx])
  go_ret2
  exact ⟨rfl, below_drewN (Below.refl _ _) _⟩
theorem Angle_no2 (x y : Nat) (hx : fin x = true) (hy : fin y = false) (w : World) : Calls Try.prog 13 #[.float .f64 y, .float .f64 x] w fun e w' => e = .returned (.tuple #[.int .i64 0, .bool false]) ∧ Below w.heap.size w w' := by
  have Hx := Lib.hid hx; clear hx
  have Hy := Lib.hid hy; clear hy
  go_enter Try.func13, Try.ntmps13
  go_wp2_with (first | (go_at_call 38; refine (finite_any x _).mono ?_; rintro e w' ⟨n, rfl, rfl⟩; rw [Hx.out]) | (go_at_call 38; refine (finite_any y _).mono ?_; rintro e w' ⟨n, rfl, rfl⟩; rw [Hy.out]))
  go_ret2
  exact ⟨rfl, below_drewN (Below.refl _ _) _⟩
theorem Angle_no3 (x y : Nat) (hx : fin x = true) (hy : fin y = true) (sx : FloatKind.f64.format.order x 0 = some .eq) (sy : FloatKind.f64.format.order y 0 = some .eq) (w : World) : Calls Try.prog 13 #[.float .f64 y, .float .f64 x] w fun e w' => e = .returned (.tuple #[.int .i64 0, .bool false]) ∧ Below w.heap.size w w' := by
  have Hx := Lib.hid hx; clear hx
  have Hy := Lib.hid hy; clear hy
  go_enter Try.func13, Try.ntmps13
  go_wp2_with (first | (go_at_call 38; refine (finite_any x _).mono ?_; rintro e w' ⟨n, rfl, rfl⟩; rw [Hx.out]) | (go_at_call 38; refine (finite_any y _).mono ?_; rintro e w' ⟨n, rfl, rfl⟩; rw [Hy.out]))
  go_ret2
  exact ⟨rfl, below_drewN (Below.refl _ _) _⟩
set_option maxHeartbeats 400000 in
theorem Angle_lt_lt (x y u v : Nat) (R : Int) (Hlx : Hid (x < 2 ^ 64)) (Hly : Hid (y < 2 ^ 64)) (Hx : Hid (fin x = true)) (Hy : Hid (fin y = true)) (Hu : Hid (x % 2 ^ 63 = u)) (Hv : Hid (y % 2 ^ 63 = v)) (Fu : Hid (fin u = true)) (Fv : Hid (fin v = true))
    (sx : FloatKind.f64.format.order x 0 = some .lt) (sy : FloatKind.f64.format.order y 0 = some .lt) (HR : Hid (bisect u v = R)) (w : World) :
    Calls Try.prog 13 #[.float .f64 y, .float .f64 x] w fun e w' => e = .returned (.tuple #[.int .i64 (angle .lt .lt R), .bool true]) ∧ Below w.heap.size w w' := by
  go_enter Try.func13, Try.ntmps13
  go_wp2_with (first | (go_at_call 38; refine (finite_any x _).mono ?_; rintro e w' ⟨n, rfl, rfl⟩; rw [Hx.out]) | (go_at_call 38; refine (finite_any y _).mono ?_; rintro e w' ⟨n, rfl, rfl⟩; rw [Hy.out]) | (go_at_call 39; refine (Abs_any x Hlx.out _).mono ?_; rintro e w' ⟨rfl, rfl⟩; rw [Hu.out]) | (go_at_call 39; refine (Abs_any y Hly.out _).mono ?_; rintro e w' ⟨rfl, rfl⟩; rw [Hv.out]))
  go_loopw [8, 9] (fun l h wr => ∃ (f : Nat) (lo hi : Int), 0 ≤ lo ∧ lo < hi ∧ hi ≤ 90000000001 ∧ hi - lo ≤ 2 ^ f ∧ bis u v f lo hi = R ∧ l = .int .i64 lo ∧ h = .int .i64 hi ∧ Below w.heap.size w wr) (fun l h _ => (intOf h - intOf l).toNat)
  case atStart => exact ⟨37, 0, 90000000001, by omega, by omega, by omega, by decide, HR.out, rfl, rfl, below_drewN (Below.refl _ _) _⟩
  case round =>
    obtain ⟨f, lo, hi, h0, h1, h2, h3, h4, rfl, rfl, hb⟩ := hrel
    have HB := Lib.hid hb; clear hb
    have H3 := Lib.hid h3; clear h3
    have H4 := Lib.hid h4; clear h4
    by_cases hgt : 1 < hi - lo
    · obtain ⟨f, rfl⟩ : ∃ g, f = g + 1 := by
        rcases f with _ | g
        · have := H3.out; simp at this; omega
        · exact ⟨g, rfl⟩
      obtain ⟨b1, b2, b3⟩ := bis_round (u := u) (w := v) hgt H3.out
      have B1 := Lib.hid b1; clear b1
      have B2 := Lib.hid b2; clear b2
      have B3 := Lib.hid b3; clear b3
      have m0 : 0 ≤ (lo + hi) / 2 := by omega
      have m1 : (lo + hi) / 2 < 90000000001 := by omega
      have m2 : lo < (lo + hi) / 2 := by omega
      have m3 : (lo + hi) / 2 < hi := by omega
      have Hm := Lib.hid (norm_same m0 (by omega))
      have Ht : Hid (∀ b, test u v ((lo + hi) / 2) = b → leq (mul (sin ((lo + hi) / 2)) u) (mul (cos ((lo + hi) / 2)) v) = b) := fun b h => h
      have x1 := fun w => run_mul_ok (P := Try.prog) w 22 (mul_fin (sin_fin ((lo + hi) / 2)) Fu.out)
      have x2 := fun w => run_mul_ok (P := Try.prog) w 22 (mul_fin (cos_fin ((lo + hi) / 2)) Fv.out)
      go_wp2_with (first | (go_at_call 11; refine (Sin_any _ _).mono ?_; rintro e w1 ⟨rfl, hb1⟩; have HB1 := Lib.hid hb1; clear hb1; rw [Hm.out]) | (go_at_call 12; refine (Cos_any _ _).mono ?_; rintro e w2 ⟨rfl, hb2⟩; have HB2 := Lib.hid hb2; clear hb2; rw [Hm.out]))
      all_goals (have hbw : Below w.heap.size w w2 := (HB.out.trans (HB1.out.mono HB.out.size)).trans (HB2.out.mono (HB.out.trans (HB1.out.mono HB.out.size)).size))
      all_goals go_roundw
      all_goals first
        | (simp [intOf]; omega)
        | exact ⟨f, (lo + hi) / 2, hi, by omega, m3, h2, B2.out, bis_t B1.out H4.out ‹_›, rfl, rfl, hbw⟩
        | exact ⟨f, lo, (lo + hi) / 2, h0, m2, by omega, B3.out, bis_f B1.out H4.out ‹_›, rfl, rfl, hbw⟩
    · have hlo : R = lo := by rw [← H4.out]; exact bis_done u v f lo hi (by omega)
      have HL := Lib.hid hlo; clear hlo
      have l1 : lo ≤ 90000000000 := by omega
      go_wp2_with (go_at_call 8; refine (Norm_any _ _).mono ?_; rintro e w3 ⟨rfl, rfl⟩)
      go_ret2
      exact ⟨by rw [HL.out]; rfl, HB.out⟩
set_option maxHeartbeats 400000 in
theorem Angle_lt_eq (x y u v : Nat) (R : Int) (Hlx : Hid (x < 2 ^ 64)) (Hly : Hid (y < 2 ^ 64)) (Hx : Hid (fin x = true)) (Hy : Hid (fin y = true)) (Hu : Hid (x % 2 ^ 63 = u)) (Hv : Hid (y % 2 ^ 63 = v)) (Fu : Hid (fin u = true)) (Fv : Hid (fin v = true))
    (sx : FloatKind.f64.format.order x 0 = some .lt) (sy : FloatKind.f64.format.order y 0 = some .eq) (HR : Hid (bisect u v = R)) (w : World) :
    Calls Try.prog 13 #[.float .f64 y, .float .f64 x] w fun e w' => e = .returned (.tuple #[.int .i64 (angle .lt .eq R), .bool true]) ∧ Below w.heap.size w w' := by
  go_enter Try.func13, Try.ntmps13
  go_wp2_with (first | (go_at_call 38; refine (finite_any x _).mono ?_; rintro e w' ⟨n, rfl, rfl⟩; rw [Hx.out]) | (go_at_call 38; refine (finite_any y _).mono ?_; rintro e w' ⟨n, rfl, rfl⟩; rw [Hy.out]) | (go_at_call 39; refine (Abs_any x Hlx.out _).mono ?_; rintro e w' ⟨rfl, rfl⟩; rw [Hu.out]) | (go_at_call 39; refine (Abs_any y Hly.out _).mono ?_; rintro e w' ⟨rfl, rfl⟩; rw [Hv.out]))
  go_loopw [8, 9] (fun l h wr => ∃ (f : Nat) (lo hi : Int), 0 ≤ lo ∧ lo < hi ∧ hi ≤ 90000000001 ∧ hi - lo ≤ 2 ^ f ∧ bis u v f lo hi = R ∧ l = .int .i64 lo ∧ h = .int .i64 hi ∧ Below w.heap.size w wr) (fun l h _ => (intOf h - intOf l).toNat)
  case atStart => exact ⟨37, 0, 90000000001, by omega, by omega, by omega, by decide, HR.out, rfl, rfl, below_drewN (Below.refl _ _) _⟩
  case round =>
    obtain ⟨f, lo, hi, h0, h1, h2, h3, h4, rfl, rfl, hb⟩ := hrel
    have HB := Lib.hid hb; clear hb
    have H3 := Lib.hid h3; clear h3
    have H4 := Lib.hid h4; clear h4
    by_cases hgt : 1 < hi - lo
    · obtain ⟨f, rfl⟩ : ∃ g, f = g + 1 := by
        rcases f with _ | g
        · have := H3.out; simp at this; omega
        · exact ⟨g, rfl⟩
      obtain ⟨b1, b2, b3⟩ := bis_round (u := u) (w := v) hgt H3.out
      have B1 := Lib.hid b1; clear b1
      have B2 := Lib.hid b2; clear b2
      have B3 := Lib.hid b3; clear b3
      have m0 : 0 ≤ (lo + hi) / 2 := by omega
      have m1 : (lo + hi) / 2 < 90000000001 := by omega
      have m2 : lo < (lo + hi) / 2 := by omega
      have m3 : (lo + hi) / 2 < hi := by omega
      have Hm := Lib.hid (norm_same m0 (by omega))
      have Ht : Hid (∀ b, test u v ((lo + hi) / 2) = b → leq (mul (sin ((lo + hi) / 2)) u) (mul (cos ((lo + hi) / 2)) v) = b) := fun b h => h
      have x1 := fun w => run_mul_ok (P := Try.prog) w 22 (mul_fin (sin_fin ((lo + hi) / 2)) Fu.out)
      have x2 := fun w => run_mul_ok (P := Try.prog) w 22 (mul_fin (cos_fin ((lo + hi) / 2)) Fv.out)
      go_wp2_with (first | (go_at_call 11; refine (Sin_any _ _).mono ?_; rintro e w1 ⟨rfl, hb1⟩; have HB1 := Lib.hid hb1; clear hb1; rw [Hm.out]) | (go_at_call 12; refine (Cos_any _ _).mono ?_; rintro e w2 ⟨rfl, hb2⟩; have HB2 := Lib.hid hb2; clear hb2; rw [Hm.out]))
      all_goals (have hbw : Below w.heap.size w w2 := (HB.out.trans (HB1.out.mono HB.out.size)).trans (HB2.out.mono (HB.out.trans (HB1.out.mono HB.out.size)).size))
      all_goals go_roundw
      all_goals first
        | (simp [intOf]; omega)
        | exact ⟨f, (lo + hi) / 2, hi, by omega, m3, h2, B2.out, bis_t B1.out H4.out ‹_›, rfl, rfl, hbw⟩
        | exact ⟨f, lo, (lo + hi) / 2, h0, m2, by omega, B3.out, bis_f B1.out H4.out ‹_›, rfl, rfl, hbw⟩
    · have hlo : R = lo := by rw [← H4.out]; exact bis_done u v f lo hi (by omega)
      have HL := Lib.hid hlo; clear hlo
      have l1 : lo ≤ 90000000000 := by omega
      go_wp2_with (go_at_call 8; refine (Norm_any _ _).mono ?_; rintro e w3 ⟨rfl, rfl⟩)
      go_ret2
      exact ⟨by rw [HL.out]; rfl, HB.out⟩
set_option maxHeartbeats 400000 in
theorem Angle_lt_gt (x y u v : Nat) (R : Int) (Hlx : Hid (x < 2 ^ 64)) (Hly : Hid (y < 2 ^ 64)) (Hx : Hid (fin x = true)) (Hy : Hid (fin y = true)) (Hu : Hid (x % 2 ^ 63 = u)) (Hv : Hid (y % 2 ^ 63 = v)) (Fu : Hid (fin u = true)) (Fv : Hid (fin v = true))
    (sx : FloatKind.f64.format.order x 0 = some .lt) (sy : FloatKind.f64.format.order y 0 = some .gt) (HR : Hid (bisect u v = R)) (w : World) :
    Calls Try.prog 13 #[.float .f64 y, .float .f64 x] w fun e w' => e = .returned (.tuple #[.int .i64 (angle .lt .gt R), .bool true]) ∧ Below w.heap.size w w' := by
  go_enter Try.func13, Try.ntmps13
  go_wp2_with (first | (go_at_call 38; refine (finite_any x _).mono ?_; rintro e w' ⟨n, rfl, rfl⟩; rw [Hx.out]) | (go_at_call 38; refine (finite_any y _).mono ?_; rintro e w' ⟨n, rfl, rfl⟩; rw [Hy.out]) | (go_at_call 39; refine (Abs_any x Hlx.out _).mono ?_; rintro e w' ⟨rfl, rfl⟩; rw [Hu.out]) | (go_at_call 39; refine (Abs_any y Hly.out _).mono ?_; rintro e w' ⟨rfl, rfl⟩; rw [Hv.out]))
  go_loopw [8, 9] (fun l h wr => ∃ (f : Nat) (lo hi : Int), 0 ≤ lo ∧ lo < hi ∧ hi ≤ 90000000001 ∧ hi - lo ≤ 2 ^ f ∧ bis u v f lo hi = R ∧ l = .int .i64 lo ∧ h = .int .i64 hi ∧ Below w.heap.size w wr) (fun l h _ => (intOf h - intOf l).toNat)
  case atStart => exact ⟨37, 0, 90000000001, by omega, by omega, by omega, by decide, HR.out, rfl, rfl, below_drewN (Below.refl _ _) _⟩
  case round =>
    obtain ⟨f, lo, hi, h0, h1, h2, h3, h4, rfl, rfl, hb⟩ := hrel
    have HB := Lib.hid hb; clear hb
    have H3 := Lib.hid h3; clear h3
    have H4 := Lib.hid h4; clear h4
    by_cases hgt : 1 < hi - lo
    · obtain ⟨f, rfl⟩ : ∃ g, f = g + 1 := by
        rcases f with _ | g
        · have := H3.out; simp at this; omega
        · exact ⟨g, rfl⟩
      obtain ⟨b1, b2, b3⟩ := bis_round (u := u) (w := v) hgt H3.out
      have B1 := Lib.hid b1; clear b1
      have B2 := Lib.hid b2; clear b2
      have B3 := Lib.hid b3; clear b3
      have m0 : 0 ≤ (lo + hi) / 2 := by omega
      have m1 : (lo + hi) / 2 < 90000000001 := by omega
      have m2 : lo < (lo + hi) / 2 := by omega
      have m3 : (lo + hi) / 2 < hi := by omega
      have Hm := Lib.hid (norm_same m0 (by omega))
      have Ht : Hid (∀ b, test u v ((lo + hi) / 2) = b → leq (mul (sin ((lo + hi) / 2)) u) (mul (cos ((lo + hi) / 2)) v) = b) := fun b h => h
      have x1 := fun w => run_mul_ok (P := Try.prog) w 22 (mul_fin (sin_fin ((lo + hi) / 2)) Fu.out)
      have x2 := fun w => run_mul_ok (P := Try.prog) w 22 (mul_fin (cos_fin ((lo + hi) / 2)) Fv.out)
      go_wp2_with (first | (go_at_call 11; refine (Sin_any _ _).mono ?_; rintro e w1 ⟨rfl, hb1⟩; have HB1 := Lib.hid hb1; clear hb1; rw [Hm.out]) | (go_at_call 12; refine (Cos_any _ _).mono ?_; rintro e w2 ⟨rfl, hb2⟩; have HB2 := Lib.hid hb2; clear hb2; rw [Hm.out]))
      all_goals (have hbw : Below w.heap.size w w2 := (HB.out.trans (HB1.out.mono HB.out.size)).trans (HB2.out.mono (HB.out.trans (HB1.out.mono HB.out.size)).size))
      all_goals go_roundw
      all_goals first
        | (simp [intOf]; omega)
        | exact ⟨f, (lo + hi) / 2, hi, by omega, m3, h2, B2.out, bis_t B1.out H4.out ‹_›, rfl, rfl, hbw⟩
        | exact ⟨f, lo, (lo + hi) / 2, h0, m2, by omega, B3.out, bis_f B1.out H4.out ‹_›, rfl, rfl, hbw⟩
    · have hlo : R = lo := by rw [← H4.out]; exact bis_done u v f lo hi (by omega)
      have HL := Lib.hid hlo; clear hlo
      have l1 : lo ≤ 90000000000 := by omega
      go_wp2_with (go_at_call 8; refine (Norm_any _ _).mono ?_; rintro e w3 ⟨rfl, rfl⟩)
      go_ret2
      exact ⟨by rw [HL.out]; rfl, HB.out⟩
set_option maxHeartbeats 400000 in
theorem Angle_eq_lt (x y u v : Nat) (R : Int) (Hlx : Hid (x < 2 ^ 64)) (Hly : Hid (y < 2 ^ 64)) (Hx : Hid (fin x = true)) (Hy : Hid (fin y = true)) (Hu : Hid (x % 2 ^ 63 = u)) (Hv : Hid (y % 2 ^ 63 = v)) (Fu : Hid (fin u = true)) (Fv : Hid (fin v = true))
    (sx : FloatKind.f64.format.order x 0 = some .eq) (sy : FloatKind.f64.format.order y 0 = some .lt) (HR : Hid (bisect u v = R)) (w : World) :
    Calls Try.prog 13 #[.float .f64 y, .float .f64 x] w fun e w' => e = .returned (.tuple #[.int .i64 (angle .eq .lt R), .bool true]) ∧ Below w.heap.size w w' := by
  go_enter Try.func13, Try.ntmps13
  go_wp2_with (first | (go_at_call 38; refine (finite_any x _).mono ?_; rintro e w' ⟨n, rfl, rfl⟩; rw [Hx.out]) | (go_at_call 38; refine (finite_any y _).mono ?_; rintro e w' ⟨n, rfl, rfl⟩; rw [Hy.out]) | (go_at_call 39; refine (Abs_any x Hlx.out _).mono ?_; rintro e w' ⟨rfl, rfl⟩; rw [Hu.out]) | (go_at_call 39; refine (Abs_any y Hly.out _).mono ?_; rintro e w' ⟨rfl, rfl⟩; rw [Hv.out]))
  go_loopw [8, 9] (fun l h wr => ∃ (f : Nat) (lo hi : Int), 0 ≤ lo ∧ lo < hi ∧ hi ≤ 90000000001 ∧ hi - lo ≤ 2 ^ f ∧ bis u v f lo hi = R ∧ l = .int .i64 lo ∧ h = .int .i64 hi ∧ Below w.heap.size w wr) (fun l h _ => (intOf h - intOf l).toNat)
  case atStart => exact ⟨37, 0, 90000000001, by omega, by omega, by omega, by decide, HR.out, rfl, rfl, below_drewN (Below.refl _ _) _⟩
  case round =>
    obtain ⟨f, lo, hi, h0, h1, h2, h3, h4, rfl, rfl, hb⟩ := hrel
    have HB := Lib.hid hb; clear hb
    have H3 := Lib.hid h3; clear h3
    have H4 := Lib.hid h4; clear h4
    by_cases hgt : 1 < hi - lo
    · obtain ⟨f, rfl⟩ : ∃ g, f = g + 1 := by
        rcases f with _ | g
        · have := H3.out; simp at this; omega
        · exact ⟨g, rfl⟩
      obtain ⟨b1, b2, b3⟩ := bis_round (u := u) (w := v) hgt H3.out
      have B1 := Lib.hid b1; clear b1
      have B2 := Lib.hid b2; clear b2
      have B3 := Lib.hid b3; clear b3
      have m0 : 0 ≤ (lo + hi) / 2 := by omega
      have m1 : (lo + hi) / 2 < 90000000001 := by omega
      have m2 : lo < (lo + hi) / 2 := by omega
      have m3 : (lo + hi) / 2 < hi := by omega
      have Hm := Lib.hid (norm_same m0 (by omega))
      have Ht : Hid (∀ b, test u v ((lo + hi) / 2) = b → leq (mul (sin ((lo + hi) / 2)) u) (mul (cos ((lo + hi) / 2)) v) = b) := fun b h => h
      have x1 := fun w => run_mul_ok (P := Try.prog) w 22 (mul_fin (sin_fin ((lo + hi) / 2)) Fu.out)
      have x2 := fun w => run_mul_ok (P := Try.prog) w 22 (mul_fin (cos_fin ((lo + hi) / 2)) Fv.out)
      go_wp2_with (first | (go_at_call 11; refine (Sin_any _ _).mono ?_; rintro e w1 ⟨rfl, hb1⟩; have HB1 := Lib.hid hb1; clear hb1; rw [Hm.out]) | (go_at_call 12; refine (Cos_any _ _).mono ?_; rintro e w2 ⟨rfl, hb2⟩; have HB2 := Lib.hid hb2; clear hb2; rw [Hm.out]))
      all_goals (have hbw : Below w.heap.size w w2 := (HB.out.trans (HB1.out.mono HB.out.size)).trans (HB2.out.mono (HB.out.trans (HB1.out.mono HB.out.size)).size))
      all_goals go_roundw
      all_goals first
        | (simp [intOf]; omega)
        | exact ⟨f, (lo + hi) / 2, hi, by omega, m3, h2, B2.out, bis_t B1.out H4.out ‹_›, rfl, rfl, hbw⟩
        | exact ⟨f, lo, (lo + hi) / 2, h0, m2, by omega, B3.out, bis_f B1.out H4.out ‹_›, rfl, rfl, hbw⟩
    · have hlo : R = lo := by rw [← H4.out]; exact bis_done u v f lo hi (by omega)
      have HL := Lib.hid hlo; clear hlo
      have l1 : lo ≤ 90000000000 := by omega
      go_wp2_with (go_at_call 8; refine (Norm_any _ _).mono ?_; rintro e w3 ⟨rfl, rfl⟩)
      go_ret2
      exact ⟨by rw [HL.out]; rfl, HB.out⟩
set_option maxHeartbeats 400000 in
theorem Angle_eq_gt (x y u v : Nat) (R : Int) (Hlx : Hid (x < 2 ^ 64)) (Hly : Hid (y < 2 ^ 64)) (Hx : Hid (fin x = true)) (Hy : Hid (fin y = true)) (Hu : Hid (x % 2 ^ 63 = u)) (Hv : Hid (y % 2 ^ 63 = v)) (Fu : Hid (fin u = true)) (Fv : Hid (fin v = true))
    (sx : FloatKind.f64.format.order x 0 = some .eq) (sy : FloatKind.f64.format.order y 0 = some .gt) (HR : Hid (bisect u v = R)) (w : World) :
    Calls Try.prog 13 #[.float .f64 y, .float .f64 x] w fun e w' => e = .returned (.tuple #[.int .i64 (angle .eq .gt R), .bool true]) ∧ Below w.heap.size w w' := by
  go_enter Try.func13, Try.ntmps13
  go_wp2_with (first | (go_at_call 38; refine (finite_any x _).mono ?_; rintro e w' ⟨n, rfl, rfl⟩; rw [Hx.out]) | (go_at_call 38; refine (finite_any y _).mono ?_; rintro e w' ⟨n, rfl, rfl⟩; rw [Hy.out]) | (go_at_call 39; refine (Abs_any x Hlx.out _).mono ?_; rintro e w' ⟨rfl, rfl⟩; rw [Hu.out]) | (go_at_call 39; refine (Abs_any y Hly.out _).mono ?_; rintro e w' ⟨rfl, rfl⟩; rw [Hv.out]))
  go_loopw [8, 9] (fun l h wr => ∃ (f : Nat) (lo hi : Int), 0 ≤ lo ∧ lo < hi ∧ hi ≤ 90000000001 ∧ hi - lo ≤ 2 ^ f ∧ bis u v f lo hi = R ∧ l = .int .i64 lo ∧ h = .int .i64 hi ∧ Below w.heap.size w wr) (fun l h _ => (intOf h - intOf l).toNat)
  case atStart => exact ⟨37, 0, 90000000001, by omega, by omega, by omega, by decide, HR.out, rfl, rfl, below_drewN (Below.refl _ _) _⟩
  case round =>
    obtain ⟨f, lo, hi, h0, h1, h2, h3, h4, rfl, rfl, hb⟩ := hrel
    have HB := Lib.hid hb; clear hb
    have H3 := Lib.hid h3; clear h3
    have H4 := Lib.hid h4; clear h4
    by_cases hgt : 1 < hi - lo
    · obtain ⟨f, rfl⟩ : ∃ g, f = g + 1 := by
        rcases f with _ | g
        · have := H3.out; simp at this; omega
        · exact ⟨g, rfl⟩
      obtain ⟨b1, b2, b3⟩ := bis_round (u := u) (w := v) hgt H3.out
      have B1 := Lib.hid b1; clear b1
      have B2 := Lib.hid b2; clear b2
      have B3 := Lib.hid b3; clear b3
      have m0 : 0 ≤ (lo + hi) / 2 := by omega
      have m1 : (lo + hi) / 2 < 90000000001 := by omega
      have m2 : lo < (lo + hi) / 2 := by omega
      have m3 : (lo + hi) / 2 < hi := by omega
      have Hm := Lib.hid (norm_same m0 (by omega))
      have Ht : Hid (∀ b, test u v ((lo + hi) / 2) = b → leq (mul (sin ((lo + hi) / 2)) u) (mul (cos ((lo + hi) / 2)) v) = b) := fun b h => h
      have x1 := fun w => run_mul_ok (P := Try.prog) w 22 (mul_fin (sin_fin ((lo + hi) / 2)) Fu.out)
      have x2 := fun w => run_mul_ok (P := Try.prog) w 22 (mul_fin (cos_fin ((lo + hi) / 2)) Fv.out)
      go_wp2_with (first | (go_at_call 11; refine (Sin_any _ _).mono ?_; rintro e w1 ⟨rfl, hb1⟩; have HB1 := Lib.hid hb1; clear hb1; rw [Hm.out]) | (go_at_call 12; refine (Cos_any _ _).mono ?_; rintro e w2 ⟨rfl, hb2⟩; have HB2 := Lib.hid hb2; clear hb2; rw [Hm.out]))
      all_goals (have hbw : Below w.heap.size w w2 := (HB.out.trans (HB1.out.mono HB.out.size)).trans (HB2.out.mono (HB.out.trans (HB1.out.mono HB.out.size)).size))
      all_goals go_roundw
      all_goals first
        | (simp [intOf]; omega)
        | exact ⟨f, (lo + hi) / 2, hi, by omega, m3, h2, B2.out, bis_t B1.out H4.out ‹_›, rfl, rfl, hbw⟩
        | exact ⟨f, lo, (lo + hi) / 2, h0, m2, by omega, B3.out, bis_f B1.out H4.out ‹_›, rfl, rfl, hbw⟩
    · have hlo : R = lo := by rw [← H4.out]; exact bis_done u v f lo hi (by omega)
      have HL := Lib.hid hlo; clear hlo
      have l1 : lo ≤ 90000000000 := by omega
      go_wp2_with (go_at_call 8; refine (Norm_any _ _).mono ?_; rintro e w3 ⟨rfl, rfl⟩)
      go_ret2
      exact ⟨by rw [HL.out]; rfl, HB.out⟩
set_option maxHeartbeats 400000 in
theorem Angle_gt_lt (x y u v : Nat) (R : Int) (Hlx : Hid (x < 2 ^ 64)) (Hly : Hid (y < 2 ^ 64)) (Hx : Hid (fin x = true)) (Hy : Hid (fin y = true)) (Hu : Hid (x % 2 ^ 63 = u)) (Hv : Hid (y % 2 ^ 63 = v)) (Fu : Hid (fin u = true)) (Fv : Hid (fin v = true))
    (sx : FloatKind.f64.format.order x 0 = some .gt) (sy : FloatKind.f64.format.order y 0 = some .lt) (HR : Hid (bisect u v = R)) (w : World) :
    Calls Try.prog 13 #[.float .f64 y, .float .f64 x] w fun e w' => e = .returned (.tuple #[.int .i64 (angle .gt .lt R), .bool true]) ∧ Below w.heap.size w w' := by
  go_enter Try.func13, Try.ntmps13
  go_wp2_with (first | (go_at_call 38; refine (finite_any x _).mono ?_; rintro e w' ⟨n, rfl, rfl⟩; rw [Hx.out]) | (go_at_call 38; refine (finite_any y _).mono ?_; rintro e w' ⟨n, rfl, rfl⟩; rw [Hy.out]) | (go_at_call 39; refine (Abs_any x Hlx.out _).mono ?_; rintro e w' ⟨rfl, rfl⟩; rw [Hu.out]) | (go_at_call 39; refine (Abs_any y Hly.out _).mono ?_; rintro e w' ⟨rfl, rfl⟩; rw [Hv.out]))
  go_loopw [8, 9] (fun l h wr => ∃ (f : Nat) (lo hi : Int), 0 ≤ lo ∧ lo < hi ∧ hi ≤ 90000000001 ∧ hi - lo ≤ 2 ^ f ∧ bis u v f lo hi = R ∧ l = .int .i64 lo ∧ h = .int .i64 hi ∧ Below w.heap.size w wr) (fun l h _ => (intOf h - intOf l).toNat)
  case atStart => exact ⟨37, 0, 90000000001, by omega, by omega, by omega, by decide, HR.out, rfl, rfl, below_drewN (Below.refl _ _) _⟩
  case round =>
    obtain ⟨f, lo, hi, h0, h1, h2, h3, h4, rfl, rfl, hb⟩ := hrel
    have HB := Lib.hid hb; clear hb
    have H3 := Lib.hid h3; clear h3
    have H4 := Lib.hid h4; clear h4
    by_cases hgt : 1 < hi - lo
    · obtain ⟨f, rfl⟩ : ∃ g, f = g + 1 := by
        rcases f with _ | g
        · have := H3.out; simp at this; omega
        · exact ⟨g, rfl⟩
      obtain ⟨b1, b2, b3⟩ := bis_round (u := u) (w := v) hgt H3.out
      have B1 := Lib.hid b1; clear b1
      have B2 := Lib.hid b2; clear b2
      have B3 := Lib.hid b3; clear b3
      have m0 : 0 ≤ (lo + hi) / 2 := by omega
      have m1 : (lo + hi) / 2 < 90000000001 := by omega
      have m2 : lo < (lo + hi) / 2 := by omega
      have m3 : (lo + hi) / 2 < hi := by omega
      have Hm := Lib.hid (norm_same m0 (by omega))
      have Ht : Hid (∀ b, test u v ((lo + hi) / 2) = b → leq (mul (sin ((lo + hi) / 2)) u) (mul (cos ((lo + hi) / 2)) v) = b) := fun b h => h
      have x1 := fun w => run_mul_ok (P := Try.prog) w 22 (mul_fin (sin_fin ((lo + hi) / 2)) Fu.out)
      have x2 := fun w => run_mul_ok (P := Try.prog) w 22 (mul_fin (cos_fin ((lo + hi) / 2)) Fv.out)
      go_wp2_with (first | (go_at_call 11; refine (Sin_any _ _).mono ?_; rintro e w1 ⟨rfl, hb1⟩; have HB1 := Lib.hid hb1; clear hb1; rw [Hm.out]) | (go_at_call 12; refine (Cos_any _ _).mono ?_; rintro e w2 ⟨rfl, hb2⟩; have HB2 := Lib.hid hb2; clear hb2; rw [Hm.out]))
      all_goals (have hbw : Below w.heap.size w w2 := (HB.out.trans (HB1.out.mono HB.out.size)).trans (HB2.out.mono (HB.out.trans (HB1.out.mono HB.out.size)).size))
      all_goals go_roundw
      all_goals first
        | (simp [intOf]; omega)
        | exact ⟨f, (lo + hi) / 2, hi, by omega, m3, h2, B2.out, bis_t B1.out H4.out ‹_›, rfl, rfl, hbw⟩
        | exact ⟨f, lo, (lo + hi) / 2, h0, m2, by omega, B3.out, bis_f B1.out H4.out ‹_›, rfl, rfl, hbw⟩
    · have hlo : R = lo := by rw [← H4.out]; exact bis_done u v f lo hi (by omega)
      have HL := Lib.hid hlo; clear hlo
      have l1 : lo ≤ 90000000000 := by omega
      go_wp2_with (go_at_call 8; refine (Norm_any _ _).mono ?_; rintro e w3 ⟨rfl, rfl⟩)
      go_ret2
      exact ⟨by rw [HL.out]; rfl, HB.out⟩
set_option maxHeartbeats 400000 in
theorem Angle_gt_eq (x y u v : Nat) (R : Int) (Hlx : Hid (x < 2 ^ 64)) (Hly : Hid (y < 2 ^ 64)) (Hx : Hid (fin x = true)) (Hy : Hid (fin y = true)) (Hu : Hid (x % 2 ^ 63 = u)) (Hv : Hid (y % 2 ^ 63 = v)) (Fu : Hid (fin u = true)) (Fv : Hid (fin v = true))
    (sx : FloatKind.f64.format.order x 0 = some .gt) (sy : FloatKind.f64.format.order y 0 = some .eq) (HR : Hid (bisect u v = R)) (w : World) :
    Calls Try.prog 13 #[.float .f64 y, .float .f64 x] w fun e w' => e = .returned (.tuple #[.int .i64 (angle .gt .eq R), .bool true]) ∧ Below w.heap.size w w' := by
  go_enter Try.func13, Try.ntmps13
  go_wp2_with (first | (go_at_call 38; refine (finite_any x _).mono ?_; rintro e w' ⟨n, rfl, rfl⟩; rw [Hx.out]) | (go_at_call 38; refine (finite_any y _).mono ?_; rintro e w' ⟨n, rfl, rfl⟩; rw [Hy.out]) | (go_at_call 39; refine (Abs_any x Hlx.out _).mono ?_; rintro e w' ⟨rfl, rfl⟩; rw [Hu.out]) | (go_at_call 39; refine (Abs_any y Hly.out _).mono ?_; rintro e w' ⟨rfl, rfl⟩; rw [Hv.out]))
  go_loopw [8, 9] (fun l h wr => ∃ (f : Nat) (lo hi : Int), 0 ≤ lo ∧ lo < hi ∧ hi ≤ 90000000001 ∧ hi - lo ≤ 2 ^ f ∧ bis u v f lo hi = R ∧ l = .int .i64 lo ∧ h = .int .i64 hi ∧ Below w.heap.size w wr) (fun l h _ => (intOf h - intOf l).toNat)
  case atStart => exact ⟨37, 0, 90000000001, by omega, by omega, by omega, by decide, HR.out, rfl, rfl, below_drewN (Below.refl _ _) _⟩
  case round =>
    obtain ⟨f, lo, hi, h0, h1, h2, h3, h4, rfl, rfl, hb⟩ := hrel
    have HB := Lib.hid hb; clear hb
    have H3 := Lib.hid h3; clear h3
    have H4 := Lib.hid h4; clear h4
    by_cases hgt : 1 < hi - lo
    · obtain ⟨f, rfl⟩ : ∃ g, f = g + 1 := by
        rcases f with _ | g
        · have := H3.out; simp at this; omega
        · exact ⟨g, rfl⟩
      obtain ⟨b1, b2, b3⟩ := bis_round (u := u) (w := v) hgt H3.out
      have B1 := Lib.hid b1; clear b1
      have B2 := Lib.hid b2; clear b2
      have B3 := Lib.hid b3; clear b3
      have m0 : 0 ≤ (lo + hi) / 2 := by omega
      have m1 : (lo + hi) / 2 < 90000000001 := by omega
      have m2 : lo < (lo + hi) / 2 := by omega
      have m3 : (lo + hi) / 2 < hi := by omega
      have Hm := Lib.hid (norm_same m0 (by omega))
      have Ht : Hid (∀ b, test u v ((lo + hi) / 2) = b → leq (mul (sin ((lo + hi) / 2)) u) (mul (cos ((lo + hi) / 2)) v) = b) := fun b h => h
      have x1 := fun w => run_mul_ok (P := Try.prog) w 22 (mul_fin (sin_fin ((lo + hi) / 2)) Fu.out)
      have x2 := fun w => run_mul_ok (P := Try.prog) w 22 (mul_fin (cos_fin ((lo + hi) / 2)) Fv.out)
      go_wp2_with (first | (go_at_call 11; refine (Sin_any _ _).mono ?_; rintro e w1 ⟨rfl, hb1⟩; have HB1 := Lib.hid hb1; clear hb1; rw [Hm.out]) | (go_at_call 12; refine (Cos_any _ _).mono ?_; rintro e w2 ⟨rfl, hb2⟩; have HB2 := Lib.hid hb2; clear hb2; rw [Hm.out]))
      all_goals (have hbw : Below w.heap.size w w2 := (HB.out.trans (HB1.out.mono HB.out.size)).trans (HB2.out.mono (HB.out.trans (HB1.out.mono HB.out.size)).size))
      all_goals go_roundw
      all_goals first
        | (simp [intOf]; omega)
        | exact ⟨f, (lo + hi) / 2, hi, by omega, m3, h2, B2.out, bis_t B1.out H4.out ‹_›, rfl, rfl, hbw⟩
        | exact ⟨f, lo, (lo + hi) / 2, h0, m2, by omega, B3.out, bis_f B1.out H4.out ‹_›, rfl, rfl, hbw⟩
    · have hlo : R = lo := by rw [← H4.out]; exact bis_done u v f lo hi (by omega)
      have HL := Lib.hid hlo; clear hlo
      have l1 : lo ≤ 90000000000 := by omega
      go_wp2_with (go_at_call 8; refine (Norm_any _ _).mono ?_; rintro e w3 ⟨rfl, rfl⟩)
      go_ret2
      exact ⟨by rw [HL.out]; rfl, HB.out⟩
set_option maxHeartbeats 400000 in
theorem Angle_gt_gt (x y u v : Nat) (R : Int) (Hlx : Hid (x < 2 ^ 64)) (Hly : Hid (y < 2 ^ 64)) (Hx : Hid (fin x = true)) (Hy : Hid (fin y = true)) (Hu : Hid (x % 2 ^ 63 = u)) (Hv : Hid (y % 2 ^ 63 = v)) (Fu : Hid (fin u = true)) (Fv : Hid (fin v = true))
    (sx : FloatKind.f64.format.order x 0 = some .gt) (sy : FloatKind.f64.format.order y 0 = some .gt) (HR : Hid (bisect u v = R)) (w : World) :
    Calls Try.prog 13 #[.float .f64 y, .float .f64 x] w fun e w' => e = .returned (.tuple #[.int .i64 (angle .gt .gt R), .bool true]) ∧ Below w.heap.size w w' := by
  go_enter Try.func13, Try.ntmps13
  go_wp2_with (first | (go_at_call 38; refine (finite_any x _).mono ?_; rintro e w' ⟨n, rfl, rfl⟩; rw [Hx.out]) | (go_at_call 38; refine (finite_any y _).mono ?_; rintro e w' ⟨n, rfl, rfl⟩; rw [Hy.out]) | (go_at_call 39; refine (Abs_any x Hlx.out _).mono ?_; rintro e w' ⟨rfl, rfl⟩; rw [Hu.out]) | (go_at_call 39; refine (Abs_any y Hly.out _).mono ?_; rintro e w' ⟨rfl, rfl⟩; rw [Hv.out]))
  go_loopw [8, 9] (fun l h wr => ∃ (f : Nat) (lo hi : Int), 0 ≤ lo ∧ lo < hi ∧ hi ≤ 90000000001 ∧ hi - lo ≤ 2 ^ f ∧ bis u v f lo hi = R ∧ l = .int .i64 lo ∧ h = .int .i64 hi ∧ Below w.heap.size w wr) (fun l h _ => (intOf h - intOf l).toNat)
  case atStart => exact ⟨37, 0, 90000000001, by omega, by omega, by omega, by decide, HR.out, rfl, rfl, below_drewN (Below.refl _ _) _⟩
  case round =>
    obtain ⟨f, lo, hi, h0, h1, h2, h3, h4, rfl, rfl, hb⟩ := hrel
    have HB := Lib.hid hb; clear hb
    have H3 := Lib.hid h3; clear h3
    have H4 := Lib.hid h4; clear h4
    by_cases hgt : 1 < hi - lo
    · obtain ⟨f, rfl⟩ : ∃ g, f = g + 1 := by
        rcases f with _ | g
        · have := H3.out; simp at this; omega
        · exact ⟨g, rfl⟩
      obtain ⟨b1, b2, b3⟩ := bis_round (u := u) (w := v) hgt H3.out
      have B1 := Lib.hid b1; clear b1
      have B2 := Lib.hid b2; clear b2
      have B3 := Lib.hid b3; clear b3
      have m0 : 0 ≤ (lo + hi) / 2 := by omega
      have m1 : (lo + hi) / 2 < 90000000001 := by omega
      have m2 : lo < (lo + hi) / 2 := by omega
      have m3 : (lo + hi) / 2 < hi := by omega
      have Hm := Lib.hid (norm_same m0 (by omega))
      have Ht : Hid (∀ b, test u v ((lo + hi) / 2) = b → leq (mul (sin ((lo + hi) / 2)) u) (mul (cos ((lo + hi) / 2)) v) = b) := fun b h => h
      have x1 := fun w => run_mul_ok (P := Try.prog) w 22 (mul_fin (sin_fin ((lo + hi) / 2)) Fu.out)
      have x2 := fun w => run_mul_ok (P := Try.prog) w 22 (mul_fin (cos_fin ((lo + hi) / 2)) Fv.out)
      go_wp2_with (first | (go_at_call 11; refine (Sin_any _ _).mono ?_; rintro e w1 ⟨rfl, hb1⟩; have HB1 := Lib.hid hb1; clear hb1; rw [Hm.out]) | (go_at_call 12; refine (Cos_any _ _).mono ?_; rintro e w2 ⟨rfl, hb2⟩; have HB2 := Lib.hid hb2; clear hb2; rw [Hm.out]))
      all_goals (have hbw : Below w.heap.size w w2 := (HB.out.trans (HB1.out.mono HB.out.size)).trans (HB2.out.mono (HB.out.trans (HB1.out.mono HB.out.size)).size))
      all_goals go_roundw
      all_goals first
        | (simp [intOf]; omega)
        | exact ⟨f, (lo + hi) / 2, hi, by omega, m3, h2, B2.out, bis_t B1.out H4.out ‹_›, rfl, rfl, hbw⟩
        | exact ⟨f, lo, (lo + hi) / 2, h0, m2, by omega, B3.out, bis_f B1.out H4.out ‹_›, rfl, rfl, hbw⟩
    · have hlo : R = lo := by rw [← H4.out]; exact bis_done u v f lo hi (by omega)
      have HL := Lib.hid hlo; clear hlo
      have l1 : lo ≤ 90000000000 := by omega
      go_wp2_with (go_at_call 8; refine (Norm_any _ _).mono ?_; rintro e w3 ⟨rfl, rfl⟩)
      go_ret2
      exact ⟨by rw [HL.out]; rfl, HB.out⟩
theorem Angle_yes (x y : Nat) (lx : x < 2 ^ 64) (ly : y < 2 ^ 64) (hx : fin x = true) (hy : fin y = true) (s t : Ordering) (sx : FloatKind.f64.format.order x 0 = some s) (sy : FloatKind.f64.format.order y 0 = some t) (hst : ¬ (s = .eq ∧ t = .eq)) (w : World) :
    Calls Try.prog 13 #[.float .f64 y, .float .f64 x] w fun e w' => e = .returned (.tuple #[.int .i64 (angle s t (bisect (x % 2 ^ 63) (y % 2 ^ 63))), .bool true]) ∧ Below w.heap.size w w' := by
  have fu : fin (x % 2 ^ 63) = true := by rw [fin_iff] at hx ⊢; rw [Nat.mod_mod]; exact hx
  have fv : fin (y % 2 ^ 63) = true := by rw [fin_iff] at hy ⊢; rw [Nat.mod_mod]; exact hy
  cases s <;> cases t
  · exact Angle_lt_lt x y _ _ _ lx ly hx hy rfl rfl fu fv sx sy rfl w
  · exact Angle_lt_eq x y _ _ _ lx ly hx hy rfl rfl fu fv sx sy rfl w
  · exact Angle_lt_gt x y _ _ _ lx ly hx hy rfl rfl fu fv sx sy rfl w
  · exact Angle_eq_lt x y _ _ _ lx ly hx hy rfl rfl fu fv sx sy rfl w
  · exact absurd ⟨rfl, rfl⟩ hst
  · exact Angle_eq_gt x y _ _ _ lx ly hx hy rfl rfl fu fv sx sy rfl w
  · exact Angle_gt_lt x y _ _ _ lx ly hx hy rfl rfl fu fv sx sy rfl w
  · exact Angle_gt_eq x y _ _ _ lx ly hx hy rfl rfl fu fv sx sy rfl w
  · exact Angle_gt_gt x y _ _ _ lx ly hx hy rfl rfl fu fv sx sy rfl w
end Go.Proofs.Ytlmmhmoihmlljaa
