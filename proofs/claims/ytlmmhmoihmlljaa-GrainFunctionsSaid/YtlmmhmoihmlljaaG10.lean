/-
  Contracts: IsInf, IsNaN, NaN, Inf, normalize, Frexp.
-/
import Derived.Test.YtlmmhmoihmlljaaG4
import Derived.Test.YtlmmhmoihmlljaaFk
namespace Go.Proofs.Ytlmmhmoihmlljaa
open Go Go.RowKit Fl Fs
set_option maxRecDepth 100000
attribute [local go_sem] run_store_float run_neg_float
theorem f64frombits_int (n : Int) (w : World) : (callFunc 62 #[.int .u64 n]).run Try.prog w = .ok (.value (.float .f64 n.toNat)) w := by
  rw [run_callFunc_extern (e := Extern.MathFloatBits.float64frombits) Try.func62 (by kernel_rfl) (by kernel_rfl) (by kernel_rfl) (by kernel_rfl)]
  rfl
theorem NaN_any (w : World) : Calls Try.prog 56 #[] w fun e w' => e = .returned (.float .f64 9221120237041090561) ∧ w = w' := by
  have h := fun w => f64frombits_int 9221120237041090561 w
  go_enter Try.func56, Try.ntmps56
  go_wp2
  go_ret
  exact ⟨rfl, rfl⟩
theorem Inf_up (w : World) : Calls Try.prog 57 #[.int .i64 1] w fun e w' => e = .returned (.float .f64 9218868437227405312) ∧ w = w' := by
  have h := fun w => f64frombits_int 9218868437227405312 w
  go_enter Try.func57, Try.ntmps57
  go_wp2
  go_ret
  exact ⟨rfl, rfl⟩
theorem Inf_down (w : World) : Calls Try.prog 57 #[.int .i64 (-1)] w fun e w' => e = .returned (.float .f64 18442240474082181120) ∧ w = w' := by
  have h := fun w => f64frombits_int 18442240474082181120 w
  go_enter Try.func57, Try.ntmps57
  go_wp2
  go_ret
  exact ⟨rfl, rfl⟩
theorem IsNaN_any (x : Nat) (w : World) : Calls Try.prog 76 #[.float .f64 x] w fun e w' => e = .returned (.bool (FloatKind.f64.format.order x x != some .eq)) ∧ w = w' := by
  go_enter Try.func76, Try.ntmps76
  go_wp2
  go_ret
  exact ⟨rfl, rfl⟩
theorem IsInf_up (x : Nat) (w : World) : Calls Try.prog 58 #[.float .f64 x, .int .i64 1] w fun e w' => e = .returned (.bool (FloatKind.f64.format.order x 9218868437227405311 == some .gt)) ∧ w = w' := by
  go_enter Try.func58, Try.ntmps58
  go_wp2
  go_ret
  exact ⟨rfl, rfl⟩
theorem IsInf_any (x : Nat) (hx : x < 2 ^ 64) (w : World) : Calls Try.prog 58 #[.float .f64 x, .int .i64 0] w fun e w' => e = .returned (.bool (FloatKind.f64.format.order (x % 2 ^ 63) 9218868437227405311 == some .gt)) ∧ w = w' := by
  have H := Lib.hid hx; clear hx
  go_enter Try.func58, Try.ntmps58
  go_wp2_with (go_at_call 39; refine (Abs_any _ H.out _).mono ?_; rintro e w' ⟨rfl, rfl⟩)
  go_ret
  exact ⟨rfl, rfl⟩
theorem normalize_small (x : Nat) (h0 : x ≠ 0) (hx : x < 2 ^ 52) (w : World) : Calls Try.prog 82 #[.float .f64 x] w fun e w' => e = .returned (.tuple #[.float .f64 (dblN 52 x), .int .i64 (-52)]) ∧ w = w' := by
  have hm := fun w => run_mul_ok (P := Try.prog) w 22 (mul_scale h0 hx)
  have ho : FloatKind.f64.format.order x 4503599627370496 = some .lt := by rw [order_pos (by omega) (by omega)]; congr 1; exact Nat.compare_eq_lt.2 hx
  have ha := Abs_any x (by omega)
  rw [Nat.mod_eq_of_lt (by omega)] at ha
  have HA := Lib.hid ha; clear ha h0 hx
  go_enter Try.func82, Try.ntmps82
  go_wp2_with (go_at_call 39; refine (HA.out _).mono ?_; rintro e w' ⟨rfl, rfl⟩)
  go_ret2
  exact ⟨rfl, rfl⟩
theorem normalize_big (x : Nat) (h0 : 2 ^ 52 ≤ x % 2 ^ 63) (hx : x < 2 ^ 64) (hf : fin x = true) (w : World) : Calls Try.prog 82 #[.float .f64 x] w fun e w' => e = .returned (.tuple #[.float .f64 x, .int .i64 0]) ∧ w = w' := by
  have ho : (FloatKind.f64.format.order (x % 2 ^ 63) 4503599627370496 == some .lt) = false := by
    rw [fin_iff] at hf
    have hf := of_decide_eq_true hf
    rw [order_pos hf (by omega)]
    have : compare (x % 2 ^ 63) 4503599627370496 ≠ .lt := by rw [Ne, Nat.compare_eq_lt]; omega
    simp [this]
  have H := Lib.hid hx; clear h0 hx hf
  go_enter Try.func82, Try.ntmps82
  go_wp2_with (go_at_call 39; refine (Abs_any _ H.out _).mono ?_; rintro e w' ⟨rfl, rfl⟩)
  go_ret2
  exact ⟨rfl, rfl⟩
theorem frexp_any (x : Nat) (h0 : x ≠ 0) (hx : x < 2047 * 2 ^ 52) (w : World) : Calls Try.prog 71 #[.float .f64 x] w fun e w' => e = .returned (.tuple #[.float .f64 (fr x), .int .i64 (ex x)]) ∧ w = w' := by
  obtain ⟨hn1, hn2⟩ := nrm_range h0 hx
  have hz : FloatKind.f64.format.order x 0 = some .gt := by rw [order_pos hx (by omega)]; congr 1; exact Nat.compare_eq_gt.2 (by omega)
  have hs := order_self (x := x) (fin_not_nan (by rw [fin_iff]; simp; omega))
  have hmax : (FloatKind.f64.format.order x 9218868437227405311 == some .gt) = false := by
    rw [order_pos hx (by omega)]
    have : compare x 9218868437227405311 ≠ .gt := by rw [Ne, Nat.compare_eq_gt]; omega
    simp [this]
  have hinf : Hid (∀ w, Calls Try.prog 58 #[.float .f64 x, .int .i64 0] w fun e w' => e = .returned (.bool false) ∧ w = w') := Lib.hid (by
    intro w
    have := IsInf_any x (by omega) w
    rw [Nat.mod_eq_of_lt (by omega), hmax] at this; exact this)
  have hnan : Hid (∀ w, Calls Try.prog 76 #[.float .f64 x] w fun e w' => e = .returned (.bool false) ∧ w = w') := Lib.hid (by
    intro w
    have := IsNaN_any x w
    rw [hs] at this; exact this)
  have hno : Hid (∀ w, Calls Try.prog 82 #[.float .f64 x] w fun e w' => e = .returned (.tuple #[.float .f64 (nrm x), .int .i64 (if x < 2 ^ 52 then -52 else 0)]) ∧ w = w') := Lib.hid (by
    intro w
    unfold nrm
    by_cases h : x < 2 ^ 52
    · rw [if_pos h, if_pos h]; exact normalize_small x h0 h w
    · rw [if_neg h, if_neg h]; exact normalize_big x (by omega) (by omega) (by rw [fin_iff]; simp; omega) w)
  have hb := fun w => f64bits (nrm x) w
  have b1 : bits .and .u64 ((nrm x : Int) / 4503599627370496) 2047 = (nrm x : Int) / 4503599627370496 := by
    have e : (nrm x : Int) / 4503599627370496 = ((nrm x / 2 ^ 52 : Nat) : Int) := by omega
    rw [e, u64_and _ _ (by omega) (by omega) (by omega) (by omega), Int.toNat_natCast]
    have h2 := Nat.and_two_pow_sub_one_eq_mod (nrm x / 2 ^ 52) 11
    have h3 : nrm x / 2 ^ 52 % 2 ^ 11 = nrm x / 2 ^ 52 := by omega
    rw [h3] at h2
    exact congrArg Int.ofNat h2
  have b2 : bits .or .u64 (bits .andNot .u64 (nrm x : Int) 9218868437227405312) 4602678819172646912 = ((fr x : Nat) : Int) := by
    rw [u64_andNot _ _ (by omega) (by omega) (by omega) (by omega), Int.toNat_natCast]
    have h2 : nrm x &&& (18446744073709551615 - (9218868437227405312 : Int).toNat) = nrm x % 2 ^ 52 := and_low (by omega)
    rw [h2, u64_or _ _ (by omega) (by omega) (by omega) (by omega), Int.toNat_natCast]
    have h3 := or_exp (nrm x % 2 ^ 52) 1022 (by omega)
    exact congrArg Int.ofNat h3
  have b3 := fun w => f64frombits_int ((fr x : Nat) : Int) w
  have hd : (if x < 2 ^ 52 then (-52 : Int) else 0) = -52 ∨ (if x < 2 ^ 52 then (-52 : Int) else 0) = 0 := by split <;> simp
  have hE : Hid (ex x = (if x < 2 ^ 52 then -52 else 0) + (((nrm x / 2 ^ 52 : Nat) : Int) - 1022)) := Lib.hid (by unfold ex; split <;> omega)
  generalize (if x < 2 ^ 52 then (-52 : Int) else 0) = d at *
  have hd1 : -52 ≤ d := by omega
  have hd2 : d ≤ 0 := by omega
  generalize fr x = F at *
  generalize nrm x = y at *
  have y1 : (y : Int) / 4503599627370496 ≤ 2046 := by omega
  have y2 : 0 ≤ (y : Int) / 4503599627370496 := by omega
  rw [Int.toNat_natCast] at b3
  clear hs hmax h0 hd hn1 hn2
  go_enter Try.func71, Try.ntmps71
  go_wp2_with (first
    | (go_at_call 58; refine (hinf.out _).mono ?_; rintro e w' ⟨rfl, rfl⟩)
    | (go_at_call 76; refine (hnan.out _).mono ?_; rintro e w' ⟨rfl, rfl⟩)
    | (go_at_call 82; refine (hno.out _).mono ?_; rintro e w' ⟨rfl, rfl⟩))
  go_ret2
  refine ⟨?_, rfl⟩
  rw [hE.out]
  have : d + ((y : Int) / 4503599627370496 - 1023 + 1) = d + (((y / 2 ^ 52 : Nat) : Int) - 1022) := by omega
  exact congrArg (fun n => Ending.returned (.tuple #[.float .f64 F, .int .i64 n])) this
theorem Frexp_any (x : Nat) (h0 : x ≠ 0) (hx : x < 2047 * 2 ^ 52) (w : World) : Calls Try.prog 59 #[.float .f64 x] w fun e w' => e = .returned (.tuple #[.float .f64 (fr x), .int .i64 (ex x)]) ∧ w = w' := by
  have H := Lib.hid (frexp_any x h0 hx); clear h0 hx
  go_enter Try.func59, Try.ntmps59
  go_wp2_with (go_at_call 71; refine (H.out _).mono ?_; rintro e w' ⟨rfl, rfl⟩)
  go_ret2
  exact ⟨rfl, rfl⟩
end Go.Proofs.Ytlmmhmoihmlljaa
