/-
  Contracts: Abs, Sqrt, Length.
-/
import Derived.Test.YtlmmhmoihmlljaaG3
import Derived.Deep.RegionWith
import Derived.BigRegion
namespace Go.Proofs.Ytlmmhmoihmlljaa
open Go Go.RowKit Fl Fs
set_option maxRecDepth 100000
attribute [local go_sem] run_store_float run_neg_float
theorem f64bits (x : Nat) (w : World) : (callFunc 50 #[.float .f64 x]).run Try.prog w = .ok (.value (.int .u64 x)) w := by
  rw [run_callFunc_extern (e := Extern.MathFloatBits.float64bits) Try.func50 (by kernel_rfl) (by kernel_rfl) (by kernel_rfl) (by kernel_rfl)]
  rfl
theorem f64frombits (x : Nat) (w : World) : (callFunc 62 #[.int .u64 (x : Int)]).run Try.prog w = .ok (.value (.float .f64 x)) w := by
  rw [run_callFunc_extern (e := Extern.MathFloatBits.float64frombits) Try.func62 (by kernel_rfl) (by kernel_rfl) (by kernel_rfl) (by kernel_rfl)]
  rfl
theorem Abs_any (x : Nat) (hx : x < 2 ^ 64) (w : World) : Calls Try.prog 39 #[.float .f64 x] w fun e w' => e = .returned (.float .f64 (x % 2 ^ 63)) ∧ w = w' := by
  have h1 := f64bits x
  have h2 : ∀ w, (callFunc 62 #[.int .u64 (bits .andNot .u64 (x : Int) 9223372036854775808)]).run Try.prog w = .ok (.value (.float .f64 (x % 2 ^ 63))) w := by
    intro w
    have h3 : x &&& 9223372036854775807 = x % 2 ^ 63 := by
      have := Nat.and_two_pow_sub_one_eq_mod x 63
      simpa using this
    have h4 : bits .andNot .u64 (x : Int) 9223372036854775808 = ((x % 2 ^ 63 : Nat) : Int) := by
      rw [u64_andNot _ _ (by omega) (by omega) (by omega) (by omega), Int.toNat_natCast]
      exact congrArg Int.ofNat h3
    rw [h4]; exact f64frombits _ w
  generalize x % 2 ^ 63 = r at *
  clear hx
  go_enter Try.func39, Try.ntmps39
  go_wp2
  go_ret
  exact ⟨rfl, rfl⟩
theorem run_sqrt_call (x : Nat) (w : World) : ∃ r n, (callFunc 63 #[.float .f64 x]).run Try.prog w = .ok (.value (.float .f64 r)) (w.drewN n) ∧ Got (Ieee.Format.sqrt Ieee.double x) r := by
  obtain ⟨r, n, h, hr⟩ := run_sqrt (P := Try.prog) x w
  refine ⟨r, n, ?_, hr⟩
  rw [run_callFunc_extern (e := Extern.MathSqrt.sqrt) Try.func63 (by kernel_rfl) (by kernel_rfl) (by kernel_rfl) (by kernel_rfl), h]
  rfl
theorem Sqrt_any (x x' : Nat) (hx : Sim x x') (w : World) : Calls Try.prog 41 #[.float .f64 x] w fun e w' => ∃ r n, e = .returned (.float .f64 r) ∧ Sim r (Fl.sqrt x') ∧ w.drewN n = w' := by
  obtain ⟨r, n, h, hr⟩ := run_sqrt_call x w
  go_enter Try.func41, Try.ntmps41
  go_wp2
  go_ret
  exact ⟨r, n, rfl, got_sqrt hx hr, rfl⟩
theorem sim_sqrt {x y : Nat} (h : Sim x y) : Sim (Fl.sqrt x) (Fl.sqrt y) := by
  rcases h with rfl | ⟨a, b⟩
  · exact Sim.refl _
  · unfold Fl.sqrt; rw [sqrt_nan a, sqrt_nan b]; exact Sim.refl _
theorem Length_any (x y z : Nat) (w : World) : Calls Try.prog 15 #[.agg #[.float .f64 x, .float .f64 y, .float .f64 z]] w fun e w' => ∃ r, e = .returned (.float .f64 r) ∧ Sim r (Fl.sqrt (add (add (mul x x) (mul y y)) (mul z z))) ∧ Below w.heap.size w w' := by
  go_enter Try.func15, Try.ntmps15
  go_wp2_with (first | (refine wpList_fl rfl rfl (by decide) rfl rfl ?_; intro r n hr) | (go_at_call 41; refine (Sqrt_any _ _ (Sim.refl _) _).mono ?_; rintro e w1 ⟨rs, ns, rfl, hrs, rfl⟩))
  go_ret
  rename_i r3 n3 hr3 r2 n2 hr2 r1 n1 hr1 r0 n0 hr0
  refine ⟨rs, rfl, hrs.trans ?_, below_drewN ((Below.refl _ _).alloc (Nat.le_refl _) _) _⟩
  have h := got_add (got_add (got_mul (Sim.refl _) (Sim.refl _) hr3) (got_mul (Sim.refl _) (Sim.refl _) hr2) hr1) (got_mul (Sim.refl _) (Sim.refl _) hr0) hr
  exact sim_sqrt h
end Go.Proofs.Ytlmmhmoihmlljaa
