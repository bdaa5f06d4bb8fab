/-
  The law GrainFunctions returns true, for every float.
-/
import Derived.Test.YtlmmhmoihmlljaaG14
namespace Go.Proofs.Ytlmmhmoihmlljaa
open Go Go.RowKit Fl Fs
set_option maxRecDepth 100000
theorem ln_or (x : Nat) (hx : x < 2 ^ 64) : ∃ V, (∀ w, Calls Try.prog 32 #[.float .f64 x] w (RetSim V w)) ∧ (∀ w, Calls Try.prog 34 #[.float .f64 x] w (RetSim V w)) := by
  cases hn : isNaN x with
  | true => exact ⟨_, Ln_nan x hn, LnOf_nan x hn⟩
  | false =>
    cases hf : fin x with
    | false =>
      rw [fin_iff] at hf
      have hf := of_decide_eq_false hf
      have hnn : ¬ 2047 * 2 ^ 52 < x % 2 ^ 63 := by
        intro h; have := (isNaN_iff x).2 h; rw [hn] at this; cases this
      rcases (by omega : x = 9218868437227405312 ∨ x = 18442240474082181120) with h | h
      · subst h; exact ⟨_, Ln_inf, LnOf_inf⟩
      · subst h
        have ho : FloatKind.f64.format.order 18442240474082181120 0 = some .lt := by decide +kernel
        exact ⟨_, Ln_minus _ hn ho, LnOf_minus _ hn ho⟩
    | true =>
      have ho := order_sign hx hf
      rw [fin_iff] at hf
      have hf := of_decide_eq_true hf
      by_cases hz : x % 2 ^ 63 = 0
      · rw [if_pos hz] at ho
        exact ⟨_, Ln_zero x hn ho, LnOf_zero x hn ho⟩
      · rw [if_neg hz] at ho
        by_cases hs : x < 2 ^ 63
        · exact ⟨_, Ln_main x (by omega) (by omega), LnOf_main x (by omega) (by omega)⟩
        · rw [if_neg hs] at ho
          exact ⟨_, Ln_minus x hn ho, LnOf_minus x hn ho⟩
theorem exp_or (x : Nat) (hx : x < 2 ^ 64) : ∃ V, (∀ w, Calls Try.prog 33 #[.float .f64 x] w (SimBelow V w)) ∧ (∀ w, Calls Try.prog 35 #[.float .f64 x] w (RetSim V w)) := by
  cases hn : isNaN x with
  | true => exact ⟨_, Exp_nan x hn, ExpOf_nan x hn⟩
  | false =>
    cases h1 : (FloatKind.f64.format.order x 4649456441864749056 == some .gt) with
    | true =>
      have h := eq_of_beq h1
      exact ⟨_, Exp_high x hn h, ExpOf_high x hn h⟩
    | false =>
      cases h2 : (FloatKind.f64.format.order x 13873145138068324352 == some .lt) with
      | true =>
        have h := eq_of_beq h2
        exact ⟨_, Exp_low x hn h1 h, ExpOf_low x hn h1 h⟩
      | false =>
        have hb := small_bd hx hn h1 h2
        obtain ⟨f1, f2, f3, f4, f5, f6, f7, f8, f9⟩ := exp_facts hb
        obtain ⟨n, hi⟩ := toInt_bd f4 (by omega)
        obtain ⟨V, hL⟩ := Ldexp_ex (ep (er x) 14) add_lt64 (bd_fin (ep_bd f9 14 (by omega))) n
        exact ⟨V, Exp_main x hn h1 h2 hb n hi V hL, ExpOf_main x hn h1 h2 hb n hi V hL⟩
theorem Exp_zero (w : World) : Calls Try.prog 33 #[.float .f64 0] w (SimBelow one w) := by
  have hi : floatToIntVal .f64 (ekf 0) .i64 = some 0 := by decide +kernel
  have he : ep (er 0) 14 = one := by decide +kernel
  refine Exp_main 0 (by decide +kernel) (by decide +kernel) (by decide +kernel) (zero_bd.mono (by omega)) 0 hi one ?_ w
  refine Lib.hid (fun w => ?_)
  rw [he]
  exact (Ldexp_one w).mono fun e w' ⟨h1, h2⟩ => ⟨_, 0, h1, Sim.refl _, h2⟩
theorem Ln_one (w : World) : Calls Try.prog 32 #[.float .f64 4607182418800017408] w (RetSim 0 w) := by
  have h := Ln_main 4607182418800017408 (by decide) (by decide) w
  rw [show lnV (lnM 4607182418800017408) (lnK 4607182418800017408) = 0 from lnV_one] at h
  exact h
set_option maxHeartbeats 1000000 in
theorem GrainFunctions_calls (x : Nat) (hx : x < 2 ^ 64) (w : World) : Calls Try.prog 6 #[.float .f64 x] w fun e w' => e = .returned (.bool true) ∧ Below w.heap.size w w' := by
  obtain ⟨V1, l1, l2⟩ := ln_or x hx
  obtain ⟨V2, l3, l4⟩ := exp_or x hx
  have L1 := Lib.hid l1; clear l1
  have L2 := Lib.hid l2; clear l2
  have L3 := Lib.hid l3; clear l3
  have L4 := Lib.hid l4; clear l4 hx
  have z1 : FloatKind.f64.format.order 0 0 = some .eq := by decide +kernel
  have z2 : FloatKind.f64.format.order 4607182418800017408 4607182418800017408 = some .eq := by decide +kernel
  go_enter Try.func6, Try.ntmps6
  go_wp2_with fail
  refine (Ln_one _).mono ?_; rintro e w1 ⟨r, n, rfl, hr, hw⟩
  obtain rfl : r = 0 := sim_eq hr (by decide +kernel)
  have B1 : Hid (Below w.heap.size w w1) := by rw [← hw]; exact below_drewN (Below.refl _ _) _
  clear hr hw
  go_wp2_with fail
  refine (Exp_zero _).mono ?_; rintro e w2 ⟨r, rfl, hr, hb⟩
  obtain rfl : r = 4607182418800017408 := sim_eq hr (by decide +kernel)
  have B2 := Lib.hid hb
  clear hr hb
  go_wp2_with fail
  refine (L1.out _).mono ?_; rintro e w3 ⟨r3, n3, rfl, hr3, hw⟩
  have B3 : Hid (Below w2.heap.size w2 w3) := by rw [← hw]; exact below_drewN (Below.refl _ _) _
  have R3 := Lib.hid hr3; clear hw hr3
  go_wp2_with fail
  refine (L2.out _).mono ?_; rintro e w4 ⟨r4, n4, rfl, hr4, hw⟩
  have B4 : Hid (Below w3.heap.size w3 w4) := by rw [← hw]; exact below_drewN (Below.refl _ _) _
  have R4 := Lib.hid hr4; clear hw hr4
  go_wp2_with fail
  refine (SameBits_sim (R3.out.trans R4.out.symm) _).mono ?_; rintro e w' ⟨rfl, rfl⟩
  go_wp2_with fail
  refine (L3.out _).mono ?_; rintro e w5 ⟨r5, rfl, hr5, hb⟩
  have B5 := Lib.hid hb
  have R5 := Lib.hid hr5; clear hb hr5
  go_wp2_with fail
  refine (L4.out _).mono ?_; rintro e w6 ⟨r6, n6, rfl, hr6, hw⟩
  have B6 : Hid (Below w5.heap.size w5 w6) := by rw [← hw]; exact below_drewN (Below.refl _ _) _
  have R6 := Lib.hid hr6; clear hw hr6
  go_wp2_with fail
  refine (SameBits_sim (R5.out.trans R6.out.symm) _).mono ?_; rintro e w' ⟨rfl, rfl⟩
  go_wp2_with fail
  go_ret
  have b1 := B1.out
  have b2 := b1.trans (B2.out.mono b1.size)
  have b3 := b2.trans (B3.out.mono b2.size)
  have b4 := b3.trans (B4.out.mono b3.size)
  have b5 := b4.trans (B5.out.mono b4.size)
  exact ⟨rfl, b5.trans (B6.out.mono b5.size)⟩
end Go.Proofs.Ytlmmhmoihmlljaa
