/-
  Contract: grain.Ln, for every float.
-/
import Derived.Test.YtlmmhmoihmlljaaG10
namespace Go.Proofs.Ytlmmhmoihmlljaa
open Go Go.RowKit Fl Fs
set_option maxRecDepth 100000
attribute [local go_sem] run_store_float run_neg_float
/-- it returns what is alike to V, and has drawn at most -/
def RetSim (V : Nat) (w : World) (e : Ending) (w' : World) : Prop := ∃ r n, e = .returned (.float .f64 r) ∧ Sim r V ∧ w.drewN n = w'
theorem nan_sim : Sim 9221120237041090561 9221120237041090561 := Sim.refl _
theorem ex_range {x : Nat} (h0 : x ≠ 0) (hx : x < 2047 * 2 ^ 52) : -1100 ≤ ex x ∧ ex x ≤ 1100 := by
  have := nrm_range h0 hx
  unfold ex; split <;> omega
theorem fr_range {x : Nat} : 1022 * 2 ^ 52 ≤ fr x ∧ fr x < 1023 * 2 ^ 52 := by unfold fr; omega
theorem Ln_nan (x : Nat) (h : isNaN x = true) (w : World) : Calls Try.prog 32 #[.float .f64 x] w (RetSim 9221120237041090561 w) := by
  have h1 := order_none_l x h
  clear h
  go_enter Try.func32, Try.ntmps32
  go_wp2_with (go_at_call 56; refine (NaN_any _).mono ?_; rintro e w' ⟨rfl, rfl⟩)
  go_ret
  exact ⟨_, 0, rfl, Sim.refl _, rfl⟩
theorem Ln_minus (x : Nat) (h : isNaN x = false) (h2 : FloatKind.f64.format.order x 0 = some .lt) (w : World) : Calls Try.prog 32 #[.float .f64 x] w (RetSim 9221120237041090561 w) := by
  have h1 := order_self h
  clear h
  go_enter Try.func32, Try.ntmps32
  go_wp2_with (go_at_call 56; refine (NaN_any _).mono ?_; rintro e w' ⟨rfl, rfl⟩)
  go_ret
  exact ⟨_, 0, rfl, Sim.refl _, rfl⟩
theorem Ln_zero (x : Nat) (h : isNaN x = false) (h2 : FloatKind.f64.format.order x 0 = some .eq) (w : World) : Calls Try.prog 32 #[.float .f64 x] w (RetSim 18442240474082181120 w) := by
  have h1 := order_self h
  clear h
  go_enter Try.func32, Try.ntmps32
  go_wp2_with (go_at_call 57; refine (Inf_down _).mono ?_; rintro e w' ⟨rfl, rfl⟩)
  go_ret
  exact ⟨_, 0, rfl, Sim.refl _, rfl⟩
theorem Ln_inf (w : World) : Calls Try.prog 32 #[.float .f64 9218868437227405312] w (RetSim 9218868437227405312 w) := by
  have h1 : FloatKind.f64.format.order 9218868437227405312 9218868437227405312 = some .eq := by decide +kernel
  have h2 : FloatKind.f64.format.order 9218868437227405312 0 = some .gt := by decide +kernel
  have h3 : FloatKind.f64.format.order 9218868437227405312 9218868437227405311 = some .gt := by decide +kernel
  go_enter Try.func32, Try.ntmps32
  go_wp2_with (go_at_call 58; refine (IsInf_up _ _).mono ?_; rintro e w' ⟨rfl, rfl⟩)
  go_ret
  exact ⟨_, 0, rfl, Sim.refl _, rfl⟩
set_option maxHeartbeats 1000000 in
theorem Ln_main (x : Nat) (h0 : x ≠ 0) (hx : x < 2047 * 2 ^ 52) (w : World) : Calls Try.prog 32 #[.float .f64 x] w (RetSim (lnV (lnM x) (lnK x)) w) := by
  have h1 := order_self (x := x) (fin_not_nan (by rw [fin_iff]; simp; omega))
  have h2 : FloatKind.f64.format.order x 0 = some .gt := by rw [order_pos hx (by omega)]; congr 1; exact Nat.compare_eq_gt.2 (by omega)
  have h3 : (FloatKind.f64.format.order x 9218868437227405311 == some .gt) = false := by
    rw [order_pos hx (by omega)]
    have : compare x 9218868437227405311 ≠ .gt := by rw [Ne, Nat.compare_eq_gt]; omega
    simp [this]
  have HF := Lib.hid (Frexp_any x h0 hx)
  obtain ⟨e1, e2⟩ := ex_range h0 hx
  obtain ⟨f1, f2⟩ := fr_range (x := x)
  have hm := fun w => run_mul_ok (P := Try.prog) w 22 (mul_two (x := fr x) (by omega) (by omega))
  have hd : dbl (fr x) = fr x + 2 ^ 52 := by unfold dbl; rw [if_neg (by omega)]
  have hM : Hid (∀ M K, M = lnM x → K = lnK x → (fr x < C → M = dbl (fr x) ∧ K = ex x - 1) ∧ (¬ fr x < C → M = fr x ∧ K = ex x)) := by
    rintro _ _ rfl rfl
    unfold lnM lnK
    exact ⟨fun h => by rw [if_pos h, if_pos h, hd]; exact ⟨rfl, rfl⟩, fun h => by rw [if_neg h, if_neg h]; exact ⟨rfl, rfl⟩⟩
  have hc : FloatKind.f64.format.order (fr x) 4604544271217802189 = some (compare (fr x) 4604544271217802189) := order_pos (by omega) (by omega)
  generalize hMM : lnM x = M at *
  generalize hKK : lnK x = K at *
  obtain ⟨m1, m2⟩ := hM.out M K rfl rfl
  clear hM hMM hKK
  generalize fr x = F at *
  generalize ex x = E at *
  clear h0 hx hd f1 f2
  by_cases hC : F < C
  · obtain ⟨rfl, rfl⟩ := m1 hC
    have hlt : compare F 4604544271217802189 = .lt := Nat.compare_eq_lt.2 hC
    rw [hlt] at hc
    clear m1 m2 hC hlt
    go_enter Try.func32, Try.ntmps32
    go_wp2_with (first | (go_at_call 58; refine (IsInf_up _ _).mono ?_; rintro e w' ⟨rfl, rfl⟩) | (go_at_call 59; refine (HF.out _).mono ?_; rintro e w' ⟨rfl, rfl⟩) | (refine wpList_fl (x := .tmp 38) rfl rfl (by decide) rfl rfl ?_; intro rs ns hs) | (refine wpList_fl (x := .tmp 40) rfl rfl (by decide) rfl rfl ?_; intro ra na ha) | (refine wpList_fl (x := .tmp 39) rfl rfl (by decide) rfl rfl ?_; intro rq nq hq) | (refine wpList_fl (x := .tmp 43) rfl rfl (by decide) rfl rfl ?_; intro rz nz hz))
    have hs0 : Sim rq (lnS (dbl F)) := got_div (got_sub (Sim.refl _) (Sim.refl _) hs) (got_add (Sim.refl _) (Sim.refl _) ha) hq
    have hz0 : Sim rz (mul (lnS (dbl F)) (lnS (dbl F))) := got_mul hs0 hs0 hz
    clear hs ha hq hz hc HF hm
    have hz := Lib.hid hz0; clear hz0
    have hs := Lib.hid hs0; clear hs0
    go_loopw [7, 8] (fun p n wr => ∃ (j : Nat) (i0 : Int) (r d : Nat), j ≤ 11 ∧ i0 = 21 - 2 * (j : Int) ∧ n = .int .i64 i0 ∧ p = .float .f64 r ∧ Sim r (lp (mul (lnS (dbl F)) (lnS (dbl F))) j) ∧ wr = w.drewN d) (fun _ n _ => (intOf n + 2).toNat)
    case atStart => exact ⟨0, 21, _, _, by omega, by omega, rfl, rfl, Sim.refl _, rfl⟩
    case round =>
      obtain ⟨j, i0, r, d, hj, hi, rfl, rfl, hp, rfl⟩ := hrel
      have HP := Lib.hid hp; clear hp
      have HI := Lib.hid hi
      by_cases hj2 : j < 11
      · have hi0 : 0 < i0 := by omega
        have hi1 : i0 ≤ 21 := by omega
        clear hi
        go_wp2_with (first | (refine wpList_fl (y := .tmp 51) rfl rfl (by decide) rfl rfl ?_; intro ra na ha) | (refine wpList_fl (x := .tmp 53) rfl rfl (by decide) rfl rfl ?_; intro rb nb hb) | (refine wpList_fl (x := .tmp 52) rfl rfl (by decide) rfl rfl ?_; intro rc nc hc))
        go_roundw
        case measure => simp [intOf]; omega
        case rel =>
        refine ⟨j + 1, i0 - 2, _, _, by omega, by have := HI.out; omega, rfl, rfl, ?_, rfl⟩
        have hh := got_add (got_div (Sim.refl _) (Sim.refl _) ha) (got_mul hz.out HP.out hb) hc
        rw [HI.out] at hh
        exact hh
      · obtain rfl : j = 11 := by omega
        obtain rfl : i0 = -1 := by omega
        clear hi
        go_wp2_with (first | (refine wpList_fl (x := .tmp 59) rfl rfl (by decide) rfl rfl ?_; intro ra na ha) | (refine wpList_fl (x := .tmp 61) rfl rfl (by decide) rfl rfl ?_; intro rb nb hb) | (refine wpList_fl (y := .tmp 63) rfl rfl (by decide) rfl rfl ?_; intro rc nc hc) | (refine wpList_fl (x := .tmp 65) rfl rfl (by decide) rfl rfl ?_; intro rd nd hd) | (refine wpList_fl (x := .tmp 64) rfl rfl (by decide) rfl rfl ?_; intro re ne he) | (refine wpList_fl (x := .tmp 60) rfl rfl (by decide) rfl rfl ?_; intro rf nf hf))
        go_ret
        exact ⟨_, _, rfl, got_add (got_mul (Sim.refl _) (Sim.refl _) ha) (got_add (got_mul (Sim.refl _) (got_mul hs.out HP.out hb) hc) (got_mul (Sim.refl _) (Sim.refl _) hd) he) hf, rfl⟩
  · obtain ⟨rfl, rfl⟩ := m2 hC
    have hge : (compare M 4604544271217802189 == .lt) = false := by
      have : compare M 4604544271217802189 ≠ .lt := by rw [Ne, Nat.compare_eq_lt]; exact hC
      simp [this]
    clear m1 m2 hC
    go_enter Try.func32, Try.ntmps32
    go_wp2_with (first | (go_at_call 58; refine (IsInf_up _ _).mono ?_; rintro e w' ⟨rfl, rfl⟩) | (go_at_call 59; refine (HF.out _).mono ?_; rintro e w' ⟨rfl, rfl⟩) | (refine wpList_fl (x := .tmp 38) rfl rfl (by decide) rfl rfl ?_; intro rs ns hs) | (refine wpList_fl (x := .tmp 40) rfl rfl (by decide) rfl rfl ?_; intro ra na ha) | (refine wpList_fl (x := .tmp 39) rfl rfl (by decide) rfl rfl ?_; intro rq nq hq) | (refine wpList_fl (x := .tmp 43) rfl rfl (by decide) rfl rfl ?_; intro rz nz hz))
    have hs0 : Sim rq (lnS M) := got_div (got_sub (Sim.refl _) (Sim.refl _) hs) (got_add (Sim.refl _) (Sim.refl _) ha) hq
    have hz0 : Sim rz (mul (lnS M) (lnS M)) := got_mul hs0 hs0 hz
    clear hs ha hq hz hc hge HF hm
    have hz := Lib.hid hz0; clear hz0
    have hs := Lib.hid hs0; clear hs0
    go_loopw [7, 8] (fun p n wr => ∃ (j : Nat) (i0 : Int) (r d : Nat), j ≤ 11 ∧ i0 = 21 - 2 * (j : Int) ∧ n = .int .i64 i0 ∧ p = .float .f64 r ∧ Sim r (lp (mul (lnS M) (lnS M)) j) ∧ wr = w.drewN d) (fun _ n _ => (intOf n + 2).toNat)
    case atStart => exact ⟨0, 21, _, _, by omega, by omega, rfl, rfl, Sim.refl _, rfl⟩
    case round =>
      obtain ⟨j, i0, r, d, hj, hi, rfl, rfl, hp, rfl⟩ := hrel
      have HP := Lib.hid hp; clear hp
      have HI := Lib.hid hi
      by_cases hj2 : j < 11
      · have hi0 : 0 < i0 := by omega
        have hi1 : i0 ≤ 21 := by omega
        clear hi
        go_wp2_with (first | (refine wpList_fl (y := .tmp 51) rfl rfl (by decide) rfl rfl ?_; intro ra na ha) | (refine wpList_fl (x := .tmp 53) rfl rfl (by decide) rfl rfl ?_; intro rb nb hb) | (refine wpList_fl (x := .tmp 52) rfl rfl (by decide) rfl rfl ?_; intro rc nc hc))
        go_roundw
        case measure => simp [intOf]; omega
        case rel =>
        refine ⟨j + 1, i0 - 2, _, _, by omega, by have := HI.out; omega, rfl, rfl, ?_, rfl⟩
        have hh := got_add (got_div (Sim.refl _) (Sim.refl _) ha) (got_mul hz.out HP.out hb) hc
        rw [HI.out] at hh
        exact hh
      · obtain rfl : j = 11 := by omega
        obtain rfl : i0 = -1 := by omega
        clear hi
        go_wp2_with (first | (refine wpList_fl (x := .tmp 59) rfl rfl (by decide) rfl rfl ?_; intro ra na ha) | (refine wpList_fl (x := .tmp 61) rfl rfl (by decide) rfl rfl ?_; intro rb nb hb) | (refine wpList_fl (y := .tmp 63) rfl rfl (by decide) rfl rfl ?_; intro rc nc hc) | (refine wpList_fl (x := .tmp 65) rfl rfl (by decide) rfl rfl ?_; intro rd nd hd) | (refine wpList_fl (x := .tmp 64) rfl rfl (by decide) rfl rfl ?_; intro re ne he) | (refine wpList_fl (x := .tmp 60) rfl rfl (by decide) rfl rfl ?_; intro rf nf hf))
        go_ret
        exact ⟨_, _, rfl, got_add (got_mul (Sim.refl _) (Sim.refl _) ha) (got_add (got_mul (Sim.refl _) (got_mul hs.out HP.out hb) hc) (got_mul (Sim.refl _) (Sim.refl _) hd) he) hf, rfl⟩
end Go.Proofs.Ytlmmhmoihmlljaa
