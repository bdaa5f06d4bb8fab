/-
  Contract: LnOf, for every float.
-/
import Derived.Test.YtlmmhmoihmlljaaG11
namespace Go.Proofs.Ytlmmhmoihmlljaa
open Go Go.RowKit Fl Fs
set_option maxRecDepth 100000
attribute [local go_sem] run_store_float run_neg_float
theorem LnOf_nan (x : Nat) (h : isNaN x = true) (w : World) : Calls Try.prog 34 #[.float .f64 x] w (RetSim 9221120237041090561 w) := by
  have h1 := order_none_l x h
  clear h
  go_enter Try.func34, Try.ntmps34
  go_wp2_with (go_at_call 56; refine (NaN_any _).mono ?_; rintro e w' ⟨rfl, rfl⟩)
  go_ret
  exact ⟨_, 0, rfl, Sim.refl _, rfl⟩
theorem LnOf_minus (x : Nat) (h : isNaN x = false) (h2 : FloatKind.f64.format.order x 0 = some .lt) (w : World) : Calls Try.prog 34 #[.float .f64 x] w (RetSim 9221120237041090561 w) := by
  have h1 := order_self h
  clear h
  go_enter Try.func34, Try.ntmps34
  go_wp2_with (go_at_call 56; refine (NaN_any _).mono ?_; rintro e w' ⟨rfl, rfl⟩)
  go_ret
  exact ⟨_, 0, rfl, Sim.refl _, rfl⟩
theorem LnOf_zero (x : Nat) (h : isNaN x = false) (h2 : FloatKind.f64.format.order x 0 = some .eq) (w : World) : Calls Try.prog 34 #[.float .f64 x] w (RetSim 18442240474082181120 w) := by
  have h1 := order_self h
  clear h
  go_enter Try.func34, Try.ntmps34
  go_wp2_with (go_at_call 57; refine (Inf_down _).mono ?_; rintro e w' ⟨rfl, rfl⟩)
  go_ret
  exact ⟨_, 0, rfl, Sim.refl _, rfl⟩
theorem LnOf_inf (w : World) : Calls Try.prog 34 #[.float .f64 9218868437227405312] w (RetSim 9218868437227405312 w) := by
  have h1 : FloatKind.f64.format.order 9218868437227405312 9218868437227405312 = some .eq := by decide +kernel
  have h2 : FloatKind.f64.format.order 9218868437227405312 0 = some .gt := by decide +kernel
  have h3 : Hid (fin 9218868437227405312 = false) := Lib.hid (by rw [fin_iff]; decide)
  go_enter Try.func34, Try.ntmps34
  go_wp2_with (go_at_call 40; refine (Finite_any _ _).mono ?_; rintro e w' ⟨n, rfl, rfl⟩; rw [h3.out])
  go_ret
  exact ⟨_, _, rfl, Sim.refl _, rfl⟩
def fm (b : Nat) : Nat := if b < 2 ^ 63 then b + 1 else 0
theorem fm_step : ∀ j : Fin 11, fm (ofInt (21 - 2 * ((j.val + 1 : Nat) : Int))) < fm (ofInt (21 - 2 * (j.val : Int))) := by decide +kernel
def C2 : Nat := 4609047870845172685
theorem ex_pos {x : Nat} (h0 : x ≠ 0) (hx : x < 2047 * 2 ^ 52) (e : Int) (k : Int) (h : e + k = ex x) (y : Nat) (hy0 : y ≠ 0) (hy : y < 2047 * 2 ^ 52) (he : e = ex y) : -2200 ≤ k ∧ k ≤ 2200 := by
  have := ex_range h0 hx; have := ex_range hy0 hy; omega
theorem same_lnM {x y : Nat} {k : Int} (hf : fr y = fr x) (he : ex y + k = ex x) (h1 : C ≤ y) (h2 : y < C2) : lnM x = y ∧ lnK x = k := by
  obtain ⟨a, b⟩ := lnM_done h1 (show y < C + 2 ^ 52 from h2)
  have hM : lnM x = lnM y := by unfold lnM; rw [hf]
  have hK : lnK x = lnK y + k := by unfold lnK; rw [hf, ← he]; split <;> omega
  rw [hM, hK, a, b]; exact ⟨rfl, by omega⟩
set_option maxHeartbeats 1000000 in
theorem LnOf_main (x : Nat) (h0 : x ≠ 0) (hx : x < 2047 * 2 ^ 52) (w : World) : Calls Try.prog 34 #[.float .f64 x] w (RetSim (lnV (lnM x) (lnK x)) w) := by
  have h1 := order_self (x := x) (fin_not_nan (by rw [fin_iff]; simp; omega))
  have h2 : FloatKind.f64.format.order x 0 = some .gt := by rw [order_pos hx (by omega)]; congr 1; exact Nat.compare_eq_gt.2 (by omega)
  have h3 : Hid (fin x = true) := Lib.hid (by rw [fin_iff]; simp; omega)
  have HX0 := Lib.hid h0; clear h0
  have HX := Lib.hid hx; clear hx
  go_enter Try.func34, Try.ntmps34
  go_wp2_with (go_at_call 40; refine (Finite_any _ _).mono ?_; rintro e w' ⟨n, rfl, rfl⟩; rw [h3.out])
  go_loop [0, 4] (fun v k => ∃ (y : Nat) (K : Int), Hid (y ≠ 0 ∧ y < 2047 * 2 ^ 52 ∧ fr y = fr x ∧ ex y + K = ex x) ∧ v = .float .f64 y ∧ k = .int .i64 K) (fun v _ => match v with | .float _ y => y | _ => 0)
  case atStart => exact ⟨x, 0, Lib.hid ⟨HX0.out, HX.out, rfl, by omega⟩, rfl, rfl⟩
  case round =>
    obtain ⟨y, K, HY, rfl, rfl⟩ := hrel
    obtain ⟨k1, k2⟩ : -2200 ≤ K ∧ K ≤ 2200 := by obtain ⟨a, b, c, d⟩ := HY.out; exact ex_pos HX0.out HX.out _ _ d y a b rfl
    have ho : FloatKind.f64.format.order y 4609047870845172685 = some (compare y 4609047870845172685) := by obtain ⟨a, b, c, d⟩ := HY.out; exact order_pos b (by omega)
    rcases Nat.lt_or_ge y C2 with hlt | hge
    · have hc : compare y 4609047870845172685 = .lt := Nat.compare_eq_lt.2 hlt
      rw [hc] at ho
      have HL := Lib.hid hlt; clear hlt hc
      go_wp2
      clear ho
      go_loop [0, 4] (fun v k => ∃ (y : Nat) (K : Int), Hid (y ≠ 0 ∧ y < 2047 * 2 ^ 52 ∧ fr y = fr x ∧ ex y + K = ex x ∧ y < C2) ∧ v = .float .f64 y ∧ k = .int .i64 K) (fun v _ => match v with | .float _ y => C2 - y | _ => 0)
      case atStart => obtain ⟨a, b, c, d⟩ := HY.out; exact ⟨y, K, Lib.hid ⟨a, b, c, d, HL.out⟩, rfl, rfl⟩
      case round =>
        clear HY HL k1 k2
        obtain ⟨y, K, HY, rfl, rfl⟩ := hrel
        obtain ⟨k1, k2⟩ : -2200 ≤ K ∧ K ≤ 2200 := by obtain ⟨a, b, c, d, e⟩ := HY.out; exact ex_pos HX0.out HX.out _ _ d y a b rfl
        have ho : FloatKind.f64.format.order y 4604544271217802189 = some (compare y 4604544271217802189) := by obtain ⟨a, b, c, d, e⟩ := HY.out; exact order_pos b (by omega)
        rcases Nat.lt_or_ge y C with hlt | hge
        · have hc : compare y 4604544271217802189 = .lt := Nat.compare_eq_lt.2 hlt
          rw [hc] at ho
          have hd : Hid (dbl y < C2 ∧ y < dbl y ∧ dbl y ≠ 0) := Lib.hid (by obtain ⟨a, b, c, d, e⟩ := HY.out; unfold C at hlt; unfold C2 dbl; split <;> omega)
          have HL := Lib.hid hlt; clear hlt hc
          have hm : ∀ w, (binOp .mul 22 (.float .f64 y) (.float .f64 4611686018427387904)).run Try.prog w = .ok (.float .f64 (dbl y)) w := fun w => run_mul_ok (P := Try.prog) w 22 (mul_two HY.out.1 (by have := HL.out; unfold C at this; omega))
          have hN : Hid (dbl y ≠ 0 ∧ dbl y < 2047 * 2 ^ 52 ∧ fr (dbl y) = fr x ∧ ex (dbl y) + (K - 1) = ex x ∧ dbl y < C2) := Lib.hid (by
            obtain ⟨a, b, c, d, e⟩ := HY.out
            obtain ⟨f1, f2⟩ := fr_dbl a (by have := HL.out; unfold C at this; omega)
            refine ⟨hd.out.2.2, ?_, by rw [f1, c], by rw [f2]; omega, hd.out.1⟩
            have := hd.out.1; unfold C2 at this; omega)
          go_wp2
          go_round
          case rel => exact ⟨dbl y, K - 1, hN, rfl, rfl⟩
          case measure => have := hd.out; have := HY.out.2.2.2.2; simp only; omega
        · have hc : (compare y 4604544271217802189 == .lt) = false := by
            have : compare y 4604544271217802189 ≠ .lt := by rw [Ne, Nat.compare_eq_lt]; unfold C at hge; omega
            simp [this]
          obtain ⟨M1, M2⟩ := (by obtain ⟨a, b, c, d, e⟩ := HY.out; exact same_lnM c d hge e : lnM x = y ∧ lnK x = K)
          have HM1 := Lib.hid M1
          have HM2 := Lib.hid M2
          clear HY hge M1 M2 h2 h1 h3
          go_wp2_with (first | (refine wpList_fl (x := .tmp 41) rfl rfl (by decide) rfl rfl ?_; intro rs ns hs) | (refine wpList_fl (x := .tmp 43) rfl rfl (by decide) rfl rfl ?_; intro ra na ha) | (refine wpList_fl (x := .tmp 42) rfl rfl (by decide) rfl rfl ?_; intro rq nq hq) | (refine wpList_fl (x := .tmp 46) rfl rfl (by decide) rfl rfl ?_; intro rz nz hz))
          have hs0 : Sim rq (lnS y) := got_div (got_sub (Sim.refl _) (Sim.refl _) hs) (got_add (Sim.refl _) (Sim.refl _) ha) hq
          have hz0 : Sim rz (mul (lnS y) (lnS y)) := got_mul hs0 hs0 hz
          clear hs ha hq hz ho hc
          have hz := Lib.hid hz0; clear hz0
          have hs := Lib.hid hs0; clear hs0
          go_loopw [7, 8, 9] (fun p v _ wr => ∃ (j r d : Nat), j ≤ 11 ∧ v = .float .f64 (ofInt (21 - 2 * (j : Int))) ∧ p = .float .f64 r ∧ Sim r (lp (mul (lnS y) (lnS y)) j) ∧ wr = w.drewN d) (fun _ v _ _ => match v with | .float _ b => fm b | _ => 0)
          case atStart => exact ⟨0, _, _, by omega, rfl, rfl, Sim.refl _, rfl⟩
          case round =>
            obtain ⟨j, r, d, hj, rfl, rfl, hp, rfl⟩ := hrel
            have HP := Lib.hid hp; clear hp
            by_cases hj2 : j < 11
            · obtain ⟨g1, g2⟩ := fl_step ⟨j, hj2⟩
              have g3 := Lib.hid (fm_step ⟨j, hj2⟩)
              simp only at g1 g2 g3
              have hsub := fun w => run_float_arith (P := Try.prog) w .sub 22 .f64 _ _ _ g1
              clear g1
              generalize hn1 : ofInt (21 - 2 * (j : Int)) = nf at *
              generalize hn2 : ofInt (21 - 2 * ((j + 1 : Nat) : Int)) = nf2 at *
              have HN1 := Lib.hid hn1; clear hn1
              have HN2 := Lib.hid hn2; clear hn2
              have HJ := Lib.hid hj2; clear hj hj2
              go_wp2_with (first | (refine wpList_fl (x := .tmp 53) rfl rfl (by decide) rfl rfl ?_; intro rb nb hb) | (refine wpList_fl (y := .tmp 56) rfl rfl (by decide) rfl rfl ?_; intro ra na ha) | (refine wpList_fl (x := .tmp 57) rfl rfl (by decide) rfl rfl ?_; intro rc nc hc))
              go_roundw
              case rel =>
                refine ⟨j + 1, _, _, by have := HJ.out; omega, by rw [HN2.out], rfl, ?_, rfl⟩
                have hh := got_add (got_div (Sim.refl _) (Sim.refl _) ha) (got_mul hz.out HP.out hb) hc
                rw [← HN1.out] at hh
                exact hh
              case measure => exact g3.out
            · obtain rfl : j = 11 := by omega
              have hl := fl_last
              generalize hn1 : ofInt (21 - 2 * ((11 : Nat) : Int)) = nf at *
              have HN1 := Lib.hid hn1; clear hn1
              clear hj hj2
              go_wp2_with (first | (refine wpList_fl (x := .tmp 60) rfl rfl (by decide) rfl rfl ?_; intro rb nb hb) | (refine wpList_fl (y := .tmp 63) rfl rfl (by decide) rfl rfl ?_; intro rc nc hc) | (refine wpList_fl (x := .tmp 66) rfl rfl (by decide) rfl rfl ?_; intro rd nd hd) | (refine wpList_fl (x := .tmp 69) rfl rfl (by decide) rfl rfl ?_; intro ra na ha) | (refine wpList_fl (x := .tmp 71) rfl rfl (by decide) rfl rfl ?_; intro re ne he) | (refine wpList_fl (x := .tmp 74) rfl rfl (by decide) rfl rfl ?_; intro rf nf hf))
              go_ret
              rw [HM1.out, HM2.out]
              exact ⟨_, _, rfl, got_add (got_mul (Sim.refl _) (Sim.refl _) ha) (got_add (got_mul (Sim.refl _) (got_mul hs.out HP.out hb) hc) (got_mul (Sim.refl _) (Sim.refl _) hd) he) hf, rfl⟩
    · have hcc : compare y 4609047870845172685 = .gt ∨ compare y 4609047870845172685 = .eq := by
        rcases Nat.lt_or_eq_of_le hge with h | h
        · exact .inl (Nat.compare_eq_gt.2 h)
        · exact .inr (Nat.compare_eq_eq.2 h.symm)
      have HG := Lib.hid hge; clear hge
      have hm : ∀ w, (binOp .quo 22 (.float .f64 y) (.float .f64 4611686018427387904)).run Try.prog w = .ok (.float .f64 (y - 2 ^ 52)) w := fun w => run_float_arith (P := Try.prog) w .quo 22 .f64 _ _ _ (div_two (by have := HG.out; unfold C2 at this; omega) HY.out.2.1)
      have hN : Hid (y - 2 ^ 52 ≠ 0 ∧ y - 2 ^ 52 < 2047 * 2 ^ 52 ∧ fr (y - 2 ^ 52) = fr x ∧ ex (y - 2 ^ 52) + (K + 1) = ex x) := Lib.hid (by
        obtain ⟨a, b, c, d⟩ := HY.out
        have hg := HG.out; unfold C2 at hg
        obtain ⟨f1, f2⟩ := fr_half (x := y) (by omega) b
        exact ⟨by omega, by omega, by rw [f1, c], by rw [f2]; omega⟩)
      have hlt : Hid (y - 2 ^ 52 < y) := Lib.hid (by have hg := HG.out; unfold C2 at hg; omega)
      generalize y - 2 ^ 52 = y2 at *
      rcases hcc with hc | hc
      all_goals rw [hc] at ho
      all_goals clear hc
      all_goals go_wp2
      all_goals go_round
      all_goals first | exact ⟨y2, K + 1, hN, rfl, rfl⟩ | exact hlt.out
end Go.Proofs.Ytlmmhmoihmlljaa
