/-
  Contracts: Sin, Cos, series, SinCos, for every angle.
-/
import Derived.Test.YtlmmhmoihmlljaaG2
namespace Go.Proofs.Ytlmmhmoihmlljaa
open Go Go.RowKit Fl Fs
set_option maxRecDepth 100000
attribute [local go_sem] run_store_float run_neg_float
theorem run_div_ok {P : Program} (w : World) (t : TypeId) {x y r : Nat} (h : Ieee.Format.div Ieee.double x y = some r) : (binOp .quo t (.float .f64 x) (.float .f64 y)).run P w = .ok (.float .f64 r) w := run_float_arith w .quo t .f64 x y r h
theorem ret_float {a b : Nat} (h : a = b) : Ending.returned (.float .f64 a) = .returned (.float .f64 b) := by rw [h]
theorem Sin_any (a : Int) (w : World) : Calls Try.prog 11 #[.int .i64 a] w fun e w' => e = .returned (.float .f64 (sin (G.norm a))) ∧ Below w.heap.size w w' := by
  obtain ⟨hn1, hn2⟩ := G.norm_range a
  have hq0 : 0 ≤ quarter (G.norm a) % 4 := by omega
  have hq1 : quarter (G.norm a) % 4 < 4 := by omega
  generalize hs : sin (G.norm a) = S
  have HS := Lib.hid hs; clear hs
  go_enter Try.func11, Try.ntmps11
  generalize hN : quarter (G.norm a) % 4 = q at *
  have HN := Lib.hid hN; clear hN
  go_wp2_with (go_at_call 37; refine (parts_any a _).mono ?_; rintro e w1 ⟨rfl, hb⟩; have HB := Lib.hid hb; clear hb; rw [HN.out])
  all_goals go_ret
  all_goals (refine ⟨?_, HB.out⟩; rw [← HS.out]; unfold sin; rw [HN.out]; exact ret_float (by simp_all))
theorem Cos_any (a : Int) (w : World) : Calls Try.prog 12 #[.int .i64 a] w fun e w' => e = .returned (.float .f64 (cos (G.norm a))) ∧ Below w.heap.size w w' := by
  obtain ⟨hn1, hn2⟩ := G.norm_range a
  have hq0 : 0 ≤ quarter (G.norm a) % 4 := by omega
  have hq1 : quarter (G.norm a) % 4 < 4 := by omega
  generalize hs : cos (G.norm a) = S
  have HS := Lib.hid hs; clear hs
  go_enter Try.func12, Try.ntmps12
  generalize hN : quarter (G.norm a) % 4 = q at *
  have HN := Lib.hid hN; clear hN
  go_wp2_with (go_at_call 37; refine (parts_any a _).mono ?_; rintro e w1 ⟨rfl, hb⟩; have HB := Lib.hid hb; clear hb; rw [HN.out])
  all_goals go_ret
  all_goals (refine ⟨?_, HB.out⟩; rw [← HS.out]; unfold cos; rw [HN.out]; exact ret_float (by simp_all))
set_option maxHeartbeats 400000 in
theorem series_any (z : Nat) (o : Int) (ho : o = 0 ∨ o = 1) (hz : Bd 72 z) (w : World) : Calls Try.prog 36 #[.float .f64 z, .int .i64 o] w fun e w' => e = .returned (.float .f64 (series z o.toNat)) ∧ w = w' := by
  obtain ⟨odd, rfl⟩ : ∃ odd : Nat, o = odd := ⟨o.toNat, by omega⟩
  have ho2 : odd < 2 := by omega
  clear ho
  rw [Int.toNat_natCast]
  go_enter Try.func36, Try.ntmps36
  go_wp2
  go_loop [5, 6] (fun s k => ∃ m : Nat, m ≤ 8 ∧ k = .int .i64 (m : Int) ∧ s = .float .f64 (ser z odd (8 - m))) (fun _ k => (intOf k).toNat)
  case atStart => exact ⟨8, by omega, rfl, rfl⟩
  case round =>
    obtain ⟨m, hm, rfl, rfl⟩ := hrel
    rcases m with _ | k
    · have m1 := fun w => run_mul_ok (P := Try.prog) w 22 (ser_mul (j := 8) hz ho2 (by omega)).1
      have a1 : ∀ w, (binOp .add 22 (.float .f64 4607182418800017408) (.float .f64 (mul z (ser z odd 8)))).run Try.prog w = .ok (.float .f64 (series z odd)) w := fun w => run_add_ok (P := Try.prog) w 22 (series_add hz ho2)
      go_wp2
      go_ret
      exact ⟨rfl, rfl⟩
    · go_wp2
      go_loop [7, 8] (fun f i => ∃ i0 : Nat, 2 ≤ i0 ∧ i0 ≤ 2 * (k + 1) + odd + 1 ∧ i = .int .i64 (i0 : Int) ∧ f = .float .f64 (ffact (i0 - 1))) (fun _ i => 20 - (intOf i).toNat)
      case atStart => exact ⟨2, by omega, by omega, rfl, rfl⟩
      case round =>
        obtain ⟨i0, h1, h2, rfl, rfl⟩ := hrel
        by_cases hlt : i0 ≤ 2 * (k + 1) + odd
        · have m1 := fun w => run_mul_ok (P := Try.prog) w 22 (ffact_mul ⟨i0, by omega⟩ h1)
          simp only at m1
          go_wp2
          go_round
          case rel => exact ⟨i0 + 1, by omega, by omega, by go_num, rfl⟩
          case measure => simp [intOf]; omega
        · obtain rfl : i0 = 2 * (k + 1) + odd + 1 := by omega
          rw [show 2 * (k + 1) + odd + 1 - 1 = 2 * (k + 1) + odd by omega]
          have dv := coef_div ⟨odd, ho2⟩ ⟨k, by omega⟩
          simp only at dv
          unfold sgn at dv
          generalize hF : ffact (2 * (k + 1) + odd) = F at *
          have HF := Lib.hid hF; clear hF h1 h2 hlt
          by_cases hp : (k + 1) % 2 = 1
          · rw [if_pos hp] at dv
            have d1 : ∀ w, (binOp .quo 22 (.float .f64 4607182418800017408) (.float .f64 (neg F))).run Try.prog w = .ok (.float .f64 (coef odd (k + 1))) w := fun w => run_div_ok (P := Try.prog) w 22 dv
            have m1 := fun w => run_mul_ok (P := Try.prog) w 22 (ser_mul (j := 7 - k) hz ho2 (by omega)).1
            have a1 := fun w => run_add_ok (P := Try.prog) w 22 (ser_step (k := k) hz ho2 (by omega))
            have hp' : ((k : Int) + 1) % 2 = 1 := by omega
            have hk : (k : Int) + 1 < 8 := by omega
            clear dv hp
            go_wp2
            go_round
            case rel => exact ⟨k, by omega, by go_num, rfl⟩
            case measure => simp [intOf]
          · rw [if_neg hp] at dv
            have d1 : ∀ w, (binOp .quo 22 (.float .f64 4607182418800017408) (.float .f64 F)).run Try.prog w = .ok (.float .f64 (coef odd (k + 1))) w := fun w => run_div_ok (P := Try.prog) w 22 dv
            have hp' : ((k : Int) + 1) % 2 = 0 := by omega
            clear hp
            by_cases hk8 : k = 7
            · obtain rfl : k = 7 := hk8
              have d2 : ∀ w, (binOp .quo 22 (.float .f64 4607182418800017408) (.float .f64 F)).run Try.prog w = .ok (.float .f64 (coef odd 8)) w := d1
              have m1 := fun w => run_mul_ok (P := Try.prog) w 22 (ser_mul (j := 0) hz ho2 (by omega)).1
              clear d1 dv hp'
              go_wp2
              go_round
              case rel => exact ⟨7, by omega, rfl, rfl⟩
              case measure => simp [intOf]
            · have m1 := fun w => run_mul_ok (P := Try.prog) w 22 (ser_mul (j := 7 - k) hz ho2 (by omega)).1
              have a1 := fun w => run_add_ok (P := Try.prog) w 22 (ser_step (k := k) hz ho2 (by omega))
              have hk : (k : Int) + 1 < 8 := by omega
              clear dv hk8
              go_wp2
              go_round
              case rel => exact ⟨k, by omega, by go_num, rfl⟩
              case measure => simp [intOf]
/-- SinCos: the quarter is taken off in a loop -/
theorem SinCos_any (a : Int) (w : World) : Calls Try.prog 9 #[.int .i64 a] w fun e w' => e = .returned (.tuple #[.float .f64 (sin (G.norm a)), .float .f64 (cos (G.norm a))]) ∧ w = w' := by
  obtain ⟨hn1, hn2⟩ := G.norm_range a
  generalize hN : G.norm a = N at *
  have HN := Lib.hid hN; clear hN
  go_enter Try.func9, Try.ntmps9
  go_wp2_with (go_at_call 17; refine (NormOf_any a _).mono ?_; rintro e w' ⟨rfl, rfl⟩; rw [HN.out])
  go_loop [0, 4] (fun b q => ∃ q0 : Nat, (q0 : Int) ≤ quarter N ∧ q = .int .i64 (q0 : Int) ∧ b = .int .i64 (N - q0 * 90000000000)) (fun b _ => (intOf b + 45000000000).toNat)
  case atStart => exact ⟨0, by unfold quarter; omega, rfl, by go_num⟩
  case round =>
    obtain ⟨q0, hq0, rfl, rfl⟩ := hrel
    unfold quarter at hq0
    by_cases hge : 45000000000 ≤ N - q0 * 90000000000
    · go_wp2
      go_round
      case rel => exact ⟨q0 + 1, by unfold quarter; omega, by go_num, by go_num⟩
      case measure => simp [intOf]; omega
    · have hq : (q0 : Int) = quarter N := by unfold quarter; omega
      have hq4 : q0 ≤ 4 := by omega
      have hx : ∀ w, (binOp .mul 22 (.float .f64 (floatOfInt .f64 (N - q0 * 90000000000))) (.float .f64 4445950764994258515)).run Try.prog w = .ok (.float .f64 (xOf N)) w := fun w => run_mul_ok (P := Try.prog) w 22 (by rw [hq]; exact xOf_mul N)
      have hz := fun w => run_mul_ok (P := Try.prog) w 22 (z_mul N)
      have hs := fun w => run_mul_ok (P := Try.prog) w 22 (sin_mul N)
      have HZ := Lib.hid (z_bd N)
      have HQ := Lib.hid hq; clear hq hq0
      have HR : Hid (∀ S C, sin N = S → cos N = C → (q0 = 0 ∨ q0 = 4 → S = sinOf N ∧ C = cosOf N) ∧ (q0 = 1 → S = cosOf N ∧ C = neg (sinOf N)) ∧ (q0 = 2 → S = neg (sinOf N) ∧ C = neg (cosOf N)) ∧ (q0 = 3 → S = neg (cosOf N) ∧ C = sinOf N)) := by
        rintro _ _ rfl rfl
        unfold sin cos
        rw [← HQ.out]
        refine ⟨?_, ?_, ?_, ?_⟩
        · rintro (rfl | rfl) <;> exact ⟨rfl, rfl⟩
        · rintro rfl; exact ⟨rfl, rfl⟩
        · rintro rfl; exact ⟨rfl, rfl⟩
        · rintro rfl; exact ⟨rfl, rfl⟩
      generalize hB : N - (q0 : Int) * 90000000000 = B at *
      have HB := Lib.hid hB; clear hB
      rcases (by omega : q0 = 0 ∨ q0 = 1 ∨ q0 = 2 ∨ q0 = 3 ∨ q0 = 4) with rfl | rfl | rfl | rfl | rfl
      all_goals go_wp2_with (go_at_call 36; refine (series_any _ _ (by first | exact .inl rfl | exact .inr rfl) HZ.out _).mono ?_; rintro e w' ⟨rfl, rfl⟩)
      all_goals go_ret2
      all_goals (refine ⟨?_, rfl⟩)
      all_goals (obtain ⟨r1, r2, r3, r4⟩ := HR.out _ _ rfl rfl)
      · rw [(r1 (by simp)).1, (r1 (by simp)).2]; rfl
      · rw [(r2 (by simp)).1, (r2 (by simp)).2]; rfl
      · rw [(r3 (by simp)).1, (r3 (by simp)).2]; rfl
      · rw [(r4 (by simp)).1, (r4 (by simp)).2]; rfl
      · rw [(r1 (by simp)).1, (r1 (by simp)).2]; rfl
end Go.Proofs.Ytlmmhmoihmlljaa
