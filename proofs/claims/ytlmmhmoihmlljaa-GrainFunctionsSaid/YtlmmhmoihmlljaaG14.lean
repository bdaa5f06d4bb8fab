/-
  Contracts: grain.Exp and ExpOf, for every float: they return the same.
-/
import Derived.Test.YtlmmhmoihmlljaaG13
namespace Go.Proofs.Ytlmmhmoihmlljaa
open Go Go.RowKit Fl Fs
set_option maxRecDepth 100000
attribute [local go_sem] run_store_float run_neg_float
def SimBelow (V : Nat) (w : World) (e : Ending) (w' : World) : Prop := ∃ r, e = .returned (.float .f64 r) ∧ Sim r V ∧ Below w.heap.size w w'
theorem Exp_nan (x : Nat) (h : isNaN x = true) (w : World) : Calls Try.prog 33 #[.float .f64 x] w (SimBelow x w) := by
  have h1 := order_none_l x h
  clear h
  go_enter Try.func33, Try.ntmps33
  go_wp2
  go_ret
  exact ⟨_, rfl, Sim.refl _, Below.refl _ _⟩
theorem ExpOf_nan (x : Nat) (h : isNaN x = true) (w : World) : Calls Try.prog 35 #[.float .f64 x] w (RetSim x w) := by
  have h1 := order_none_l x h
  clear h
  go_enter Try.func35, Try.ntmps35
  go_wp2
  go_ret
  exact ⟨_, 0, rfl, Sim.refl _, rfl⟩
theorem Exp_high (x : Nat) (h : isNaN x = false) (h2 : FloatKind.f64.format.order x 4649456441864749056 = some .gt) (w : World) : Calls Try.prog 33 #[.float .f64 x] w (SimBelow 9218868437227405312 w) := by
  have h1 := order_self h
  clear h
  go_enter Try.func33, Try.ntmps33
  go_wp2_with (go_at_call 57; refine (Inf_up _).mono ?_; rintro e w' ⟨rfl, rfl⟩)
  go_ret
  exact ⟨_, rfl, Sim.refl _, Below.refl _ _⟩
theorem ExpOf_high (x : Nat) (h : isNaN x = false) (h2 : FloatKind.f64.format.order x 4649456441864749056 = some .gt) (w : World) : Calls Try.prog 35 #[.float .f64 x] w (RetSim 9218868437227405312 w) := by
  have h1 := order_self h
  clear h
  go_enter Try.func35, Try.ntmps35
  go_wp2_with (go_at_call 57; refine (Inf_up _).mono ?_; rintro e w' ⟨rfl, rfl⟩)
  go_ret
  exact ⟨_, 0, rfl, Sim.refl _, rfl⟩
theorem Exp_low (x : Nat) (h : isNaN x = false) (h3 : (FloatKind.f64.format.order x 4649456441864749056 == some .gt) = false) (h2 : FloatKind.f64.format.order x 13873145138068324352 = some .lt) (w : World) : Calls Try.prog 33 #[.float .f64 x] w (SimBelow 0 w) := by
  have h1 := order_self h
  clear h
  go_enter Try.func33, Try.ntmps33
  go_wp2
  go_ret
  exact ⟨_, rfl, Sim.refl _, Below.refl _ _⟩
theorem ExpOf_low (x : Nat) (h : isNaN x = false) (h3 : (FloatKind.f64.format.order x 4649456441864749056 == some .gt) = false) (h2 : FloatKind.f64.format.order x 13873145138068324352 = some .lt) (w : World) : Calls Try.prog 35 #[.float .f64 x] w (RetSim 0 w) := by
  have h1 := order_self h
  clear h
  go_enter Try.func35, Try.ntmps35
  go_wp2
  go_ret
  exact ⟨_, 0, rfl, Sim.refl _, rfl⟩
def expTab : List Nat := (List.range 15).map ffact
theorem exp_tab : expTab = [4607182418800017408, 4607182418800017408, 4611686018427387904, 4618441417868443648, 4627448617123184640, 4638144666238189568, 4649544402794971136, 4662263553305083904, 4675774352187195392, 4689977843394805760, 4705047200009289728, 4720626352061939712, 4736815922046566400, 4753323511810883584, 4770521722250067968] := by decide +kernel
def xw (w : World) : World := w.alloc (.cells (expTab.map (Value.float .f64)).toArray 76)
theorem xw_cell (w : World) (k : Nat) (hk : k < 15) : (xw w).cell? ⟨w.heap.size, k, none⟩ = some (.float .f64 (ffact k)) := by
  have h : expTab.getD k 0 = ffact k := by unfold expTab; simp [hk]
  rw [← h, ← tab_cell expTab k (by simpa [expTab] using hk)]
  exact cell_of_row _ _ _ _ _ (0, 0) (heap_alloc_new _ _)
set_option maxHeartbeats 1000000 in
theorem Exp_main (x : Nat) (hn : isNaN x = false) (h2 : (FloatKind.f64.format.order x 4649456441864749056 == some .gt) = false) (h3 : (FloatKind.f64.format.order x 13873145138068324352 == some .lt) = false) (hb : Bd 10 x)
    (n : Int) (hi : floatToIntVal .f64 (ekf x) .i64 = some n) (V : Nat) (HL : Hid (∀ w, Calls Try.prog 61 #[.float .f64 (ep (er x) 14), .int .i64 n] w (RetSim V w))) (w : World) :
    Calls Try.prog 33 #[.float .f64 x] w (SimBelow V w) := by
  have h1 := order_self hn
  obtain ⟨f1, f2, f3, f4, f5, f6, f7, f8, f9⟩ := exp_facts hb
  have m1 : ∀ w, (binOp .mul 22 (.float .f64 x) (.float .f64 4609176140021203710)).run Try.prog w = .ok (.float .f64 (mul x INV)) w := fun w => run_mul_ok (P := Try.prog) w 22 f1
  have m2 : ∀ w, (binOp .add 22 (.float .f64 (mul x INV)) (.float .f64 4602678819172646912)).run Try.prog w = .ok (.float .f64 (add (mul x INV) HALF)) w := fun w => run_add_ok (P := Try.prog) w 22 f2
  have m3 : ∀ w, (binOp .mul 22 (.float .f64 (ekf x)) (.float .f64 4604418534311723008)).run Try.prog w = .ok (.float .f64 (mul (ekf x) HI)) w := fun w => run_mul_ok (P := Try.prog) w 22 f5
  have m4 : ∀ w, (binOp .mul 22 (.float .f64 (ekf x)) (.float .f64 4461442080421002358)).run Try.prog w = .ok (.float .f64 (mul (ekf x) LO)) w := fun w => run_mul_ok (P := Try.prog) w 22 f6
  have m5 := fun w => run_float_arith (P := Try.prog) w .sub 22 .f64 _ _ _ f7
  have m6 := fun w => run_float_arith (P := Try.prog) w .sub 22 .f64 _ _ _ f8
  have m7 := fun w => run_convert_float_int (P := Try.prog) w 22 3 .f64 .i64 (ekf x) n (by kernel_rfl) Try.underlying3 hi
  have HFl : Hid (∀ w, Calls Try.prog 60 #[.float .f64 (add (mul x INV) HALF)] w fun e w' => e = .returned (.float .f64 (ekf x)) ∧ w = w') := Lib.hid (Floor_any _ (bd_fin f3))
  have d14 : ∀ w, (binOp .quo 22 (.float .f64 4607182418800017408) (.float .f64 4770521722250067968)).run Try.prog w = .ok (.float .f64 (inv 14)) w := fun w => run_div_ok (P := Try.prog) w 22 (inv_div ⟨14, by omega⟩)
  clear hn hb hi f1 f2 f3 f4 f5 f6 f7 f8
  generalize mul x INV = a1 at *
  generalize add a1 HALF = a2 at *
  generalize er x = r at *
  generalize sub x (mul (ekf x) HI) = a3 at *
  generalize mul (ekf x) HI = a4 at *
  generalize mul (ekf x) LO = a5 at *
  generalize ekf x = K at *
  have HR := Lib.hid f9; clear f9
  go_enter Try.func33, Try.ntmps33
  go_wp2_with (go_at_call 60; refine (HFl.out _).mono ?_; rintro e w' ⟨rfl, rfl⟩)
  go_loopw [6, 7] (fun p k wr => ∃ (j : Nat) (i0 : Int), j ≤ 14 ∧ i0 = 13 - (j : Int) ∧ k = .int .i64 i0 ∧ p = .float .f64 (ep r j) ∧ wr = xw w) (fun _ k _ => (intOf k + 1).toNat)
  case atStart => exact ⟨0, 13, by omega, by omega, rfl, rfl, by unfold xw; rw [exp_tab]; rfl⟩
  case round =>
    obtain ⟨j, i0, hj, hi0, rfl, rfl, rfl⟩ := hrel
    by_cases hlt : j < 14
    · obtain ⟨kk, hk⟩ : ∃ kk : Nat, kk = 13 - j := ⟨_, rfl⟩
      obtain rfl : i0 = (kk : Int) := by omega
      have c1 := xw_cell w kk (by omega)
      have d1 : ∀ w, (binOp .quo 22 (.float .f64 4607182418800017408) (.float .f64 (ffact kk))).run Try.prog w = .ok (.float .f64 (inv kk)) w := fun w => run_div_ok (P := Try.prog) w 22 (inv_div ⟨kk, by omega⟩)
      have e1 := fun w => run_mul_ok (P := Try.prog) w 22 (ep_mul HR.out j hj)
      have e2 : ∀ w, (binOp .add 22 (.float .f64 (inv kk)) (.float .f64 (mul r (ep r j)))).run Try.prog w = .ok (.float .f64 (ep r (j + 1))) w := fun w => run_add_ok (P := Try.prog) w 22 (by rw [hk]; exact ep_add HR.out j hlt)
      have hk13 : (kk : Int) ≤ 13 := by omega
      have HK := Lib.hid hk; clear hk hi0 hj
      have HJ := Lib.hid hlt; clear hlt
      go_wp2
      go_roundw
      case rel => exact ⟨j + 1, (kk : Int) - 1, by have := HJ.out; omega, by have := HK.out; have := HJ.out; omega, rfl, rfl, by trivial⟩
      case measure => simp [intOf]
    · obtain rfl : j = 14 := by omega
      obtain rfl : i0 = -1 := by omega
      clear hi0 hj hlt
      go_wp2_with (go_at_call 61; refine (HL.out _).mono ?_; rintro e w1 ⟨rr, nn, rfl, hrr, rfl⟩)
      go_ret
      exact ⟨_, rfl, hrr, below_drewN ((Below.refl _ _).alloc (Nat.le_refl _) _) _⟩
def pj (r : Nat) : Nat → Nat
  | 0 => 0
  | j + 1 => ep r j
set_option maxHeartbeats 1000000 in
theorem ExpOf_main (x : Nat) (hn : isNaN x = false) (h2 : (FloatKind.f64.format.order x 4649456441864749056 == some .gt) = false) (h3 : (FloatKind.f64.format.order x 13873145138068324352 == some .lt) = false) (hb : Bd 10 x)
    (n : Int) (hi : floatToIntVal .f64 (ekf x) .i64 = some n) (V : Nat) (HL : Hid (∀ w, Calls Try.prog 61 #[.float .f64 (ep (er x) 14), .int .i64 n] w (RetSim V w))) (w : World) :
    Calls Try.prog 35 #[.float .f64 x] w (RetSim V w) := by
  have h1 := order_self hn
  obtain ⟨f1, f2, f3, f4, f5, f6, f7, f8, f9⟩ := exp_facts hb
  have m1 : ∀ w, (binOp .mul 22 (.float .f64 x) (.float .f64 4609176140021203710)).run Try.prog w = .ok (.float .f64 (mul x INV)) w := fun w => run_mul_ok (P := Try.prog) w 22 f1
  have m2 : ∀ w, (binOp .add 22 (.float .f64 (mul x INV)) (.float .f64 4602678819172646912)).run Try.prog w = .ok (.float .f64 (add (mul x INV) HALF)) w := fun w => run_add_ok (P := Try.prog) w 22 f2
  have m3 : ∀ w, (binOp .mul 22 (.float .f64 (ekf x)) (.float .f64 4604418534311723008)).run Try.prog w = .ok (.float .f64 (mul (ekf x) HI)) w := fun w => run_mul_ok (P := Try.prog) w 22 f5
  have m4 : ∀ w, (binOp .mul 22 (.float .f64 (ekf x)) (.float .f64 4461442080421002358)).run Try.prog w = .ok (.float .f64 (mul (ekf x) LO)) w := fun w => run_mul_ok (P := Try.prog) w 22 f6
  have m5 := fun w => run_float_arith (P := Try.prog) w .sub 22 .f64 _ _ _ f7
  have m6 := fun w => run_float_arith (P := Try.prog) w .sub 22 .f64 _ _ _ f8
  have m7 := fun w => run_convert_float_int (P := Try.prog) w 22 3 .f64 .i64 (ekf x) n (by kernel_rfl) Try.underlying3 hi
  have HFl : Hid (∀ w, Calls Try.prog 60 #[.float .f64 (add (mul x INV) HALF)] w fun e w' => e = .returned (.float .f64 (ekf x)) ∧ w = w') := Lib.hid (Floor_any _ (bd_fin f3))
  clear hn hb hi f1 f2 f3 f4 f5 f6 f7 f8
  generalize mul x INV = a1 at *
  generalize add a1 HALF = a2 at *
  generalize er x = r at *
  generalize sub x (mul (ekf x) HI) = a3 at *
  generalize mul (ekf x) HI = a4 at *
  generalize mul (ekf x) LO = a5 at *
  generalize ekf x = K at *
  have HR := Lib.hid f9; clear f9
  go_enter Try.func35, Try.ntmps35
  go_wp2_with (go_at_call 60; refine (HFl.out _).mono ?_; rintro e w' ⟨rfl, rfl⟩)
  clear m1 m2 m3 m4 m5 m6 HFl h1 h2 h3
  go_loop [7, 8] (fun p n => ∃ (j : Nat) (i0 : Int) (p0 : Nat), j ≤ 15 ∧ i0 = 14 - (j : Int) ∧ Hid (p0 = pj r j) ∧ n = .int .i64 i0 ∧ p = .float .f64 p0) (fun _ n => (intOf n + 1).toNat)
  case atStart => exact ⟨0, 14, 0, by omega, by omega, Lib.hid rfl, rfl, rfl⟩
  case round =>
    obtain ⟨j, i0, p0, hj, hi0, HP, rfl, rfl⟩ := hrel
    by_cases hlt : j < 15
    · obtain ⟨kk, hk⟩ : ∃ kk : Nat, kk = 14 - j := ⟨_, rfl⟩
      obtain rfl : i0 = (kk : Int) := by omega
      have hk14 : (kk : Int) ≤ 14 := by omega
      have d1 : ∀ w, (binOp .quo 22 (.float .f64 4607182418800017408) (.float .f64 (ffact kk))).run Try.prog w = .ok (.float .f64 (inv kk)) w := fun w => run_div_ok (P := Try.prog) w 22 (inv_div ⟨kk, by omega⟩)
      have HK := Lib.hid hk; clear hk hi0
      have HJ := Lib.hid hlt; clear hlt
      go_wp2
      go_loop [9, 10] (fun f i => ∃ i1 : Nat, 2 ≤ i1 ∧ i1 ≤ kk + 1 + 1 ∧ (i1 ≤ kk + 1 ∨ kk = 0) ∧ i = .int .i64 (i1 : Int) ∧ f = .float .f64 (ffact (i1 - 1))) (fun _ i => 20 - (intOf i).toNat)
      case atStart => exact ⟨2, by omega, by omega, by omega, rfl, rfl⟩
      case round =>
        obtain ⟨i1, q1, q2, q3, rfl, rfl⟩ := hrel
        by_cases hle : i1 ≤ kk
        · have g1 := fun w => run_mul_ok (P := Try.prog) w 22 (ffact_mul ⟨i1, by omega⟩ q1)
          simp only at g1
          go_wp2
          go_round
          case rel => exact ⟨i1 + 1, by omega, by omega, by omega, by go_num, rfl⟩
          case measure => simp [intOf]; omega
        · have hF : ffact (i1 - 1) = ffact kk := by
            rcases q3 with h | h
            · congr 1; omega
            · subst h; have : i1 = 2 := by omega
              subst this; rfl
          rw [hF]
          have hlt2 : ¬ (i1 : Int) ≤ (kk : Int) := by omega
          clear q1 q2 q3 hF hle
          rcases j with _ | j
          · have hkk : kk = 14 := by have := HK.out; omega
            subst hkk
            have e1 := fun w => run_mul_ok (P := Try.prog) w 22 (mul_bd HR.out zero_bd (by omega)).1
            obtain rfl : p0 = 0 := HP.out
            go_wp2
            go_round
            case rel => exact ⟨1, 13, _, by omega, by omega, Lib.hid rfl, rfl, rfl⟩
            case measure => simp [intOf]
          · have e1 := fun w => run_mul_ok (P := Try.prog) w 22 (ep_mul HR.out j (by omega))
            have e2 : ∀ w, (binOp .add 22 (.float .f64 (inv kk)) (.float .f64 (mul r (ep r j)))).run Try.prog w = .ok (.float .f64 (ep r (j + 1))) w := fun w => run_add_ok (P := Try.prog) w 22 (by
              have h := ep_add HR.out j (by have := HJ.out; omega)
              rw [show 13 - j = kk by have := HK.out; omega] at h; exact h)
            have hkn : ¬ (kk : Int) = 14 := by have := HK.out; omega
            obtain rfl : p0 = ep r j := HP.out
            clear hj
            go_wp2
            go_round
            case rel => exact ⟨j + 2, (kk : Int) - 1, _, by have := HJ.out; omega, by have := HK.out; have := HJ.out; omega, Lib.hid rfl, rfl, rfl⟩
            case measure => simp [intOf]
    · obtain rfl : j = 15 := by omega
      obtain rfl : p0 = ep r 14 := HP.out
      obtain rfl : i0 = -1 := by omega
      clear hi0 hj hlt
      go_wp2_with (go_at_call 61; refine (HL.out _).mono ?_; rintro e w1 ⟨rr, nn, rfl, hrr, rfl⟩)
      go_ret
      exact ⟨_, _, rfl, hrr, rfl⟩
end Go.Proofs.Ytlmmhmoihmlljaa
