/-
  Contract: Ldexp, for every finite float.
-/
import Derived.Test.YtlmmhmoihmlljaaG12
import Derived.Test.YtlmmhmoihmlljaaFe
namespace Go.Proofs.Ytlmmhmoihmlljaa
open Go Go.RowKit Fl Fs
set_option maxRecDepth 100000
attribute [local go_sem] run_store_float run_neg_float
theorem normalize_fin (x : Nat) (hx : x < 2 ^ 64) (hf : fin x = true) : ∃ (y : Nat) (d : Int), y < 2 ^ 64 ∧ (d = 0 ∨ d = -52) ∧ ∀ w, Calls Try.prog 82 #[.float .f64 x] w fun e w' => e = .returned (.tuple #[.float .f64 y, .int .i64 d]) ∧ w = w' := by
  have hm := fun w => run_mul_ok (P := Try.prog) w 22 (mul_fin (y := 4841369599423283200) hf (by rw [fin_iff]; decide))
  have H := Lib.hid hx
  clear hf
  by_cases ho : (FloatKind.f64.format.order (x % 2 ^ 63) 4503599627370496 == some .lt) = true
  · refine ⟨mul x 4841369599423283200, -52, mul_lt64, .inr rfl, fun w => ?_⟩
    clear hx
    go_enter Try.func82, Try.ntmps82
    go_wp2_with (go_at_call 39; refine (Abs_any _ H.out _).mono ?_; rintro e w' ⟨rfl, rfl⟩)
    go_ret2
    exact ⟨rfl, rfl⟩
  · have ho : (FloatKind.f64.format.order (x % 2 ^ 63) 4503599627370496 == some .lt) = false := by simpa using ho
    refine ⟨x, 0, hx, .inl rfl, fun w => ?_⟩
    clear hx
    go_enter Try.func82, Try.ntmps82
    go_wp2_with (go_at_call 39; refine (Abs_any _ H.out _).mono ?_; rintro e w' ⟨rfl, rfl⟩)
    go_ret2
    exact ⟨rfl, rfl⟩
theorem Copysign_ex (x : Nat) : ∃ V, ∀ w, Calls Try.prog 77 #[.float .f64 0, .float .f64 x] w fun e w' => e = .returned (.float .f64 V) ∧ w = w' := by
  have h1 := fun w => f64bits 0 w
  have h2 := fun w => f64bits x w
  have h3 := f64frombits_int
  refine ⟨(bits .or .u64 (bits .andNot .u64 0 9223372036854775808) (bits .and .u64 (x : Int) 9223372036854775808)).toNat, fun w => ?_⟩
  go_enter Try.func77, Try.ntmps77
  go_wp2
  go_ret
  exact ⟨rfl, rfl⟩
/-- what is scaled, spelled as the walk spells it -/
def ldE (y : Nat) (d k : Int) : Int := wrap64 (wrap64 (k + d) + wrap64 (bits .and .i64 ((y : Int) / 4503599627370496) 2047 - 1023))
def ldX (y : Nat) (e : Int) : Nat := (bits .or .u64 (bits .andNot .u64 (y : Int) 9218868437227405312) ((e) * 4503599627370496)).toNat
def ldV (c y : Nat) (d k : Int) : Nat :=
  if ldE y d k < -1075 then c else if 1023 < ldE y d k then (if FloatKind.f64.format.order y 0 == some .lt then 18442240474082181120 else 9218868437227405312)
  else if ldE y d k < -1022 then mul 4368491638549381120 (ldX y (ldE y d k + 53 + 1023)) else mul 4607182418800017408 (ldX y (ldE y d k + 1023))
theorem ldexp_ex (p : Nat) (hp : p < 2 ^ 64) (hf : fin p = true) (hz : (FloatKind.f64.format.order p 0 == some .eq) = false) (k : Int) : ∃ V, ∀ w, Calls Try.prog 75 #[.float .f64 p, .int .i64 k] w (RetSim V w) := by
  obtain ⟨y, d, hy, hd, hn⟩ := normalize_fin p hp hf
  obtain ⟨c, hc⟩ := Copysign_ex y
  have HN := Lib.hid hn; clear hn
  have HC := Lib.hid hc; clear hc
  have hs := order_self (fin_not_nan hf)
  have hmax : (FloatKind.f64.format.order (p % 2 ^ 63) 9218868437227405311 == some .gt) = false := by
    rw [fin_iff] at hf
    have hf := of_decide_eq_true hf
    rw [order_pos hf (by omega)]
    have : compare (p % 2 ^ 63) 9218868437227405311 ≠ .gt := by rw [Ne, Nat.compare_eq_gt]; omega
    simp [this]
  have hinf : Hid (∀ w, Calls Try.prog 58 #[.float .f64 p, .int .i64 0] w fun e w' => e = .returned (.bool false) ∧ w = w') := Lib.hid (by
    intro w
    have := IsInf_any p hp w
    rw [hmax] at this; exact this)
  have hnan : Hid (∀ w, Calls Try.prog 76 #[.float .f64 p] w fun e w' => e = .returned (.bool false) ∧ w = w') := Lib.hid (by
    intro w
    have := IsNaN_any p w
    rw [hs] at this; exact this)
  have h1 := fun w => f64bits y w
  have h3 := f64frombits_int
  clear hs hmax hf hp hd
  have HV : Hid (∀ V, V = ldV c y d k → ∀ e, e = ldE y d k → (e < -1075 → V = c) ∧ (-1075 ≤ e → 1023 < e → (FloatKind.f64.format.order y 0 == some .lt) = true → V = 18442240474082181120) ∧
      (-1075 ≤ e → 1023 < e → (FloatKind.f64.format.order y 0 == some .lt) = false → V = 9218868437227405312) ∧ (-1075 ≤ e → e ≤ 1023 → e < -1022 → V = mul 4368491638549381120 (ldX y (e + 53 + 1023))) ∧
      (-1075 ≤ e → e ≤ 1023 → -1022 ≤ e → V = mul 4607182418800017408 (ldX y (e + 1023)))) := Lib.hid (by
    rintro _ rfl _ rfl
    unfold ldV
    refine ⟨fun h => by rw [if_pos h], fun a b h => by rw [if_neg (by omega), if_pos b, if_pos h], fun a b h => by rw [if_neg (by omega), if_pos b, if_neg (by simp [h])], fun a b h => by rw [if_neg (by omega), if_neg (by omega), if_pos h], fun a b h => by rw [if_neg (by omega), if_neg (by omega), if_neg (by omega)]⟩)
  refine ⟨ldV c y d k, fun w => ?_⟩
  obtain ⟨v1, v2, v3, v4, v5⟩ := HV.out _ rfl _ rfl
  generalize ldV c y d k = V at *
  have v1 := Lib.hid v1; have v2 := Lib.hid v2; have v3 := Lib.hid v3; have v4 := Lib.hid v4; have v5 := Lib.hid v5
  clear HV
  ·
    go_enter Try.func75, Try.ntmps75
    go_wp2_with (first
      | (go_at_call 58; refine (hinf.out _).mono ?_; rintro e w' ⟨rfl, rfl⟩)
      | (go_at_call 76; refine (hnan.out _).mono ?_; rintro e w' ⟨rfl, rfl⟩)
      | (go_at_call 82; refine (HN.out _).mono ?_; rintro e w' ⟨rfl, rfl⟩)
      | (go_at_call 77; refine (HC.out _).mono ?_; rintro e w' ⟨rfl, rfl⟩)
      | (go_at_call 57; refine (Inf_up _).mono ?_; rintro e w' ⟨rfl, rfl⟩)
      | (go_at_call 57; refine (Inf_down _).mono ?_; rintro e w' ⟨rfl, rfl⟩)
      | (refine wpList_fl rfl rfl (by decide) rfl rfl ?_; intro r n hr))
    all_goals go_ret
    · exact ⟨_, 0, rfl, .inl (v1.out ‹_›).symm, rfl⟩
    · exact ⟨_, 0, rfl, .inl (v2.out ‹_› ‹_› ‹_›).symm, rfl⟩
    · exact ⟨_, 0, rfl, .inl (v3.out ‹_› ‹_› ‹_›).symm, rfl⟩
    · exact ⟨_, _, rfl, by rw [v4.out ‹_› ‹_› ‹_›]; exact got_mul (Sim.refl _) (Sim.refl _) hr, rfl⟩
    · exact ⟨_, _, rfl, by rw [v5.out ‹_› ‹_› ‹_›]; exact got_mul (Sim.refl _) (Sim.refl _) hr, rfl⟩
theorem Ldexp_ex (p : Nat) (hp : p < 2 ^ 64) (hf : fin p = true) (k : Int) : ∃ V, ∀ w, Calls Try.prog 61 #[.float .f64 p, .int .i64 k] w (RetSim V w) := by
  have h : ∃ V, ∀ w, Calls Try.prog 75 #[.float .f64 p, .int .i64 k] w (RetSim V w) := by
    cases hz : (FloatKind.f64.format.order p 0 == some .eq) with
    | false => exact ldexp_ex p hp hf hz k
    | true =>
      refine ⟨p, fun w => ?_⟩
      clear hp hf
      go_enter Try.func75, Try.ntmps75
      go_wp2
      go_ret
      exact ⟨_, 0, rfl, Sim.refl _, rfl⟩
  obtain ⟨V, h⟩ := h
  have H := Lib.hid h; clear h hp hf
  refine ⟨V, fun w => ?_⟩
  go_enter Try.func61, Try.ntmps61
  go_wp2_with (go_at_call 75; refine (H.out _).mono ?_; rintro e w1 ⟨r, n, rfl, hr, rfl⟩)
  go_ret
  exact ⟨_, _, rfl, hr, rfl⟩
theorem Ldexp_one (w : World) : Calls Try.prog 61 #[.float .f64 4607182418800017408, .int .i64 0] w fun e w' => e = .returned (.float .f64 4607182418800017408) ∧ w = w' := by
  have hl : Hid (∀ w, Calls Try.prog 75 #[.float .f64 4607182418800017408, .int .i64 0] w fun e w' => e = .returned (.float .f64 4607182418800017408) ∧ w = w') := Lib.hid (by
    intro w
    have h0 : FloatKind.f64.format.order 4607182418800017408 0 = some .gt := by decide +kernel
    have hm := fun w => run_mul_ok (P := Try.prog) w 22 (x := 4607182418800017408) (y := 4607182418800017408) (r := 4607182418800017408) (by decide +kernel)
    have b1 : bits .and .i64 1023 2047 = 1023 := by decide
    have b2 : bits .or .u64 (bits .andNot .u64 4607182418800017408 9218868437227405312) 4607182418800017408 = 4607182418800017408 := by decide
    have hno := Lib.hid (normalize_big 4607182418800017408 (by decide) (by decide) (by rw [fin_iff]; decide))
    have hinf : Hid (∀ w, Calls Try.prog 58 #[.float .f64 4607182418800017408, .int .i64 0] w fun e w' => e = .returned (.bool false) ∧ w = w') := Lib.hid (fun w => IsInf_any 4607182418800017408 (by decide) w)
    have hnan : Hid (∀ w, Calls Try.prog 76 #[.float .f64 4607182418800017408] w fun e w' => e = .returned (.bool false) ∧ w = w') := Lib.hid (fun w => IsNaN_any _ w)
    have h1 := fun w => f64bits 4607182418800017408 w
    have h3 := f64frombits_int
    go_enter Try.func75, Try.ntmps75
    go_wp2_with (first
      | (go_at_call 58; refine (hinf.out _).mono ?_; rintro e w' ⟨rfl, rfl⟩)
      | (go_at_call 76; refine (hnan.out _).mono ?_; rintro e w' ⟨rfl, rfl⟩)
      | (go_at_call 82; refine (hno.out _).mono ?_; rintro e w' ⟨rfl, rfl⟩))
    go_ret
    exact ⟨rfl, rfl⟩)
  go_enter Try.func61, Try.ntmps61
  go_wp2_with (go_at_call 75; refine (hl.out _).mono ?_; rintro e w1 ⟨rfl, rfl⟩)
  go_ret
  exact ⟨rfl, rfl⟩
theorem Floor_any (x : Nat) (hf : fin x = true) (w : World) : Calls Try.prog 60 #[.float .f64 x] w fun e w' => e = .returned (.float .f64 (flr x)) ∧ w = w' := by
  have h : ∀ w, (callFunc 72 #[.float .f64 x]).run Try.prog w = .ok (.value (.float .f64 (flr x))) w := by
    intro w
    rw [run_callFunc_extern (e := Extern.MathFloor.toIntegral "math.archFloor" .down) Try.func72 (by kernel_rfl) (by kernel_rfl) (by kernel_rfl) (by kernel_rfl)]
    obtain ⟨s, m, e, hd⟩ := fin_form hf
    have hd' : FloatKind.f64.decode x = .number s m e := hd
    have hq : Extern.MathFloor.toIntegral "math.archFloor" .down #[.float .f64 x] = pure (Value.float .f64 (flr x)) := by
      unfold flr
      have key : ∀ (D : Ieee.Datum), FloatKind.f64.decode x = D → (∀ s t, D ≠ .nan s t) → Extern.MathFloor.toIntegral "math.archFloor" .down #[.float .f64 x] = pure (Value.float .f64 (FloatKind.f64.encode (D.integral .down))) := by
        intro D hD hne
        delta Extern.MathFloor.toIntegral
        conv => lhs; whnf
        rw [hD]
        cases D with
        | nan s t => exact absurd rfl (hne s t)
        | infinity s => rfl
        | number s m e => rfl
      exact key _ rfl (by rw [hd']; intro s t h; cases h)
    rw [hq]; rfl
  clear hf
  go_enter Try.func60, Try.ntmps60
  go_wp2
  go_ret
  exact ⟨rfl, rfl⟩
end Go.Proofs.Ytlmmhmoihmlljaa
