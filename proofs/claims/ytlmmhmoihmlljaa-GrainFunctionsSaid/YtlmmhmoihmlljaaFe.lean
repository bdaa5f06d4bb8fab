/-
  Plain facts for the power function: how great its numbers are, its series as a function on words.
-/
import Derived.Test.YtlmmhmoihmlljaaFk
namespace Fs
open Fl Go Ieee
theorem cut_le_any {way : Toward} {neg : Bool} {n d c : Nat} (h : n ≤ c * 2 ^ d) (hc : 1 ≤ c) : way.cut neg n d ≤ c := by
  unfold Toward.cut
  by_cases hd : n.log2 + 2 ≤ d
  · have hg := gap_low hd
    generalize 1 <<< min d (n.log2 + 2) = g at hg
    have h0 : n / g = 0 := Nat.div_eq_of_lt (by omega)
    simp only [h0]
    have : ∀ b : Bool, 0 + b.toNat ≤ 1 := by intro b; cases b <;> simp
    exact Nat.le_trans (this _) hc
  · rw [Nat.min_eq_left (by omega), shl, Nat.one_mul]
    have hp : 0 < 2 ^ d := Nat.two_pow_pos d
    generalize 2 ^ d = g at *
    simp only
    by_cases he : n / g = c
    · have hn : n = c * g := by
        have := Nat.div_add_mod n g
        rw [he, Nat.mul_comm] at this
        have hle : c * g ≤ n := by rw [← he]; exact Nat.div_mul_le_self n g
        omega
      have hr : n % g = 0 := by rw [hn]; simp
      rw [hr, he]
      have hg0 : (g == 0) = false := by simp; omega
      cases way <;> simp [hg0]
    · have hlt : n / g ≤ c := Nat.div_le_of_le_mul (by rw [Nat.mul_comm]; exact h)
      have : ∀ b : Bool, b.toNat ≤ 1 := by intro b; cases b <;> simp
      refine Nat.le_trans (Nat.add_le_add_left (this _) _) ?_
      omega
def flr (x : Nat) : Nat := FloatKind.f64.encode ((FloatKind.f64.decode x).integral .down)
theorem integral_bd {way : Toward} {k x : Nat} (h : Bd k x) : ∃ s m, (double.read x).integral way = .number s m 0 ∧ m ≤ 2 ^ k := by
  obtain ⟨s, m, e, hr, hm⟩ := h
  rw [hr]
  refine ⟨s, _, rfl, cut_le_any ?_ (Nat.two_pow_pos k)⟩
  rw [shl]
  obtain ⟨T, hT⟩ : ∃ T : Nat, T = 1074 := ⟨_, rfl⟩
  have hm' : m * 2 ^ e ≤ 2 ^ (k + T) := by rw [hT]; exact hm
  have h1 : e + (-((e : Int) - 1074)).toNat = ((e : Int) - 1074).toNat + T := by omega
  have h2 : m * 2 ^ ((e : Int) - 1074).toNat * 2 ^ T ≤ 2 ^ k * 2 ^ (-((e : Int) - 1074)).toNat * 2 ^ T := by
    calc m * 2 ^ ((e : Int) - 1074).toNat * 2 ^ T = m * 2 ^ e * 2 ^ (-((e : Int) - 1074)).toNat := by
          rw [Nat.mul_assoc, Nat.mul_assoc, ← Nat.pow_add, ← Nat.pow_add, h1]
      _ ≤ 2 ^ (k + T) * 2 ^ (-((e : Int) - 1074)).toNat := Nat.mul_le_mul_right _ hm'
      _ = 2 ^ k * 2 ^ (-((e : Int) - 1074)).toNat * 2 ^ T := by rw [Nat.pow_add, Nat.mul_assoc, Nat.mul_comm (2 ^ T), Nat.mul_assoc]
  exact Nat.le_of_mul_le_mul_right h2 (Nat.two_pow_pos _)
theorem flr_bd {k x : Nat} (h : Bd k x) (hk : k ≤ 1000) : Bd k (flr x) := by
  obtain ⟨s, m, h1, h2⟩ := integral_bd (way := .down) h
  unfold flr
  show Bd k (double.write ((double.read x).integral .down))
  rw [h1]
  exact nearest_bd s m 0 k 0 hk (by omega) (by simpa using h2)
theorem toInt_bd {k x : Nat} (h : Bd k x) (hk : k ≤ 62) : ∃ n : Int, floatToIntVal .f64 x .i64 = some n := by
  obtain ⟨s, m, h1, h2⟩ := integral_bd (way := .zero) h
  have h3 : (FloatKind.f64.decode x).toInt .zero = some (signed s m 0) := by
    show (match (double.read x).integral .zero with | .number s m _ => some (signed s m 0) | _ => none) = _
    rw [h1]
  unfold floatToIntVal
  rw [h3]
  have h4 : 2 ^ k ≤ 2 ^ 62 := Nat.pow_le_pow_right (by omega) hk
  have h5 : (IntKind.min .i64 : Int) = -9223372036854775808 := by decide
  have h6 : (IntKind.max .i64 : Int) = 9223372036854775807 := by decide
  have h7 : signed s m 0 = if s then -(m : Int) else (m : Int) := by unfold signed; cases s <;> simp
  refine ⟨signed s m 0, ?_⟩
  simp only
  rw [h5, h6, h7, if_pos]
  split <;> omega
/-- a number from -746 to 710 is small -/
theorem small_bd {x : Nat} (hx : x < 2 ^ 64) (hn : isNaN x = false) (h1 : (FloatKind.f64.format.order x 4649456441864749056 == some .gt) = false) (h2 : (FloatKind.f64.format.order x 13873145138068324352 == some .lt) = false) : Bd 10 x := by
  have hw : x = double.word (x / 2 ^ 63 % 2 == 1) (x % 2 ^ 63) := by
    have hsw : double.signWeight = 2 ^ 63 := by decide +kernel
    unfold Format.word; rw [hsw]
    split
    · rename_i h; simp at h; omega
    · rename_i h; simp at h; omega
  have hf : fin x = true := by
    cases hc : fin x with
    | true => rfl
    | false =>
      exfalso
      rw [fin_iff] at hc
      have hc := of_decide_eq_false hc
      have hnn : ¬ 2047 * 2 ^ 52 < x % 2 ^ 63 := by
        intro h; have := (isNaN_iff x).2 h; rw [hn] at this; cases this
      have he : x % 2 ^ 63 = 2047 * 2 ^ 52 := by omega
      rcases (by omega : x = 2047 * 2 ^ 52 ∨ x = 2 ^ 63 + 2047 * 2 ^ 52) with rfl | rfl
      · revert h1; decide +kernel
      · revert h2; decide +kernel
  have ho1 := order_S hf (y := 4649456441864749056) (by rw [fin_iff]; decide)
  have ho2 := order_S hf (y := 13873145138068324352) (by rw [fin_iff]; decide)
  rw [ho1] at h1; rw [ho2] at h2
  have hS1 : ¬ S 4649456441864749056 < S x := by
    intro h; rw [Int.compare_eq_gt.2 h] at h1; simp at h1
  have hS2 : ¬ S x < S 13873145138068324352 := by
    intro h; rw [Int.compare_eq_lt.2 h] at h2; simp at h2
  have e1 : S 4649456441864749056 = (V 4649456441864749056 : Int) := S_pos (by decide)
  have e2 : S 13873145138068324352 = -(V 4649773101213548544 : Int) := by
    unfold S; show signed true (V 4649773101213548544) 0 = _; unfold signed; simp
  have hVV : V 4649456441864749056 < V 4649773101213548544 := V_lt (by decide)
  have hV : V (x % 2 ^ 63) ≤ V 4649773101213548544 := by
    have h7 : S x = if (x / 2 ^ 63 % 2 == 1) then -(V (x % 2 ^ 63) : Int) else (V (x % 2 ^ 63) : Int) := by unfold S signed; cases (x / 2 ^ 63 % 2 == 1) <;> simp
    rw [h7, e1] at hS1
    rw [h7, e2] at hS2
    generalize V (x % 2 ^ 63) = v at *
    generalize V 4649773101213548544 = v2 at *
    generalize V 4649456441864749056 = v1 at *
    cases hh : (x / 2 ^ 63 % 2 == 1) with
    | true => rw [hh, if_pos rfl] at hS2; omega
    | false => rw [hh, if_neg (by simp)] at hS1; omega
  have hr : x % 2 ^ 63 ≤ 4649773101213548544 := by
    rcases Nat.lt_or_ge 4649773101213548544 (x % 2 ^ 63) with h | h
    · have := V_lt h; omega
    · exact h
  rw [hw]
  exact read_bd _ _ 10 (by omega) (by omega)
/-- the series of the power -/
def inv (n : Nat) : Nat := div one (ffact n)
def ep (r : Nat) : Nat → Nat
  | 0 => inv 14
  | j + 1 => add (inv (13 - j)) (mul r (ep r j))
theorem inv_bd (n : Nat) (h : n < 15) : Bd 0 (inv n) := by
  have h2 : ∀ n : Fin 15, bd0 (inv n.val) = true := by decide +kernel
  exact bd0_Bd (h2 ⟨n, h⟩)
theorem inv_div : ∀ n : Fin 15, double.div one (ffact n.val) = some (inv n.val) := by decide +kernel
theorem ep_bd {r : Nat} (hr : Bd 20 r) : ∀ j, j ≤ 14 → Bd (21 * j) (ep r j)
  | 0, _ => inv_bd 14 (by omega)
  | j + 1, hj => by
    have hm := (mul_bd hr (ep_bd hr j (by omega)) (by omega)).2
    exact ((add_bd ((inv_bd (13 - j) (by omega)).mono (by omega : 0 ≤ 20 + 21 * j)) hm (by omega)).2).mono (by omega)
theorem ep_mul {r : Nat} (hr : Bd 20 r) (j : Nat) (hj : j ≤ 14) : double.mul r (ep r j) = some (mul r (ep r j)) := (mul_bd hr (ep_bd hr j hj) (by omega)).1
theorem ep_add {r : Nat} (hr : Bd 20 r) (j : Nat) (hj : j < 14) : double.add (inv (13 - j)) (mul r (ep r j)) = some (ep r (j + 1)) :=
  (add_bd ((inv_bd (13 - j) (by omega)).mono (by omega : 0 ≤ 20 + 21 * j)) (mul_bd hr (ep_bd hr j (by omega)) (by omega)).2 (by omega)).1
def HI : Nat := 4604418534311723008
def LO : Nat := 4461442080421002358
def INV : Nat := 4609176140021203710
def HALF : Nat := 4602678819172646912
def ekf (x : Nat) : Nat := flr (add (mul x INV) HALF)
def er (x : Nat) : Nat := sub (sub x (mul (ekf x) HI)) (mul (ekf x) LO)
theorem exp_facts {x : Nat} (h : Bd 10 x) : double.mul x INV = some (mul x INV) ∧ double.add (mul x INV) HALF = some (add (mul x INV) HALF) ∧ Bd 12 (add (mul x INV) HALF) ∧ Bd 12 (ekf x) ∧
    double.mul (ekf x) HI = some (mul (ekf x) HI) ∧ double.mul (ekf x) LO = some (mul (ekf x) LO) ∧ double.sub x (mul (ekf x) HI) = some (sub x (mul (ekf x) HI)) ∧ double.sub (sub x (mul (ekf x) HI)) (mul (ekf x) LO) = some (er x) ∧ Bd 20 (er x) := by
  have bI : Bd 1 INV := (read_bd false INV 1 (by omega) (by decide))
  have bH : Bd 0 HALF := bd0_Bd (by decide +kernel)
  have bHI : Bd 0 HI := bd0_Bd (by decide +kernel)
  have bLO : Bd 0 LO := bd0_Bd (by decide +kernel)
  have m1 := mul_bd h bI (by omega)
  have a1 := add_bd m1.2 (bH.mono (by omega : 0 ≤ 10 + 1)) (by omega)
  have f1 : Bd 12 (ekf x) := flr_bd a1.2 (by omega)
  have m2 := mul_bd f1 bHI (by omega)
  have m3 := mul_bd f1 bLO (by omega)
  have s1 := sub_bd (h.mono (by omega : 10 ≤ 12 + 0)) m2.2 (by omega)
  have s2 := sub_bd s1.2 (m3.2.mono (by omega : 12 + 0 ≤ 12 + 0 + 1)) (by omega)
  exact ⟨m1.1, a1.1, a1.2, f1, m2.1, m3.1, s1.1, s2.1, s2.2.mono (by omega)⟩
end Fs
