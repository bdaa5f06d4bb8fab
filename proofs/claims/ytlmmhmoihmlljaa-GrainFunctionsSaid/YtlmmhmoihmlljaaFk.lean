/-
  Plain facts: fraction and exponent of a float64 word, and how doubling changes them; the series of the logarithm as a function on words.
-/
import Derived.Test.YtlmmhmoihmlljaaFo
namespace Fs
open Fl Go Ieee
def nrm (x : Nat) : Nat := if x < 2 ^ 52 then dblN 52 x else x
def fr (x : Nat) : Nat := 1022 * 2 ^ 52 + nrm x % 2 ^ 52
def ex (x : Nat) : Int := ((nrm x / 2 ^ 52 : Nat) : Int) - 1022 - (if x < 2 ^ 52 then 52 else 0)
theorem V_small {x : Nat} (h : x < 2 ^ 52) : V x = x := by unfold V; rw [if_pos h]
theorem dblN_small (n : Nat) : ∀ {x : Nat}, x ≠ 0 → dblN n x ≠ 0 ∧ dblN n x < 2 ^ 52 * (n + 1) + x := by
  intro x h
  induction n with
  | zero => simp only [dblN]; omega
  | succ n ih => rw [dblN]; unfold dbl; split <;> omega
theorem nrm_range {x : Nat} (h0 : x ≠ 0) (hx : x < 2047 * 2 ^ 52) : 2 ^ 52 ≤ nrm x ∧ nrm x < 2047 * 2 ^ 52 := by
  unfold nrm
  split
  · rename_i h
    have h1 := dblN_small 52 h0
    refine ⟨?_, by omega⟩
    rcases Nat.lt_or_ge (dblN 52 x) (2 ^ 52) with hlt | hge
    · exfalso
      have h2 := V_dblN 52 x
      rw [V_small hlt, V_small h] at h2
      have : 2 ^ 52 * 1 ≤ 2 ^ 52 * x := Nat.mul_le_mul_left _ (by omega)
      omega
    · exact hge
  · omega
theorem dblN_big {x : Nat} (h : 2 ^ 52 ≤ x) (n : Nat) : dblN n x = x + n * 2 ^ 52 := by
  induction n with
  | zero => simp [dblN]
  | succ n ih => rw [dblN, ih]; unfold dbl; rw [if_neg (by omega)]; omega
theorem fr_dbl {x : Nat} (h0 : x ≠ 0) (hx : x < 2046 * 2 ^ 52) : fr (dbl x) = fr x ∧ ex (dbl x) = ex x + 1 := by
  unfold fr ex
  by_cases h : x < 2 ^ 52
  · have hd : dbl x = 2 * x := by unfold dbl; rw [if_pos h]
    by_cases h2 : 2 * x < 2 ^ 52
    · have e1 : nrm (dbl x) = nrm x + 2 ^ 52 := by
        have hb := (nrm_range h0 (by omega)).1
        unfold nrm at hb ⊢
        rw [if_pos h] at hb ⊢
        rw [if_pos (by omega), dblN_dbl]
        generalize dblN 52 x = y at *
        unfold dbl; rw [if_neg (by omega)]
      rw [e1, if_pos (show dbl x < 2 ^ 52 by omega), if_pos h]
      constructor
      · omega
      · omega
    · have e1 : nrm x = dbl x + 51 * 2 ^ 52 := by
        unfold nrm
        rw [if_pos h]
        have : dblN 52 x = dblN 51 (dbl x) := by rw [dblN_dbl]; rfl
        rw [this, dblN_big (by omega)]
      have e2 : nrm (dbl x) = dbl x := by unfold nrm; rw [if_neg (by omega)]
      rw [e1, e2, if_neg (show ¬ dbl x < 2 ^ 52 by omega), if_pos h]
      constructor
      · omega
      · omega
  · have hd : dbl x = x + 2 ^ 52 := by unfold dbl; rw [if_neg h]
    have e1 : nrm (dbl x) = x + 2 ^ 52 := by unfold nrm; rw [if_neg (by omega), hd]
    have e2 : nrm x = x := by unfold nrm; rw [if_neg h]
    rw [e1, e2, if_neg (show ¬ dbl x < 2 ^ 52 by omega), if_neg h]
    constructor
    · omega
    · omega
theorem fr_half {x : Nat} (hl : 2 * 2 ^ 52 ≤ x) (hx : x < 2047 * 2 ^ 52) : fr (x - 2 ^ 52) = fr x ∧ ex (x - 2 ^ 52) = ex x - 1 := by
  have := fr_dbl (x := x - 2 ^ 52) (by omega) (by omega)
  have e : dbl (x - 2 ^ 52) = x := by unfold dbl; rw [if_neg (by omega)]; omega
  rw [e] at this
  exact ⟨this.1.symm, by omega⟩
def C : Nat := 4604544271217802189
/-- where the logarithm's argument is brought to -/
def lnM (x : Nat) : Nat := if fr x < C then fr x + 2 ^ 52 else fr x
def lnK (x : Nat) : Int := if fr x < C then ex x - 1 else ex x
/-- between C and twice C it is brought already -/
theorem lnM_done {x : Nat} (h1 : C ≤ x) (h2 : x < C + 2 ^ 52) : lnM x = x ∧ lnK x = 0 := by
  unfold C at *
  have e2 : nrm x = x := by unfold nrm; rw [if_neg (by omega)]
  have e3 : fr x = 1022 * 2 ^ 52 + x % 2 ^ 52 := by unfold fr; rw [e2]
  have e4 : ex x = ((x / 2 ^ 52 : Nat) : Int) - 1022 := by unfold ex; rw [e2, if_neg (by omega)]; omega
  unfold lnM lnK C
  rw [e3, e4]
  split <;> omega
/-- the series -/
def lp (z : Nat) : Nat → Nat
  | 0 => 4586426698778222948
  | j + 1 => add (div one (ofInt (21 - 2 * j))) (mul z (lp z j))
def lnS (m : Nat) : Nat := div (sub m one) (add m one)
def lnV (m : Nat) (k : Int) : Nat :=
  add (mul (ofInt k) 4604418534311723008) (add (mul 4611686018427387904 (mul (lnS m) (lp (mul (lnS m) (lnS m)) 11))) (mul (ofInt k) 4461442080421002358))
theorem lnV_one : lnV (lnM one) (lnK one) = 0 := by decide +kernel
theorem fl_step : ∀ j : Fin 11, double.sub (ofInt (21 - 2 * (j.val : Int))) 4611686018427387904 = some (ofInt (21 - 2 * ((j.val + 1 : Nat) : Int))) ∧ FloatKind.f64.format.order (ofInt (21 - 2 * (j.val : Int))) 0 = some .gt := by decide +kernel
theorem fl_last : FloatKind.f64.format.order (ofInt (21 - 2 * ((11 : Nat) : Int))) 0 = some .lt := by decide +kernel
theorem and_low {y : Nat} (h : y < 2 ^ 63) : y &&& 9227875636482146303 = y % 2 ^ 52 := by
  have h1 : (9227875636482146303 : Nat) = 2 ^ 63 ||| (2 ^ 52 - 1) := by decide
  rw [h1]
  apply Nat.eq_of_testBit_eq; intro i
  rw [Nat.testBit_and, Nat.testBit_or, Nat.testBit_two_pow, Nat.testBit_two_pow_sub_one, Nat.testBit_mod_two_pow]
  by_cases hi : 63 = i
  · subst hi; rw [Nat.testBit_lt_two_pow h]; rfl
  · simp [hi, Bool.and_comm]
theorem or_exp (f e : Nat) (h : f < 2 ^ 52) : f ||| e * 2 ^ 52 = e * 2 ^ 52 + f := by
  have := Nat.two_pow_add_eq_or_of_lt h e
  rw [Nat.mul_comm] at this
  rw [this, Nat.or_comm]
end Fs
