/-
  The series of sines and cosines as plain functions on words, and that none of their operations is invalid.
-/
import Derived.Test.YtlmmhmoihmlljaaFlw
/-! the series of sines and cosines, as functions on words -/
namespace Fs
open Fl Go
def one : Nat := 4607182418800017408
def rad : Nat := 4445950764994258515
def ofInt (n : Int) : Nat := floatOfInt .f64 n
/-- n! in floats -/
def ffact : Nat → Nat
  | 0 => one
  | n + 1 => if n = 0 then one else mul (ffact n) (ofInt ((n + 1 : Nat) : Int))
def sgn (k x : Nat) : Nat := if k % 2 = 1 then neg x else x
def coef (odd k : Nat) : Nat := div one (sgn k (ffact (2 * k + odd)))
/-- after j rounds -/
def ser (z odd : Nat) : Nat → Nat
  | 0 => 0
  | j + 1 => if j = 0 then coef odd 8 else add (coef odd (8 - j)) (mul z (ser z odd j))
def series (z odd : Nat) : Nat := add one (mul z (ser z odd 8))

theorem Bd.not_nan {k x : Nat} (h : Bd k x) : isNaN x = false := by
  obtain ⟨s, m, e, hr, _⟩ := h
  unfold isNaN; rw [hr]; rfl
theorem sim_eq {r v : Nat} (h : Sim r v) (hv : isNaN v = false) : r = v := by
  rcases h with h | ⟨_, h⟩
  · exact h
  · rw [hv] at h; cases h
def bd0 (x : Nat) : Bool := match Ieee.Format.read Ieee.double x with
  | .number _ m e => decide (0 ≤ e + 1074) && decide (m * 2 ^ (e + 1074).toNat ≤ 2 ^ 1074)
  | _ => false
theorem bd0_Bd {x : Nat} (h : bd0 x = true) : Bd 0 x := by
  unfold bd0 at h
  split at h
  · rename_i s m e he
    simp only [Bool.and_eq_true, decide_eq_true_eq] at h
    exact ⟨s, m, (e + 1074).toNat, by rw [he]; congr 1; omega, by rw [Nat.zero_add]; exact h.2⟩
  · cases h
theorem coef_bd (odd k : Nat) (ho : odd < 2) (h1 : 1 ≤ k) (hk : k ≤ 8) : Bd 0 (coef odd k) := by
  have h : ∀ o : Fin 2, ∀ k : Fin 8, bd0 (coef o.val (k.val + 1)) = true := by decide +kernel
  have := h ⟨odd, ho⟩ ⟨k - 1, by omega⟩
  simp only at this
  rw [show k - 1 + 1 = k by omega] at this
  exact bd0_Bd this
theorem one_bd : Bd 0 one := bd0_Bd (by decide +kernel)
theorem rad_bd : Bd 0 rad := bd0_Bd (by decide +kernel)
theorem zero_bd : Bd 0 0 := bd0_Bd (by decide +kernel)
theorem ser_bd {z odd : Nat} (hz : Bd 72 z) (ho : odd < 2) : ∀ j, j ≤ 8 → Bd (73 * j) (ser z odd j)
  | 0, _ => zero_bd.mono (by omega)
  | j + 1, hj => by
    unfold ser
    split
    · exact (coef_bd odd 8 ho (by omega) (by omega)).mono (by omega)
    · have hs := ser_bd hz ho j (by omega)
      have hm := (mul_bd hz hs (by omega)).2
      exact ((add_bd ((coef_bd odd (8 - j) ho (by omega) (by omega)).mono (by omega : 0 ≤ 72 + 73 * j)) hm (by omega)).2).mono (by omega)
theorem ser_mul {z odd j : Nat} (hz : Bd 72 z) (ho : odd < 2) (hj : j ≤ 8) : Ieee.Format.mul Ieee.double z (ser z odd j) = some (mul z (ser z odd j)) ∧ Bd (72 + 73 * j) (mul z (ser z odd j)) :=
  mul_bd hz (ser_bd hz ho j hj) (by omega)
theorem ser_add {z odd j : Nat} (hz : Bd 72 z) (ho : odd < 2) (hj : j < 8) (h0 : j ≠ 0) : Ieee.Format.add Ieee.double (coef odd (8 - j)) (mul z (ser z odd j)) = some (ser z odd (j + 1)) := by
  have h := (add_bd ((coef_bd odd (8 - j) ho (by omega) (by omega)).mono (by omega : 0 ≤ 72 + 73 * j)) (ser_mul hz ho (by omega)).2 (by omega)).1
  rw [h]; congr 1
  conv => rhs; unfold ser
  rw [if_neg h0]
theorem series_bd {z odd : Nat} (hz : Bd 72 z) (ho : odd < 2) : Bd 657 (series z odd) :=
  (add_bd (one_bd.mono (by omega : 0 ≤ 656)) ((ser_mul hz ho (by omega)).2.mono (by omega)) (by omega)).2
/-- the constants in the program's tables -/
def tabS : List Nat := [13818544856648471893, 4575957461383581969, 13774824197408792602, 4523617214285662004, 13716528800881525988, 4460272573143870729, 13648976655441704991, 4389130328383466826]
def tabD : List Nat := [13826050856027422720, 4586165620538955093, 13787419979223755799, 4537941361671905306, 13732177094651715420, 4477122120089393304, 13666517717442657437, 4407590220077447199]
theorem tab_coef : ∀ i : Fin 8, tabS.getD i.val 0 = coef 1 (i.val + 1) ∧ tabD.getD i.val 0 = coef 0 (i.val + 1) := by decide +kernel
/-- where an angle lies: quarter, and what is left, as a float -/
def quarter (a : Int) : Int := (a + 45000000000) / 90000000000
def xOf (a : Int) : Nat := mul (ofInt (a - quarter a * 90000000000)) rad
theorem left_range (a : Int) : -45000000000 ≤ a - quarter a * 90000000000 ∧ a - quarter a * 90000000000 < 45000000000 := by unfold quarter; omega
theorem left_bd (a : Int) : Bd 36 (ofInt (a - quarter a * 90000000000)) := by
  have := left_range a
  exact ofInt_bd (by omega) (by omega)
theorem xOf_mul (a : Int) : Ieee.Format.mul Ieee.double (ofInt (a - quarter a * 90000000000)) rad = some (xOf a) := (mul_bd (left_bd a) rad_bd (by omega)).1
theorem xOf_bd (a : Int) : Bd 36 (xOf a) := (mul_bd (left_bd a) rad_bd (by omega)).2
theorem z_bd (a : Int) : Bd 72 (mul (xOf a) (xOf a)) := (mul_bd (xOf_bd a) (xOf_bd a) (by omega)).2
theorem z_mul (a : Int) : Ieee.Format.mul Ieee.double (xOf a) (xOf a) = some (mul (xOf a) (xOf a)) := (mul_bd (xOf_bd a) (xOf_bd a) (by omega)).1
/-- sine and cosine of what is left -/
def sinOf (a : Int) : Nat := mul (xOf a) (series (mul (xOf a) (xOf a)) 1)
def cosOf (a : Int) : Nat := series (mul (xOf a) (xOf a)) 0
theorem sin_mul (a : Int) : Ieee.Format.mul Ieee.double (xOf a) (series (mul (xOf a) (xOf a)) 1) = some (sinOf a) := (mul_bd (xOf_bd a) (series_bd (z_bd a) (by omega)) (by omega)).1
theorem sin_bd (a : Int) : Bd 693 (sinOf a) := (mul_bd (xOf_bd a) (series_bd (z_bd a) (by omega)) (by omega)).2
theorem cos_bd (a : Int) : Bd 657 (cosOf a) := series_bd (z_bd a) (by omega)
theorem series_add {z odd : Nat} (hz : Bd 72 z) (ho : odd < 2) : Ieee.Format.add Ieee.double one (mul z (ser z odd 8)) = some (series z odd) :=
  (add_bd (one_bd.mono (by omega : 0 ≤ 656)) ((ser_mul hz ho (by omega)).2.mono (by omega)) (by omega)).1
theorem ser_step {z odd k : Nat} (hz : Bd 72 z) (ho : odd < 2) (hk : k < 7) : Ieee.Format.add Ieee.double (coef odd (k + 1)) (mul z (ser z odd (7 - k))) = some (ser z odd (8 - k)) := by
  have h := ser_add (j := 7 - k) hz ho (by omega) (by omega)
  rw [show 8 - (7 - k) = k + 1 by omega, show 7 - k + 1 = 8 - k by omega] at h
  exact h
theorem ser_one (z odd : Nat) : ser z odd 1 = coef odd 8 := rfl
theorem ffact_mul : ∀ i : Fin 18, 2 ≤ i.val → Ieee.Format.mul Ieee.double (ffact (i.val - 1)) (floatOfInt .f64 (i.val : Int)) = some (ffact i.val) := by decide +kernel
theorem coef_div : ∀ o : Fin 2, ∀ k : Fin 8, Ieee.Format.div Ieee.double one (sgn (k.val + 1) (ffact (2 * (k.val + 1) + o.val))) = some (coef o.val (k.val + 1)) := by decide +kernel
/-- the sine and the cosine -/
def sin (a : Int) : Nat := if quarter a % 4 = 0 then sinOf a else if quarter a % 4 = 1 then cosOf a else if quarter a % 4 = 2 then neg (sinOf a) else neg (cosOf a)
def cos (a : Int) : Nat := if quarter a % 4 = 0 then cosOf a else if quarter a % 4 = 1 then neg (sinOf a) else if quarter a % 4 = 2 then neg (cosOf a) else sinOf a
end Fs
