/-
  Plain facts: how finite float64 words stand to each other, as numbers; a word above zero doubled, halved; the exponent of a word.
-/
import Derived.Test.YtlmmhmoihmlljaaFb
namespace Fs
open Fl Go Ieee
/-- the size of a word below infinity, in units of the least one -/
def V (x : Nat) : Nat := if x < 2 ^ 52 then x else (2 ^ 52 + x % 2 ^ 52) * 2 ^ (x / 2 ^ 52 - 1)
theorem V_succ (x : Nat) : V x < V (x + 1) := by
  unfold V
  by_cases h1 : x + 1 < 2 ^ 52
  · rw [if_pos h1, if_pos (by omega)]; omega
  · rw [if_neg h1]
    by_cases h2 : x < 2 ^ 52
    · rw [if_pos h2]
      have e : x = 2 ^ 52 - 1 := by omega
      subst e
      decide
    · rw [if_neg h2]
      by_cases h3 : x % 2 ^ 52 = 2 ^ 52 - 1
      · have e1 : (x + 1) % 2 ^ 52 = 0 := by omega
        have e2 : (x + 1) / 2 ^ 52 - 1 = (x / 2 ^ 52 - 1) + 1 := by omega
        have e3 : 2 ^ (x / 2 ^ 52 - 1 + 1) = 2 ^ (x / 2 ^ 52 - 1) * 2 := Nat.pow_succ _ _
        rw [e1, e2, h3, e3]
        generalize hp : 2 ^ (x / 2 ^ 52 - 1) = p
        have hpos : 0 < p := by rw [← hp]; exact Nat.two_pow_pos _
        rw [show (2 ^ 52 + 0) * (p * 2) = (2 ^ 53) * p by rw [Nat.mul_comm p 2, ← Nat.mul_assoc]]
        exact Nat.mul_lt_mul_of_pos_right (by decide) hpos
      · have e1 : (x + 1) % 2 ^ 52 = x % 2 ^ 52 + 1 := by omega
        have e2 : (x + 1) / 2 ^ 52 = x / 2 ^ 52 := by omega
        rw [e1, e2]
        exact Nat.mul_lt_mul_of_pos_right (by omega) (Nat.two_pow_pos _)
theorem V_lt {x y : Nat} (h : x < y) : V x < V y := by
  obtain ⟨d, rfl⟩ : ∃ d, y = x + 1 + d := ⟨y - x - 1, by omega⟩
  clear h
  induction d with
  | zero => exact V_succ x
  | succ d ih => exact Nat.lt_trans ih (V_succ _)
theorem V_le {x y : Nat} (h : x ≤ y) : V x ≤ V y := by
  rcases Nat.lt_or_ge x y with h1 | h1
  · exact Nat.le_of_lt (V_lt h1)
  · have : x = y := by omega
    rw [this]; exact Nat.le_refl _
/-- the number of a word, signed -/
def S (x : Nat) : Int := signed (x / 2 ^ 63 % 2 == 1) (V (x % 2 ^ 63)) 0
theorem read_V {x : Nat} (h : fin x = true) : ∃ (m k : Nat), double.read x = .number (x / 2 ^ 63 % 2 == 1) m ((k : Int) - 1074) ∧ m * 2 ^ k = V (x % 2 ^ 63) ∧ m < 2 ^ 53 := by
  rw [fin_iff] at h
  have h := of_decide_eq_true h
  rw [read_parts]; simp only
  unfold V
  by_cases h1 : x % 2 ^ 63 < 2 ^ 52
  · rw [if_pos h1, if_pos h1]
    exact ⟨x % 2 ^ 63, 0, rfl, by rw [Nat.pow_zero, Nat.mul_one], by omega⟩
  · rw [if_neg h1, if_neg h1, if_pos h]
    exact ⟨_, x % 2 ^ 63 / 2 ^ 52 - 1, by congr 1 <;> omega, rfl, by omega⟩
theorem signed_mul (s : Bool) (m a b : Nat) : signed s m (a + b) = signed s m a * 2 ^ b := by
  unfold signed
  rw [shl, shl, Nat.pow_add]
  cases s
  · simp [Int.mul_assoc]
  · simp [Int.mul_assoc, Int.neg_mul]
theorem compare_mul (a b : Int) (k : Nat) : compare (a * 2 ^ k) (b * 2 ^ k) = compare a b := by
  have hp : (0 : Int) < 2 ^ k := Int.pow_pos (by omega)
  rcases Int.lt_trichotomy a b with h | h | h
  · rw [Int.compare_eq_lt.2 h, Int.compare_eq_lt]; exact Int.mul_lt_mul_of_pos_right h hp
  · subst h; simp
  · rw [Int.compare_eq_gt.2 h, Int.compare_eq_gt]; exact Int.mul_lt_mul_of_pos_right h hp
theorem order_S {x y : Nat} (hx : fin x = true) (hy : fin y = true) : FloatKind.f64.format.order x y = some (compare (S x) (S y)) := by
  obtain ⟨m, i, h1, e1, _⟩ := read_V hx
  obtain ⟨n, j, h2, e2, _⟩ := read_V hy
  show (double.read x).order (double.read y) = _
  rw [h1, h2]
  generalize hs : (x / 2 ^ 63 % 2 == 1) = s at *
  generalize ht : (y / 2 ^ 63 % 2 == 1) = t at *
  simp only [Datum.order]
  have k1 : S x = signed s m i := by
    unfold S; rw [hs, ← e1]
    unfold signed; rw [shl, shl]; simp
  have k2 : S y = signed t n j := by
    unfold S; rw [ht, ← e2]
    unfold signed; rw [shl, shl]; simp
  rw [k1, k2]
  obtain ⟨b, hb⟩ : ∃ b : Nat, min i j = b := ⟨_, rfl⟩
  have b1 : ((i : Int) - 1074 - min ((i : Int) - 1074) ((j : Int) - 1074)).toNat = i - b := by omega
  have b2 : ((j : Int) - 1074 - min ((i : Int) - 1074) ((j : Int) - 1074)).toNat = j - b := by omega
  rw [b1, b2]
  have c1 : signed s m i = signed s m (i - b) * 2 ^ b := by rw [← signed_mul, show i - b + b = i by omega]
  have c2 : signed t n j = signed t n (j - b) * 2 ^ b := by rw [← signed_mul, show j - b + b = j by omega]
  rw [c1, c2, compare_mul]
theorem S_pos {x : Nat} (h : x < 2 ^ 63) : S x = (V x : Int) := by
  unfold S
  have h1 : (x / 2 ^ 63 % 2 == 1) = false := by simp; omega
  have h2 : x % 2 ^ 63 = x := by omega
  rw [h1, h2]; unfold signed; simp
theorem order_pos {x y : Nat} (hx : x < 2047 * 2 ^ 52) (hy : y < 2047 * 2 ^ 52) : FloatKind.f64.format.order x y = some (compare x y) := by
  rw [order_S (by rw [fin_iff]; simp; omega) (by rw [fin_iff]; simp; omega), S_pos (by omega), S_pos (by omega)]
  congr 1
  rcases Nat.lt_trichotomy x y with h | h | h
  · rw [Nat.compare_eq_lt.2 h, Int.compare_eq_lt]; have := V_lt h; omega
  · subst h; simp
  · rw [Nat.compare_eq_gt.2 h, Int.compare_eq_gt]; have := V_lt h; omega
/-- a number that the format has is its own nearest -/
theorem nearest_exact (neg : Bool) (mag : Nat) (place : Int) (w J : Nat) (hw : w < 2047 * 2 ^ 52) (h0 : w ≠ 0) (hJ : 0 ≤ place + J) (hJ2 : 1074 ≤ J) (h : mag * 2 ^ (place + J).toNat = V w * 2 ^ (J - 1074)) : double.nearest neg mag place = double.word neg w := by
  have hinf : double.infRung = 2047 * 2 ^ 52 := by decide +kernel
  have hbin : double.binade = 2 ^ 52 := by decide +kernel
  have hlp : double.leastPlace = -1074 := by decide +kernel
  have hfb : double.fractionBits = 52 := rfl
  -- V w = m0 * 2 ^ k0
  obtain ⟨m0, k0, hV, hm0, hw0⟩ : ∃ m0 k0, V w = m0 * 2 ^ k0 ∧ (k0 = 0 ∧ m0 < 2 ^ 52 ∧ 0 < m0 ∨ 2 ^ 52 ≤ m0 ∧ m0 < 2 ^ 53) ∧ k0 * 2 ^ 52 + m0 = w := by
    unfold V
    by_cases h1 : w < 2 ^ 52
    · rw [if_pos h1]; exact ⟨w, 0, by rw [Nat.pow_zero, Nat.mul_one], .inl ⟨rfl, h1, by omega⟩, by omega⟩
    · rw [if_neg h1]; exact ⟨_, w / 2 ^ 52 - 1, rfl, .inr ⟨by omega, by omega⟩, by omega⟩
  have hmag : mag ≠ 0 := by
    rintro rfl
    rw [Nat.zero_mul, hV] at h
    have h1 : 0 < m0 := by omega
    have h2 := Nat.mul_pos (Nat.mul_pos h1 (Nat.two_pow_pos k0)) (Nat.two_pow_pos (J - 1074))
    omega
  have hL1 := Nat.log2_self_le hmag
  have hL2 := Nat.lt_log2_self (n := mag)
  unfold Format.nearest
  rw [if_neg hmag]
  simp only [hlp, hfb, hbin, hinf]
  generalize mag.log2 = L at hL1 hL2
  -- bounds on L + place
  have up : m0 < 2 ^ 53 := by omega
  have hup : (L : Int) + place < 53 + k0 - 1074 := by
    have h1 : 2 ^ (L + (place + J).toNat) < 2 ^ (53 + k0 + (J - 1074)) := by
      calc 2 ^ (L + (place + J).toNat) = 2 ^ L * 2 ^ (place + J).toNat := Nat.pow_add _ _ _
        _ ≤ mag * 2 ^ (place + J).toNat := Nat.mul_le_mul_right _ hL1
        _ = m0 * 2 ^ k0 * 2 ^ (J - 1074) := by rw [h, hV]
        _ < 2 ^ 53 * 2 ^ k0 * 2 ^ (J - 1074) := Nat.mul_lt_mul_of_pos_right (Nat.mul_lt_mul_of_pos_right up (Nat.two_pow_pos _)) (Nat.two_pow_pos _)
        _ = 2 ^ (53 + k0 + (J - 1074)) := by rw [Nat.pow_add, Nat.pow_add]
    have := (Nat.pow_lt_pow_iff_right (by omega : 1 < 2)).1 h1
    omega
  have hlo : 2 ^ 52 ≤ m0 → 52 + (k0 : Int) - 1074 ≤ L + place := by
    intro hm
    have h1 : 2 ^ (52 + k0 + (J - 1074)) < 2 ^ (L + 1 + (place + J).toNat) := by
      calc 2 ^ (52 + k0 + (J - 1074)) = 2 ^ 52 * 2 ^ k0 * 2 ^ (J - 1074) := by rw [Nat.pow_add, Nat.pow_add]
        _ ≤ m0 * 2 ^ k0 * 2 ^ (J - 1074) := Nat.mul_le_mul_right _ (Nat.mul_le_mul_right _ hm)
        _ = mag * 2 ^ (place + J).toNat := by rw [h, hV]
        _ < 2 ^ (L + 1) * 2 ^ (place + J).toNat := Nat.mul_lt_mul_of_pos_right (by omega) (Nat.two_pow_pos _)
        _ = 2 ^ (L + 1 + (place + J).toNat) := (Nat.pow_add _ _ _).symm
    have := (Nat.pow_lt_pow_iff_right (by omega : 1 < 2)).1 h1
    omega
  have hlast : max (place + (L : Int) - (52 : Nat)) (-1074) = k0 - 1074 := by
    rcases hm0 with ⟨rfl, h1, h2⟩ | ⟨h1, h2⟩
    · have : (L : Int) + place < 52 - 1074 := by
        have h1' : 2 ^ (L + (place + J).toNat) < 2 ^ (52 + (J - 1074)) := by
          calc 2 ^ (L + (place + J).toNat) = 2 ^ L * 2 ^ (place + J).toNat := Nat.pow_add _ _ _
            _ ≤ mag * 2 ^ (place + J).toNat := Nat.mul_le_mul_right _ hL1
            _ = m0 * 2 ^ 0 * 2 ^ (J - 1074) := by rw [h, hV]
            _ < 2 ^ 52 * 2 ^ (J - 1074) := by rw [Nat.pow_zero, Nat.mul_one]; exact Nat.mul_lt_mul_of_pos_right h1 (Nat.two_pow_pos _)
            _ = 2 ^ (52 + (J - 1074)) := by rw [Nat.pow_add]
        have := (Nat.pow_lt_pow_iff_right (by omega : 1 < 2)).1 h1'
        omega
      omega
    · have := hlo h1
      omega
  rw [hlast]
  -- the kept digits are just m0
  have hk : mag <<< (place - (k0 - 1074)).toNat = m0 * 2 ^ ((k0 : Int) - 1074 - place).toNat := by
    rw [shl]
    rw [hV, Nat.mul_assoc, ← Nat.pow_add] at h
    by_cases hp : place ≤ k0 - 1074
    · have e1 : (place - (k0 - 1074)).toNat = 0 := by omega
      rw [e1, Nat.pow_zero, Nat.mul_one]
      have e2 : k0 + (J - 1074) = ((k0 : Int) - 1074 - place).toNat + (place + J).toNat := by omega
      rw [e2, Nat.pow_add, ← Nat.mul_assoc] at h
      exact Nat.eq_of_mul_eq_mul_right (Nat.two_pow_pos _) h
    · have e1 : ((k0 : Int) - 1074 - place).toNat = 0 := by omega
      rw [e1, Nat.pow_zero, Nat.mul_one]
      have e2 : (place + J).toNat = (place - (k0 - 1074)).toNat + (k0 + (J - 1074)) := by omega
      rw [e2, Nat.pow_add, ← Nat.mul_assoc] at h
      exact Nat.eq_of_mul_eq_mul_right (Nat.two_pow_pos _) h
  have hc : Toward.even.cut neg (mag <<< (place - (k0 - 1074)).toNat) ((k0 : Int) - 1074 - place).toNat = m0 := by
    rw [hk]
    exact Nat.le_antisymm (cut_le (Nat.le_refl _)) (le_cut (Nat.le_refl _))
  rw [hc]
  have : ((k0 : Int) - 1074 - -1074).toNat = k0 := by omega
  rw [this, hw0]
  congr 1
  omega
/-- doubled -/
def dbl (x : Nat) : Nat := if x < 2 ^ 52 then 2 * x else x + 2 ^ 52
theorem V_dbl (x : Nat) : V (dbl x) = 2 * V x := by
  unfold dbl
  by_cases h : x < 2 ^ 52
  · rw [if_pos h]
    unfold V
    rw [if_pos h]
    by_cases h2 : 2 * x < 2 ^ 52
    · rw [if_pos h2]
    · rw [if_neg h2]
      have e1 : 2 * x / 2 ^ 52 - 1 = 0 := by omega
      rw [e1, Nat.pow_zero, Nat.mul_one]; omega
  · rw [if_neg h]
    unfold V
    rw [if_neg h, if_neg (by omega)]
    have e1 : (x + 2 ^ 52) % 2 ^ 52 = x % 2 ^ 52 := by omega
    have e2 : (x + 2 ^ 52) / 2 ^ 52 - 1 = (x / 2 ^ 52 - 1) + 1 := by omega
    have e3 : 2 ^ (x / 2 ^ 52 - 1 + 1) = 2 ^ (x / 2 ^ 52 - 1) * 2 := Nat.pow_succ _ _
    rw [e1, e2, e3]
    generalize 2 ^ (x / 2 ^ 52 - 1) = p
    rw [← Nat.mul_assoc, Nat.mul_comm]
def dblN : Nat → Nat → Nat
  | 0, x => x
  | n + 1, x => dbl (dblN n x)
theorem V_dblN (n x : Nat) : V (dblN n x) = 2 ^ n * V x := by
  induction n with
  | zero => simp [dblN]
  | succ n ih => rw [dblN, V_dbl, ih, ← Nat.mul_assoc, Nat.mul_comm 2, ← Nat.pow_succ]
theorem dblN_dbl (n x : Nat) : dblN n (dbl x) = dbl (dblN n x) := by
  induction n with
  | zero => rfl
  | succ n ih => rw [dblN, ih]; rfl
theorem read_pos {x : Nat} (hx : x < 2047 * 2 ^ 52) : ∃ (m k : Nat), double.read x = .number false m ((k : Int) - 1074) ∧ m * 2 ^ k = V x ∧ m < 2 ^ 53 := by
  obtain ⟨m, k, h1, h2, hm⟩ := read_V (x := x) (by rw [fin_iff]; simp; omega)
  have h3 : (x / 2 ^ 63 % 2 == 1) = false := by simp; omega
  have h4 : x % 2 ^ 63 = x := by omega
  rw [h3] at h1; rw [h4] at h2
  exact ⟨m, k, h1, h2, hm⟩
theorem word_pos (w : Nat) : double.word false w = w := rfl
theorem mul_two {x : Nat} (h0 : x ≠ 0) (hx : x < 2046 * 2 ^ 52) : double.mul x 4611686018427387904 = some (dbl x) := by
  obtain ⟨m, k, h1, h2, _⟩ := read_pos (x := x) (by omega)
  have ht : double.read 4611686018427387904 = .number false (2 ^ 52) (-51) := by decide +kernel
  unfold Format.mul
  rw [h1, ht]
  simp only [Datum.product, Option.map_some, Format.write, Bool.xor_self]
  rw [nearest_exact false (m * 2 ^ 52) _ (dbl x) 1200 (by unfold dbl; split <;> omega) (by unfold dbl; split <;> omega) (by omega) (by omega), word_pos]
  have e : ((k : Int) - 1074 + -51 + (1200 : Nat)).toNat = k + 75 := by omega
  rw [e, V_dbl, ← h2, show 1200 - 1074 = 126 from rfl, Nat.pow_add]
  generalize 2 ^ k = p
  have e2 : (2 : Nat) ^ 52 * 2 ^ 75 = 2 * 2 ^ 126 := by decide
  calc m * 2 ^ 52 * (p * 2 ^ 75) = (m * p) * (2 ^ 52 * 2 ^ 75) := by simp only [Nat.mul_assoc, Nat.mul_left_comm]
    _ = 2 * (m * p) * 2 ^ 126 := by rw [e2]; simp only [Nat.mul_assoc, Nat.mul_left_comm]
theorem mul_scale {x : Nat} (h0 : x ≠ 0) (hx : x < 2 ^ 52) : double.mul x 4841369599423283200 = some (dblN 52 x) := by
  obtain ⟨m, k, h1, h2, _⟩ := read_pos (x := x) (by omega)
  have ht : double.read 4841369599423283200 = .number false (2 ^ 52) 0 := by decide +kernel
  have hb : dblN 52 x < 60 * 2 ^ 52 ∧ dblN 52 x ≠ 0 := by
    have key : ∀ n, dblN n x ≤ 2 ^ 52 * (n + 1) ∧ dblN n x ≠ 0 := by
      intro n
      induction n with
      | zero => simp only [dblN]; omega
      | succ n ih => rw [dblN]; unfold dbl; split <;> omega
    have := key 52
    omega
  unfold Format.mul
  rw [h1, ht]
  simp only [Datum.product, Option.map_some, Format.write, Bool.xor_self]
  rw [nearest_exact false (m * 2 ^ 52) _ (dblN 52 x) 1074 (by omega) hb.2 (by omega) (by omega), word_pos]
  have e : ((k : Int) - 1074 + 0 + (1074 : Nat)).toNat = k := by omega
  rw [e, V_dblN, ← h2, show 1074 - 1074 = 0 from rfl, Nat.pow_zero, Nat.mul_one]
  generalize 2 ^ k = p
  simp only [Nat.mul_assoc, Nat.mul_left_comm]
theorem div_two {x : Nat} (hl : 2 * 2 ^ 52 ≤ x) (hx : x < 2047 * 2 ^ 52) : double.div x 4611686018427387904 = some (x - 2 ^ 52) := by
  obtain ⟨m, k, h1, h2, hm53⟩ := read_pos (x := x) hx
  have ht : double.read 4611686018427387904 = .number false (2 ^ 52) (-51) := by decide +kernel
  have hV : V x = 2 * V (x - 2 ^ 52) := by
    rw [← V_dbl]; unfold dbl; rw [if_neg (by omega)]; congr 1; omega
  have hlog : (2 ^ 52 : Nat).log2 = 52 := by decide +kernel
  unfold Format.div
  rw [h1, ht]
  have hne : (2 ^ 52 : Nat) ≠ 0 := by decide
  simp only [Datum.quotient, if_neg hne, Option.map_some, Format.write, Bool.xor_self, hlog]
  have hfb : double.fractionBits + 2 = 54 := rfl
  rw [hfb]
  have hm : m.log2 ≤ 54 := by
    by_cases h : m = 0
    · subst h; decide
    · have := (Nat.log2_lt h).2 hm53; omega
  obtain ⟨c, hc⟩ : ∃ c, 54 + 52 - m.log2 = 52 + c := ⟨54 - m.log2, by omega⟩
  rw [hc, shl, Nat.pow_add, ← Nat.mul_assoc, Nat.mul_comm m, Nat.mul_assoc, Nat.mul_div_cancel_left _ (by decide), Nat.mul_mod_right]
  simp only [bne_self_eq_false, Bool.toNat_false, Nat.add_zero]
  rw [nearest_exact false (2 * (m * 2 ^ c)) _ (x - 2 ^ 52) 1200 (by omega) (by omega) (by omega) (by omega), word_pos]
  have e : ((k : Int) - 1074 - -51 - ((52 + c : Nat) : Int) - 1 + (1200 : Nat)).toNat + c = k + 124 := by omega
  have e2 : 2 * (V (x - 2 ^ 52)) = m * 2 ^ k := by omega
  have h3 : 2 * (2 * (m * 2 ^ c) * 2 ^ ((k : Int) - 1074 - -51 - ((52 + c : Nat) : Int) - 1 + (1200 : Nat)).toNat) = 2 * (V (x - 2 ^ 52) * 2 ^ (1200 - 1074)) := by
    rw [← Nat.mul_assoc 2 (V _), e2]
    generalize ((k : Int) - 1074 - -51 - ((52 + c : Nat) : Int) - 1 + (1200 : Nat)).toNat = z at *
    have : m * 2 ^ k * 2 ^ (1200 - 1074) = m * 2 ^ (z + c) * 4 := by
      rw [e, Nat.mul_assoc, Nat.mul_assoc, ← Nat.pow_add, Nat.pow_add 2 k 124, show k + (1200 - 1074) = k + 124 + 2 by omega, Nat.pow_add, Nat.pow_add]
    rw [this, Nat.pow_add]
    generalize 2 ^ z = p; generalize 2 ^ c = q
    have : 2 * (2 * (m * q) * p) = m * (p * q) * 4 := by
      have : m * q * p = m * (p * q) := by rw [Nat.mul_assoc, Nat.mul_comm q]
      rw [Nat.mul_assoc 2, this]; omega
    exact this
  omega
end Fs
