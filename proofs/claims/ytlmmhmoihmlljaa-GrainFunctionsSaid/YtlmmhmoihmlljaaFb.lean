/-
  The bisection that finds the angle of a point, as a plain function, and that signs of zero do not matter to it.
-/
import Derived.Test.YtlmmhmoihmlljaaFs
/-! the angle of a point: the bisection -/
namespace Fs
open Fl Go Ieee
def leq (a b : Nat) : Bool := FloatKind.f64.format.order a b == some .lt || FloatKind.f64.format.order a b == some .eq
def test (u w : Nat) (m : Int) : Bool := leq (mul (sin m) u) (mul (cos m) w)
def bis (u w : Nat) : Nat → Int → Int → Int
  | 0, lo, _ => lo
  | f + 1, lo, hi => if hi - lo > 1 then (if test u w ((lo + hi) / 2) then bis u w f ((lo + hi) / 2) hi else bis u w f lo ((lo + hi) / 2)) else lo
def bisect (u w : Nat) : Int := bis u w 37 0 90000000001
theorem bis_done (u w f : Nat) (lo hi : Int) (h : hi - lo ≤ 1) : bis u w f lo hi = lo := by
  cases f with
  | zero => rfl
  | succ f => unfold bis; rw [if_neg (by omega)]
theorem bis_range (u w : Nat) : ∀ (f : Nat) (lo hi : Int), lo < hi → lo ≤ bis u w f lo hi ∧ bis u w f lo hi < hi
  | 0, lo, hi, h => ⟨Int.le_refl _, h⟩
  | f + 1, lo, hi, h => by
    unfold bis
    split
    · split
      · have := bis_range u w f ((lo + hi) / 2) hi (by omega); omega
      · have := bis_range u w f lo ((lo + hi) / 2) (by omega); omega
    · omega
theorem bisect_range (u w : Nat) : 0 ≤ bisect u w ∧ bisect u w ≤ 90000000000 := by
  have := bis_range u w 37 0 90000000001 (by omega)
  unfold bisect; omega
/-- what an angle comes to: by the signs of x and y -/
def angle (sx sy : Ordering) (R : Int) : Int :=
  if sx = .lt then (if sy = .lt then 180000000000 + R else 180000000000 - R) else if sy = .lt then (360000000000 - R) % 360000000000 else R
theorem fin_form {x : Nat} (h : fin x = true) : ∃ s m e, double.read x = .number s m e := by
  unfold fin at h
  split at h
  · exact ⟨_, _, _, by assumption⟩
  · cases h
theorem bd_fin {k x : Nat} (h : Bd k x) : fin x = true := by
  obtain ⟨s, m, e, hr, _⟩ := h
  unfold Fl.fin; rw [hr]
theorem mul_fin {x y : Nat} (hx : fin x = true) (hy : fin y = true) : double.mul x y = some (mul x y) := by
  obtain ⟨s, m, e, h1⟩ := fin_form hx
  obtain ⟨s', m', e', h2⟩ := fin_form hy
  unfold mul Format.mul; rw [h1, h2]; rfl
theorem fin_not_nan {x : Nat} (h : fin x = true) : isNaN x = false := by
  obtain ⟨s, m, e, h1⟩ := fin_form h
  unfold isNaN; rw [h1]; rfl
/-- a finite number has a sign -/
theorem order_zero {x : Nat} (h : fin x = true) : ∃ s, FloatKind.f64.format.order x 0 = some s := by
  obtain ⟨s, m, e, h1⟩ := fin_form h
  have h0 : double.read 0 = .number false 0 (-1074) := by decide +kernel
  exact ⟨compare (signed s m (e - min e (-1074)).toNat) (signed false 0 (-1074 - min e (-1074)).toNat), by
    show (double.read x).order (double.read 0) = _
    rw [h1, h0]; rfl⟩
theorem read_parts (x : Nat) : double.read x = (let neg := x / 2 ^ 63 % 2 == 1; let rung := x % 2 ^ 63
    if rung < 2 ^ 52 then .number neg rung (-1074) else if rung < 2047 * 2 ^ 52 then .number neg (2 ^ 52 + rung % 2 ^ 52) (-1074 + (rung / 2 ^ 52 - 1 : Nat)) else if rung = 2047 * 2 ^ 52 then .infinity neg else .nan neg (rung - 2047 * 2 ^ 52)) := by
  have hinf : double.infRung = 2047 * 2 ^ 52 := by decide +kernel
  have hsw : double.signWeight = 2 ^ 63 := by decide +kernel
  have hbin : double.binade = 2 ^ 52 := by decide +kernel
  have hlp : double.leastPlace = -1074 := by decide +kernel
  unfold Format.read
  rw [hinf, hsw, hbin, hlp]
theorem neg_eq {x : Nat} (h : x < 2 ^ 64) : neg x = if x < 2 ^ 63 then x + 2 ^ 63 else x - 2 ^ 63 := by
  unfold neg Op.negFloat
  show x ^^^ 2 ^ 63 = _
  have h2 : ∀ r, r < 2 ^ 63 → r ^^^ 2 ^ 63 = r + 2 ^ 63 := by
    intro r hr
    have h3 := Nat.two_pow_add_eq_or_of_lt hr 1
    rw [Nat.mul_one] at h3
    rw [Nat.add_comm, h3]
    apply Nat.eq_of_testBit_eq; intro i
    rw [Nat.testBit_xor, Nat.testBit_or, Nat.testBit_two_pow]
    by_cases hi : 63 = i
    · subst hi; rw [Nat.testBit_lt_two_pow hr]; rfl
    · simp [hi]
  split
  · exact h2 x (by omega)
  · obtain ⟨r, rfl⟩ : ∃ r, x = r + 2 ^ 63 := ⟨x - 2 ^ 63, by omega⟩
    have h3 : (r + 2 ^ 63) ^^^ 2 ^ 63 = r := by rw [← h2 r (by omega), Nat.xor_assoc, Nat.xor_self, Nat.xor_zero]
    rw [h3]; omega
theorem fin_iff (x : Nat) : fin x = decide (x % 2 ^ 63 < 2047 * 2 ^ 52) := by
  unfold fin; rw [read_parts]; simp only
  by_cases h1 : x % 2 ^ 63 < 2 ^ 52
  · rw [if_pos h1]; simp; omega
  · rw [if_neg h1]
    by_cases h2 : x % 2 ^ 63 < 2047 * 2 ^ 52
    · rw [if_pos h2]; simp; omega
    · rw [if_neg h2]
      by_cases h3 : x % 2 ^ 63 = 2047 * 2 ^ 52
      · rw [if_pos h3]; simp; omega
      · rw [if_neg h3]; simp; omega
theorem fin_neg {x : Nat} (h : x < 2 ^ 64) : fin (neg x) = fin x := by
  rw [fin_iff, fin_iff, neg_eq h]
  have : (if x < 2 ^ 63 then x + 2 ^ 63 else x - 2 ^ 63) % 2 ^ 63 = x % 2 ^ 63 := by split <;> omega
  rw [this]
theorem write_lt64 (d : Datum) : double.write d < 2 ^ 64 := double.write_lt d
theorem mul_lt64 {x y : Nat} : mul x y < 2 ^ 64 := by
  unfold mul
  cases h : double.mul x y with
  | some v => exact double.mul_lt h
  | none => decide
theorem add_lt64 {x y : Nat} : add x y < 2 ^ 64 := by
  unfold add
  cases h : double.add x y with
  | some v => exact double.add_lt h
  | none => decide
theorem sin_fin (a : Int) : fin (sin a) = true := by
  have h1 : sinOf a < 2 ^ 64 := mul_lt64
  have h2 : cosOf a < 2 ^ 64 := add_lt64
  unfold sin
  split
  · exact bd_fin (sin_bd a)
  · split
    · exact bd_fin (cos_bd a)
    · split
      · rw [fin_neg h1]; exact bd_fin (sin_bd a)
      · rw [fin_neg h2]; exact bd_fin (cos_bd a)
theorem cos_fin (a : Int) : fin (cos a) = true := by
  have h1 : sinOf a < 2 ^ 64 := mul_lt64
  have h2 : cosOf a < 2 ^ 64 := add_lt64
  unfold cos
  split
  · exact bd_fin (cos_bd a)
  · split
    · rw [fin_neg h1]; exact bd_fin (sin_bd a)
    · split
      · rw [fin_neg h2]; exact bd_fin (cos_bd a)
      · exact bd_fin (sin_bd a)
/-- a zero of either sign is one to an order -/
def isZ (x : Nat) : Prop := ∃ s, double.read x = .number s 0 (-1074)
theorem order_z {x x' : Nat} (y : Nat) (h : isZ x) (h' : isZ x') : FloatKind.f64.format.order x y = FloatKind.f64.format.order x' y := by
  obtain ⟨s, h⟩ := h; obtain ⟨s', h'⟩ := h'
  show (double.read x).order (double.read y) = (double.read x').order (double.read y)
  rw [h, h']
  have hz : ∀ (s : Bool) k, signed s 0 k = 0 := by intro s k; unfold signed; cases s <;> simp
  cases double.read y <;> simp [Datum.order, hz]
theorem order_z' {x x' : Nat} (y : Nat) (h : isZ x) (h' : isZ x') : FloatKind.f64.format.order y x = FloatKind.f64.format.order y x' := by
  obtain ⟨s, h⟩ := h; obtain ⟨s', h'⟩ := h'
  show (double.read y).order (double.read x) = (double.read y).order (double.read x')
  rw [h, h']
  have hz : ∀ (s : Bool) k, signed s 0 k = 0 := by intro s k; unfold signed; cases s <;> simp
  cases double.read y <;> simp [Datum.order, hz]
theorem mul_z {x y : Nat} (hx : fin x = true) (hy : isZ y) : isZ (mul x y) := by
  obtain ⟨s, m, e, h1⟩ := fin_form hx
  obtain ⟨t, h2⟩ := hy
  have : mul x y = double.word (s ^^ t) 0 := by
    unfold mul Format.mul; rw [h1, h2]; simp [Datum.product, Format.write, Format.nearest]
  rw [this]
  have h3 := word_double (s ^^ t) (show 0 < 2 ^ 63 by omega)
  refine ⟨s ^^ t, ?_⟩
  rw [read_parts]; simp only [h3.1, h3.2]; simp
theorem z_iff (x : Nat) (h : x % 2 ^ 63 = 0) : isZ x := by
  refine ⟨x / 2 ^ 63 % 2 == 1, ?_⟩
  rw [read_parts]; simp only [h]; simp
/-- the sign of a finite number -/
theorem order_sign {x : Nat} (hx : x < 2 ^ 64) (h : fin x = true) : FloatKind.f64.format.order x 0 = some (if x % 2 ^ 63 = 0 then .eq else if x < 2 ^ 63 then .gt else .lt) := by
  have h0 : double.read 0 = .number false 0 (-1074) := by decide +kernel
  rw [fin_iff] at h
  have h := of_decide_eq_true h
  show (double.read x).order (double.read 0) = _
  have hs : (x / 2 ^ 63 % 2 == 1) = decide (¬ x < 2 ^ 63) := by rw [Bool.eq_iff_iff]; simp; omega
  have key : ∀ (m k : Nat), m ≠ 0 → compare (signed (decide (¬ x < 2 ^ 63)) m k) (signed false 0 0) = if x < 2 ^ 63 then .gt else .lt := by
    intro m k hm
    have hp : 0 < m <<< k := by rw [shl]; exact Nat.mul_pos (by omega) (Nat.two_pow_pos _)
    unfold signed
    generalize m <<< k = z at *
    have hz : ∀ b : Nat, (0 <<< b : Nat) = 0 := by intro b; simp
    by_cases hlt : x < 2 ^ 63
    · simp only [hlt, not_true_eq_false, decide_false, Bool.false_eq_true, if_false, if_true]
      rw [Int.compare_eq_gt, hz]; omega
    · simp only [hlt, not_false_eq_true, decide_true, if_true, if_false]
      rw [Int.compare_eq_lt, hz]; simp only [Bool.false_eq_true, if_false]; omega
  rw [read_parts, h0]; simp only [hs]
  by_cases hz : x % 2 ^ 63 = 0
  · rw [if_pos (by omega), if_pos hz, hz]
    simp [Datum.order, signed]
  · rw [if_neg hz]
    by_cases h1 : x % 2 ^ 63 < 2 ^ 52
    · rw [if_pos h1]
      simp only [Datum.order, Int.min_self, Int.sub_self, Int.toNat_zero]
      rw [key _ _ hz]
    · rw [if_neg h1, if_pos h]
      simp only [Datum.order]
      have : (-1074 - min (-1074 + ((x % 2 ^ 63 / 2 ^ 52 - 1 : Nat) : Int)) (-1074)).toNat = 0 := by omega
      rw [this, key _ _ (by omega)]
/-- both ways to the size of a number bisect alike -/
def size (x : Nat) (s : Ordering) : Nat := if s = .lt then neg x else x
theorem test_size {x : Nat} (hx : x < 2 ^ 64) (h : fin x = true) {s : Ordering} (hs : FloatKind.f64.format.order x 0 = some s) : size x s = x % 2 ^ 63 ∨ (isZ (size x s) ∧ isZ (x % 2 ^ 63)) := by
  rw [order_sign hx h] at hs
  injection hs with hs
  unfold size
  split at hs
  · rename_i hz
    subst hs
    exact .inr ⟨z_iff x hz, z_iff _ (by omega)⟩
  · split at hs
    · subst hs; left; simp; omega
    · subst hs; left; rw [if_pos rfl, neg_eq hx, if_neg (by omega)]; omega
theorem bis_congr {u w u' w' : Nat} (h : ∀ m, test u w m = test u' w' m) : ∀ f lo hi, bis u w f lo hi = bis u' w' f lo hi
  | 0, _, _ => rfl
  | f + 1, lo, hi => by
    unfold bis
    rw [h, bis_congr h f, bis_congr h f]
theorem bisect_size {x y : Nat} {sx sy : Ordering} (hx : x < 2 ^ 64) (hy : y < 2 ^ 64) (fx : fin x = true) (fy : fin y = true) (hsx : FloatKind.f64.format.order x 0 = some sx) (hsy : FloatKind.f64.format.order y 0 = some sy) :
    bisect (size x sx) (size y sy) = bisect (x % 2 ^ 63) (y % 2 ^ 63) := by
  refine bis_congr (fun m => ?_) _ _ _
  unfold test leq
  have e1 : ∀ z, FloatKind.f64.format.order (mul (sin m) (size x sx)) z = FloatKind.f64.format.order (mul (sin m) (x % 2 ^ 63)) z := by
    intro z
    rcases test_size hx fx hsx with h | ⟨h1, h2⟩
    · rw [h]
    · exact order_z z (mul_z (sin_fin m) h1) (mul_z (sin_fin m) h2)
  have e2 : ∀ z, FloatKind.f64.format.order z (mul (cos m) (size y sy)) = FloatKind.f64.format.order z (mul (cos m) (y % 2 ^ 63)) := by
    intro z
    rcases test_size hy fy hsy with h | ⟨h1, h2⟩
    · rw [h]
    · exact order_z' z (mul_z (cos_fin m) h1) (mul_z (cos_fin m) h2)
  rw [e1, e2]
end Fs
