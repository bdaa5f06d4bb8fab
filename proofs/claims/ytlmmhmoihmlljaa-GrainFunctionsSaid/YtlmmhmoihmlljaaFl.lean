/-
  Plain facts on float64 words: when an operation answers with a number and how great it can be (no program in sight).
-/
import Ieee.Arith
import Derived.Laws.FloatArith
namespace Fl
open Ieee

def isNaN (b : Nat) : Bool := (double.read b).isNaN
def Sim (a b : Nat) : Prop := a = b ∨ (isNaN a = true ∧ isNaN b = true)
def qnan : Nat := 0x7ff8000000000001
theorem qnan_isNaN : isNaN qnan = true := by decide +kernel
def add (x y : Nat) : Nat := (double.add x y).getD qnan
def sub (x y : Nat) : Nat := (double.sub x y).getD qnan
def mul (x y : Nat) : Nat := (double.mul x y).getD qnan
def div (x y : Nat) : Nat := (double.div x y).getD qnan
def sqrt (x : Nat) : Nat := (double.sqrt x).getD qnan
def neg (x : Nat) : Nat := Go.Op.negFloat .f64 x
/-- what an operation with the exact answer 'o' may give -/
def Got (o : Option Nat) (r : Nat) : Prop := match o with | some v => r = v | none => isNaN r = true

theorem Sim.refl (a : Nat) : Sim a a := .inl rfl
theorem Sim.symm {a b : Nat} (h : Sim a b) : Sim b a := by
  rcases h with rfl | ⟨x, y⟩
  · exact .inl rfl
  · exact .inr ⟨y, x⟩
theorem Sim.trans {a b c : Nat} (h : Sim a b) (k : Sim b c) : Sim a c := by
  rcases h with rfl | ⟨x, y⟩
  · exact k
  · rcases k with rfl | ⟨u, v⟩
    · exact .inr ⟨x, y⟩
    · exact .inr ⟨x, v⟩
theorem Got.sim {o : Option Nat} {r : Nat} (h : Got o r) : Sim r (o.getD qnan) := by
  cases o with
  | some v => exact .inl h
  | none => exact .inr ⟨h, qnan_isNaN⟩

theorem nan_form {b : Nat} (h : isNaN b = true) : ∃ s f, double.read b = .nan s f := by
  unfold isNaN at h
  cases hd : double.read b <;> rw [hd] at h <;> simp [Datum.isNaN] at h
  exact ⟨_, _, rfl⟩
theorem add_nan_l {x : Nat} (y : Nat) (h : isNaN x = true) : double.add x y = none := by
  obtain ⟨s, f, h⟩ := nan_form h
  unfold Format.add; rw [h]; cases double.read y <;> rfl
theorem add_nan_r (x : Nat) {y : Nat} (h : isNaN y = true) : double.add x y = none := by
  obtain ⟨s, f, h⟩ := nan_form h
  unfold Format.add; rw [h]; cases double.read x <;> rfl
theorem sub_nan_l {x : Nat} (y : Nat) (h : isNaN x = true) : double.sub x y = none := by
  obtain ⟨s, f, h⟩ := nan_form h
  unfold Format.sub; rw [h]; cases double.read y <;> rfl
theorem sub_nan_r (x : Nat) {y : Nat} (h : isNaN y = true) : double.sub x y = none := by
  obtain ⟨s, f, h⟩ := nan_form h
  unfold Format.sub; rw [h]; cases double.read x <;> rfl
theorem mul_nan_l {x : Nat} (y : Nat) (h : isNaN x = true) : double.mul x y = none := by
  obtain ⟨s, f, h⟩ := nan_form h
  unfold Format.mul; rw [h]; cases double.read y <;> rfl
theorem mul_nan_r (x : Nat) {y : Nat} (h : isNaN y = true) : double.mul x y = none := by
  obtain ⟨s, f, h⟩ := nan_form h
  unfold Format.mul; rw [h]; cases double.read x <;> rfl
theorem div_nan_l {x : Nat} (y : Nat) (h : isNaN x = true) : double.div x y = none := by
  obtain ⟨s, f, h⟩ := nan_form h
  unfold Format.div; rw [h]; cases double.read y <;> rfl
theorem div_nan_r (x : Nat) {y : Nat} (h : isNaN y = true) : double.div x y = none := by
  obtain ⟨s, f, h⟩ := nan_form h
  unfold Format.div; rw [h]; cases double.read x <;> rfl
theorem sqrt_nan {x : Nat} (h : isNaN x = true) : double.sqrt x = none := by
  obtain ⟨s, f, h⟩ := nan_form h
  unfold Format.sqrt; rw [h]; rfl
theorem order_nan_l {x : Nat} (y : Nat) (h : isNaN x = true) : double.order x y = none := by
  obtain ⟨s, f, h⟩ := nan_form h
  unfold Format.order; rw [h]; cases double.read y <;> rfl
theorem order_nan_r (x : Nat) {y : Nat} (h : isNaN y = true) : double.order x y = none := by
  obtain ⟨s, f, h⟩ := nan_form h
  unfold Format.order; rw [h]; cases double.read x <;> rfl

section
variable {x x' y y' r : Nat}
theorem got_of (op : Nat → Nat → Option Nat) (hl : ∀ {x : Nat} (y : Nat), isNaN x = true → op x y = none) (hr : ∀ (x : Nat) {y : Nat}, isNaN y = true → op x y = none)
    (hx : Sim x x') (hy : Sim y y') (h : Got (op x y) r) : Sim r ((op x' y').getD qnan) := by
  rcases hx with rfl | ⟨a, b⟩
  · rcases hy with rfl | ⟨c, d⟩
    · exact h.sim
    · rw [hr _ c] at h; rw [hr _ d]; exact .inr ⟨h, qnan_isNaN⟩
  · rw [hl _ a] at h; rw [hl _ b]; exact .inr ⟨h, qnan_isNaN⟩
theorem got_add (hx : Sim x x') (hy : Sim y y') (h : Got (double.add x y) r) : Sim r (add x' y') := got_of _ add_nan_l add_nan_r hx hy h
theorem got_sub (hx : Sim x x') (hy : Sim y y') (h : Got (double.sub x y) r) : Sim r (sub x' y') := got_of _ sub_nan_l sub_nan_r hx hy h
theorem got_mul (hx : Sim x x') (hy : Sim y y') (h : Got (double.mul x y) r) : Sim r (mul x' y') := got_of _ mul_nan_l mul_nan_r hx hy h
theorem got_div (hx : Sim x x') (hy : Sim y y') (h : Got (double.div x y) r) : Sim r (div x' y') := got_of _ div_nan_l div_nan_r hx hy h
theorem got_sqrt (hx : Sim x x') (h : Got (double.sqrt x) r) : Sim r (sqrt x') := by
  rcases hx with rfl | ⟨a, b⟩
  · exact h.sim
  · rw [sqrt_nan a] at h; unfold sqrt; rw [sqrt_nan b]; exact .inr ⟨h, qnan_isNaN⟩
theorem sim_order (hx : Sim x x') (hy : Sim y y') : double.order x y = double.order x' y' := by
  rcases hx with rfl | ⟨a, b⟩
  · rcases hy with rfl | ⟨c, d⟩
    · rfl
    · rw [order_nan_r _ c, order_nan_r _ d]
  · rw [order_nan_l _ a, order_nan_l _ b]
end

/-! bounds: |x| ≤ 2 ^ k -/
theorem shl (a b : Nat) : a <<< b = a * 2 ^ b := Nat.shiftLeft_eq a b
theorem gap_low {n d : Nat} (h : n.log2 + 2 ≤ d) : 2 * n < 1 <<< min d (n.log2 + 2) := by
  rw [Nat.min_eq_right h, shl, Nat.one_mul]
  have := Nat.lt_log2_self (n := n)
  have h2 : 2 ^ (n.log2 + 2) = 2 * 2 ^ (n.log2 + 1) := by rw [Nat.pow_succ]; omega
  omega
theorem cut_le {neg : Bool} {n d c : Nat} (h : n ≤ c * 2 ^ d) : Toward.even.cut neg n d ≤ c := by
  unfold Toward.cut
  by_cases hd : n.log2 + 2 ≤ d
  · have hg := gap_low hd
    generalize 1 <<< min d (n.log2 + 2) = g at hg
    have h0 : n / g = 0 := Nat.div_eq_of_lt (by omega)
    have h1 : n % g = n := Nat.mod_eq_of_lt (by omega)
    simp only [h0, h1]
    have : (decide (g < 2 * n) || (g == 2 * n && 0 % 2 == 1)) = false := by simp; omega
    rw [this]; simp
  · rw [Nat.min_eq_left (by omega), shl, Nat.one_mul]
    have hp : 0 < 2 ^ d := Nat.two_pow_pos d
    generalize 2 ^ d = g at *
    simp only
    by_cases he : n / g = c
    · have hn : n = c * g := by
        have := Nat.div_add_mod n g
        rw [he, Nat.mul_comm] at this; omega
      have hr : n % g = 0 := by rw [hn]; simp
      rw [hr, he]
      have : (decide (g < 2 * 0) || (g == 2 * 0 && c % 2 == 1)) = false := by simp; omega
      rw [this]; simp
    · have hlt : n / g ≤ c := Nat.div_le_of_le_mul (by rw [Nat.mul_comm]; exact h)
      have : ∀ b : Bool, b.toNat ≤ 1 := by intro b; cases b <;> simp
      have := this (decide (g < 2 * (n % g)) || (g == 2 * (n % g) && n / g % 2 == 1))
      omega
theorem le_cut {neg : Bool} {n d c : Nat} (h : c * 2 ^ d ≤ n) : c ≤ Toward.even.cut neg n d := by
  unfold Toward.cut
  rcases Nat.eq_zero_or_pos c with rfl | hc
  · exact Nat.zero_le _
  by_cases hd : n.log2 + 2 ≤ d
  · exfalso
    have h1 := Nat.lt_log2_self (n := n)
    have h2 : 2 ^ (n.log2 + 1) ≤ 2 ^ d := Nat.pow_le_pow_right (by omega) (by omega)
    have h3 : 2 ^ d ≤ c * 2 ^ d := Nat.le_mul_of_pos_left _ hc
    omega
  · rw [Nat.min_eq_left (by omega), shl, Nat.one_mul]
    have hp : 0 < 2 ^ d := Nat.two_pow_pos d
    have := (Nat.le_div_iff_mul_le hp).2 h
    simp only
    omega

def Bd (k : Nat) (x : Nat) : Prop := ∃ s m, ∃ e : Nat, double.read x = .number s m ((e : Int) - 1074) ∧ m * 2 ^ e ≤ 2 ^ (k + 1074)

theorem read_bd (neg : Bool) (rung k : Nat) (hk : k ≤ 1000) (h : rung ≤ (k + 1023) * 2 ^ 52) : Bd k (double.word neg rung) := by
  have hinf : double.infRung = 2047 * 2 ^ 52 := by decide +kernel
  have hsw : double.signWeight = 2 ^ 63 := by decide +kernel
  have hbin : double.binade = 2 ^ 52 := by decide +kernel
  have hlt : rung < 2 ^ 63 := by omega
  have hr : double.word neg rung % 2 ^ 63 = rung := by
    unfold Format.word; rw [hsw]; split <;> omega
  have hs : (double.word neg rung / 2 ^ 63 % 2 == 1) = neg := by
    unfold Format.word; rw [hsw]; cases neg
    · simp; omega
    · simp; omega
  unfold Bd Format.read
  simp only [hsw, hbin, hinf, hr, hs]
  have hlp : double.leastPlace = -1074 := by decide +kernel
  by_cases h1 : rung < 2 ^ 52
  · rw [if_pos h1]
    refine ⟨neg, rung, 0, by rw [hlp]; rfl, ?_⟩
    have : 2 ^ 52 ≤ 2 ^ (k + 1074) := Nat.pow_le_pow_right (by omega) (by omega)
    simp only [Nat.pow_zero, Nat.mul_one]; omega
  · rw [if_neg h1, if_pos (by omega)]
    have hq : 1 ≤ rung / 2 ^ 52 := by omega
    refine ⟨neg, _, rung / 2 ^ 52 - 1, by rw [hlp]; congr 1 <;> omega, ?_⟩
    by_cases hlast : rung / 2 ^ 52 ≤ k + 1022
    · have h53 : 2 ^ 52 + rung % 2 ^ 52 ≤ 2 ^ 53 := by omega
      have hpow : 2 ^ (rung / 2 ^ 52 - 1) ≤ 2 ^ (k + 1021) := Nat.pow_le_pow_right (by omega) (by omega)
      calc (2 ^ 52 + rung % 2 ^ 52) * 2 ^ (rung / 2 ^ 52 - 1) ≤ 2 ^ 53 * 2 ^ (k + 1021) := Nat.mul_le_mul h53 hpow
        _ = 2 ^ (k + 1074) := by rw [← Nat.pow_add, show 53 + (k + 1021) = k + 1074 by omega]
    · have hq2 : rung / 2 ^ 52 = k + 1023 := by omega
      have hm : rung % 2 ^ 52 = 0 := by omega
      rw [hq2, hm, Nat.add_zero, ← Nat.pow_add]
      exact Nat.pow_le_pow_right (by omega) (by omega)

theorem nearest_bd (neg : Bool) (mag : Nat) (place : Int) (k J : Nat) (hk : k ≤ 1000) (hJ : 0 ≤ place + J) (h : mag * 2 ^ (place + J).toNat ≤ 2 ^ (k + J)) : Bd k (double.nearest neg mag place) := by
  have hinf : double.infRung = 2047 * 2 ^ 52 := by decide +kernel
  have hbin : double.binade = 2 ^ 52 := by decide +kernel
  have hlp : double.leastPlace = -1074 := by decide +kernel
  have hfb : double.fractionBits = 52 := rfl
  unfold Format.nearest
  by_cases h0 : mag = 0
  · rw [if_pos h0]; exact read_bd neg 0 k hk (by omega)
  · rw [if_neg h0]
    simp only [hlp, hfb, hbin, hinf]
    have hL1 := Nat.log2_self_le h0
    have hL2 := Nat.lt_log2_self (n := mag)
    generalize mag.log2 = L at hL1 hL2
    -- L + place ≤ k
    have hLk : (L : Int) + place ≤ k := by
      have h1 : 2 ^ (L + (place + J).toNat) ≤ 2 ^ (k + J) := by
        rw [Nat.pow_add]; exact Nat.le_trans (Nat.mul_le_mul_right _ hL1) h
      have := (Nat.pow_le_pow_iff_right (by omega : 1 < 2)).1 h1
      omega
    refine read_bd _ _ _ hk (Nat.le_trans (Nat.min_le_left _ _) ?_)
    by_cases hlast : place + L - 52 ≤ -1074
    · have hl : max (place + (L : Int) - (52 : Nat)) (-1074) = -1074 := by omega
      rw [hl]
      have hc : Toward.even.cut neg (mag <<< (place - (-1074)).toNat) ((-1074) - place).toNat ≤ 2 ^ 53 := by
        apply cut_le
        rw [shl]
        have : L + 1 + (place - (-1074)).toNat ≤ 53 + ((-1074) - place).toNat := by omega
        calc mag * 2 ^ (place - (-1074)).toNat ≤ 2 ^ (L + 1) * 2 ^ (place - (-1074)).toNat := Nat.mul_le_mul_right _ (by omega)
          _ = 2 ^ (L + 1 + (place - (-1074)).toNat) := by rw [← Nat.pow_add]
          _ ≤ 2 ^ (53 + ((-1074) - place).toNat) := Nat.pow_le_pow_right (by omega) this
          _ = 2 ^ 53 * 2 ^ ((-1074) - place).toNat := by rw [Nat.pow_add]
      simp only [Int.sub_self, Int.toNat_zero, Nat.zero_mul, Nat.zero_add]
      refine Nat.le_trans hc ?_
      clear hc
      generalize 2 ^ (k + J) = z at *
      have : 2 ^ 53 = 2 * 2 ^ 52 := by decide +kernel
      rw [this]
      exact Nat.mul_le_mul_right _ (by omega)
    · have hl : max (place + (L : Int) - (52 : Nat)) (-1074) = place + L - 52 := by omega
      rw [hl]
      by_cases hlt : (L : Int) + place ≤ k - 1
      · have hc : Toward.even.cut neg (mag <<< (place - (place + L - 52)).toNat) (place + L - 52 - place).toNat ≤ 2 ^ 53 := by
          apply cut_le
          rw [shl]
          have : L + 1 + (place - (place + L - 52)).toNat = 53 + (place + L - 52 - place).toNat := by omega
          calc mag * 2 ^ (place - (place + L - 52)).toNat ≤ 2 ^ (L + 1) * 2 ^ (place - (place + L - 52)).toNat := Nat.mul_le_mul_right _ (by omega)
            _ = 2 ^ (53 + (place + L - 52 - place).toNat) := by rw [← Nat.pow_add, this]
            _ = 2 ^ 53 * 2 ^ (place + L - 52 - place).toNat := by rw [Nat.pow_add]
        omega
      · have hm : mag ≤ 2 ^ L := by
          have hkL : (k : Int) = L + place := by omega
          have he : k + J = L + (place + J).toNat := by omega
          rw [he, Nat.pow_add] at h
          exact Nat.le_of_mul_le_mul_right h (Nat.two_pow_pos _)
        have hc : Toward.even.cut neg (mag <<< (place - (place + L - 52)).toNat) (place + L - 52 - place).toNat ≤ 2 ^ 52 := by
          apply cut_le
          rw [shl]
          have : L + (place - (place + L - 52)).toNat = 52 + (place + L - 52 - place).toNat := by omega
          calc mag * 2 ^ (place - (place + L - 52)).toNat ≤ 2 ^ L * 2 ^ (place - (place + L - 52)).toNat := Nat.mul_le_mul_right _ hm
            _ = 2 ^ (52 + (place + L - 52 - place).toNat) := by rw [← Nat.pow_add, this]
            _ = 2 ^ 52 * 2 ^ (place + L - 52 - place).toNat := by rw [Nat.pow_add]
        omega

theorem Bd.mono {k l x : Nat} (h : Bd k x) (hl : k ≤ l) : Bd l x := by
  obtain ⟨s, m, e, hr, hm⟩ := h
  exact ⟨s, m, e, hr, Nat.le_trans hm (Nat.pow_le_pow_right (by omega) (by omega))⟩
theorem mul_bd {a b x y : Nat} (hx : Bd a x) (hy : Bd b y) (hk : a + b ≤ 1000) : double.mul x y = some (mul x y) ∧ Bd (a + b) (mul x y) := by
  obtain ⟨s, m, e, hr, hm⟩ := hx
  obtain ⟨s', m', e', hr', hm'⟩ := hy
  have h : double.mul x y = some (double.nearest (s ^^ s') (m * m') ((e : Int) - 1074 + ((e' : Int) - 1074))) := by
    unfold Format.mul; rw [hr, hr']; rfl
  have h2 : mul x y = double.nearest (s ^^ s') (m * m') ((e : Int) - 1074 + ((e' : Int) - 1074)) := by unfold mul; rw [h]; rfl
  refine ⟨h.trans (by rw [h2]), ?_⟩
  rw [h2]
  refine nearest_bd _ _ _ _ 2148 hk (by omega) ?_
  have : ((e : Int) - 1074 + ((e' : Int) - 1074) + (2148 : Nat)).toNat = e + e' := by omega
  rw [this]
  calc m * m' * 2 ^ (e + e') = (m * 2 ^ e) * (m' * 2 ^ e') := by rw [Nat.pow_add]; simp only [Nat.mul_assoc, Nat.mul_left_comm]
    _ ≤ 2 ^ (a + 1074) * 2 ^ (b + 1074) := Nat.mul_le_mul hm hm'
    _ = 2 ^ (a + b + 2148) := by rw [← Nat.pow_add, show a + 1074 + (b + 1074) = a + b + 2148 by omega]
theorem sum_bd {k : Nat} {s s' : Bool} {m m' e e' : Nat} (hm : m * 2 ^ e ≤ 2 ^ (k + 1074)) (hm' : m' * 2 ^ e' ≤ 2 ^ (k + 1074)) (hk : k + 1 ≤ 1000) :
    ∃ d, Datum.sum (.number s m ((e : Int) - 1074)) (.number s' m' ((e' : Int) - 1074)) = some d ∧ Bd (k + 1) (double.write d) := by
  refine ⟨_, rfl, ?_⟩
  simp only [Format.write]
  refine nearest_bd _ _ _ _ 1074 hk (by omega) ?_
  have key : ∀ (b : Nat) (i : Nat) (s : Bool) (m : Nat), b ≤ i → (signed s m (i - b)).natAbs * 2 ^ b = m * 2 ^ i := by
    intro b i s m hb
    have : (signed s m (i - b)).natAbs = m * 2 ^ (i - b) := by
      unfold signed; rw [shl]
      cases s <;> simp only [Bool.false_eq_true, if_false, if_true, Int.natAbs_neg, Int.natAbs_natCast]
    rw [this, Nat.mul_assoc, ← Nat.pow_add, show i - b + b = i by omega]
  generalize hb : min e e' = b
  have hbe : b ≤ e := by omega
  have hbe' : b ≤ e' := by omega
  have h1 : (min ((e : Int) - 1074) ((e' : Int) - 1074) + (1074 : Nat)).toNat = b := by omega
  have h2 : ((e : Int) - 1074 - min ((e : Int) - 1074) ((e' : Int) - 1074)).toNat = e - b := by omega
  have h3 : ((e' : Int) - 1074 - min ((e : Int) - 1074) ((e' : Int) - 1074)).toNat = e' - b := by omega
  rw [h1, h2, h3]
  have k1 := key b e s m hbe
  have k2 := key b e' s' m' hbe'
  have tri := Int.natAbs_add_le (signed s m (e - b)) (signed s' m' (e' - b))
  calc _ ≤ ((signed s m (e - b)).natAbs + (signed s' m' (e' - b)).natAbs) * 2 ^ b := Nat.mul_le_mul_right _ tri
    _ = m * 2 ^ e + m' * 2 ^ e' := by rw [Nat.add_mul, k1, k2]
    _ ≤ 2 ^ (k + 1074) + 2 ^ (k + 1074) := Nat.add_le_add hm hm'
    _ = 2 ^ (k + 1 + 1074) := by rw [show k + 1 + 1074 = Nat.succ (k + 1074) by omega]; exact (Nat.two_pow_succ _).symm
theorem add_bd {k x y : Nat} (hx : Bd k x) (hy : Bd k y) (hk : k + 1 ≤ 1000) : double.add x y = some (add x y) ∧ Bd (k + 1) (add x y) := by
  obtain ⟨s, m, e, hr, hm⟩ := hx
  obtain ⟨s', m', e', hr', hm'⟩ := hy
  obtain ⟨d, hd, hb⟩ := sum_bd (s := s) (s' := s') hm hm' hk
  have h : double.add x y = some (double.write d) := by unfold Format.add; rw [hr, hr', hd]; rfl
  have h2 : add x y = double.write d := by unfold add; rw [h]; rfl
  exact ⟨h.trans (by rw [h2]), h2 ▸ hb⟩
theorem sub_bd {k x y : Nat} (hx : Bd k x) (hy : Bd k y) (hk : k + 1 ≤ 1000) : double.sub x y = some (sub x y) ∧ Bd (k + 1) (sub x y) := by
  obtain ⟨s, m, e, hr, hm⟩ := hx
  obtain ⟨s', m', e', hr', hm'⟩ := hy
  obtain ⟨d, hd, hb⟩ := sum_bd (s := s) (s' := !s') hm hm' hk
  have h : double.sub x y = some (double.write d) := by unfold Format.sub; rw [hr, hr']; simp only [Datum.opposite]; rw [hd]; rfl
  have h2 : sub x y = double.write d := by unfold sub; rw [h]; rfl
  exact ⟨h.trans (by rw [h2]), h2 ▸ hb⟩
theorem ofInt_bd {k : Nat} {n : Int} (h : n.natAbs ≤ 2 ^ k) (hk : k ≤ 1000) : Bd k (Go.FloatKind.nearest .f64 n) := by
  refine nearest_bd _ _ _ _ 0 hk (by omega) ?_
  simpa using h
end Fl
