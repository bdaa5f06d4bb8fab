/-
  Plain facts on float64 words: when an operation answers with a number and how great it can be (no program in sight).
-/
import Ieee.Arith
import Derived.Laws.FloatArith
import Derived.WalkKit
import Derived.WalkLawsBesides
import Derived.WalkSpells
import Derived.BigQuiet
import Derived.Deep.QuietTactic
import Derived.Lib.Hide
import Derived.Test.YtlmmhmoihmlljaaChecked
import Derived.Deep.RegionWith
import Derived.BigRegion
namespace Fl
open Ieee

def isNaN (b : Nat) : Bool := (double.read b).isNaN
def Sim (a b : Nat) : Prop := a = b ∨ (isNaN a = true ∧ isNaN b = true)
def qnan : Nat := 0x7ff8000000000001
theorem qnan_isNaN : isNaN qnan = true := by decide +kernel
def add (x y : Nat) : Nat := (double.add x y).getD qnan
def sub (x y : Nat) : Nat := (double.sub x y).getD qnan
def mul (x y : Nat) : Nat := (double.mul x y).getD qnan
def div (x y : Nat) : Nat := (double.div x y).getD qnan
def sqrt (x : Nat) : Nat := (double.sqrt x).getD qnan
def neg (x : Nat) : Nat := Go.Op.negFloat .f64 x
/-- what an operation with the exact answer 'o' may give -/
def Got (o : Option Nat) (r : Nat) : Prop := match o with | some v => r = v | none => isNaN r = true

theorem Sim.refl (a : Nat) : Sim a a := .inl rfl
theorem Sim.symm {a b : Nat} (h : Sim a b) : Sim b a := by
  rcases h with rfl | ⟨x, y⟩
  · exact .inl rfl
  · exact .inr ⟨y, x⟩
theorem Sim.trans {a b c : Nat} (h : Sim a b) (k : Sim b c) : Sim a c := by
  rcases h with rfl | ⟨x, y⟩
  · exact k
  · rcases k with rfl | ⟨u, v⟩
    · exact .inr ⟨x, y⟩
    · exact .inr ⟨x, v⟩
theorem Got.sim {o : Option Nat} {r : Nat} (h : Got o r) : Sim r (o.getD qnan) := by
  cases o with
  | some v => exact .inl h
  | none => exact .inr ⟨h, qnan_isNaN⟩

theorem nan_form {b : Nat} (h : isNaN b = true) : ∃ s f, double.read b = .nan s f := by
  unfold isNaN at h
  cases hd : double.read b <;> rw [hd] at h <;> simp [Datum.isNaN] at h
  exact ⟨_, _, rfl⟩
theorem add_nan_l {x : Nat} (y : Nat) (h : isNaN x = true) : double.add x y = none := by
  obtain ⟨s, f, h⟩ := nan_form h
  unfold Format.add; rw [h]; cases double.read y <;> rfl
theorem add_nan_r (x : Nat) {y : Nat} (h : isNaN y = true) : double.add x y = none := by
  obtain ⟨s, f, h⟩ := nan_form h
  unfold Format.add; rw [h]; cases double.read x <;> rfl
theorem sub_nan_l {x : Nat} (y : Nat) (h : isNaN x = true) : double.sub x y = none := by
  obtain ⟨s, f, h⟩ := nan_form h
  unfold Format.sub; rw [h]; cases double.read y <;> rfl
theorem sub_nan_r (x : Nat) {y : Nat} (h : isNaN y = true) : double.sub x y = none := by
  obtain ⟨s, f, h⟩ := nan_form h
  unfold Format.sub; rw [h]; cases double.read x <;> rfl
theorem mul_nan_l {x : Nat} (y : Nat) (h : isNaN x = true) : double.mul x y = none := by
  obtain ⟨s, f, h⟩ := nan_form h
  unfold Format.mul; rw [h]; cases double.read y <;> rfl
theorem mul_nan_r (x : Nat) {y : Nat} (h : isNaN y = true) : double.mul x y = none := by
  obtain ⟨s, f, h⟩ := nan_form h
  unfold Format.mul; rw [h]; cases double.read x <;> rfl
theorem div_nan_l {x : Nat} (y : Nat) (h : isNaN x = true) : double.div x y = none := by
  obtain ⟨s, f, h⟩ := nan_form h
  unfold Format.div; rw [h]; cases double.read y <;> rfl
theorem div_nan_r (x : Nat) {y : Nat} (h : isNaN y = true) : double.div x y = none := by
  obtain ⟨s, f, h⟩ := nan_form h
  unfold Format.div; rw [h]; cases double.read x <;> rfl
theorem sqrt_nan {x : Nat} (h : isNaN x = true) : double.sqrt x = none := by
  obtain ⟨s, f, h⟩ := nan_form h
  unfold Format.sqrt; rw [h]; rfl
theorem order_nan_l {x : Nat} (y : Nat) (h : isNaN x = true) : double.order x y = none := by
  obtain ⟨s, f, h⟩ := nan_form h
  unfold Format.order; rw [h]; cases double.read y <;> rfl
theorem order_nan_r (x : Nat) {y : Nat} (h : isNaN y = true) : double.order x y = none := by
  obtain ⟨s, f, h⟩ := nan_form h
  unfold Format.order; rw [h]; cases double.read x <;> rfl

section
variable {x x' y y' r : Nat}
theorem got_of (op : Nat → Nat → Option Nat) (hl : ∀ {x : Nat} (y : Nat), isNaN x = true → op x y = none) (hr : ∀ (x : Nat) {y : Nat}, isNaN y = true → op x y = none)
    (hx : Sim x x') (hy : Sim y y') (h : Got (op x y) r) : Sim r ((op x' y').getD qnan) := by
  rcases hx with rfl | ⟨a, b⟩
  · rcases hy with rfl | ⟨c, d⟩
    · exact h.sim
    · rw [hr _ c] at h; rw [hr _ d]; exact .inr ⟨h, qnan_isNaN⟩
  · rw [hl _ a] at h; rw [hl _ b]; exact .inr ⟨h, qnan_isNaN⟩
theorem got_add (hx : Sim x x') (hy : Sim y y') (h : Got (double.add x y) r) : Sim r (add x' y') := got_of _ add_nan_l add_nan_r hx hy h
theorem got_sub (hx : Sim x x') (hy : Sim y y') (h : Got (double.sub x y) r) : Sim r (sub x' y') := got_of _ sub_nan_l sub_nan_r hx hy h
theorem got_mul (hx : Sim x x') (hy : Sim y y') (h : Got (double.mul x y) r) : Sim r (mul x' y') := got_of _ mul_nan_l mul_nan_r hx hy h
theorem got_div (hx : Sim x x') (hy : Sim y y') (h : Got (double.div x y) r) : Sim r (div x' y') := got_of _ div_nan_l div_nan_r hx hy h
theorem got_sqrt (hx : Sim x x') (h : Got (double.sqrt x) r) : Sim r (sqrt x') := by
  rcases hx with rfl | ⟨a, b⟩
  · exact h.sim
  · rw [sqrt_nan a] at h; unfold sqrt; rw [sqrt_nan b]; exact .inr ⟨h, qnan_isNaN⟩
theorem sim_order (hx : Sim x x') (hy : Sim y y') : double.order x y = double.order x' y' := by
  rcases hx with rfl | ⟨a, b⟩
  · rcases hy with rfl | ⟨c, d⟩
    · rfl
    · rw [order_nan_r _ c, order_nan_r _ d]
  · rw [order_nan_l _ a, order_nan_l _ b]
end

/-! bounds: |x| ≤ 2 ^ k -/
theorem shl (a b : Nat) : a <<< b = a * 2 ^ b := Nat.shiftLeft_eq a b
theorem gap_low {n d : Nat} (h : n.log2 + 2 ≤ d) : 2 * n < 1 <<< min d (n.log2 + 2) := by
  rw [Nat.min_eq_right h, shl, Nat.one_mul]
  have := Nat.lt_log2_self (n := n)
  have h2 : 2 ^ (n.log2 + 2) = 2 * 2 ^ (n.log2 + 1) := by rw [Nat.pow_succ]; omega
  omega
theorem cut_le {neg : Bool} {n d c : Nat} (h : n ≤ c * 2 ^ d) : Toward.even.cut neg n d ≤ c := by
  unfold Toward.cut
  by_cases hd : n.log2 + 2 ≤ d
  · have hg := gap_low hd
    generalize 1 <<< min d (n.log2 + 2) = g at hg
    have h0 : n / g = 0 := Nat.div_eq_of_lt (by omega)
    have h1 : n % g = n := Nat.mod_eq_of_lt (by omega)
    simp only [h0, h1]
    have : (decide (g < 2 * n) || (g == 2 * n && 0 % 2 == 1)) = false := by simp; omega
    rw [this]; simp
  · rw [Nat.min_eq_left (by omega), shl, Nat.one_mul]
    have hp : 0 < 2 ^ d := Nat.two_pow_pos d
    generalize 2 ^ d = g at *
    simp only
    by_cases he : n / g = c
    · have hn : n = c * g := by
        have := Nat.div_add_mod n g
        rw [he, Nat.mul_comm] at this; omega
      have hr : n % g = 0 := by rw [hn]; simp
      rw [hr, he]
      have : (decide (g < 2 * 0) || (g == 2 * 0 && c % 2 == 1)) = false := by simp; omega
      rw [this]; simp
    · have hlt : n / g ≤ c := Nat.div_le_of_le_mul (by rw [Nat.mul_comm]; exact h)
      have : ∀ b : Bool, b.toNat ≤ 1 := by intro b; cases b <;> simp
      have := this (decide (g < 2 * (n % g)) || (g == 2 * (n % g) && n / g % 2 == 1))
      omega
theorem le_cut {neg : Bool} {n d c : Nat} (h : c * 2 ^ d ≤ n) : c ≤ Toward.even.cut neg n d := by
  unfold Toward.cut
  rcases Nat.eq_zero_or_pos c with rfl | hc
  · exact Nat.zero_le _
  by_cases hd : n.log2 + 2 ≤ d
  · exfalso
    have h1 := Nat.lt_log2_self (n := n)
    have h2 : 2 ^ (n.log2 + 1) ≤ 2 ^ d := Nat.pow_le_pow_right (by omega) (by omega)
    have h3 : 2 ^ d ≤ c * 2 ^ d := Nat.le_mul_of_pos_left _ hc
    omega
  · rw [Nat.min_eq_left (by omega), shl, Nat.one_mul]
    have hp : 0 < 2 ^ d := Nat.two_pow_pos d
    have := (Nat.le_div_iff_mul_le hp).2 h
    simp only
    omega

def Bd (k : Nat) (x : Nat) : Prop := ∃ s m, ∃ e : Nat, double.read x = .number s m ((e : Int) - 1074) ∧ m * 2 ^ e ≤ 2 ^ (k + 1074)

theorem read_bd (neg : Bool) (rung k : Nat) (hk : k ≤ 1000) (h : rung ≤ (k + 1023) * 2 ^ 52) : Bd k (double.word neg rung) := by
  have hinf : double.infRung = 2047 * 2 ^ 52 := by decide +kernel
  have hsw : double.signWeight = 2 ^ 63 := by decide +kernel
  have hbin : double.binade = 2 ^ 52 := by decide +kernel
  have hlt : rung < 2 ^ 63 := by omega
  have hr : double.word neg rung % 2 ^ 63 = rung := by
    unfold Format.word; rw [hsw]; split <;> omega
  have hs : (double.word neg rung / 2 ^ 63 % 2 == 1) = neg := by
    unfold Format.word; rw [hsw]; cases neg
    · simp; omega
    · simp; omega
  unfold Bd Format.read
  simp only [hsw, hbin, hinf, hr, hs]
  have hlp : double.leastPlace = -1074 := by decide +kernel
  by_cases h1 : rung < 2 ^ 52
  · rw [if_pos h1]
    refine ⟨neg, rung, 0, by rw [hlp]; rfl, ?_⟩
    have : 2 ^ 52 ≤ 2 ^ (k + 1074) := Nat.pow_le_pow_right (by omega) (by omega)
    simp only [Nat.pow_zero, Nat.mul_one]; omega
  · rw [if_neg h1, if_pos (by omega)]
    have hq : 1 ≤ rung / 2 ^ 52 := by omega
    refine ⟨neg, _, rung / 2 ^ 52 - 1, by rw [hlp]; congr 1 <;> omega, ?_⟩
    by_cases hlast : rung / 2 ^ 52 ≤ k + 1022
    · have h53 : 2 ^ 52 + rung % 2 ^ 52 ≤ 2 ^ 53 := by omega
      have hpow : 2 ^ (rung / 2 ^ 52 - 1) ≤ 2 ^ (k + 1021) := Nat.pow_le_pow_right (by omega) (by omega)
      calc (2 ^ 52 + rung % 2 ^ 52) * 2 ^ (rung / 2 ^ 52 - 1) ≤ 2 ^ 53 * 2 ^ (k + 1021) := Nat.mul_le_mul h53 hpow
        _ = 2 ^ (k + 1074) := by rw [← Nat.pow_add, show 53 + (k + 1021) = k + 1074 by omega]
    · have hq2 : rung / 2 ^ 52 = k + 1023 := by omega
      have hm : rung % 2 ^ 52 = 0 := by omega
      rw [hq2, hm, Nat.add_zero, ← Nat.pow_add]
      exact Nat.pow_le_pow_right (by omega) (by omega)

theorem nearest_bd (neg : Bool) (mag : Nat) (place : Int) (k J : Nat) (hk : k ≤ 1000) (hJ : 0 ≤ place + J) (h : mag * 2 ^ (place + J).toNat ≤ 2 ^ (k + J)) : Bd k (double.nearest neg mag place) := by
  have hinf : double.infRung = 2047 * 2 ^ 52 := by decide +kernel
  have hbin : double.binade = 2 ^ 52 := by decide +kernel
  have hlp : double.leastPlace = -1074 := by decide +kernel
  have hfb : double.fractionBits = 52 := rfl
  unfold Format.nearest
  by_cases h0 : mag = 0
  · rw [if_pos h0]; exact read_bd neg 0 k hk (by omega)
  · rw [if_neg h0]
    simp only [hlp, hfb, hbin, hinf]
    have hL1 := Nat.log2_self_le h0
    have hL2 := Nat.lt_log2_self (n := mag)
    generalize mag.log2 = L at hL1 hL2
    -- L + place ≤ k
    have hLk : (L : Int) + place ≤ k := by
      have h1 : 2 ^ (L + (place + J).toNat) ≤ 2 ^ (k + J) := by
        rw [Nat.pow_add]; exact Nat.le_trans (Nat.mul_le_mul_right _ hL1) h
      have := (Nat.pow_le_pow_iff_right (by omega : 1 < 2)).1 h1
      omega
    refine read_bd _ _ _ hk (Nat.le_trans (Nat.min_le_left _ _) ?_)
    by_cases hlast : place + L - 52 ≤ -1074
    · have hl : max (place + (L : Int) - (52 : Nat)) (-1074) = -1074 := by omega
      rw [hl]
      have hc : Toward.even.cut neg (mag <<< (place - (-1074)).toNat) ((-1074) - place).toNat ≤ 2 ^ 53 := by
        apply cut_le
        rw [shl]
        have : L + 1 + (place - (-1074)).toNat ≤ 53 + ((-1074) - place).toNat := by omega
        calc mag * 2 ^ (place - (-1074)).toNat ≤ 2 ^ (L + 1) * 2 ^ (place - (-1074)).toNat := Nat.mul_le_mul_right _ (by omega)
          _ = 2 ^ (L + 1 + (place - (-1074)).toNat) := by rw [← Nat.pow_add]
          _ ≤ 2 ^ (53 + ((-1074) - place).toNat) := Nat.pow_le_pow_right (by omega) this
          _ = 2 ^ 53 * 2 ^ ((-1074) - place).toNat := by rw [Nat.pow_add]
      simp only [Int.sub_self, Int.toNat_zero, Nat.zero_mul, Nat.zero_add]
      refine Nat.le_trans hc ?_
      clear hc
      generalize 2 ^ (k + J) = z at *
      have : 2 ^ 53 = 2 * 2 ^ 52 := by decide +kernel
      rw [this]
      exact Nat.mul_le_mul_right _ (by omega)
    · have hl : max (place + (L : Int) - (52 : Nat)) (-1074) = place + L - 52 := by omega
      rw [hl]
      by_cases hlt : (L : Int) + place ≤ k - 1
      · have hc : Toward.even.cut neg (mag <<< (place - (place + L - 52)).toNat) (place + L - 52 - place).toNat ≤ 2 ^ 53 := by
          apply cut_le
          rw [shl]
          have : L + 1 + (place - (place + L - 52)).toNat = 53 + (place + L - 52 - place).toNat := by omega
          calc mag * 2 ^ (place - (place + L - 52)).toNat ≤ 2 ^ (L + 1) * 2 ^ (place - (place + L - 52)).toNat := Nat.mul_le_mul_right _ (by omega)
            _ = 2 ^ (53 + (place + L - 52 - place).toNat) := by rw [← Nat.pow_add, this]
            _ = 2 ^ 53 * 2 ^ (place + L - 52 - place).toNat := by rw [Nat.pow_add]
        omega
      · have hm : mag ≤ 2 ^ L := by
          have hkL : (k : Int) = L + place := by omega
          have he : k + J = L + (place + J).toNat := by omega
          rw [he, Nat.pow_add] at h
          exact Nat.le_of_mul_le_mul_right h (Nat.two_pow_pos _)
        have hc : Toward.even.cut neg (mag <<< (place - (place + L - 52)).toNat) (place + L - 52 - place).toNat ≤ 2 ^ 52 := by
          apply cut_le
          rw [shl]
          have : L + (place - (place + L - 52)).toNat = 52 + (place + L - 52 - place).toNat := by omega
          calc mag * 2 ^ (place - (place + L - 52)).toNat ≤ 2 ^ L * 2 ^ (place - (place + L - 52)).toNat := Nat.mul_le_mul_right _ hm
            _ = 2 ^ (52 + (place + L - 52 - place).toNat) := by rw [← Nat.pow_add, this]
            _ = 2 ^ 52 * 2 ^ (place + L - 52 - place).toNat := by rw [Nat.pow_add]
        omega

theorem Bd.mono {k l x : Nat} (h : Bd k x) (hl : k ≤ l) : Bd l x := by
  obtain ⟨s, m, e, hr, hm⟩ := h
  exact ⟨s, m, e, hr, Nat.le_trans hm (Nat.pow_le_pow_right (by omega) (by omega))⟩
theorem mul_bd {a b x y : Nat} (hx : Bd a x) (hy : Bd b y) (hk : a + b ≤ 1000) : double.mul x y = some (mul x y) ∧ Bd (a + b) (mul x y) := by
  obtain ⟨s, m, e, hr, hm⟩ := hx
  obtain ⟨s', m', e', hr', hm'⟩ := hy
  have h : double.mul x y = some (double.nearest (s ^^ s') (m * m') ((e : Int) - 1074 + ((e' : Int) - 1074))) := by
    unfold Format.mul; rw [hr, hr']; rfl
  have h2 : mul x y = double.nearest (s ^^ s') (m * m') ((e : Int) - 1074 + ((e' : Int) - 1074)) := by unfold mul; rw [h]; rfl
  refine ⟨h.trans (by rw [h2]), ?_⟩
  rw [h2]
  refine nearest_bd _ _ _ _ 2148 hk (by omega) ?_
  have : ((e : Int) - 1074 + ((e' : Int) - 1074) + (2148 : Nat)).toNat = e + e' := by omega
  rw [this]
  calc m * m' * 2 ^ (e + e') = (m * 2 ^ e) * (m' * 2 ^ e') := by rw [Nat.pow_add]; simp only [Nat.mul_assoc, Nat.mul_left_comm]
    _ ≤ 2 ^ (a + 1074) * 2 ^ (b + 1074) := Nat.mul_le_mul hm hm'
    _ = 2 ^ (a + b + 2148) := by rw [← Nat.pow_add, show a + 1074 + (b + 1074) = a + b + 2148 by omega]
theorem sum_bd {k : Nat} {s s' : Bool} {m m' e e' : Nat} (hm : m * 2 ^ e ≤ 2 ^ (k + 1074)) (hm' : m' * 2 ^ e' ≤ 2 ^ (k + 1074)) (hk : k + 1 ≤ 1000) :
    ∃ d, Datum.sum (.number s m ((e : Int) - 1074)) (.number s' m' ((e' : Int) - 1074)) = some d ∧ Bd (k + 1) (double.write d) := by
  refine ⟨_, rfl, ?_⟩
  simp only [Format.write]
  refine nearest_bd _ _ _ _ 1074 hk (by omega) ?_
  have key : ∀ (b : Nat) (i : Nat) (s : Bool) (m : Nat), b ≤ i → (signed s m (i - b)).natAbs * 2 ^ b = m * 2 ^ i := by
    intro b i s m hb
    have : (signed s m (i - b)).natAbs = m * 2 ^ (i - b) := by
      unfold signed; rw [shl]
      cases s <;> simp only [Bool.false_eq_true, if_false, if_true, Int.natAbs_neg, Int.natAbs_natCast]
    rw [this, Nat.mul_assoc, ← Nat.pow_add, show i - b + b = i by omega]
  generalize hb : min e e' = b
  have hbe : b ≤ e := by omega
  have hbe' : b ≤ e' := by omega
  have h1 : (min ((e : Int) - 1074) ((e' : Int) - 1074) + (1074 : Nat)).toNat = b := by omega
  have h2 : ((e : Int) - 1074 - min ((e : Int) - 1074) ((e' : Int) - 1074)).toNat = e - b := by omega
  have h3 : ((e' : Int) - 1074 - min ((e : Int) - 1074) ((e' : Int) - 1074)).toNat = e' - b := by omega
  rw [h1, h2, h3]
  have k1 := key b e s m hbe
  have k2 := key b e' s' m' hbe'
  have tri := Int.natAbs_add_le (signed s m (e - b)) (signed s' m' (e' - b))
  calc _ ≤ ((signed s m (e - b)).natAbs + (signed s' m' (e' - b)).natAbs) * 2 ^ b := Nat.mul_le_mul_right _ tri
    _ = m * 2 ^ e + m' * 2 ^ e' := by rw [Nat.add_mul, k1, k2]
    _ ≤ 2 ^ (k + 1074) + 2 ^ (k + 1074) := Nat.add_le_add hm hm'
    _ = 2 ^ (k + 1 + 1074) := by rw [show k + 1 + 1074 = Nat.succ (k + 1074) by omega]; exact (Nat.two_pow_succ _).symm
theorem add_bd {k x y : Nat} (hx : Bd k x) (hy : Bd k y) (hk : k + 1 ≤ 1000) : double.add x y = some (add x y) ∧ Bd (k + 1) (add x y) := by
  obtain ⟨s, m, e, hr, hm⟩ := hx
  obtain ⟨s', m', e', hr', hm'⟩ := hy
  obtain ⟨d, hd, hb⟩ := sum_bd (s := s) (s' := s') hm hm' hk
  have h : double.add x y = some (double.write d) := by unfold Format.add; rw [hr, hr', hd]; rfl
  have h2 : add x y = double.write d := by unfold add; rw [h]; rfl
  exact ⟨h.trans (by rw [h2]), h2 ▸ hb⟩
theorem sub_bd {k x y : Nat} (hx : Bd k x) (hy : Bd k y) (hk : k + 1 ≤ 1000) : double.sub x y = some (sub x y) ∧ Bd (k + 1) (sub x y) := by
  obtain ⟨s, m, e, hr, hm⟩ := hx
  obtain ⟨s', m', e', hr', hm'⟩ := hy
  obtain ⟨d, hd, hb⟩ := sum_bd (s := s) (s' := !s') hm hm' hk
  have h : double.sub x y = some (double.write d) := by unfold Format.sub; rw [hr, hr']; simp only [Datum.opposite]; rw [hd]; rfl
  have h2 : sub x y = double.write d := by unfold sub; rw [h]; rfl
  exact ⟨h.trans (by rw [h2]), h2 ▸ hb⟩
theorem ofInt_bd {k : Nat} {n : Int} (h : n.natAbs ≤ 2 ^ k) (hk : k ≤ 1000) : Bd k (Go.FloatKind.nearest .f64 n) := by
  refine nearest_bd _ _ _ _ 0 hk (by omega) ?_
  simpa using h
end Fl
/-
  Laws of the walk for float64 operations whose answer may be a NaN, over any program.
-/
/-! the walk over float64 operations whose answer may be a NaN -/
namespace Fl
open Go Ieee
section
variable {P : Program}

theorem word_double (neg : Bool) {rung : Nat} (h : rung < 2 ^ 63) : double.word neg rung % 2 ^ 63 = rung ∧ (double.word neg rung / 2 ^ 63 % 2 == 1) = neg := by
  have hsw : double.signWeight = 2 ^ 63 := by decide +kernel
  unfold Format.word; rw [hsw]
  cases neg
  · simp; omega
  · simp; omega
theorem isNaN_iff (b : Nat) : isNaN b = true ↔ 2047 * 2 ^ 52 < b % 2 ^ 63 := by
  have hinf : double.infRung = 2047 * 2 ^ 52 := by decide +kernel
  have hsw : double.signWeight = 2 ^ 63 := by decide +kernel
  have hbin : double.binade = 2 ^ 52 := by decide +kernel
  unfold isNaN Format.read
  simp only [hinf, hsw, hbin]
  split
  · simp [Datum.isNaN]; omega
  · split
    · simp [Datum.isNaN]; omega
    · split
      · simp [Datum.isNaN]; omega
      · simp [Datum.isNaN]; omega
theorem cut_isNaN (x y t : Nat) : isNaN (Question.cut (.nanBits .f64 x y) t) = true := by
  rw [isNaN_iff]
  simp only [Question.cut]
  have h1 : t / 2 % (2 ^ 52 - 1) < 2 ^ 52 - 1 := Nat.mod_lt _ (by omega)
  generalize t / 2 % (2 ^ 52 - 1) = q at *
  omega

/-- '+', '-', '*', '/' on any two floats. -/
theorem run_arith {op : BinOp} (hop : op = .add ∨ op = .sub ∨ op = .mul ∨ op = .quo) (t : TypeId) (x y : Nat) (w : World) :
    ∃ r n, (binOp op t (.float .f64 x) (.float .f64 y)).run P w = .ok (.float .f64 r) (w.drewN n) ∧ Got (floatBits op .f64 x y) r := by
  cases ho : floatBits op .f64 x y with
  | some v => exact ⟨v, 0, run_float_arith w op t .f64 x y v ho, rfl⟩
  | none =>
    refine ⟨Question.cut (.nanBits .f64 x y) (w.tape w.drawn (.nanBits .f64 x y)), 1, ?_, cut_isNaN x y _⟩
    unfold floatBits at ho
    rcases hop with rfl | rfl | rfl | rfl <;> simp only at ho <;> simp [binOp, Op.floatArith, ho, Question.forced, World.drew_is_drewN]

/-- the same as an equation -/
def opR (op : BinOp) (x y : Nat) (w : World) : Nat := (floatBits op .f64 x y).getD (Question.cut (.nanBits .f64 x y) (w.tape w.drawn (.nanBits .f64 x y)))
def opN (op : BinOp) (x y : Nat) : Nat := if (floatBits op .f64 x y).isSome then 0 else 1
theorem run_op {op : BinOp} (hop : op = .add ∨ op = .sub ∨ op = .mul ∨ op = .quo) (t : TypeId) (x y : Nat) (w : World) :
    (binOp op t (.float .f64 x) (.float .f64 y)).run P w = .ok (.float .f64 (opR op x y w)) (w.drewN (opN op x y)) := by
  unfold opR opN
  cases ho : floatBits op .f64 x y with
  | some v => exact run_float_arith w op t .f64 x y v ho
  | none =>
    unfold floatBits at ho
    rcases hop with rfl | rfl | rfl | rfl <;> simp only at ho <;> simp [binOp, Op.floatArith, ho, Question.forced, World.drew_is_drewN]
theorem opR_got (op : BinOp) (x y : Nat) (w : World) : Got (floatBits op .f64 x y) (opR op x y w) := by
  unfold opR
  cases floatBits op .f64 x y with
  | some v => rfl
  | none => exact cut_isNaN x y _

theorem run_sqrt (x : Nat) (w : World) : ∃ r n, (Extern.MathSqrt.sqrt #[.float .f64 x]).run P w = .ok (.float .f64 r) (w.drewN n) ∧ Got (double.sqrt x) r := by
  change ∃ r n, Sem.run P (match double.sqrt x with | some r => (pure (Value.float .f64 r) : Sem Value) | none => do pure (Value.float .f64 (← choose (.nanBits .f64 x x)))) w = .ok (.float .f64 r) (w.drewN n) ∧ Got (double.sqrt x) r
  cases ho : double.sqrt x with
  | some v => exact ⟨v, 0, rfl, rfl⟩
  | none =>
    refine ⟨Question.cut (.nanBits .f64 x x) (w.tape w.drawn (.nanBits .f64 x x)), 1, ?_, cut_isNaN x x _⟩
    simp [Question.forced, World.drew_is_drewN]

/-- the walk's law: an operation's answer is any that 'Got' lets. -/
theorem wpList_fl {ops : Array Oper} {rest : List Oper} {o : Oper} {a : Act} {Q : Exit → Act → World → Prop} {w : World} (hg : o.guard = none) {op : BinOp} {t ty : TypeId} {x y : Operand}
    (ho : o.op = .binOp op t x y ty) (hop : op = .add ∨ op = .sub ∨ op = .mul ∨ op = .quo) {bx by_ : Nat} (hx : a.eval x = .float .f64 bx) (hy : a.eval y = .float .f64 by_)
    (h : ∀ r n, Got (floatBits op .f64 bx by_) r → wpList P ops Q rest (a.put o.dst (.float .f64 r)) (w.drewN n)) : wpList P ops Q (o :: rest) a w := by
  refine wpList_plain hg fun K hK => ?_
  obtain ⟨r, n, hrun, hr⟩ := run_arith (P := P) hop t bx by_ w
  unfold Oper.wp
  simp only [execOp, ho, hx, hy]
  have hk := hK _ _ (h r n hr)
  have he : ∀ w : World, (eqGuard op t x y (.float .f64 bx) (.float .f64 by_)).run P w = .ok () w := by
    intro w; rcases hop with rfl | rfl | rfl | rfl <;> rfl
  simpa [he, hrun, Result.andThen, Oper.upon] using hk

theorem run_store_float (P : Program) (w : World) (a : Addr) (m : Mode) (k : FloatKind) (b : Nat) : (store a (.float k b) m).run P w = stored P w a (.float k b) m := run_store P w a _ m rfl
theorem run_neg_float (P : Program) (w : World) (b : Nat) : (Op.unary .neg (.float .f64 b)).run P w = .ok (.float .f64 (neg b)) w := rfl
def fin (x : Nat) : Bool := match double.read x with | .number .. => true | _ => false
theorem order_self {x : Nat} (h : isNaN x = false) : FloatKind.f64.format.order x x = some .eq := by
  change (double.read x).order (double.read x) = _
  unfold isNaN at h
  cases hd : double.read x with
  | nan s f => rw [hd] at h; simp [Datum.isNaN] at h
  | infinity s => simp [Datum.order]
  | number s m e => simp [Datum.order]
theorem order_none_l {x : Nat} (y : Nat) (h : isNaN x = true) : FloatKind.f64.format.order x y = none := order_nan_l y h
theorem order_none_r (x : Nat) {y : Nat} (h : isNaN y = true) : FloatKind.f64.format.order x y = none := order_nan_r x h
theorem got_fin {x r : Nat} (h : Got (floatBits .sub .f64 x x) r) : (FloatKind.f64.format.order r 0 == some .eq) = fin x := by
  change Got (double.sub x x) r at h
  unfold fin
  unfold Format.sub at h
  cases hd : double.read x with
  | nan s f =>
    rw [hd] at h
    rw [order_none_l 0 h]; rfl
  | infinity s =>
    rw [hd] at h
    have : isNaN r = true := by cases s <;> exact h
    rw [order_none_l 0 this]; rfl
  | number s m e =>
    rw [hd] at h
    have h0 : Datum.sum (.number s m e) (Datum.number s m e).opposite = some (.number false 0 e) := by
      simp only [Datum.opposite, Datum.sum, Int.min_self, Int.sub_self, Int.toNat_zero]
      have : signed s m 0 + signed (!s) m 0 = 0 := by unfold signed; cases s <;> simp <;> omega
      rw [this]; cases s <;> rfl
    rw [h0] at h
    have hr : r = 0 := h
    rw [hr]; show (FloatKind.f64.format.order 0 0 == some .eq) = true; decide +kernel
end
end Fl
/-
  Contracts: Norm, NormOf, Signed, SignedAngle, finite, Finite, SameBits at alike words, Plus.
-/
namespace Go.Proofs.Ytlmmhmoihmlljaa
open Go Go.RowKit Fl
set_option maxRecDepth 100000
/-! angles: Norm, NormOf, Signed, SignedAngle -/
namespace G
def turn : Int := 360000000000
def norm (a : Int) : Int := a % turn
theorem tmod_norm (a : Int) : (if a.tmod 360000000000 < 0 then a.tmod 360000000000 + 360000000000 else a.tmod 360000000000) = norm a := by
  unfold norm turn
  by_cases h : 0 ≤ a
  · rw [Int.tmod_eq_emod_of_nonneg h, if_neg (by omega)]
  · obtain ⟨b, hb⟩ : ∃ b, a = -b := ⟨-a, by omega⟩
    subst hb
    rw [Int.neg_tmod, Int.tmod_eq_emod_of_nonneg (by omega)]
    split <;> omega
theorem norm_range (a : Int) : 0 ≤ norm a ∧ norm a < 360000000000 := by unfold norm turn; omega
end G
theorem Norm_any (a : Int) (w : World) : Calls Try.prog 8 #[.int .i64 a] w fun e w' => e = .returned (.int .i64 (G.norm a)) ∧ w = w' := by
  rw [← G.tmod_norm a]
  have h1 := Int.tmod_lt_of_pos a (show (0 : Int) < 360000000000 by omega)
  have h2 : -360000000000 < a.tmod 360000000000 := by have := Int.lt_tmod_of_pos a (show (0 : Int) < 360000000000 by omega); omega
  go_enter Try.func8, Try.ntmps8
  go_wp2
  all_goals (go_ret; exact ⟨rfl, rfl⟩)
theorem NormOf_any (a : Int) (w : World) : Calls Try.prog 17 #[.int .i64 a] w fun e w' => e = .returned (.int .i64 (G.norm a)) ∧ w = w' := by
  rw [← G.tmod_norm a]
  have h1 := Int.tmod_lt_of_pos a (show (0 : Int) < 360000000000 by omega)
  have h2 : -360000000000 < a.tmod 360000000000 := by have := Int.lt_tmod_of_pos a (show (0 : Int) < 360000000000 by omega); omega
  go_enter Try.func17, Try.ntmps17
  go_wp2
  all_goals (go_ret; exact ⟨rfl, rfl⟩)
theorem Signed_any (a : Int) (w : World) : Calls Try.prog 18 #[.int .i64 a] w fun e w' => e = .returned (.int .i64 (if 180000000000 < G.norm a then G.norm a - 360000000000 else G.norm a)) ∧ w = w' := by
  obtain ⟨h1, h2⟩ := G.norm_range a
  go_enter Try.func18, Try.ntmps18
  go_wp2_with (go_at_call 8; refine (Norm_any a _).mono ?_; rintro e w' ⟨rfl, rfl⟩)
  all_goals (go_ret; exact ⟨rfl, rfl⟩)
theorem SignedAngle_any (a : Int) (w : World) : Calls Try.prog 19 #[.int .i64 a] w fun e w' => e = .returned (.int .i64 (if 180000000000 < G.norm a then G.norm a - 360000000000 else G.norm a)) ∧ w = w' := by
  obtain ⟨h1, h2⟩ := G.norm_range a
  go_enter Try.func19, Try.ntmps19
  go_wp2_with (go_at_call 17; refine (NormOf_any a _).mono ?_; rintro e w' ⟨rfl, rfl⟩)
  all_goals (go_ret; exact ⟨rfl, rfl⟩)
/-! floats -/
theorem finite_any (x : Nat) (w : World) : Calls Try.prog 38 #[.float .f64 x] w fun e w' => ∃ n, e = .returned (.bool (fin x)) ∧ w.drewN n = w' := by
  go_enter Try.func38, Try.ntmps38
  go_wp2_with (refine wpList_fl rfl rfl (by decide) rfl rfl ?_; intro r n hr)
  go_ret
  exact ⟨n, by rw [← got_fin hr]; rfl, rfl⟩
theorem Finite_any (x : Nat) (w : World) : Calls Try.prog 40 #[.float .f64 x] w fun e w' => ∃ n, e = .returned (.bool (fin x)) ∧ w.drewN n = w' := by
  go_enter Try.func40, Try.ntmps40
  go_wp2_with (refine wpList_fl rfl rfl (by decide) rfl rfl ?_; intro r n hr)
  go_ret
  exact ⟨n, by rw [← got_fin hr]; rfl, rfl⟩
theorem SameBits_sim {x y : Nat} (h : Sim x y) (w : World) : Calls Try.prog 10 #[.float .f64 x, .float .f64 y] w fun e w' => e = .returned (.bool true) ∧ w = w' := by
  cases hx : isNaN x with
  | true =>
    have hy : isNaN y = true := by
      rcases h with rfl | ⟨_, h⟩
      · exact hx
      · exact h
    have h1 := order_none_l x hx
    have h2 := order_none_l y hy
    clear h hx hy
    go_enter Try.func10, Try.ntmps10
    go_wp2
    go_ret
    exact ⟨rfl, rfl⟩
  | false =>
    have hy : y = x := by
      rcases h with rfl | ⟨h, _⟩
      · rfl
      · rw [hx] at h; cases h
    subst hy
    have h1 := order_self hx
    clear h hx
    go_enter Try.func10, Try.ntmps10
    go_wp2
    go_ret
    exact ⟨rfl, rfl⟩
theorem Plus_any (s a b s' a' b' : Nat) (hs : Sim s s') (ha : Sim a a') (hb : Sim b b') (w : World) : Calls Try.prog 42 #[.float .f64 s, .float .f64 a, .float .f64 b] w fun e w' => ∃ r n, e = .returned (.float .f64 r) ∧ Sim r (add s' (mul a' b')) ∧ w.drewN n = w' := by
  go_enter Try.func42, Try.ntmps42
  go_wp2_with (refine wpList_fl rfl rfl (by decide) rfl rfl ?_; intro r n hr)
  go_ret
  rename_i r1 n1 hr1
  exact ⟨r, _, rfl, got_add hs (got_mul ha hb hr1) hr, rfl⟩
end Go.Proofs.Ytlmmhmoihmlljaa
/-
  The series of sines and cosines as plain functions on words, and that none of their operations is invalid.
-/
/-! the series of sines and cosines, as functions on words -/
namespace Fs
open Fl Go
def one : Nat := 4607182418800017408
def rad : Nat := 4445950764994258515
def ofInt (n : Int) : Nat := floatOfInt .f64 n
/-- n! in floats -/
def ffact : Nat → Nat
  | 0 => one
  | n + 1 => if n = 0 then one else mul (ffact n) (ofInt ((n + 1 : Nat) : Int))
def sgn (k x : Nat) : Nat := if k % 2 = 1 then neg x else x
def coef (odd k : Nat) : Nat := div one (sgn k (ffact (2 * k + odd)))
/-- after j rounds -/
def ser (z odd : Nat) : Nat → Nat
  | 0 => 0
  | j + 1 => if j = 0 then coef odd 8 else add (coef odd (8 - j)) (mul z (ser z odd j))
def series (z odd : Nat) : Nat := add one (mul z (ser z odd 8))

theorem Bd.not_nan {k x : Nat} (h : Bd k x) : isNaN x = false := by
  obtain ⟨s, m, e, hr, _⟩ := h
  unfold isNaN; rw [hr]; rfl
theorem sim_eq {r v : Nat} (h : Sim r v) (hv : isNaN v = false) : r = v := by
  rcases h with h | ⟨_, h⟩
  · exact h
  · rw [hv] at h; cases h
def bd0 (x : Nat) : Bool := match Ieee.Format.read Ieee.double x with
  | .number _ m e => decide (0 ≤ e + 1074) && decide (m * 2 ^ (e + 1074).toNat ≤ 2 ^ 1074)
  | _ => false
theorem bd0_Bd {x : Nat} (h : bd0 x = true) : Bd 0 x := by
  unfold bd0 at h
  split at h
  · rename_i s m e he
    simp only [Bool.and_eq_true, decide_eq_true_eq] at h
    exact ⟨s, m, (e + 1074).toNat, by rw [he]; congr 1; omega, by rw [Nat.zero_add]; exact h.2⟩
  · cases h
theorem coef_bd (odd k : Nat) (ho : odd < 2) (h1 : 1 ≤ k) (hk : k ≤ 8) : Bd 0 (coef odd k) := by
  have h : ∀ o : Fin 2, ∀ k : Fin 8, bd0 (coef o.val (k.val + 1)) = true := by decide +kernel
  have := h ⟨odd, ho⟩ ⟨k - 1, by omega⟩
  simp only at this
  rw [show k - 1 + 1 = k by omega] at this
  exact bd0_Bd this
theorem one_bd : Bd 0 one := bd0_Bd (by decide +kernel)
theorem rad_bd : Bd 0 rad := bd0_Bd (by decide +kernel)
theorem zero_bd : Bd 0 0 := bd0_Bd (by decide +kernel)
theorem ser_bd {z odd : Nat} (hz : Bd 72 z) (ho : odd < 2) : ∀ j, j ≤ 8 → Bd (73 * j) (ser z odd j)
  | 0, _ => zero_bd.mono (by omega)
  | j + 1, hj => by
    unfold ser
    split
    · exact (coef_bd odd 8 ho (by omega) (by omega)).mono (by omega)
    · have hs := ser_bd hz ho j (by omega)
      have hm := (mul_bd hz hs (by omega)).2
      exact ((add_bd ((coef_bd odd (8 - j) ho (by omega) (by omega)).mono (by omega : 0 ≤ 72 + 73 * j)) hm (by omega)).2).mono (by omega)
theorem ser_mul {z odd j : Nat} (hz : Bd 72 z) (ho : odd < 2) (hj : j ≤ 8) : Ieee.Format.mul Ieee.double z (ser z odd j) = some (mul z (ser z odd j)) ∧ Bd (72 + 73 * j) (mul z (ser z odd j)) :=
  mul_bd hz (ser_bd hz ho j hj) (by omega)
theorem ser_add {z odd j : Nat} (hz : Bd 72 z) (ho : odd < 2) (hj : j < 8) (h0 : j ≠ 0) : Ieee.Format.add Ieee.double (coef odd (8 - j)) (mul z (ser z odd j)) = some (ser z odd (j + 1)) := by
  have h := (add_bd ((coef_bd odd (8 - j) ho (by omega) (by omega)).mono (by omega : 0 ≤ 72 + 73 * j)) (ser_mul hz ho (by omega)).2 (by omega)).1
  rw [h]; congr 1
  conv => rhs; unfold ser
  rw [if_neg h0]
theorem series_bd {z odd : Nat} (hz : Bd 72 z) (ho : odd < 2) : Bd 657 (series z odd) :=
  (add_bd (one_bd.mono (by omega : 0 ≤ 656)) ((ser_mul hz ho (by omega)).2.mono (by omega)) (by omega)).2
/-- the constants in the program's tables -/
def tabS : List Nat := [13818544856648471893, 4575957461383581969, 13774824197408792602, 4523617214285662004, 13716528800881525988, 4460272573143870729, 13648976655441704991, 4389130328383466826]
def tabD : List Nat := [13826050856027422720, 4586165620538955093, 13787419979223755799, 4537941361671905306, 13732177094651715420, 4477122120089393304, 13666517717442657437, 4407590220077447199]
theorem tab_coef : ∀ i : Fin 8, tabS.getD i.val 0 = coef 1 (i.val + 1) ∧ tabD.getD i.val 0 = coef 0 (i.val + 1) := by decide +kernel
/-- where an angle lies: quarter, and what is left, as a float -/
def quarter (a : Int) : Int := (a + 45000000000) / 90000000000
def xOf (a : Int) : Nat := mul (ofInt (a - quarter a * 90000000000)) rad
theorem left_range (a : Int) : -45000000000 ≤ a - quarter a * 90000000000 ∧ a - quarter a * 90000000000 < 45000000000 := by unfold quarter; omega
theorem left_bd (a : Int) : Bd 36 (ofInt (a - quarter a * 90000000000)) := by
  have := left_range a
  exact ofInt_bd (by omega) (by omega)
theorem xOf_mul (a : Int) : Ieee.Format.mul Ieee.double (ofInt (a - quarter a * 90000000000)) rad = some (xOf a) := (mul_bd (left_bd a) rad_bd (by omega)).1
theorem xOf_bd (a : Int) : Bd 36 (xOf a) := (mul_bd (left_bd a) rad_bd (by omega)).2
theorem z_bd (a : Int) : Bd 72 (mul (xOf a) (xOf a)) := (mul_bd (xOf_bd a) (xOf_bd a) (by omega)).2
theorem z_mul (a : Int) : Ieee.Format.mul Ieee.double (xOf a) (xOf a) = some (mul (xOf a) (xOf a)) := (mul_bd (xOf_bd a) (xOf_bd a) (by omega)).1
/-- sine and cosine of what is left -/
def sinOf (a : Int) : Nat := mul (xOf a) (series (mul (xOf a) (xOf a)) 1)
def cosOf (a : Int) : Nat := series (mul (xOf a) (xOf a)) 0
theorem sin_mul (a : Int) : Ieee.Format.mul Ieee.double (xOf a) (series (mul (xOf a) (xOf a)) 1) = some (sinOf a) := (mul_bd (xOf_bd a) (series_bd (z_bd a) (by omega)) (by omega)).1
theorem sin_bd (a : Int) : Bd 693 (sinOf a) := (mul_bd (xOf_bd a) (series_bd (z_bd a) (by omega)) (by omega)).2
theorem cos_bd (a : Int) : Bd 657 (cosOf a) := series_bd (z_bd a) (by omega)
theorem series_add {z odd : Nat} (hz : Bd 72 z) (ho : odd < 2) : Ieee.Format.add Ieee.double one (mul z (ser z odd 8)) = some (series z odd) :=
  (add_bd (one_bd.mono (by omega : 0 ≤ 656)) ((ser_mul hz ho (by omega)).2.mono (by omega)) (by omega)).1
theorem ser_step {z odd k : Nat} (hz : Bd 72 z) (ho : odd < 2) (hk : k < 7) : Ieee.Format.add Ieee.double (coef odd (k + 1)) (mul z (ser z odd (7 - k))) = some (ser z odd (8 - k)) := by
  have h := ser_add (j := 7 - k) hz ho (by omega) (by omega)
  rw [show 8 - (7 - k) = k + 1 by omega, show 7 - k + 1 = 8 - k by omega] at h
  exact h
theorem ser_one (z odd : Nat) : ser z odd 1 = coef odd 8 := rfl
theorem ffact_mul : ∀ i : Fin 18, 2 ≤ i.val → Ieee.Format.mul Ieee.double (ffact (i.val - 1)) (floatOfInt .f64 (i.val : Int)) = some (ffact i.val) := by decide +kernel
theorem coef_div : ∀ o : Fin 2, ∀ k : Fin 8, Ieee.Format.div Ieee.double one (sgn (k.val + 1) (ffact (2 * (k.val + 1) + o.val))) = some (coef o.val (k.val + 1)) := by decide +kernel
/-- the sine and the cosine -/
def sin (a : Int) : Nat := if quarter a % 4 = 0 then sinOf a else if quarter a % 4 = 1 then cosOf a else if quarter a % 4 = 2 then neg (sinOf a) else neg (cosOf a)
def cos (a : Int) : Nat := if quarter a % 4 = 0 then cosOf a else if quarter a % 4 = 1 then neg (sinOf a) else if quarter a % 4 = 2 then neg (cosOf a) else sinOf a
end Fs
/-
  Contract: grain.parts, for every angle.
-/
namespace Go.Proofs.Ytlmmhmoihmlljaa
open Go Go.RowKit Fl Fs
set_option maxRecDepth 100000
attribute [local go_sem] run_store_float
section
variable {P : Program} (w : World)
theorem run_mul_ok (t : TypeId) {x y r : Nat} (h : Ieee.Format.mul Ieee.double x y = some r) : (binOp .mul t (.float .f64 x) (.float .f64 y)).run P w = .ok (.float .f64 r) w := run_float_arith w .mul t .f64 x y r h
theorem run_add_ok (t : TypeId) {x y r : Nat} (h : Ieee.Format.add Ieee.double x y = some r) : (binOp .add t (.float .f64 x) (.float .f64 y)).run P w = .ok (.float .f64 r) w := run_float_arith w .add t .f64 x y r h
end
def pw (w : World) : World := (w.alloc (.cells (tabS.map (Value.float .f64)).toArray 77)).alloc (.cells (tabD.map (Value.float .f64)).toArray 77)
theorem pw_size (w : World) : (pw w).heap.size = w.heap.size + 2 := by simp [pw]
theorem pw_below (w : World) : Below w.heap.size w (pw w) := ((Below.refl _ _).alloc (Nat.le_refl _) _).alloc (by simp) _
theorem tab_cell (l : List Nat) (k : Nat) (hk : k < l.length) : (l.map (Value.float .f64)).toArray[k]? = some (.float .f64 (l.getD k 0)) := by
  simp [hk]
theorem pw_cellS (w : World) (k : Nat) (hk : k < 8) : (pw w).cell? ⟨w.heap.size, k, none⟩ = some (.float .f64 (coef 1 (k + 1))) := by
  have h := (tab_coef ⟨k, hk⟩).1
  simp only at h
  rw [← h, ← tab_cell tabS k hk]
  exact cell_of_row _ _ _ _ _ (0, 0) ((Below.heap_alloc _ _ _ (by simp)).trans (heap_alloc_new _ _))
theorem pw_cellD (w : World) (k : Nat) (hk : k < 8) : (pw w).cell? ⟨w.heap.size + 1, k, none⟩ = some (.float .f64 (coef 0 (k + 1))) := by
  have h := (tab_coef ⟨k, hk⟩).2
  simp only at h
  rw [← h, ← tab_cell tabD k hk]
  have hb := heap_alloc_new (w.alloc (.cells (tabS.map (Value.float .f64)).toArray 77)) (.cells (tabD.map (Value.float .f64)).toArray 77)
  rw [World.size_alloc] at hb
  exact cell_of_row _ _ _ _ _ (0, 0) hb
theorem below_drewN {B : Nat} {a w : World} (h : Below B a w) (n : Nat) : Below B a (w.drewN n) := ⟨h.os, h.tape, h.output, h.size, h.block⟩
set_option maxHeartbeats 400000 in
theorem parts_any (a : Int) (w : World) : Calls Try.prog 37 #[.int .i64 a] w fun e w' => e = .returned (.tuple #[.int .i64 (quarter (G.norm a) % 4), .float .f64 (sinOf (G.norm a)), .float .f64 (cosOf (G.norm a))]) ∧ Below w.heap.size w w' := by
  obtain ⟨hn1, hn2⟩ := G.norm_range a
  generalize hN : G.norm a = N at *
  have HN := Lib.hid hN; clear hN
  have hx : ∀ w, (binOp .mul 22 (.float .f64 (floatOfInt .f64 (N - (N + 45000000000) / 90000000000 * 90000000000))) (.float .f64 4445950764994258515)).run Try.prog w = .ok (.float .f64 (xOf N)) w := fun w => run_mul_ok (P := Try.prog) w 22 (xOf_mul N)
  have hq0 : 0 ≤ (N + 45000000000) / 90000000000 := by omega
  have hq1 : (N + 45000000000) / 90000000000 ≤ 4 := by omega
  have hz := fun w => run_mul_ok (P := Try.prog) w 22 (z_mul N)
  go_enter Try.func37, Try.ntmps37
  go_wp2_with (go_at_call 8; refine (Norm_any a _).mono ?_; rintro e w' ⟨rfl, rfl⟩; rw [HN.out])
  go_quiet (fail)
  clear hx hz
  have hz := z_bd N
  have hx := xOf_bd N
  generalize hZ : mul (xOf N) (xOf N) = z at *
  have HZ := Lib.hid hZ; clear hZ
  go_wp2
  go_loopw [3, 4, 9] (fun s c i wr => ∃ (m : Nat) (i0 : Int) (n : Nat), m ≤ 7 ∧ i0 = (m : Int) - 1 ∧ i = .int .i64 i0 ∧ s = .float .f64 (ser z 1 (8 - m)) ∧ c = .float .f64 (ser z 0 (8 - m)) ∧ wr = (pw w).drewN n) (fun _ _ i _ => (intOf i + 1).toNat)
  case atStart => exact ⟨7, 6, nq, by omega, by omega, rfl, rfl, rfl, rfl⟩
  case round =>
    obtain ⟨m, i0, n, hm, hi0, rfl, rfl, rfl, rfl⟩ := hrel
    rcases m with _ | k
    · obtain rfl : i0 = -1 := by omega
      have m1 := fun w => run_mul_ok (P := Try.prog) w 22 (ser_mul (odd := 1) (j := 8) hz (by omega) (by omega)).1
      have m0 := fun w => run_mul_ok (P := Try.prog) w 22 (ser_mul (odd := 0) (j := 8) hz (by omega) (by omega)).1
      have a1 : ∀ w, (binOp .add 22 (.float .f64 4607182418800017408) (.float .f64 (mul z (ser z 1 8)))).run Try.prog w = .ok (.float .f64 (series z 1)) w := fun w => run_add_ok (P := Try.prog) w 22 (series_add (odd := 1) hz (by omega))
      have a0 : ∀ w, (binOp .add 22 (.float .f64 4607182418800017408) (.float .f64 (mul z (ser z 0 8)))).run Try.prog w = .ok (.float .f64 (series z 0)) w := fun w => run_add_ok (P := Try.prog) w 22 (series_add (odd := 0) hz (by omega))
      have x1 := fun w => run_mul_ok (P := Try.prog) w 22 (mul_bd hx (series_bd (odd := 1) hz (by omega)) (by omega)).1
      clear hi0 hm
      go_wp2
      go_ret3
      refine ⟨?_, ?_⟩
      · unfold sinOf cosOf; rw [HZ.out]; rfl
      · exact below_drewN (pw_below w) _
    · obtain rfl : i0 = (k : Int) := by omega
      have h1 := pw_cellS w k (by omega)
      have h2 := pw_cellD w k (by omega)
      rw [show 8 - (k + 1) = 7 - k by omega]
      have m1 := fun w => run_mul_ok (P := Try.prog) w 22 (ser_mul (odd := 1) (j := 7 - k) hz (by omega) (by omega)).1
      have m0 := fun w => run_mul_ok (P := Try.prog) w 22 (ser_mul (odd := 0) (j := 7 - k) hz (by omega) (by omega)).1
      have a1 := fun w => run_add_ok (P := Try.prog) w 22 (ser_step (odd := 1) hz (by omega) (show k < 7 by omega))
      have a0 := fun w => run_add_ok (P := Try.prog) w 22 (ser_step (odd := 0) hz (by omega) (show k < 7 by omega))
      have hk : (k : Int) ≤ 6 := by omega
      clear hi0 hm
      go_wp2
      go_quiet (fail)
      go_wp2
      go_roundw
      case rel => exact ⟨k, (k : Int) - 1, _, by omega, rfl, rfl, rfl, rfl, rfl⟩
      case measure => simp [intOf]
end Go.Proofs.Ytlmmhmoihmlljaa
/-
  Contracts: Sin, Cos, series, SinCos, for every angle.
-/
namespace Go.Proofs.Ytlmmhmoihmlljaa
open Go Go.RowKit Fl Fs
set_option maxRecDepth 100000
attribute [local go_sem] run_store_float run_neg_float
theorem run_div_ok {P : Program} (w : World) (t : TypeId) {x y r : Nat} (h : Ieee.Format.div Ieee.double x y = some r) : (binOp .quo t (.float .f64 x) (.float .f64 y)).run P w = .ok (.float .f64 r) w := run_float_arith w .quo t .f64 x y r h
theorem ret_float {a b : Nat} (h : a = b) : Ending.returned (.float .f64 a) = .returned (.float .f64 b) := by rw [h]
theorem Sin_any (a : Int) (w : World) : Calls Try.prog 11 #[.int .i64 a] w fun e w' => e = .returned (.float .f64 (sin (G.norm a))) ∧ Below w.heap.size w w' := by
  obtain ⟨hn1, hn2⟩ := G.norm_range a
  have hq0 : 0 ≤ quarter (G.norm a) % 4 := by omega
  have hq1 : quarter (G.norm a) % 4 < 4 := by omega
  generalize hs : sin (G.norm a) = S
  have HS := Lib.hid hs; clear hs
  go_enter Try.func11, Try.ntmps11
  generalize hN : quarter (G.norm a) % 4 = q at *
  have HN := Lib.hid hN; clear hN
  go_wp2_with (go_at_call 37; refine (parts_any a _).mono ?_; rintro e w1 ⟨rfl, hb⟩; have HB := Lib.hid hb; clear hb; rw [HN.out])
  all_goals go_ret
  all_goals (refine ⟨?_, HB.out⟩; rw [← HS.out]; unfold sin; rw [HN.out]; exact ret_float (by simp_all))
theorem Cos_any (a : Int) (w : World) : Calls Try.prog 12 #[.int .i64 a] w fun e w' => e = .returned (.float .f64 (cos (G.norm a))) ∧ Below w.heap.size w w' := by
  obtain ⟨hn1, hn2⟩ := G.norm_range a
  have hq0 : 0 ≤ quarter (G.norm a) % 4 := by omega
  have hq1 : quarter (G.norm a) % 4 < 4 := by omega
  generalize hs : cos (G.norm a) = S
  have HS := Lib.hid hs; clear hs
  go_enter Try.func12, Try.ntmps12
  generalize hN : quarter (G.norm a) % 4 = q at *
  have HN := Lib.hid hN; clear hN
  go_wp2_with (go_at_call 37; refine (parts_any a _).mono ?_; rintro e w1 ⟨rfl, hb⟩; have HB := Lib.hid hb; clear hb; rw [HN.out])
  all_goals go_ret
  all_goals (refine ⟨?_, HB.out⟩; rw [← HS.out]; unfold cos; rw [HN.out]; exact ret_float (by simp_all))
set_option maxHeartbeats 400000 in
theorem series_any (z : Nat) (o : Int) (ho : o = 0 ∨ o = 1) (hz : Bd 72 z) (w : World) : Calls Try.prog 36 #[.float .f64 z, .int .i64 o] w fun e w' => e = .returned (.float .f64 (series z o.toNat)) ∧ w = w' := by
  obtain ⟨odd, rfl⟩ : ∃ odd : Nat, o = odd := ⟨o.toNat, by omega⟩
  have ho2 : odd < 2 := by omega
  clear ho
  rw [Int.toNat_natCast]
  go_enter Try.func36, Try.ntmps36
  go_wp2
  go_loop [5, 6] (fun s k => ∃ m : Nat, m ≤ 8 ∧ k = .int .i64 (m : Int) ∧ s = .float .f64 (ser z odd (8 - m))) (fun _ k => (intOf k).toNat)
  case atStart => exact ⟨8, by omega, rfl, rfl⟩
  case round =>
    obtain ⟨m, hm, rfl, rfl⟩ := hrel
    rcases m with _ | k
    · have m1 := fun w => run_mul_ok (P := Try.prog) w 22 (ser_mul (j := 8) hz ho2 (by omega)).1
      have a1 : ∀ w, (binOp .add 22 (.float .f64 4607182418800017408) (.float .f64 (mul z (ser z odd 8)))).run Try.prog w = .ok (.float .f64 (series z odd)) w := fun w => run_add_ok (P := Try.prog) w 22 (series_add hz ho2)
      go_wp2
      go_ret
      exact ⟨rfl, rfl⟩
    · go_wp2
      go_loop [7, 8] (fun f i => ∃ i0 : Nat, 2 ≤ i0 ∧ i0 ≤ 2 * (k + 1) + odd + 1 ∧ i = .int .i64 (i0 : Int) ∧ f = .float .f64 (ffact (i0 - 1))) (fun _ i => 20 - (intOf i).toNat)
      case atStart => exact ⟨2, by omega, by omega, rfl, rfl⟩
      case round =>
        obtain ⟨i0, h1, h2, rfl, rfl⟩ := hrel
        by_cases hlt : i0 ≤ 2 * (k + 1) + odd
        · have m1 := fun w => run_mul_ok (P := Try.prog) w 22 (ffact_mul ⟨i0, by omega⟩ h1)
          simp only at m1
          go_wp2
          go_round
          case rel => exact ⟨i0 + 1, by omega, by omega, by go_num, rfl⟩
          case measure => simp [intOf]; omega
        · obtain rfl : i0 = 2 * (k + 1) + odd + 1 := by omega
          rw [show 2 * (k + 1) + odd + 1 - 1 = 2 * (k + 1) + odd by omega]
          have dv := coef_div ⟨odd, ho2⟩ ⟨k, by omega⟩
          simp only at dv
          unfold sgn at dv
          generalize hF : ffact (2 * (k + 1) + odd) = F at *
          have HF := Lib.hid hF; clear hF h1 h2 hlt
          by_cases hp : (k + 1) % 2 = 1
          · rw [if_pos hp] at dv
            have d1 : ∀ w, (binOp .quo 22 (.float .f64 4607182418800017408) (.float .f64 (neg F))).run Try.prog w = .ok (.float .f64 (coef odd (k + 1))) w := fun w => run_div_ok (P := Try.prog) w 22 dv
            have m1 := fun w => run_mul_ok (P := Try.prog) w 22 (ser_mul (j := 7 - k) hz ho2 (by omega)).1
            have a1 := fun w => run_add_ok (P := Try.prog) w 22 (ser_step (k := k) hz ho2 (by omega))
            have hp' : ((k : Int) + 1) % 2 = 1 := by omega
            have hk : (k : Int) + 1 < 8 := by omega
            clear dv hp
            go_wp2
            go_round
            case rel => exact ⟨k, by omega, by go_num, rfl⟩
            case measure => simp [intOf]
          · rw [if_neg hp] at dv
            have d1 : ∀ w, (binOp .quo 22 (.float .f64 4607182418800017408) (.float .f64 F)).run Try.prog w = .ok (.float .f64 (coef odd (k + 1))) w := fun w => run_div_ok (P := Try.prog) w 22 dv
            have hp' : ((k : Int) + 1) % 2 = 0 := by omega
            clear hp
            by_cases hk8 : k = 7
            · obtain rfl : k = 7 := hk8
              have d2 : ∀ w, (binOp .quo 22 (.float .f64 4607182418800017408) (.float .f64 F)).run Try.prog w = .ok (.float .f64 (coef odd 8)) w := d1
              have m1 := fun w => run_mul_ok (P := Try.prog) w 22 (ser_mul (j := 0) hz ho2 (by omega)).1
              clear d1 dv hp'
              go_wp2
              go_round
              case rel => exact ⟨7, by omega, rfl, rfl⟩
              case measure => simp [intOf]
            · have m1 := fun w => run_mul_ok (P := Try.prog) w 22 (ser_mul (j := 7 - k) hz ho2 (by omega)).1
              have a1 := fun w => run_add_ok (P := Try.prog) w 22 (ser_step (k := k) hz ho2 (by omega))
              have hk : (k : Int) + 1 < 8 := by omega
              clear dv hk8
              go_wp2
              go_round
              case rel => exact ⟨k, by omega, by go_num, rfl⟩
              case measure => simp [intOf]
/-- SinCos: the quarter is taken off in a loop -/
theorem SinCos_any (a : Int) (w : World) : Calls Try.prog 9 #[.int .i64 a] w fun e w' => e = .returned (.tuple #[.float .f64 (sin (G.norm a)), .float .f64 (cos (G.norm a))]) ∧ w = w' := by
  obtain ⟨hn1, hn2⟩ := G.norm_range a
  generalize hN : G.norm a = N at *
  have HN := Lib.hid hN; clear hN
  go_enter Try.func9, Try.ntmps9
  go_wp2_with (go_at_call 17; refine (NormOf_any a _).mono ?_; rintro e w' ⟨rfl, rfl⟩; rw [HN.out])
  go_loop [0, 4] (fun b q => ∃ q0 : Nat, (q0 : Int) ≤ quarter N ∧ q = .int .i64 (q0 : Int) ∧ b = .int .i64 (N - q0 * 90000000000)) (fun b _ => (intOf b + 45000000000).toNat)
  case atStart => exact ⟨0, by unfold quarter; omega, rfl, by go_num⟩
  case round =>
    obtain ⟨q0, hq0, rfl, rfl⟩ := hrel
    unfold quarter at hq0
    by_cases hge : 45000000000 ≤ N - q0 * 90000000000
    · go_wp2
      go_round
      case rel => exact ⟨q0 + 1, by unfold quarter; omega, by go_num, by go_num⟩
      case measure => simp [intOf]; omega
    · have hq : (q0 : Int) = quarter N := by unfold quarter; omega
      have hq4 : q0 ≤ 4 := by omega
      have hx : ∀ w, (binOp .mul 22 (.float .f64 (floatOfInt .f64 (N - q0 * 90000000000))) (.float .f64 4445950764994258515)).run Try.prog w = .ok (.float .f64 (xOf N)) w := fun w => run_mul_ok (P := Try.prog) w 22 (by rw [hq]; exact xOf_mul N)
      have hz := fun w => run_mul_ok (P := Try.prog) w 22 (z_mul N)
      have hs := fun w => run_mul_ok (P := Try.prog) w 22 (sin_mul N)
      have HZ := Lib.hid (z_bd N)
      have HQ := Lib.hid hq; clear hq hq0
      have HR : Hid (∀ S C, sin N = S → cos N = C → (q0 = 0 ∨ q0 = 4 → S = sinOf N ∧ C = cosOf N) ∧ (q0 = 1 → S = cosOf N ∧ C = neg (sinOf N)) ∧ (q0 = 2 → S = neg (sinOf N) ∧ C = neg (cosOf N)) ∧ (q0 = 3 → S = neg (cosOf N) ∧ C = sinOf N)) := by
        rintro _ _ rfl rfl
        unfold sin cos
        rw [← HQ.out]
        refine ⟨?_, ?_, ?_, ?_⟩
        · rintro (rfl | rfl) <;> exact ⟨rfl, rfl⟩
        · rintro rfl; exact ⟨rfl, rfl⟩
        · rintro rfl; exact ⟨rfl, rfl⟩
        · rintro rfl; exact ⟨rfl, rfl⟩
      generalize hB : N - (q0 : Int) * 90000000000 = B at *
      have HB := Lib.hid hB; clear hB
      rcases (by omega : q0 = 0 ∨ q0 = 1 ∨ q0 = 2 ∨ q0 = 3 ∨ q0 = 4) with rfl | rfl | rfl | rfl | rfl
      all_goals go_wp2_with (go_at_call 36; refine (series_any _ _ (by first | exact .inl rfl | exact .inr rfl) HZ.out _).mono ?_; rintro e w' ⟨rfl, rfl⟩)
      all_goals go_ret2
      all_goals (refine ⟨?_, rfl⟩)
      all_goals (obtain ⟨r1, r2, r3, r4⟩ := HR.out _ _ rfl rfl)
      · rw [(r1 (by simp)).1, (r1 (by simp)).2]; rfl
      · rw [(r2 (by simp)).1, (r2 (by simp)).2]; rfl
      · rw [(r3 (by simp)).1, (r3 (by simp)).2]; rfl
      · rw [(r4 (by simp)).1, (r4 (by simp)).2]; rfl
      · rw [(r1 (by simp)).1, (r1 (by simp)).2]; rfl
end Go.Proofs.Ytlmmhmoihmlljaa
/-
  Contracts: Abs, Sqrt, Length.
-/
namespace Go.Proofs.Ytlmmhmoihmlljaa
open Go Go.RowKit Fl Fs
set_option maxRecDepth 100000
attribute [local go_sem] run_store_float run_neg_float
theorem f64bits (x : Nat) (w : World) : (callFunc 50 #[.float .f64 x]).run Try.prog w = .ok (.value (.int .u64 x)) w := by
  rw [run_callFunc_extern (e := Extern.MathFloatBits.float64bits) Try.func50 (by kernel_rfl) (by kernel_rfl) (by kernel_rfl) (by kernel_rfl)]
  rfl
theorem f64frombits (x : Nat) (w : World) : (callFunc 62 #[.int .u64 (x : Int)]).run Try.prog w = .ok (.value (.float .f64 x)) w := by
  rw [run_callFunc_extern (e := Extern.MathFloatBits.float64frombits) Try.func62 (by kernel_rfl) (by kernel_rfl) (by kernel_rfl) (by kernel_rfl)]
  rfl
theorem Abs_any (x : Nat) (hx : x < 2 ^ 64) (w : World) : Calls Try.prog 39 #[.float .f64 x] w fun e w' => e = .returned (.float .f64 (x % 2 ^ 63)) ∧ w = w' := by
  have h1 := f64bits x
  have h2 : ∀ w, (callFunc 62 #[.int .u64 (bits .andNot .u64 (x : Int) 9223372036854775808)]).run Try.prog w = .ok (.value (.float .f64 (x % 2 ^ 63))) w := by
    intro w
    have h3 : x &&& 9223372036854775807 = x % 2 ^ 63 := by
      have := Nat.and_two_pow_sub_one_eq_mod x 63
      simpa using this
    have h4 : bits .andNot .u64 (x : Int) 9223372036854775808 = ((x % 2 ^ 63 : Nat) : Int) := by
      rw [u64_andNot _ _ (by omega) (by omega) (by omega) (by omega), Int.toNat_natCast]
      exact congrArg Int.ofNat h3
    rw [h4]; exact f64frombits _ w
  generalize x % 2 ^ 63 = r at *
  clear hx
  go_enter Try.func39, Try.ntmps39
  go_wp2
  go_ret
  exact ⟨rfl, rfl⟩
theorem run_sqrt_call (x : Nat) (w : World) : ∃ r n, (callFunc 63 #[.float .f64 x]).run Try.prog w = .ok (.value (.float .f64 r)) (w.drewN n) ∧ Got (Ieee.Format.sqrt Ieee.double x) r := by
  obtain ⟨r, n, h, hr⟩ := run_sqrt (P := Try.prog) x w
  refine ⟨r, n, ?_, hr⟩
  rw [run_callFunc_extern (e := Extern.MathSqrt.sqrt) Try.func63 (by kernel_rfl) (by kernel_rfl) (by kernel_rfl) (by kernel_rfl), h]
  rfl
theorem Sqrt_any (x x' : Nat) (hx : Sim x x') (w : World) : Calls Try.prog 41 #[.float .f64 x] w fun e w' => ∃ r n, e = .returned (.float .f64 r) ∧ Sim r (Fl.sqrt x') ∧ w.drewN n = w' := by
  obtain ⟨r, n, h, hr⟩ := run_sqrt_call x w
  go_enter Try.func41, Try.ntmps41
  go_wp2
  go_ret
  exact ⟨r, n, rfl, got_sqrt hx hr, rfl⟩
theorem sim_sqrt {x y : Nat} (h : Sim x y) : Sim (Fl.sqrt x) (Fl.sqrt y) := by
  rcases h with rfl | ⟨a, b⟩
  · exact Sim.refl _
  · unfold Fl.sqrt; rw [sqrt_nan a, sqrt_nan b]; exact Sim.refl _
theorem Length_any (x y z : Nat) (w : World) : Calls Try.prog 15 #[.agg #[.float .f64 x, .float .f64 y, .float .f64 z]] w fun e w' => ∃ r, e = .returned (.float .f64 r) ∧ Sim r (Fl.sqrt (add (add (mul x x) (mul y y)) (mul z z))) ∧ Below w.heap.size w w' := by
  go_enter Try.func15, Try.ntmps15
  go_wp2_with (first | (refine wpList_fl rfl rfl (by decide) rfl rfl ?_; intro r n hr) | (go_at_call 41; refine (Sqrt_any _ _ (Sim.refl _) _).mono ?_; rintro e w1 ⟨rs, ns, rfl, hrs, rfl⟩))
  go_ret
  rename_i r3 n3 hr3 r2 n2 hr2 r1 n1 hr1 r0 n0 hr0
  refine ⟨rs, rfl, hrs.trans ?_, below_drewN ((Below.refl _ _).alloc (Nat.le_refl _) _) _⟩
  have h := got_add (got_add (got_mul (Sim.refl _) (Sim.refl _) hr3) (got_mul (Sim.refl _) (Sim.refl _) hr2) hr1) (got_mul (Sim.refl _) (Sim.refl _) hr0) hr
  exact sim_sqrt h
end Go.Proofs.Ytlmmhmoihmlljaa
/-
  The bisection that finds the angle of a point, as a plain function, and that signs of zero do not matter to it.
-/
/-! the angle of a point: the bisection -/
namespace Fs
open Fl Go Ieee
def leq (a b : Nat) : Bool := FloatKind.f64.format.order a b == some .lt || FloatKind.f64.format.order a b == some .eq
def test (u w : Nat) (m : Int) : Bool := leq (mul (sin m) u) (mul (cos m) w)
def bis (u w : Nat) : Nat → Int → Int → Int
  | 0, lo, _ => lo
  | f + 1, lo, hi => if hi - lo > 1 then (if test u w ((lo + hi) / 2) then bis u w f ((lo + hi) / 2) hi else bis u w f lo ((lo + hi) / 2)) else lo
def bisect (u w : Nat) : Int := bis u w 37 0 90000000001
theorem bis_done (u w f : Nat) (lo hi : Int) (h : hi - lo ≤ 1) : bis u w f lo hi = lo := by
  cases f with
  | zero => rfl
  | succ f => unfold bis; rw [if_neg (by omega)]
theorem bis_range (u w : Nat) : ∀ (f : Nat) (lo hi : Int), lo < hi → lo ≤ bis u w f lo hi ∧ bis u w f lo hi < hi
  | 0, lo, hi, h => ⟨Int.le_refl _, h⟩
  | f + 1, lo, hi, h => by
    unfold bis
    split
    · split
      · have := bis_range u w f ((lo + hi) / 2) hi (by omega); omega
      · have := bis_range u w f lo ((lo + hi) / 2) (by omega); omega
    · omega
theorem bisect_range (u w : Nat) : 0 ≤ bisect u w ∧ bisect u w ≤ 90000000000 := by
  have := bis_range u w 37 0 90000000001 (by omega)
  unfold bisect; omega
/-- what an angle comes to: by the signs of x and y -/
def angle (sx sy : Ordering) (R : Int) : Int :=
  if sx = .lt then (if sy = .lt then 180000000000 + R else 180000000000 - R) else if sy = .lt then (360000000000 - R) % 360000000000 else R
theorem fin_form {x : Nat} (h : fin x = true) : ∃ s m e, double.read x = .number s m e := by
  unfold fin at h
  split at h
  · exact ⟨_, _, _, by assumption⟩
  · cases h
theorem bd_fin {k x : Nat} (h : Bd k x) : fin x = true := by
  obtain ⟨s, m, e, hr, _⟩ := h
  unfold Fl.fin; rw [hr]
theorem mul_fin {x y : Nat} (hx : fin x = true) (hy : fin y = true) : double.mul x y = some (mul x y) := by
  obtain ⟨s, m, e, h1⟩ := fin_form hx
  obtain ⟨s', m', e', h2⟩ := fin_form hy
  unfold mul Format.mul; rw [h1, h2]; rfl
theorem fin_not_nan {x : Nat} (h : fin x = true) : isNaN x = false := by
  obtain ⟨s, m, e, h1⟩ := fin_form h
  unfold isNaN; rw [h1]; rfl
/-- a finite number has a sign -/
theorem order_zero {x : Nat} (h : fin x = true) : ∃ s, FloatKind.f64.format.order x 0 = some s := by
  obtain ⟨s, m, e, h1⟩ := fin_form h
  have h0 : double.read 0 = .number false 0 (-1074) := by decide +kernel
  exact ⟨compare (signed s m (e - min e (-1074)).toNat) (signed false 0 (-1074 - min e (-1074)).toNat), by
    show (double.read x).order (double.read 0) = _
    rw [h1, h0]; rfl⟩
theorem read_parts (x : Nat) : double.read x = (let neg := x / 2 ^ 63 % 2 == 1; let rung := x % 2 ^ 63
    if rung < 2 ^ 52 then .number neg rung (-1074) else if rung < 2047 * 2 ^ 52 then .number neg (2 ^ 52 + rung % 2 ^ 52) (-1074 + (rung / 2 ^ 52 - 1 : Nat)) else if rung = 2047 * 2 ^ 52 then .infinity neg else .nan neg (rung - 2047 * 2 ^ 52)) := by
  have hinf : double.infRung = 2047 * 2 ^ 52 := by decide +kernel
  have hsw : double.signWeight = 2 ^ 63 := by decide +kernel
  have hbin : double.binade = 2 ^ 52 := by decide +kernel
  have hlp : double.leastPlace = -1074 := by decide +kernel
  unfold Format.read
  rw [hinf, hsw, hbin, hlp]
theorem neg_eq {x : Nat} (h : x < 2 ^ 64) : neg x = if x < 2 ^ 63 then x + 2 ^ 63 else x - 2 ^ 63 := by
  unfold neg Op.negFloat
  show x ^^^ 2 ^ 63 = _
  have h2 : ∀ r, r < 2 ^ 63 → r ^^^ 2 ^ 63 = r + 2 ^ 63 := by
    intro r hr
    have h3 := Nat.two_pow_add_eq_or_of_lt hr 1
    rw [Nat.mul_one] at h3
    rw [Nat.add_comm, h3]
    apply Nat.eq_of_testBit_eq; intro i
    rw [Nat.testBit_xor, Nat.testBit_or, Nat.testBit_two_pow]
    by_cases hi : 63 = i
    · subst hi; rw [Nat.testBit_lt_two_pow hr]; rfl
    · simp [hi]
  split
  · exact h2 x (by omega)
  · obtain ⟨r, rfl⟩ : ∃ r, x = r + 2 ^ 63 := ⟨x - 2 ^ 63, by omega⟩
    have h3 : (r + 2 ^ 63) ^^^ 2 ^ 63 = r := by rw [← h2 r (by omega), Nat.xor_assoc, Nat.xor_self, Nat.xor_zero]
    rw [h3]; omega
theorem fin_iff (x : Nat) : fin x = decide (x % 2 ^ 63 < 2047 * 2 ^ 52) := by
  unfold fin; rw [read_parts]; simp only
  by_cases h1 : x % 2 ^ 63 < 2 ^ 52
  · rw [if_pos h1]; simp; omega
  · rw [if_neg h1]
    by_cases h2 : x % 2 ^ 63 < 2047 * 2 ^ 52
    · rw [if_pos h2]; simp; omega
    · rw [if_neg h2]
      by_cases h3 : x % 2 ^ 63 = 2047 * 2 ^ 52
      · rw [if_pos h3]; simp; omega
      · rw [if_neg h3]; simp; omega
theorem fin_neg {x : Nat} (h : x < 2 ^ 64) : fin (neg x) = fin x := by
  rw [fin_iff, fin_iff, neg_eq h]
  have : (if x < 2 ^ 63 then x + 2 ^ 63 else x - 2 ^ 63) % 2 ^ 63 = x % 2 ^ 63 := by split <;> omega
  rw [this]
theorem write_lt64 (d : Datum) : double.write d < 2 ^ 64 := double.write_lt d
theorem mul_lt64 {x y : Nat} : mul x y < 2 ^ 64 := by
  unfold mul
  cases h : double.mul x y with
  | some v => exact double.mul_lt h
  | none => decide
theorem add_lt64 {x y : Nat} : add x y < 2 ^ 64 := by
  unfold add
  cases h : double.add x y with
  | some v => exact double.add_lt h
  | none => decide
theorem sin_fin (a : Int) : fin (sin a) = true := by
  have h1 : sinOf a < 2 ^ 64 := mul_lt64
  have h2 : cosOf a < 2 ^ 64 := add_lt64
  unfold sin
  split
  · exact bd_fin (sin_bd a)
  · split
    · exact bd_fin (cos_bd a)
    · split
      · rw [fin_neg h1]; exact bd_fin (sin_bd a)
      · rw [fin_neg h2]; exact bd_fin (cos_bd a)
theorem cos_fin (a : Int) : fin (cos a) = true := by
  have h1 : sinOf a < 2 ^ 64 := mul_lt64
  have h2 : cosOf a < 2 ^ 64 := add_lt64
  unfold cos
  split
  · exact bd_fin (cos_bd a)
  · split
    · rw [fin_neg h1]; exact bd_fin (sin_bd a)
    · split
      · rw [fin_neg h2]; exact bd_fin (cos_bd a)
      · exact bd_fin (sin_bd a)
/-- a zero of either sign is one to an order -/
def isZ (x : Nat) : Prop := ∃ s, double.read x = .number s 0 (-1074)
theorem order_z {x x' : Nat} (y : Nat) (h : isZ x) (h' : isZ x') : FloatKind.f64.format.order x y = FloatKind.f64.format.order x' y := by
  obtain ⟨s, h⟩ := h; obtain ⟨s', h'⟩ := h'
  show (double.read x).order (double.read y) = (double.read x').order (double.read y)
  rw [h, h']
  have hz : ∀ (s : Bool) k, signed s 0 k = 0 := by intro s k; unfold signed; cases s <;> simp
  cases double.read y <;> simp [Datum.order, hz]
theorem order_z' {x x' : Nat} (y : Nat) (h : isZ x) (h' : isZ x') : FloatKind.f64.format.order y x = FloatKind.f64.format.order y x' := by
  obtain ⟨s, h⟩ := h; obtain ⟨s', h'⟩ := h'
  show (double.read y).order (double.read x) = (double.read y).order (double.read x')
  rw [h, h']
  have hz : ∀ (s : Bool) k, signed s 0 k = 0 := by intro s k; unfold signed; cases s <;> simp
  cases double.read y <;> simp [Datum.order, hz]
theorem mul_z {x y : Nat} (hx : fin x = true) (hy : isZ y) : isZ (mul x y) := by
  obtain ⟨s, m, e, h1⟩ := fin_form hx
  obtain ⟨t, h2⟩ := hy
  have : mul x y = double.word (s ^^ t) 0 := by
    unfold mul Format.mul; rw [h1, h2]; simp [Datum.product, Format.write, Format.nearest]
  rw [this]
  have h3 := word_double (s ^^ t) (show 0 < 2 ^ 63 by omega)
  refine ⟨s ^^ t, ?_⟩
  rw [read_parts]; simp only [h3.1, h3.2]; simp
theorem z_iff (x : Nat) (h : x % 2 ^ 63 = 0) : isZ x := by
  refine ⟨x / 2 ^ 63 % 2 == 1, ?_⟩
  rw [read_parts]; simp only [h]; simp
/-- the sign of a finite number -/
theorem order_sign {x : Nat} (hx : x < 2 ^ 64) (h : fin x = true) : FloatKind.f64.format.order x 0 = some (if x % 2 ^ 63 = 0 then .eq else if x < 2 ^ 63 then .gt else .lt) := by
  have h0 : double.read 0 = .number false 0 (-1074) := by decide +kernel
  rw [fin_iff] at h
  have h := of_decide_eq_true h
  show (double.read x).order (double.read 0) = _
  have hs : (x / 2 ^ 63 % 2 == 1) = decide (¬ x < 2 ^ 63) := by rw [Bool.eq_iff_iff]; simp; omega
  have key : ∀ (m k : Nat), m ≠ 0 → compare (signed (decide (¬ x < 2 ^ 63)) m k) (signed false 0 0) = if x < 2 ^ 63 then .gt else .lt := by
    intro m k hm
    have hp : 0 < m <<< k := by rw [shl]; exact Nat.mul_pos (by omega) (Nat.two_pow_pos _)
    unfold signed
    generalize m <<< k = z at *
    have hz : ∀ b : Nat, (0 <<< b : Nat) = 0 := by intro b; simp
    by_cases hlt : x < 2 ^ 63
    · simp only [hlt, not_true_eq_false, decide_false, Bool.false_eq_true, if_false, if_true]
      rw [Int.compare_eq_gt, hz]; omega
    · simp only [hlt, not_false_eq_true, decide_true, if_true, if_false]
      rw [Int.compare_eq_lt, hz]; simp only [Bool.false_eq_true, if_false]; omega
  rw [read_parts, h0]; simp only [hs]
  by_cases hz : x % 2 ^ 63 = 0
  · rw [if_pos (by omega), if_pos hz, hz]
    simp [Datum.order, signed]
  · rw [if_neg hz]
    by_cases h1 : x % 2 ^ 63 < 2 ^ 52
    · rw [if_pos h1]
      simp only [Datum.order, Int.min_self, Int.sub_self, Int.toNat_zero]
      rw [key _ _ hz]
    · rw [if_neg h1, if_pos h]
      simp only [Datum.order]
      have : (-1074 - min (-1074 + ((x % 2 ^ 63 / 2 ^ 52 - 1 : Nat) : Int)) (-1074)).toNat = 0 := by omega
      rw [this, key _ _ (by omega)]
/-- both ways to the size of a number bisect alike -/
def size (x : Nat) (s : Ordering) : Nat := if s = .lt then neg x else x
theorem test_size {x : Nat} (hx : x < 2 ^ 64) (h : fin x = true) {s : Ordering} (hs : FloatKind.f64.format.order x 0 = some s) : size x s = x % 2 ^ 63 ∨ (isZ (size x s) ∧ isZ (x % 2 ^ 63)) := by
  rw [order_sign hx h] at hs
  injection hs with hs
  unfold size
  split at hs
  · rename_i hz
    subst hs
    exact .inr ⟨z_iff x hz, z_iff _ (by omega)⟩
  · split at hs
    · subst hs; left; simp; omega
    · subst hs; left; rw [if_pos rfl, neg_eq hx, if_neg (by omega)]; omega
theorem bis_congr {u w u' w' : Nat} (h : ∀ m, test u w m = test u' w' m) : ∀ f lo hi, bis u w f lo hi = bis u' w' f lo hi
  | 0, _, _ => rfl
  | f + 1, lo, hi => by
    unfold bis
    rw [h, bis_congr h f, bis_congr h f]
theorem bisect_size {x y : Nat} {sx sy : Ordering} (hx : x < 2 ^ 64) (hy : y < 2 ^ 64) (fx : fin x = true) (fy : fin y = true) (hsx : FloatKind.f64.format.order x 0 = some sx) (hsy : FloatKind.f64.format.order y 0 = some sy) :
    bisect (size x sx) (size y sy) = bisect (x % 2 ^ 63) (y % 2 ^ 63) := by
  refine bis_congr (fun m => ?_) _ _ _
  unfold test leq
  have e1 : ∀ z, FloatKind.f64.format.order (mul (sin m) (size x sx)) z = FloatKind.f64.format.order (mul (sin m) (x % 2 ^ 63)) z := by
    intro z
    rcases test_size hx fx hsx with h | ⟨h1, h2⟩
    · rw [h]
    · exact order_z z (mul_z (sin_fin m) h1) (mul_z (sin_fin m) h2)
  have e2 : ∀ z, FloatKind.f64.format.order z (mul (cos m) (size y sy)) = FloatKind.f64.format.order z (mul (cos m) (y % 2 ^ 63)) := by
    intro z
    rcases test_size hy fy hsy with h | ⟨h1, h2⟩
    · rw [h]
    · exact order_z' z (mul_z (cos_fin m) h1) (mul_z (cos_fin m) h2)
  rw [e1, e2]
end Fs
/-
  Plain facts: how finite float64 words stand to each other, as numbers; a word above zero doubled, halved; the exponent of a word.
-/
namespace Fs
open Fl Go Ieee
/-- the size of a word below infinity, in units of the least one -/
def V (x : Nat) : Nat := if x < 2 ^ 52 then x else (2 ^ 52 + x % 2 ^ 52) * 2 ^ (x / 2 ^ 52 - 1)
theorem V_succ (x : Nat) : V x < V (x + 1) := by
  unfold V
  by_cases h1 : x + 1 < 2 ^ 52
  · rw [if_pos h1, if_pos (by omega)]; omega
  · rw [if_neg h1]
    by_cases h2 : x < 2 ^ 52
    · rw [if_pos h2]
      have e : x = 2 ^ 52 - 1 := by omega
      subst e
      decide
    · rw [if_neg h2]
      by_cases h3 : x % 2 ^ 52 = 2 ^ 52 - 1
      · have e1 : (x + 1) % 2 ^ 52 = 0 := by omega
        have e2 : (x + 1) / 2 ^ 52 - 1 = (x / 2 ^ 52 - 1) + 1 := by omega
        have e3 : 2 ^ (x / 2 ^ 52 - 1 + 1) = 2 ^ (x / 2 ^ 52 - 1) * 2 := Nat.pow_succ _ _
        rw [e1, e2, h3, e3]
        generalize hp : 2 ^ (x / 2 ^ 52 - 1) = p
        have hpos : 0 < p := by rw [← hp]; exact Nat.two_pow_pos _
        rw [show (2 ^ 52 + 0) * (p * 2) = (2 ^ 53) * p by rw [Nat.mul_comm p 2, ← Nat.mul_assoc]]
        exact Nat.mul_lt_mul_of_pos_right (by decide) hpos
      · have e1 : (x + 1) % 2 ^ 52 = x % 2 ^ 52 + 1 := by omega
        have e2 : (x + 1) / 2 ^ 52 = x / 2 ^ 52 := by omega
        rw [e1, e2]
        exact Nat.mul_lt_mul_of_pos_right (by omega) (Nat.two_pow_pos _)
theorem V_lt {x y : Nat} (h : x < y) : V x < V y := by
  obtain ⟨d, rfl⟩ : ∃ d, y = x + 1 + d := ⟨y - x - 1, by omega⟩
  clear h
  induction d with
  | zero => exact V_succ x
  | succ d ih => exact Nat.lt_trans ih (V_succ _)
theorem V_le {x y : Nat} (h : x ≤ y) : V x ≤ V y := by
  rcases Nat.lt_or_ge x y with h1 | h1
  · exact Nat.le_of_lt (V_lt h1)
  · have : x = y := by omega
    rw [this]; exact Nat.le_refl _
/-- the number of a word, signed -/
def S (x : Nat) : Int := signed (x / 2 ^ 63 % 2 == 1) (V (x % 2 ^ 63)) 0
theorem read_V {x : Nat} (h : fin x = true) : ∃ (m k : Nat), double.read x = .number (x / 2 ^ 63 % 2 == 1) m ((k : Int) - 1074) ∧ m * 2 ^ k = V (x % 2 ^ 63) ∧ m < 2 ^ 53 := by
  rw [fin_iff] at h
  have h := of_decide_eq_true h
  rw [read_parts]; simp only
  unfold V
  by_cases h1 : x % 2 ^ 63 < 2 ^ 52
  · rw [if_pos h1, if_pos h1]
    exact ⟨x % 2 ^ 63, 0, rfl, by rw [Nat.pow_zero, Nat.mul_one], by omega⟩
  · rw [if_neg h1, if_neg h1, if_pos h]
    exact ⟨_, x % 2 ^ 63 / 2 ^ 52 - 1, by congr 1 <;> omega, rfl, by omega⟩
theorem signed_mul (s : Bool) (m a b : Nat) : signed s m (a + b) = signed s m a * 2 ^ b := by
  unfold signed
  rw [shl, shl, Nat.pow_add]
  cases s
  · simp [Int.mul_assoc]
  · simp [Int.mul_assoc, Int.neg_mul]
theorem compare_mul (a b : Int) (k : Nat) : compare (a * 2 ^ k) (b * 2 ^ k) = compare a b := by
  have hp : (0 : Int) < 2 ^ k := Int.pow_pos (by omega)
  rcases Int.lt_trichotomy a b with h | h | h
  · rw [Int.compare_eq_lt.2 h, Int.compare_eq_lt]; exact Int.mul_lt_mul_of_pos_right h hp
  · subst h; simp
  · rw [Int.compare_eq_gt.2 h, Int.compare_eq_gt]; exact Int.mul_lt_mul_of_pos_right h hp
theorem order_S {x y : Nat} (hx : fin x = true) (hy : fin y = true) : FloatKind.f64.format.order x y = some (compare (S x) (S y)) := by
  obtain ⟨m, i, h1, e1, _⟩ := read_V hx
  obtain ⟨n, j, h2, e2, _⟩ := read_V hy
  show (double.read x).order (double.read y) = _
  rw [h1, h2]
  generalize hs : (x / 2 ^ 63 % 2 == 1) = s at *
  generalize ht : (y / 2 ^ 63 % 2 == 1) = t at *
  simp only [Datum.order]
  have k1 : S x = signed s m i := by
    unfold S; rw [hs, ← e1]
    unfold signed; rw [shl, shl]; simp
  have k2 : S y = signed t n j := by
    unfold S; rw [ht, ← e2]
    unfold signed; rw [shl, shl]; simp
  rw [k1, k2]
  obtain ⟨b, hb⟩ : ∃ b : Nat, min i j = b := ⟨_, rfl⟩
  have b1 : ((i : Int) - 1074 - min ((i : Int) - 1074) ((j : Int) - 1074)).toNat = i - b := by omega
  have b2 : ((j : Int) - 1074 - min ((i : Int) - 1074) ((j : Int) - 1074)).toNat = j - b := by omega
  rw [b1, b2]
  have c1 : signed s m i = signed s m (i - b) * 2 ^ b := by rw [← signed_mul, show i - b + b = i by omega]
  have c2 : signed t n j = signed t n (j - b) * 2 ^ b := by rw [← signed_mul, show j - b + b = j by omega]
  rw [c1, c2, compare_mul]
theorem S_pos {x : Nat} (h : x < 2 ^ 63) : S x = (V x : Int) := by
  unfold S
  have h1 : (x / 2 ^ 63 % 2 == 1) = false := by simp; omega
  have h2 : x % 2 ^ 63 = x := by omega
  rw [h1, h2]; unfold signed; simp
theorem order_pos {x y : Nat} (hx : x < 2047 * 2 ^ 52) (hy : y < 2047 * 2 ^ 52) : FloatKind.f64.format.order x y = some (compare x y) := by
  rw [order_S (by rw [fin_iff]; simp; omega) (by rw [fin_iff]; simp; omega), S_pos (by omega), S_pos (by omega)]
  congr 1
  rcases Nat.lt_trichotomy x y with h | h | h
  · rw [Nat.compare_eq_lt.2 h, Int.compare_eq_lt]; have := V_lt h; omega
  · subst h; simp
  · rw [Nat.compare_eq_gt.2 h, Int.compare_eq_gt]; have := V_lt h; omega
/-- a number that the format has is its own nearest -/
theorem nearest_exact (neg : Bool) (mag : Nat) (place : Int) (w J : Nat) (hw : w < 2047 * 2 ^ 52) (h0 : w ≠ 0) (hJ : 0 ≤ place + J) (hJ2 : 1074 ≤ J) (h : mag * 2 ^ (place + J).toNat = V w * 2 ^ (J - 1074)) : double.nearest neg mag place = double.word neg w := by
  have hinf : double.infRung = 2047 * 2 ^ 52 := by decide +kernel
  have hbin : double.binade = 2 ^ 52 := by decide +kernel
  have hlp : double.leastPlace = -1074 := by decide +kernel
  have hfb : double.fractionBits = 52 := rfl
  -- V w = m0 * 2 ^ k0
  obtain ⟨m0, k0, hV, hm0, hw0⟩ : ∃ m0 k0, V w = m0 * 2 ^ k0 ∧ (k0 = 0 ∧ m0 < 2 ^ 52 ∧ 0 < m0 ∨ 2 ^ 52 ≤ m0 ∧ m0 < 2 ^ 53) ∧ k0 * 2 ^ 52 + m0 = w := by
    unfold V
    by_cases h1 : w < 2 ^ 52
    · rw [if_pos h1]; exact ⟨w, 0, by rw [Nat.pow_zero, Nat.mul_one], .inl ⟨rfl, h1, by omega⟩, by omega⟩
    · rw [if_neg h1]; exact ⟨_, w / 2 ^ 52 - 1, rfl, .inr ⟨by omega, by omega⟩, by omega⟩
  have hmag : mag ≠ 0 := by
    rintro rfl
    rw [Nat.zero_mul, hV] at h
    have h1 : 0 < m0 := by omega
    have h2 := Nat.mul_pos (Nat.mul_pos h1 (Nat.two_pow_pos k0)) (Nat.two_pow_pos (J - 1074))
    omega
  have hL1 := Nat.log2_self_le hmag
  have hL2 := Nat.lt_log2_self (n := mag)
  unfold Format.nearest
  rw [if_neg hmag]
  simp only [hlp, hfb, hbin, hinf]
  generalize mag.log2 = L at hL1 hL2
  -- bounds on L + place
  have up : m0 < 2 ^ 53 := by omega
  have hup : (L : Int) + place < 53 + k0 - 1074 := by
    have h1 : 2 ^ (L + (place + J).toNat) < 2 ^ (53 + k0 + (J - 1074)) := by
      calc 2 ^ (L + (place + J).toNat) = 2 ^ L * 2 ^ (place + J).toNat := Nat.pow_add _ _ _
        _ ≤ mag * 2 ^ (place + J).toNat := Nat.mul_le_mul_right _ hL1
        _ = m0 * 2 ^ k0 * 2 ^ (J - 1074) := by rw [h, hV]
        _ < 2 ^ 53 * 2 ^ k0 * 2 ^ (J - 1074) := Nat.mul_lt_mul_of_pos_right (Nat.mul_lt_mul_of_pos_right up (Nat.two_pow_pos _)) (Nat.two_pow_pos _)
        _ = 2 ^ (53 + k0 + (J - 1074)) := by rw [Nat.pow_add, Nat.pow_add]
    have := (Nat.pow_lt_pow_iff_right (by omega : 1 < 2)).1 h1
    omega
  have hlo : 2 ^ 52 ≤ m0 → 52 + (k0 : Int) - 1074 ≤ L + place := by
    intro hm
    have h1 : 2 ^ (52 + k0 + (J - 1074)) < 2 ^ (L + 1 + (place + J).toNat) := by
      calc 2 ^ (52 + k0 + (J - 1074)) = 2 ^ 52 * 2 ^ k0 * 2 ^ (J - 1074) := by rw [Nat.pow_add, Nat.pow_add]
        _ ≤ m0 * 2 ^ k0 * 2 ^ (J - 1074) := Nat.mul_le_mul_right _ (Nat.mul_le_mul_right _ hm)
        _ = mag * 2 ^ (place + J).toNat := by rw [h, hV]
        _ < 2 ^ (L + 1) * 2 ^ (place + J).toNat := Nat.mul_lt_mul_of_pos_right (by omega) (Nat.two_pow_pos _)
        _ = 2 ^ (L + 1 + (place + J).toNat) := (Nat.pow_add _ _ _).symm
    have := (Nat.pow_lt_pow_iff_right (by omega : 1 < 2)).1 h1
    omega
  have hlast : max (place + (L : Int) - (52 : Nat)) (-1074) = k0 - 1074 := by
    rcases hm0 with ⟨rfl, h1, h2⟩ | ⟨h1, h2⟩
    · have : (L : Int) + place < 52 - 1074 := by
        have h1' : 2 ^ (L + (place + J).toNat) < 2 ^ (52 + (J - 1074)) := by
          calc 2 ^ (L + (place + J).toNat) = 2 ^ L * 2 ^ (place + J).toNat := Nat.pow_add _ _ _
            _ ≤ mag * 2 ^ (place + J).toNat := Nat.mul_le_mul_right _ hL1
            _ = m0 * 2 ^ 0 * 2 ^ (J - 1074) := by rw [h, hV]
            _ < 2 ^ 52 * 2 ^ (J - 1074) := by rw [Nat.pow_zero, Nat.mul_one]; exact Nat.mul_lt_mul_of_pos_right h1 (Nat.two_pow_pos _)
            _ = 2 ^ (52 + (J - 1074)) := by rw [Nat.pow_add]
        have := (Nat.pow_lt_pow_iff_right (by omega : 1 < 2)).1 h1'
        omega
      omega
    · have := hlo h1
      omega
  rw [hlast]
  -- the kept digits are just m0
  have hk : mag <<< (place - (k0 - 1074)).toNat = m0 * 2 ^ ((k0 : Int) - 1074 - place).toNat := by
    rw [shl]
    rw [hV, Nat.mul_assoc, ← Nat.pow_add] at h
    by_cases hp : place ≤ k0 - 1074
    · have e1 : (place - (k0 - 1074)).toNat = 0 := by omega
      rw [e1, Nat.pow_zero, Nat.mul_one]
      have e2 : k0 + (J - 1074) = ((k0 : Int) - 1074 - place).toNat + (place + J).toNat := by omega
      rw [e2, Nat.pow_add, ← Nat.mul_assoc] at h
      exact Nat.eq_of_mul_eq_mul_right (Nat.two_pow_pos _) h
    · have e1 : ((k0 : Int) - 1074 - place).toNat = 0 := by omega
      rw [e1, Nat.pow_zero, Nat.mul_one]
      have e2 : (place + J).toNat = (place - (k0 - 1074)).toNat + (k0 + (J - 1074)) := by omega
      rw [e2, Nat.pow_add, ← Nat.mul_assoc] at h
      exact Nat.eq_of_mul_eq_mul_right (Nat.two_pow_pos _) h
  have hc : Toward.even.cut neg (mag <<< (place - (k0 - 1074)).toNat) ((k0 : Int) - 1074 - place).toNat = m0 := by
    rw [hk]
    exact Nat.le_antisymm (cut_le (Nat.le_refl _)) (le_cut (Nat.le_refl _))
  rw [hc]
  have : ((k0 : Int) - 1074 - -1074).toNat = k0 := by omega
  rw [this, hw0]
  congr 1
  omega
/-- doubled -/
def dbl (x : Nat) : Nat := if x < 2 ^ 52 then 2 * x else x + 2 ^ 52
theorem V_dbl (x : Nat) : V (dbl x) = 2 * V x := by
  unfold dbl
  by_cases h : x < 2 ^ 52
  · rw [if_pos h]
    unfold V
    rw [if_pos h]
    by_cases h2 : 2 * x < 2 ^ 52
    · rw [if_pos h2]
    · rw [if_neg h2]
      have e1 : 2 * x / 2 ^ 52 - 1 = 0 := by omega
      rw [e1, Nat.pow_zero, Nat.mul_one]; omega
  · rw [if_neg h]
    unfold V
    rw [if_neg h, if_neg (by omega)]
    have e1 : (x + 2 ^ 52) % 2 ^ 52 = x % 2 ^ 52 := by omega
    have e2 : (x + 2 ^ 52) / 2 ^ 52 - 1 = (x / 2 ^ 52 - 1) + 1 := by omega
    have e3 : 2 ^ (x / 2 ^ 52 - 1 + 1) = 2 ^ (x / 2 ^ 52 - 1) * 2 := Nat.pow_succ _ _
    rw [e1, e2, e3]
    generalize 2 ^ (x / 2 ^ 52 - 1) = p
    rw [← Nat.mul_assoc, Nat.mul_comm]
def dblN : Nat → Nat → Nat
  | 0, x => x
  | n + 1, x => dbl (dblN n x)
theorem V_dblN (n x : Nat) : V (dblN n x) = 2 ^ n * V x := by
  induction n with
  | zero => simp [dblN]
  | succ n ih => rw [dblN, V_dbl, ih, ← Nat.mul_assoc, Nat.mul_comm 2, ← Nat.pow_succ]
theorem dblN_dbl (n x : Nat) : dblN n (dbl x) = dbl (dblN n x) := by
  induction n with
  | zero => rfl
  | succ n ih => rw [dblN, ih]; rfl
theorem read_pos {x : Nat} (hx : x < 2047 * 2 ^ 52) : ∃ (m k : Nat), double.read x = .number false m ((k : Int) - 1074) ∧ m * 2 ^ k = V x ∧ m < 2 ^ 53 := by
  obtain ⟨m, k, h1, h2, hm⟩ := read_V (x := x) (by rw [fin_iff]; simp; omega)
  have h3 : (x / 2 ^ 63 % 2 == 1) = false := by simp; omega
  have h4 : x % 2 ^ 63 = x := by omega
  rw [h3] at h1; rw [h4] at h2
  exact ⟨m, k, h1, h2, hm⟩
theorem word_pos (w : Nat) : double.word false w = w := rfl
theorem mul_two {x : Nat} (h0 : x ≠ 0) (hx : x < 2046 * 2 ^ 52) : double.mul x 4611686018427387904 = some (dbl x) := by
  obtain ⟨m, k, h1, h2, _⟩ := read_pos (x := x) (by omega)
  have ht : double.read 4611686018427387904 = .number false (2 ^ 52) (-51) := by decide +kernel
  unfold Format.mul
  rw [h1, ht]
  simp only [Datum.product, Option.map_some, Format.write, Bool.xor_self]
  rw [nearest_exact false (m * 2 ^ 52) _ (dbl x) 1200 (by unfold dbl; split <;> omega) (by unfold dbl; split <;> omega) (by omega) (by omega), word_pos]
  have e : ((k : Int) - 1074 + -51 + (1200 : Nat)).toNat = k + 75 := by omega
  rw [e, V_dbl, ← h2, show 1200 - 1074 = 126 from rfl, Nat.pow_add]
  generalize 2 ^ k = p
  have e2 : (2 : Nat) ^ 52 * 2 ^ 75 = 2 * 2 ^ 126 := by decide
  calc m * 2 ^ 52 * (p * 2 ^ 75) = (m * p) * (2 ^ 52 * 2 ^ 75) := by simp only [Nat.mul_assoc, Nat.mul_left_comm]
    _ = 2 * (m * p) * 2 ^ 126 := by rw [e2]; simp only [Nat.mul_assoc, Nat.mul_left_comm]
theorem mul_scale {x : Nat} (h0 : x ≠ 0) (hx : x < 2 ^ 52) : double.mul x 4841369599423283200 = some (dblN 52 x) := by
  obtain ⟨m, k, h1, h2, _⟩ := read_pos (x := x) (by omega)
  have ht : double.read 4841369599423283200 = .number false (2 ^ 52) 0 := by decide +kernel
  have hb : dblN 52 x < 60 * 2 ^ 52 ∧ dblN 52 x ≠ 0 := by
    have key : ∀ n, dblN n x ≤ 2 ^ 52 * (n + 1) ∧ dblN n x ≠ 0 := by
      intro n
      induction n with
      | zero => simp only [dblN]; omega
      | succ n ih => rw [dblN]; unfold dbl; split <;> omega
    have := key 52
    omega
  unfold Format.mul
  rw [h1, ht]
  simp only [Datum.product, Option.map_some, Format.write, Bool.xor_self]
  rw [nearest_exact false (m * 2 ^ 52) _ (dblN 52 x) 1074 (by omega) hb.2 (by omega) (by omega), word_pos]
  have e : ((k : Int) - 1074 + 0 + (1074 : Nat)).toNat = k := by omega
  rw [e, V_dblN, ← h2, show 1074 - 1074 = 0 from rfl, Nat.pow_zero, Nat.mul_one]
  generalize 2 ^ k = p
  simp only [Nat.mul_assoc, Nat.mul_left_comm]
theorem div_two {x : Nat} (hl : 2 * 2 ^ 52 ≤ x) (hx : x < 2047 * 2 ^ 52) : double.div x 4611686018427387904 = some (x - 2 ^ 52) := by
  obtain ⟨m, k, h1, h2, hm53⟩ := read_pos (x := x) hx
  have ht : double.read 4611686018427387904 = .number false (2 ^ 52) (-51) := by decide +kernel
  have hV : V x = 2 * V (x - 2 ^ 52) := by
    rw [← V_dbl]; unfold dbl; rw [if_neg (by omega)]; congr 1; omega
  have hlog : (2 ^ 52 : Nat).log2 = 52 := by decide +kernel
  unfold Format.div
  rw [h1, ht]
  have hne : (2 ^ 52 : Nat) ≠ 0 := by decide
  simp only [Datum.quotient, if_neg hne, Option.map_some, Format.write, Bool.xor_self, hlog]
  have hfb : double.fractionBits + 2 = 54 := rfl
  rw [hfb]
  have hm : m.log2 ≤ 54 := by
    by_cases h : m = 0
    · subst h; decide
    · have := (Nat.log2_lt h).2 hm53; omega
  obtain ⟨c, hc⟩ : ∃ c, 54 + 52 - m.log2 = 52 + c := ⟨54 - m.log2, by omega⟩
  rw [hc, shl, Nat.pow_add, ← Nat.mul_assoc, Nat.mul_comm m, Nat.mul_assoc, Nat.mul_div_cancel_left _ (by decide), Nat.mul_mod_right]
  simp only [bne_self_eq_false, Bool.toNat_false, Nat.add_zero]
  rw [nearest_exact false (2 * (m * 2 ^ c)) _ (x - 2 ^ 52) 1200 (by omega) (by omega) (by omega) (by omega), word_pos]
  have e : ((k : Int) - 1074 - -51 - ((52 + c : Nat) : Int) - 1 + (1200 : Nat)).toNat + c = k + 124 := by omega
  have e2 : 2 * (V (x - 2 ^ 52)) = m * 2 ^ k := by omega
  have h3 : 2 * (2 * (m * 2 ^ c) * 2 ^ ((k : Int) - 1074 - -51 - ((52 + c : Nat) : Int) - 1 + (1200 : Nat)).toNat) = 2 * (V (x - 2 ^ 52) * 2 ^ (1200 - 1074)) := by
    rw [← Nat.mul_assoc 2 (V _), e2]
    generalize ((k : Int) - 1074 - -51 - ((52 + c : Nat) : Int) - 1 + (1200 : Nat)).toNat = z at *
    have : m * 2 ^ k * 2 ^ (1200 - 1074) = m * 2 ^ (z + c) * 4 := by
      rw [e, Nat.mul_assoc, Nat.mul_assoc, ← Nat.pow_add, Nat.pow_add 2 k 124, show k + (1200 - 1074) = k + 124 + 2 by omega, Nat.pow_add, Nat.pow_add]
    rw [this, Nat.pow_add]
    generalize 2 ^ z = p; generalize 2 ^ c = q
    have : 2 * (2 * (m * q) * p) = m * (p * q) * 4 := by
      have : m * q * p = m * (p * q) := by rw [Nat.mul_assoc, Nat.mul_comm q]
      rw [Nat.mul_assoc 2, this]; omega
    exact this
  omega
end Fs
/-
  Plain facts: fraction and exponent of a float64 word, and how doubling changes them; the series of the logarithm as a function on words.
-/
namespace Fs
open Fl Go Ieee
def nrm (x : Nat) : Nat := if x < 2 ^ 52 then dblN 52 x else x
def fr (x : Nat) : Nat := 1022 * 2 ^ 52 + nrm x % 2 ^ 52
def ex (x : Nat) : Int := ((nrm x / 2 ^ 52 : Nat) : Int) - 1022 - (if x < 2 ^ 52 then 52 else 0)
theorem V_small {x : Nat} (h : x < 2 ^ 52) : V x = x := by unfold V; rw [if_pos h]
theorem dblN_small (n : Nat) : ∀ {x : Nat}, x ≠ 0 → dblN n x ≠ 0 ∧ dblN n x < 2 ^ 52 * (n + 1) + x := by
  intro x h
  induction n with
  | zero => simp only [dblN]; omega
  | succ n ih => rw [dblN]; unfold dbl; split <;> omega
theorem nrm_range {x : Nat} (h0 : x ≠ 0) (hx : x < 2047 * 2 ^ 52) : 2 ^ 52 ≤ nrm x ∧ nrm x < 2047 * 2 ^ 52 := by
  unfold nrm
  split
  · rename_i h
    have h1 := dblN_small 52 h0
    refine ⟨?_, by omega⟩
    rcases Nat.lt_or_ge (dblN 52 x) (2 ^ 52) with hlt | hge
    · exfalso
      have h2 := V_dblN 52 x
      rw [V_small hlt, V_small h] at h2
      have : 2 ^ 52 * 1 ≤ 2 ^ 52 * x := Nat.mul_le_mul_left _ (by omega)
      omega
    · exact hge
  · omega
theorem dblN_big {x : Nat} (h : 2 ^ 52 ≤ x) (n : Nat) : dblN n x = x + n * 2 ^ 52 := by
  induction n with
  | zero => simp [dblN]
  | succ n ih => rw [dblN, ih]; unfold dbl; rw [if_neg (by omega)]; omega
theorem fr_dbl {x : Nat} (h0 : x ≠ 0) (hx : x < 2046 * 2 ^ 52) : fr (dbl x) = fr x ∧ ex (dbl x) = ex x + 1 := by
  unfold fr ex
  by_cases h : x < 2 ^ 52
  · have hd : dbl x = 2 * x := by unfold dbl; rw [if_pos h]
    by_cases h2 : 2 * x < 2 ^ 52
    · have e1 : nrm (dbl x) = nrm x + 2 ^ 52 := by
        have hb := (nrm_range h0 (by omega)).1
        unfold nrm at hb ⊢
        rw [if_pos h] at hb ⊢
        rw [if_pos (by omega), dblN_dbl]
        generalize dblN 52 x = y at *
        unfold dbl; rw [if_neg (by omega)]
      rw [e1, if_pos (show dbl x < 2 ^ 52 by omega), if_pos h]
      constructor
      · omega
      · omega
    · have e1 : nrm x = dbl x + 51 * 2 ^ 52 := by
        unfold nrm
        rw [if_pos h]
        have : dblN 52 x = dblN 51 (dbl x) := by rw [dblN_dbl]; rfl
        rw [this, dblN_big (by omega)]
      have e2 : nrm (dbl x) = dbl x := by unfold nrm; rw [if_neg (by omega)]
      rw [e1, e2, if_neg (show ¬ dbl x < 2 ^ 52 by omega), if_pos h]
      constructor
      · omega
      · omega
  · have hd : dbl x = x + 2 ^ 52 := by unfold dbl; rw [if_neg h]
    have e1 : nrm (dbl x) = x + 2 ^ 52 := by unfold nrm; rw [if_neg (by omega), hd]
    have e2 : nrm x = x := by unfold nrm; rw [if_neg h]
    rw [e1, e2, if_neg (show ¬ dbl x < 2 ^ 52 by omega), if_neg h]
    constructor
    · omega
    · omega
theorem fr_half {x : Nat} (hl : 2 * 2 ^ 52 ≤ x) (hx : x < 2047 * 2 ^ 52) : fr (x - 2 ^ 52) = fr x ∧ ex (x - 2 ^ 52) = ex x - 1 := by
  have := fr_dbl (x := x - 2 ^ 52) (by omega) (by omega)
  have e : dbl (x - 2 ^ 52) = x := by unfold dbl; rw [if_neg (by omega)]; omega
  rw [e] at this
  exact ⟨this.1.symm, by omega⟩
def C : Nat := 4604544271217802189
/-- where the logarithm's argument is brought to -/
def lnM (x : Nat) : Nat := if fr x < C then fr x + 2 ^ 52 else fr x
def lnK (x : Nat) : Int := if fr x < C then ex x - 1 else ex x
/-- between C and twice C it is brought already -/
theorem lnM_done {x : Nat} (h1 : C ≤ x) (h2 : x < C + 2 ^ 52) : lnM x = x ∧ lnK x = 0 := by
  unfold C at *
  have e2 : nrm x = x := by unfold nrm; rw [if_neg (by omega)]
  have e3 : fr x = 1022 * 2 ^ 52 + x % 2 ^ 52 := by unfold fr; rw [e2]
  have e4 : ex x = ((x / 2 ^ 52 : Nat) : Int) - 1022 := by unfold ex; rw [e2, if_neg (by omega)]; omega
  unfold lnM lnK C
  rw [e3, e4]
  split <;> omega
/-- the series -/
def lp (z : Nat) : Nat → Nat
  | 0 => 4586426698778222948
  | j + 1 => add (div one (ofInt (21 - 2 * j))) (mul z (lp z j))
def lnS (m : Nat) : Nat := div (sub m one) (add m one)
def lnV (m : Nat) (k : Int) : Nat :=
  add (mul (ofInt k) 4604418534311723008) (add (mul 4611686018427387904 (mul (lnS m) (lp (mul (lnS m) (lnS m)) 11))) (mul (ofInt k) 4461442080421002358))
theorem lnV_one : lnV (lnM one) (lnK one) = 0 := by decide +kernel
theorem fl_step : ∀ j : Fin 11, double.sub (ofInt (21 - 2 * (j.val : Int))) 4611686018427387904 = some (ofInt (21 - 2 * ((j.val + 1 : Nat) : Int))) ∧ FloatKind.f64.format.order (ofInt (21 - 2 * (j.val : Int))) 0 = some .gt := by decide +kernel
theorem fl_last : FloatKind.f64.format.order (ofInt (21 - 2 * ((11 : Nat) : Int))) 0 = some .lt := by decide +kernel
theorem and_low {y : Nat} (h : y < 2 ^ 63) : y &&& 9227875636482146303 = y % 2 ^ 52 := by
  have h1 : (9227875636482146303 : Nat) = 2 ^ 63 ||| (2 ^ 52 - 1) := by decide
  rw [h1]
  apply Nat.eq_of_testBit_eq; intro i
  rw [Nat.testBit_and, Nat.testBit_or, Nat.testBit_two_pow, Nat.testBit_two_pow_sub_one, Nat.testBit_mod_two_pow]
  by_cases hi : 63 = i
  · subst hi; rw [Nat.testBit_lt_two_pow h]; rfl
  · simp [hi, Bool.and_comm]
theorem or_exp (f e : Nat) (h : f < 2 ^ 52) : f ||| e * 2 ^ 52 = e * 2 ^ 52 + f := by
  have := Nat.two_pow_add_eq_or_of_lt h e
  rw [Nat.mul_comm] at this
  rw [this, Nat.or_comm]
end Fs
/-
  Contracts: IsInf, IsNaN, NaN, Inf, normalize, Frexp.
-/
namespace Go.Proofs.Ytlmmhmoihmlljaa
open Go Go.RowKit Fl Fs
set_option maxRecDepth 100000
attribute [local go_sem] run_store_float run_neg_float
theorem f64frombits_int (n : Int) (w : World) : (callFunc 62 #[.int .u64 n]).run Try.prog w = .ok (.value (.float .f64 n.toNat)) w := by
  rw [run_callFunc_extern (e := Extern.MathFloatBits.float64frombits) Try.func62 (by kernel_rfl) (by kernel_rfl) (by kernel_rfl) (by kernel_rfl)]
  rfl
theorem NaN_any (w : World) : Calls Try.prog 56 #[] w fun e w' => e = .returned (.float .f64 9221120237041090561) ∧ w = w' := by
  have h := fun w => f64frombits_int 9221120237041090561 w
  go_enter Try.func56, Try.ntmps56
  go_wp2
  go_ret
  exact ⟨rfl, rfl⟩
theorem Inf_up (w : World) : Calls Try.prog 57 #[.int .i64 1] w fun e w' => e = .returned (.float .f64 9218868437227405312) ∧ w = w' := by
  have h := fun w => f64frombits_int 9218868437227405312 w
  go_enter Try.func57, Try.ntmps57
  go_wp2
  go_ret
  exact ⟨rfl, rfl⟩
theorem Inf_down (w : World) : Calls Try.prog 57 #[.int .i64 (-1)] w fun e w' => e = .returned (.float .f64 18442240474082181120) ∧ w = w' := by
  have h := fun w => f64frombits_int 18442240474082181120 w
  go_enter Try.func57, Try.ntmps57
  go_wp2
  go_ret
  exact ⟨rfl, rfl⟩
theorem IsNaN_any (x : Nat) (w : World) : Calls Try.prog 76 #[.float .f64 x] w fun e w' => e = .returned (.bool (FloatKind.f64.format.order x x != some .eq)) ∧ w = w' := by
  go_enter Try.func76, Try.ntmps76
  go_wp2
  go_ret
  exact ⟨rfl, rfl⟩
theorem IsInf_up (x : Nat) (w : World) : Calls Try.prog 58 #[.float .f64 x, .int .i64 1] w fun e w' => e = .returned (.bool (FloatKind.f64.format.order x 9218868437227405311 == some .gt)) ∧ w = w' := by
  go_enter Try.func58, Try.ntmps58
  go_wp2
  go_ret
  exact ⟨rfl, rfl⟩
theorem IsInf_any (x : Nat) (hx : x < 2 ^ 64) (w : World) : Calls Try.prog 58 #[.float .f64 x, .int .i64 0] w fun e w' => e = .returned (.bool (FloatKind.f64.format.order (x % 2 ^ 63) 9218868437227405311 == some .gt)) ∧ w = w' := by
  have H := Lib.hid hx; clear hx
  go_enter Try.func58, Try.ntmps58
  go_wp2_with (go_at_call 39; refine (Abs_any _ H.out _).mono ?_; rintro e w' ⟨rfl, rfl⟩)
  go_ret
  exact ⟨rfl, rfl⟩
theorem normalize_small (x : Nat) (h0 : x ≠ 0) (hx : x < 2 ^ 52) (w : World) : Calls Try.prog 82 #[.float .f64 x] w fun e w' => e = .returned (.tuple #[.float .f64 (dblN 52 x), .int .i64 (-52)]) ∧ w = w' := by
  have hm := fun w => run_mul_ok (P := Try.prog) w 22 (mul_scale h0 hx)
  have ho : FloatKind.f64.format.order x 4503599627370496 = some .lt := by rw [order_pos (by omega) (by omega)]; congr 1; exact Nat.compare_eq_lt.2 hx
  have ha := Abs_any x (by omega)
  rw [Nat.mod_eq_of_lt (by omega)] at ha
  have HA := Lib.hid ha; clear ha h0 hx
  go_enter Try.func82, Try.ntmps82
  go_wp2_with (go_at_call 39; refine (HA.out _).mono ?_; rintro e w' ⟨rfl, rfl⟩)
  go_ret2
  exact ⟨rfl, rfl⟩
theorem normalize_big (x : Nat) (h0 : 2 ^ 52 ≤ x % 2 ^ 63) (hx : x < 2 ^ 64) (hf : fin x = true) (w : World) : Calls Try.prog 82 #[.float .f64 x] w fun e w' => e = .returned (.tuple #[.float .f64 x, .int .i64 0]) ∧ w = w' := by
  have ho : (FloatKind.f64.format.order (x % 2 ^ 63) 4503599627370496 == some .lt) = false := by
    rw [fin_iff] at hf
    have hf := of_decide_eq_true hf
    rw [order_pos hf (by omega)]
    have : compare (x % 2 ^ 63) 4503599627370496 ≠ .lt := by rw [Ne, Nat.compare_eq_lt]; omega
    simp [this]
  have H := Lib.hid hx; clear h0 hx hf
  go_enter Try.func82, Try.ntmps82
  go_wp2_with (go_at_call 39; refine (Abs_any _ H.out _).mono ?_; rintro e w' ⟨rfl, rfl⟩)
  go_ret2
  exact ⟨rfl, rfl⟩
theorem frexp_any (x : Nat) (h0 : x ≠ 0) (hx : x < 2047 * 2 ^ 52) (w : World) : Calls Try.prog 71 #[.float .f64 x] w fun e w' => e = .returned (.tuple #[.float .f64 (fr x), .int .i64 (ex x)]) ∧ w = w' := by
  obtain ⟨hn1, hn2⟩ := nrm_range h0 hx
  have hz : FloatKind.f64.format.order x 0 = some .gt := by rw [order_pos hx (by omega)]; congr 1; exact Nat.compare_eq_gt.2 (by omega)
  have hs := order_self (x := x) (fin_not_nan (by rw [fin_iff]; simp; omega))
  have hmax : (FloatKind.f64.format.order x 9218868437227405311 == some .gt) = false := by
    rw [order_pos hx (by omega)]
    have : compare x 9218868437227405311 ≠ .gt := by rw [Ne, Nat.compare_eq_gt]; omega
    simp [this]
  have hinf : Hid (∀ w, Calls Try.prog 58 #[.float .f64 x, .int .i64 0] w fun e w' => e = .returned (.bool false) ∧ w = w') := Lib.hid (by
    intro w
    have := IsInf_any x (by omega) w
    rw [Nat.mod_eq_of_lt (by omega), hmax] at this; exact this)
  have hnan : Hid (∀ w, Calls Try.prog 76 #[.float .f64 x] w fun e w' => e = .returned (.bool false) ∧ w = w') := Lib.hid (by
    intro w
    have := IsNaN_any x w
    rw [hs] at this; exact this)
  have hno : Hid (∀ w, Calls Try.prog 82 #[.float .f64 x] w fun e w' => e = .returned (.tuple #[.float .f64 (nrm x), .int .i64 (if x < 2 ^ 52 then -52 else 0)]) ∧ w = w') := Lib.hid (by
    intro w
    unfold nrm
    by_cases h : x < 2 ^ 52
    · rw [if_pos h, if_pos h]; exact normalize_small x h0 h w
    · rw [if_neg h, if_neg h]; exact normalize_big x (by omega) (by omega) (by rw [fin_iff]; simp; omega) w)
  have hb := fun w => f64bits (nrm x) w
  have b1 : bits .and .u64 ((nrm x : Int) / 4503599627370496) 2047 = (nrm x : Int) / 4503599627370496 := by
    have e : (nrm x : Int) / 4503599627370496 = ((nrm x / 2 ^ 52 : Nat) : Int) := by omega
    rw [e, u64_and _ _ (by omega) (by omega) (by omega) (by omega), Int.toNat_natCast]
    have h2 := Nat.and_two_pow_sub_one_eq_mod (nrm x / 2 ^ 52) 11
    have h3 : nrm x / 2 ^ 52 % 2 ^ 11 = nrm x / 2 ^ 52 := by omega
    rw [h3] at h2
    exact congrArg Int.ofNat h2
  have b2 : bits .or .u64 (bits .andNot .u64 (nrm x : Int) 9218868437227405312) 4602678819172646912 = ((fr x : Nat) : Int) := by
    rw [u64_andNot _ _ (by omega) (by omega) (by omega) (by omega), Int.toNat_natCast]
    have h2 : nrm x &&& (18446744073709551615 - (9218868437227405312 : Int).toNat) = nrm x % 2 ^ 52 := and_low (by omega)
    rw [h2, u64_or _ _ (by omega) (by omega) (by omega) (by omega), Int.toNat_natCast]
    have h3 := or_exp (nrm x % 2 ^ 52) 1022 (by omega)
    exact congrArg Int.ofNat h3
  have b3 := fun w => f64frombits_int ((fr x : Nat) : Int) w
  have hd : (if x < 2 ^ 52 then (-52 : Int) else 0) = -52 ∨ (if x < 2 ^ 52 then (-52 : Int) else 0) = 0 := by split <;> simp
  have hE : Hid (ex x = (if x < 2 ^ 52 then -52 else 0) + (((nrm x / 2 ^ 52 : Nat) : Int) - 1022)) := Lib.hid (by unfold ex; split <;> omega)
  generalize (if x < 2 ^ 52 then (-52 : Int) else 0) = d at *
  have hd1 : -52 ≤ d := by omega
  have hd2 : d ≤ 0 := by omega
  generalize fr x = F at *
  generalize nrm x = y at *
  have y1 : (y : Int) / 4503599627370496 ≤ 2046 := by omega
  have y2 : 0 ≤ (y : Int) / 4503599627370496 := by omega
  rw [Int.toNat_natCast] at b3
  clear hs hmax h0 hd hn1 hn2
  go_enter Try.func71, Try.ntmps71
  go_wp2_with (first
    | (go_at_call 58; refine (hinf.out _).mono ?_; rintro e w' ⟨rfl, rfl⟩)
    | (go_at_call 76; refine (hnan.out _).mono ?_; rintro e w' ⟨rfl, rfl⟩)
    | (go_at_call 82; refine (hno.out _).mono ?_; rintro e w' ⟨rfl, rfl⟩))
  go_ret2
  refine ⟨?_, rfl⟩
  rw [hE.out]
  have : d + ((y : Int) / 4503599627370496 - 1023 + 1) = d + (((y / 2 ^ 52 : Nat) : Int) - 1022) := by omega
  exact congrArg (fun n => Ending.returned (.tuple #[.float .f64 F, .int .i64 n])) this
theorem Frexp_any (x : Nat) (h0 : x ≠ 0) (hx : x < 2047 * 2 ^ 52) (w : World) : Calls Try.prog 59 #[.float .f64 x] w fun e w' => e = .returned (.tuple #[.float .f64 (fr x), .int .i64 (ex x)]) ∧ w = w' := by
  have H := Lib.hid (frexp_any x h0 hx); clear h0 hx
  go_enter Try.func59, Try.ntmps59
  go_wp2_with (go_at_call 71; refine (H.out _).mono ?_; rintro e w' ⟨rfl, rfl⟩)
  go_ret2
  exact ⟨rfl, rfl⟩
end Go.Proofs.Ytlmmhmoihmlljaa
/-
  Floats, plainly: words by their keys; rounding keeps the order.
-/
namespace Fp
open Ieee
/-- x over 2 to the power d, to the nearest, ties to even -/
def R (x d : Nat) : Nat := x / 2 ^ d + (if 2 ^ d < 2 * (x % 2 ^ d) ∨ (2 ^ d = 2 * (x % 2 ^ d) ∧ x / 2 ^ d % 2 = 1) then 1 else 0)
theorem R_big {x d : Nat} (h : 2 * x < 2 ^ d) : R x d = 0 := by
  unfold R
  have h1 : x < 2 ^ d := by omega
  rw [Nat.div_eq_of_lt h1, Nat.mod_eq_of_lt h1, if_neg (by omega)]
theorem lt_log (x : Nat) : x < 2 ^ (x.log2 + 1) := Nat.lt_log2_self
theorem cut_eq (neg : Bool) (x d : Nat) : Toward.even.cut neg x d = R x d := by
  have key : Toward.even.cut neg x d = R x (min d (x.log2 + 2)) := by
    unfold Toward.cut R
    simp only [Nat.one_shiftLeft]
    generalize 2 ^ min d (x.log2 + 2) = g
    congr 1
    by_cases h : g < 2 * (x % g) ∨ (g = 2 * (x % g) ∧ x / g % 2 = 1)
    · rw [if_pos h]
      rcases h with h | ⟨h, h'⟩
      · simp [h]
      · simp [← h, h']
    · rw [if_neg h]
      have h1 : ¬ g < 2 * (x % g) := fun c => h (.inl c)
      have h2 : ¬ (g = 2 * (x % g) ∧ x / g % 2 = 1) := fun c => h (.inr c)
      have : (decide (g < 2 * (x % g)) || (g == 2 * (x % g) && x / g % 2 == 1)) = false := by
        simp [h1]
        intro c; simp at h2; have := h2 c; omega
      rw [this]; rfl
  rw [key]
  by_cases h : d ≤ x.log2 + 2
  · rw [Nat.min_eq_left h]
  · have h1 := lt_log x
    have e : 2 ^ (x.log2 + 2) = 2 * 2 ^ (x.log2 + 1) := by rw [Nat.pow_succ 2 (x.log2 + 1)]; omega
    have h2 : 2 ^ (x.log2 + 2) ≤ 2 ^ d := Nat.pow_le_pow_right (by omega) (by omega)
    rw [Nat.min_eq_right (by omega), R_big (by omega), R_big (by omega)]
theorem R_mono {x y d : Nat} (h : x ≤ y) : R x d ≤ R y d := by
  unfold R
  have hg : 0 < 2 ^ d := Nat.pow_pos (by omega)
  generalize 2 ^ d = g at *
  have h1 : x / g ≤ y / g := Nat.div_le_div_right h
  rcases Nat.lt_or_ge (x / g) (y / g) with hl | hl
  · split <;> split <;> omega
  · have e : x / g = y / g := by omega
    have ex := Nat.div_add_mod x g
    have ey := Nat.div_add_mod y g
    rw [e] at ex
    have hm : x % g ≤ y % g := by omega
    rw [e]
    generalize x % g = u at *
    generalize y % g = v at *
    split
    · rw [if_pos (by omega)]
      omega
    · omega
theorem R_scale (x d k : Nat) : R (x * 2 ^ k) (d + k) = R x d := by
  unfold R
  have hk : 0 < 2 ^ k := Nat.pow_pos (by omega)
  rw [Nat.pow_add, Nat.mul_div_mul_right _ _ hk, Nat.mul_mod_mul_right]
  generalize 2 ^ d = g
  generalize 2 ^ k = s at *
  have e1 : g * s < 2 * (x % g * s) ↔ g < 2 * (x % g) := by
    rw [← Nat.mul_assoc]
    exact Nat.mul_lt_mul_right hk
  have e2 : g * s = 2 * (x % g * s) ↔ g = 2 * (x % g) := by
    rw [← Nat.mul_assoc]
    exact Nat.mul_left_inj (by omega)
  simp only [e1, e2]
theorem R_zero (x : Nat) : R x 0 = x := by
  unfold R
  simp [Nat.mod_one]
theorem R_lo {x d b : Nat} (h : b * 2 ^ d ≤ x) : b ≤ R x d := by
  unfold R
  have hg : 0 < 2 ^ d := Nat.pow_pos (by omega)
  have := (Nat.le_div_iff_mul_le hg).2 h
  omega
theorem R_hi {x d b : Nat} (h : x < b * 2 ^ d) : R x d ≤ b := by
  unfold R
  have hg : 0 < 2 ^ d := Nat.pow_pos (by omega)
  have := (Nat.div_lt_iff_lt_mul hg).2 h
  split <;> omega
/-- the rung of a magnitude -/
def rung (m : Nat) (p : Int) : Nat := if m = 0 then 0 else
  min ((max (p + m.log2 - 52) (-1074) + 1074).toNat * 4503599627370496 + R (m <<< (p - max (p + m.log2 - 52) (-1074)).toNat) (max (p + m.log2 - 52) (-1074) - p).toNat) 9218868437227405312
theorem lp_eq : double.leastPlace = -1074 := by decide
theorem bn_eq : double.binade = 4503599627370496 := by decide
theorem inf_eq : double.infRung = 9218868437227405312 := by decide
theorem nearest_eq (neg : Bool) (m : Nat) (p : Int) : double.nearest neg m p = double.word neg (rung m p) := by
  unfold Format.nearest rung
  by_cases h : m = 0
  · rw [if_pos h, if_pos h]
  · rw [if_neg h, if_neg h]
    simp only [cut_eq, lp_eq, bn_eq, inf_eq]
    rfl
/-- at a place that is low enough -/
theorem rung_low (m : Nat) (p : Int) (hm : m ≠ 0) (hp : p ≤ -1074) : rung m p = min ((max (m.log2 - 52) (-1074 - p).toNat - (-1074 - p).toNat) * 4503599627370496 + R m (max (m.log2 - 52) (-1074 - p).toNat)) 9218868437227405312 := by
  unfold rung
  rw [if_neg hm]
  have e1 : (p - max (p + m.log2 - 52) (-1074)).toNat = 0 := by omega
  have e2 : (max (p + m.log2 - 52) (-1074) - p).toNat = max (m.log2 - 52) (-1074 - p).toNat := by omega
  have e3 : (max (p + m.log2 - 52) (-1074) + 1074).toNat = max (m.log2 - 52) (-1074 - p).toNat - (-1074 - p).toNat := by omega
  rw [e1, e2, e3, Nat.shiftLeft_zero]
theorem log2_scale (m k : Nat) (hm : m ≠ 0) : (m * 2 ^ k).log2 = m.log2 + k := by
  rw [Nat.log2_eq_iff (by have := Nat.pow_pos (n := k) (show 0 < 2 by omega); exact Nat.mul_ne_zero hm (by omega))]
  have h1 := Nat.log2_self_le hm
  have h2 := lt_log m
  have hk : 0 < 2 ^ k := Nat.pow_pos (by omega)
  constructor
  · rw [Nat.pow_add]; exact Nat.mul_le_mul_right _ h1
  · rw [show m.log2 + k + 1 = (m.log2 + 1) + k by omega, Nat.pow_add]; exact Nat.mul_lt_mul_of_pos_right h2 hk
theorem rung_scale (m k : Nat) (p : Int) : rung (m * 2 ^ k) (p - k) = rung m p := by
  by_cases hm : m = 0
  · subst hm; simp [rung]
  · have hk : 0 < 2 ^ k := Nat.pow_pos (by omega)
    have hm2 : m * 2 ^ k ≠ 0 := Nat.mul_ne_zero hm (by omega)
    unfold rung
    rw [if_neg hm, if_neg hm2, log2_scale m k hm]
    have el : max (p - k + ((m.log2 + k : Nat) : Int) - 52) (-1074) = max (p + m.log2 - 52) (-1074) := by push_cast; congr 1; omega
    rw [el]
    generalize max (p + m.log2 - 52) (-1074) = l
    congr 2
    by_cases h1 : l ≤ p - k
    · have e1 : (l - (p - (k : Int))).toNat = 0 := by omega
      have e2 : (l - p).toNat = 0 := by omega
      rw [e1, e2, R_zero, R_zero, Nat.shiftLeft_eq, Nat.shiftLeft_eq, Nat.mul_assoc, ← Nat.pow_add]
      congr 2; omega
    · by_cases h2 : l ≤ p
      · have e2 : (l - p).toNat = 0 := by omega
        have e3 : (p - (k : Int) - l).toNat = 0 := by omega
        obtain ⟨s, hs⟩ : ∃ s : Nat, s = (p - l).toNat := ⟨_, rfl⟩
        have e4 : (l - (p - (k : Int))).toNat = 0 + (k - s) := by omega
        rw [e2, e3, e4, ← hs, Nat.shiftLeft_zero, Nat.shiftLeft_eq, ← R_scale (m * 2 ^ s) 0 (k - s), Nat.mul_assoc, ← Nat.pow_add]
        congr 3; omega
      · have e3 : (p - (k : Int) - l).toNat = 0 := by omega
        have e5 : (p - l).toNat = 0 := by omega
        have e4 : (l - (p - (k : Int))).toNat = (l - p).toNat + k := by omega
        rw [e3, e4, e5, Nat.shiftLeft_zero, Nat.shiftLeft_zero, R_scale]
theorem min_mono {a b c : Nat} (h : a ≤ b) : min a c ≤ min b c := by omega
theorem two_steps {a b x y : Nat} (h1 : 2 ^ 52 ≤ y) (h2 : x ≤ 2 ^ 53) (h3 : a + 1 ≤ b) : a * 4503599627370496 + x ≤ b * 4503599627370496 + y := by
  have e : 2 ^ 53 = 4503599627370496 + 2 ^ 52 := rfl
  have h4 := Nat.mul_le_mul_right 4503599627370496 h3
  rw [Nat.add_mul, Nat.one_mul] at h4
  calc a * 4503599627370496 + x ≤ a * 4503599627370496 + 2 ^ 53 := Nat.add_le_add_left h2 _
    _ = a * 4503599627370496 + 4503599627370496 + 2 ^ 52 := by rw [e, Nat.add_assoc]
    _ ≤ b * 4503599627370496 + y := Nat.add_le_add h4 h1
theorem rung_mono_low {m n : Nat} {p : Int} (hp : p ≤ -1074) (h : m ≤ n) : rung m p ≤ rung n p := by
  by_cases hm : m = 0
  · subst hm; simp [rung]
  · have hn : n ≠ 0 := by omega
    rw [rung_low m p hm hp, rung_low n p hn hp]
    generalize (-1074 - p).toNat = d0
    have hlog : m.log2 ≤ n.log2 := by
      rw [Nat.le_log2 hn]
      exact Nat.le_trans (Nat.log2_self_le hm) h
    have h1 : n.log2 - 52 ≤ max (n.log2 - 52) d0 := Nat.le_max_left ..
    refine min_mono ?_
    rcases Nat.lt_or_ge (max (m.log2 - 52) d0) (max (n.log2 - 52) d0) with hd | hd
    · have e : max (n.log2 - 52) d0 = n.log2 - 52 := by omega
      have k1 : 2 ^ 52 ≤ R n (max (n.log2 - 52) d0) := by
        refine R_lo ?_
        rw [e, ← Nat.pow_add, show 52 + (n.log2 - 52) = n.log2 by omega]
        exact Nat.log2_self_le hn
      have k2 : R m (max (m.log2 - 52) d0) ≤ 2 ^ 53 := by
        refine R_hi ?_
        rw [← Nat.pow_add]
        exact Nat.lt_of_lt_of_le (lt_log m) (Nat.pow_le_pow_right (by omega) (by omega))
      have k3 : max (m.log2 - 52) d0 - d0 + 1 ≤ max (n.log2 - 52) d0 - d0 := by omega
      exact two_steps k1 k2 k3
    · have e : max (m.log2 - 52) d0 = max (n.log2 - 52) d0 := by omega
      rw [e]
      exact Nat.add_le_add_left (R_mono h) _
/-- rounding never turns the order round -/
theorem rung_mono {m n : Nat} {p : Int} (h : m ≤ n) : rung m p ≤ rung n p := by
  have h1 := rung_scale m (p + 1074).toNat p
  have h2 := rung_scale n (p + 1074).toNat p
  rw [← h1, ← h2]
  exact rung_mono_low (by omega) (Nat.mul_le_mul_right _ h)
end Fp
namespace Fp
open Ieee
/-- the magnitude of a rung, in units of the least one -/
def val (B r : Nat) : Nat := if r < B then r else (B + r % B) * 2 ^ (r / B - 1)
theorem val_succ {B r : Nat} (hB : 1 < B) : val B r < val B (r + 1) := by
  unfold val
  by_cases h1 : r + 1 < B
  · rw [if_pos (by omega), if_pos h1]; omega
  · by_cases h2 : r < B
    · have e : r + 1 = B := by omega
      rw [if_pos h2, if_neg h1, e, Nat.mod_self, Nat.div_self (by omega)]
      simp; omega
    · rw [if_neg h2, if_neg h1]
      have hd := Nat.div_add_mod r B
      have hq := Nat.mod_lt r (show 0 < B by omega)
      have he : 1 ≤ r / B := (Nat.le_div_iff_mul_le (by omega)).2 (by omega)
      generalize r / B = e at *
      generalize r % B = q at *
      have hp : 0 < 2 ^ (e - 1) := Nat.pow_pos (by omega)
      by_cases h3 : q + 1 < B
      · have e1 : (r + 1) / B = e := by
          rw [← hd, Nat.add_assoc, Nat.mul_add_div (by omega), Nat.div_eq_of_lt h3, Nat.add_zero]
        have e2 : (r + 1) % B = q + 1 := by
          rw [← hd, Nat.add_assoc, Nat.mul_add_mod, Nat.mod_eq_of_lt h3]
        rw [e1, e2]
        exact Nat.mul_lt_mul_of_pos_right (by omega) hp
      · have hqB : q + 1 = B := by omega
        have e0 : r + 1 = B * (e + 1) := by rw [Nat.mul_add, Nat.mul_one]; omega
        have e1 : (r + 1) / B = e + 1 := by rw [e0, Nat.mul_div_cancel_left _ (by omega)]
        have e2 : (r + 1) % B = 0 := by rw [e0, Nat.mul_mod_right]
        rw [e1, e2, show e + 1 - 1 = (e - 1) + 1 by omega, Nat.pow_succ]
        have : (B + 0) * (2 ^ (e - 1) * 2) = (B + B) * 2 ^ (e - 1) := by
          rw [Nat.add_zero, Nat.mul_comm (2 ^ (e - 1)) 2, ← Nat.mul_assoc, Nat.mul_two]
        rw [this]
        exact Nat.mul_lt_mul_of_pos_right (by omega) hp
theorem val_lt {B r s : Nat} (hB : 1 < B) (h : r < s) : val B r < val B s := by
  induction s with
  | zero => omega
  | succ s ih =>
    by_cases e : r = s
    · subst e; exact val_succ hB
    · exact Nat.lt_trans (ih (by omega)) (val_succ hB)
theorem val_le {B r s : Nat} (hB : 1 < B) (h : r ≤ s) : val B r ≤ val B s := by
  by_cases e : r = s
  · subst e; exact Nat.le_refl _
  · exact Nat.le_of_lt (val_lt hB (by omega))
theorem val_zero {B : Nat} (hB : 1 < B) : val B 0 = 0 := by unfold val; rw [if_pos (by omega)]
abbrev BB : Nat := 4503599627370496
abbrev INF : Nat := 9218868437227405312
abbrev SG : Nat := 9223372036854775808
theorem sg_eq : double.signWeight = SG := by decide
theorem BB1 : 1 < BB := by decide
def rg (w : Nat) : Nat := w % SG
def ng (w : Nat) : Bool := w / SG % 2 == 1
def key (w : Nat) : Int := if ng w then -(rg w : Int) else rg w
/-- what a finite word stands for, in units of the least one -/
def sv (w : Nat) : Int := if ng w then -(val BB (rg w) : Int) else val BB (rg w)
def nan (w : Nat) : Prop := INF < rg w
def fin (w : Nat) : Prop := rg w < INF
theorem read_num {w : Nat} (h : fin w) : ∃ m p, double.read w = .number (ng w) m p ∧ -1074 ≤ p ∧ m * 2 ^ (p + 1074).toNat = val BB (rg w) := by
  unfold fin at h
  unfold Format.read
  simp only [sg_eq, lp_eq, bn_eq, inf_eq]
  show ∃ m p, (if rg w < BB then Datum.number (ng w) (rg w) (-1074) else if rg w < INF then Datum.number (ng w) (BB + rg w % BB) (-1074 + ((rg w / BB - 1 : Nat) : Int)) else if rg w = INF then Datum.infinity (ng w) else Datum.nan (ng w) (rg w - INF)) = _ ∧ _
  by_cases h1 : rg w < BB
  · rw [if_pos h1]
    refine ⟨_, _, rfl, by omega, ?_⟩
    unfold val; rw [if_pos h1]; simp
  · rw [if_neg h1, if_pos h]
    refine ⟨_, _, rfl, by omega, ?_⟩
    unfold val; rw [if_neg h1]
    congr 2; omega
theorem read_inf {w : Nat} (h : rg w = INF) : double.read w = .infinity (ng w) := by
  unfold Format.read
  simp only [sg_eq, lp_eq, bn_eq, inf_eq]
  show (if rg w < BB then Datum.number (ng w) (rg w) (-1074) else if rg w < INF then Datum.number (ng w) (BB + rg w % BB) (-1074 + ((rg w / BB - 1 : Nat) : Int)) else if rg w = INF then Datum.infinity (ng w) else Datum.nan (ng w) (rg w - INF)) = _
  rw [if_neg (by rw [h]; decide), if_neg (by rw [h]; decide), if_pos h]
theorem read_nan {w : Nat} (h : nan w) : ∃ s t, double.read w = .nan s t := by
  unfold nan at h
  unfold Format.read
  simp only [sg_eq, lp_eq, bn_eq, inf_eq]
  show ∃ s t, (if rg w < BB then Datum.number (ng w) (rg w) (-1074) else if rg w < INF then Datum.number (ng w) (BB + rg w % BB) (-1074 + ((rg w / BB - 1 : Nat) : Int)) else if rg w = INF then Datum.infinity (ng w) else Datum.nan (ng w) (rg w - INF)) = _
  have : BB < INF := by decide
  rw [if_neg (by omega), if_neg (by omega), if_neg (by omega)]
  exact ⟨_, _, rfl⟩
theorem rung_le (m : Nat) (p : Int) : rung m p ≤ INF := by
  unfold rung
  split
  · exact Nat.zero_le _
  · exact Nat.min_le_right ..
theorem word_rg {s : Bool} {r : Nat} (h : r ≤ INF) : rg (double.word s r) = r ∧ ng (double.word s r) = s := by
  unfold Format.word rg ng
  rw [sg_eq]
  have h2 : r < SG := Nat.lt_of_le_of_lt h (by decide)
  have h3 : 0 < SG := by decide
  cases s
  · simp only [Bool.false_eq_true, if_false]
    rw [Nat.mod_eq_of_lt h2, Nat.div_eq_of_lt h2]
    exact ⟨rfl, rfl⟩
  · simp only [if_true]
    rw [Nat.add_mod_left, Nat.mod_eq_of_lt h2, Nat.add_div_left _ h3, Nat.div_eq_of_lt h2]
    exact ⟨rfl, rfl⟩
/-- the key of what a number is rounded to -/
def KK (v : Int) : Int := if v < 0 then -(rung v.natAbs (-1074) : Int) else rung v.natAbs (-1074)
theorem KK_mono {v w : Int} (h : v ≤ w) : KK v ≤ KK w := by
  unfold KK
  by_cases h1 : v < 0
  · rw [if_pos h1]
    by_cases h2 : w < 0
    · rw [if_pos h2]
      have := rung_mono (p := -1074) (show w.natAbs ≤ v.natAbs by omega)
      omega
    · rw [if_neg h2]
      omega
  · rw [if_neg h1, if_neg (by omega)]
    have := rung_mono (p := -1074) (show v.natAbs ≤ w.natAbs by omega)
    omega
theorem signed_mul (s : Bool) (m u k : Nat) : signed s m u * ((2 ^ k : Nat) : Int) = if s then -((m * 2 ^ (u + k) : Nat) : Int) else ((m * 2 ^ (u + k) : Nat) : Int) := by
  unfold signed
  rw [Nat.shiftLeft_eq]
  cases s
  · simp only [Bool.false_eq_true, if_false]
    rw [← Int.natCast_mul, Nat.mul_assoc, ← Nat.pow_add]
  · simp only [if_true]
    rw [Int.neg_mul, ← Int.natCast_mul, Nat.mul_assoc, ← Nat.pow_add]
theorem write_key (s : Bool) (t : Nat) (p : Int) (v : Int) (hp : -1074 ≤ p) (ht : t * 2 ^ (p + 1074).toNat = v.natAbs) (hs : (v < 0 → s = true) ∧ (0 < v → s = false)) : ∃ r, double.write (.number s t p) = double.word s r ∧ r ≤ INF ∧ key (double.word s r) = KK v ∧ (r = 0 ↔ KK v = 0) := by
  refine ⟨rung t p, nearest_eq s t p, rung_le _ _, ?_, ?_⟩
  all_goals
    have e : rung t p = rung v.natAbs (-1074) := by
      rw [← rung_scale t (p + 1074).toNat p, ht]
      congr 1; omega
    have h0 : v = 0 → rung v.natAbs (-1074) = 0 := fun h => by subst h; rfl
    have hw := word_rg (s := s) (rung_le t p)
  · unfold key
    rw [hw.1, hw.2, e]
    unfold KK
    by_cases h1 : v < 0
    · rw [if_pos h1, hs.1 h1]; rfl
    · rw [if_neg h1]
      by_cases h2 : v = 0
      · rw [h0 h2]; cases s <;> rfl
      · rw [hs.2 (by omega)]; rfl
  · rw [e]; unfold KK
    split <;> omega
theorem sum_key {x y : Nat} (hx : fin x) (hy : fin y) : ∃ w, double.add x y = some w ∧ key w = KK (sv x + sv y) ∧ rg w ≤ INF := by
  obtain ⟨m, i, e1, i1, v1⟩ := read_num hx
  obtain ⟨n, j, e2, j1, v2⟩ := read_num hy
  unfold Format.add
  rw [e1, e2]
  unfold Datum.sum
  simp only [Option.map_some]
  obtain ⟨b, hb⟩ : ∃ b, b = min i j := ⟨_, rfl⟩
  rw [← hb]
  obtain ⟨t, ht⟩ : ∃ t, t = signed (ng x) m (i - b).toNat + signed (ng y) n (j - b).toNat := ⟨_, rfl⟩
  rw [← ht]
  have ev : t * ((2 ^ (b + 1074).toNat : Nat) : Int) = sv x + sv y := by
    rw [ht, Int.add_mul, signed_mul, signed_mul, show (i - b).toNat + (b + 1074).toNat = (i + 1074).toNat by omega, show (j - b).toNat + (b + 1074).toNat = (j + 1074).toNat by omega, v1, v2]
    rfl
  have hp : (0 : Int) < ((2 ^ (b + 1074).toNat : Nat) : Int) := by
    have : 0 < 2 ^ (b + 1074).toNat := Nat.pow_pos (by omega)
    omega
  have hab : t.natAbs * 2 ^ (b + 1074).toNat = (sv x + sv y).natAbs := by
    rw [← ev, Int.natAbs_mul, Int.natAbs_natCast]
  have hneg : sv x + sv y < 0 ↔ t < 0 := by
    rw [← ev]
    constructor
    · intro h
      rcases Int.lt_or_le t 0 with h1 | h1
      · exact h1
      · exact absurd (Int.mul_nonneg h1 (Int.le_of_lt hp)) (by omega)
    · intro h; exact Int.mul_neg_of_neg_of_pos h hp
  have hpos : 0 < sv x + sv y ↔ 0 < t := by
    rw [← ev]
    constructor
    · intro h
      rcases Int.lt_or_le 0 t with h1 | h1
      · exact h1
      · exact absurd (Int.mul_nonneg_of_nonpos_of_nonpos h1 (show -((2 ^ (b + 1074).toNat : Nat) : Int) ≤ 0 by omega)) (by rw [Int.mul_neg]; omega)
    · intro h; exact Int.mul_pos h hp
  obtain ⟨r, q1, q2, q3, _⟩ := write_key (if t = 0 then ng x && ng y else decide (t < 0)) t.natAbs b (sv x + sv y) (by omega) hab ⟨fun h => by
    have := hneg.1 h
    rw [if_neg (by omega)]; exact decide_eq_true this, fun h => by
    have := hpos.1 h
    rw [if_neg (by omega)]; exact decide_eq_false (by omega)⟩
  refine ⟨_, rfl, ?_, ?_⟩
  · rw [q1]; exact q3
  · rw [q1, (word_rg q2).1]; exact q2
end Fp
namespace Fp
open Ieee
theorem cmp_congr {a b c d : Int} (h1 : a < b ↔ c < d) (h2 : a = b ↔ c = d) : compare a b = compare c d := by
  show compareOfLessAndEq a b = compareOfLessAndEq c d
  unfold compareOfLessAndEq
  by_cases e1 : a < b
  · rw [if_pos e1, if_pos (h1.1 e1)]
  · rw [if_neg e1, if_neg (fun h => e1 (h1.2 h))]
    by_cases e2 : a = b
    · rw [if_pos e2, if_pos (h2.1 e2)]
    · rw [if_neg e2, if_neg (fun h => e2 (h2.2 h))]
/-- what a key stands for -/
def kv (k : Int) : Int := if k < 0 then -(val BB k.natAbs : Int) else val BB k.natAbs
theorem kv_lt {a b : Int} (h : a < b) : kv a < kv b := by
  unfold kv
  by_cases h1 : a < 0
  · rw [if_pos h1]
    by_cases h2 : b < 0
    · rw [if_pos h2]
      have := val_lt BB1 (show b.natAbs < a.natAbs by omega)
      omega
    · rw [if_neg h2]
      have := val_lt BB1 (show 0 < a.natAbs by omega)
      omega
  · rw [if_neg h1, if_neg (by omega)]
    have := val_lt BB1 (show a.natAbs < b.natAbs by omega)
    omega
theorem kv_le {a b : Int} (h : a ≤ b) : kv a ≤ kv b := by
  by_cases e : a = b
  · subst e; exact Int.le_refl _
  · exact Int.le_of_lt (kv_lt (by omega))
theorem sv_key (w : Nat) : sv w = kv (key w) := by
  unfold sv kv key
  cases h : ng w
  · simp only [Bool.false_eq_true, if_false]
    rw [if_neg (by omega), Int.natAbs_natCast]
  · simp only [if_true]
    by_cases h0 : rg w = 0
    · rw [h0, val_zero BB1]; simp [val_zero BB1]
    · rw [if_pos (by omega), Int.natAbs_neg, Int.natAbs_natCast]
theorem key_inf {w : Nat} (h : rg w = INF) : key w = if ng w then -(INF : Int) else INF := by unfold key; rw [h]
theorem key_fin {w : Nat} (h : fin w) : -(INF : Int) < key w ∧ key w < INF := by
  unfold fin at h; unfold key; split <;> omega
theorem order_key {x y : Nat} (hx : rg x ≤ INF) (hy : rg y ≤ INF) : double.order x y = some (compare (key x) (key y)) := by
  unfold Format.order
  by_cases fx : fin x
  · by_cases fy : fin y
    · obtain ⟨m, i, e1, i1, v1⟩ := read_num fx
      obtain ⟨n, j, e2, j1, v2⟩ := read_num fy
      rw [e1, e2]
      unfold Datum.order
      simp only
      congr 1
      obtain ⟨b, hb⟩ : ∃ b, b = min i j := ⟨_, rfl⟩
      rw [← hb]
      have ex : signed (ng x) m (i - b).toNat * ((2 ^ (b + 1074).toNat : Nat) : Int) = sv x := by
        rw [signed_mul, show (i - b).toNat + (b + 1074).toNat = (i + 1074).toNat by omega, v1]; rfl
      have ey : signed (ng y) n (j - b).toNat * ((2 ^ (b + 1074).toNat : Nat) : Int) = sv y := by
        rw [signed_mul, show (j - b).toNat + (b + 1074).toNat = (j + 1074).toNat by omega, v2]; rfl
      have hp : (0 : Int) < ((2 ^ (b + 1074).toNat : Nat) : Int) := by
        have : 0 < 2 ^ (b + 1074).toNat := Nat.pow_pos (by omega)
        omega
      generalize signed (ng x) m (i - b).toNat = s at *
      generalize signed (ng y) n (j - b).toNat = t at *
      rw [sv_key] at ex ey
      refine cmp_congr ?_ ?_
      · constructor
        · intro h
          have := Int.mul_lt_mul_of_pos_right h hp
          rw [ex, ey] at this
          rcases Int.lt_or_le (key x) (key y) with c | c
          · exact c
          · have := kv_le c; omega
        · intro h
          have := kv_lt h
          rw [← ex, ← ey] at this
          exact Int.lt_of_mul_lt_mul_right this (Int.le_of_lt hp)
      · constructor
        · intro h
          rw [h, ey] at ex
          rcases Int.lt_trichotomy (key x) (key y) with c | c | c
          · have := kv_lt c; omega
          · exact c
          · have := kv_lt c; omega
        · intro h
          rw [h, ← ey] at ex
          exact Int.eq_of_mul_eq_mul_right (by omega) ex
    · have iy : rg y = INF := by unfold fin at fy; omega
      obtain ⟨m, i, e1, i1, v1⟩ := read_num fx
      rw [e1, read_inf iy]
      unfold Datum.order
      simp only
      congr 1
      have k1 := (key_fin fx).1
      have k2 := (key_fin fx).2
      rw [key_inf iy]
      clear iy fy hy hx fx e1 v1
      generalize ((INF : Nat) : Int) = I at *
      cases ng y
      · exact ((show compare (0 : Int) 1 = .lt from rfl).symm.trans (cmp_congr (by simp; omega) (by simp; omega)))
      · exact ((show compare (1 : Int) 0 = .gt from rfl).symm.trans (cmp_congr (by simp; omega) (by simp; omega)))
  · have ix : rg x = INF := by unfold fin at fx; omega
    by_cases fy : fin y
    · obtain ⟨m, i, e1, i1, v1⟩ := read_num fy
      rw [e1, read_inf ix]
      unfold Datum.order
      simp only
      congr 1
      have k1 := (key_fin fy).1
      have k2 := (key_fin fy).2
      rw [key_inf ix]
      clear ix fx hy hx fy e1 v1
      generalize ((INF : Nat) : Int) = I at *
      cases ng x
      · exact ((show compare (1 : Int) 0 = .gt from rfl).symm.trans (cmp_congr (by simp; omega) (by simp; omega)))
      · exact ((show compare (0 : Int) 1 = .lt from rfl).symm.trans (cmp_congr (by simp; omega) (by simp; omega)))
    · have iy : rg y = INF := by unfold fin at fy; omega
      rw [read_inf ix, read_inf iy, key_inf ix, key_inf iy]
      cases ng x <;> cases ng y <;> rfl
theorem order_nan {x y : Nat} (h : nan x ∨ nan y) : double.order x y = none := by
  unfold Format.order
  rcases h with h | h
  · obtain ⟨s, t, e⟩ := read_nan h
    rw [e]; rfl
  · obtain ⟨s, t, e⟩ := read_nan h
    rw [e]; cases double.read x <;> rfl
end Fp
namespace Fp
open Ieee
theorem fin_rg (x : Nat) : Fl.fin x = decide (rg x < INF) := by rw [Fs.fin_iff]; rfl
theorem lt_key {x y : Nat} (hx : rg x ≤ INF) (hy : rg y ≤ INF) : (Go.FloatKind.f64.format.order x y == some .lt) = decide (key x < key y) := by
  rw [show Go.FloatKind.f64.format.order x y = some (compare (key x) (key y)) from order_key hx hy]
  by_cases h : key x < key y
  · rw [decide_eq_true h, Int.compare_eq_lt.2 h]; rfl
  · rw [decide_eq_false h]
    cases hc : compare (key x) (key y)
    · exact absurd (Int.compare_eq_lt.1 hc) h
    · rfl
    · rfl
theorem gt_key {x y : Nat} (hx : rg x ≤ INF) (hy : rg y ≤ INF) : (Go.FloatKind.f64.format.order x y == some .gt) = decide (key y < key x) := by
  rw [show Go.FloatKind.f64.format.order x y = some (compare (key x) (key y)) from order_key hx hy]
  by_cases h : key y < key x
  · rw [decide_eq_true h, Int.compare_eq_gt.2 h]; rfl
  · rw [decide_eq_false h]
    cases hc : compare (key x) (key y)
    · rfl
    · rfl
    · exact absurd (Int.compare_eq_gt.1 hc) h
theorem eq_key {x y : Nat} (hx : rg x ≤ INF) (hy : rg y ≤ INF) : (Go.FloatKind.f64.format.order x y == some .eq) = decide (key x = key y) := by
  rw [show Go.FloatKind.f64.format.order x y = some (compare (key x) (key y)) from order_key hx hy]
  by_cases h : key x = key y
  · rw [decide_eq_true h, Int.compare_eq_eq.2 h]; rfl
  · rw [decide_eq_false h]
    cases hc : compare (key x) (key y)
    · rfl
    · exact absurd (Int.compare_eq_eq.1 hc) h
    · rfl
theorem wrd {x : Nat} (h : x < 18446744073709551616) : x = if ng x then SG + rg x else rg x := by
  unfold ng rg
  have h1 := Nat.div_add_mod x SG
  have h2 : x / SG < 2 := (Nat.div_lt_iff_lt_mul (by decide)).2 h
  have h3 : x / SG = 0 ∨ x / SG = 1 := by
    generalize x / SG = q at *
    omega
  rcases h3 with h3 | h3
  · rw [h3] at h1 ⊢
    simp only [Nat.zero_mod]
    rw [if_neg (by decide)]; omega
  · rw [h3] at h1 ⊢
    rw [if_pos (by decide)]; omega
theorem parts {x r : Nat} (s : Bool) (hr : r ≤ INF) (h : x = if s then SG + r else r) : rg x = r ∧ ng x = s ∧ key x = (if s then -(r : Int) else r) ∧ x < 18446744073709551616 := by
  have := word_rg (s := s) hr
  have e : double.word s r = x := by rw [h]; unfold Format.word; rw [sg_eq]
  rw [e] at this
  refine ⟨this.1, this.2, ?_, ?_⟩
  · unfold key; rw [this.1, this.2]
  · have hI : (INF : Nat) = 9218868437227405312 := rfl
    have hS : (SG : Nat) = 9223372036854775808 := rfl
    rw [h]; cases s <;> simp <;> omega
theorem neg_parts {x : Nat} (hx : x < 18446744073709551616) : rg (Go.Op.negFloat .f64 x) = rg x ∧ ng (Go.Op.negFloat .f64 x) = !ng x ∧ Go.Op.negFloat .f64 x < 18446744073709551616 := by
  have e : Go.Op.negFloat .f64 x = x ^^^ 2 ^ 63 := rfl
  rw [e]
  have h1 : (x ^^^ 2 ^ 63) % 2 ^ 63 = x % 2 ^ 63 := by rw [Nat.xor_mod_two_pow, Nat.mod_self, Nat.xor_zero]
  have h2 : (x ^^^ 2 ^ 63) / 2 ^ 63 = x / 2 ^ 63 ^^^ 1 := by rw [Nat.xor_div_two_pow, Nat.div_self (by decide)]
  have h3 : x / 2 ^ 63 < 2 := (Nat.div_lt_iff_lt_mul (by decide)).2 (by omega)
  have h4 : (x ^^^ 2 ^ 63) / 2 ^ 63 < 2 := by
    rw [h2]
    obtain h | h : x / 2 ^ 63 = 0 ∨ x / 2 ^ 63 = 1 := by omega
    all_goals (rw [h]; decide)
  refine ⟨h1, ?_, ?_⟩
  · show ((x ^^^ 2 ^ 63) / 2 ^ 63 % 2 == 1) = !(x / 2 ^ 63 % 2 == 1)
    rw [h2]
    obtain h | h : x / 2 ^ 63 = 0 ∨ x / 2 ^ 63 = 1 := by omega
    all_goals (rw [h]; decide)
  · have := (Nat.div_lt_iff_lt_mul (show 0 < 2 ^ 63 by decide)).1 h4
    omega
theorem key_neg {x : Nat} (hx : x < 18446744073709551616) : key (Go.Op.negFloat .f64 x) = -key x := by
  obtain ⟨h1, h2, _⟩ := neg_parts hx
  unfold key; rw [h1, h2]
  cases ng x <;> simp
/-- the next number up -/
def upW (x : Nat) : Nat := if key x = 0 then 1 else if ng x then x - 1 else x + 1
def dnW (x : Nat) : Nat := if key x = 0 then 9223372036854775809 else if ng x then x + 1 else x - 1
theorem key_sign {x : Nat} (h0 : key x ≠ 0) : (key x < 0 ↔ ng x = true) ∧ 0 < rg x := by
  unfold key at h0 ⊢
  cases h : ng x
  · rw [h] at h0; simp at h0 ⊢; omega
  · rw [h] at h0; simp at h0 ⊢; omega
theorem up_parts {x : Nat} (hx : x < 18446744073709551616) (hr : rg x ≤ INF) (hi : key x ≠ INF) : key (upW x) = key x + 1 ∧ rg (upW x) ≤ INF ∧ upW x < 18446744073709551616 := by
  unfold upW
  by_cases h0 : key x = 0
  · rw [if_pos h0]
    have := parts (x := 1) (r := 1) false (by decide) rfl
    rw [this.1, this.2.2.1, h0]
    exact ⟨rfl, by decide, by decide⟩
  · rw [if_neg h0]
    obtain ⟨s1, s2⟩ := key_sign h0
    have w := wrd hx
    cases h : ng x
    · rw [h] at w
      simp only [Bool.false_eq_true, if_false] at w ⊢
      have hk : key x = rg x := by unfold key; rw [h]; rfl
      have hlt : rg x + 1 ≤ INF := by
        rw [hk] at hi
        omega
      have := parts (x := x + 1) (r := rg x + 1) false hlt (by simp; omega)
      rw [this.1, this.2.2.1, hk]
      exact ⟨by simp, hlt, this.2.2.2⟩
    · rw [h] at w
      simp only [if_true] at w ⊢
      have hk : key x = -(rg x : Int) := by unfold key; rw [h]; rfl
      have := parts (x := x - 1) (r := rg x - 1) true (by omega) (by simp; omega)
      rw [this.1, this.2.2.1, hk]
      refine ⟨?_, by omega, this.2.2.2⟩
      simp only [if_true]; omega
theorem dn_parts {x : Nat} (hx : x < 18446744073709551616) (hr : rg x ≤ INF) (hi : key x ≠ -(INF : Int)) : key (dnW x) = key x - 1 ∧ rg (dnW x) ≤ INF ∧ dnW x < 18446744073709551616 := by
  unfold dnW
  by_cases h0 : key x = 0
  · rw [if_pos h0]
    have := parts (x := 9223372036854775809) (r := 1) true (by decide) rfl
    rw [this.1, this.2.2.1, h0]
    exact ⟨rfl, by decide, by decide⟩
  · rw [if_neg h0]
    obtain ⟨s1, s2⟩ := key_sign h0
    have w := wrd hx
    cases h : ng x
    · rw [h] at w
      simp only [Bool.false_eq_true, if_false] at w ⊢
      have hk : key x = rg x := by unfold key; rw [h]; rfl
      have := parts (x := x - 1) (r := rg x - 1) false (by omega) (by simp; omega)
      rw [this.1, this.2.2.1, hk]
      refine ⟨?_, by omega, this.2.2.2⟩
      simp only [Bool.false_eq_true, if_false]; omega
    · rw [h] at w
      simp only [if_true] at w ⊢
      have hk : key x = -(rg x : Int) := by unfold key; rw [h]; rfl
      have hlt : rg x + 1 ≤ INF := by
        rw [hk] at hi
        omega
      have := parts (x := x + 1) (r := rg x + 1) true hlt (by simp; omega)
      rw [this.1, this.2.2.1, hk]
      refine ⟨?_, hlt, this.2.2.2⟩
      simp only [if_true]; omega
end Fp
/-
  Whole numbers of any size, plainly: their digits to the base of a million.
-/
namespace Bg
/-- the value of digits to the base of a million, the low ones first -/
def vl : List Int → Int
  | [] => 0
  | d :: l => d + 1000000 * vl l
def Dg (l : List Int) : Prop := ∀ d ∈ l, 0 ≤ d ∧ d < 1000000
/-- the digits of a number -/
def dg (n : Nat) : List Int := if h : n = 0 then [] else ((n % 1000000 : Nat) : Int) :: dg (n / 1000000)
termination_by n
theorem dg_zero : dg 0 = [] := by unfold dg; simp
theorem dg_pos {n : Nat} (h : 0 < n) : dg n = ((n % 1000000 : Nat) : Int) :: dg (n / 1000000) := by rw [dg]; rw [dif_neg (by omega)]
theorem dg_ok (n : Nat) : Dg (dg n) ∧ vl (dg n) = n := by
  induction n using Nat.strongRecOn with
  | ind n ih =>
    by_cases h : n = 0
    · subst h; rw [dg_zero]; exact ⟨fun d hd => by simp at hd, rfl⟩
    · rw [dg_pos (by omega)]
      obtain ⟨h1, h2⟩ := ih (n / 1000000) (by omega)
      refine ⟨fun d hd => ?_, ?_⟩
      · rcases List.mem_cons.1 hd with rfl | hd
        · omega
        · exact h1 d hd
      · rw [vl, h2]; omega
theorem vl_nn {l : List Int} (h : Dg l) : 0 ≤ vl l := by
  induction l with
  | nil => exact Int.le_refl _
  | cons d l ih =>
    have := h d (List.mem_cons_self ..)
    have := ih fun x hx => h x (List.mem_cons_of_mem _ hx)
    rw [vl]; omega
theorem vl_app (l m : List Int) : vl (l ++ m) = vl l + 1000000 ^ l.length * vl m := by
  induction l with
  | nil => simp [vl]
  | cons d l ih =>
    rw [List.cons_append, vl, vl, ih, List.length_cons, Int.pow_succ, Int.mul_add, Int.mul_comm (1000000 ^ l.length) 1000000, Int.mul_assoc]
    omega
theorem vl_lt {l : List Int} (h : Dg l) : vl l < 1000000 ^ l.length := by
  induction l with
  | nil => simp [vl]
  | cons d l ih =>
    have := h d (List.mem_cons_self ..)
    have := ih fun x hx => h x (List.mem_cons_of_mem _ hx)
    rw [vl, List.length_cons, Int.pow_succ]; omega
theorem pw_pos (n : Nat) : (0 : Int) < 1000000 ^ n := Int.pow_pos (by omega)
theorem pw_le {a b : Nat} (h : a ≤ b) : (1000000 : Int) ^ a ≤ 1000000 ^ b := by
  induction h with
  | refl => exact Int.le_refl _
  | step _ ih =>
    rename_i m _
    have := pw_pos m
    rw [Int.pow_succ]; omega
theorem Dg.app {l m : List Int} (h1 : Dg l) (h2 : Dg m) : Dg (l ++ m) := fun d hd => by
  rcases List.mem_append.1 hd with h | h
  · exact h1 d h
  · exact h2 d h
theorem Dg.take {l : List Int} (h : Dg l) (k : Nat) : Dg (l.take k) := fun d hd => h d (List.mem_of_mem_take hd)
theorem Dg.drop {l : List Int} (h : Dg l) (k : Nat) : Dg (l.drop k) := fun d hd => h d (List.mem_of_mem_drop hd)
/-- no nought at the end: these are the digits of the value -/
theorem canon {l : List Int} (h : Dg l) (hl : l = [] ∨ l.getD (l.length - 1) 0 ≠ 0) : l = dg (vl l).toNat := by
  induction l with
  | nil => rw [vl]; exact dg_zero.symm
  | cons d l ih =>
    have hd := h d (List.mem_cons_self ..)
    have hD : Dg l := fun x hx => h x (List.mem_cons_of_mem _ hx)
    have hn := vl_nn hD
    have hl' : l = [] ∨ l.getD (l.length - 1) 0 ≠ 0 := by
      cases l with
      | nil => exact .inl rfl
      | cons e l => right; rcases hl with c | c; cases c; simpa using c
    have ih := ih hD hl'
    have hpos : 0 < vl (d :: l) := by
      rw [vl]
      rcases Int.lt_or_le 0 d with c | c
      · omega
      · have d0 : d = 0 := by omega
        cases l with
        | nil => rcases hl with c | c; cases c; simp [d0] at c
        | cons e l =>
          have : 0 < vl (e :: l) := by
            rcases Int.lt_or_le 0 (vl (e :: l)) with k | k
            · exact k
            · have : (vl (e :: l)).toNat = 0 := by omega
              rw [this, dg_zero] at ih; cases ih
          omega
    rw [dg_pos (by omega)]
    have e1 : (vl (d :: l)).toNat % 1000000 = d.toNat := by rw [vl]; omega
    have e2 : (vl (d :: l)).toNat / 1000000 = (vl l).toNat := by rw [vl]; omega
    rw [e1, e2, ← ih]
    congr 1
    omega
theorem dg_last (n : Nat) : dg n = [] ∨ (dg n).getD ((dg n).length - 1) 0 ≠ 0 := by
  induction n using Nat.strongRecOn with
  | ind n ih =>
    by_cases h : n = 0
    · subst h; exact .inl dg_zero
    · right
      rw [dg_pos (by omega)]
      rcases ih (n / 1000000) (by omega) with c | c
      · rw [c]
        have : n / 1000000 = 0 := by
          have := (dg_ok (n / 1000000)).2
          rw [c, vl] at this; omega
        simp; omega
      · cases hq : dg (n / 1000000) with
        | nil => rw [hq] at c; simp at c
        | cons e l => rw [hq] at c; simpa using c
/-- a nought at the end adds nothing -/
theorem vl_cut {l : List Int} {k : Nat} (hk : k < l.length) (h0 : l.getD k 0 = 0) : vl (l.take (k + 1)) = vl (l.take k) := by
  have : l[k] = 0 := by rw [← h0, ← List.getElem_eq_getD (h := hk)]
  rw [List.take_succ_eq_append_getElem hk, vl_app, this]
  simp [vl]
theorem vl_step {l : List Int} {k : Nat} (hk : k < l.length) : vl (l.drop k) = l.getD k 0 + 1000000 * vl (l.drop (k + 1)) := by
  rw [List.drop_eq_getElem_cons hk, vl, ← List.getElem_eq_getD (h := hk)]
theorem vl_end {l : List Int} {k : Nat} (hk : l.length ≤ k) : vl (l.drop k) = 0 := by rw [List.drop_eq_nil_of_le hk]; rfl
theorem vl_take {l : List Int} {k : Nat} (hk : k < l.length) : vl (l.take (k + 1)) = vl (l.take k) + 1000000 ^ k * l.getD k 0 := by
  rw [List.take_succ_eq_append_getElem hk, vl_app, List.length_take, Nat.min_eq_left (by omega), vl, vl, ← List.getElem_eq_getD (h := hk)]
  simp
theorem vl_split (l : List Int) (k : Nat) (hk : k ≤ l.length) : vl l = vl (l.take k) + 1000000 ^ k * vl (l.drop k) := by
  conv => lhs; rw [← List.take_append_drop k l]
  rw [vl_app, List.length_take, Nat.min_eq_left hk]
theorem vl_set {l : List Int} {k : Nat} (hk : k < l.length) (d : Int) : vl (l.set k d) = vl l + 1000000 ^ k * (d - l.getD k 0) := by
  induction l generalizing k with
  | nil => simp at hk
  | cons e l ih =>
    cases k with
    | zero => simp [vl]; omega
    | succ k =>
      rw [List.set_cons_succ, vl, vl, ih (by simpa using hk), Int.pow_succ, List.getD_cons_succ, Int.mul_add, Int.mul_comm (1000000 ^ k) 1000000, Int.mul_assoc]
      omega
theorem Dg.set {l : List Int} (h : Dg l) {k : Nat} {d : Int} (hd : 0 ≤ d ∧ d < 1000000) : Dg (l.set k d) := fun x hx => by
  rcases List.mem_or_eq_of_mem_set hx with c | c
  · exact h x c
  · rw [c]; exact hd
theorem Dg.at {l : List Int} (h : Dg l) (k : Nat) : 0 ≤ l.getD k 0 ∧ l.getD k 0 < 1000000 := by
  rw [List.getD_eq_getElem?_getD]
  cases hk : l[k]? with
  | none => simp
  | some x => exact h x (List.mem_of_getElem? hk)
theorem dg_len {n k : Nat} (h : n < 1000000 ^ k) : (dg n).length ≤ k := by
  induction k generalizing n with
  | zero => have : n = 0 := by simpa using h
            subst this; rw [dg_zero]; simp
  | succ k ih =>
    by_cases h0 : n = 0
    · subst h0; rw [dg_zero]; simp
    · rw [dg_pos (by omega), List.length_cons]
      have : n / 1000000 < 1000000 ^ k := by
        rw [Nat.div_lt_iff_lt_mul (by omega), ← Nat.pow_succ]; exact h
      have := ih this
      omega
theorem dg_eq {m n : Nat} : dg m = dg n ↔ m = n := ⟨fun h => by have h1 := (dg_ok m).2; rw [h, (dg_ok n).2] at h1; omega, fun h => by rw [h]⟩
theorem dg_nil {n : Nat} : dg n = [] ↔ n = 0 := by rw [← dg_zero, dg_eq]
/-- longer digits, a greater number -/
theorem dg_longer {m n : Nat} (h : (dg m).length < (dg n).length) : m < n := by
  have h1 := vl_lt (dg_ok m).1
  rw [(dg_ok m).2] at h1
  have h2 : (1000000 : Int) ^ (dg m).length ≤ n := by
    rcases dg_last n with c | c
    · rw [c] at h; simp at h
    · have hs := vl_split (dg n) ((dg n).length - 1) (by omega)
      rw [(dg_ok n).2, vl_step (by omega), vl_end (by omega)] at hs
      have ha := (dg_ok n).1.at ((dg n).length - 1)
      have ht := vl_nn ((dg_ok n).1.take ((dg n).length - 1))
      have hp := pw_pos ((dg n).length - 1)
      have hle : (1000000 : Int) ^ (dg m).length ≤ 1000000 ^ ((dg n).length - 1) := pw_le (by omega)
      have : (1000000 : Int) ^ ((dg n).length - 1) * 1 ≤ 1000000 ^ ((dg n).length - 1) * ((dg n).getD ((dg n).length - 1) 0 + 1000000 * 0) := Int.mul_le_mul_of_nonneg_left (by omega) (by omega)
      omega
  omega
end Bg
/-
  Spans: the next number up, down; roots.
-/
namespace Go.Proofs.Ytlmmhmoihmlljaa
open Go Go.RowKit Fl Fs
set_option maxRecDepth 100000
attribute [local go_sem] run_store_float run_neg_float
theorem Copysign_down (w : World) : Calls Try.prog 77 #[.float .f64 1, .float .f64 18442240474082181120] w fun e w' => e = .returned (.float .f64 9223372036854775809) ∧ w = w' := by
  have h1 := fun w => f64bits 1 w
  have h2 := fun w => f64bits 18442240474082181120 w
  have h3 := f64frombits_int
  have e : (bits .or .u64 (bits .andNot .u64 1 9223372036854775808) (bits .and .u64 18442240474082181120 9223372036854775808)).toNat = 9223372036854775809 := by decide +kernel
  rw [← e]; clear e
  go_enter Try.func77, Try.ntmps77
  go_wp2
  go_ret
  exact ⟨rfl, rfl⟩
theorem Copysign_up (w : World) : Calls Try.prog 77 #[.float .f64 1, .float .f64 9218868437227405312] w fun e w' => e = .returned (.float .f64 1) ∧ w = w' := by
  have h1 := fun w => f64bits 1 w
  have h2 := fun w => f64bits 9218868437227405312 w
  have h3 := f64frombits_int
  have key : ∀ V, (bits .or .u64 (bits .andNot .u64 1 9223372036854775808) (bits .and .u64 9218868437227405312 9223372036854775808)).toNat = V → Calls Try.prog 77 #[.float .f64 1, .float .f64 9218868437227405312] w fun e w' => e = .returned (.float .f64 V) ∧ w = w' := by
    rintro _ rfl
    go_enter Try.func77, Try.ntmps77
    go_wp2
    go_ret
    exact ⟨rfl, rfl⟩
  exact key 1 (by decide +kernel)
/-- the next number from x on to y, where x is the same -/
theorem Nextafter_same (x y : Nat) (hx : (FloatKind.f64.format.order x x != some .eq) = false) (hy : (FloatKind.f64.format.order y y != some .eq) = false) (he : (FloatKind.f64.format.order x y == some .eq) = true) (w : World) :
    Calls Try.prog 64 #[.float .f64 x, .float .f64 y] w fun e w' => e = .returned (.float .f64 x) ∧ w = w' := by
  have hn1 : Hid (∀ w, Calls Try.prog 76 #[.float .f64 x] w fun e w' => e = .returned (.bool false) ∧ w = w') := Lib.hid (by
    intro w
    have := IsNaN_any x w
    rw [hx] at this; exact this)
  have hn2 : Hid (∀ w, Calls Try.prog 76 #[.float .f64 y] w fun e w' => e = .returned (.bool false) ∧ w = w') := Lib.hid (by
    intro w
    have := IsNaN_any y w
    rw [hy] at this; exact this)
  clear hx hy
  go_enter Try.func64, Try.ntmps64
  go_wp2_with (first | (go_at_call 76; refine (hn1.out _).mono ?_; rintro e w' ⟨rfl, rfl⟩) | (go_at_call 76; refine (hn2.out _).mono ?_; rintro e w' ⟨rfl, rfl⟩))
  go_ret
  exact ⟨rfl, rfl⟩
theorem Nextafter_zero (x y V : Nat) (hx : (FloatKind.f64.format.order x x != some .eq) = false) (hy : (FloatKind.f64.format.order y y != some .eq) = false) (he : (FloatKind.f64.format.order x y == some .eq) = false) (hz : (FloatKind.f64.format.order x 0 == some .eq) = true)
    (hc : ∀ w, Calls Try.prog 77 #[.float .f64 1, .float .f64 y] w fun e w' => e = .returned (.float .f64 V) ∧ w = w') (w : World) :
    Calls Try.prog 64 #[.float .f64 x, .float .f64 y] w fun e w' => e = .returned (.float .f64 V) ∧ w = w' := by
  have hn1 : Hid (∀ w, Calls Try.prog 76 #[.float .f64 x] w fun e w' => e = .returned (.bool false) ∧ w = w') := Lib.hid (by
    intro w
    have := IsNaN_any x w
    rw [hx] at this; exact this)
  have hn2 : Hid (∀ w, Calls Try.prog 76 #[.float .f64 y] w fun e w' => e = .returned (.bool false) ∧ w = w') := Lib.hid (by
    intro w
    have := IsNaN_any y w
    rw [hy] at this; exact this)
  have HC := Lib.hid hc
  have h3 := fun w => f64frombits_int 1 w
  clear hx hy hc
  go_enter Try.func64, Try.ntmps64
  go_wp2_with (first | (go_at_call 76; refine (hn1.out _).mono ?_; rintro e w' ⟨rfl, rfl⟩) | (go_at_call 76; refine (hn2.out _).mono ?_; rintro e w' ⟨rfl, rfl⟩) | (go_at_call 77; refine (HC.out _).mono ?_; rintro e w' ⟨rfl, rfl⟩))
  go_ret
  exact ⟨rfl, rfl⟩
theorem Nextafter_go (x y : Nat) (g p : Bool) (hx : (FloatKind.f64.format.order x x != some .eq) = false) (hy : (FloatKind.f64.format.order y y != some .eq) = false) (he : (FloatKind.f64.format.order x y == some .eq) = false) (hz : (FloatKind.f64.format.order x 0 == some .eq) = false)
    (hg : (FloatKind.f64.format.order y x == some .gt) = g) (hp : (FloatKind.f64.format.order x 0 == some .gt) = p) (V : Nat) (hV : (if g = p then IntKind.u64.wrap ((x : Int) + 1) else IntKind.u64.wrap ((x : Int) - 1)).toNat = V) (w : World) :
    Calls Try.prog 64 #[.float .f64 x, .float .f64 y] w fun e w' => e = .returned (.float .f64 V) ∧ w = w' := by
  have hn1 : Hid (∀ w, Calls Try.prog 76 #[.float .f64 x] w fun e w' => e = .returned (.bool false) ∧ w = w') := Lib.hid (by
    intro w
    have := IsNaN_any x w
    rw [hx] at this; exact this)
  have hn2 : Hid (∀ w, Calls Try.prog 76 #[.float .f64 y] w fun e w' => e = .returned (.bool false) ∧ w = w') := Lib.hid (by
    intro w
    have := IsNaN_any y w
    rw [hy] at this; exact this)
  have h1 := fun w => f64bits x w
  have h3 := f64frombits_int
  clear hx hy
  subst hV
  cases g <;> cases p
  all_goals
    go_enter Try.func64, Try.ntmps64
    go_wp2_with (first | (go_at_call 76; refine (hn1.out _).mono ?_; rintro e w' ⟨rfl, rfl⟩) | (go_at_call 76; refine (hn2.out _).mono ?_; rintro e w' ⟨rfl, rfl⟩))
    go_ret
    exact ⟨rfl, rfl⟩
theorem Next_zero (x : Nat) (hz : (FloatKind.f64.format.order x 0 == some .eq) = true) (w : World) : Calls Try.prog 65 #[.float .f64 x] w fun e w' => e = .returned (.float .f64 1) ∧ w = w' := by
  have h3 := fun w => f64frombits_int 1 w
  go_enter Try.func65, Try.ntmps65
  go_wp2
  go_ret
  exact ⟨rfl, rfl⟩
theorem Next_go (x : Nat) (p : Bool) (hz : (FloatKind.f64.format.order x 0 == some .eq) = false) (hp : (FloatKind.f64.format.order x 0 == some .gt) = p) (V : Nat) (hV : (if p = true then IntKind.u64.wrap ((x : Int) + 1) else IntKind.u64.wrap ((x : Int) - 1)).toNat = V) (w : World) :
    Calls Try.prog 65 #[.float .f64 x] w fun e w' => e = .returned (.float .f64 V) ∧ w = w' := by
  have h1 := fun w => f64bits x w
  have h3 := f64frombits_int
  subst hV
  cases p
  all_goals
    go_enter Try.func65, Try.ntmps65
    go_wp2
    go_ret
    exact ⟨rfl, rfl⟩
end Go.Proofs.Ytlmmhmoihmlljaa
