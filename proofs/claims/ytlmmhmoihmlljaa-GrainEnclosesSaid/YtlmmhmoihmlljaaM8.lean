/-
  Sums, products, quotients, roots: between the neighbours.
-/
import Derived.Test.YtlmmhmoihmlljaaM7
import Derived.Test.YtlmmhmoihmlljaaChecked
import Derived.WalkKit
import Derived.ProofKit
import Derived.OpenShut
import Derived.Carry
import Derived.Test.YtlmmhmoihmlljaaRows
namespace Go.Proofs.Ytlmmhmoihmlljaa
open Go Go.Ab Go.RowKit Ieee Fp
theorem signed_near (s : Bool) {r : Nat} (hr : r ≤ INF) {A B : Nat} (h1 : val BB (r - 1) * A ≤ B) (h2 : B ≤ val BB (r + 1) * A) :
    kv (key (double.word s r) - 1) * (A : Int) ≤ (if s then -(B : Int) else (B : Int)) ∧ (if s then -(B : Int) else (B : Int)) ≤ kv (key (double.word s r) + 1) * (A : Int) := by
  have hw := word_rg (s := s) hr
  have hk : key (double.word s r) = if s then -(r : Int) else r := by unfold key; rw [hw.1, hw.2]
  rw [hk]
  have i1 : ((val BB (r - 1) : Nat) : Int) * A ≤ B := by rw [← Int.natCast_mul]; exact Int.ofNat_le.2 h1
  have i2 : (B : Int) ≤ ((val BB (r + 1) : Nat) : Int) * A := by rw [← Int.natCast_mul]; exact Int.ofNat_le.2 h2
  have hA : (0 : Int) ≤ A := by omega
  have hB : (0 : Int) ≤ B := by omega
  have hneg1 : kv (-1) * (A : Int) ≤ 0 := by
    have : kv (-1) ≤ 0 := by unfold kv; rw [if_pos (by omega)]; omega
    exact Int.mul_nonpos_of_nonpos_of_nonneg this hA
  cases s
  · simp only [Bool.false_eq_true, if_false]
    refine ⟨?_, ?_⟩
    · by_cases h : r = 0
      · subst h
        exact Int.le_trans hneg1 hB
      · have : kv ((r : Int) - 1) = val BB (r - 1) := by unfold kv; rw [if_neg (by omega)]; congr 2; omega
        rw [this]; exact i1
    · have : kv ((r : Int) + 1) = val BB (r + 1) := by unfold kv; rw [if_neg (by omega)]; congr 2
      rw [this]; exact i2
  · simp only [if_true]
    refine ⟨?_, ?_⟩
    · have : kv (-(r : Int) - 1) = -val BB (r + 1) := by unfold kv; rw [if_pos (by omega)]; congr 3; omega
      rw [this, Int.neg_mul]; omega
    · by_cases h : r = 0
      · subst h
        have : kv (-((0 : Nat) : Int) + 1) = val BB 1 := by unfold kv; rw [if_neg (by omega)]; rfl
        rw [this]
        have : (0 : Int) ≤ ((val BB 1 : Nat) : Int) * A := Int.mul_nonneg (by omega) hA
        omega
      · have : kv (-(r : Int) + 1) = -val BB (r - 1) := by
          unfold kv
          by_cases h1 : r = 1
          · subst h1; rw [if_neg (by omega)]; show ((val BB 0 : Nat) : Int) = -((val BB 0 : Nat) : Int); rw [val_zero BB1]; rfl
          · rw [if_pos (by omega)]; congr 3; omega
        rw [this, Int.neg_mul]; omega
theorem KK_near {v : Int} (h : -(INF : Int) < KK v ∧ KK v < INF) : kv (KK v - 1) ≤ v ∧ v ≤ kv (KK v + 1) := by
  have hr : rung v.natAbs (-1074) < INF := by unfold KK at h; split at h <;> omega
  obtain ⟨h1, h2⟩ := near_val hr
  rw [show (-1074 - (-1074 : Int)).toNat = 0 by decide, show ((-1074 : Int) + 1074).toNat = 0 by decide, Nat.pow_zero, Nat.mul_one] at h1 h2
  obtain ⟨g1, g2⟩ := signed_near (decide (v < 0)) (Nat.le_of_lt hr) (A := 1) (B := v.natAbs) (by omega) (by omega)
  have hk : key (double.word (decide (v < 0)) (rung v.natAbs (-1074))) = KK v := by
    have hw := word_rg (s := decide (v < 0)) (Nat.le_of_lt hr)
    unfold key KK
    rw [hw.1, hw.2]
    simp only [decide_eq_true_eq]
  have hv : (if decide (v < 0) = true then -(v.natAbs : Int) else (v.natAbs : Int)) = v := by
    simp only [decide_eq_true_eq]; split <;> omega
  rw [hk, hv] at g1 g2
  omega
theorem sv_abs (x : Nat) : sv x = if ng x then -(val BB (rg x) : Int) else (val BB (rg x) : Int) := rfl
theorem mul_sign (s t : Bool) (a b : Nat) : (if s then -(a : Int) else (a : Int)) * (if t then -(b : Int) else (b : Int)) = if (s ^^ t) then -((a * b : Nat) : Int) else ((a * b : Nat) : Int) := by
  rw [Int.natCast_mul]
  cases s <;> cases t <;> simp [Int.neg_mul, Int.mul_neg]
theorem mul_near {x y : Nat} (hx : fin x) (hy : fin y) (hf : fin (fmul x y)) {e : Nat} (he : e = 1074) : kv (key (fmul x y) - 1) * ((2 ^ e : Nat) : Int) ≤ sv x * sv y ∧ sv x * sv y ≤ kv (key (fmul x y) + 1) * ((2 ^ e : Nat) : Int) := by
  obtain ⟨m, i, e1, i1, v1⟩ := read_num hx
  obtain ⟨n, j, e2, j1, v2⟩ := read_num hy
  have hw : fmul x y = double.word (ng x ^^ ng y) (rung (m * n) (i + j)) := by
    unfold fmul
    show ((double.mul x y).getD 0) = _
    unfold Format.mul
    rw [e1, e2]
    exact nearest_eq _ _ _
  rw [hw] at hf ⊢
  have hr : rung (m * n) (i + j) < INF := by
    unfold fin at hf
    rw [(word_rg (rung_le _ _)).1] at hf; exact hf
  obtain ⟨h1, h2⟩ := near_val hr
  have sc : ∀ a : Nat, a * 2 ^ (-1074 - (i + j)).toNat * 2 ^ (e - (-1074 - (i + j)).toNat) = a * 2 ^ e := by
    intro a; rw [Nat.mul_assoc, ← Nat.pow_add]; congr 2; omega
  have st : m * n * 2 ^ (i + j + 1074).toNat * 2 ^ (e - (-1074 - (i + j)).toNat) = val BB (rg x) * val BB (rg y) := by
    rw [← v1, ← v2, Nat.mul_assoc, ← Nat.pow_add, Nat.mul_mul_mul_comm, ← Nat.pow_add]
    congr 2; omega
  have g1 := Nat.mul_le_mul_right (2 ^ (e - (-1074 - (i + j)).toNat)) h1
  have g2 := Nat.mul_le_mul_right (2 ^ (e - (-1074 - (i + j)).toNat)) h2
  rw [sc, st] at g1
  rw [sc, st] at g2
  have := signed_near (ng x ^^ ng y) (Nat.le_of_lt hr) g1 g2
  rw [sv_abs, sv_abs, mul_sign]
  exact this
theorem div_near {x y : Nat} (hx : fin x) (hy : fin y) (h0 : key y ≠ 0) (hf : fin (fdiv x y)) {e : Nat} (he : e = 1074) :
    kv (key (fdiv x y) - 1) * (val BB (rg y) : Int) ≤ (if (ng x ^^ ng y) then -((val BB (rg x) * 2 ^ e : Nat) : Int) else ((val BB (rg x) * 2 ^ e : Nat) : Int)) ∧
    (if (ng x ^^ ng y) then -((val BB (rg x) * 2 ^ e : Nat) : Int) else ((val BB (rg x) * 2 ^ e : Nat) : Int)) ≤ kv (key (fdiv x y) + 1) * (val BB (rg y) : Int) := by
  obtain ⟨m, i, e1, i1, v1⟩ := read_num hx
  obtain ⟨n, j, e2, j1, v2⟩ := read_num hy
  have hn : n ≠ 0 := by
    intro h
    rw [h, Nat.zero_mul] at v2
    have : rg y = 0 := by
      rcases Nat.eq_zero_or_pos (rg y) with k | k
      · exact k
      · have := val_lt BB1 k; rw [val_zero BB1] at this; omega
    unfold key at h0
    rw [this] at h0
    split at h0 <;> omega
  obtain ⟨more, hm⟩ : ∃ more, more = 54 + n.log2 - m.log2 := ⟨_, rfl⟩
  obtain ⟨q, hq⟩ : ∃ q, q = m * 2 ^ more / n := ⟨_, rfl⟩
  obtain ⟨s, hs⟩ : ∃ s, s = (m * 2 ^ more % n != 0).toNat := ⟨_, rfl⟩
  have hw : fdiv x y = double.word (ng x ^^ ng y) (rung (2 * q + s) (i - j - more - 1)) := by
    unfold fdiv
    show ((double.div x y).getD 0) = _
    unfold Format.div
    rw [e1, e2]
    unfold Datum.quotient
    simp only
    rw [if_neg hn, hq, hs, hm, ← Nat.shiftLeft_eq]
    exact nearest_eq _ _ _
  rw [hw] at hf ⊢
  have hr : rung (2 * q + s) (i - j - more - 1) < INF := by
    unfold fin at hf
    rw [(word_rg (rung_le _ _)).1] at hf; exact hf
  have hs1 : s ≤ 1 := by rw [hs]; cases (m * 2 ^ more % n != 0) <;> decide
  have hdm := Nat.div_add_mod (m * 2 ^ more) n
  have hml := Nat.mod_lt (m * 2 ^ more) (Nat.pos_of_ne_zero hn)
  rw [← hq] at hdm
  have lo : q * n ≤ m * 2 ^ more := by rw [Nat.mul_comm]; omega
  have hi : m * 2 ^ more ≤ (q + s) * n := by
    rw [Nat.add_mul, Nat.mul_comm q]
    by_cases hz : m * 2 ^ more % n = 0
    · omega
    · have : s = 1 := by rw [hs]; simp [hz]
      rw [this]; omega
  have near : val BB (rung (2 * q + s) (i - j - more - 1) - 1) * 2 ^ (-1074 - (i - j - more - 1)).toNat ≤ 2 * q * 2 ^ (i - j - more - 1 + 1074).toNat ∧ (2 * q + 2 * s) * 2 ^ (i - j - more - 1 + 1074).toNat ≤ val BB (rung (2 * q + s) (i - j - more - 1) + 1) * 2 ^ (-1074 - (i - j - more - 1)).toNat := by
    by_cases h : m = 0
    · have hq0 : q = 0 := by rw [hq, h, Nat.zero_mul, Nat.zero_div]
      have hs0 : s = 0 := by rw [hs, h, Nat.zero_mul, Nat.zero_mod]; rfl
      rw [hq0, hs0]
      unfold rung
      rw [if_pos rfl, Nat.zero_sub, val_zero BB1]
      simp
    · refine near_sticky hs1 ?_ hr
      rw [hq]
      refine (Nat.le_div_iff_mul_le (Nat.pos_of_ne_zero hn)).2 ?_
      have a1 := Nat.log2_self_le h
      have a2 := lt_log n
      calc 2 ^ 52 * n ≤ 2 ^ 52 * 2 ^ (n.log2 + 1) := Nat.mul_le_mul_left _ (Nat.le_of_lt a2)
        _ = 2 ^ (52 + (n.log2 + 1)) := (Nat.pow_add ..).symm
        _ ≤ 2 ^ (m.log2 + more) := Nat.pow_le_pow_right (by omega) (by omega)
        _ = 2 ^ m.log2 * 2 ^ more := Nat.pow_add ..
        _ ≤ m * 2 ^ more := Nat.mul_le_mul_right _ a1
  obtain ⟨n1, n2⟩ := near
  generalize rung (2 * q + s) (i - j - more - 1) = r at *
  obtain ⟨d, hd⟩ : ∃ d, d = (-1074 - (i - j - more - 1)).toNat := ⟨_, rfl⟩
  obtain ⟨k, hk⟩ : ∃ k, k = (i - j - more - 1 + 1074).toNat := ⟨_, rfl⟩
  rw [← hd, ← hk] at n1 n2
  have hp : 0 < 2 ^ d := Nat.pow_pos (by omega)
  have sc : 2 * (m * 2 ^ more) * 2 ^ k * 2 ^ (j + 1074).toNat = val BB (rg x) * 2 ^ e * 2 ^ d := by
    rw [← v1, show 2 * (m * 2 ^ more) = m * 2 ^ (more + 1) by rw [Nat.pow_succ]; ac_rfl]
    simp only [Nat.mul_assoc, ← Nat.pow_add]
    congr 2; omega
  have b1 : val BB (r - 1) * val BB (rg y) ≤ val BB (rg x) * 2 ^ e := by
    refine Nat.le_of_mul_le_mul_right (c := 2 ^ d) ?_ hp
    rw [← sc, ← v2]
    calc val BB (r - 1) * (n * 2 ^ (j + 1074).toNat) * 2 ^ d = val BB (r - 1) * 2 ^ d * (n * 2 ^ (j + 1074).toNat) := Nat.mul_right_comm ..
      _ ≤ 2 * q * 2 ^ k * (n * 2 ^ (j + 1074).toNat) := Nat.mul_le_mul_right _ n1
      _ = 2 * (q * n) * 2 ^ k * 2 ^ (j + 1074).toNat := by simp only [Nat.mul_assoc, Nat.mul_left_comm, Nat.mul_comm]
      _ ≤ 2 * (m * 2 ^ more) * 2 ^ k * 2 ^ (j + 1074).toNat := Nat.mul_le_mul_right _ (Nat.mul_le_mul_right _ (Nat.mul_le_mul_left _ lo))
  have b2 : val BB (rg x) * 2 ^ e ≤ val BB (r + 1) * val BB (rg y) := by
    refine Nat.le_of_mul_le_mul_right (c := 2 ^ d) ?_ hp
    rw [← sc, ← v2]
    calc 2 * (m * 2 ^ more) * 2 ^ k * 2 ^ (j + 1074).toNat ≤ 2 * ((q + s) * n) * 2 ^ k * 2 ^ (j + 1074).toNat := Nat.mul_le_mul_right _ (Nat.mul_le_mul_right _ (Nat.mul_le_mul_left _ hi))
      _ = (2 * q + 2 * s) * 2 ^ k * (n * 2 ^ (j + 1074).toNat) := by
        rw [← Nat.mul_add 2 q s]
        simp only [Nat.mul_assoc, Nat.mul_left_comm, Nat.mul_comm]
      _ ≤ val BB (r + 1) * 2 ^ d * (n * 2 ^ (j + 1074).toNat) := Nat.mul_le_mul_right _ n2
      _ = val BB (r + 1) * (n * 2 ^ (j + 1074).toNat) * 2 ^ d := Nat.mul_right_comm ..
  exact signed_near (ng x ^^ ng y) (Nat.le_of_lt hr) b1 b2
theorem root_sq (n : Nat) : ∀ t root, root * root ≤ n → n < (root + 2 ^ t) * (root + 2 ^ t) → Datum.rootFrom n t root * Datum.rootFrom n t root ≤ n ∧ n < (Datum.rootFrom n t root + 1) * (Datum.rootFrom n t root + 1)
  | 0, root, h1, h2 => by
    unfold Datum.rootFrom
    rw [Nat.pow_zero] at h2
    exact ⟨h1, h2⟩
  | t + 1, root, h1, h2 => by
    unfold Datum.rootFrom
    simp only [Nat.one_shiftLeft]
    have hp : 2 ^ (t + 1) = 2 ^ t + 2 ^ t := by rw [Nat.pow_succ]; omega
    by_cases h : (root + 2 ^ t) * (root + 2 ^ t) ≤ n
    · rw [if_pos h]
      refine root_sq n t _ h ?_
      rw [Nat.add_assoc, ← hp]; exact h2
    · rw [if_neg h]
      exact root_sq n t _ h1 (by omega)
theorem sqrt_near {x : Nat} (hx : fin x) (h0 : 0 ≤ key x) {e : Nat} (he : e = 1074) :
    key (fsqrt x) = rg (fsqrt x) ∧ val BB (rg (fsqrt x) - 1) * val BB (rg (fsqrt x) - 1) ≤ val BB (rg x) * 2 ^ e ∧ val BB (rg x) * 2 ^ e ≤ val BB (rg (fsqrt x) + 1) * val BB (rg (fsqrt x) + 1) := by
  obtain ⟨_, _, hf⟩ := fsqrt_nb hx h0
  obtain ⟨m, i, e1, i1, v1⟩ := read_num hx
  by_cases hm : m = 0
  · have hw : fsqrt x = double.word (ng x) 0 := by
      unfold fsqrt Format.sqrt
      rw [e1]
      unfold Datum.root
      simp only
      rw [if_pos hm, hm]
      show double.nearest (ng x) 0 i = _
      rw [nearest_eq]
      unfold rung
      rw [if_pos rfl]
    have hv : val BB (rg x) = 0 := by rw [← v1, hm, Nat.zero_mul]
    obtain ⟨w1, w2⟩ := word_rg (s := ng x) (Nat.zero_le INF)
    rw [hw, hv, w1]
    refine ⟨?_, ?_, ?_⟩
    · unfold key; rw [w1]; split <;> rfl
    · rw [Nat.zero_sub, val_zero BB1]; omega
    · omega
  · have hs : ng x = false := by
      cases c : ng x
      · rfl
      · exfalso
        have hr : 0 < rg x := by
          rcases Nat.eq_zero_or_pos (rg x) with k | k
          · rw [k, val_zero BB1] at v1
            have : 0 < 2 ^ (i + 1074).toNat := Nat.pow_pos (by omega)
            rcases Nat.mul_eq_zero.1 v1 with c | c <;> omega
          · exact k
        unfold key at h0
        rw [c] at h0
        simp at h0
        omega
    obtain ⟨more, hmo⟩ : ∃ more, more = (108 - m.log2) + ((i - ((108 - m.log2 : Nat) : Int)) % 2).toNat := ⟨_, rfl⟩
    obtain ⟨w, hw0⟩ : ∃ w, w = Datum.rootFrom (m * 2 ^ more) ((m * 2 ^ more).log2 / 2 + 1) 0 := ⟨_, rfl⟩
    obtain ⟨s, hs0⟩ : ∃ s, s = (w * w != m * 2 ^ more).toNat := ⟨_, rfl⟩
    have hw : fsqrt x = double.word false (rung (2 * w + s) ((i - more) / 2 - 1)) := by
      unfold fsqrt Format.sqrt
      rw [e1]
      unfold Datum.root
      simp only
      rw [if_neg hm, hs, if_neg (by decide), hs0, hw0, hmo]
      simp only [← Nat.shiftLeft_eq]
      exact nearest_eq _ _ _
    have hev : 2 * ((i - more) / 2) = i - more := by omega
    have hlog : 108 ≤ m.log2 + more := by omega
    have hn0 : m * 2 ^ more ≠ 0 := Nat.mul_ne_zero hm (by have := Nat.pow_pos (n := more) (show 0 < 2 by omega); omega)
    obtain ⟨r1, r2⟩ := root_sq (m * 2 ^ more) ((m * 2 ^ more).log2 / 2 + 1) 0 (by omega) (by
      have := lt_log (m * 2 ^ more)
      rw [Nat.zero_add, ← Nat.pow_add]
      exact Nat.lt_of_lt_of_le this (Nat.pow_le_pow_right (by omega) (by omega)))
    rw [← hw0] at r1 r2
    have hwb : 2 ^ 53 ≤ w := by
      refine Nat.le_of_not_lt fun h => ?_
      have h1 : (w + 1) * (w + 1) ≤ 2 ^ 53 * 2 ^ 53 := Nat.mul_le_mul h h
      have h2 : 2 ^ 108 ≤ m * 2 ^ more := by
        calc 2 ^ 108 ≤ 2 ^ (m.log2 + more) := Nat.pow_le_pow_right (by omega) hlog
          _ = 2 ^ m.log2 * 2 ^ more := Nat.pow_add ..
          _ ≤ m * 2 ^ more := Nat.mul_le_mul_right _ (Nat.log2_self_le hm)
      have h3 : (2 : Nat) ^ 53 * 2 ^ 53 < 2 ^ 108 := by decide
      omega
    rw [hw] at hf ⊢
    have hr : rung (2 * w + s) ((i - more) / 2 - 1) < INF := by
      unfold fin at hf
      rw [(word_rg (rung_le _ _)).1] at hf; exact hf
    have hs1 : s ≤ 1 := by rw [hs0]; cases (w * w != m * 2 ^ more) <;> decide
    have hi : m * 2 ^ more ≤ (w + s) * (w + s) := by
      by_cases hz : w * w = m * 2 ^ more
      · have : s = 0 := by rw [hs0]; simp [hz]
        rw [this, Nat.add_zero, hz]; exact Nat.le_refl _
      · have : s = 1 := by rw [hs0]; simp [hz]
        rw [this]; omega
    obtain ⟨n1, n2⟩ := near_sticky hs1 (Nat.le_trans (by decide) hwb) hr
    obtain ⟨w1, w2⟩ := word_rg (s := false) (Nat.le_of_lt hr)
    have hkey : key (double.word false (rung (2 * w + s) ((i - more) / 2 - 1))) = (rg (double.word false (rung (2 * w + s) ((i - more) / 2 - 1))) : Int) := by
      unfold key; rw [w2]; rfl
    refine ⟨hkey, ?_⟩
    rw [w1]
    generalize rung (2 * w + s) ((i - more) / 2 - 1) = r at *
    obtain ⟨d, hd⟩ : ∃ d, d = (-1074 - ((i - more) / 2 - 1)).toNat := ⟨_, rfl⟩
    obtain ⟨k, hk⟩ : ∃ k, k = ((i - more) / 2 - 1 + 1074).toNat := ⟨_, rfl⟩
    rw [← hd, ← hk] at n1 n2
    have hp : 0 < 2 ^ d * 2 ^ d := Nat.mul_pos (Nat.pow_pos (by omega)) (Nat.pow_pos (by omega))
    have sc : 4 * (m * 2 ^ more) * (2 ^ k * 2 ^ k) = val BB (rg x) * 2 ^ e * (2 ^ d * 2 ^ d) := by
      rw [← v1, show 4 * (m * 2 ^ more) = m * 2 ^ (more + 2) by rw [Nat.pow_add, show (2 : Nat) ^ 2 = 4 from rfl]; ac_rfl]
      simp only [Nat.mul_assoc, ← Nat.pow_add]
      congr 2; omega
    refine ⟨?_, ?_⟩
    · refine Nat.le_of_mul_le_mul_right (c := 2 ^ d * 2 ^ d) ?_ hp
      rw [← sc]
      calc val BB (r - 1) * val BB (r - 1) * (2 ^ d * 2 ^ d) = (val BB (r - 1) * 2 ^ d) * (val BB (r - 1) * 2 ^ d) := Nat.mul_mul_mul_comm ..
        _ ≤ (2 * w * 2 ^ k) * (2 * w * 2 ^ k) := Nat.mul_le_mul n1 n1
        _ = 4 * (w * w) * (2 ^ k * 2 ^ k) := by rw [show (4 : Nat) = 2 * 2 by rfl]; ac_rfl
        _ ≤ 4 * (m * 2 ^ more) * (2 ^ k * 2 ^ k) := Nat.mul_le_mul_right _ (Nat.mul_le_mul_left _ r1)
    · refine Nat.le_of_mul_le_mul_right (c := 2 ^ d * 2 ^ d) ?_ hp
      rw [← sc]
      calc 4 * (m * 2 ^ more) * (2 ^ k * 2 ^ k) ≤ 4 * ((w + s) * (w + s)) * (2 ^ k * 2 ^ k) := Nat.mul_le_mul_right _ (Nat.mul_le_mul_left _ hi)
        _ = ((2 * w + 2 * s) * 2 ^ k) * ((2 * w + 2 * s) * 2 ^ k) := by
          rw [← Nat.mul_add 2 w s, show (4 : Nat) = 2 * 2 by rfl]; ac_rfl
        _ ≤ (val BB (r + 1) * 2 ^ d) * (val BB (r + 1) * 2 ^ d) := Nat.mul_le_mul n2 n2
        _ = val BB (r + 1) * val BB (r + 1) * (2 ^ d * 2 ^ d) := Nat.mul_mul_mul_comm ..
end Go.Proofs.Ytlmmhmoihmlljaa
/-
  What is true of the spans is enclosed.
-/
namespace Go.Proofs.Ytlmmhmoihmlljaa
open Go Go.Ab Go.RowKit Ieee Fp
theorem fin_of {x : Nat} (hx : nb x) (h : -(INF : Int) < key x ∧ key x < INF) : fin x := by
  unfold fin
  have := hx.2
  unfold key at h
  split at h <;> omega
theorem wid_ends {lo hi : Nat} (h1 : nb lo) (h2 : nb hi) (hle : key lo ≤ key hi ∨ (fin lo ∧ fin hi)) (h : (widP lo hi).2 = true) :
    (fin lo ∧ fin hi) ∧ (nb (widP lo hi).1.1 ∧ fin (widP lo hi).1.1 ∧ key (widP lo hi).1.1 = key lo - 1) ∧ nb (widP lo hi).1.2 ∧ fin (widP lo hi).1.2 ∧ key (widP lo hi).1.2 = key hi + 1 := by
  unfold widP at h ⊢
  by_cases hs : soundB (dnP lo, upP hi) = true
  · rw [if_pos hs]
    have b1 := key_le h1
    have b2 := key_le h2
    have s0 := hs
    unfold soundB at s0
    simp only [Bool.and_eq_true] at s0
    obtain ⟨⟨s1, s2⟩, s3⟩ := s0
    have c1 : key lo ≠ -(INF : Int) := by
      intro c
      have e : dnP lo = lo := by unfold dnP; rw [if_pos c]
      rw [e, fin_key h1, decide_eq_true_eq] at s1
      omega
    have c2 : key hi ≠ INF := by
      intro c
      have e : upP hi = hi := by unfold upP; rw [if_pos c]
      rw [e, fin_key h2, decide_eq_true_eq] at s2
      omega
    have ed : dnP lo = dnW lo := by unfold dnP; rw [if_neg c1]
    have eu : upP hi = upW hi := by unfold upP; rw [if_neg c2]
    rw [ed] at s1 s3 ⊢
    rw [eu] at s2 s3 ⊢
    obtain ⟨d1, d2⟩ := dnW_nb h1 c1
    obtain ⟨u1, u2⟩ := upW_nb h2 c2
    rw [fin_key d1, decide_eq_true_eq] at s1
    rw [fin_key u1, decide_eq_true_eq] at s2
    rw [leB_key d1 u1, decide_eq_true_eq] at s3
    refine ⟨?_, ⟨d1, fin_of d1 s1, d2⟩, u1, fin_of u1 s2, u2⟩
    rcases hle with hle | hle
    · exact ⟨fin_of h1 (by omega), fin_of h2 (by omega)⟩
    · exact hle
  · rw [if_neg hs] at h; cases h
theorem has_key {a : Nat × Nat} {x : Nat} (A : Snd a) (hx : x < 18446744073709551616) (h : hasB a x = true) : nb x ∧ fin x ∧ sv a.1 ≤ sv x ∧ sv x ≤ sv a.2 ∧ key a.1 ≤ key x ∧ key x ≤ key a.2 := by
  unfold hasB at h
  simp only [Bool.and_eq_true] at h
  obtain ⟨⟨_, l1⟩, l2⟩ := h
  have hn : nb x := by
    refine ⟨hx, Nat.le_of_not_lt fun c => ?_⟩
    have := order_nan (x := a.1) (y := x) (.inr c)
    unfold leB at l1
    have e : FloatKind.f64.format.order a.1 x = none := this
    rw [e] at l1
    cases l1
  rw [leB_key A.n1 hn, decide_eq_true_eq] at l1
  rw [leB_key hn A.n2, decide_eq_true_eq] at l2
  have b1 := key_fin A.f1
  have b2 := key_fin A.f2
  refine ⟨hn, fin_of hn (by generalize INF = I at *; omega), ?_, ?_, l1, l2⟩
  · rw [sv_key, sv_key]; exact kv_le l1
  · rw [sv_key, sv_key]; exact kv_le l2
/-! ### whole numbers -/
theorem lin_lo {L R B1 Y B2 : Int} (h1 : B1 ≤ Y) (h2 : Y ≤ B2) (g1 : L * B1 ≤ R) (g2 : L * B2 ≤ R) : L * Y ≤ R := by
  rcases Int.le_total 0 L with h | h
  · exact Int.le_trans (Int.mul_le_mul_of_nonneg_left h2 h) g2
  · exact Int.le_trans (Int.mul_le_mul_of_nonpos_left h h1) g1
theorem lin_hi {L R B1 Y B2 : Int} (h1 : B1 ≤ Y) (h2 : Y ≤ B2) (g1 : R ≤ L * B1) (g2 : R ≤ L * B2) : R ≤ L * Y := by
  rcases Int.le_total 0 L with h | h
  · exact Int.le_trans g1 (Int.mul_le_mul_of_nonneg_left h1 h)
  · exact Int.le_trans g2 (Int.mul_le_mul_of_nonpos_left h h2)
theorem bil_lo {M A1 X A2 B1 Y B2 : Int} (a1 : A1 ≤ X) (a2 : X ≤ A2) (b1 : B1 ≤ Y) (b2 : Y ≤ B2) (h11 : M ≤ A1 * B1) (h12 : M ≤ A1 * B2) (h21 : M ≤ A2 * B1) (h22 : M ≤ A2 * B2) : M ≤ X * Y := by
  have k1 := lin_hi b1 b2 h11 h12
  have k2 := lin_hi b1 b2 h21 h22
  rw [Int.mul_comm] at k1 k2 ⊢
  exact lin_hi a1 a2 k1 k2
theorem bil_hi {M A1 X A2 B1 Y B2 : Int} (a1 : A1 ≤ X) (a2 : X ≤ A2) (b1 : B1 ≤ Y) (b2 : Y ≤ B2) (h11 : A1 * B1 ≤ M) (h12 : A1 * B2 ≤ M) (h21 : A2 * B1 ≤ M) (h22 : A2 * B2 ≤ M) : X * Y ≤ M := by
  have k1 := lin_lo b1 b2 h11 h12
  have k2 := lin_lo b1 b2 h21 h22
  rw [Int.mul_comm] at k1 k2 ⊢
  exact lin_lo a1 a2 k1 k2
theorem mm_le {l : List Nat} (hl : ∀ i, i < l.length → nb (l.getD i 0)) : ∀ k, k < l.length → (nb (mmV false l k) ∧ nb (mmV true l k)) ∧ ∀ i, i ≤ k → key (mmV false l k) ≤ key (l.getD i 0) ∧ key (l.getD i 0) ≤ key (mmV true l k)
  | 0, h => ⟨⟨hl 0 h, hl 0 h⟩, fun i hi => by
    have : i = 0 := by omega
    subst this
    exact ⟨Int.le_refl _, Int.le_refl _⟩⟩
  | k + 1, h => by
    obtain ⟨⟨a1, b1⟩, ih⟩ := mm_le hl k (by omega)
    have hk := hl (k + 1) h
    obtain ⟨m1, m2⟩ := fMM_key false a1 hk
    obtain ⟨n1, n2⟩ := fMM_key true b1 hk
    simp only [Bool.false_eq_true, if_false] at m2
    simp only [if_true] at n2
    unfold mmV
    rw [m2, n2]
    refine ⟨⟨m1, n1⟩, fun i hi => ?_⟩
    by_cases e : i = k + 1
    · subst e; omega
    · have := ih i (by omega); omega
theorem sv_pos {x : Nat} : (0 < sv x ↔ 0 < key x) ∧ (sv x < 0 ↔ key x < 0) := by
  have h0 : kv 0 = 0 := by unfold kv; rw [if_neg (by omega)]; show ((val BB 0 : Nat) : Int) = 0; rw [val_zero BB1]; rfl
  rw [sv_key]
  have a1 : 0 < key x → 0 < kv (key x) := fun h => by rw [← h0]; exact kv_lt h
  have a2 : key x < 0 → kv (key x) < 0 := fun h => by rw [← h0]; exact kv_lt h
  have a3 : key x = 0 → kv (key x) = 0 := fun h => by rw [h, h0]
  omega
/-- quotients, by the sign of what is divided by -/
theorem div_near2 {x y : Nat} (hx : fin x) (hy : fin y) (hf : fin (fdiv x y)) {e : Nat} (he : e = 1074) :
    (0 < key y → kv (key (fdiv x y) - 1) * sv y ≤ sv x * ((2 ^ e : Nat) : Int) ∧ sv x * ((2 ^ e : Nat) : Int) ≤ kv (key (fdiv x y) + 1) * sv y) ∧
    (key y < 0 → sv x * ((2 ^ e : Nat) : Int) ≤ kv (key (fdiv x y) - 1) * sv y ∧ kv (key (fdiv x y) + 1) * sv y ≤ sv x * ((2 ^ e : Nat) : Int)) := by
  have ex : sv x * ((2 ^ e : Nat) : Int) = if ng x then -((val BB (rg x) * 2 ^ e : Nat) : Int) else ((val BB (rg x) * 2 ^ e : Nat) : Int) := by
    rw [sv_abs, Int.natCast_mul]; split
    · rw [Int.neg_mul]
    · rfl
  constructor
  · intro h
    have hn : ng y = false := by
      cases c : ng y
      · rfl
      · exfalso; unfold key at h; rw [c] at h; simp at h; omega
    obtain ⟨h1, h2⟩ := div_near hx hy (by omega) hf he
    have ey : sv y = (val BB (rg y) : Int) := by rw [sv_abs, hn]; rfl
    rw [hn, Bool.xor_false] at h1 h2
    rw [ex, ey]
    exact ⟨h1, h2⟩
  · intro h
    have hn : ng y = true := by
      cases c : ng y
      · exfalso; unfold key at h; rw [c] at h; simp at h; omega
      · rfl
    obtain ⟨h1, h2⟩ := div_near hx hy (by omega) hf he
    have ey : sv y = -(val BB (rg y) : Int) := by rw [sv_abs, hn]; rfl
    rw [hn, Bool.xor_true] at h1 h2
    rw [ex, ey, Int.mul_neg, Int.mul_neg]
    cases c : ng x
    · rw [c] at h1 h2
      simp only [Bool.not_false, if_true] at h1 h2
      simp only [Bool.false_eq_true, if_false]
      omega
    · rw [c] at h1 h2
      simp only [Bool.not_true, Bool.false_eq_true, if_false] at h1 h2
      simp only [if_true]
      omega
theorem no_zero2 {b : Nat × Nat} (S : Snd b) (h : (leB b.1 0 && geB b.2 0) = false) : 0 < key b.1 ∨ key b.2 < 0 := by
  have := S.le
  rw [leB_key S.n1 num_0, key_zero] at h
  unfold geB at h
  rw [gt_key S.n2.2 num_0.2, eq_key S.n2.2 num_0.2, key_zero] at h
  rcases Int.lt_or_le 0 (key b.1) with k | k
  · exact .inl k
  · right
    rw [decide_eq_true k, Bool.true_and] at h
    simp only [Bool.or_eq_false_iff, decide_eq_false_iff_not] at h
    omega
theorem four_get (w x y z : Nat) : [w, x, y, z].getD 0 0 = w ∧ [w, x, y, z].getD 1 0 = x ∧ [w, x, y, z].getD 2 0 = y ∧ [w, x, y, z].getD 3 0 = z := ⟨rfl, rfl, rfl, rfl⟩
/-- what is enclosed, by the sign that joins -/
def Encl (s : Nat × Nat) (x y : Nat) (how : Int) (e : Nat) : Prop :=
  (how = 43 ∧ sv s.1 ≤ sv x + sv y ∧ sv x + sv y ≤ sv s.2) ∨ (how = 45 ∧ sv s.1 ≤ sv x - sv y ∧ sv x - sv y ≤ sv s.2) ∨
  (how = 42 ∧ sv s.1 * ((2 ^ e : Nat) : Int) ≤ sv x * sv y ∧ sv x * sv y ≤ sv s.2 * ((2 ^ e : Nat) : Int)) ∨
  (how = 47 ∧ ((0 < sv y ∧ sv s.1 * sv y ≤ sv x * ((2 ^ e : Nat) : Int) ∧ sv x * ((2 ^ e : Nat) : Int) ≤ sv s.2 * sv y) ∨ (sv y < 0 ∧ sv x * ((2 ^ e : Nat) : Int) ≤ sv s.1 * sv y ∧ sv s.2 * sv y ≤ sv x * ((2 ^ e : Nat) : Int))))
theorem join_in {a b : Nat × Nat} {x y : Nat} {how : Int} (ha : a.1 < 18446744073709551616 ∧ a.2 < 18446744073709551616) (hb : b.1 < 18446744073709551616 ∧ b.2 < 18446744073709551616)
    (hx : x < 18446744073709551616) (hy : y < 18446744073709551616) (h1 : hasB a x = true) (h2 : hasB b y = true) (hj : (joinP a b how).2 = true) {e : Nat} (he : e = 1074) :
    (nb (joinP a b how).1.1 ∧ fin (joinP a b how).1.1) ∧ (nb (joinP a b how).1.2 ∧ fin (joinP a b how).1.2) ∧ Encl (joinP a b how).1 x y how e := by
  have s1 : soundB a = true := by unfold hasB at h1; simp only [Bool.and_eq_true] at h1; exact h1.1.1
  have s2 : soundB b = true := by unfold hasB at h2; simp only [Bool.and_eq_true] at h2; exact h2.1.1
  have A := snd_of ha.1 ha.2 s1
  have B := snd_of hb.1 hb.2 s2
  obtain ⟨nx, fx, x1, x2, kx1, kx2⟩ := has_key A hx h1
  obtain ⟨ny, fy, y1, y2, ky1, ky2⟩ := has_key B hy h2
  have hE : (0 : Int) ≤ ((2 ^ e : Nat) : Int) := Int.natCast_nonneg _
  unfold joinP at hj ⊢
  rw [s1, s2, if_pos (by rfl)] at hj
  rw [s1, s2, if_pos (by rfl)]
  by_cases c1 : how = 43
  · rw [if_pos c1] at hj ⊢
    obtain ⟨_, p1, p2⟩ := fadd_nb A.f1 B.f1
    obtain ⟨_, q1, q2⟩ := fadd_nb A.f2 B.f2
    obtain ⟨⟨f1, f2⟩, ⟨w1, w2, w3⟩, v1, v2, v3⟩ := wid_ends p1 q1 (.inl (by rw [p2, q2]; exact KK_mono (by omega))) hj
    refine ⟨⟨w1, w2⟩, ⟨v1, v2⟩, .inl ⟨c1, ?_, ?_⟩⟩
    · rw [sv_key, w3, p2]
      have := (KK_near (by rw [← p2]; exact key_fin f1)).1
      omega
    · rw [sv_key (widP _ _).1.2, v3, q2]
      have := (KK_near (by rw [← q2]; exact key_fin f2)).2
      omega
  rw [if_neg c1] at hj ⊢
  by_cases c2 : how = 45
  · rw [if_pos c2] at hj ⊢
    obtain ⟨_, p1, p2⟩ := fsub_nb A.f1 B.f2 hb.2
    obtain ⟨_, q1, q2⟩ := fsub_nb A.f2 B.f1 hb.1
    obtain ⟨⟨f1, f2⟩, ⟨w1, w2, w3⟩, v1, v2, v3⟩ := wid_ends p1 q1 (.inl (by rw [p2, q2]; exact KK_mono (by omega))) hj
    refine ⟨⟨w1, w2⟩, ⟨v1, v2⟩, .inr (.inl ⟨c2, ?_, ?_⟩)⟩
    · rw [sv_key, w3, p2]
      have := (KK_near (by rw [← p2]; exact key_fin f1)).1
      omega
    · rw [sv_key (widP _ _).1.2, v3, q2]
      have := (KK_near (by rw [← q2]; exact key_fin f2)).2
      omega
  rw [if_neg c2] at hj ⊢
  by_cases c3 : how = 42
  · rw [if_pos c3] at hj ⊢
    obtain ⟨⟨m1, m2⟩, m3⟩ := mm_le (nb4 (fmul_nb A.f1 B.f1).2 (fmul_nb A.f1 B.f2).2 (fmul_nb A.f2 B.f1).2 (fmul_nb A.f2 B.f2).2) 3 (by show 3 < 4; omega)
    have k0 := m3 0 (by omega)
    have k1 := m3 1 (by omega)
    have k2 := m3 2 (by omega)
    have k3 := m3 3 (by omega)
    obtain ⟨e0, e1, e2, e3⟩ := four_get (fmul a.1 b.1) (fmul a.1 b.2) (fmul a.2 b.1) (fmul a.2 b.2)
    rw [e0] at k0
    rw [e1] at k1
    rw [e2] at k2
    rw [e3] at k3
    generalize mmV false [fmul a.1 b.1, fmul a.1 b.2, fmul a.2 b.1, fmul a.2 b.2] 3 = lo at *
    generalize mmV true [fmul a.1 b.1, fmul a.1 b.2, fmul a.2 b.1, fmul a.2 b.2] 3 = hi at *
    obtain ⟨⟨f1, f2⟩, ⟨w1, w2, w3⟩, v1, v2, v3⟩ := wid_ends m1 m2 (.inl (by omega)) hj
    have g1 := key_fin f1
    have g2 := key_fin f2
    have corner : ∀ {u v : Nat}, fin u → fin v → (key lo ≤ key (fmul u v) ∧ key (fmul u v) ≤ key hi) → sv (widP lo hi).1.1 * ((2 ^ e : Nat) : Int) ≤ sv u * sv v ∧ sv u * sv v ≤ sv (widP lo hi).1.2 * ((2 ^ e : Nat) : Int) := by
      intro u v fu fv ⟨k, k'⟩
      have hf := fin_of (fmul_nb fu fv).2 (by generalize INF = I at *; omega)
      obtain ⟨n1, n2⟩ := mul_near fu fv hf he
      rw [sv_key (widP lo hi).1.1, sv_key (widP lo hi).1.2, w3, v3]
      exact ⟨Int.le_trans (Int.mul_le_mul_of_nonneg_right (kv_le (by omega)) hE) n1, Int.le_trans n2 (Int.mul_le_mul_of_nonneg_right (kv_le (by omega)) hE)⟩
    have r0 := corner A.f1 B.f1 k0
    have r1 := corner A.f1 B.f2 k1
    have r2 := corner A.f2 B.f1 k2
    have r3 := corner A.f2 B.f2 k3
    exact ⟨⟨w1, w2⟩, ⟨v1, v2⟩, .inr (.inr (.inl ⟨c3, bil_lo x1 x2 y1 y2 r0.1 r1.1 r2.1 r3.1, bil_hi x1 x2 y1 y2 r0.2 r1.2 r2.2 r3.2⟩))⟩
  rw [if_neg c3] at hj ⊢
  by_cases c4 : how = 47
  · rw [if_pos c4] at hj ⊢
    cases hz : leB b.1 0 && geB b.2 0
    · rw [hz, if_neg (by decide)] at hj
      rw [if_neg (by decide)]
      obtain ⟨z1, z2⟩ := no_zero B hz
      obtain ⟨⟨m1, m2⟩, m3⟩ := mm_le (nb4 (fdiv_nb A.f1 B.f1 z1).2 (fdiv_nb A.f1 B.f2 z2).2 (fdiv_nb A.f2 B.f1 z1).2 (fdiv_nb A.f2 B.f2 z2).2) 3 (by show 3 < 4; omega)
      have k0 := m3 0 (by omega)
      have k1 := m3 1 (by omega)
      have k2 := m3 2 (by omega)
      have k3 := m3 3 (by omega)
      obtain ⟨e0, e1, e2, e3⟩ := four_get (fdiv a.1 b.1) (fdiv a.1 b.2) (fdiv a.2 b.1) (fdiv a.2 b.2)
      rw [e0] at k0
      rw [e1] at k1
      rw [e2] at k2
      rw [e3] at k3
      generalize mmV false [fdiv a.1 b.1, fdiv a.1 b.2, fdiv a.2 b.1, fdiv a.2 b.2] 3 = lo at *
      generalize mmV true [fdiv a.1 b.1, fdiv a.1 b.2, fdiv a.2 b.1, fdiv a.2 b.2] 3 = hi at *
      obtain ⟨⟨f1, f2⟩, ⟨w1, w2, w3⟩, v1, v2, v3⟩ := wid_ends m1 m2 (.inl (by omega)) hj
      have g1 := key_fin f1
      have g2 := key_fin f2
      refine ⟨⟨w1, w2⟩, ⟨v1, v2⟩, .inr (.inr (.inr ⟨c4, ?_⟩))⟩
      have hx1 := Int.mul_le_mul_of_nonneg_right x1 hE
      have hx2 := Int.mul_le_mul_of_nonneg_right x2 hE
      have ff : ∀ {u v : Nat}, fin u → fin v → key v ≠ 0 → (key lo ≤ key (fdiv u v) ∧ key (fdiv u v) ≤ key hi) → fin (fdiv u v) := fun fu fv z ⟨k, k'⟩ => fin_of (fdiv_nb fu fv z).2 (by generalize INF = I at *; omega)
      have n0 := div_near2 A.f1 B.f1 (ff A.f1 B.f1 z1 k0) he
      have n1 := div_near2 A.f1 B.f2 (ff A.f1 B.f2 z2 k1) he
      have n2 := div_near2 A.f2 B.f1 (ff A.f2 B.f1 z1 k2) he
      have n3 := div_near2 A.f2 B.f2 (ff A.f2 B.f2 z2 k3) he
      rw [sv_key (widP lo hi).1.1, sv_key (widP lo hi).1.2, w3, v3]
      rcases no_zero2 B hz with hp | hp
      · left
        have p1 := (sv_pos (x := b.1)).1.2 hp
        have p2 := (sv_pos (x := b.2)).1.2 (by omega)
        have py := (sv_pos (x := y)).1.2 (by omega)
        have up : ∀ {k c v : Int}, c ≤ k → 0 ≤ v → kv c * v ≤ kv k * v := fun h h' => Int.mul_le_mul_of_nonneg_right (kv_le h) h'
        refine ⟨py, Int.le_trans (lin_lo y1 y2 (R := sv a.1 * ((2 ^ e : Nat) : Int)) ?_ ?_) hx1, Int.le_trans hx2 (lin_hi y1 y2 (R := sv a.2 * ((2 ^ e : Nat) : Int)) ?_ ?_)⟩
        · exact Int.le_trans (up (by omega) (by omega)) (n0.1 hp).1
        · exact Int.le_trans (up (by omega) (by omega)) (n1.1 (by omega)).1
        · exact Int.le_trans (n2.1 hp).2 (up (by omega) (by omega))
        · exact Int.le_trans (n3.1 (by omega)).2 (up (by omega) (by omega))
      · right
        have p1 := (sv_pos (x := b.1)).2.2 (by omega)
        have p2 := (sv_pos (x := b.2)).2.2 hp
        have py := (sv_pos (x := y)).2.2 (by omega)
        have up : ∀ {k c v : Int}, c ≤ k → v ≤ 0 → kv k * v ≤ kv c * v := fun h h' => Int.mul_le_mul_of_nonpos_right (kv_le h) h'
        refine ⟨py, Int.le_trans hx2 (lin_hi y1 y2 (R := sv a.2 * ((2 ^ e : Nat) : Int)) ?_ ?_), Int.le_trans (lin_lo y1 y2 (R := sv a.1 * ((2 ^ e : Nat) : Int)) ?_ ?_) hx1⟩
        · exact Int.le_trans (n2.2 (by omega)).1 (up (by omega) (by omega))
        · exact Int.le_trans (n3.2 hp).1 (up (by omega) (by omega))
        · exact Int.le_trans (up (by omega) (by omega)) (n0.2 (by omega)).2
        · exact Int.le_trans (up (by omega) (by omega)) (n1.2 hp).2
    · rw [hz, if_pos rfl] at hj; cases hj
  rw [if_neg c4] at hj; cases hj
theorem root_in {a : Nat × Nat} {x : Nat} (ha : a.1 < 18446744073709551616 ∧ a.2 < 18446744073709551616) (hx : x < 18446744073709551616) (h1 : hasB a x = true) (hj : (rootP a).2 = true) {e : Nat} (he : e = 1074) :
    (nb (rootP a).1.1 ∧ fin (rootP a).1.1 ∧ 0 ≤ key (rootP a).1.1) ∧ (nb (rootP a).1.2 ∧ fin (rootP a).1.2) ∧ sv (rootP a).1.1 * sv (rootP a).1.1 ≤ sv x * ((2 ^ e : Nat) : Int) ∧ sv x * ((2 ^ e : Nat) : Int) ≤ sv (rootP a).1.2 * sv (rootP a).1.2 := by
  have s1 : soundB a = true := by unfold hasB at h1; simp only [Bool.and_eq_true] at h1; exact h1.1.1
  have A := snd_of ha.1 ha.2 s1
  obtain ⟨nx, fx, x1, x2, kx1, kx2⟩ := has_key A hx h1
  have hE : (0 : Int) ≤ ((2 ^ e : Nat) : Int) := Int.natCast_nonneg _
  unfold rootP at hj ⊢
  cases hl : FloatKind.f64.format.order a.1 0 == some .lt
  · rw [hl, s1, if_neg (by decide)] at hj
    rw [s1, if_neg (by decide)]
    obtain ⟨z1, z2⟩ := root_ends A hl
    obtain ⟨_, n1, f1⟩ := fsqrt_nb A.f1 z1
    obtain ⟨_, n2, f2⟩ := fsqrt_nb A.f2 z2
    obtain ⟨_, ⟨w1, w2, w3⟩, v1, v2, v3⟩ := wid_ends n1 n2 (.inr ⟨f1, f2⟩) hj
    obtain ⟨m1, m2⟩ := fMM_key true w1 num_0
    simp only [if_true] at m2
    rw [w3, key_zero] at m2
    obtain ⟨q1, q2, _⟩ := sqrt_near A.f1 z1 he
    obtain ⟨r1, _, r3⟩ := sqrt_near A.f2 z2 he
    have b1 := key_fin f1
    have p1 : ∀ {v : Nat}, 0 ≤ key v → sv v = (val BB (rg v) : Int) := by
      intro v h
      rw [sv_key]
      have : key v = (rg v : Int) := by
        unfold key at h ⊢
        cases c : ng v
        · rfl
        · rw [c] at h; simp only [if_true] at h ⊢; omega
      rw [this]; unfold kv; rw [if_neg (by omega)]; rfl
    have hlo : sv (fMM true .f64 (widP (fsqrt a.1) (fsqrt a.2)).1.1 0) = (val BB (rg (fsqrt a.1) - 1) : Int) := by
      rw [sv_key, m2, q1]
      unfold kv; rw [if_neg (by omega)]; congr 2; omega
    have hhi : sv (widP (fsqrt a.1) (fsqrt a.2)).1.2 = (val BB (rg (fsqrt a.2) + 1) : Int) := by
      rw [sv_key, v3, r1]
      unfold kv; rw [if_neg (by omega)]; congr 2
    refine ⟨⟨m1, fin_of m1 ?_, ?_⟩, ⟨v1, v2⟩, ?_, ?_⟩
    · rw [m2]; have : (0 : Int) < (INF : Nat) := by decide
      generalize INF = I at *; omega
    · rw [m2]; omega
    · show sv (fMM true .f64 (widP (fsqrt a.1) (fsqrt a.2)).1.1 0) * sv (fMM true .f64 (widP (fsqrt a.1) (fsqrt a.2)).1.1 0) ≤ _
      rw [hlo]
      refine Int.le_trans ?_ (Int.mul_le_mul_of_nonneg_right x1 hE)
      rw [p1 z1, ← Int.natCast_mul, ← Int.natCast_mul]
      exact Int.ofNat_le.2 q2
    · show _ ≤ sv (widP (fsqrt a.1) (fsqrt a.2)).1.2 * sv (widP (fsqrt a.1) (fsqrt a.2)).1.2
      rw [hhi]
      refine Int.le_trans (Int.mul_le_mul_of_nonneg_right x2 hE) ?_
      rw [p1 z2, ← Int.natCast_mul, ← Int.natCast_mul]
      exact Int.ofNat_le.2 r3
  · rw [hl, s1, if_pos (by decide)] at hj; cases hj
end Go.Proofs.Ytlmmhmoihmlljaa
/-
  GrainEncloses: the law, walked.
-/
namespace Go.Proofs.Ytlmmhmoihmlljaa
open Go Go.Ab Go.RowKit
set_option maxRecDepth 100000
theorem adZ_sc {x p y q c : Int} (h : 0 ≤ min p q + c) : adZ x p y q * ((2 ^ (min p q + c).toNat : Nat) : Int) = x * ((2 ^ (p + c).toNat : Nat) : Int) + y * ((2 ^ (q + c).toNat : Nat) : Int) := by
  unfold adZ
  rw [Int.add_mul, Int.mul_assoc, Int.mul_assoc, ← Int.natCast_mul, ← Int.natCast_mul, ← Nat.pow_add, ← Nat.pow_add, show (p - min p q).toNat + (min p q + c).toNat = (p + c).toNat by omega, show (q - min p q).toNat + (min p q + c).toNat = (q + c).toNat by omega]
theorem pw_pos (k : Nat) : (0 : Int) < ((2 ^ k : Nat) : Int) := by
  have : 0 < 2 ^ k := Nat.pow_pos (by omega)
  exact Int.natCast_pos.2 this
theorem le0_of {z : Int} (k : Nat) (h : z * ((2 ^ k : Nat) : Int) ≤ 0) : z ≤ 0 := by
  rcases Int.lt_or_le 0 z with c | c
  · have := Int.mul_pos c (pw_pos k); omega
  · exact c
theorem ge0_of {z : Int} (k : Nat) (h : 0 ≤ z * ((2 ^ k : Nat) : Int)) : 0 ≤ z := by
  rcases Int.lt_or_le z 0 with c | c
  · have := Int.mul_neg_of_neg_of_pos c (pw_pos k); omega
  · exact c
theorem lt0_of {z : Int} (k : Nat) : z * ((2 ^ k : Nat) : Int) < 0 ↔ z < 0 := by
  constructor
  · intro h
    rcases Int.lt_or_le z 0 with c | c
    · exact c
    · have := Int.mul_nonneg c (Int.le_of_lt (pw_pos k)); omega
  · exact fun h => Int.mul_neg_of_neg_of_pos h (pw_pos k)
theorem sc1 {x : Nat} (h : Fp.fin x) (e : Nat) (he : e = 1074) : exZ x * ((2 ^ (exP x + 2148).toNat : Nat) : Int) = Fp.sv x * ((2 ^ e : Nat) : Int) := by
  obtain ⟨h1, _, _, h4⟩ := ex_val x h
  rw [← h4, Int.mul_assoc, ← Int.natCast_mul, ← Nat.pow_add]
  congr 4; omega
theorem sc2 {x y : Nat} (h : Fp.fin x) (h' : Fp.fin y) : exZ x * exZ y * ((2 ^ (exP x + exP y + 2148).toNat : Nat) : Int) = Fp.sv x * Fp.sv y := by
  obtain ⟨h1, _, _, h4⟩ := ex_val x h
  obtain ⟨g1, _, _, g4⟩ := ex_val y h'
  rw [← h4, ← g4, show exZ x * ((2 ^ (exP x + 1074).toNat : Nat) : Int) * (exZ y * ((2 ^ (exP y + 1074).toNat : Nat) : Int)) = exZ x * exZ y * (((2 ^ (exP x + 1074).toNat : Nat) : Int) * ((2 ^ (exP y + 1074).toNat : Nat) : Int)) by ac_rfl, ← Int.natCast_mul, ← Nat.pow_add]
  congr 4; omega
theorem ex_sm {x : Nat} (h : Fp.fin x) : Sm (exZ x) (exP x) := by
  obtain ⟨h1, h2, h3, _⟩ := ex_val x h
  exact ⟨h3, h1, h2⟩
/-- between the ends: the document's inside answers true -/
theorem inside_any (G : List (Nat × Value)) {x y l h : Nat} {how : Int} (fx : Fp.fin x) (fy : Fp.fin y) (fl : Fp.fin l) (fh : Fp.fin h) {e : Nat} (he : e = 1074) (hE : Encl (l, h) x y how e) (K : AV → List AO → Prop) (hK : K (.fz .bool true) []) :
    ACall Try.prog G 29 [.fz ExT (sgn (exZ x), exP x), .fz ExT (sgn (exZ y), exP y), .fz ExT (sgn (exZ l), exP l), .fz ExT (sgn (exZ h), exP h), .fz (.int .u8) how] [] K := by
  obtain ⟨x1, x2, x3, x4⟩ := ex_val x fx
  obtain ⟨y1, y2, y3, y4⟩ := ex_val y fy
  obtain ⟨l1, l2, l3, l4⟩ := ex_val l fl
  obtain ⟨h1, h2, h3, h4⟩ := ex_val h fh
  rcases hE with ⟨rfl, g1, g2⟩ | ⟨rfl, g1, g2⟩ | ⟨rfl, g1, g2⟩ | ⟨rfl, hd⟩
  · refine insideAdd G _ _ _ _ _ _ _ _ (ex_sm fx) (ex_sm fy) (ex_sm fl) (ex_sm fh) (le0_of (min (exP l) (min (exP x) (exP y)) + 1074).toNat ?_) (le0_of (min (min (exP x) (exP y)) (exP h) + 1074).toNat ?_) K hK
    · rw [adZ_sc (by omega), Int.neg_mul, adZ_sc (by omega), x4, y4, l4]
      have g1 : Fp.sv l ≤ _ := g1
      omega
    · rw [adZ_sc (by omega), Int.neg_mul, adZ_sc (by omega), x4, y4, h4]
      have g2 : _ ≤ Fp.sv h := g2
      omega
  · refine insideSub G _ _ _ _ _ _ _ _ (ex_sm fx) (ex_sm fy) (ex_sm fl) (ex_sm fh) (le0_of (min (exP l) (min (exP x) (exP y)) + 1074).toNat ?_) (le0_of (min (min (exP x) (exP y)) (exP h) + 1074).toNat ?_) K hK
    · rw [adZ_sc (by omega), Int.neg_mul, adZ_sc (by omega), Int.neg_mul, x4, y4, l4]
      have g1 : Fp.sv l ≤ _ := g1
      omega
    · rw [adZ_sc (by omega), Int.neg_mul, adZ_sc (by omega), Int.neg_mul, x4, y4, h4]
      have g2 : _ ≤ Fp.sv h := g2
      omega
  · refine insideMul G _ _ _ _ _ _ _ _ (ex_sm fx) (ex_sm fy) (ex_sm fl) (ex_sm fh) (le0_of (min (exP l) (exP x + exP y) + 2148).toNat ?_) (le0_of (min (exP x + exP y) (exP h) + 2148).toNat ?_) K hK
    · rw [adZ_sc (by omega), Int.neg_mul, sc1 fl e he, sc2 fx fy]
      have g1 : Fp.sv l * _ ≤ _ := g1
      omega
    · rw [adZ_sc (by omega), Int.neg_mul, sc1 fh e he, sc2 fx fy]
      have g2 : _ ≤ Fp.sv h * _ := g2
      omega
  · rcases hd with ⟨g0, g1, g2⟩ | ⟨g0, g1, g2⟩
    · refine insideDivP G _ _ _ _ _ _ _ _ (ex_sm fx) (ex_sm fy) (ex_sm fl) (ex_sm fh) ?_ (le0_of (min (exP l + exP y) (exP x) + 2148).toNat ?_) (le0_of (min (exP x) (exP h + exP y) + 2148).toNat ?_) K hK
      · rw [← lt0_of (exP y + 1074).toNat, y4]; omega
      · rw [adZ_sc (by omega), Int.neg_mul, sc1 fx e he, sc2 fl fy]
        have g1 : Fp.sv l * _ ≤ _ := g1
        omega
      · rw [adZ_sc (by omega), Int.neg_mul, sc1 fx e he, sc2 fh fy]
        have g2 : _ ≤ Fp.sv h * _ := g2
        omega
    · refine insideDivN G _ _ _ _ _ _ _ _ (ex_sm fx) (ex_sm fy) (ex_sm fl) (ex_sm fh) ?_ (ge0_of (min (exP l + exP y) (exP x) + 2148).toNat ?_) (ge0_of (min (exP x) (exP h + exP y) + 2148).toNat ?_) K hK
      · rw [← lt0_of (exP y + 1074).toNat, y4]; omega
      · rw [adZ_sc (by omega), Int.neg_mul, sc1 fx e he, sc2 fl fy]
        have g1 : _ ≤ Fp.sv l * _ := g1
        omega
      · rw [adZ_sc (by omega), Int.neg_mul, sc1 fx e he, sc2 fh fy]
        have g2 : Fp.sv h * _ ≤ _ := g2
        omega
/-- 0 is not above it -/
theorem ge0_key {x : Nat} (h : nb x) (hk : 0 ≤ Fp.key x) : (FloatKind.f64.format.order x 0 == some .gt || FloatKind.f64.format.order x 0 == some .eq) = true := by
  rw [Fp.gt_key h.2 num_0.2, Fp.eq_key h.2 num_0.2, key_zero, Bool.or_eq_true, decide_eq_true_eq, decide_eq_true_eq]
  omega
/-- the roots' squares, compared -/
theorem roots_any (G : List (Nat × Value)) {l h x : Nat} (fl : Fp.fin l) (fh : Fp.fin h) (fx : Fp.fin x) {e : Nat} (he : e = 1074) (v1 : Fp.sv l * Fp.sv l ≤ Fp.sv x * ((2 ^ e : Nat) : Int)) (v2 : Fp.sv x * ((2 ^ e : Nat) : Int) ≤ Fp.sv h * Fp.sv h) :
    (∀ K : AV → List AO → Prop, K (.fz ExT (sgn (exZ l * exZ l), exP l + exP l)) [] → ACall Try.prog G 31 [.fz ExT (sgn (exZ l), exP l), .fz ExT (sgn (exZ l), exP l)] [] K) ∧
    (∀ K : AV → List AO → Prop, K (.fz int (sgI (adZ (exZ l * exZ l) (exP l + exP l) (-(exZ x)) (exP x)))) [] → ACall Try.prog G 30 [.fz ExT (sgn (exZ l * exZ l), exP l + exP l), .fz ExT (sgn (exZ x), exP x)] [] K) ∧
    (∀ K : AV → List AO → Prop, K (.fz ExT (sgn (exZ h * exZ h), exP h + exP h)) [] → ACall Try.prog G 31 [.fz ExT (sgn (exZ h), exP h), .fz ExT (sgn (exZ h), exP h)] [] K) ∧
    (∀ K : AV → List AO → Prop, K (.fz int (sgI (adZ (exZ x) (exP x) (-(exZ h * exZ h)) (exP h + exP h)))) [] → ACall Try.prog G 30 [.fz ExT (sgn (exZ x), exP x), .fz ExT (sgn (exZ h * exZ h), exP h + exP h)] [] K) ∧
    sgI (adZ (exZ l * exZ l) (exP l + exP l) (-(exZ x)) (exP x)) ≤ 0 ∧ sgI (adZ (exZ x) (exP x) (-(exZ h * exZ h)) (exP h + exP h)) ≤ 0 := by
  obtain ⟨x1, x2, x3, x4⟩ := ex_val x fx
  obtain ⟨l1, l2, l3, l4⟩ := ex_val l fl
  obtain ⟨h1, h2, h3, h4⟩ := ex_val h fh
  refine ⟨exactMulA G _ _ _ _ (l3.sz (by omega)) (l3.sz (by omega)) (by omega) (by omega), exactCmpA G _ _ _ _ ((l3.mul l3).mono (by omega)) (x3.mono (by omega)) (by omega) (by omega),
    exactMulA G _ _ _ _ (h3.sz (by omega)) (h3.sz (by omega)) (by omega) (by omega), exactCmpA G _ _ _ _ (x3.mono (by omega)) ((h3.mul h3).mono (by omega)) (by omega) (by omega), sgI_le.2 (le0_of (min (exP l + exP l) (exP x) + 2148).toNat ?_), sgI_le.2 (le0_of (min (exP x) (exP h + exP h) + 2148).toNat ?_)⟩
  · rw [adZ_sc (by omega), Int.neg_mul, sc1 fx e he, sc2 fl fl]
    omega
  · rw [adZ_sc (by omega), Int.neg_mul, sc1 fx e he, sc2 fh fh]
    omega
set_option maxHeartbeats 4000000 in
theorem grainEncloses_any (G : List (Nat × Value)) (a b : Nat × Nat) (how : Int) (x y : Nat) (hla : a.1 < 18446744073709551616 ∧ a.2 < 18446744073709551616) (hlb : b.1 < 18446744073709551616 ∧ b.2 < 18446744073709551616) (hx : x < 18446744073709551616) (hy : y < 18446744073709551616) (K : AV → List AO → Prop) (hK : K (.fz .bool true) []) :
    ACall Try.prog G 5 [.fz SpT a, .fz SpT b, .fz (.int .u8) how, .fz F64 x, .fz F64 y] [] K := by
  obtain ⟨e, he⟩ : ∃ e : Nat, e = 1074 := ⟨_, rfl⟩
  have hJ := joinA G a b how hla hlb
  have hR := rootedA G a hla
  have hj := fun h1 h2 hj => join_in (how := how) hla hlb hx hy h1 h2 hj he
  have hr : hasB a x = true → (rootP a).2 = true → _ := fun h1 hj => by
    have s1 : soundB a = true := by unfold hasB at h1; simp only [Bool.and_eq_true] at h1; exact h1.1.1
    obtain ⟨nx, fx, _⟩ := has_key (snd_of hla.1 hla.2 s1) hx h1
    obtain ⟨n1, n2, v1, v2⟩ := root_in hla hx h1 hj he
    exact And.intro n1 (And.intro n2 (roots_any G n1.2.1 n2.2 fx he v1 v2))
  have hI : hasB a x = true → hasB b y = true → (joinP a b how).2 = true → ∀ K : AV → List AO → Prop, K (.fz .bool true) [] →
    ACall Try.prog G 29 [.fz ExT (sgn (exZ x), exP x), .fz ExT (sgn (exZ y), exP y), .fz ExT (sgn (exZ (joinP a b how).1.1), exP (joinP a b how).1.1), .fz ExT (sgn (exZ (joinP a b how).1.2), exP (joinP a b how).1.2), .fz (.int .u8) how] [] K := fun h1 h2 h3 => by
    have s1 : soundB a = true := by unfold hasB at h1; simp only [Bool.and_eq_true] at h1; exact h1.1.1
    have s2 : soundB b = true := by unfold hasB at h2; simp only [Bool.and_eq_true] at h2; exact h2.1.1
    obtain ⟨_, fx, _⟩ := has_key (snd_of hla.1 hla.2 s1) hx h1
    obtain ⟨_, fy, _⟩ := has_key (snd_of hlb.1 hlb.2 s2) hy h2
    obtain ⟨n1, n2, hE⟩ := hj h1 h2 h3
    exact inside_any G fx fy n1.2 n2.2 he hE
  generalize joinP a b how = jp at *
  generalize rootP a = rp at *
  obtain ⟨⟨jl, jh⟩, jb⟩ := jp
  obtain ⟨⟨rl, rh⟩, rb⟩ := rp
  have hA := hasA G a x
  have hB := hasA G b y
  generalize hasB a x = p at *
  generalize hasB b y = q at *
  obtain ⟨a1, a2⟩ := a
  obtain ⟨b1, b2⟩ := b
  refine acall_mk (E := envAt G 103 0) (envOk _ _ _) Try.func5 rfl rfl rfl rfl rfl ?_
  (repeat' (first | exact trivial | exact fun h => h | refine And.intro ?_ ?_ | (intro hb; first | (simp at hb; done) | (simp at hb) | skip) | omega | exact rfl | exact Nat.le_refl _ | (show _ + 1 ≤ 4294967296; omega) | (dsimp only; omega) | (show (_ : Int) ≤ (_ : Int); omega) | (show _ < List.length _; simp only [List.length_set, List.length_append, List.length_take]; omega) | (show wantB _ _ = true; simp; done) | (show wantB _ _ = true; simp; omega) | (show (_ : Bool) = _; simp_all; done) | (exfalso; omega) | refine aRegion_auto (by decide +kernel) ?_ | fail))
  refine acall_frame0 rfl (enclosesA _ _ ?_)
  (repeat' (first | exact trivial | exact fun h => h | refine And.intro ?_ ?_ | (intro hb; first | (simp at hb; done) | (simp at hb) | skip) | omega | exact rfl | exact Nat.le_refl _ | (show _ + 1 ≤ 4294967296; omega) | (dsimp only; omega) | (show (_ : Int) ≤ (_ : Int); omega) | (show _ < List.length _; simp only [List.length_set, List.length_append, List.length_take]; omega) | (show wantB _ _ = true; simp; done) | (show wantB _ _ = true; simp; omega) | (show (_ : Bool) = _; simp_all; done) | (exfalso; omega) | refine aRegion_auto (by decide +kernel) ?_ | fail))
  refine acall_conv [.dat SpT, .keep] _ _ _ rfl trivial (acall_frame0 rfl (hA _ ?_))
  (repeat' (first | exact trivial | exact fun h => h | refine And.intro ?_ ?_ | (intro hb; first | (simp at hb; done) | (simp at hb) | skip) | omega | exact rfl | exact Nat.le_refl _ | (show _ + 1 ≤ 4294967296; omega) | (dsimp only; omega) | (show (_ : Int) ≤ (_ : Int); omega) | (show _ < List.length _; simp only [List.length_set, List.length_append, List.length_take]; omega) | (show wantB _ _ = true; simp; done) | (show wantB _ _ = true; simp; omega) | (show (_ : Bool) = _; simp_all; done) | (exfalso; omega) | refine aRegion_auto (by decide +kernel) ?_ | fail))
  refine acall_conv [.dat SpT, .keep] _ _ _ rfl trivial (acall_frame0 rfl (hB _ ?_))
  cases p
  · (repeat' (first | exact trivial | exact fun h => h | refine And.intro ?_ ?_ | (intro hb; first | (simp at hb; done) | (simp at hb) | skip) | omega | exact rfl | exact Nat.le_refl _ | (show _ + 1 ≤ 4294967296; omega) | (dsimp only; omega) | (show (_ : Int) ≤ (_ : Int); omega) | (show _ < List.length _; simp only [List.length_set, List.length_append, List.length_take]; omega) | (show wantB _ _ = true; simp; done) | (show wantB _ _ = true; simp; omega) | (show (_ : Bool) = _; simp_all; done) | (exfalso; omega) | refine aRegion_auto (by decide +kernel) ?_ | refine ⟨_, _, REnt.drop ⟨rfl, rfl⟩, ?_⟩ | fail))
    exact hK
  cases q
  · (repeat' (first | exact trivial | exact fun h => h | refine And.intro ?_ ?_ | (intro hb; first | (simp at hb; done) | (simp at hb) | skip) | omega | exact rfl | exact Nat.le_refl _ | (show _ + 1 ≤ 4294967296; omega) | (dsimp only; omega) | (show (_ : Int) ≤ (_ : Int); omega) | (show _ < List.length _; simp only [List.length_set, List.length_append, List.length_take]; omega) | (show wantB _ _ = true; simp; done) | (show wantB _ _ = true; simp; omega) | (show (_ : Bool) = _; simp_all; done) | (exfalso; omega) | refine aRegion_auto (by decide +kernel) ?_ | refine ⟨_, _, REnt.drop ⟨rfl, rfl⟩, ?_⟩ | fail))
    exact hK
  (repeat' (first | exact trivial | exact fun h => h | refine And.intro ?_ ?_ | (intro hb; first | (simp at hb; done) | (simp at hb) | skip) | omega | exact rfl | exact Nat.le_refl _ | (show _ + 1 ≤ 4294967296; omega) | (dsimp only; omega) | (show (_ : Int) ≤ (_ : Int); omega) | (show _ < List.length _; simp only [List.length_set, List.length_append, List.length_take]; omega) | (show wantB _ _ = true; simp; done) | (show wantB _ _ = true; simp; omega) | (show (_ : Bool) = _; simp_all; done) | (exfalso; omega) | refine aRegion_auto (by decide +kernel) ?_ | fail))
  refine acall_conv [.dat SpT, .dat SpT, .keep] _ _ _ rfl trivial (acall_frame0 rfl (hJ _ ?_))
  cases jb
  · (repeat' (first | exact trivial | exact fun h => h | refine And.intro ?_ ?_ | (intro hb; first | (simp at hb; done) | (simp at hb) | skip) | omega | exact rfl | exact Nat.le_refl _ | (show _ + 1 ≤ 4294967296; omega) | (dsimp only; omega) | (show (_ : Int) ≤ (_ : Int); omega) | (show _ < List.length _; simp only [List.length_set, List.length_append, List.length_take]; omega) | (show wantB _ _ = true; simp; done) | (show wantB _ _ = true; simp; omega) | (show (_ : Bool) = _; simp_all; done) | (exfalso; omega) | refine aRegion_auto (by decide +kernel) ?_ | fail))
    refine acall_conv [.dat SpT] _ _ _ rfl trivial (acall_frame0 rfl (hR _ ?_))
    cases rb
    · (repeat' (first | exact trivial | exact fun h => h | refine And.intro ?_ ?_ | (intro hb; first | (simp at hb; done) | (simp at hb) | skip) | omega | exact rfl | exact Nat.le_refl _ | (show _ + 1 ≤ 4294967296; omega) | (dsimp only; omega) | (show (_ : Int) ≤ (_ : Int); omega) | (show _ < List.length _; simp only [List.length_set, List.length_append, List.length_take]; omega) | (show wantB _ _ = true; simp; done) | (show wantB _ _ = true; simp; omega) | (show (_ : Bool) = _; simp_all; done) | (exfalso; omega) | refine aRegion_auto (by decide +kernel) ?_ | refine ⟨_, _, REnt.drop ⟨rfl, rfl⟩, ?_⟩ | fail))
      exact hK
    · obtain ⟨⟨nl, fl, kl⟩, ⟨nh, fh⟩, M1, C1, M2, C2, g1, g2⟩ := hr rfl rfl
      have hge : (FloatKind.f64.format.order rl 0 == some .gt || FloatKind.f64.format.order rl 0 == some .eq) = true := ge0_key nl kl
      have EL := exactOfA G rl nl.1
      have EH := exactOfA G rh nh.1
      have EX := exactOfA G x hx
      generalize sgI (adZ (exZ rl * exZ rl) (exP rl + exP rl) (-(exZ x)) (exP x)) = r1 at *
      generalize sgI (adZ (exZ x) (exP x) (-(exZ rh * exZ rh)) (exP rh + exP rh)) = r2 at *
      generalize sgn (exZ rl * exZ rl) = sll at *
      generalize sgn (exZ rh * exZ rh) = shh at *
      generalize exP rl + exP rl = pll at *
      generalize exP rh + exP rh = phh at *
      generalize sgn (exZ rl) = sl at *
      generalize sgn (exZ rh) = sh at *
      generalize sgn (exZ x) = sx at *
      obtain ⟨sll1, sll2⟩ := sll
      obtain ⟨shh1, shh2⟩ := shh
      obtain ⟨sl1, sl2⟩ := sl
      obtain ⟨sh1, sh2⟩ := sh
      obtain ⟨sx1, sx2⟩ := sx
      (repeat' (first | exact trivial | exact fun h => h | refine And.intro ?_ ?_ | (intro hb; first | (simp at hb; done) | (simp at hb) | skip) | omega | exact rfl | exact Nat.le_refl _ | (show _ + 1 ≤ 4294967296; omega) | (dsimp only; omega) | (show (_ : Int) ≤ (_ : Int); omega) | (show _ < List.length _; simp only [List.length_set, List.length_append, List.length_take]; omega) | (show wantB _ _ = true; simp; done) | (show wantB _ _ = true; simp; omega) | (show (_ : Bool) = _; simp_all; done) | (exfalso; omega) | refine aRegion_auto (by decide +kernel) ?_ | fail))
      refine acall_frame0 rfl (EL _ ?_)
      (repeat' (first | exact trivial | exact fun h => h | refine And.intro ?_ ?_ | (intro hb; first | (simp at hb; done) | (simp at hb) | skip) | omega | exact rfl | exact Nat.le_refl _ | (show _ + 1 ≤ 4294967296; omega) | (dsimp only; omega) | (show (_ : Int) ≤ (_ : Int); omega) | (show _ < List.length _; simp only [List.length_set, List.length_append, List.length_take]; omega) | (show wantB _ _ = true; simp; done) | (show wantB _ _ = true; simp; omega) | (show (_ : Bool) = _; simp_all; done) | (exfalso; omega) | refine aRegion_auto (by decide +kernel) ?_ | fail))
      refine acall_frame0 rfl (EH _ ?_)
      (repeat' (first | exact trivial | exact fun h => h | refine And.intro ?_ ?_ | (intro hb; first | (simp at hb; done) | (simp at hb) | skip) | omega | exact rfl | exact Nat.le_refl _ | (show _ + 1 ≤ 4294967296; omega) | (dsimp only; omega) | (show (_ : Int) ≤ (_ : Int); omega) | (show _ < List.length _; simp only [List.length_set, List.length_append, List.length_take]; omega) | (show wantB _ _ = true; simp; done) | (show wantB _ _ = true; simp; omega) | (show (_ : Bool) = _; simp_all; done) | (exfalso; omega) | refine aRegion_auto (by decide +kernel) ?_ | fail))
      refine acall_frame0 rfl (EX _ ?_)
      (repeat' (first | exact trivial | exact fun h => h | refine And.intro ?_ ?_ | (intro hb; first | (simp at hb; done) | (simp at hb) | skip) | omega | exact rfl | exact Nat.le_refl _ | (show _ + 1 ≤ 4294967296; omega) | (dsimp only; omega) | (show (_ : Int) ≤ (_ : Int); omega) | (show _ < List.length _; simp only [List.length_set, List.length_append, List.length_take]; omega) | (show wantB _ _ = true; simp; done) | (show wantB _ _ = true; simp; omega) | (show (_ : Bool) = _; simp_all; done) | (exfalso; omega) | refine aRegion_auto (by decide +kernel) ?_ | fail))
      apply exEff
      · refine ⟨fun _ => ?_, fun h => absurd h (by show ¬ (wantB true (FloatKind.f64.format.order rl 0 == some .gt || FloatKind.f64.format.order rl 0 == some .eq) = false); rw [hge]; decide)⟩
        (repeat' (first | refine And.intro ?_ ?_ | (show wantB true (FloatKind.f64.format.order rl 0 == some .gt || FloatKind.f64.format.order rl 0 == some .eq) = true; rw [hge]; rfl)))
        refine acall_conv [.dat ExT, .dat ExT] _ _ _ rfl trivial (acall_frame0 rfl (M1 _ ?_))
        exact ⟨rfl, rfl⟩
      (repeat' (first | exact trivial | exact fun h => h | refine And.intro ?_ ?_ | (intro hb; first | (simp at hb; done) | (simp at hb) | skip) | omega | exact rfl | exact Nat.le_refl _ | (show _ + 1 ≤ 4294967296; omega) | (dsimp only; omega) | (show (_ : Int) ≤ (_ : Int); omega) | (show _ < List.length _; simp only [List.length_set, List.length_append, List.length_take]; omega) | (show wantB _ _ = true; simp; done) | (show wantB _ _ = true; simp; omega) | (show (_ : Bool) = _; simp_all; done) | (exfalso; omega) | refine aRegion_auto (by decide +kernel) ?_ | fail))
      apply exEff
      · refine ⟨fun _ => ?_, fun h => absurd h (by show ¬ (wantB true (FloatKind.f64.format.order rl 0 == some .gt || FloatKind.f64.format.order rl 0 == some .eq) = false); rw [hge]; decide)⟩
        (repeat' (first | refine And.intro ?_ ?_ | (show wantB true (FloatKind.f64.format.order rl 0 == some .gt || FloatKind.f64.format.order rl 0 == some .eq) = true; rw [hge]; rfl)))
        refine acall_conv [.keep, .dat ExT] _ _ _ rfl trivial (acall_frame0 rfl (C1 _ ?_))
        exact ⟨rfl, rfl⟩
      (repeat' (first | exact trivial | exact fun h => h | refine And.intro ?_ ?_ | (intro hb; first | (simp at hb; done) | (simp at hb) | skip) | omega | exact rfl | exact Nat.le_refl _ | (show _ + 1 ≤ 4294967296; omega) | (dsimp only; omega) | (show (_ : Int) ≤ (_ : Int); omega) | (show _ < List.length _; simp only [List.length_set, List.length_append, List.length_take]; omega) | (show wantB _ _ = true; simp; done) | (show wantB _ _ = true; simp; omega) | (show (_ : Bool) = _; simp_all; done) | (exfalso; omega) | refine aRegion_auto (by decide +kernel) ?_ | fail))
      apply exEff
      · refine ⟨fun _ => ?_, fun h => absurd h (by show ¬ (wantB true (bif FloatKind.f64.format.order rl 0 == some .gt || FloatKind.f64.format.order rl 0 == some .eq then decide (r1 ≤ 0) else false) = false); rw [hge, decide_eq_true g1]; decide)⟩
        (repeat' (first | refine And.intro ?_ ?_ | (show wantB true (bif FloatKind.f64.format.order rl 0 == some .gt || FloatKind.f64.format.order rl 0 == some .eq then decide (r1 ≤ 0) else false) = true; rw [hge, decide_eq_true g1]; rfl)))
        refine acall_conv [.dat ExT, .dat ExT] _ _ _ rfl trivial (acall_frame0 rfl (M2 _ ?_))
        exact ⟨rfl, rfl⟩
      (repeat' (first | exact trivial | exact fun h => h | refine And.intro ?_ ?_ | (intro hb; first | (simp at hb; done) | (simp at hb) | skip) | omega | exact rfl | exact Nat.le_refl _ | (show _ + 1 ≤ 4294967296; omega) | (dsimp only; omega) | (show (_ : Int) ≤ (_ : Int); omega) | (show _ < List.length _; simp only [List.length_set, List.length_append, List.length_take]; omega) | (show wantB _ _ = true; simp; done) | (show wantB _ _ = true; simp; omega) | (show (_ : Bool) = _; simp_all; done) | (exfalso; omega) | refine aRegion_auto (by decide +kernel) ?_ | fail))
      apply exEff
      · refine ⟨fun _ => ?_, fun h => absurd h (by show ¬ (wantB true (bif FloatKind.f64.format.order rl 0 == some .gt || FloatKind.f64.format.order rl 0 == some .eq then decide (r1 ≤ 0) else false) = false); rw [hge, decide_eq_true g1]; decide)⟩
        (repeat' (first | refine And.intro ?_ ?_ | (show wantB true (bif FloatKind.f64.format.order rl 0 == some .gt || FloatKind.f64.format.order rl 0 == some .eq then decide (r1 ≤ 0) else false) = true; rw [hge, decide_eq_true g1]; rfl)))
        refine acall_conv [.dat ExT, .keep] _ _ _ rfl trivial (acall_frame0 rfl (C2 _ ?_))
        exact ⟨rfl, rfl⟩
      (repeat' (first | exact trivial | exact fun h => h | refine And.intro ?_ ?_ | (intro hb; first | (simp at hb; done) | (simp at hb) | skip) | omega | exact rfl | exact Nat.le_refl _ | (show _ + 1 ≤ 4294967296; omega) | (dsimp only; omega) | (show (_ : Int) ≤ (_ : Int); omega) | (show _ < List.length _; simp only [List.length_set, List.length_append, List.length_take]; omega) | (show wantB _ _ = true; simp; done) | (show wantB _ _ = true; simp; omega) | (show (_ : Bool) = _; simp_all; done) | (exfalso; omega) | refine aRegion_auto (by decide +kernel) ?_ | refine ⟨_, _, REnt.drop ⟨rfl, rfl⟩, ?_⟩ | fail))
      refine (congrArg (fun q => K (.fz .bool q) []) (?_ : _ = true)).mpr hK
      show (bif (bif FloatKind.f64.format.order rl 0 == some .gt || FloatKind.f64.format.order rl 0 == some .eq then decide (r1 ≤ 0) else false) then decide (r2 ≤ 0) else false) = true
      rw [hge, decide_eq_true g1, decide_eq_true g2]; rfl
  · obtain ⟨⟨n1, f1⟩, ⟨n2, f2⟩, hE⟩ := hj rfl rfl rfl
    have hI := hI rfl rfl rfl
    have EL := exactOfA G jl n1.1
    have EH := exactOfA G jh n2.1
    have EX := exactOfA G x hx
    have EY := exactOfA G y hy
    (repeat' (first | exact trivial | exact fun h => h | refine And.intro ?_ ?_ | (intro hb; first | (simp at hb; done) | (simp at hb) | skip) | omega | exact rfl | exact Nat.le_refl _ | (show _ + 1 ≤ 4294967296; omega) | (dsimp only; omega) | (show (_ : Int) ≤ (_ : Int); omega) | (show _ < List.length _; simp only [List.length_set, List.length_append, List.length_take]; omega) | (show wantB _ _ = true; simp; done) | (show wantB _ _ = true; simp; omega) | (show (_ : Bool) = _; simp_all; done) | (exfalso; omega) | refine aRegion_auto (by decide +kernel) ?_ | fail))
    refine acall_frame0 rfl (EL _ ?_)
    (repeat' (first | exact trivial | exact fun h => h | refine And.intro ?_ ?_ | (intro hb; first | (simp at hb; done) | (simp at hb) | skip) | omega | exact rfl | exact Nat.le_refl _ | (show _ + 1 ≤ 4294967296; omega) | (dsimp only; omega) | (show (_ : Int) ≤ (_ : Int); omega) | (show _ < List.length _; simp only [List.length_set, List.length_append, List.length_take]; omega) | (show wantB _ _ = true; simp; done) | (show wantB _ _ = true; simp; omega) | (show (_ : Bool) = _; simp_all; done) | (exfalso; omega) | refine aRegion_auto (by decide +kernel) ?_ | fail))
    refine acall_frame0 rfl (EH _ ?_)
    (repeat' (first | exact trivial | exact fun h => h | refine And.intro ?_ ?_ | (intro hb; first | (simp at hb; done) | (simp at hb) | skip) | omega | exact rfl | exact Nat.le_refl _ | (show _ + 1 ≤ 4294967296; omega) | (dsimp only; omega) | (show (_ : Int) ≤ (_ : Int); omega) | (show _ < List.length _; simp only [List.length_set, List.length_append, List.length_take]; omega) | (show wantB _ _ = true; simp; done) | (show wantB _ _ = true; simp; omega) | (show (_ : Bool) = _; simp_all; done) | (exfalso; omega) | refine aRegion_auto (by decide +kernel) ?_ | fail))
    refine acall_frame0 rfl (EX _ ?_)
    (repeat' (first | exact trivial | exact fun h => h | refine And.intro ?_ ?_ | (intro hb; first | (simp at hb; done) | (simp at hb) | skip) | omega | exact rfl | exact Nat.le_refl _ | (show _ + 1 ≤ 4294967296; omega) | (dsimp only; omega) | (show (_ : Int) ≤ (_ : Int); omega) | (show _ < List.length _; simp only [List.length_set, List.length_append, List.length_take]; omega) | (show wantB _ _ = true; simp; done) | (show wantB _ _ = true; simp; omega) | (show (_ : Bool) = _; simp_all; done) | (exfalso; omega) | refine aRegion_auto (by decide +kernel) ?_ | fail))
    refine acall_frame0 rfl (EY _ ?_)
    (repeat' (first | exact trivial | exact fun h => h | refine And.intro ?_ ?_ | (intro hb; first | (simp at hb; done) | (simp at hb) | skip) | omega | exact rfl | exact Nat.le_refl _ | (show _ + 1 ≤ 4294967296; omega) | (dsimp only; omega) | (show (_ : Int) ≤ (_ : Int); omega) | (show _ < List.length _; simp only [List.length_set, List.length_append, List.length_take]; omega) | (show wantB _ _ = true; simp; done) | (show wantB _ _ = true; simp; omega) | (show (_ : Bool) = _; simp_all; done) | (exfalso; omega) | refine aRegion_auto (by decide +kernel) ?_ | fail))
    refine acall_conv [.dat ExT, .dat ExT, .dat ExT, .dat ExT, .keep] _ _ _ rfl trivial (acall_frame0 rfl (hI _ ?_))
    (repeat' (first | exact trivial | exact fun h => h | refine And.intro ?_ ?_ | (intro hb; first | (simp at hb; done) | (simp at hb) | skip) | omega | exact rfl | exact Nat.le_refl _ | (show _ + 1 ≤ 4294967296; omega) | (dsimp only; omega) | (show (_ : Int) ≤ (_ : Int); omega) | (show _ < List.length _; simp only [List.length_set, List.length_append, List.length_take]; omega) | (show wantB _ _ = true; simp; done) | (show wantB _ _ = true; simp; omega) | (show (_ : Bool) = _; simp_all; done) | (exfalso; omega) | refine aRegion_auto (by decide +kernel) ?_ | fail))
    refine acall_conv [.dat SpT] _ _ _ rfl trivial (acall_frame0 rfl (hR _ ?_))
    cases rb
    · (repeat' (first | exact trivial | exact fun h => h | refine And.intro ?_ ?_ | (intro hb; first | (simp at hb; done) | (simp at hb) | skip) | omega | exact rfl | exact Nat.le_refl _ | (show _ + 1 ≤ 4294967296; omega) | (dsimp only; omega) | (show (_ : Int) ≤ (_ : Int); omega) | (show _ < List.length _; simp only [List.length_set, List.length_append, List.length_take]; omega) | (show wantB _ _ = true; simp; done) | (show wantB _ _ = true; simp; omega) | (show (_ : Bool) = _; simp_all; done) | (exfalso; omega) | refine aRegion_auto (by decide +kernel) ?_ | refine ⟨_, _, REnt.drop ⟨rfl, rfl⟩, ?_⟩ | fail))
      exact hK
    · obtain ⟨⟨nl, fl, kl⟩, ⟨nh, fh⟩, M1, C1, M2, C2, g1, g2⟩ := hr rfl rfl
      have hge : (FloatKind.f64.format.order rl 0 == some .gt || FloatKind.f64.format.order rl 0 == some .eq) = true := ge0_key nl kl
      have EL := exactOfA G rl nl.1
      have EH := exactOfA G rh nh.1
      have EX := exactOfA G x hx
      generalize sgI (adZ (exZ rl * exZ rl) (exP rl + exP rl) (-(exZ x)) (exP x)) = r1 at *
      generalize sgI (adZ (exZ x) (exP x) (-(exZ rh * exZ rh)) (exP rh + exP rh)) = r2 at *
      generalize sgn (exZ rl * exZ rl) = sll at *
      generalize sgn (exZ rh * exZ rh) = shh at *
      generalize exP rl + exP rl = pll at *
      generalize exP rh + exP rh = phh at *
      generalize sgn (exZ rl) = sl at *
      generalize sgn (exZ rh) = sh at *
      generalize sgn (exZ x) = sx at *
      obtain ⟨sll1, sll2⟩ := sll
      obtain ⟨shh1, shh2⟩ := shh
      obtain ⟨sl1, sl2⟩ := sl
      obtain ⟨sh1, sh2⟩ := sh
      obtain ⟨sx1, sx2⟩ := sx
      (repeat' (first | exact trivial | exact fun h => h | refine And.intro ?_ ?_ | (intro hb; first | (simp at hb; done) | (simp at hb) | skip) | omega | exact rfl | exact Nat.le_refl _ | (show _ + 1 ≤ 4294967296; omega) | (dsimp only; omega) | (show (_ : Int) ≤ (_ : Int); omega) | (show _ < List.length _; simp only [List.length_set, List.length_append, List.length_take]; omega) | (show wantB _ _ = true; simp; done) | (show wantB _ _ = true; simp; omega) | (show (_ : Bool) = _; simp_all; done) | (exfalso; omega) | refine aRegion_auto (by decide +kernel) ?_ | fail))
      refine acall_frame0 rfl (EL _ ?_)
      (repeat' (first | exact trivial | exact fun h => h | refine And.intro ?_ ?_ | (intro hb; first | (simp at hb; done) | (simp at hb) | skip) | omega | exact rfl | exact Nat.le_refl _ | (show _ + 1 ≤ 4294967296; omega) | (dsimp only; omega) | (show (_ : Int) ≤ (_ : Int); omega) | (show _ < List.length _; simp only [List.length_set, List.length_append, List.length_take]; omega) | (show wantB _ _ = true; simp; done) | (show wantB _ _ = true; simp; omega) | (show (_ : Bool) = _; simp_all; done) | (exfalso; omega) | refine aRegion_auto (by decide +kernel) ?_ | fail))
      refine acall_frame0 rfl (EH _ ?_)
      (repeat' (first | exact trivial | exact fun h => h | refine And.intro ?_ ?_ | (intro hb; first | (simp at hb; done) | (simp at hb) | skip) | omega | exact rfl | exact Nat.le_refl _ | (show _ + 1 ≤ 4294967296; omega) | (dsimp only; omega) | (show (_ : Int) ≤ (_ : Int); omega) | (show _ < List.length _; simp only [List.length_set, List.length_append, List.length_take]; omega) | (show wantB _ _ = true; simp; done) | (show wantB _ _ = true; simp; omega) | (show (_ : Bool) = _; simp_all; done) | (exfalso; omega) | refine aRegion_auto (by decide +kernel) ?_ | fail))
      refine acall_frame0 rfl (EX _ ?_)
      (repeat' (first | exact trivial | exact fun h => h | refine And.intro ?_ ?_ | (intro hb; first | (simp at hb; done) | (simp at hb) | skip) | omega | exact rfl | exact Nat.le_refl _ | (show _ + 1 ≤ 4294967296; omega) | (dsimp only; omega) | (show (_ : Int) ≤ (_ : Int); omega) | (show _ < List.length _; simp only [List.length_set, List.length_append, List.length_take]; omega) | (show wantB _ _ = true; simp; done) | (show wantB _ _ = true; simp; omega) | (show (_ : Bool) = _; simp_all; done) | (exfalso; omega) | refine aRegion_auto (by decide +kernel) ?_ | fail))
      apply exEff
      · refine ⟨fun _ => ?_, fun h => absurd h (by show ¬ (wantB true (FloatKind.f64.format.order rl 0 == some .gt || FloatKind.f64.format.order rl 0 == some .eq) = false); rw [hge]; decide)⟩
        (repeat' (first | refine And.intro ?_ ?_ | (show wantB true (FloatKind.f64.format.order rl 0 == some .gt || FloatKind.f64.format.order rl 0 == some .eq) = true; rw [hge]; rfl)))
        refine acall_conv [.dat ExT, .dat ExT] _ _ _ rfl trivial (acall_frame0 rfl (M1 _ ?_))
        exact ⟨rfl, rfl⟩
      (repeat' (first | exact trivial | exact fun h => h | refine And.intro ?_ ?_ | (intro hb; first | (simp at hb; done) | (simp at hb) | skip) | omega | exact rfl | exact Nat.le_refl _ | (show _ + 1 ≤ 4294967296; omega) | (dsimp only; omega) | (show (_ : Int) ≤ (_ : Int); omega) | (show _ < List.length _; simp only [List.length_set, List.length_append, List.length_take]; omega) | (show wantB _ _ = true; simp; done) | (show wantB _ _ = true; simp; omega) | (show (_ : Bool) = _; simp_all; done) | (exfalso; omega) | refine aRegion_auto (by decide +kernel) ?_ | fail))
      apply exEff
      · refine ⟨fun _ => ?_, fun h => absurd h (by show ¬ (wantB true (FloatKind.f64.format.order rl 0 == some .gt || FloatKind.f64.format.order rl 0 == some .eq) = false); rw [hge]; decide)⟩
        (repeat' (first | refine And.intro ?_ ?_ | (show wantB true (FloatKind.f64.format.order rl 0 == some .gt || FloatKind.f64.format.order rl 0 == some .eq) = true; rw [hge]; rfl)))
        refine acall_conv [.keep, .dat ExT] _ _ _ rfl trivial (acall_frame0 rfl (C1 _ ?_))
        exact ⟨rfl, rfl⟩
      (repeat' (first | exact trivial | exact fun h => h | refine And.intro ?_ ?_ | (intro hb; first | (simp at hb; done) | (simp at hb) | skip) | omega | exact rfl | exact Nat.le_refl _ | (show _ + 1 ≤ 4294967296; omega) | (dsimp only; omega) | (show (_ : Int) ≤ (_ : Int); omega) | (show _ < List.length _; simp only [List.length_set, List.length_append, List.length_take]; omega) | (show wantB _ _ = true; simp; done) | (show wantB _ _ = true; simp; omega) | (show (_ : Bool) = _; simp_all; done) | (exfalso; omega) | refine aRegion_auto (by decide +kernel) ?_ | fail))
      apply exEff
      · refine ⟨fun _ => ?_, fun h => absurd h (by show ¬ (wantB true (bif FloatKind.f64.format.order rl 0 == some .gt || FloatKind.f64.format.order rl 0 == some .eq then decide (r1 ≤ 0) else false) = false); rw [hge, decide_eq_true g1]; decide)⟩
        (repeat' (first | refine And.intro ?_ ?_ | (show wantB true (bif FloatKind.f64.format.order rl 0 == some .gt || FloatKind.f64.format.order rl 0 == some .eq then decide (r1 ≤ 0) else false) = true; rw [hge, decide_eq_true g1]; rfl)))
        refine acall_conv [.dat ExT, .dat ExT] _ _ _ rfl trivial (acall_frame0 rfl (M2 _ ?_))
        exact ⟨rfl, rfl⟩
      (repeat' (first | exact trivial | exact fun h => h | refine And.intro ?_ ?_ | (intro hb; first | (simp at hb; done) | (simp at hb) | skip) | omega | exact rfl | exact Nat.le_refl _ | (show _ + 1 ≤ 4294967296; omega) | (dsimp only; omega) | (show (_ : Int) ≤ (_ : Int); omega) | (show _ < List.length _; simp only [List.length_set, List.length_append, List.length_take]; omega) | (show wantB _ _ = true; simp; done) | (show wantB _ _ = true; simp; omega) | (show (_ : Bool) = _; simp_all; done) | (exfalso; omega) | refine aRegion_auto (by decide +kernel) ?_ | fail))
      apply exEff
      · refine ⟨fun _ => ?_, fun h => absurd h (by show ¬ (wantB true (bif FloatKind.f64.format.order rl 0 == some .gt || FloatKind.f64.format.order rl 0 == some .eq then decide (r1 ≤ 0) else false) = false); rw [hge, decide_eq_true g1]; decide)⟩
        (repeat' (first | refine And.intro ?_ ?_ | (show wantB true (bif FloatKind.f64.format.order rl 0 == some .gt || FloatKind.f64.format.order rl 0 == some .eq then decide (r1 ≤ 0) else false) = true; rw [hge, decide_eq_true g1]; rfl)))
        refine acall_conv [.dat ExT, .keep] _ _ _ rfl trivial (acall_frame0 rfl (C2 _ ?_))
        exact ⟨rfl, rfl⟩
      (repeat' (first | exact trivial | exact fun h => h | refine And.intro ?_ ?_ | (intro hb; first | (simp at hb; done) | (simp at hb) | skip) | omega | exact rfl | exact Nat.le_refl _ | (show _ + 1 ≤ 4294967296; omega) | (dsimp only; omega) | (show (_ : Int) ≤ (_ : Int); omega) | (show _ < List.length _; simp only [List.length_set, List.length_append, List.length_take]; omega) | (show wantB _ _ = true; simp; done) | (show wantB _ _ = true; simp; omega) | (show (_ : Bool) = _; simp_all; done) | (exfalso; omega) | refine aRegion_auto (by decide +kernel) ?_ | refine ⟨_, _, REnt.drop ⟨rfl, rfl⟩, ?_⟩ | fail))
      refine (congrArg (fun q => K (.fz .bool q) []) (?_ : _ = true)).mpr hK
      show (bif (bif FloatKind.f64.format.order rl 0 == some .gt || FloatKind.f64.format.order rl 0 == some .eq then decide (r1 ≤ 0) else false) then decide (r2 ≤ 0) else false) = true
      rw [hge, decide_eq_true g1, decide_eq_true g2]; rfl
end Go.Proofs.Ytlmmhmoihmlljaa
/-
  Arguments read again behind a call that leaves old memory alone; a slice of points opened.
-/
namespace Go.Proofs.Ytlmmhmoihmlljaa
open Go Go.ChangeShapes Go.WideShapes Go.ChangeAt Go.RowKit
theorem trodAll_below {H : Type} {enc : TypeId × Value → H} {P : Program} (hl : laidOutB P = true) {W W' : World} (hb : Below W.heap.size W W') :
    ∀ (ts : List TypeId) (vs : List Value) (ds : List (DataW H)) (ps : List MemPlace), (∀ t ∈ ts, P.readableRec t = true ∧ t < P.types.size) →
      DataW.TrodAll enc P W 0 (fun _ => true) true ts vs ds ps → (∀ x ∈ ps, x.block < W.heap.size) →
      DataW.TrodAll enc P W' 0 (fun b => decide (b < W.heap.size)) true ts vs ds ps
  | [], [], [], ps, _, h, _ => h
  | [], [], _ :: _, _, _, h, _ => h.elim
  | [], _ :: _, _, _, _, h, _ => h.elim
  | _ :: _, [], _, _, _, h, _ => h.elim
  | _ :: _, _ :: _, [], _, _, h, _ => h.elim
  | t :: ts, v :: vs, d :: ds, ps, hr, h, hlt => by
    obtain ⟨p, q, h1, h2, rfl⟩ := h
    refine ⟨p, q, Below.trod hl (hr t (List.mem_cons_self ..)).1 (hr t (List.mem_cons_self ..)).2 h1 hb (fun x hx => hlt x (List.mem_append.2 (.inl hx))), ?_, rfl⟩
    exact trodAll_below hl hb ts vs ds q (fun t ht => hr t (List.mem_cons_of_mem _ ht)) h2 (fun x hx => hlt x (List.mem_append.2 (.inr hx)))
end Go.Proofs.Ytlmmhmoihmlljaa
/-
  GrainEncloses returns true for every input: the exact sum, difference, product, quotient of two numbers of two spans lie in what the spans give, the exact root in the roots' span (no condition).
-/
namespace Go.Proofs.Ytlmmhmoihmlljaa.enclosed
open Go Go.Ab
open Go.ChangeShapes Go.WideShapes Go.ChangeAt Go.RowKit
theorem own : ownKnob Try.prog.godebug = none := by kernel_rfl
theorem wf_lt {x : Nat} (h : (Lit.float .f64 x).wf = true) : x < 2 ^ 64 := by simpa [Lit.wf] using h
theorem laidOut : laidOutB Try.prog = true := by kernel_rfl
set_option maxRecDepth 100000 in
theorem lifted (os : Os) (started : os.Started) (H : Type) (enc : TypeId × Value → H) :
    ReturnsInHanded {} Try.checked os 5 .any (Rows.grainEnclosesSpec.pre6 enc Try.prog Try.f5 Rows.grainEnclosesRow.domain false) (Rows.grainEnclosesSpec.post enc Try.prog Try.f5 false true false false) := by
  refine returnsInHanded_of_change (C := Try.checked) own started (by kernel_rfl) Try.func5
    (ChangeSpec.witness6 (enc := enc) (C := Try.checked) false ⟨#[], #[.agg #[.float .f64 0, .float .f64 0], .agg #[.float .f64 0, .float .f64 0], .int .u8 0, .float .f64 0, .float .f64 0], []⟩ 8 (by kernel_rfl) (by kernel_rfl) (by kernel_rfl) (by kernel_rfl)) ?_
  intro W base args ds gs before hval0 hW hcnd _
  have hval : ∀ (j : Nat) t v, Try.f5.params[j]? = some t → args[j]? = some v → Value.okWide Try.prog W .any base t v := hval0
  have hW' := hW
  obtain ⟨p, q, hA0, hV, rfl, hfz, hnd⟩ := hW
  have hA : DataW.TrodAll enc Try.prog W 0 (fun _ => true) true Try.f5.params.toList args.toList ds p := hA0
  obtain ⟨rfl, rfl⟩ := trodVars_none hV
  simp only [List.append_nil] at hW'
  have hAll : ∀ W', Below W.heap.size W W' → DataW.TrodAll enc Try.prog W' 0 (fun b => decide (b < W.heap.size)) true Try.f5.params.toList args.toList ds p :=
    fun W' hb => trodAll_below laidOut hb _ _ _ _ (by rw [Try.params5]; exact of_decide_eq_true (by kernel_rfl)) hA (fun x hx => hW'.lt x hx)
  rw [Try.params5] at hA hval
  obtain ⟨v0, vs0, d0, ds0, p0, q0, hargs, rfl, rfl, h0, t0⟩ := trodAll_cons hA
  obtain ⟨v1, vs1, d1, ds1, p1, q1, rfl, rfl, rfl, h1, t1⟩ := trodAll_cons t0
  obtain ⟨v2, vs2, d2, ds2, p2, q2, rfl, rfl, rfl, h2, t2⟩ := trodAll_cons t1
  obtain ⟨v3, vs3, d3, ds3, p3, q3, rfl, rfl, rfl, h3, t3⟩ := trodAll_cons t2
  obtain ⟨v4, vs4, d4, ds4, p4, q4, rfl, rfl, rfl, h4, t4⟩ := trodAll_cons t3
  obtain ⟨rfl, rfl, rfl⟩ := trodAll_nil t4
  obtain rfl : args = #[v0, v1, v2, v3, v4] := by cases args; simp_all
  clear hA0 hval0
  obtain ⟨y0, r0, b0⟩ := open_val (n := 3) (ty := SpT) tabOk (by kernel_rfl) [] (hval 0 _ v0 rfl rfl) h0
  obtain ⟨y1, r1, b1⟩ := open_val (n := 3) (ty := SpT) tabOk (by kernel_rfl) [] (hval 1 _ v1 rfl rfl) h1
  obtain ⟨y2, r2, b2⟩ := open_val (n := 2) (ty := .int .u8) tabOk (by kernel_rfl) [] (hval 2 _ v2 rfl rfl) h2
  obtain ⟨y3, r3, b3⟩ := open_val (n := 2) (ty := F64) tabOk (by kernel_rfl) [] (hval 3 _ v3 rfl rfl) h3
  obtain ⟨y4, r4, b4⟩ := open_val (n := 2) (ty := F64) tabOk (by kernel_rfl) [] (hval 4 _ v4 rfl rfl) h4
  have fin : Calls Try.prog 5 #[v0, v1, v2, v3, v4] W fun e w' => e = .returned (.bool true) ∧ Below W.heap.size W w' :=
    acall_true (vs := [v0, v1, v2, v3, v4]) (grainEncloses_any [] y0 y1 y2 y3 y4 ⟨wf_lt b0.1, wf_lt b0.2⟩ ⟨wf_lt b1.1, wf_lt b1.2⟩ (wf_lt b3) (wf_lt b4) _ rfl) (fun g v h => by cases h) ⟨_, _, rfl, r0, _, _, rfl, r1, _, _, rfl, r2, _, _, rfl, r3, _, _, rfl, r4, rfl⟩
  refine fin.mono fun e W' ⟨he, hg⟩ => ?_
  subst he
  exact ⟨_, rfl, _, _, _, [], _, [], hW', trodAll_mk1 (shut_bool Try.underlying4 _), hAll W' hg, rfl, hg.frame _, fun h => by cases h⟩
theorem proved : Rows.GrainEnclosesSaid :=
  OpenClaim.holds_of_wide 5 Try.f5 rfl rfl rfl rfl rfl rfl rfl ⟨rfl, rfl, rfl, rfl, rfl⟩ rfl rfl rfl rfl rfl (by kernel_rfl) Try.func5 (by kernel_rfl)
    (of_decide_eq_true (by kernel_rfl)) (by unfold Func.isWrapper; first | (rw [if_pos (by decide +kernel)]; kernel_rfl) | (rw [if_neg (by decide +kernel)]; exact ⟨rfl, rfl⟩))
    (fun os started H enc _ => lifted os started H enc)
end Go.Proofs.Ytlmmhmoihmlljaa.enclosed
