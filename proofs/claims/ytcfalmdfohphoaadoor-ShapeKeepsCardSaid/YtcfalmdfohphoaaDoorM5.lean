/-
  Plain facts on rings of points: their area and where a point is, gone around the other way, begun elsewhere, moved (no program in sight).
-/
import Derived.Test.YtcfalmdfohphoaaDoorM4
import Derived.LaidLaws
import Derived.Below
import Derived.Test.YtcfalmdfohphoaaDoorChecked
import Derived.KernelRfl
namespace Shp
abbrev Sp := Int × Int
def side (p q r : Sp) : Int := (q.1 - p.1) * (r.2 - p.2) - (q.2 - p.2) * (r.1 - p.1)
def cross (p q : Sp) : Int := p.1 * q.2 - q.1 * p.2
def on (p q r : Sp) : Bool := side p q r == 0 && decide (min p.1 q.1 ≤ r.1) && decide (r.1 ≤ max p.1 q.1) && decide (min p.2 q.2 ≤ r.2) && decide (r.2 ≤ max p.2 q.2)
def at_ (l : List Sp) (i : Nat) : Sp := l.getD i (0, 0)
def nx (l : List Sp) (i : Nat) : Nat := (i + 1) % l.length
/-- sums -/
def sumTo (f : Nat → Int) : Nat → Int
  | 0 => 0
  | n + 1 => sumTo f n + f n
theorem sum_congr {f g : Nat → Int} : ∀ {n : Nat}, (∀ i, i < n → f i = g i) → sumTo f n = sumTo g n
  | 0, _ => rfl
  | n + 1, h => by rw [sumTo, sumTo, sum_congr (fun i hi => h i (by omega)), h n (by omega)]
theorem sum_head (f : Nat → Int) : ∀ n, sumTo f (n + 1) = f 0 + sumTo (fun i => f (i + 1)) n
  | 0 => by simp [sumTo]
  | n + 1 => by rw [sumTo, sum_head f n]; simp only [sumTo]; omega
theorem sum_rev (f : Nat → Int) : ∀ n, sumTo (fun i => f (n - 1 - i)) n = sumTo f n
  | 0 => rfl
  | n + 1 => by
    rw [sum_head, sumTo, ← sum_rev f n]
    have : sumTo (fun i => f (n + 1 - 1 - (i + 1))) n = sumTo (fun i => f (n - 1 - i)) n := sum_congr (fun i hi => by congr 1; omega)
    rw [this]; simp; omega
theorem sum_rot1 (f : Nat → Int) (n : Nat) : sumTo (fun i => f ((i + 1) % n)) n = sumTo f n := by
  cases n with
  | zero => rfl
  | succ n =>
    rw [sum_head f n, sumTo]
    have h1 : sumTo (fun i => f ((i + 1) % (n + 1))) n = sumTo (fun i => f (i + 1)) n := sum_congr (fun i hi => by rw [Nat.mod_eq_of_lt (by omega)])
    rw [h1, Nat.mod_self]; omega
theorem sum_rot (f : Nat → Int) (n k : Nat) : sumTo (fun i => f ((i + k) % n)) n = sumTo f n := by
  induction k with
  | zero => exact sum_congr (fun i hi => by rw [Nat.add_zero, Nat.mod_eq_of_lt hi])
  | succ k ih =>
    rw [← ih, ← sum_rot1 (fun i => f ((i + k) % n)) n]
    refine sum_congr (fun i hi => ?_)
    congr 1
    rw [Nat.mod_add_mod]; congr 1; omega
theorem sum_add (f g : Nat → Int) : ∀ n, sumTo (fun i => f i + g i) n = sumTo f n + sumTo g n
  | 0 => rfl
  | n + 1 => by rw [sumTo, sumTo, sumTo, sum_add f g n]; omega
theorem sum_mul (c : Int) (f : Nat → Int) : ∀ n, sumTo (fun i => c * f i) n = c * sumTo f n
  | 0 => by simp [sumTo]
  | n + 1 => by rw [sumTo, sumTo, sum_mul c f n, Int.mul_add]
theorem sum_neg (f : Nat → Int) : ∀ n, sumTo (fun i => - f i) n = - sumTo f n
  | 0 => rfl
  | n + 1 => by rw [sumTo, sumTo, sum_neg f n]; omega
theorem sum_nonneg {f : Nat → Int} (h : ∀ i, 0 ≤ f i) : ∀ n, 0 ≤ sumTo f n
  | 0 => Int.le_refl _
  | n + 1 => by have := sum_nonneg h n; have := h n; rw [sumTo]; omega
theorem sum_zero_iff {f : Nat → Int} (h : ∀ i, 0 ≤ f i) : ∀ n, sumTo f n = 0 ↔ ∀ i, i < n → f i = 0
  | 0 => by simp [sumTo]
  | n + 1 => by
    have h1 := sum_nonneg h n
    have h2 := h n
    rw [sumTo]
    constructor
    · intro hs i hi
      rcases Nat.lt_or_ge i n with hlt | hge
      · exact (sum_zero_iff h n).1 (by omega) i hlt
      · have : i = n := by omega
        rw [this]; omega
    · intro hall
      have := (sum_zero_iff h n).2 (fun i hi => hall i (by omega))
      rw [this, hall n (by omega)]; rfl
/-- the area, twice -/
def areaTo (l : List Sp) (k : Nat) : Int := sumTo (fun i => cross (at_ l i) (at_ l (nx l i))) k
def area (l : List Sp) : Int := areaTo l l.length
/-- is an edge crossed to the left of a point? -/
def tog (a b p : Sp) : Bool := (decide (p.2 < a.2) != decide (p.2 < b.2)) && decide (0 < (if b.2 < a.2 then side b a p else side a b p))
def ons (l : List Sp) (p : Sp) (k : Nat) : Int := sumTo (fun i => if on (at_ l i) (at_ l (nx l i)) p then 1 else 0) k
def togs (l : List Sp) (p : Sp) (k : Nat) : Int := sumTo (fun i => if tog (at_ l i) (at_ l (nx l i)) p then 1 else 0) k
def sgn (t : Int) : Int := if t % 2 = 0 then -1 else 1
def wh (l : List Sp) (p : Sp) : Int := if ons l p l.length = 0 then sgn (togs l p l.length) else 0
theorem sgn_flip (t : Int) : sgn (t + 1) = - sgn t := by unfold sgn; split <;> split <;> omega
/-- the other way around, and moved -/
def back (l : List Sp) : List Sp := (List.range l.length).map fun i => at_ l (l.length - 1 - i)
def mv (d p : Sp) : Sp := (p.1 + d.1, p.2 + d.2)
def moved (l : List Sp) (k : Nat) (d : Sp) : List Sp := (List.range l.length).map fun i => mv d (at_ l ((i + k) % l.length))
theorem back_length (l : List Sp) : (back l).length = l.length := by simp [back]
theorem moved_length (l : List Sp) (k : Nat) (d : Sp) : (moved l k d).length = l.length := by simp [moved]
theorem at_back (l : List Sp) (i : Nat) (h : i < l.length) : at_ (back l) i = at_ l (l.length - 1 - i) := by
  unfold back; conv => lhs; unfold at_
  simp [h]; rfl
theorem at_moved (l : List Sp) (k : Nat) (d : Sp) (i : Nat) (h : i < l.length) : at_ (moved l k d) i = mv d (at_ l ((i + k) % l.length)) := by
  unfold moved; conv => lhs; unfold at_
  simp [h]; rfl
/-- a sum over edges, gone around the other way -/
theorem edges_back (l : List Sp) (f : Sp → Sp → Int) : sumTo (fun i => f (at_ (back l) i) (at_ (back l) (nx (back l) i))) (back l).length = sumTo (fun i => f (at_ l (nx l i)) (at_ l i)) l.length := by
  rw [back_length]
  rcases Nat.eq_zero_or_pos l.length with h0 | hp
  · rw [h0]; rfl
  have h1 := sum_rev (fun i => (fun j => f (at_ l (nx l j)) (at_ l j)) ((i + (l.length - 1)) % l.length)) l.length
  rw [sum_rot (fun j => f (at_ l (nx l j)) (at_ l j)) l.length (l.length - 1)] at h1
  rw [← h1]
  refine sum_congr (fun i hi => ?_)
  simp only
  have hn : nx (back l) i < l.length := by unfold nx; rw [back_length]; exact Nat.mod_lt _ hp
  rw [at_back l i hi, at_back l _ hn]
  unfold nx; rw [back_length]
  by_cases hl : i + 1 = l.length
  · have e1 : (i + 1) % l.length = 0 := by rw [hl]; exact Nat.mod_self _
    have e2 : (l.length - 1 - i + (l.length - 1)) % l.length = l.length - 1 := by
      rw [show l.length - 1 - i + (l.length - 1) = l.length - 1 by omega]; exact Nat.mod_eq_of_lt (by omega)
    have e3 : (l.length - 1 + 1) % l.length = 0 := by rw [show l.length - 1 + 1 = l.length by omega]; exact Nat.mod_self _
    rw [e1, e2, e3]
    congr 2; omega
  · have e1 : (i + 1) % l.length = i + 1 := Nat.mod_eq_of_lt (by omega)
    have e2 : (l.length - 1 - i + (l.length - 1)) % l.length = l.length - 2 - i := by
      rw [show l.length - 1 - i + (l.length - 1) = (l.length - 2 - i) + l.length by omega, Nat.add_mod_right]; exact Nat.mod_eq_of_lt (by omega)
    have e3 : (l.length - 2 - i + 1) % l.length = l.length - 1 - i := by rw [Nat.mod_eq_of_lt (by omega)]; omega
    rw [e1, e2, e3]
    congr 2; omega
theorem edges_moved (l : List Sp) (k : Nat) (d : Sp) (f : Sp → Sp → Int) : sumTo (fun i => f (at_ (moved l k d) i) (at_ (moved l k d) (nx (moved l k d) i))) (moved l k d).length = sumTo (fun i => f (mv d (at_ l i)) (mv d (at_ l (nx l i)))) l.length := by
  rw [moved_length]
  rcases Nat.eq_zero_or_pos l.length with h0 | hp
  · rw [h0]; rfl
  rw [← sum_rot (fun i => f (mv d (at_ l i)) (mv d (at_ l (nx l i)))) l.length k]
  refine sum_congr (fun i hi => ?_)
  have hn : nx (moved l k d) i < l.length := by unfold nx; rw [moved_length]; exact Nat.mod_lt _ hp
  rw [at_moved l k d i hi, at_moved l k d _ hn]
  unfold nx; rw [moved_length]
  congr 3
  rw [Nat.mod_add_mod, Nat.mod_add_mod]; congr 1; omega
theorem cross_swap (p q : Sp) : cross q p = - cross p q := by unfold cross; omega
theorem area_back (l : List Sp) : area (back l) = - area l := by
  unfold area areaTo
  rw [edges_back l cross, ← sum_neg]
  exact sum_congr (fun i _ => cross_swap _ _)
theorem cross_mv (d p q : Sp) : cross (mv d p) (mv d q) = cross p q + (d.1 * (q.2 - p.2) + (- d.2) * (q.1 - p.1)) := by
  unfold cross mv
  simp only [Int.add_mul, Int.mul_add, Int.mul_sub, Int.neg_mul, Int.mul_comm q.1 d.2, Int.mul_comm p.1 d.2, Int.mul_comm d.1 d.2]
  omega
theorem area_moved (l : List Sp) (k : Nat) (d : Sp) : area (moved l k d) = area l := by
  unfold area areaTo
  rw [edges_moved l k d cross, sum_congr (fun i _ => cross_mv d _ _), sum_add, sum_add, sum_mul, sum_mul]
  have hz : ∀ g : Nat → Int, sumTo (fun i => g (nx l i) - g i) l.length = 0 := by
    intro g
    have h1 := sum_add (fun i => g (nx l i)) (fun i => - g i) l.length
    have h2 := sum_rot1 g l.length
    have h3 := sum_neg g l.length
    have h4 : sumTo (fun i => g (nx l i)) l.length = sumTo g l.length := h2
    rw [h3, h4] at h1
    have h5 : sumTo (fun i => g (nx l i) - g i) l.length = sumTo (fun i => g (nx l i) + - g i) l.length := sum_congr (fun i _ => by omega)
    rw [h5, h1]; omega
  rw [hz (fun i => (at_ l i).2), hz (fun i => (at_ l i).1)]
  simp
theorem side_swap (p q r : Sp) : side q p r = - side p q r := by
  unfold side
  simp only [Int.sub_mul, Int.mul_sub, Int.mul_comm q.1 p.2, Int.mul_comm q.2 p.1, Int.mul_comm p.2 p.1, Int.mul_comm q.2 q.1]
  omega
theorem on_swap (p q r : Sp) : on q p r = on p q r := by
  unfold on
  rw [side_swap, Int.min_comm q.1, Int.min_comm q.2, Int.max_comm q.1, Int.max_comm q.2]
  have : (- side p q r == 0) = (side p q r == 0) := by rw [Bool.eq_iff_iff]; simp
  rw [this]
theorem bnec : ∀ a b : Bool, (a != b) = (b != a) := by decide
theorem tog_swap (a b p : Sp) : tog b a p = tog a b p := by
  unfold tog
  rcases Int.lt_trichotomy a.2 b.2 with h | h | h
  · rw [if_pos h, if_neg (by omega), bnec]
  · rw [h]; simp
  · rw [if_neg (by omega), if_pos h, bnec]
theorem side_mv (d p q r : Sp) : side (mv d p) (mv d q) (mv d r) = side p q r := by
  unfold side mv
  simp only
  have h : ∀ a b c : Int, a + c - (b + c) = a - b := by intro a b c; omega
  rw [h, h, h, h]
theorem on_mv (d p q r : Sp) : on (mv d p) (mv d q) (mv d r) = on p q r := by
  unfold on
  rw [side_mv]
  unfold mv
  congr 1
  · congr 1
    · congr 1
      · congr 1
        rw [Bool.eq_iff_iff]; simp only [decide_eq_true_eq]; omega
      · rw [Bool.eq_iff_iff]; simp only [decide_eq_true_eq]; omega
    · rw [Bool.eq_iff_iff]; simp only [decide_eq_true_eq]; omega
  · rw [Bool.eq_iff_iff]; simp only [decide_eq_true_eq]; omega
theorem tog_mv (d a b p : Sp) : tog (mv d a) (mv d b) (mv d p) = tog a b p := by
  unfold tog
  rw [side_mv, side_mv]
  have h1 : decide ((mv d p).2 < (mv d a).2) = decide (p.2 < a.2) := by unfold mv; rw [Bool.eq_iff_iff]; simp
  have h2 : decide ((mv d p).2 < (mv d b).2) = decide (p.2 < b.2) := by unfold mv; rw [Bool.eq_iff_iff]; simp
  have h3 : ((mv d b).2 < (mv d a).2) = (b.2 < a.2) := by unfold mv; simp
  rw [h1, h2]; simp only [h3]
theorem wh_back (l : List Sp) (p : Sp) : wh (back l) p = wh l p := by
  unfold wh ons togs
  rw [edges_back l (fun a b => if on a b p then 1 else 0), edges_back l (fun a b => if tog a b p then 1 else 0)]
  simp only [on_swap _ _ p, tog_swap _ _ p]
theorem wh_moved (l : List Sp) (k : Nat) (d p : Sp) : wh (moved l k d) (mv d p) = wh l p := by
  unfold wh ons togs
  rw [edges_moved l k d (fun a b => if on a b (mv d p) then 1 else 0), edges_moved l k d (fun a b => if tog a b (mv d p) then 1 else 0)]
  simp only [on_mv, tog_mv]
end Shp
/-
  Plain facts on rings: the area by a fan of triangles; pieces that meet; where a point is, told in two ways (no program in sight).
-/
namespace Shp
/-! ### the area by a fan of triangles -/
def turn (p q r : Sp) : Int := (q.1 - p.1) * (r.2 - q.2) - (q.2 - p.2) * (r.1 - q.1)
theorem turn_cross (p q r : Sp) : turn p q r = cross p q + cross q r + cross r p := by
  unfold turn cross
  simp only [Int.sub_mul, Int.mul_sub, Int.mul_comm q.2 q.1, Int.mul_comm q.2 r.1, Int.mul_comm p.2 r.1, Int.mul_comm p.2 q.1]
  omega
theorem turn_side (p q r : Sp) : turn p q r = side p q r := by
  unfold turn side
  simp only [Int.sub_mul, Int.mul_sub, Int.mul_comm q.2 q.1, Int.mul_comm q.2 r.1, Int.mul_comm p.2 r.1, Int.mul_comm p.2 q.1, Int.mul_comm q.2 p.1, Int.mul_comm p.2 p.1]
  omega
theorem cross_self (p : Sp) : cross p p = 0 := by unfold cross; omega
/-- so many triangles of the fan -/
def fan (l : List Sp) (k : Nat) : Int := sumTo (fun i => turn (at_ l 0) (at_ l (i + 1)) (at_ l (i + 2))) k
theorem fan_sum (l : List Sp) : ∀ k, fan l k = sumTo (fun i => cross (at_ l i) (at_ l (i + 1))) (k + 2) - cross (at_ l 0) (at_ l 0 ) - cross (at_ l (k + 1)) (at_ l (k + 2)) + cross (at_ l (k + 1)) (at_ l 0)
  | 0 => by
    show (0 : Int) = (0 + cross (at_ l 0) (at_ l 1) + cross (at_ l 1) (at_ l 2)) - cross (at_ l 0) (at_ l 0) - cross (at_ l 1) (at_ l 2) + cross (at_ l 1) (at_ l 0)
    have := cross_swap (at_ l 0) (at_ l 1)
    have := cross_self (at_ l 0)
    omega
  | k + 1 => by
    have h1 := fan_sum l k
    have h2 : fan l (k + 1) = fan l k + turn (at_ l 0) (at_ l (k + 1)) (at_ l (k + 2)) := rfl
    have h3 : sumTo (fun i => cross (at_ l i) (at_ l (i + 1))) (k + 1 + 2) = sumTo (fun i => cross (at_ l i) (at_ l (i + 1))) (k + 2) + cross (at_ l (k + 2)) (at_ l (k + 2 + 1)) := rfl
    have h4 := turn_cross (at_ l 0) (at_ l (k + 1)) (at_ l (k + 2))
    have h5 := cross_swap (at_ l 0) (at_ l (k + 1))
    rw [h2, h3, h1, h4]
    have e1 : k + 1 + 1 = k + 2 := rfl
    have e2 : k + 1 + 2 = k + 2 + 1 := rfl
    rw [e1, e2]
    omega
theorem fan_area (l : List Sp) (h : 3 ≤ l.length) : fan l (l.length - 2) = area l := by
  obtain ⟨k, hk⟩ : ∃ k, l.length = k + 3 := ⟨l.length - 3, by omega⟩
  have h1 := fan_sum l (k + 1)
  rw [hk, show k + 3 - 2 = k + 1 by omega, h1]
  unfold area areaTo
  rw [hk]
  show _ = sumTo (fun i => cross (at_ l i) (at_ l (nx l i))) (k + 2) + cross (at_ l (k + 2)) (at_ l (nx l (k + 2)))
  have e0 : nx l (k + 2) = 0 := by unfold nx; rw [hk]; exact Nat.mod_self _
  have e1 : sumTo (fun i => cross (at_ l i) (at_ l (i + 1))) (k + 1 + 2) = sumTo (fun i => cross (at_ l i) (at_ l (i + 1))) (k + 2) + cross (at_ l (k + 2)) (at_ l (k + 2 + 1)) := rfl
  have e2 : sumTo (fun i => cross (at_ l i) (at_ l (nx l i))) (k + 2) = sumTo (fun i => cross (at_ l i) (at_ l (i + 1))) (k + 2) := sum_congr fun i hi => by
    have : nx l i = i + 1 := by unfold nx; rw [hk]; exact Nat.mod_eq_of_lt (by omega)
    rw [this]
  rw [e0, e1, e2]
  have := cross_self (at_ l 0)
  have e3 : k + 1 + 1 = k + 2 := rfl
  have e4 : k + 1 + 2 = k + 2 + 1 := rfl
  rw [e3, e4]
  omega
/-! ### pieces that meet -/
def sgZ (n : Int) : Int := if 0 < n then 1 else if n < 0 then -1 else 0
def tch (p q r : Sp) : Bool := on p q r && decide (r ≠ p) && decide (r ≠ q)
def crs (p q r s : Sp) : Bool := decide (sgZ (side p q r) * sgZ (side p q s) < 0) && decide (sgZ (side r s p) * sgZ (side r s q) < 0)
def sam (p q r s : Sp) : Bool := (decide (p = r) && decide (q = s)) || (decide (p = s) && decide (q = r))
def meet (p q r s : Sp) : Bool := tch p q r || tch p q s || tch r s p || tch r s q || sam p q r s || crs p q r s
/-- what the code says of two pieces of a ring: the second behind the first one, the first one behind the second -/
def bad1 (p q r s : Sp) (nb1 nb2 : Bool) : Bool := meet p q r s || decide (p = r) || decide (q = s) || (decide (p = s) && !nb2) || (decide (q = r) && !nb1)
def wth (l : List Sp) (p : Sp) : List Sp := if p ∈ l then l else l ++ [p]
def wif (c : Bool) (l : List Sp) (p : Sp) : List Sp := if c = true then wth l p else l
def coml (p q r s : Sp) : List Sp := wif (on r s q) (wif (on r s p) (wif (on p q s) (wif (on p q r) [] r) s) p) q
def com (p q r s : Sp) : Int × Sp := if 1 < (coml p q r s).length then (2, (0, 0)) else if (coml p q r s).length = 1 then (1, at_ (coml p q r s) 0) else if crs p q r s = true then (2, (0, 0)) else (0, (0, 0))
def bad2 (p q r s : Sp) (nb1 nb2 : Bool) : Bool := decide ((com p q r s).1 = 2) || (decide ((com p q r s).1 = 1) && !(nb1 && decide ((com p q r s).2 = q)) && !(nb2 && decide ((com p q r s).2 = p)))
theorem side_l (p q : Sp) : side p q p = 0 := by unfold side; simp
theorem side_r (p q : Sp) : side p q q = 0 := by unfold side; rw [Int.mul_comm]; omega
theorem on_l (p q : Sp) : on p q p = true := by unfold on; rw [side_l]; simp; omega
theorem on_r (p q : Sp) : on p q q = true := by unfold on; rw [side_r]; simp; omega
theorem crs_of {p q r s : Sp} (h : p = r ∨ q = s ∨ p = s ∨ q = r) : crs p q r s = false := by
  unfold crs
  have z : sgZ 0 = 0 := by decide
  rcases h with h | h | h | h <;> subst h <;> simp only [side_l, side_r, z] <;> simp
theorem bad_eq {p q r s : Sp} (hpq : p ≠ q) (hrs : r ≠ s) {nb1 nb2 : Bool} (h1 : nb1 = true → q = r) (h2 : nb2 = true → s = p) : bad1 p q r s nb1 nb2 = bad2 p q r s nb1 nb2 := by
  have fA : p = r → on p q r = true := fun e => e ▸ on_l p q
  have fA' : q = r → on p q r = true := fun e => e ▸ on_r p q
  have fB : p = s → on p q s = true := fun e => e ▸ on_l p q
  have fB' : q = s → on p q s = true := fun e => e ▸ on_r p q
  have fC : p = r → on r s p = true := fun e => by rw [e]; exact on_l r s
  have fC' : p = s → on r s p = true := fun e => by rw [e]; exact on_r r s
  have fD : q = r → on r s q = true := fun e => by rw [e]; exact on_l r s
  have fD' : q = s → on r s q = true := fun e => by rw [e]; exact on_r r s
  have fX := @crs_of p q r s
  unfold bad1 bad2 com coml meet tch sam
  generalize crs p q r s = X at *
  generalize on p q r = A at *
  generalize on p q s = B at *
  generalize on r s p = C at *
  generalize on r s q = D at *
  by_cases e1 : p = r
  · subst e1
    have hA := fA rfl
    have hC := fC rfl
    have hX := fX (.inl rfl)
    obtain rfl : nb1 = false := by cases nb1 <;> simp_all
    obtain rfl : nb2 = false := by cases nb2 <;> simp_all
    subst hA hC hX
    clear fA fA' fB fB' fC fC' fD fD' fX h1 h2
    by_cases e2 : q = s
    · subst e2
      cases B <;> cases D <;> simp [wif, wth, at_, hpq, Ne.symm hpq]
    · cases B <;> cases D <;> simp [wif, wth, at_, hpq, hrs, Ne.symm hpq, Ne.symm hrs, e2, Ne.symm e2]
  by_cases e2 : q = s
  · subst e2
    have hB := fB' rfl
    have hD := fD' rfl
    have hX := fX (.inr (.inl rfl))
    obtain rfl : nb1 = false := by cases nb1 <;> simp_all
    obtain rfl : nb2 = false := by cases nb2 <;> simp_all
    subst hB hD hX
    clear fA fA' fB fB' fC fC' fD fD' fX h1 h2
    cases A <;> cases C <;> simp [wif, wth, at_, hpq, hrs, Ne.symm hpq, Ne.symm hrs, e1, Ne.symm e1]
  by_cases e3 : p = s
  · subst e3
    have hB := fB rfl
    have hC := fC' rfl
    have hX := fX (.inr (.inr (.inl rfl)))
    subst hB hC hX
    by_cases e4 : q = r
    · subst e4
      have hA := fA' rfl
      have hD := fD rfl
      subst hA hD
      clear fA fA' fB fB' fC fC' fD fD' fX h1 h2
      cases nb1 <;> cases nb2 <;> simp [wif, wth, hpq, hrs]
    · obtain rfl : nb1 = false := by cases nb1 <;> simp_all
      clear fA fA' fB fB' fC fC' fD fD' fX h1 h2
      cases A <;> cases D <;> cases nb2 <;> simp [wif, wth, at_, hpq, hrs, Ne.symm hpq, Ne.symm hrs, e4, Ne.symm e4]
  obtain rfl : nb2 = false := by cases nb2 <;> simp_all
  by_cases e4 : q = r
  · subst e4
    have hA := fA' rfl
    have hD := fD rfl
    have hX := fX (.inr (.inr (.inr rfl)))
    subst hA hD hX
    clear fA fA' fB fB' fC fC' fD fD' fX h1 h2
    cases B <;> cases C <;> cases nb1 <;> simp [wif, wth, at_, hpq, hrs, Ne.symm hpq, Ne.symm hrs, e3, Ne.symm e3]
  obtain rfl : nb1 = false := by cases nb1 <;> simp_all
  clear fA fA' fB fB' fC fC' fD fD' fX h1 h2
  cases A <;> cases B <;> cases C <;> cases D <;> cases X <;> simp [wif, wth, at_, hpq, Ne.symm hpq, Ne.symm hrs, e3, Ne.symm e3, e1, Ne.symm e1, e2, Ne.symm e2, e4, Ne.symm e4]
/-! ### simple rings -/
def nbF (l : List Sp) (f : Sp → Sp → Sp → Sp → Bool → Bool → Bool) (i k : Nat) : Bool := f (at_ l i) (at_ l (nx l i)) (at_ l k) (at_ l (nx l k)) (decide (i + 1 = k)) (decide (nx l k = i))
def smp (l : List Sp) (f : Sp → Sp → Sp → Sp → Bool → Bool → Bool) : Bool := (List.range l.length).all fun k => (List.range k).all fun i => !nbF l f i k
theorem smp_true {l : List Sp} {f : Sp → Sp → Sp → Sp → Bool → Bool → Bool} : smp l f = true ↔ ∀ k, k < l.length → ∀ i, i < k → nbF l f i k = false := by
  unfold smp
  simp only [List.all_eq_true, List.mem_range, Bool.not_eq_true']
theorem smp_false {l : List Sp} {f : Sp → Sp → Sp → Sp → Bool → Bool → Bool} {i k : Nat} (hk : k < l.length) (hi : i < k) (h : nbF l f i k = true) : smp l f = false := by
  rw [← Bool.not_eq_true, smp_true]
  intro h'
  have := h' k hk i hi
  rw [h] at this; cases this
theorem smp_eq {l : List Sp} (h : ∀ i, i < l.length → at_ l i ≠ at_ l (nx l i)) : smp l bad1 = smp l bad2 := by
  have key : ∀ k, k < l.length → ∀ i, i < k → nbF l bad1 i k = nbF l bad2 i k := fun k hk i hi => by
    unfold nbF
    refine bad_eq (h i (by omega)) (h k hk) (fun e => ?_) (fun e => ?_)
    · have e : i + 1 = k := of_decide_eq_true e
      have : nx l i = k := by unfold nx; rw [e]; exact Nat.mod_eq_of_lt hk
      rw [this]
    · have e : nx l k = i := of_decide_eq_true e
      rw [e]
  rw [Bool.eq_iff_iff, smp_true, smp_true]
  exact ⟨fun h' k hk i hi => (key k hk i hi) ▸ h' k hk i hi, fun h' k hk i hi => (key k hk i hi).symm ▸ h' k hk i hi⟩
/-! ### where a point is -/
def upB (q r p : Sp) : Bool := decide (q.2 ≤ p.2) && decide (p.2 < r.2) && decide (0 < side q r p)
def dnB (q r p : Sp) : Bool := decide (r.2 ≤ p.2) && decide (p.2 < q.2) && decide (side q r p < 0)
theorem tog_ud (q r p : Sp) : (if tog q r p = true then (1 : Int) else 0) = (if upB q r p = true then 1 else 0) + (if dnB q r p = true then 1 else 0) := by
  have hs := side_swap q r p
  unfold tog upB dnB
  by_cases h1 : p.2 < q.2 <;> by_cases h2 : p.2 < r.2
  · have a1 : ¬ q.2 ≤ p.2 := by omega
    have a2 : ¬ r.2 ≤ p.2 := by omega
    simp [h1, h2, a1, a2]
  · have a2 : r.2 ≤ p.2 := by omega
    have a3 : r.2 < q.2 := by omega
    by_cases h3 : side q r p < 0
    · have : 0 < side r q p := by omega
      simp [h1, h2, a2, a3, h3, this]
    · have : ¬ 0 < side r q p := by omega
      simp [h1, h2, a2, a3, h3, this]
  · have a1 : q.2 ≤ p.2 := by omega
    have a3 : ¬ r.2 < q.2 := by omega
    by_cases h3 : 0 < side q r p
    · simp [h1, h2, a1, a3, h3]
    · simp [h1, h2, a1, a3, h3]
  · simp [h1, h2]
/-- how many edges go up or down past it, of the first k -/
def uds (l : List Sp) (p : Sp) (k : Nat) : Int := sumTo (fun i => (if upB (at_ l i) (at_ l (nx l i)) p = true then 1 else 0) + (if dnB (at_ l i) (at_ l (nx l i)) p = true then 1 else 0)) k
theorem uds_togs (l : List Sp) (p : Sp) (k : Nat) : uds l p k = togs l p k := sum_congr fun _ _ => (tog_ud _ _ p).symm
end Shp
/-
  Contracts over fewer known variables serve where more are known.
-/
namespace Go.Ab
open Go
def Cx.withG (c : Cx) (G : List (Nat × Value)) : Cx := { c with G := G }
mutual
theorem rel_withG {c : Cx} {G : List (Nat × Value)} : ∀ (a : AV) (v : Value), Rel c a v → Rel (c.withG G) a v
  | .fz _ _, _, h => by unfold Rel at *; exact h
  | .fptr _ _, _, h => by unfold Rel at *; exact h
  | .ref _ _ _, _, h => by unfold Rel at *; exact h
  | .nilSl, _, h => by unfold Rel at *; exact h
  | .ptr _ _, _, h => by unfold Rel at *; exact h
  | .elt _ _ _, _, h => by unfold Rel at *; exact h
  | .glob _, _, h => by unfold Rel at *; exact h
  | .agg l, _, h => by unfold Rel at *; obtain ⟨vs, h1, h2⟩ := h; exact ⟨vs, h1, relL_withG l vs h2⟩
  | .tup l, _, h => by unfold Rel at *; obtain ⟨vs, h1, h2⟩ := h; exact ⟨vs, h1, relL_withG l vs h2⟩
  | .fn _ l, _, h => by unfold Rel at *; obtain ⟨vs, h1, h2⟩ := h; exact ⟨vs, h1, relL_withG l vs h2⟩
  | .ifc _ a, _, h => by unfold Rel at *; obtain ⟨u, h1, h2⟩ := h; exact ⟨u, h1, rel_withG a u h2⟩
  | .opt _ a, v, h => by unfold Rel at *; exact ⟨fun hg => rel_withG a v (h.1 hg), h.2⟩
  | .unk, _, _ => by unfold Rel; trivial
theorem relL_withG {c : Cx} {G : List (Nat × Value)} : ∀ (l : List AV) (vs : List Value), RelL c l vs → RelL (c.withG G) l vs
  | [], vs, h => by unfold RelL at *; exact h
  | a :: l, vs, h => by unfold RelL at *; obtain ⟨v, r, e, h1, h2⟩ := h; exact ⟨v, r, e, rel_withG a v h1, relL_withG l r h2⟩
end
theorem obj_withG {c : Cx} {G : List (Nat × Value)} {r : Option Nat} {o : AO} (h : ObjOk c r o) : ObjOk (c.withG G) r o := by
  cases o with
  | dead => trivial
  | room => trivial
  | row e xs => exact h
  | box vs => obtain ⟨b, cs, et, h1, h2, h3⟩ := h; exact ⟨b, cs, et, h1, h2, relL_withG vs cs h3⟩
  | mapo i vs => obtain ⟨b, ob, us, h1, h2, h4, h3⟩ := h; exact ⟨b, ob, us, h1, h2, h4, relL_withG vs us h3⟩
theorem acall_more {P : Program} {G G' : List (Nat × Value)} {f : FuncId} {args : List AV} {A : List AO} {K : AV → List AO → Prop} (h : ACall P G f args A K) (hG : ∀ g v, gk G g = some v → gk G' g = some v) : ACall P G' f args A K := by
  refine ⟨h.body, fun c H hA hG' vs hv => ?_⟩
  have H0 : HR (c.withG G) := ⟨H.far, H.inj, fun t o ht => obj_withG (H.obj t o ht), H.old, fun g v hg => by obtain ⟨q1, q2, q3, q4, q5⟩ := H.glo g v (by rw [hG']; exact hG g v hg); exact ⟨q1, q2, q3, q4, q5⟩⟩
  refine (h.run (c.withG G) H0 hA rfl vs (relL_withG _ _ hv)).mono fun e w' ⟨v, c', r, h1, h2, h3, h4, h5, h6⟩ => ⟨v, c'.withG G', r, h1, h2, ⟨⟨h3.le.I, h3.le.tok, h3.le.len⟩, h3.X, hG'.symm, h3.far, h3.st⟩, ?_, rel_withG _ _ h5, h6⟩
  refine ⟨h4.far, h4.inj, fun t o ht => obj_withG (h4.obj t o ht), h4.old, fun g v hg => ?_⟩
  obtain ⟨p1, p2, p3, p4, p5⟩ := H.glo g v (by rw [hG']; exact hg)
  have q0 : GloOk (c.withG G) g v := ⟨p1, p2, p3, p4, p5⟩
  obtain ⟨q1, q2, q3, q4, q5⟩ := q0.mono h3.le.I
  exact ⟨q1, q2, q3, q4, q5⟩
end Go.Ab
/-
  Laid errors: what their variables hold.
-/
namespace Go.Ab
open Go Go.ChangeShapes
/-- an error with a text, al a row lays it -/
def errD {H : Type} (t : List UInt8) : DataW H := .iface "*errors.errorString" (.ptr (.agg [.lit (.string t)]))
theorem laid_errs {P : Program} {w : World} {T te ts : TypeId} {f : Field} (hrow : ∀ u, P.typeName? 3 u = some "*errors.errorString" → u = T)
    (hp : P.underlying T = some (.pointer te)) (he : P.underlying te = some (.struct #[f])) (hft : f.type = ts) (hfo : f.offset = 0) (hs : P.underlying ts = some .string) (hc : P.cellsOf te = 1) (hcs : P.cellsOf ts = 1) :
    ∀ (l : List (String × List UInt8)) (gs : List Nat) (ps : List MemPlace), DataW.LaidVars P w (l.map fun x => (x.1, errD x.2)) ps → ps.Nodup →
    (∀ b off, MemPlace.cell b off ∈ ps → (∃ c t, w.heap[b]? = some (.cells c t (0, 0))) ∧ ∀ u v, w.cell? ⟨b, off, none⟩ = some (.iface u v) → Value.okWide P w .any 0 u v) →
    (l.map fun x => P.globalNamed x.1) = gs.map some → (∀ g ∈ gs, ∃ ti ms, (P.globals[g]?).map (·.type) = some ti ∧ P.underlying ti = some (.interface ms)) →
    ∃ al : List Addr, al.length = gs.length ∧ al.Nodup ∧ (∀ (i : Nat) g a, gs[i]? = some g → al[i]? = some a → Glo0 w g (.iface T (.pointer (some a)))) ∧ ∀ a ∈ al, MemPlace.cell a.block a.off ∈ ps
  | [], [], _, _, _, _, _, _ => ⟨[], rfl, List.nodup_nil, fun i g a h => by simp at h, fun a h => by cases h⟩
  | [], _ :: _, _, _, _, _, h, _ => by simp at h
  | _ :: _, [], _, _, _, _, h, _ => by simp at h
  | x :: l, g :: gs, ps, h, hn, hall, hg, ht => by
    simp only [List.map_cons, List.cons.injEq] at hg
    obtain ⟨g', t', cs, fuel, p, q, h1, h2, h3, h4, h5, h6⟩ := h
    obtain rfl := Option.some.inj (hg.1.symm.trans h1)
    obtain ⟨ti, ms, k1, k2⟩ := ht g (List.mem_cons_self ..)
    obtain rfl := Option.some.inj (k1.symm.trans h2)
    subst h6
    obtain ⟨cl⟩ := cs
    have hok : ∀ u v, cl = [.iface u v] → Value.okWide P w .any 0 u v := fun u v e => by
      subst e
      exact (hall g 0 (by simp [MemPlace.row])).2 u v (by simpa using World.var?_cell h1 h3 0)
    obtain ⟨a, s, rfl, hca, _, _, rfl⟩ := errorString_of_trod k2 hrow hp he hft hfo hs hc hcs h4 hok
    have hmem : MemPlace.cell a.block a.off ∈ MemPlace.row a 1 := by simp [MemPlace.row]
    rw [List.append_assoc] at hn hall
    obtain ⟨al, j1, j2, j3, j4⟩ := laid_errs hrow hp he hft hfo hs hc hcs l gs q h5 ((hn.sublist (List.sublist_append_right _ _)).sublist (List.sublist_append_right _ _))
      (fun b off hb => hall b off (List.mem_append_right _ (List.mem_append_right _ hb))) hg.2 (fun g hg => ht g (List.mem_cons_of_mem _ hg))
    refine ⟨a :: al, by simp [j1], List.nodup_cons.2 ⟨fun hm => ?_, j2⟩, fun i g' a' h h' => ?_, fun a' h => ?_⟩
    · have := (List.nodup_append.1 (hn.sublist (List.sublist_append_right _ _))).2.2 _ hmem _ (j4 a hm)
      exact this rfl
    · cases i with
      | zero =>
        simp at h h'
        subst h; subst h'
        refine ⟨by simpa using World.var?_cell h1 h3 0, rfl, fun T' b e => ?_⟩
        cases e
        exact (hall a.block a.off (List.mem_append_right _ (List.mem_append_left _ hmem))).1
      | succ i => exact j3 i g' a' (by simpa using h) (by simpa using h')
    · rcases List.mem_cons.1 h with rfl | h
      · rw [List.append_assoc]; exact List.mem_append_right _ (List.mem_append_left _ hmem)
      · rw [List.append_assoc]; exact List.mem_append_right _ (List.mem_append_right _ (j4 a' h))
end Go.Ab
/-
  Contracts of functions that only lay new blocks, out of walks by hand.
-/
namespace Go.Ab
open Go Go.RowKit
theorem below_ext {c : Cx} (H : HR c) {w' : World} (hb : Below c.w.heap.size c.w w') : Ext c { c with w := w' } ∧ HR { c with w := w' } := by
  have hI : ∀ b, c.I b → b < c.w.heap.size → ({ c with w := w' } : Cx).I b ∧ w'.heap[b]? = c.w.heap[b]? := fun b h hl => ⟨h, hb.block b hl⟩
  have E : Ext c { c with w := w' } := by
    refine ⟨⟨hI, fun t ht => ?_, Nat.le_refl _⟩, rfl, rfl, fun b h => hb.block b (H.old b h), ⟨hb.os, hb.tape, hb.output⟩⟩
    have h0 := TokLe.refl (c := c) ht
    unfold TokLe at h0 ⊢
    show match c.A[t]? with | some (.row e _) => _ | some (.box _) => _ | some (.mapo _ _) => _ | some .dead => True | some .room => _ | none => False
    cases hA : c.A[t]? with
    | none => rw [hA] at h0; exact h0
    | some o =>
      rw [hA] at h0
      cases o with
      | dead => trivial
      | room => exact h0
      | row e xs =>
        simp only at h0 ⊢
        refine .inl ⟨⟨xs, rfl⟩, trivial, fun b cs et h1 h2 => ⟨cs, ?_, rfl⟩⟩
        show w'.heap[b]? = _
        rw [hb.block b (some_lt h2)]; exact h2
      | box vs => exact .inl ⟨⟨vs, rfl⟩, rfl⟩
      | mapo i vs => exact .inl ⟨⟨i, vs, rfl, rfl⟩, rfl⟩
  refine ⟨E, ⟨H.far, H.inj, fun t o h => ?_, fun b h => Nat.lt_of_lt_of_le (H.old b h) hb.size, fun g v h => (H.glo g v h).mono E.le.I⟩⟩
  refine objOk_ext E (H.obj t o h) fun hl b hr => hb.block b ?_
  exact H.lt ⟨o, h, hl⟩ hr
theorem acall_below {P : Program} {G : List (Nat × Value)} {f : FuncId} {args : List AV} {A : List AO} {K : AV → List AO → Prop} {r : AV} (hb : hasBody P f)
    (h : ∀ c, HR c → c.A = A → c.G = G → ∀ vs, RelL c args vs → Calls P f vs.toArray c.w fun e w' => ∃ v, e = .returned v ∧ Below c.w.heap.size c.w w' ∧ ∀ c', Ext c c' → c'.w = w' → Rel c' r v) (hK : K r A) : ACall P G f args A K := by
  refine ⟨trivial, fun c H hA hG vs hv => .inl ⟨hb, (h c H hA hG vs hv).mono fun e w' ⟨v, h1, h2, h3⟩ => ?_⟩⟩
  obtain ⟨k1, k2⟩ := below_ext H h2
  exact ⟨v, _, r, h1, rfl, k1, k2, h3 _ k1 rfl, by rw [show ({ c with w := w' } : Cx).A = A from hA]; exact hK⟩
end Go.Ab
/-
  The table of the types of this program (printed by a program), and that it is true.
-/
namespace Go.Proofs.YtcfalmdfohphoaaDoor
open Go Go.Ab
set_option maxRecDepth 100000
def tab : Tab := [
  (1, ⟨1, .fn, [.nilF], true, 8, 0⟩),
  (2, ⟨1, .int .i64, [.int .i64], true, 8, 0⟩),
  (3, ⟨1, .int .i64, [.int .i64], true, 8, 0⟩),
  (4, ⟨1, .bool, [.bool], true, 1, 0⟩),
  (5, ⟨1, .int .u8, [.int .u8], true, 1, 0⟩),
  (9, ⟨1, .str, [.str], true, 16, 0⟩),
  (12, ⟨1, .int .u64, [.int .u64], true, 8, 0⟩),
  (13, ⟨2, .struct [(0, 9), (1, 12)], [.str, .int .u64], true, 24, 0⟩),
  (20, ⟨1, .ifc, [.nilI], false, 16, 0⟩),
  (21, ⟨1, .int .i32, [.int .i32], true, 4, 0⟩),
  (22, ⟨1, .ptr 40, [.nilP], true, 8, 0⟩),
  (23, ⟨1, .fn, [.nilF], true, 8, 0⟩),
  (24, ⟨1, .fn, [.nilF], true, 8, 0⟩),
  (25, ⟨1, .fn, [.nilF], true, 8, 0⟩),
  (26, ⟨1, .slice 35, [.nilSl], true, 24, 0⟩),
  (27, ⟨1, .ifc, [.nilI], false, 16, 0⟩),
  (28, ⟨1, .ifc, [.nilI], false, 16, 0⟩),
  (30, ⟨1, .fn, [.nilF], true, 8, 0⟩),
  (31, ⟨1, .slice 44, [.nilSl], true, 24, 0⟩),
  (32, ⟨1, .struct [(0, 31)], [.nilSl], true, 24, 0⟩),
  (33, ⟨1, .struct [(0, 31)], [.nilSl], true, 24, 0⟩),
  (34, ⟨1, .fn, [.nilF], true, 8, 0⟩),
  (35, ⟨1, .slice 3, [.nilSl], true, 24, 0⟩),
  (37, ⟨1, .fn, [.nilF], true, 8, 0⟩),
  (39, ⟨1, .fn, [.nilF], true, 8, 0⟩),
  (40, ⟨1, .struct [(0, 31)], [.nilSl], true, 24, 0⟩),
  (42, ⟨1, .fn, [.nilF], true, 8, 0⟩),
  (43, ⟨1, .fn, [.nilF], true, 8, 0⟩),
  (44, ⟨1, .slice 46, [.nilSl], true, 24, 0⟩),
  (45, ⟨2, .struct [(0, 3), (1, 3)], [.int .i64, .int .i64], true, 16, 2⟩),
  (46, ⟨2, .struct [(0, 3), (1, 3)], [.int .i64, .int .i64], true, 16, 2⟩),
  (47, ⟨1, .fn, [.nilF], true, 8, 0⟩),
  (48, ⟨1, .fn, [.nilF], true, 8, 0⟩),
  (49, ⟨1, .fn, [.nilF], true, 8, 0⟩),
  (50, ⟨1, .fn, [.nilF], true, 8, 0⟩),
  (51, ⟨1, .fn, [.nilF], true, 8, 0⟩),
  (52, ⟨1, .fn, [.nilF], true, 8, 0⟩),
  (53, ⟨1, .fn, [.nilF], true, 8, 0⟩),
  (54, ⟨1, .fn, [.nilF], true, 8, 0⟩),
  (55, ⟨1, .fn, [.nilF], true, 8, 0⟩),
  (56, ⟨1, .other, [.nilM], true, 8, 0⟩),
  (57, ⟨1, .fn, [.nilF], true, 8, 0⟩),
  (58, ⟨2, .arr 2 3, [.int .i64, .int .i64], true, 16, 2⟩),
  (59, ⟨1, .fn, [.nilF], true, 8, 0⟩),
  (60, ⟨1, .fn, [.nilF], true, 8, 0⟩),
  (61, ⟨1, .fn, [.nilF], true, 8, 0⟩),
  (62, ⟨1, .fn, [.nilF], true, 8, 0⟩),
  (63, ⟨1, .fn, [.nilF], true, 8, 0⟩),
  (64, ⟨1, .fn, [.nilF], true, 8, 0⟩),
  (65, ⟨1, .fn, [.nilF], true, 8, 0⟩),
  (66, ⟨1, .fn, [.nilF], true, 8, 0⟩),
  (67, ⟨1, .fn, [.nilF], true, 8, 0⟩),
  (68, ⟨1, .other, [.nilM], true, 8, 0⟩),
  (69, ⟨1, .slice 72, [.nilSl], true, 24, 0⟩),
  (70, ⟨1, .fn, [.nilF], true, 8, 0⟩),
  (71, ⟨6, .struct [(0, 46), (2, 46), (4, 3), (5, 3)], [.int .i64, .int .i64, .int .i64, .int .i64, .int .i64, .int .i64], true, 48, 6⟩),
  (72, ⟨6, .struct [(0, 46), (2, 46), (4, 3), (5, 3)], [.int .i64, .int .i64, .int .i64, .int .i64, .int .i64, .int .i64], true, 48, 6⟩),
  (73, ⟨1, .fn, [.nilF], true, 8, 0⟩),
  (74, ⟨1, .slice 4, [.nilSl], true, 24, 0⟩),
  (75, ⟨1, .fn, [.nilF], true, 8, 0⟩),
  (76, ⟨1, .fn, [.nilF], true, 8, 0⟩),
  (77, ⟨1, .fn, [.nilF], true, 8, 0⟩),
  (78, ⟨1, .fn, [.nilF], true, 8, 0⟩),
  (80, ⟨1, .fn, [.nilF], true, 8, 0⟩),
  (81, ⟨1, .fn, [.nilF], true, 8, 0⟩),
  (82, ⟨1, .other, [.nilM], true, 8, 0⟩),
  (84, ⟨1, .fn, [.nilF], true, 8, 0⟩),
  (85, ⟨1, .fn, [.nilF], true, 8, 0⟩),
  (86, ⟨1, .fn, [.nilF], true, 8, 0⟩),
  (87, ⟨1, .fn, [.nilF], true, 8, 0⟩),
  (88, ⟨1, .ptr 92, [.nilP], true, 8, 0⟩),
  (89, ⟨1, .fn, [.nilF], true, 8, 0⟩),
  (90, ⟨1, .ptr 88, [.nilP], true, 8, 0⟩),
  (91, ⟨2, .struct [(0, 3), (1, 28)], [.int .i64, .nilI], true, 24, 0⟩),
  (92, ⟨2, .struct [(0, 3), (1, 28)], [.int .i64, .nilI], true, 24, 0⟩),
  (93, ⟨1, .slice 28, [.nilSl], true, 24, 0⟩),
  (94, ⟨1, .fn, [.nilF], true, 8, 0⟩),
  (95, ⟨1, .fn, [.nilF], true, 8, 0⟩),
  (96, ⟨6, .arr 3 46, [.int .i64, .int .i64, .int .i64, .int .i64, .int .i64, .int .i64], true, 48, 6⟩),
  (97, ⟨24, .arr 4 96, [.int .i64, .int .i64, .int .i64, .int .i64, .int .i64, .int .i64, .int .i64, .int .i64, .int .i64, .int .i64, .int .i64, .int .i64, .int .i64, .int .i64, .int .i64, .int .i64, .int .i64, .int .i64, .int .i64, .int .i64, .int .i64, .int .i64, .int .i64, .int .i64], true, 192, 24⟩),
  (98, ⟨1, .fn, [.nilF], true, 8, 0⟩),
  (99, ⟨1, .fn, [.nilF], true, 8, 0⟩),
  (100, ⟨1, .fn, [.nilF], true, 8, 0⟩),
  (101, ⟨1, .fn, [.nilF], true, 8, 0⟩),
  (102, ⟨1, .fn, [.nilF], true, 8, 0⟩),
  (103, ⟨1, .int .u64, [.int .u64], true, 8, 0⟩),
  (104, ⟨1, .fn, [.nilF], true, 8, 0⟩),
  (105, ⟨1, .fn, [.nilF], true, 8, 0⟩),
  (119, ⟨1, .fn, [.nilF], true, 8, 0⟩),
  (120, ⟨1, .fn, [.nilF], true, 8, 0⟩),
  (121, ⟨1, .int .i64, [.int .i64], true, 8, 0⟩),
  (123, ⟨1, .fn, [.nilF], true, 8, 0⟩),
  (124, ⟨1, .fn, [.nilF], true, 8, 0⟩),
  (125, ⟨1, .fn, [.nilF], true, 8, 0⟩),
  (127, ⟨1, .fn, [.nilF], true, 8, 0⟩),
  (128, ⟨1, .fn, [.nilF], true, 8, 0⟩),
  (129, ⟨1, .int .u32, [.int .u32], true, 4, 0⟩),
  (130, ⟨1, .fn, [.nilF], true, 8, 0⟩),
  (131, ⟨1, .int .u64, [.int .u64], true, 8, 0⟩),
  (137, ⟨1, .ifc, [.nilI], false, 16, 0⟩),
  (139, ⟨1, .fn, [.nilF], true, 8, 0⟩),
  (140, ⟨1, .ifc, [.nilI], false, 16, 0⟩),
  (141, ⟨1, .fn, [.nilF], true, 8, 0⟩),
  (142, ⟨1, .ifc, [.nilI], false, 16, 0⟩),
  (143, ⟨1, .fn, [.nilF], true, 8, 0⟩),
  (144, ⟨1, .ifc, [.nilI], false, 16, 0⟩),
  (146, ⟨1, .fn, [.nilF], true, 8, 0⟩),
  (147, ⟨1, .fn, [.nilF], true, 8, 0⟩),
  (148, ⟨1, .int .u64, [.int .u64], true, 8, 0⟩),
  (149, ⟨1, .fn, [.nilF], true, 8, 0⟩),
  (150, ⟨1, .fn, [.nilF], true, 8, 0⟩),
  (151, ⟨1, .fn, [.nilF], true, 8, 0⟩),
  (152, ⟨1, .ptr 3, [.nilP], true, 8, 0⟩),
  (153, ⟨1, .fn, [.nilF], true, 8, 0⟩),
  (154, ⟨1, .ptr 148, [.nilP], true, 8, 0⟩),
  (155, ⟨1, .fn, [.nilF], true, 8, 0⟩),
  (156, ⟨1, .ptr 177, [.nilP], true, 8, 0⟩),
  (157, ⟨1, .fn, [.nilF], true, 8, 0⟩),
  (163, ⟨1, .fn, [.nilF], true, 8, 0⟩),
  (166, ⟨1, .fn, [.nilF], true, 8, 0⟩),
  (167, ⟨1, .ptr 5, [.nilP], true, 8, 0⟩),
  (172, ⟨1, .fn, [.nilF], true, 8, 0⟩),
  (176, ⟨1, .struct [(0, 9)], [.str], true, 16, 1065⟩),
  (177, ⟨1, .struct [(0, 9)], [.str], true, 16, 0⟩),
  (180, ⟨1, .int .u16, [.int .u16], true, 2, 0⟩),
  (187, ⟨1, .fn, [.nilF], true, 8, 0⟩),
  (188, ⟨1, .ptr 28, [.nilP], true, 8, 0⟩)]
theorem tabOk : TabOk Tryd.prog tab := by unfold TabOk; kernel_rfl
theorem mixOk : Tryd.prog.follows .mixedOrders = true := by kernel_rfl
noncomputable def envAt (G : List (Nat × Value)) (N n0 : Nat) : Env := ⟨Tryd.prog, tab, G, N, n0, []⟩
theorem envOk (G : List (Nat × Value)) (N n0 : Nat) : EnvOk (envAt G N n0) := ⟨tabOk, mixOk⟩
noncomputable def envCut (G : List (Nat × Value)) (N n0 : Nat) (cuts : List Nat) : Env := ⟨Tryd.prog, tab, G, N, n0, cuts⟩
theorem envCutOk (G : List (Nat × Value)) (N n0 : Nat) (cuts : List Nat) : EnvOk (envCut G N n0 cuts) := ⟨tabOk, mixOk⟩
end Go.Proofs.YtcfalmdfohphoaaDoor
/-
  Words for what all texts of a package without rasters want.
-/
namespace Go.Proofs.YtcfalmdfohphoaaDoor
open Go Go.Ab
abbrev int : Ty := .int .i64
end Go.Proofs.YtcfalmdfohphoaaDoor
/-
  Where the errors lie.
-/
namespace Go.Proofs.YtcfalmdfohphoaaDoor
open Go Go.Ab
/-- where the errors lie -/
structure Errs where
  text : Addr
  bound : Addr
  shape : Addr
  range : Addr
  name : Addr
  none : Addr
  order : Addr
  file : Addr
abbrev errV (a : Addr) : Value := .iface 156 (.pointer (some a))
abbrev GE (E : Errs) : List (Nat × Value) := [(0, errV E.shape), (4, errV E.range), (1, errV E.bound)]
theorem mul_bd {a b A B : Int} (h1 : 0 ≤ a) (h2 : a ≤ A) (h3 : 0 ≤ b) (h4 : b ≤ B) : 0 ≤ a * b ∧ a * b ≤ A * B :=
  ⟨Int.mul_nonneg h1 h3, Int.mul_le_mul h2 h4 h3 (Int.le_trans h1 h2)⟩
end Go.Proofs.YtcfalmdfohphoaaDoor
/-
  Nothing of rasters here.
-/
namespace Go.Proofs.YtcfalmdfohphoaaDoor
end Go.Proofs.YtcfalmdfohphoaaDoor
/-
  Three errors: what the known variables hold.
-/
namespace Go.Proofs.YtcfalmdfohphoaaDoor
open Go Go.Ab Go.RowKit
set_option maxRecDepth 100000
abbrev G8 (E : Errs) : List (Nat × Value) := [(0, errV E.shape), (1, errV E.bound), (2, errV E.order)]
/-- the errors that a law tells apart; 0: nil -/
def er (E : Errs) (e : Nat) : Value := match e with
  | 0 => .nilIface
  | 1 => errV E.text
  | 2 => errV E.bound
  | 3 => errV E.shape
  | 4 => errV E.range
  | 5 => errV E.name
  | 6 => errV E.none
  | 7 => errV E.order
  | _ => errV E.file
end Go.Proofs.YtcfalmdfohphoaaDoor
/-
  Nothing of errors' codes here.
-/
namespace Go.Proofs.YtcfalmdfohphoaaDoor
end Go.Proofs.YtcfalmdfohphoaaDoor
/-
  The same numbers, in each package of statements that asks it; small helps.
-/
namespace Go.Proofs.YtcfalmdfohphoaaDoor
open Go Go.Ab
set_option maxRecDepth 100000
theorem kbl {K : AV → List AO → Prop} {b b' : Bool} {A : List AO} (h : K (.fz .bool b) A) (e : b = b') : K (.fz .bool b') A := e ▸ h
theorem sameInts_mercatorlaw5 (G : List (Nat × Value)) (xs ys : List Int) (hl : xs.length ≤ 1000000000000) (K : AV → List AO → Prop) (hK : K (.fz .bool (decide (xs = ys))) []) :
    ACall Tryd.prog G 33 [.fz (.list int) xs, .fz (.list int) ys] [] K := by
  refine acall_mk (E := envAt G 26 0) (envOk _ _ _) Tryd.func33 rfl rfl rfl rfl rfl ?_
  (repeat' (first | exact trivial | exact fun h => h | refine And.intro ?_ ?_ | (intro hb; try simp at hb) | omega | exact rfl | exact Nat.le_refl _ | (show _ + 1 ≤ 4294967296; omega) | (show _ + 1 ≤ 5864062014634; omega) | (dsimp only; omega) | (show (_ : Int) ≤ (_ : Int); omega) | (show _ < List.length _; simp only [List.length_set, List.length_append, List.length_take]; omega) | (show wantB _ _ = true; simp <;> omega) | (show (_ : Bool) = _; simp_all; done) | (exfalso; omega) | refine aRegion_auto (by decide +kernel) ?_ | fail))
  · refine ⟨_, _, REnt.drop ⟨rfl, rfl⟩, ?_⟩
    have : decide (xs = ys) = false := by simp; intro h; subst h; exact hb rfl
    rw [this] at hK; exact hK
  refine ⟨Nat, fun k => ⟨[(0, .fz (.list int) xs), (1, .fz (.list int) ys), (5, .fz int k)], []⟩, fun k => k ≤ xs.length ∧ ∀ j, j < k → xs.getD j 0 = ys.getD j 0, fun k => xs.length - k, 0, ⟨Nat.zero_le _, fun j h => absurd h (Nat.not_lt_zero _)⟩, Ent.sub rfl ⟨rfl, rfl, rfl⟩, ?_⟩
  intro k ⟨hk, hp⟩
  (repeat' (first | exact trivial | exact fun h => h | refine And.intro ?_ ?_ | (intro hb; try simp at hb) | omega | exact rfl | exact Nat.le_refl _ | (show _ + 1 ≤ 4294967296; omega) | (show _ + 1 ≤ 5864062014634; omega) | (dsimp only; omega) | (show (_ : Int) ≤ (_ : Int); omega) | (show _ < List.length _; simp only [List.length_set, List.length_append, List.length_take]; omega) | (show wantB _ _ = true; simp <;> omega) | (show (_ : Bool) = _; simp_all; done) | (exfalso; omega) | refine aRegion_auto (by decide +kernel) ?_ | fail))
  · refine ⟨_, _, REnt.drop ⟨rfl, rfl⟩, ?_⟩
    have : decide (xs = ys) = false := by
      simp; intro h; subst h
      exact hb rfl
    rw [this] at hK; exact hK
  · refine ⟨k + 1, ⟨by omega, fun j hj => ?_⟩, by show _ - _ < _ - _; omega, Ent.sub rfl ⟨rfl, rfl, rfl⟩⟩
    by_cases h : j = k
    · subst h; exact hb
    · exact hp j (by omega)
  · refine ⟨_, _, REnt.drop ⟨rfl, rfl⟩, ?_⟩
    have : decide (xs = ys) = true := by
      simp
      refine List.ext_getElem (by omega) fun i h1 h2 => ?_
      have := hp i (by omega)
      simpa [List.getD, h1, h2] using this
    rw [this] at hK; exact hK
end Go.Proofs.YtcfalmdfohphoaaDoor
/-
  Points and rings: the small walks.
-/
namespace Go.Proofs.YtcfalmdfohphoaaDoor
open Go Go.Ab
set_option maxRecDepth 100000
abbrev SpT : Ty := .pair int int
/-- a place on paper -/
def plB (p : Int × Int) : Bool := (decide (p.1 ≤ 16777216) && decide (-16777216 ≤ p.1)) && (decide (p.2 ≤ 16777216) && decide (-16777216 ≤ p.2))
theorem plB_iff {p : Int × Int} : plB p = true ↔ (p.1 ≤ 16777216 ∧ -16777216 ≤ p.1) ∧ (p.2 ≤ 16777216 ∧ -16777216 ≤ p.2) := by unfold plB; simp
theorem great_any (G : List (Nat × Value)) (p : Int × Int) (K : AV → List AO → Prop) (hK : K (.fz .bool (!plB p)) []) : ACall Tryd.prog G 36 [.fz SpT p] [] K := by
  refine acall_mk (E := envAt G 21 0) (envOk _ _ _) Tryd.func36 rfl rfl rfl rfl rfl ?_
  (repeat' (first | exact trivial | exact fun h => h | refine And.intro ?_ ?_ | (intro hb; try simp at hb) | omega | exact rfl | exact Nat.le_refl _ | (show _ + 1 ≤ 4294967296; omega) | (show _ + 1 ≤ 5864062014634; omega) | (dsimp only; omega) | (show (_ : Int) ≤ (_ : Int); omega) | (show _ < List.length _; simp only [List.length_set, List.length_append, List.length_take]; omega) | (show wantB _ _ = true; simp <;> omega) | (show (_ : Bool) = _; simp_all; done) | (exfalso; omega) | refine aRegion_auto (by decide +kernel) ?_ | refine ⟨_, _, REnt.drop ⟨rfl, rfl⟩, ?_⟩ | fail))
  refine kbl hK ?_
  unfold plB
  rw [Bool.eq_iff_iff]
  simp
  omega
theorem isPlace_any (G : List (Nat × Value)) (p : Int × Int) (K : AV → List AO → Prop) (hK : K (.fz .bool (plB p)) []) : ACall Tryd.prog G 23 [.fz SpT p] [] K := by
  refine acall_mk (E := envAt G 25 0) (envOk _ _ _) Tryd.func23 rfl rfl rfl rfl rfl ?_
  (repeat' (first | exact trivial | exact fun h => h | refine And.intro ?_ ?_ | (intro hb; try simp at hb) | omega | exact rfl | exact Nat.le_refl _ | (show _ + 1 ≤ 4294967296; omega) | (show _ + 1 ≤ 5864062014634; omega) | (dsimp only; omega) | (show (_ : Int) ≤ (_ : Int); omega) | (show _ < List.length _; simp only [List.length_set, List.length_append, List.length_take]; omega) | (show wantB _ _ = true; simp <;> omega) | (show (_ : Bool) = _; simp_all; done) | (exfalso; omega) | refine aRegion_auto (by decide +kernel) ?_ | refine ⟨_, _, REnt.drop ⟨rfl, rfl⟩, ?_⟩ | fail))
  refine kbl hK ?_
  unfold plB
  rw [Bool.eq_iff_iff]
  simp
theorem mulb {a b : Int} (ha : -33554432 ≤ a ∧ a ≤ 33554432) (hb : -33554432 ≤ b ∧ b ≤ 33554432) : -1125899906842624 ≤ a * b ∧ a * b ≤ 1125899906842624 := by
  rcases Int.le_total 0 a with h1 | h1 <;> rcases Int.le_total 0 b with h2 | h2
  · have := mul_bd (A := 33554432) (B := 33554432) h1 ha.2 h2 hb.2
    omega
  · have := mul_bd (A := 33554432) (B := 33554432) (b := -b) h1 ha.2 (by omega) (by omega)
    rw [Int.mul_neg] at this
    omega
  · have := mul_bd (A := 33554432) (B := 33554432) (a := -a) (by omega) (by omega) h2 hb.2
    rw [Int.neg_mul] at this
    omega
  · have := mul_bd (A := 33554432) (B := 33554432) (a := -a) (b := -b) (by omega) (by omega) (by omega) (by omega)
    rw [Int.neg_mul_neg] at this
    omega
theorem side_any (G : List (Nat × Value)) (p q r : Int × Int) (hp : plB p = true) (hq : plB q = true) (hr : plB r = true) (K : AV → List AO → Prop) (hK : K (.fz int (Shp.side p q r)) []) : ACall Tryd.prog G 51 [.fz SpT p, .fz SpT q, .fz SpT r] [] K := by
  rw [plB_iff] at hp hq hr
  have m1 := mulb (a := q.1 - p.1) (b := r.2 - p.2) (by omega) (by omega)
  have m2 := mulb (a := q.2 - p.2) (b := r.1 - p.1) (by omega) (by omega)
  refine acall_mk (E := envAt G 30 0) (envOk _ _ _) Tryd.func51 rfl rfl rfl rfl rfl ?_
  (repeat' (first | exact trivial | exact fun h => h | refine And.intro ?_ ?_ | (intro hb; try simp at hb) | omega | exact rfl | exact Nat.le_refl _ | (show _ + 1 ≤ 4294967296; omega) | (show _ + 1 ≤ 5864062014634; omega) | (dsimp only; omega) | (show (_ : Int) ≤ (_ : Int); omega) | (show _ < List.length _; simp only [List.length_set, List.length_append, List.length_take]; omega) | (show wantB _ _ = true; simp <;> omega) | (show (_ : Bool) = _; simp_all; done) | (exfalso; omega) | refine aRegion_auto (by decide +kernel) ?_ | refine ⟨_, _, REnt.drop ⟨rfl, rfl⟩, ?_⟩ | fail))
  exact hK
theorem turn_any (G : List (Nat × Value)) (p q r : Int × Int) (hp : plB p = true) (hq : plB q = true) (hr : plB r = true) (K : AV → List AO → Prop) (hK : K (.fz int (Shp.side p q r)) []) : ACall Tryd.prog G 42 [.fz SpT p, .fz SpT q, .fz SpT r] [] K := by
  rw [plB_iff] at hp hq hr
  have m1 := mulb (a := q.1 - p.1) (b := r.2 - q.2) (by omega) (by omega)
  have m2 := mulb (a := q.2 - p.2) (b := r.1 - q.1) (by omega) (by omega)
  rw [← Shp.turn_side] at hK
  refine acall_mk (E := envAt G 30 0) (envOk _ _ _) Tryd.func42 rfl rfl rfl rfl rfl ?_
  (repeat' (first | exact trivial | exact fun h => h | refine And.intro ?_ ?_ | (intro hb; try simp at hb) | omega | exact rfl | exact Nat.le_refl _ | (show _ + 1 ≤ 4294967296; omega) | (show _ + 1 ≤ 5864062014634; omega) | (dsimp only; omega) | (show (_ : Int) ≤ (_ : Int); omega) | (show _ < List.length _; simp only [List.length_set, List.length_append, List.length_take]; omega) | (show wantB _ _ = true; simp <;> omega) | (show (_ : Bool) = _; simp_all; done) | (exfalso; omega) | refine aRegion_auto (by decide +kernel) ?_ | refine ⟨_, _, REnt.drop ⟨rfl, rfl⟩, ?_⟩ | fail))
  exact hK
theorem on_any (G : List (Nat × Value)) (p q r : Int × Int) (hp : plB p = true) (hq : plB q = true) (hr : plB r = true) (K : AV → List AO → Prop) (hK : K (.fz .bool (Shp.on p q r)) []) : ACall Tryd.prog G 56 [.fz SpT p, .fz SpT q, .fz SpT r] [] K := by
  refine acall_mk (E := envAt G 52 0) (envOk _ _ _) Tryd.func56 rfl rfl rfl rfl rfl ?_
  (repeat' (first | exact trivial | exact fun h => h | refine And.intro ?_ ?_ | (intro hb; try simp at hb) | omega | exact rfl | exact Nat.le_refl _ | (show _ + 1 ≤ 4294967296; omega) | (show _ + 1 ≤ 5864062014634; omega) | (dsimp only; omega) | (show (_ : Int) ≤ (_ : Int); omega) | (show _ < List.length _; simp only [List.length_set, List.length_append, List.length_take]; omega) | (show wantB _ _ = true; simp <;> omega) | (show (_ : Bool) = _; simp_all; done) | (exfalso; omega) | refine aRegion_auto (by decide +kernel) ?_ | refine ⟨_, _, REnt.drop ⟨rfl, rfl⟩, ?_⟩ | fail))
  refine acall_conv [.dat SpT, .dat SpT, .dat SpT] _ _ _ rfl trivial (acall_frame0 rfl (side_any _ p q r hp hq hr _ ?_))
  (repeat' (first | exact trivial | exact fun h => h | refine And.intro ?_ ?_ | (intro hb; try simp at hb) | omega | exact rfl | exact Nat.le_refl _ | (show _ + 1 ≤ 4294967296; omega) | (show _ + 1 ≤ 5864062014634; omega) | (dsimp only; omega) | (show (_ : Int) ≤ (_ : Int); omega) | (show _ < List.length _; simp only [List.length_set, List.length_append, List.length_take]; omega) | (show wantB _ _ = true; simp <;> omega) | (show (_ : Bool) = _; simp_all; done) | (exfalso; omega) | refine aRegion_auto (by decide +kernel) ?_ | refine ⟨_, _, REnt.drop ⟨rfl, rfl⟩, ?_⟩ | fail))
  refine kbl hK ?_
  unfold Shp.on
  rw [Bool.eq_iff_iff]
  simp
theorem within_any (G : List (Nat × Value)) (n a b : Int) (K : AV → List AO → Prop) (hK : K (.fz .bool (decide (min a b ≤ n) && decide (n ≤ max a b))) []) : ACall Tryd.prog G 75 [.fz int n, .fz int a, .fz int b] [] K := by
  refine acall_mk (E := envAt G 20 0) (envOk _ _ _) Tryd.func75 rfl rfl rfl rfl rfl ?_
  (repeat' (first | exact trivial | exact fun h => h | refine And.intro ?_ ?_ | (intro hb; try simp at hb) | omega | exact rfl | exact Nat.le_refl _ | (show _ + 1 ≤ 4294967296; omega) | (show _ + 1 ≤ 5864062014634; omega) | (dsimp only; omega) | (show (_ : Int) ≤ (_ : Int); omega) | (show _ < List.length _; simp only [List.length_set, List.length_append, List.length_take]; omega) | (show wantB _ _ = true; simp <;> omega) | (show (_ : Bool) = _; simp_all; done) | (exfalso; omega) | refine aRegion_auto (by decide +kernel) ?_ | refine ⟨_, _, REnt.drop ⟨rfl, rfl⟩, ?_⟩ | fail))
  all_goals
    refine kbl hK ?_
    rw [Bool.eq_iff_iff]
    simp
    omega
theorem onPiece_any (G : List (Nat × Value)) (p q r : Int × Int) (hp : plB p = true) (hq : plB q = true) (hr : plB r = true) (K : AV → List AO → Prop) (hK : K (.fz .bool (Shp.on p q r)) []) : ACall Tryd.prog G 61 [.fz SpT p, .fz SpT q, .fz SpT r] [] K := by
  refine acall_mk (E := envAt G 32 0) (envOk _ _ _) Tryd.func61 rfl rfl rfl rfl rfl ?_
  refine acall_conv [.dat SpT, .dat SpT, .dat SpT] _ _ _ rfl trivial (acall_frame0 rfl (turn_any _ p q r hp hq hr _ ?_))
  by_cases h0 : Shp.side p q r = 0
  · (repeat' (first | exact trivial | refine And.intro ?_ ?_ | (intro hb; try simp at hb) | omega | exact rfl | refine aRegion_auto (by decide +kernel) ?_ | refine ⟨_, _, REnt.drop ⟨rfl, rfl⟩, ?_⟩ | fail))
    refine acall_frame0 rfl (within_any _ r.1 p.1 q.1 _ ?_)
    (repeat' (first | exact trivial | refine And.intro ?_ ?_ | (intro hb; try simp at hb) | omega | exact rfl | refine aRegion_auto (by decide +kernel) ?_ | refine ⟨_, _, REnt.drop ⟨rfl, rfl⟩, ?_⟩ | fail))
    refine acall_frame0 rfl (within_any _ r.2 p.2 q.2 _ ?_)
    (repeat' (first | exact trivial | exact fun h => h | refine And.intro ?_ ?_ | (intro hb; try simp at hb) | omega | exact rfl | exact Nat.le_refl _ | (show _ + 1 ≤ 4294967296; omega) | (show _ + 1 ≤ 5864062014634; omega) | (dsimp only; omega) | (show (_ : Int) ≤ (_ : Int); omega) | (show _ < List.length _; simp only [List.length_set, List.length_append, List.length_take]; omega) | (show wantB _ _ = true; simp <;> omega) | (show (_ : Bool) = _; simp_all; done) | (exfalso; omega) | refine aRegion_auto (by decide +kernel) ?_ | refine ⟨_, _, REnt.drop ⟨rfl, rfl⟩, ?_⟩ | fail))
    refine kbl hK ?_
    unfold Shp.on
    rw [Bool.eq_iff_iff]
    simp [h0, and_assoc]
  · (repeat' (first | exact trivial | refine And.intro ?_ ?_ | (intro hb; try simp at hb) | omega | exact rfl | refine aRegion_auto (by decide +kernel) ?_ | refine ⟨_, _, REnt.drop ⟨rfl, rfl⟩, ?_⟩ | fail))
    refine kbl hK ?_
    unfold Shp.on
    simp [h0]
end Go.Proofs.YtcfalmdfohphoaaDoor
/-
  Points and rings: what is a ring, its area.
-/
namespace Go.Proofs.YtcfalmdfohphoaaDoor
open Go Go.Ab
set_option maxRecDepth 100000
def idxS (p : Int × Int → Bool) (xs : List (Int × Int)) : Int := match xs.findIdx? p with
  | some i => (i : Nat)
  | none => -1
theorem indexFuncS_any (G : List (Nat × Value)) (xs : List (Int × Int)) (g : FuncId) (p : Int × Int → Bool) (hg : ∀ h K, K (.fz .bool (p h)) [] → ACall Tryd.prog G g [.fz SpT h] [] K) (hl : xs.length ≤ 1000000000000) (K : AV → List AO → Prop) (hK : K (.fz int (idxS p xs)) []) :
    ACall Tryd.prog G 55 [.fz (.list SpT) xs, .fn g []] [] K := by
  refine acall_mk (E := envAt G 19 0) (envOk _ _ _) Tryd.func55 rfl rfl rfl rfl rfl ?_
  (repeat' (first | exact trivial | refine And.intro ?_ ?_ | (intro hb; try simp at hb) | omega | exact rfl | refine aRegion_auto (by decide +kernel) ?_ | fail))
  refine ⟨Nat, fun k => ⟨[(0, .fz (.list SpT) xs), (1, .fn g []), (7, .fz int xs.length), (8, .fz int k)], []⟩, fun k => k ≤ xs.length ∧ ∀ j, j < k → p (xs.getD j (0, 0)) = false, fun k => xs.length - k, 0, ⟨Nat.zero_le _, fun j h => absurd h (Nat.not_lt_zero _)⟩, Ent.sub rfl ⟨rfl, rfl, rfl, rfl⟩, ?_⟩
  intro k ⟨hk, hp⟩
  (repeat' (first | exact trivial | refine And.intro ?_ ?_ | (intro hb; try simp at hb) | omega | exact rfl | refine aRegion_auto (by decide +kernel) ?_ | fail))
  · refine acall_frame0 rfl (hg _ _ ?_)
    (repeat' (first | exact trivial | refine And.intro ?_ ?_ | (intro hb; try simp at hb) | omega | exact rfl | refine aRegion_auto (by decide +kernel) ?_ | fail))
    · refine ⟨_, _, REnt.refl _ _ _, ?_⟩
      have : idxS p xs = k := by
        unfold idxS
        have : xs.findIdx? p = some k := by
          rw [List.findIdx?_eq_some_iff_getElem]
          refine ⟨by assumption, ?_, fun j hj => ?_⟩
          · simpa [List.getD, show k < xs.length by assumption] using hb
          · have := hp j hj
            have hlt : j < xs.length := by omega
            simpa [List.getD, hlt] using this
        rw [this]
      rw [this] at hK; exact hK
    · refine ⟨k + 1, ⟨by omega, fun j hj => ?_⟩, by show _ - _ < _ - _; omega, Ent.sub rfl ⟨rfl, rfl, rfl, rfl⟩⟩
      by_cases h : j = k
      · subst h; exact hb
      · exact hp j (by omega)
  · refine ⟨_, _, REnt.refl _ _ _, ?_⟩
    have : idxS p xs = -1 := by
      unfold idxS
      have : xs.findIdx? p = none := by
        rw [List.findIdx?_eq_none_iff]
        intro x hx
        obtain ⟨j, hj, rfl⟩ := List.getElem_of_mem hx
        have := hp j (by omega)
        simpa [List.getD, hj] using this
      rw [this]
    rw [this] at hK; exact hK
theorem containsFuncS_any (G : List (Nat × Value)) (xs : List (Int × Int)) (g : FuncId) (p : Int × Int → Bool) (hg : ∀ h K, K (.fz .bool (p h)) [] → ACall Tryd.prog G g [.fz SpT h] [] K) (hl : xs.length ≤ 1000000000000) (K : AV → List AO → Prop) (hK : K (.fz .bool (xs.any p)) []) :
    ACall Tryd.prog G 35 [.fz (.list SpT) xs, .fn g []] [] K := by
  refine acall_mk (E := envAt G 9 0) (envOk _ _ _) Tryd.func35 rfl rfl rfl rfl rfl ?_
  (repeat' (first | exact trivial | refine And.intro ?_ ?_ | (intro hb; try simp at hb) | omega | exact rfl | refine aRegion_auto (by decide +kernel) ?_ | fail))
  refine acall_frame0 rfl (indexFuncS_any G xs g p hg hl _ ?_)
  (repeat' (first | exact trivial | refine And.intro ?_ ?_ | (intro hb; try simp at hb) | omega | exact rfl | refine aRegion_auto (by decide +kernel) ?_ | fail))
  refine ⟨_, _, REnt.refl _ _ _, ?_⟩
  have : decide ((0 : Int) ≤ idxS p xs) = xs.any p := by
    unfold idxS
    cases h : xs.findIdx? p with
    | none =>
      rw [List.findIdx?_eq_none_iff] at h
      have hn : xs.any p = false := List.any_eq_false.2 fun x hx => by simpa using h x hx
      rw [hn]; rfl
    | some i =>
      obtain ⟨h1, h2, _⟩ := List.findIdx?_eq_some_iff_getElem.1 h
      have hn : xs.any p = true := List.any_eq_true.2 ⟨_, List.getElem_mem h1, h2⟩
      rw [hn]; exact decide_eq_true (show (0 : Int) ≤ ((i : Nat) : Int) by omega)
  rw [this]; exact hK
abbrev Pts := List (Int × Int)
def badI (l : Pts) (i : Nat) : Bool := !plB (Shp.at_ l i) || decide (Shp.at_ l i = Shp.at_ l (Shp.nx l i))
def ringE (l : Pts) : Nat := if 4000 < l.length then 2 else if l.length < 3 ∨ (List.range l.length).any (badI l) = true then 3 else 0
theorem tmod_nx (l : Pts) (i : Nat) : Int.tmod ((i : Int) + 1) ((List.length l : Nat) : Int) = ((Shp.nx l i : Nat) : Int) := by
  unfold Shp.nx
  rw [Int.tmod_eq_emod_of_nonneg (by omega), Int.natCast_emod]
  rfl
theorem at_q (l : Pts) (i : Nat) : l[i]?.getD SpT.dft = Shp.at_ l i := by unfold Shp.at_; rw [List.getD_eq_getElem?_getD]; rfl
theorem at_d (l : Pts) (i : Nat) : List.getD l (Int.toNat (i : Int)) SpT.dft = Shp.at_ l i := rfl
theorem eqS (p q : Int × Int) : eqL [p.1, p.2] [q.1, q.2] = decide (p = q) := by
  obtain ⟨a, b⟩ := p
  obtain ⟨c, d⟩ := q
  rw [Bool.eq_iff_iff]
  simp [eqL]
theorem nx_lt {l : Pts} {i : Nat} (h : 0 < l.length) : Shp.nx l i < l.length := Nat.mod_lt _ h
theorem any_bad {l : Pts} : (List.range l.length).any (badI l) = true ↔ ∃ i, i < l.length ∧ badI l i = true := by
  rw [List.any_eq_true]
  constructor
  · rintro ⟨i, h1, h2⟩; exact ⟨i, List.mem_range.1 h1, h2⟩
  · rintro ⟨i, h1, h2⟩; exact ⟨i, List.mem_range.2 h1, h2⟩
theorem any_great {l : Pts} (h : l.any (fun p => !plB p) = true) : ∃ i, i < l.length ∧ plB (Shp.at_ l i) = false := by
  obtain ⟨x, hx, h2⟩ := List.any_eq_true.1 h
  obtain ⟨i, hi, rfl⟩ := List.getElem_of_mem hx
  refine ⟨i, hi, ?_⟩
  have : Shp.at_ l i = l[i] := by unfold Shp.at_; simp [hi]
  rw [this]; simpa using h2
theorem no_great {l : Pts} (h : l.any (fun p => !plB p) = false) (i : Nat) (hi : i < l.length) : plB (Shp.at_ l i) = true := by
  have := List.any_eq_false.1 h (l[i]) (List.getElem_mem hi)
  have e : Shp.at_ l i = l[i] := by unfold Shp.at_; simp [hi]
  rw [e]; simpa using this
/-! ### areas -/
theorem ringE_no {l : Pts} (h : ringE l = 0) : 3 ≤ l.length ∧ l.length ≤ 4000 ∧ (∀ i, i < l.length → plB (Shp.at_ l i) = true) ∧ ∀ i, i < l.length → Shp.at_ l i ≠ Shp.at_ l (Shp.nx l i) := by
  unfold ringE at h
  split at h
  · omega
  · split at h
    · omega
    · rename_i h1 h2
      have hb : ∀ i, i < l.length → badI l i = false := fun i hi => by
        cases e : badI l i with
        | false => rfl
        | true => exact absurd (.inr (any_bad.2 ⟨i, hi, e⟩)) h2
      refine ⟨by omega, by omega, fun i hi => ?_, fun i hi => ?_⟩
      · have := hb i hi
        unfold badI at this
        simp at this
        exact this.1
      · have := hb i hi
        unfold badI at this
        simp at this
        exact this.2
theorem crossb {p q : Int × Int} (hp : plB p = true) (hq : plB q = true) : -1125899906842624 ≤ p.1 * q.2 ∧ p.1 * q.2 ≤ 1125899906842624 := by
  rw [plB_iff] at hp hq
  exact mulb (by omega) (by omega)
theorem area_bd {l : Pts} (hp : ∀ i, i < l.length → plB (Shp.at_ l i) = true) : ∀ k, k ≤ l.length → -((k : Int) * 2251799813685248) ≤ Shp.areaTo l k ∧ Shp.areaTo l k ≤ (k : Int) * 2251799813685248
  | 0, _ => ⟨Int.le_refl _, Int.le_refl _⟩
  | k + 1, hk => by
    have ih := area_bd hp k (by omega)
    have h1 := hp k (by omega)
    have h2 := hp (Shp.nx l k) (nx_lt (by omega))
    have c1 := crossb h1 h2
    have c2 := crossb h2 h1
    show -(((k + 1 : Nat) : Int) * 2251799813685248) ≤ Shp.areaTo l k + (_ - _) ∧ Shp.areaTo l k + (_ - _) ≤ ((k + 1 : Nat) : Int) * 2251799813685248
    omega
theorem area_any (G : List (Nat × Value)) (l : Pts) (h0 : ringE l = 0) (K : AV → List AO → Prop) (hK : K (.fz int (Shp.area l)) []) : ACall Tryd.prog G 28 [.fz (.list SpT) l] [] K := by
  obtain ⟨h3, h4, hp, _⟩ := ringE_no h0
  refine acall_mk (E := envCut G 37 0 [6]) (envCutOk _ _ _ _) Tryd.func28 rfl rfl rfl rfl rfl ?_
  (repeat' (first | exact trivial | refine And.intro ?_ ?_ | (intro hb; try simp at hb) | omega | exact rfl | refine aRegion_auto (by decide +kernel) ?_ | refine ⟨_, _, REnt.drop ⟨rfl, rfl⟩, ?_⟩ | fail))
  refine ⟨Nat, fun k => ⟨[(0, .fz (.list SpT) l), (3, .fz int (Shp.areaTo l k)), (7, .fz (.list SpT) l), (8, .fz int l.length), (9, .fz int k)], []⟩, fun k => k ≤ l.length, fun k => l.length - k, 0, Nat.zero_le _, Ent.sub rfl ?_, ?_⟩
  · (repeat' (first | exact trivial | exact rfl | refine And.intro ?_ ?_))
  intro k hk
  have hb := area_bd hp k hk
  by_cases hkl : k < l.length
  · have hne : l ≠ [] := fun e => by rw [e] at h3; simp at h3
    have hnx := nx_lt (l := l) (i := k) (by omega)
    have htm := tmod_nx l k
    have qd := at_d l k
    have qn : ∀ z : Int, z = ((Shp.nx l k : Nat) : Int) → List.getD l (Int.toNat z) SpT.dft = Shp.at_ l (Shp.nx l k) := fun z hz => by rw [hz]; rfl
    have qn2 := qn _ htm
    have c1 := crossb (hp k hkl) (hp _ hnx)
    have c2 := crossb (hp _ hnx) (hp k hkl)
    have hb2 := area_bd hp (k + 1) hkl
    have eA : Shp.areaTo l (k + 1) = Shp.areaTo l k + ((Shp.at_ l k).1 * (Shp.at_ l (Shp.nx l k)).2 - (Shp.at_ l (Shp.nx l k)).1 * (Shp.at_ l k).2) := rfl
    (repeat' (first | exact trivial | refine And.intro ?_ ?_ | (intro hb; try simp at hb) | omega | exact rfl | refine aRegion_auto (by decide +kernel) ?_ | refine ⟨_, _, REnt.drop ⟨rfl, rfl⟩, ?_⟩ | fail))
    · exact hne hb
    refine ⟨[(0, .fz (.list SpT) l), (3, .fz int (Shp.areaTo l k)), (5, .ptr 0 0), (6, .ptr 1 0), (7, .fz (.list SpT) l), (8, .fz int l.length), (9, .fz int k)], [.box [.fz int (Shp.at_ l k).1, .fz int (Shp.at_ l k).2], .box [.fz int (Shp.at_ l (Shp.nx l k)).1, .fz int (Shp.at_ l (Shp.nx l k)).2]], Ent.sub ?_ ?_, ?_⟩
    · rw [← qn2]
      (repeat' (first | exact rfl | refine cons_eq ?_ ?_))
    · (repeat' (first | exact trivial | exact rfl | refine And.intro ?_ ?_))
    (repeat' (first | exact trivial | refine And.intro ?_ ?_ | (intro hb; try simp at hb) | omega | exact rfl | refine aRegion_auto (by decide +kernel) ?_ | refine ⟨_, _, REnt.drop ⟨rfl, rfl⟩, ?_⟩ | fail))
    refine ⟨k + 1, by show k + 1 ≤ l.length; omega, by show l.length - (k + 1) < l.length - k; omega, Ent.ren [] rfl trivial ?_⟩
    (repeat' (first | exact trivial | exact rfl | refine And.intro ?_ ?_))
  · have hke : k = l.length := by omega
    subst hke
    (repeat' (first | exact trivial | refine And.intro ?_ ?_ | (intro hb; try simp at hb) | omega | exact rfl | refine aRegion_auto (by decide +kernel) ?_ | refine ⟨_, _, REnt.drop ⟨rfl, rfl⟩, ?_⟩ | fail))
    exact hK
def arE (l : Pts) : Int := if ringE l = 0 then Shp.area l else 0
theorem fan_bd {l : Pts} (hp : ∀ i, i < l.length → plB (Shp.at_ l i) = true) : ∀ k, k + 2 ≤ l.length → -((k : Int) * 2251799813685248) ≤ Shp.fan l k ∧ Shp.fan l k ≤ (k : Int) * 2251799813685248
  | 0, _ => ⟨Int.le_refl _, Int.le_refl _⟩
  | k + 1, hk => by
    have ih := fan_bd hp k (by omega)
    have h0 := plB_iff.1 (hp 0 (by omega))
    have h1 := plB_iff.1 (hp (k + 1) (by omega))
    have h2 := plB_iff.1 (hp (k + 2) (by omega))
    have m1 := mulb (a := (Shp.at_ l (k + 1)).1 - (Shp.at_ l 0).1) (b := (Shp.at_ l (k + 2)).2 - (Shp.at_ l (k + 1)).2) (by omega) (by omega)
    have m2 := mulb (a := (Shp.at_ l (k + 1)).2 - (Shp.at_ l 0).2) (b := (Shp.at_ l (k + 2)).1 - (Shp.at_ l (k + 1)).1) (by omega) (by omega)
    show -(((k + 1 : Nat) : Int) * 2251799813685248) ≤ Shp.fan l k + (_ - _) ∧ Shp.fan l k + (_ - _) ≤ ((k + 1 : Nat) : Int) * 2251799813685248
    omega
theorem areaOf_any (G : List (Nat × Value)) (l : Pts) (h0 : ringE l = 0) (K : AV → List AO → Prop) (hK : K (.fz int (Shp.area l)) []) : ACall Tryd.prog G 19 [.fz (.list SpT) l] [] K := by
  obtain ⟨h3, h4, hp, _⟩ := ringE_no h0
  rw [← Shp.fan_area l h3] at hK
  refine acall_mk (E := envAt G 28 0) (envOk _ _ _) Tryd.func19 rfl rfl rfl rfl rfl ?_
  (repeat' (first | exact trivial | refine And.intro ?_ ?_ | (intro hb; try simp at hb) | omega | exact rfl | refine aRegion_auto (by decide +kernel) ?_ | refine ⟨_, _, REnt.drop ⟨rfl, rfl⟩, ?_⟩ | fail))
  refine ⟨Nat, fun k => ⟨[(0, .fz (.list SpT) l), (3, .fz int (Shp.fan l k)), (4, .fz int ((k : Int) + 1))], []⟩, fun k => k + 2 ≤ l.length, fun k => l.length - k, 0, by show 0 + 2 ≤ l.length; omega, Ent.sub rfl ?_, ?_⟩
  · (repeat' (first | exact trivial | exact rfl | refine And.intro ?_ ?_))
  intro k hk
  have hb := fan_bd hp k hk
  by_cases hkl : k + 2 < l.length
  · have hb2 := fan_bd hp (k + 1) (by omega)
    have eF : Shp.fan l (k + 1) = Shp.fan l k + Shp.side (Shp.at_ l 0) (Shp.at_ l (k + 1)) (Shp.at_ l (k + 2)) := by rw [← Shp.turn_side]; rfl
    (repeat' (first | exact trivial | refine And.intro ?_ ?_ | (intro hb; try simp at hb) | omega | exact rfl | refine aRegion_auto (by decide +kernel) ?_ | refine ⟨_, _, REnt.drop ⟨rfl, rfl⟩, ?_⟩ | fail))
    apply exEff
    · refine acall_frame0 rfl (acall_arg (turn_any _ (Shp.at_ l 0) (Shp.at_ l (k + 1)) (Shp.at_ l (k + 2)) (hp 0 (by omega)) (hp (k + 1) (by omega)) (hp (k + 2) (by omega)) _ ?_) rfl)
      exact ⟨rfl, rfl⟩
    (repeat' (first | exact trivial | refine And.intro ?_ ?_ | (intro hb; try simp at hb) | omega | exact rfl | refine aRegion_auto (by decide +kernel) ?_ | refine ⟨_, _, REnt.drop ⟨rfl, rfl⟩, ?_⟩ | fail))
    refine ⟨k + 1, by show k + 1 + 2 ≤ l.length; omega, by show l.length - (k + 1) < l.length - k; omega, Ent.sub rfl ?_⟩
    (repeat' (first | exact trivial | exact rfl | refine And.intro ?_ ?_))
    exact congrArg (AV.fz int) eF.symm
  · have hke : k = l.length - 2 := by omega
    (repeat' (first | exact trivial | refine And.intro ?_ ?_ | (intro hb; try simp at hb) | omega | exact rfl | refine aRegion_auto (by decide +kernel) ?_ | refine ⟨_, _, REnt.drop ⟨rfl, rfl⟩, ?_⟩ | fail))
    rw [hke]
    exact hK
end Go.Proofs.YtcfalmdfohphoaaDoor
/-
  Pieces that meet: the walk of the program's.
-/
namespace Go.Proofs.YtcfalmdfohphoaaDoor
open Go Go.Ab
set_option maxRecDepth 100000
theorem isNaN_any (G : List (Nat × Value)) (x : Int) (K : AV → List AO → Prop) (hK : K (.fz .bool false) []) : ACall Tryd.prog G 88 [.fz int x] [] K := by
  refine acall_mk (E := envAt G 6 0) (envOk _ _ _) Tryd.func88 rfl rfl rfl rfl rfl ?_
  (repeat' (first | exact trivial | refine And.intro ?_ ?_ | (intro hb; try simp at hb) | omega | exact rfl | refine aRegion_auto (by decide +kernel) ?_ | refine ⟨_, _, REnt.drop ⟨rfl, rfl⟩, ?_⟩ | fail))
  exact kbl hK (by simp)
theorem compare_any (G : List (Nat × Value)) (x y : Int) (K : AV → List AO → Prop) (hK : K (.fz int (if x < y then -1 else if y < x then 1 else 0)) []) : ACall Tryd.prog G 73 [.fz int x, .fz int y] [] K := by
  refine acall_mk (E := envAt G 20 0) (envOk _ _ _) Tryd.func73 rfl rfl rfl rfl rfl ?_
  refine acall_frame0 rfl (isNaN_any _ x _ ?_)
  refine acall_frame0 rfl (isNaN_any _ y _ ?_)
  by_cases h1 : x < y
  · rw [if_pos h1] at hK
    (repeat' (first | exact trivial | refine And.intro ?_ ?_ | (intro hb; try simp at hb) | omega | exact rfl | refine aRegion_auto (by decide +kernel) ?_ | refine ⟨_, _, REnt.drop ⟨rfl, rfl⟩, ?_⟩ | fail))
    exact hK
  · rw [if_neg h1] at hK
    by_cases h2 : y < x
    · rw [if_pos h2] at hK
      (repeat' (first | exact trivial | refine And.intro ?_ ?_ | (intro hb; try simp at hb) | omega | exact rfl | refine aRegion_auto (by decide +kernel) ?_ | refine ⟨_, _, REnt.drop ⟨rfl, rfl⟩, ?_⟩ | fail))
      exact hK
    · rw [if_neg h2] at hK
      (repeat' (first | exact trivial | exact fun h => h | refine And.intro ?_ ?_ | (intro hb; try simp at hb) | omega | exact rfl | exact Nat.le_refl _ | (show _ + 1 ≤ 4294967296; omega) | (show _ + 1 ≤ 5864062014634; omega) | (dsimp only; omega) | (show (_ : Int) ≤ (_ : Int); omega) | (show _ < List.length _; simp only [List.length_set, List.length_append, List.length_take]; omega) | (show wantB _ _ = true; simp <;> omega) | (show (_ : Bool) = _; simp_all; done) | (exfalso; omega) | refine aRegion_auto (by decide +kernel) ?_ | refine ⟨_, _, REnt.drop ⟨rfl, rfl⟩, ?_⟩ | fail))
      exact hK
theorem sign_any (G : List (Nat × Value)) (x : Int) (K : AV → List AO → Prop) (hK : K (.fz int (Shp.sgZ x)) []) : ACall Tryd.prog G 57 [.fz int x] [] K := by
  have e : Shp.sgZ x = if x < 0 then -1 else if 0 < x then 1 else 0 := by
    unfold Shp.sgZ
    split
    · rw [if_neg (by omega)]
    · rfl
  rw [e] at hK
  refine acall_mk (E := envAt G 5 0) (envOk _ _ _) Tryd.func57 rfl rfl rfl rfl rfl ?_
  refine acall_frame0 rfl (compare_any _ x 0 _ ?_)
  (repeat' (first | exact trivial | exact fun h => h | refine And.intro ?_ ?_ | (intro hb; try simp at hb) | omega | exact rfl | exact Nat.le_refl _ | (show _ + 1 ≤ 4294967296; omega) | (show _ + 1 ≤ 5864062014634; omega) | (dsimp only; omega) | (show (_ : Int) ≤ (_ : Int); omega) | (show _ < List.length _; simp only [List.length_set, List.length_append, List.length_take]; omega) | (show wantB _ _ = true; simp <;> omega) | (show (_ : Bool) = _; simp_all; done) | (exfalso; omega) | refine aRegion_auto (by decide +kernel) ?_ | refine ⟨_, _, REnt.drop ⟨rfl, rfl⟩, ?_⟩ | fail))
  exact hK
theorem signOf_any (G : List (Nat × Value)) (x : Int) (K : AV → List AO → Prop) (hK : K (.fz int (Shp.sgZ x)) []) : ACall Tryd.prog G 62 [.fz int x] [] K := by
  unfold Shp.sgZ at hK
  refine acall_mk (E := envAt G 7 0) (envOk _ _ _) Tryd.func62 rfl rfl rfl rfl rfl ?_
  by_cases h1 : 0 < x
  · rw [if_pos h1] at hK
    (repeat' (first | exact trivial | exact fun h => h | refine And.intro ?_ ?_ | (intro hb; try simp at hb) | omega | exact rfl | exact Nat.le_refl _ | (show _ + 1 ≤ 4294967296; omega) | (show _ + 1 ≤ 5864062014634; omega) | (dsimp only; omega) | (show (_ : Int) ≤ (_ : Int); omega) | (show _ < List.length _; simp only [List.length_set, List.length_append, List.length_take]; omega) | (show wantB _ _ = true; simp <;> omega) | (show (_ : Bool) = _; simp_all; done) | (exfalso; omega) | refine aRegion_auto (by decide +kernel) ?_ | refine ⟨_, _, REnt.drop ⟨rfl, rfl⟩, ?_⟩ | fail))
    exact hK
  · rw [if_neg h1] at hK
    by_cases h2 : x < 0
    · rw [if_pos h2] at hK
      (repeat' (first | exact trivial | exact fun h => h | refine And.intro ?_ ?_ | (intro hb; try simp at hb) | omega | exact rfl | exact Nat.le_refl _ | (show _ + 1 ≤ 4294967296; omega) | (show _ + 1 ≤ 5864062014634; omega) | (dsimp only; omega) | (show (_ : Int) ≤ (_ : Int); omega) | (show _ < List.length _; simp only [List.length_set, List.length_append, List.length_take]; omega) | (show wantB _ _ = true; simp <;> omega) | (show (_ : Bool) = _; simp_all; done) | (exfalso; omega) | refine aRegion_auto (by decide +kernel) ?_ | refine ⟨_, _, REnt.drop ⟨rfl, rfl⟩, ?_⟩ | fail))
      exact hK
    · rw [if_neg h2] at hK
      (repeat' (first | exact trivial | exact fun h => h | refine And.intro ?_ ?_ | (intro hb; try simp at hb) | omega | exact rfl | exact Nat.le_refl _ | (show _ + 1 ≤ 4294967296; omega) | (show _ + 1 ≤ 5864062014634; omega) | (dsimp only; omega) | (show (_ : Int) ≤ (_ : Int); omega) | (show _ < List.length _; simp only [List.length_set, List.length_append, List.length_take]; omega) | (show wantB _ _ = true; simp <;> omega) | (show (_ : Bool) = _; simp_all; done) | (exfalso; omega) | refine aRegion_auto (by decide +kernel) ?_ | refine ⟨_, _, REnt.drop ⟨rfl, rfl⟩, ?_⟩ | fail))
      exact hK
theorem sg_bd (x : Int) : -1 ≤ Shp.sgZ x ∧ Shp.sgZ x ≤ 1 := by unfold Shp.sgZ; split <;> (try split) <;> omega
theorem sg_mul {a b : Int} (ha : -1 ≤ a ∧ a ≤ 1) (hb : -1 ≤ b ∧ b ≤ 1) : -1 ≤ a * b ∧ a * b ≤ 1 := by
  obtain rfl | rfl | rfl : a = -1 ∨ a = 0 ∨ a = 1 := by omega
  · omega
  · omega
  · omega
theorem tch_of {p q r : Int × Int} (h : (Shp.on p q r = true ∧ decide (r = p) = false) ∧ decide (r = q) = false) : Shp.tch p q r = true := by
  unfold Shp.tch
  obtain ⟨⟨h1, h2⟩, h3⟩ := h
  have h2 := of_decide_eq_false h2
  have h3 := of_decide_eq_false h3
  simp [h1, h2, h3]
theorem tch_no {p q r : Int × Int} (h : Shp.on p q r = true → decide (r = p) = false → decide (r = q) = true) : Shp.tch p q r = false := by
  rw [← Bool.not_eq_true]
  intro ht
  unfold Shp.tch at ht
  simp only [Bool.and_eq_true, decide_eq_true_eq] at ht
  obtain ⟨⟨h1, h2⟩, h3⟩ := ht
  have := h h1 (decide_eq_false h2)
  exact h3 (of_decide_eq_true this)
set_option maxHeartbeats 8000000 in
theorem meet_any (G : List (Nat × Value)) (p q r s : Int × Int) (hp : plB p = true) (hq : plB q = true) (hr : plB r = true) (hs : plB s = true) (K : AV → List AO → Prop) (hK : K (.fz .bool (Shp.meet p q r s)) []) : ACall Tryd.prog G 40 [.fz SpT p, .fz SpT q, .fz SpT r, .fz SpT s] [] K := by
  refine acall_mk (E := envAt G 97 0) (envOk _ _ _) Tryd.func40 rfl rfl rfl rfl rfl ?_
  let A0 : List AO := [.box [.fz int p.1, .fz int p.2], .box [.fz int q.1, .fz int q.2], .box [.fz int r.1, .fz int r.2], .box [.fz int s.1, .fz int s.2]]
  let ar : AV := .agg [.fz int p.1, .fz int p.2, .fz int q.1, .fz int q.2, .fz int r.1, .fz int r.2, .fz int p.1, .fz int p.2, .fz int q.1, .fz int q.2, .fz int s.1, .fz int s.2, .fz int r.1, .fz int r.2, .fz int s.1, .fz int s.2, .fz int p.1, .fz int p.2, .fz int r.1, .fz int r.2, .fz int s.1, .fz int s.2, .fz int q.1, .fz int q.2]
  refine ⟨Nat, fun k => ⟨[(4, .ptr 0 0), (5, .ptr 1 0), (6, .ptr 2 0), (7, .ptr 3 0), (27, ar), (28, .fz int k)], A0⟩, fun k => k ≤ 4 ∧ (0 < k → Shp.tch p q r = false) ∧ (1 < k → Shp.tch p q s = false) ∧ (2 < k → Shp.tch r s p = false) ∧ (3 < k → Shp.tch r s q = false), fun k => 4 - k, 0, ⟨by omega, by omega, by omega, by omega, by omega⟩, Ent.sub rfl ?_, ?_⟩
  · (repeat' (first | exact trivial | exact rfl | refine And.intro ?_ ?_))
  intro k ⟨hk, h1, h2, h3, h4⟩
  obtain rfl | rfl | rfl | rfl | rfl : k = 0 ∨ k = 1 ∨ k = 2 ∨ k = 3 ∨ k = 4 := by omega
  · (repeat' (first | exact trivial | exact fun h => h | refine And.intro ?_ ?_ | (intro hb; try simp at hb) | omega | exact rfl | exact Nat.le_refl _ | (show _ + 1 ≤ 4294967296; omega) | (show _ + 1 ≤ 5864062014634; omega) | (dsimp only; omega) | (show (_ : Int) ≤ (_ : Int); omega) | (show _ < List.length _; simp only [List.length_set, List.length_append, List.length_take]; omega) | (show wantB _ _ = true; simp <;> omega) | (show (_ : Bool) = _; simp_all; done) | (exfalso; omega) | refine aRegion_auto (by decide +kernel) ?_ | refine ⟨_, _, REnt.drop ⟨rfl, rfl⟩, ?_⟩ | fail))
    refine acall_conv [.dat SpT, .dat SpT, .dat SpT] _ _ _ rfl trivial (acall_frame0 rfl (on_any _ p q r hp hq hr _ ?_))
    (repeat' (first | exact trivial | exact fun h => h | refine And.intro ?_ ?_ | (intro hb; try simp at hb) | omega | exact rfl | exact Nat.le_refl _ | (show _ + 1 ≤ 4294967296; omega) | (show _ + 1 ≤ 5864062014634; omega) | (dsimp only; omega) | (show (_ : Int) ≤ (_ : Int); omega) | (show _ < List.length _; simp only [List.length_set, List.length_append, List.length_take]; omega) | (show wantB _ _ = true; simp <;> omega) | (show (_ : Bool) = _; simp_all; done) | (exfalso; omega) | refine aRegion_auto (by decide +kernel) ?_ | refine ⟨_, _, REnt.drop ⟨rfl, rfl⟩, ?_⟩ | fail))
    · rw [eqS r p, eqS r q] at hb
      refine kbl hK ?_
      unfold Shp.meet
      rw [tch_of hb]; simp
    · rw [eqS r p, eqS r q] at hb
      have hn := tch_no hb
      refine ⟨1, ⟨by show 1 ≤ 4; omega, (fun _ => hn), (fun h => absurd h (show ¬ 1 < 1 by omega)), (fun h => absurd h (show ¬ 2 < 1 by omega)), (fun h => absurd h (show ¬ 3 < 1 by omega))⟩, by show 4 - 1 < 4 - 0; omega, Ent.ren [0, 1, 2, 3] rfl ?_ ?_⟩
      · (repeat' (first | exact trivial | exact rfl | refine And.intro ?_ ?_))
      · (repeat' (first | exact trivial | exact rfl | refine And.intro ?_ ?_))
  · (repeat' (first | exact trivial | exact fun h => h | refine And.intro ?_ ?_ | (intro hb; try simp at hb) | omega | exact rfl | exact Nat.le_refl _ | (show _ + 1 ≤ 4294967296; omega) | (show _ + 1 ≤ 5864062014634; omega) | (dsimp only; omega) | (show (_ : Int) ≤ (_ : Int); omega) | (show _ < List.length _; simp only [List.length_set, List.length_append, List.length_take]; omega) | (show wantB _ _ = true; simp <;> omega) | (show (_ : Bool) = _; simp_all; done) | (exfalso; omega) | refine aRegion_auto (by decide +kernel) ?_ | refine ⟨_, _, REnt.drop ⟨rfl, rfl⟩, ?_⟩ | fail))
    refine acall_conv [.dat SpT, .dat SpT, .dat SpT] _ _ _ rfl trivial (acall_frame0 rfl (on_any _ p q s hp hq hs _ ?_))
    (repeat' (first | exact trivial | exact fun h => h | refine And.intro ?_ ?_ | (intro hb; try simp at hb) | omega | exact rfl | exact Nat.le_refl _ | (show _ + 1 ≤ 4294967296; omega) | (show _ + 1 ≤ 5864062014634; omega) | (dsimp only; omega) | (show (_ : Int) ≤ (_ : Int); omega) | (show _ < List.length _; simp only [List.length_set, List.length_append, List.length_take]; omega) | (show wantB _ _ = true; simp <;> omega) | (show (_ : Bool) = _; simp_all; done) | (exfalso; omega) | refine aRegion_auto (by decide +kernel) ?_ | refine ⟨_, _, REnt.drop ⟨rfl, rfl⟩, ?_⟩ | fail))
    · rw [eqS s p, eqS s q] at hb
      refine kbl hK ?_
      unfold Shp.meet
      rw [tch_of hb]; simp
    · rw [eqS s p, eqS s q] at hb
      have hn := tch_no hb
      refine ⟨2, ⟨by show 2 ≤ 4; omega, (fun _ => h1 (by omega)), (fun _ => hn), (fun h => absurd h (show ¬ 2 < 2 by omega)), (fun h => absurd h (show ¬ 3 < 2 by omega))⟩, by show 4 - 2 < 4 - 1; omega, Ent.ren [0, 1, 2, 3] rfl ?_ ?_⟩
      · (repeat' (first | exact trivial | exact rfl | refine And.intro ?_ ?_))
      · (repeat' (first | exact trivial | exact rfl | refine And.intro ?_ ?_))
  · (repeat' (first | exact trivial | exact fun h => h | refine And.intro ?_ ?_ | (intro hb; try simp at hb) | omega | exact rfl | exact Nat.le_refl _ | (show _ + 1 ≤ 4294967296; omega) | (show _ + 1 ≤ 5864062014634; omega) | (dsimp only; omega) | (show (_ : Int) ≤ (_ : Int); omega) | (show _ < List.length _; simp only [List.length_set, List.length_append, List.length_take]; omega) | (show wantB _ _ = true; simp <;> omega) | (show (_ : Bool) = _; simp_all; done) | (exfalso; omega) | refine aRegion_auto (by decide +kernel) ?_ | refine ⟨_, _, REnt.drop ⟨rfl, rfl⟩, ?_⟩ | fail))
    refine acall_conv [.dat SpT, .dat SpT, .dat SpT] _ _ _ rfl trivial (acall_frame0 rfl (on_any _ r s p hr hs hp _ ?_))
    (repeat' (first | exact trivial | exact fun h => h | refine And.intro ?_ ?_ | (intro hb; try simp at hb) | omega | exact rfl | exact Nat.le_refl _ | (show _ + 1 ≤ 4294967296; omega) | (show _ + 1 ≤ 5864062014634; omega) | (dsimp only; omega) | (show (_ : Int) ≤ (_ : Int); omega) | (show _ < List.length _; simp only [List.length_set, List.length_append, List.length_take]; omega) | (show wantB _ _ = true; simp <;> omega) | (show (_ : Bool) = _; simp_all; done) | (exfalso; omega) | refine aRegion_auto (by decide +kernel) ?_ | refine ⟨_, _, REnt.drop ⟨rfl, rfl⟩, ?_⟩ | fail))
    · rw [eqS p r, eqS p s] at hb
      refine kbl hK ?_
      unfold Shp.meet
      rw [tch_of hb]; simp
    · rw [eqS p r, eqS p s] at hb
      have hn := tch_no hb
      refine ⟨3, ⟨by show 3 ≤ 4; omega, (fun _ => h1 (by omega)), (fun _ => h2 (by omega)), (fun _ => hn), (fun h => absurd h (show ¬ 3 < 3 by omega))⟩, by show 4 - 3 < 4 - 2; omega, Ent.ren [0, 1, 2, 3] rfl ?_ ?_⟩
      · (repeat' (first | exact trivial | exact rfl | refine And.intro ?_ ?_))
      · (repeat' (first | exact trivial | exact rfl | refine And.intro ?_ ?_))
  · (repeat' (first | exact trivial | exact fun h => h | refine And.intro ?_ ?_ | (intro hb; try simp at hb) | omega | exact rfl | exact Nat.le_refl _ | (show _ + 1 ≤ 4294967296; omega) | (show _ + 1 ≤ 5864062014634; omega) | (dsimp only; omega) | (show (_ : Int) ≤ (_ : Int); omega) | (show _ < List.length _; simp only [List.length_set, List.length_append, List.length_take]; omega) | (show wantB _ _ = true; simp <;> omega) | (show (_ : Bool) = _; simp_all; done) | (exfalso; omega) | refine aRegion_auto (by decide +kernel) ?_ | refine ⟨_, _, REnt.drop ⟨rfl, rfl⟩, ?_⟩ | fail))
    refine acall_conv [.dat SpT, .dat SpT, .dat SpT] _ _ _ rfl trivial (acall_frame0 rfl (on_any _ r s q hr hs hq _ ?_))
    (repeat' (first | exact trivial | exact fun h => h | refine And.intro ?_ ?_ | (intro hb; try simp at hb) | omega | exact rfl | exact Nat.le_refl _ | (show _ + 1 ≤ 4294967296; omega) | (show _ + 1 ≤ 5864062014634; omega) | (dsimp only; omega) | (show (_ : Int) ≤ (_ : Int); omega) | (show _ < List.length _; simp only [List.length_set, List.length_append, List.length_take]; omega) | (show wantB _ _ = true; simp <;> omega) | (show (_ : Bool) = _; simp_all; done) | (exfalso; omega) | refine aRegion_auto (by decide +kernel) ?_ | refine ⟨_, _, REnt.drop ⟨rfl, rfl⟩, ?_⟩ | fail))
    · rw [eqS q r, eqS q s] at hb
      refine kbl hK ?_
      unfold Shp.meet
      rw [tch_of hb]; simp
    · rw [eqS q r, eqS q s] at hb
      have hn := tch_no hb
      refine ⟨4, ⟨by show 4 ≤ 4; omega, (fun _ => h1 (by omega)), (fun _ => h2 (by omega)), (fun _ => h3 (by omega)), (fun _ => hn)⟩, by show 4 - 4 < 4 - 3; omega, Ent.ren [0, 1, 2, 3] rfl ?_ ?_⟩
      · (repeat' (first | exact trivial | exact rfl | refine And.intro ?_ ?_))
      · (repeat' (first | exact trivial | exact rfl | refine And.intro ?_ ?_))
  · have n1 := h1 (by omega)
    have n2 := h2 (by omega)
    have n3 := h3 (by omega)
    have n4 := h4 (by omega)
    have z1 := sg_bd (Shp.side p q r)
    have z2 := sg_bd (Shp.side p q s)
    have z3 := sg_bd (Shp.side r s p)
    have z4 := sg_bd (Shp.side r s q)
    have m1 := sg_mul z1 z2
    have m2 := sg_mul z3 z4
    (repeat' (first | exact trivial | exact fun h => h | refine And.intro ?_ ?_ | (intro hb; try simp at hb) | omega | exact rfl | exact Nat.le_refl _ | (show _ + 1 ≤ 4294967296; omega) | (show _ + 1 ≤ 5864062014634; omega) | (dsimp only; omega) | (show (_ : Int) ≤ (_ : Int); omega) | (show _ < List.length _; simp only [List.length_set, List.length_append, List.length_take]; omega) | (show wantB _ _ = true; simp <;> omega) | (show (_ : Bool) = _; simp_all; done) | (exfalso; omega) | refine aRegion_auto (by decide +kernel) ?_ | refine ⟨_, _, REnt.drop ⟨rfl, rfl⟩, ?_⟩ | fail))
    · rw [eqS p r, eqS q s, eqS p s, eqS q r] at hb
      refine kbl hK ?_
      have : Shp.sam p q r s = true := by unfold Shp.sam; simp only [Bool.or_eq_true, Bool.and_eq_true]; exact hb
      unfold Shp.meet
      rw [this]; simp
    rw [eqS p r, eqS q s, eqS p s, eqS q r] at hb
    have hsam : Shp.sam p q r s = false := by
      rw [← Bool.not_eq_true]
      intro h
      unfold Shp.sam at h
      simp only [Bool.or_eq_true, Bool.and_eq_true] at h
      rcases h with ⟨a, b⟩ | ⟨a, b⟩
      · have := hb.1 a; rw [b] at this; cases this
      · have := hb.2 a; rw [b] at this; cases this
    have eM : Shp.meet p q r s = Shp.crs p q r s := by unfold Shp.meet; rw [n1, n2, n3, n4, hsam]; simp
    rw [eM] at hK
    clear hb
    by_cases hX : Shp.sgZ (Shp.side p q r) * Shp.sgZ (Shp.side p q s) < 0
    · apply exEff
      · refine acall_conv [.dat SpT, .dat SpT, .dat SpT] _ _ _ rfl trivial (acall_frame0 rfl (side_any _ p q r hp hq hr _ ?_))
        exact ⟨rfl, rfl⟩
      (repeat' (first | exact trivial | refine And.intro ?_ ?_ | (intro hb; try simp at hb) | omega | exact rfl | refine aRegion_auto (by decide +kernel) ?_ | refine ⟨_, _, REnt.drop ⟨rfl, rfl⟩, ?_⟩ | fail))
      apply exEff
      · refine acall_frame0 rfl (sign_any _ (Shp.side p q r) _ ?_)
        exact ⟨rfl, rfl⟩
      (repeat' (first | exact trivial | refine And.intro ?_ ?_ | (intro hb; try simp at hb) | omega | exact rfl | refine aRegion_auto (by decide +kernel) ?_ | refine ⟨_, _, REnt.drop ⟨rfl, rfl⟩, ?_⟩ | fail))
      apply exEff
      · refine acall_conv [.dat SpT, .dat SpT, .dat SpT] _ _ _ rfl trivial (acall_frame0 rfl (side_any _ p q s hp hq hs _ ?_))
        exact ⟨rfl, rfl⟩
      (repeat' (first | exact trivial | refine And.intro ?_ ?_ | (intro hb; try simp at hb) | omega | exact rfl | refine aRegion_auto (by decide +kernel) ?_ | refine ⟨_, _, REnt.drop ⟨rfl, rfl⟩, ?_⟩ | fail))
      apply exEff
      · refine acall_frame0 rfl (sign_any _ (Shp.side p q s) _ ?_)
        exact ⟨rfl, rfl⟩
      (repeat' (first | exact trivial | refine And.intro ?_ ?_ | (intro hb; try simp at hb) | omega | exact rfl | refine aRegion_auto (by decide +kernel) ?_ | refine ⟨_, _, REnt.drop ⟨rfl, rfl⟩, ?_⟩ | fail))
      apply exEff
      · refine ⟨fun _ => ?_, fun h => absurd h (by simp [hX])⟩
        (repeat' (first | refine And.intro ?_ ?_ | (show wantB _ _ = true; simp [hX]; done)))
        refine acall_conv [.dat SpT, .dat SpT, .dat SpT] _ _ _ rfl trivial (acall_frame0 rfl (side_any _ r s p hr hs hp _ ?_))
        exact ⟨rfl, rfl⟩
      (repeat' (first | exact trivial | refine And.intro ?_ ?_ | (intro hb; try simp at hb) | omega | exact rfl | refine aRegion_auto (by decide +kernel) ?_ | refine ⟨_, _, REnt.drop ⟨rfl, rfl⟩, ?_⟩ | fail))
      apply exEff
      · refine ⟨fun _ => ?_, fun h => absurd h (by simp [hX])⟩
        (repeat' (first | refine And.intro ?_ ?_ | (show wantB _ _ = true; simp [hX]; done)))
        refine acall_frame0 rfl (sign_any _ (Shp.side r s p) _ ?_)
        exact ⟨rfl, rfl⟩
      (repeat' (first | exact trivial | refine And.intro ?_ ?_ | (intro hb; try simp at hb) | omega | exact rfl | refine aRegion_auto (by decide +kernel) ?_ | refine ⟨_, _, REnt.drop ⟨rfl, rfl⟩, ?_⟩ | fail))
      apply exEff
      · refine ⟨fun _ => ?_, fun h => absurd h (by simp [hX])⟩
        (repeat' (first | refine And.intro ?_ ?_ | (show wantB _ _ = true; simp [hX]; done)))
        refine acall_conv [.dat SpT, .dat SpT, .dat SpT] _ _ _ rfl trivial (acall_frame0 rfl (side_any _ r s q hr hs hq _ ?_))
        exact ⟨rfl, rfl⟩
      (repeat' (first | exact trivial | refine And.intro ?_ ?_ | (intro hb; try simp at hb) | omega | exact rfl | refine aRegion_auto (by decide +kernel) ?_ | refine ⟨_, _, REnt.drop ⟨rfl, rfl⟩, ?_⟩ | fail))
      apply exEff
      · refine ⟨fun _ => ?_, fun h => absurd h (by simp [hX])⟩
        (repeat' (first | refine And.intro ?_ ?_ | (show wantB _ _ = true; simp [hX]; done)))
        refine acall_frame0 rfl (sign_any _ (Shp.side r s q) _ ?_)
        exact ⟨rfl, rfl⟩
      (repeat' (first | exact trivial | exact fun h => h | refine And.intro ?_ ?_ | (intro hb; try simp at hb) | omega | exact rfl | exact Nat.le_refl _ | (show _ + 1 ≤ 4294967296; omega) | (show _ + 1 ≤ 5864062014634; omega) | (dsimp only; omega) | (show (_ : Int) ≤ (_ : Int); omega) | (show _ < List.length _; simp only [List.length_set, List.length_append, List.length_take]; omega) | (show wantB _ _ = true; simp <;> omega) | (show (_ : Bool) = _; simp_all; done) | (exfalso; omega) | refine aRegion_auto (by decide +kernel) ?_ | refine ⟨_, _, REnt.drop ⟨rfl, rfl⟩, ?_⟩ | fail))
      refine kbl hK ?_
      unfold Shp.crs
      simp [hX]
    · apply exEff
      · refine acall_conv [.dat SpT, .dat SpT, .dat SpT] _ _ _ rfl trivial (acall_frame0 rfl (side_any _ p q r hp hq hr _ ?_))
        exact ⟨rfl, rfl⟩
      (repeat' (first | exact trivial | refine And.intro ?_ ?_ | (intro hb; try simp at hb) | omega | exact rfl | refine aRegion_auto (by decide +kernel) ?_ | refine ⟨_, _, REnt.drop ⟨rfl, rfl⟩, ?_⟩ | fail))
      apply exEff
      · refine acall_frame0 rfl (sign_any _ (Shp.side p q r) _ ?_)
        exact ⟨rfl, rfl⟩
      (repeat' (first | exact trivial | refine And.intro ?_ ?_ | (intro hb; try simp at hb) | omega | exact rfl | refine aRegion_auto (by decide +kernel) ?_ | refine ⟨_, _, REnt.drop ⟨rfl, rfl⟩, ?_⟩ | fail))
      apply exEff
      · refine acall_conv [.dat SpT, .dat SpT, .dat SpT] _ _ _ rfl trivial (acall_frame0 rfl (side_any _ p q s hp hq hs _ ?_))
        exact ⟨rfl, rfl⟩
      (repeat' (first | exact trivial | refine And.intro ?_ ?_ | (intro hb; try simp at hb) | omega | exact rfl | refine aRegion_auto (by decide +kernel) ?_ | refine ⟨_, _, REnt.drop ⟨rfl, rfl⟩, ?_⟩ | fail))
      apply exEff
      · refine acall_frame0 rfl (sign_any _ (Shp.side p q s) _ ?_)
        exact ⟨rfl, rfl⟩
      (repeat' (first | exact trivial | refine And.intro ?_ ?_ | (intro hb; try simp at hb) | omega | exact rfl | refine aRegion_auto (by decide +kernel) ?_ | refine ⟨_, _, REnt.drop ⟨rfl, rfl⟩, ?_⟩ | fail))
      apply exEff
      · refine ⟨fun h => absurd h (by simp [hX]), fun _ => ⟨rfl, rfl⟩⟩
      (repeat' (first | exact trivial | refine And.intro ?_ ?_ | (intro hb; try simp at hb) | omega | exact rfl | refine aRegion_auto (by decide +kernel) ?_ | refine ⟨_, _, REnt.drop ⟨rfl, rfl⟩, ?_⟩ | fail))
      apply exEff
      · refine ⟨fun h => absurd h (by simp [hX]), fun _ => ⟨rfl, rfl⟩⟩
      (repeat' (first | exact trivial | refine And.intro ?_ ?_ | (intro hb; try simp at hb) | omega | exact rfl | refine aRegion_auto (by decide +kernel) ?_ | refine ⟨_, _, REnt.drop ⟨rfl, rfl⟩, ?_⟩ | fail))
      apply exEff
      · refine ⟨fun h => absurd h (by simp [hX]), fun _ => ⟨rfl, rfl⟩⟩
      (repeat' (first | exact trivial | refine And.intro ?_ ?_ | (intro hb; try simp at hb) | omega | exact rfl | refine aRegion_auto (by decide +kernel) ?_ | refine ⟨_, _, REnt.drop ⟨rfl, rfl⟩, ?_⟩ | fail))
      apply exEff
      · refine ⟨fun h => absurd h (by simp [hX]), fun _ => ⟨rfl, rfl⟩⟩
      (repeat' (first | exact trivial | exact fun h => h | refine And.intro ?_ ?_ | (intro hb; try simp at hb) | omega | exact rfl | exact Nat.le_refl _ | (show _ + 1 ≤ 4294967296; omega) | (show _ + 1 ≤ 5864062014634; omega) | (dsimp only; omega) | (show (_ : Int) ≤ (_ : Int); omega) | (show _ < List.length _; simp only [List.length_set, List.length_append, List.length_take]; omega) | (show wantB _ _ = true; simp <;> omega) | (show (_ : Bool) = _; simp_all; done) | (exfalso; omega) | refine aRegion_auto (by decide +kernel) ?_ | refine ⟨_, _, REnt.drop ⟨rfl, rfl⟩, ?_⟩ | fail))
      refine kbl hK ?_
      unfold Shp.crs
      simp [hX]
end Go.Proofs.YtcfalmdfohphoaaDoor
/-
  Plain facts on directions: the half planes, the order against the clock, the one that is met soonest with the clock (no program in sight).
-/
namespace Shp
def dot (p q : Sp) : Int := p.1 * q.1 + p.2 * q.2
def hf (d : Sp) : Int := if 0 < d.2 ∨ (d.2 = 0 ∧ 0 < d.1) then 0 else 1
/-- how two directions lie: below 0: the first one comes first, against the clock from the east on -/
def trn (d e : Sp) : Int := if hf d - hf e = 0 then sgZ (cross e d) else hf d - hf e
def clk (f t : Sp) : Int := if cross f t < 0 then 1 else if 0 < cross f t then 3 else if 0 < dot f t then 0 else 2
def soon (f a b : Sp) : Bool := if clk f a = clk f b then decide (cross a b < 0) else decide (clk f a < clk f b)
/-- the upper half plane, with the east -/
def UP (u : Sp) : Prop := 0 < u.2 ∨ (u.2 = 0 ∧ 0 < u.1)
def ng (u : Sp) : Sp := (-u.1, -u.2)
theorem cross_ng_l (u v : Sp) : cross (ng u) v = - cross u v := by simp only [cross, ng, Int.neg_mul, Int.mul_neg]; omega
theorem cross_ng_r (u v : Sp) : cross u (ng v) = - cross u v := by simp only [cross, ng, Int.neg_mul, Int.mul_neg]; omega
theorem dot_ng_l (u v : Sp) : dot (ng u) v = - dot u v := by simp only [dot, ng, Int.neg_mul]; omega
theorem dot_ng_r (u v : Sp) : dot u (ng v) = - dot u v := by simp only [dot, ng, Int.mul_neg]; omega
theorem up_or {d : Sp} (h : d ≠ (0, 0)) : ∃ u, UP u ∧ ((d = u ∧ hf d = 0) ∨ (d = ng u ∧ hf d = 1)) := by
  by_cases c : UP d
  · exact ⟨d, c, .inl ⟨rfl, if_pos c⟩⟩
  · refine ⟨ng d, ?_, .inr ⟨?_, if_neg c⟩⟩
    · obtain ⟨x, y⟩ := d
      unfold UP at *
      simp only [ng, ne_eq, Prod.mk.injEq] at *
      omega
    · obtain ⟨x, y⟩ := d
      simp [ng]
/-- of three directions of the upper half plane -/
theorem up_id (a b c : Sp) : b.2 * cross a c = a.2 * cross b c + c.2 * cross a b := by
  unfold cross
  simp only [Int.mul_sub, ← Int.mul_assoc]
  have e1 : b.2 * a.1 * c.2 = c.2 * a.1 * b.2 := by rw [Int.mul_comm b.2 a.1, Int.mul_comm c.2 a.1, Int.mul_assoc, Int.mul_assoc, Int.mul_comm b.2 c.2]
  have e2 : a.2 * b.1 * c.2 = c.2 * b.1 * a.2 := by rw [Int.mul_comm a.2 b.1, Int.mul_comm c.2 b.1, Int.mul_assoc, Int.mul_assoc, Int.mul_comm a.2 c.2]
  have e3 : b.2 * c.1 * a.2 = a.2 * c.1 * b.2 := by rw [Int.mul_comm a.2 c.1, Int.mul_comm b.2 c.1, Int.mul_assoc, Int.mul_assoc, Int.mul_comm a.2 b.2]
  omega
theorem up_trans {a b c : Sp} (ha : UP a) (hb : UP b) (hc : UP c) (h1 : 0 ≤ cross a b) (h2 : 0 ≤ cross b c) : 0 ≤ cross a c ∧ (0 < cross a b ∨ 0 < cross b c → 0 < cross a c) := by
  have e := up_id a b c
  have ha2 : 0 ≤ a.2 := by unfold UP at ha; omega
  have hc2 : 0 ≤ c.2 := by unfold UP at hc; omega
  have t1 := Int.mul_nonneg ha2 h2
  have t2 := Int.mul_nonneg hc2 h1
  rcases hb with hb | ⟨hb, hb1⟩
  · have g : 0 ≤ cross a c := by
      rcases Int.lt_or_le (cross a c) 0 with g | g
      · have := Int.mul_neg_of_pos_of_neg hb g
        omega
      · exact g
    refine ⟨g, fun h => ?_⟩
    rcases Int.lt_or_eq_of_le g with g' | g'
    · exact g'
    · exfalso
      rw [← g'] at e
      have e0 : b.2 * 0 = 0 := Int.mul_zero _
      have z1 : a.2 * cross b c = 0 := by omega
      have z2 : c.2 * cross a b = 0 := by omega
      rcases Int.mul_eq_zero.mp z1 with z1 | z1
      · -- a is the east
        have a1 : 0 < a.1 := by unfold UP at ha; omega
        have hab : 0 < cross a b := by
          unfold cross
          rw [z1, Int.mul_zero]
          have := Int.mul_pos a1 hb
          omega
        rcases Int.mul_eq_zero.mp z2 with z2 | z2
        · have c1 : 0 < c.1 := by unfold UP at hc; omega
          have hbc : cross b c < 0 := by
            unfold cross
            rw [z2, Int.mul_zero]
            have := Int.mul_pos c1 hb
            omega
          omega
        · omega
      · have hab : 0 < cross a b := by omega
        rcases Int.mul_eq_zero.mp z2 with z2 | z2
        · have c1 : 0 < c.1 := by unfold UP at hc; omega
          have hbc : cross b c < 0 := by
            unfold cross
            rw [z2, Int.mul_zero]
            have := Int.mul_pos c1 hb
            omega
          omega
        · omega
  · -- b is the east: a is too
    have q : cross a b = - (b.1 * a.2) := by unfold cross; rw [hb, Int.mul_zero]; omega
    have a2 : a.2 = 0 := by
      rcases Int.lt_or_eq_of_le ha2 with g | g
      · have := Int.mul_pos hb1 g
        omega
      · exact g.symm
    have a1 : 0 < a.1 := by unfold UP at ha; omega
    rw [a2] at q
    have q' : cross a c = a.1 * c.2 := by unfold cross; rw [a2, Int.mul_zero]; omega
    have q2 : cross b c = b.1 * c.2 := by unfold cross; rw [hb, Int.mul_zero]; omega
    have q3 := Int.mul_nonneg (Int.le_of_lt a1) hc2
    refine ⟨by omega, fun h => ?_⟩
    have : 0 < c.2 := by
      rcases Int.lt_or_eq_of_le hc2 with g | g
      · exact g
      · rw [← g, Int.mul_zero] at q2
        have : b.1 * 0 = 0 := Int.mul_zero _
        omega
    have := Int.mul_pos a1 this
    omega
theorem up_dot {a b : Sp} (ha : UP a) (hb : UP b) (h : cross a b = 0) : 0 < dot a b := by
  unfold cross at h
  unfold dot
  rcases ha with ha | ⟨ha, ha1⟩
  · rcases hb with hb | ⟨hb, hb1⟩
    · have := Int.mul_pos ha hb
      have s : 0 ≤ a.1 * b.1 := by
        rcases Int.lt_trichotomy a.1 0 with g | g | g
        · rcases Int.lt_trichotomy b.1 0 with k | k | k
          · exact Int.le_of_lt (Int.mul_pos_of_neg_of_neg g k)
          · rw [k]; simp
          · have := Int.mul_neg_of_neg_of_pos g hb
            have := Int.mul_pos k ha
            omega
        · rw [g]; simp
        · rcases Int.lt_trichotomy b.1 0 with k | k | k
          · have := Int.mul_pos g hb
            have := Int.mul_neg_of_neg_of_pos k ha
            omega
          · rw [k]; simp
          · exact Int.le_of_lt (Int.mul_pos g k)
      omega
    · have := Int.mul_pos hb1 ha
      rw [hb] at h
      simp at h
      omega
  · rcases hb with hb | ⟨hb, hb1⟩
    · have := Int.mul_pos ha1 hb
      rw [ha] at h
      simp at h
      omega
    · have := Int.mul_pos ha1 hb1
      rw [ha, hb]
      simp
      omega
end Shp
/-
  Plain facts on directions, on: three in order against the clock; the order is total (no program in sight).
-/
namespace Shp
theorem sg_lt (x : Int) : sgZ x < 0 ↔ x < 0 := by unfold sgZ; split <;> (try split) <;> omega
theorem sg_neg (x : Int) : sgZ (-x) = - sgZ x := by unfold sgZ; split <;> (try split) <;> (try split) <;> (try split) <;> omega
theorem trn_swap (d e : Sp) : trn e d = - trn d e := by
  unfold trn
  rw [cross_swap e d, sg_neg]
  split <;> split <;> omega
/-- of directions of known halves: how they lie -/
theorem trn_lt (d e : Sp) : trn d e < 0 ↔ hf d < hf e ∨ (hf d = hf e ∧ cross e d < 0) := by
  unfold trn
  split
  · rw [sg_lt]; omega
  · omega
theorem trn_le_trans {a b c : Sp} (ha : a ≠ (0, 0)) (hb : b ≠ (0, 0)) (hc : c ≠ (0, 0)) (h1 : trn a b ≤ 0) (h2 : trn b c ≤ 0) : trn a c ≤ 0 := by
  have n1 : ¬ trn b a < 0 := by rw [trn_swap a b]; omega
  have n2 : ¬ trn c b < 0 := by rw [trn_swap b c]; omega
  have g : ¬ trn c a < 0 := by
    rw [trn_lt] at n1 n2
    rw [trn_lt]
    obtain ⟨u, hu, hu'⟩ := up_or ha
    obtain ⟨v, hv, hv'⟩ := up_or hb
    obtain ⟨w, hw, hw'⟩ := up_or hc
    have t := up_trans hu hv hw
    have s1 := cross_swap u v
    have s2 := cross_swap v w
    have s3 := cross_swap u w
    rcases hu' with ⟨e1, f1⟩ | ⟨e1, f1⟩ <;> rcases hv' with ⟨e2, f2⟩ | ⟨e2, f2⟩ <;> rcases hw' with ⟨e3, f3⟩ | ⟨e3, f3⟩ <;>
      (subst e1; subst e2; subst e3; (try simp only [cross_ng_l, cross_ng_r, Int.neg_neg] at n1); (try simp only [cross_ng_l, cross_ng_r, Int.neg_neg] at n2); (try simp only [cross_ng_l, cross_ng_r, Int.neg_neg]); omega)
  have := trn_swap a c
  omega
/-- three in order, gone around against the clock -/
def CY (b a w : Sp) : Prop := (trn b a < 0 ∧ trn a w < 0) ∨ (trn a w < 0 ∧ trn w b < 0) ∨ (trn w b < 0 ∧ trn b a < 0)
theorem clk_eq (f t : Sp) : (cross f t < 0 ∧ clk f t = 1) ∨ (0 < cross f t ∧ clk f t = 3) ∨ (cross f t = 0 ∧ 0 < dot f t ∧ clk f t = 0) ∨ (cross f t = 0 ∧ ¬ 0 < dot f t ∧ clk f t = 2) := by
  unfold clk
  split
  · omega
  · split
    · omega
    · split <;> omega
theorem soon_true (f a b : Sp) : soon f a b = true ↔ (clk f a = clk f b ∧ cross a b < 0) ∨ clk f a < clk f b := by
  unfold soon
  split <;> simp <;> omega
theorem soon_cyc {w a b : Sp} (hw : w ≠ (0, 0)) (ha : a ≠ (0, 0)) (hb : b ≠ (0, 0)) (h : CY b a w) : soon w a b = true ∧ soon w b a = false := by
  rw [soon_true, Bool.eq_false_iff, ne_eq, soon_true]
  have c1 := clk_eq w a
  have c2 := clk_eq w b
  generalize clk w a = x at *
  generalize clk w b = y at *
  unfold CY at h
  rw [trn_lt, trn_lt, trn_lt] at h
  obtain ⟨u, hu, hu'⟩ := up_or ha
  obtain ⟨v, hv, hv'⟩ := up_or hb
  obtain ⟨z, hz, hz'⟩ := up_or hw
  have s1 := cross_swap u v
  have s2 := cross_swap v z
  have s3 := cross_swap u z
  have t1 := up_trans hu hv hz
  have t2 := up_trans hu hz hv
  have t3 := up_trans hv hu hz
  have t4 := up_trans hv hz hu
  have t5 := up_trans hz hu hv
  have t6 := up_trans hz hv hu
  have d1 := up_dot hz hu
  have d2 := up_dot hz hv
  rcases hu' with ⟨e1, f1⟩ | ⟨e1, f1⟩ <;> rcases hv' with ⟨e2, f2⟩ | ⟨e2, f2⟩ <;> rcases hz' with ⟨e3, f3⟩ | ⟨e3, f3⟩ <;>
    (rw [f1, f2, f3] at h; subst e1; subst e2; subst e3; simp only [cross_ng_l, cross_ng_r, dot_ng_l, dot_ng_r, Int.neg_neg] at *; omega)
end Shp
/-
  Plain facts on a map of arcs: ways, the next way with the clock is the one ahead of it in the order against the clock (no program in sight).
-/
namespace Shp
abbrev Arcs := List (List Sp)
def arcOf (m : Arcs) (w : Int) : List Sp := m.getD (w.natAbs - 1) []
def frm (m : Arcs) (w : Int) : Sp := if 0 < w then at_ (arcOf m w) 0 else at_ (arcOf m w) ((arcOf m w).length - 1)
def nxp (m : Arcs) (w : Int) : Sp := if 0 < w then at_ (arcOf m w) 1 else at_ (arcOf m w) ((arcOf m w).length - 2)
def sub (p q : Sp) : Sp := (p.1 - q.1, p.2 - q.2)
def dr (m : Arcs) (w : Int) : Sp := sub (nxp m w) (frm m w)
def isWay (m : Arcs) (w : Int) : Prop := w ≠ 0 ∧ w.natAbs ≤ m.length
/-- the ways in the order of the search -/
def wl : Nat → List Int
  | 0 => []
  | k + 1 => wl k ++ [-((k : Int) + 1), (k : Int) + 1]
theorem mem_wl : ∀ (k : Nat) (v : Int), v ∈ wl k ↔ v ≠ 0 ∧ v.natAbs ≤ k
  | 0, v => by simp [wl]
  | k + 1, v => by
    simp only [wl, List.mem_append, List.mem_cons, List.not_mem_nil, or_false, mem_wl k v]
    omega
def nst (m : Arcs) (w : Int) (st : Int × Sp) (v : Int) : Int × Sp :=
  if v = -w ∨ frm m v ≠ frm m (-w) then st else if st.1 = 0 ∨ soon (dr m (-w)) (dr m v) st.2 = true then (v, dr m v) else st
def nof (m : Arcs) (w : Int) : Int := if ((wl m.length).foldl (nst m w) (0, (0, 0))).1 = 0 then -w else ((wl m.length).foldl (nst m w) (0, (0, 0))).1
/-- what has been found while the right one has not come -/
def NI (m : Arcs) (w pv : Int) (st : Int × Sp) : Prop := st = (pv, dr m pv) ∨ st.1 = 0 ∨ (isWay m st.1 ∧ frm m st.1 = frm m (-w) ∧ st.1 ≠ -w ∧ st.1 ≠ pv ∧ st.2 = dr m st.1)
theorem nst_fold {m : Arcs} {w pv : Int} (hp0 : pv ≠ 0) (hpf : frm m pv = frm m (-w)) (hpw : pv ≠ -w)
    (hc : ∀ v, isWay m v → frm m v = frm m (-w) → v ≠ -w → v ≠ pv → soon (dr m (-w)) (dr m pv) (dr m v) = true ∧ soon (dr m (-w)) (dr m v) (dr m pv) = false) :
    ∀ (xs : List Int), (∀ v ∈ xs, isWay m v) → ∀ st, NI m w pv st → NI m w pv (xs.foldl (nst m w) st) ∧ (pv ∈ xs ∨ st = (pv, dr m pv) → xs.foldl (nst m w) st = (pv, dr m pv))
  | [], _, st, h => ⟨h, fun h => h.elim (fun h => by cases h) id⟩
  | v :: xs, hx, st, h => by
    have hv := hx v (List.mem_cons_self ..)
    have hxs : ∀ u ∈ xs, isWay m u := fun u hu => hx u (List.mem_cons_of_mem _ hu)
    rw [List.foldl_cons]
    have key : NI m w pv (nst m w st v) ∧ (v = pv ∨ st = (pv, dr m pv) → nst m w st v = (pv, dr m pv)) := by
      unfold nst
      by_cases c1 : v = -w ∨ frm m v ≠ frm m (-w)
      · rw [if_pos c1]
        refine ⟨h, fun h2 => h2.elim (fun e => ?_) id⟩
        subst e
        exact absurd c1 (by rintro (c | c); exact hpw c; exact c hpf)
      · rw [if_neg c1]
        have c2 : v ≠ -w := fun e => c1 (.inl e)
        have c3 : frm m v = frm m (-w) := Classical.byContradiction fun e => c1 (.inr e)
        by_cases e : v = pv
        · subst e
          have g : (if st.1 = 0 ∨ soon (dr m (-w)) (dr m v) st.2 = true then (v, dr m v) else st) = (v, dr m v) := by
            rcases h with h | h | ⟨a1, a2, a3, a4, a5⟩
            · rw [h]; split <;> rfl
            · rw [if_pos (.inl h)]
            · rw [if_pos (.inr (by rw [a5]; exact (hc _ a1 a2 a3 a4).1))]
          rw [g]
          exact ⟨.inl rfl, fun _ => rfl⟩
        · rcases h with h | h | h
          · have g : (if st.1 = 0 ∨ soon (dr m (-w)) (dr m v) st.2 = true then (v, dr m v) else st) = st := by
              rw [if_neg]
              rintro (c | c)
              · rw [h] at c; exact hp0 c
              · rw [h] at c
                rw [(hc v hv c3 c2 e).2] at c
                cases c
            rw [g]
            exact ⟨.inl h, fun _ => h⟩
          · rw [if_pos (.inl h)]
            refine ⟨.inr (.inr ⟨hv, c3, c2, e, rfl⟩), fun h2 => ?_⟩
            rcases h2 with h2 | h2
            · exact absurd h2 e
            · rw [h2] at h; exact absurd h hp0
          · refine ⟨?_, fun h2 => ?_⟩
            · split
              · exact .inr (.inr ⟨hv, c3, c2, e, rfl⟩)
              · exact .inr (.inr h)
            · rcases h2 with h2 | h2
              · exact absurd h2 e
              · rw [h2] at h; exact absurd rfl h.2.2.2.1
    obtain ⟨i1, i2⟩ := nst_fold hp0 hpf hpw hc xs hxs _ key.1
    refine ⟨i1, fun h2 => ?_⟩
    rcases h2 with h2 | h2
    · rcases List.mem_cons.1 h2 with h3 | h3
      · exact i2 (.inr (key.2 (.inl h3.symm)))
      · exact i2 (.inl h3)
    · exact i2 (.inr (key.2 (.inr h2)))
theorem nst_none {m : Arcs} {w : Int} : ∀ (xs : List Int), (∀ v ∈ xs, v = -w ∨ frm m v ≠ frm m (-w)) → ∀ st, xs.foldl (nst m w) st = st
  | [], _, _ => rfl
  | v :: xs, h, st => by
    rw [List.foldl_cons]
    have : nst m w st v = st := by unfold nst; rw [if_pos (h v (List.mem_cons_self ..))]
    rw [this]
    exact nst_none xs (fun u hu => h u (List.mem_cons_of_mem _ hu)) st
theorem nof_prev {m : Arcs} {p : Sp} {l : List Int} (hm : ∀ v, v ∈ l ↔ isWay m v ∧ frm m v = p) (hs : l.Pairwise (fun a b => trn (dr m a) (dr m b) < 0)) (hz : ∀ v ∈ l, dr m v ≠ (0, 0))
    {w : Int} {i : Nat} (hi : i < l.length) (e : l[i] = -w) : nof m w = l[(i + l.length - 1) % l.length]'(Nat.mod_lt _ (by omega)) := by
  have hP := List.pairwise_iff_getElem.1 hs
  have hwl : -w ∈ l := by rw [← e]; exact List.getElem_mem hi
  have hfw : frm m (-w) = p := ((hm _).1 hwl).2
  have hin : ∀ v ∈ l, v ∈ wl m.length := fun v hv => (mem_wl _ _).2 ((hm v).1 hv).1
  by_cases h1 : l.length = 1
  · have hall : ∀ v ∈ wl m.length, v = -w ∨ frm m v ≠ frm m (-w) := fun v hv => by
      by_cases c : frm m v = frm m (-w)
      · left
        have hv2 : v ∈ l := (hm v).2 ⟨(mem_wl _ _).1 hv, by rw [c, hfw]⟩
        obtain ⟨j, hj, rfl⟩ := List.getElem_of_mem hv2
        have : j = i := by omega
        subst this
        exact e
      · exact .inr c
    unfold nof
    rw [nst_none _ hall]
    rw [if_pos rfl, ← e]
    congr 1
    rw [h1]
    omega
  · obtain ⟨j, hj⟩ : ∃ j, j = (i + l.length - 1) % l.length := ⟨_, rfl⟩
    have hjl : j < l.length := by rw [hj]; exact Nat.mod_lt _ (by omega)
    have hji : (i = 0 ∧ j = l.length - 1) ∨ (0 < i ∧ j = i - 1) := by
      rcases Nat.eq_zero_or_pos i with c | c
      · left
        refine ⟨c, ?_⟩
        rw [hj, c, Nat.zero_add]
        exact Nat.mod_eq_of_lt (by omega)
      · right
        refine ⟨c, ?_⟩
        rw [hj, show i + l.length - 1 = (i - 1) + l.length by omega, Nat.add_mod_right]
        exact Nat.mod_eq_of_lt (by omega)
    have hinj : ∀ a b (ha : a < l.length) (hb : b < l.length), l[a] = l[b] → a = b := fun a b ha hb h => by
      rcases Nat.lt_trichotomy a b with c | c | c
      · have := hP a b ha hb c
        rw [h] at this
        have h3 := trn_swap (dr m l[b]) (dr m l[b])
        omega
      · exact c
      · have := hP b a hb ha c
        rw [h] at this
        have h3 := trn_swap (dr m l[b]) (dr m l[b])
        omega
    have hg : l[(i + l.length - 1) % l.length]'(Nat.mod_lt _ (by omega)) = l[j] := by congr 1; exact hj.symm
    rw [hg]
    have hpl : l[j] ∈ l := List.getElem_mem hjl
    have hpw : l[j] ≠ -w := fun h => by
      rw [← e] at h
      have := hinj _ _ hjl hi h
      omega
    have hp0 : l[j] ≠ 0 := ((hm _).1 hpl).1.1
    have hc : ∀ v, isWay m v → frm m v = frm m (-w) → v ≠ -w → v ≠ l[j] → soon (dr m (-w)) (dr m l[j]) (dr m v) = true ∧ soon (dr m (-w)) (dr m v) (dr m l[j]) = false := fun v h1 h2 h3 h4 => by
      have hv2 : v ∈ l := (hm v).2 ⟨h1, by rw [h2, hfw]⟩
      obtain ⟨k, hk, rfl⟩ := List.getElem_of_mem hv2
      refine soon_cyc (hz _ hwl) (hz _ hpl) (hz _ hv2) ?_
      rw [← e]
      have k1 : k ≠ i := fun h => h3 (by subst h; exact e)
      have k2 : k ≠ j := fun h => h4 (by subst h; rfl)
      unfold CY
      rcases hji with ⟨a, b⟩ | ⟨a, b⟩
      · exact .inr (.inr ⟨hP i k hi hk (by omega), hP k j hk hjl (by omega)⟩)
      · rcases Nat.lt_or_ge k i with c | c
        · exact .inl ⟨hP k j hk hjl (by omega), hP j i hjl hi (by omega)⟩
        · exact .inr (.inl ⟨hP j i hjl hi (by omega), hP i k hi hk (by omega)⟩)
    have := (nst_fold hp0 (by rw [hfw]; exact ((hm _).1 hpl).2) hpw hc (wl m.length) (fun v hv => (mem_wl _ _).1 hv) (0, (0, 0)) (.inr (.inl rfl))).2 (.inl (hin _ hpl))
    unfold nof
    rw [this]
    rw [if_neg hp0]
end Shp
/-
  Plain facts on two pieces: what they have in common, and whether they meet (no program in sight).
-/
namespace Shp
theorem mem_wif (c : Bool) (l : List Sp) (p x : Sp) : x ∈ wif c l p ↔ x ∈ l ∨ (c = true ∧ x = p) := by
  unfold wif wth
  cases c
  · simp
  · by_cases h : p ∈ l
    · simp only [h, if_true]
      exact ⟨.inl, fun h2 => h2.elim id fun h3 => h3.2 ▸ h⟩
    · simp [h]
theorem nodup_wif {c : Bool} {l : List Sp} {p : Sp} (h : l.Nodup) : (wif c l p).Nodup := by
  unfold wif wth
  split
  · split
    · exact h
    · rename_i h2
      exact List.nodup_append.2 ⟨h, by simp, fun a ha b hb => by simp at hb; subst hb; exact fun e => h2 (e ▸ ha)⟩
  · exact h
theorem mem_coml (p q r s x : Sp) : x ∈ coml p q r s ↔ (on p q r = true ∧ x = r) ∨ (on p q s = true ∧ x = s) ∨ (on r s p = true ∧ x = p) ∨ (on r s q = true ∧ x = q) := by
  unfold coml
  rw [mem_wif, mem_wif, mem_wif, mem_wif]
  simp [or_assoc]
theorem nodup_coml (p q r s : Sp) : (coml p q r s).Nodup := nodup_wif (nodup_wif (nodup_wif (nodup_wif List.nodup_nil)))
theorem com_spec (p q r s : Sp) : (com p q r s = (0, (0, 0)) ∧ coml p q r s = [] ∧ crs p q r s = false) ∨ (∃ x, com p q r s = (1, x) ∧ coml p q r s = [x]) ∨ (com p q r s = (2, (0, 0)) ∧ (1 < (coml p q r s).length ∨ (coml p q r s = [] ∧ crs p q r s = true))) := by
  unfold com
  match h : coml p q r s with
  | [] =>
    cases hc : crs p q r s
    · left; simp
    · right; right; simp
  | [x] => right; left; exact ⟨x, by simp [at_], rfl⟩
  | x :: y :: l => right; right; simp
theorem on_side {p q r : Sp} (h : on p q r = true) : side p q r = 0 := by unfold on at h; simp at h; exact h.1.1.1.1
theorem crs_on {p q r s : Sp} (h : crs p q r s = true) : on p q r = false ∧ on p q s = false ∧ on r s p = false ∧ on r s q = false := by
  unfold crs at h
  simp only [Bool.and_eq_true, decide_eq_true_eq] at h
  have z : sgZ 0 = 0 := rfl
  refine ⟨?_, ?_, ?_, ?_⟩ <;> refine Bool.eq_false_iff.2 fun c => ?_ <;> have c := on_side c <;> rw [c, z] at h <;> simp at h <;> omega
theorem tch_iff (p q r : Sp) : tch p q r = true ↔ on p q r = true ∧ r ≠ p ∧ r ≠ q := by unfold tch; simp [and_assoc]
theorem sam_iff (p q r s : Sp) : sam p q r s = true ↔ (p = r ∧ q = s) ∨ (p = s ∧ q = r) := by unfold sam; simp
theorem meet_iff (p q r s : Sp) : meet p q r s = true ↔ tch p q r = true ∨ tch p q s = true ∨ tch r s p = true ∨ tch r s q = true ∨ sam p q r s = true ∨ crs p q r s = true := by unfold meet; simp [or_assoc]
/-- an end of both -/
def both (p q r s x : Sp) : Prop := (x = p ∨ x = q) ∧ (x = r ∨ x = s)
theorem com_meet {p q r s : Sp} (hpq : p ≠ q) (h : meet p q r s = true) : (com p q r s).1 = 2 ∨ ((com p q r s).1 = 1 ∧ ¬ both p q r s (com p q r s).2) := by
  rw [meet_iff] at h
  rcases com_spec p q r s with ⟨_, h2, h3⟩ | ⟨x, h1, h2⟩ | ⟨h1, h2⟩
  · have hm := fun x => mem_coml p q r s x
    rw [h2] at hm
    have hn : ∀ x, x ∉ ([] : List Sp) := fun x => List.not_mem_nil
    rcases h with h | h | h | h | h | h
    · exact absurd ((hm r).2 (.inl ⟨((tch_iff _ _ _).1 h).1, rfl⟩)) (hn _)
    · exact absurd ((hm s).2 (.inr (.inl ⟨((tch_iff _ _ _).1 h).1, rfl⟩))) (hn _)
    · exact absurd ((hm p).2 (.inr (.inr (.inl ⟨((tch_iff _ _ _).1 h).1, rfl⟩)))) (hn _)
    · exact absurd ((hm q).2 (.inr (.inr (.inr ⟨((tch_iff _ _ _).1 h).1, rfl⟩)))) (hn _)
    · rcases (sam_iff _ _ _ _).1 h with ⟨a, b⟩ | ⟨a, b⟩
      · exact absurd ((hm r).2 (.inl ⟨a ▸ on_l p q, rfl⟩)) (hn _)
      · exact absurd ((hm s).2 (.inr (.inl ⟨a ▸ on_l p q, rfl⟩))) (hn _)
    · rw [h3] at h; cases h
  · right
    rw [h1]
    refine ⟨rfl, ?_⟩
    have hm := fun x => mem_coml p q r s x
    rw [h2] at hm
    have hx : ∀ y, (on p q r = true ∧ y = r) ∨ (on p q s = true ∧ y = s) ∨ (on r s p = true ∧ y = p) ∨ (on r s q = true ∧ y = q) → y = x := fun y hy => List.mem_singleton.1 ((hm y).2 hy)
    show ¬ both p q r s x
    rintro ⟨e1, e2⟩
    rcases h with h | h | h | h | h | h
    · obtain ⟨a, b, c⟩ := (tch_iff _ _ _).1 h
      have := hx r (.inl ⟨a, rfl⟩)
      rcases e1 with e | e
      · exact b (this.trans e)
      · exact c (this.trans e)
    · obtain ⟨a, b, c⟩ := (tch_iff _ _ _).1 h
      have := hx s (.inr (.inl ⟨a, rfl⟩))
      rcases e1 with e | e
      · exact b (this.trans e)
      · exact c (this.trans e)
    · obtain ⟨a, b, c⟩ := (tch_iff _ _ _).1 h
      have := hx p (.inr (.inr (.inl ⟨a, rfl⟩)))
      rcases e2 with e | e
      · exact b (this.trans e)
      · exact c (this.trans e)
    · obtain ⟨a, b, c⟩ := (tch_iff _ _ _).1 h
      have := hx q (.inr (.inr (.inr ⟨a, rfl⟩)))
      rcases e2 with e | e
      · exact b (this.trans e)
      · exact c (this.trans e)
    · rcases (sam_iff _ _ _ _).1 h with ⟨a, b⟩ | ⟨a, b⟩
      · subst a; subst b
        have h5 := hx p (.inr (.inr (.inl ⟨on_l _ _, rfl⟩)))
        have h6 := hx q (.inr (.inr (.inr ⟨on_r _ _, rfl⟩)))
        exact hpq (h5.trans h6.symm)
      · subst a; subst b
        have h5 := hx p (.inr (.inr (.inl ⟨on_r _ _, rfl⟩)))
        have h6 := hx q (.inr (.inr (.inr ⟨on_l _ _, rfl⟩)))
        exact hpq (h5.trans h6.symm)
    · obtain ⟨c1, c2, c3, c4⟩ := crs_on h
      have := (hm x).1 (List.mem_singleton.2 rfl)
      rw [c1, c2, c3, c4] at this
      simp at this
  · left; rw [h1]
theorem com_end {p q r s : Sp} (hpq : p ≠ q) (hrs : r ≠ s) (h : meet p q r s = false) : ((∀ x, ¬ both p q r s x) → (com p q r s).1 = 0) ∧ ∀ x, both p q r s x → com p q r s = (1, x) := by
  have hf : ∀ c, (c = tch p q r ∨ c = tch p q s ∨ c = tch r s p ∨ c = tch r s q ∨ c = sam p q r s ∨ c = crs p q r s) → c = false := fun c hc => Bool.eq_false_iff.2 fun ht => by
    rw [Bool.eq_false_iff] at h
    refine h ((meet_iff _ _ _ _).2 ?_)
    rcases hc with e | e | e | e | e | e <;> rw [e] at ht <;> simp [ht]
  have t1 : ¬ (on p q r = true ∧ r ≠ p ∧ r ≠ q) := fun c => by have := hf _ (.inl rfl); rw [(tch_iff _ _ _).2 c] at this; cases this
  have t2 : ¬ (on p q s = true ∧ s ≠ p ∧ s ≠ q) := fun c => by have := hf _ (.inr (.inl rfl)); rw [(tch_iff _ _ _).2 c] at this; cases this
  have t3 : ¬ (on r s p = true ∧ p ≠ r ∧ p ≠ s) := fun c => by have := hf _ (.inr (.inr (.inl rfl))); rw [(tch_iff _ _ _).2 c] at this; cases this
  have t4 : ¬ (on r s q = true ∧ q ≠ r ∧ q ≠ s) := fun c => by have := hf _ (.inr (.inr (.inr (.inl rfl)))); rw [(tch_iff _ _ _).2 c] at this; cases this
  have t5 : ¬ ((p = r ∧ q = s) ∨ (p = s ∧ q = r)) := fun c => by have := hf _ (.inr (.inr (.inr (.inr (.inl rfl))))); rw [(sam_iff _ _ _ _).2 c] at this; cases this
  have t6 := hf _ (.inr (.inr (.inr (.inr (.inr rfl)))))
  -- what is in common is an end of both
  have hb : ∀ x, x ∈ coml p q r s → both p q r s x := fun x hx => by
    rcases (mem_coml _ _ _ _ _).1 hx with ⟨a, rfl⟩ | ⟨a, rfl⟩ | ⟨a, rfl⟩ | ⟨a, rfl⟩
    · exact ⟨Classical.byContradiction fun c => t1 ⟨a, fun e => c (.inl e), fun e => c (.inr e)⟩, .inl rfl⟩
    · exact ⟨Classical.byContradiction fun c => t2 ⟨a, fun e => c (.inl e), fun e => c (.inr e)⟩, .inr rfl⟩
    · exact ⟨.inl rfl, Classical.byContradiction fun c => t3 ⟨a, fun e => c (.inl e), fun e => c (.inr e)⟩⟩
    · exact ⟨.inr rfl, Classical.byContradiction fun c => t4 ⟨a, fun e => c (.inl e), fun e => c (.inr e)⟩⟩
  have hu : ∀ x y, both p q r s x → both p q r s y → x = y := fun x y ⟨a, b⟩ ⟨c, d⟩ => by
    rcases a with a | a <;> rcases b with b | b <;> rcases c with c | c <;> rcases d with d | d <;> subst_vars <;> first | rfl | exact absurd rfl hpq | exact absurd rfl hrs | (exact absurd (.inl ⟨rfl, rfl⟩) t5) | (exact absurd (.inr ⟨rfl, rfl⟩) t5)
  have hm : ∀ x, both p q r s x → x ∈ coml p q r s := fun x ⟨a, b⟩ => by
    rw [mem_coml]
    rcases b with b | b
    · left
      refine ⟨?_, b⟩
      rcases a with a | a
      · rw [← b, a]; exact on_l _ _
      · rw [← b, a]; exact on_r _ _
    · right; left
      refine ⟨?_, b⟩
      rcases a with a | a
      · rw [← b, a]; exact on_l _ _
      · rw [← b, a]; exact on_r _ _
  have hnd := nodup_coml p q r s
  rcases com_spec p q r s with ⟨h1, h2, h3⟩ | ⟨x, h1, h2⟩ | ⟨h1, h2⟩
  · refine ⟨fun _ => by rw [h1], fun x hx => ?_⟩
    have := hm x hx
    rw [h2] at this
    cases this
  · refine ⟨fun hn => absurd (hb x (by rw [h2]; exact List.mem_singleton.2 rfl)) (hn x), fun y hy => ?_⟩
    have := hm y hy
    rw [h2] at this
    rw [h1, List.mem_singleton.1 this]
  · exfalso
    rcases h2 with h2 | ⟨_, h2⟩
    · match hl : coml p q r s, h2 with
      | a :: b :: l, _ =>
        rw [hl] at hnd hb
        have := hu a b (hb a (by simp)) (hb b (by simp))
        rw [this] at hnd
        simp at hnd
    · rw [t6] at h2; cases h2
theorem meet_comm (p q r s : Sp) : meet r s p q = meet p q r s := by
  have c : crs r s p q = crs p q r s := by unfold crs; rw [Bool.and_comm]
  have c2 : sam r s p q = sam p q r s := by
    rw [Bool.eq_iff_iff, sam_iff, sam_iff]
    constructor
    · rintro (⟨rfl, rfl⟩ | ⟨rfl, rfl⟩)
      · exact .inl ⟨rfl, rfl⟩
      · exact .inr ⟨rfl, rfl⟩
    · rintro (⟨rfl, rfl⟩ | ⟨rfl, rfl⟩)
      · exact .inl ⟨rfl, rfl⟩
      · exact .inr ⟨rfl, rfl⟩
  rw [Bool.eq_iff_iff, meet_iff, meet_iff, c, c2]
  constructor
  · rintro (h | h | h | h | h) <;> simp [h]
  · rintro (h | h | h | h | h) <;> simp [h]
end Shp
/-
  Plain facts on a map: which pieces of arcs may touch, told by the document and by the code (no program in sight).
-/
namespace Shp
def arc (m : Arcs) (i : Nat) : List Sp := m.getD i []
def pt (m : Arcs) (i k : Nat) : Sp := at_ (arc m i) k
/-- is it a place in the map? -/
def inM (m : Arcs) (i t : Nat) : Prop := i < m.length ∧ t < (arc m i).length
def isP (m : Arcs) (i k : Nat) : Prop := i < m.length ∧ k + 1 < (arc m i).length
def ndB (a : List Sp) (k : Nat) (x : Sp) : Bool := (decide (k = 0) && decide (x = at_ a 0)) || (decide (k + 2 = a.length) && decide (x = at_ a (a.length - 1)))
def enB (p q r s x : Sp) : Bool := (decide (x = p) || decide (x = q)) && (decide (x = r) || decide (x = s))
/-- may the later piece and the earlier one lie so? -/
def okR (m : Arcs) (i k j n : Nat) : Bool :=
  let c := com (pt m i k) (pt m i (k + 1)) (pt m j n) (pt m j (n + 1))
  decide (c.1 = 0) || (!decide (c.1 = 2) && enB (pt m i k) (pt m i (k + 1)) (pt m j n) (pt m j (n + 1)) c.2 &&
    ((decide (j = i) && decide (n + 1 = k) && decide (c.2 = pt m i k)) || (ndB (arc m i) k c.2 && ndB (arc m j) n c.2)))
def apR (m : Arcs) : Prop := ∀ i k j n, isP m i k → isP m j n → (j < i ∨ (j = i ∧ n < k)) → okR m i k j n = true
def noMeet (m : Arcs) : Prop := ∀ i k j n, isP m i k → isP m j n → (j < i ∨ (j = i ∧ n < k)) → meet (pt m j n) (pt m j (n + 1)) (pt m i k) (pt m i (k + 1)) = false
def inOnce (m : Arcs) : Prop := ∀ i t j u, inM m i t → 0 < t → t + 1 < (arc m i).length → inM m j u → pt m i t = pt m j u → i = j ∧ t = u
/-- neighbours differ -/
def step1 (m : Arcs) : Prop := ∀ i k, isP m i k → pt m i k ≠ pt m i (k + 1)
theorem enB_iff (p q r s x : Sp) : enB p q r s x = true ↔ both p q r s x := by unfold enB both; simp
theorem ndB_iff (a : List Sp) (k : Nat) (x : Sp) : ndB a k x = true ↔ (k = 0 ∧ x = at_ a 0) ∨ (k + 2 = a.length ∧ x = at_ a (a.length - 1)) := by unfold ndB; simp
theorem okR_iff (m : Arcs) (i k j n : Nat) : okR m i k j n = true ↔ (com (pt m i k) (pt m i (k + 1)) (pt m j n) (pt m j (n + 1))).1 = 0 ∨
    ((com (pt m i k) (pt m i (k + 1)) (pt m j n) (pt m j (n + 1))).1 ≠ 2 ∧ both (pt m i k) (pt m i (k + 1)) (pt m j n) (pt m j (n + 1)) (com (pt m i k) (pt m i (k + 1)) (pt m j n) (pt m j (n + 1))).2 ∧
      ((j = i ∧ n + 1 = k ∧ (com (pt m i k) (pt m i (k + 1)) (pt m j n) (pt m j (n + 1))).2 = pt m i k) ∨
        (ndB (arc m i) k (com (pt m i k) (pt m i (k + 1)) (pt m j n) (pt m j (n + 1))).2 = true ∧ ndB (arc m j) n (com (pt m i k) (pt m i (k + 1)) (pt m j n) (pt m j (n + 1))).2 = true))) := by
  unfold okR
  simp only [Bool.or_eq_true, Bool.and_eq_true, decide_eq_true_eq, Bool.not_eq_true', decide_eq_false_iff_not, enB_iff, and_assoc, ne_eq]
theorem no_nd {m : Arcs} (h1 : step1 m) {i t : Nat} (hi : i < m.length) (h0 : 0 < t) (ht : t + 1 < (arc m i).length) : ndB (arc m i) t (pt m i t) = false := by
  rw [Bool.eq_false_iff, ne_eq, ndB_iff]
  rintro (⟨a, _⟩ | ⟨a, b⟩)
  · omega
  · refine h1 i t ⟨hi, ht⟩ ?_
    rw [b]
    unfold pt
    congr 1
    omega
theorem apart_iff {m : Arcs} (h1 : step1 m) (h2 : ∀ i, i < m.length → 2 ≤ (arc m i).length) : apR m ↔ noMeet m ∧ inOnce m := by
  constructor
  · intro h
    have hno : noMeet m := fun i k j n hk hn ho => by
      have g := h i k j n hk hn ho
      rw [← meet_comm]
      refine Bool.eq_false_iff.2 fun hc => ?_
      rw [okR_iff] at g
      rcases com_meet (h1 i k hk) hc with c | ⟨c1, c2⟩
      · rcases g with g | g
        · omega
        · exact g.1 c
      · rcases g with g | g
        · omega
        · exact c2 g.2.1
    refine ⟨hno, fun i t j u hi h0 ht hj e => ?_⟩
    refine Classical.byContradiction fun hne => ?_
    have hnd := no_nd h1 hi.1 h0 ht
    have h1t := h1 i t ⟨hi.1, ht⟩
    -- a piece with the other place
    obtain ⟨n, hn, hnu⟩ : ∃ n, isP m j n ∧ (n = u ∨ n + 1 = u) := by
      have := h2 j hj.1
      by_cases c : u + 1 < (arc m j).length
      · exact ⟨u, ⟨hj.1, c⟩, .inl rfl⟩
      · have := hj.2
        exact ⟨u - 1, ⟨hj.1, by omega⟩, .inr (by omega)⟩
    have hx : pt m i t = pt m j n ∨ pt m i t = pt m j (n + 1) := by
      rcases hnu with c | c
      · subst c; exact .inl e
      · rw [c]; exact .inr e
    have hp : isP m i t := ⟨hi.1, ht⟩
    by_cases hji : j < i ∨ (j = i ∧ n < t)
    · have g := h i t j n hp hn hji
      have q := (com_end h1t (h1 j n hn) (by rw [meet_comm]; exact hno i t j n hp hn hji)).2 (pt m i t) ⟨.inl rfl, hx⟩
      rw [okR_iff, q] at g
      rcases g with g | ⟨_, _, g | g⟩
      · cases g
      · obtain ⟨a, b, _⟩ := g
        subst a
        -- behind: the other place is the next but one, or this one
        rcases hnu with c | c
        · have h6 := h1 j n hn
          rw [b] at h6
          exact h6 (by rw [c]; exact e.symm)
        · exact hne ⟨rfl, by omega⟩
      · rw [hnd] at g; cases g.1
    · by_cases hs : j = i ∧ n = t
      · obtain ⟨a, b⟩ := hs
        subst a; subst b
        rcases hnu with c | c
        · exact hne ⟨rfl, c⟩
        · exact h1t (by rw [c]; exact e)
      · have hij : i < j ∨ (i = j ∧ t < n) := by omega
        have g := h j n i t hn hp hij
        have q := (com_end (h1 j n hn) h1t (by rw [meet_comm]; exact hno j n i t hn hp hij)).2 (pt m i t) ⟨hx, .inl rfl⟩
        rw [okR_iff, q] at g
        rcases g with g | ⟨_, _, g | g⟩
        · cases g
        · obtain ⟨a, b, c⟩ := g
          subst a
          rw [← b] at c
          exact h1t c
        · rw [hnd] at g; cases g.2
  · rintro ⟨hno, hin⟩ i k j n hk hn ho
    have q := com_end (h1 i k hk) (h1 j n hn) (by rw [meet_comm]; exact hno i k j n hk hn ho)
    rw [okR_iff]
    by_cases hb : ∃ x, both (pt m i k) (pt m i (k + 1)) (pt m j n) (pt m j (n + 1)) x
    · obtain ⟨x, hb⟩ := hb
      rw [q.2 x hb]
      refine .inr ⟨by show (1 : Int) ≠ 2; decide, hb, ?_⟩
      obtain ⟨k', hk', e1⟩ : ∃ k', (k' = k ∨ k' = k + 1) ∧ x = pt m i k' := hb.1.elim (fun h => ⟨k, .inl rfl, h⟩) fun h => ⟨k + 1, .inr rfl, h⟩
      obtain ⟨n', hn', e2⟩ : ∃ n', (n' = n ∨ n' = n + 1) ∧ x = pt m j n' := hb.2.elim (fun h => ⟨n, .inl rfl, h⟩) fun h => ⟨n + 1, .inr rfl, h⟩
      obtain ⟨hk1, hk2⟩ := hk
      obtain ⟨hn1, hn2⟩ := hn
      by_cases hs : i = j ∧ k' = n'
      · obtain ⟨a, b⟩ := hs
        subst a; subst b
        have hk3 : k' = k := by omega
        refine .inl ⟨rfl, by omega, by rw [e1, hk3]⟩
      · right
        show ndB (arc m i) k x = true ∧ ndB (arc m j) n x = true
        have n1 : ¬ (0 < k' ∧ k' + 1 < (arc m i).length) := fun c => hs (hin i k' j n' ⟨hk1, by omega⟩ c.1 c.2 ⟨hn1, by omega⟩ (e1.symm.trans e2))
        have n2 : ¬ (0 < n' ∧ n' + 1 < (arc m j).length) := fun c => hs (by
          obtain ⟨a, b⟩ := hin j n' i k' ⟨hn1, by omega⟩ c.1 c.2 ⟨hk1, by omega⟩ (e2.symm.trans e1)
          exact ⟨a.symm, b.symm⟩)
        constructor
        · rw [ndB_iff]
          by_cases c : k' = 0
          · left; subst c; exact ⟨by omega, e1⟩
          · right
            have : k' = (arc m i).length - 1 := by omega
            exact ⟨by omega, by rw [e1, this]; rfl⟩
        · rw [ndB_iff]
          by_cases c : n' = 0
          · left; subst c; exact ⟨by omega, e2⟩
          · right
            have : n' = (arc m j).length - 1 := by omega
            exact ⟨by omega, by rw [e2, this]; rfl⟩
    · left
      exact q.1 fun x hx => hb ⟨x, hx⟩
/-! ### counting -/
theorem count_two {l : List Sp} {t : Nat} (ht : t < l.length) : 1 < l.count (at_ l t) ↔ ∃ u, u < l.length ∧ u ≠ t ∧ at_ l u = at_ l t := by
  have hat : ∀ k, k < l.length → at_ l k = l[k]?.getD (0, 0) := fun k _ => by unfold at_; rw [List.getD_eq_getElem?_getD]
  have e : l = l.take t ++ at_ l t :: l.drop (t + 1) := by
    have : at_ l t = l[t] := by rw [hat t ht, List.getElem?_eq_getElem ht]; rfl
    rw [this, List.getElem_cons_drop, List.take_append_drop]
  constructor
  · intro h
    have h2 : l.count (at_ l t) = (l.take t).count (at_ l t) + (1 + (l.drop (t + 1)).count (at_ l t)) := by
      conv => lhs; rw [e]
      rw [List.count_append, List.count_cons]
      have : ∀ c : Sp, (if (c == c) = true then 1 else 0) = 1 := fun c => by simp
      rw [← e]
      simp
      omega
    have h3 : 0 < (l.take t).count (at_ l t) ∨ 0 < (l.drop (t + 1)).count (at_ l t) := by omega
    rcases h3 with h3 | h3
    · obtain ⟨u, hu, e2⟩ := List.getElem_of_mem (List.count_pos_iff.1 h3)
      rw [List.length_take] at hu
      refine ⟨u, by omega, by omega, ?_⟩
      rw [hat u (by omega), List.getElem?_eq_getElem (by omega), ← e2, List.getElem_take]
      rfl
    · obtain ⟨u, hu, e2⟩ := List.getElem_of_mem (List.count_pos_iff.1 h3)
      rw [List.length_drop] at hu
      refine ⟨t + 1 + u, by omega, by omega, ?_⟩
      rw [hat _ (by omega), List.getElem?_eq_getElem (by omega), ← e2, List.getElem_drop]
      rfl
  · rintro ⟨u, hu, hne, e2⟩
    have h2 : l.count (at_ l t) = (l.take t).count (at_ l t) + (1 + (l.drop (t + 1)).count (at_ l t)) := by
      conv => lhs; rw [e]
      rw [List.count_append, List.count_cons]
      rw [← e]
      simp
      omega
    have : 0 < (l.take t).count (at_ l t) ∨ 0 < (l.drop (t + 1)).count (at_ l t) := by
      rw [List.count_pos_iff, List.count_pos_iff]
      rw [hat u hu, List.getElem?_eq_getElem hu] at e2
      rw [← e2]
      rcases Nat.lt_or_ge u t with c | c
      · left
        refine List.mem_iff_getElem.2 ⟨u, by rw [List.length_take]; omega, ?_⟩
        rw [List.getElem_take]; rfl
      · right
        refine List.mem_iff_getElem.2 ⟨u - (t + 1), by rw [List.length_drop]; omega, ?_⟩
        rw [List.getElem_drop]
        show l[t + 1 + (u - (t + 1))] = _
        congr 1
        omega
    omega
theorem flat_split {m : Arcs} {i : Nat} (hi : i < m.length) : m = m.take i ++ arc m i :: m.drop (i + 1) := by
  have : arc m i = m[i] := by unfold arc; rw [List.getD_eq_getElem?_getD, List.getElem?_eq_getElem hi]; rfl
  rw [this, List.getElem_cons_drop, List.take_append_drop]
theorem flat_count {m : Arcs} {i : Nat} (hi : i < m.length) (p : Sp) : m.flatten.count p = (m.take i).flatten.count p + (arc m i).count p + (m.drop (i + 1)).flatten.count p := by
  conv => lhs; rw [flat_split hi]
  rw [List.flatten_append, List.flatten_cons, List.count_append, List.count_append]
  omega
theorem mem_flat {m : Arcs} {p : Sp} : p ∈ m.flatten ↔ ∃ j u, inM m j u ∧ pt m j u = p := by
  rw [List.mem_flatten]
  constructor
  · rintro ⟨l, hl, hp⟩
    obtain ⟨j, hj, rfl⟩ := List.getElem_of_mem hl
    obtain ⟨u, hu, rfl⟩ := List.getElem_of_mem hp
    have e : arc m j = m[j] := by unfold arc; rw [List.getD_eq_getElem?_getD, List.getElem?_eq_getElem hj]; rfl
    refine ⟨j, u, ⟨hj, by rw [e]; exact hu⟩, ?_⟩
    unfold pt at_
    rw [e, List.getD_eq_getElem?_getD, List.getElem?_eq_getElem hu]; rfl
  · rintro ⟨j, u, ⟨hj, hu⟩, rfl⟩
    have e : arc m j = m[j] := by unfold arc; rw [List.getD_eq_getElem?_getD, List.getElem?_eq_getElem hj]; rfl
    refine ⟨m[j], List.getElem_mem hj, ?_⟩
    unfold pt at_
    rw [e] at hu ⊢
    rw [List.getD_eq_getElem?_getD, List.getElem?_eq_getElem hu]
    exact List.getElem_mem hu
theorem count_more {m : Arcs} {i t : Nat} (h : inM m i t) : 1 < m.flatten.count (pt m i t) ↔ ∃ j u, inM m j u ∧ ¬ (i = j ∧ t = u) ∧ pt m i t = pt m j u := by
  have e := flat_count h.1 (pt m i t)
  have hself : 0 < (arc m i).count (pt m i t) := by
    rw [List.count_pos_iff]
    unfold pt at_
    rw [List.getD_eq_getElem?_getD, List.getElem?_eq_getElem h.2]
    exact List.getElem_mem h.2
  have arc_take : ∀ j, j < i → arc (m.take i) j = arc m j := fun j hj => by
    unfold arc
    rw [List.getD_eq_getElem?_getD, List.getD_eq_getElem?_getD, List.getElem?_take, if_pos hj]
  have arc_drop : ∀ j, arc (m.drop (i + 1)) j = arc m (i + 1 + j) := fun j => by
    unfold arc
    rw [List.getD_eq_getElem?_getD, List.getD_eq_getElem?_getD, List.getElem?_drop]
  constructor
  · intro hc
    have h3 : 0 < (m.take i).flatten.count (pt m i t) ∨ 1 < (arc m i).count (pt m i t) ∨ 0 < (m.drop (i + 1)).flatten.count (pt m i t) := by omega
    rcases h3 with h3 | h3 | h3
    · obtain ⟨j, u, ⟨a, b⟩, c⟩ := mem_flat.1 (List.count_pos_iff.1 h3)
      rw [List.length_take] at a
      rw [arc_take j (by omega)] at b
      unfold pt at c
      rw [arc_take j (by omega)] at c
      exact ⟨j, u, ⟨by omega, b⟩, by omega, c.symm⟩
    · obtain ⟨u, a, b, c⟩ := (count_two h.2).1 h3
      exact ⟨i, u, ⟨h.1, a⟩, by omega, c.symm⟩
    · obtain ⟨j, u, ⟨a, b⟩, c⟩ := mem_flat.1 (List.count_pos_iff.1 h3)
      rw [List.length_drop] at a
      rw [arc_drop j] at b
      unfold pt at c
      rw [arc_drop j] at c
      exact ⟨i + 1 + j, u, ⟨by omega, b⟩, by omega, c.symm⟩
  · rintro ⟨j, u, ⟨a, b⟩, c, d⟩
    rcases Nat.lt_trichotomy j i with g | g | g
    · have : 0 < (m.take i).flatten.count (pt m i t) := by
        rw [List.count_pos_iff, mem_flat]
        refine ⟨j, u, ⟨by rw [List.length_take]; omega, by rw [arc_take j g]; exact b⟩, ?_⟩
        rw [d]; unfold pt; rw [arc_take j g]
      omega
    · subst g
      have : 1 < (arc m j).count (pt m j t) := (count_two h.2).2 ⟨u, b, fun e => c ⟨rfl, e.symm⟩, d.symm⟩
      omega
    · have : 0 < (m.drop (i + 1)).flatten.count (pt m i t) := by
        rw [List.count_pos_iff, mem_flat]
        have e2 := arc_drop (j - (i + 1))
        rw [show i + 1 + (j - (i + 1)) = j by omega] at e2
        refine ⟨j - (i + 1), u, ⟨by rw [List.length_drop]; omega, by rw [e2]; exact b⟩, ?_⟩
        rw [d]; unfold pt; rw [e2]
      omega
/-- inner places that another one has too, by counting -/
theorem inOnce_iff {m : Arcs} : inOnce m ↔ ∀ i t, inM m i t → 0 < t → t + 1 < (arc m i).length → ¬ 1 < m.flatten.count (pt m i t) := by
  constructor
  · intro h i t hi h0 ht hc
    obtain ⟨j, u, a, b, c⟩ := (count_more hi).1 hc
    exact b (h i t j u hi h0 ht a c)
  · intro h i t j u hi h0 ht hj e
    refine Classical.byContradiction fun c => h i t hi h0 ht ((count_more hi).2 ⟨j, u, hj, c, e⟩)
end Shp
/-
  Plain facts on a right map: two ways from one place have different directions (no program in sight).
-/
namespace Shp
def btw (u v : Sp) : Prop := (min 0 v.1 ≤ u.1 ∧ u.1 ≤ max 0 v.1) ∧ (min 0 v.2 ≤ u.2 ∧ u.2 ≤ max 0 v.2)
theorem btw_ng {u v : Sp} : btw (ng u) (ng v) ↔ btw u v := by unfold btw ng; simp only; omega
theorem le_of_mul {a b c : Int} (hc : 0 < c) (h : a * c ≤ b * c) : a ≤ b := Int.le_of_mul_le_mul_right h hc
theorem up_btw1 {u v : Sp} (hu : 0 < u.2) (hv : 0 < v.2) (h : cross u v = 0) (hl : u.2 ≤ v.2) : btw u v := by
  unfold cross at h
  have e : u.1 * v.2 = v.1 * u.2 := by omega
  unfold btw
  rcases Int.lt_or_le v.1 0 with c | c
  · have h1 : u.1 ≤ 0 := by
      have : v.1 * u.2 ≤ 0 := Int.mul_nonpos_of_nonpos_of_nonneg (by omega) (by omega)
      exact le_of_mul hv (by rw [e, Int.zero_mul]; exact this)
    have h2 : v.1 ≤ u.1 := le_of_mul hv (by
      rw [e]
      exact Int.mul_le_mul_of_nonpos_left (by omega) hl)
    omega
  · have h1 : 0 ≤ u.1 := by
      have : 0 ≤ v.1 * u.2 := Int.mul_nonneg c (by omega)
      exact le_of_mul hv (by rw [e, Int.zero_mul]; exact this)
    have h2 : u.1 ≤ v.1 := le_of_mul hv (by
      rw [e]
      exact Int.mul_le_mul_of_nonneg_left hl c)
    omega
theorem up_btw {u v : Sp} (hu : UP u) (hv : UP v) (h : cross u v = 0) : btw u v ∨ btw v u := by
  have hs : cross v u = 0 := by rw [cross_swap u v, h]; rfl
  rcases hu with hu | ⟨hu, hu1⟩
  · rcases hv with hv | ⟨hv, hv1⟩
    · rcases Int.le_total u.2 v.2 with c | c
      · exact .inl (up_btw1 hu hv h c)
      · exact .inr (up_btw1 hv hu hs c)
    · have := Int.mul_pos hv1 hu
      unfold cross at h
      rw [hv] at h
      simp at h
      omega
  · rcases hv with hv | ⟨hv, hv1⟩
    · have := Int.mul_pos hu1 hv
      unfold cross at h
      rw [hu] at h
      simp at h
      omega
    · unfold btw
      omega
theorem trn_zero {d e : Sp} (hd : d ≠ (0, 0)) (he : e ≠ (0, 0)) (h : trn d e = 0) : cross d e = 0 ∧ (btw d e ∨ btw e d) := by
  have h1 : ¬ trn d e < 0 := by omega
  have h2 : ¬ trn e d < 0 := by rw [trn_swap d e]; omega
  rw [trn_lt] at h1 h2
  obtain ⟨u, hu, hu'⟩ := up_or hd
  obtain ⟨v, hv, hv'⟩ := up_or he
  have s := cross_swap d e
  have hc : cross d e = 0 := by omega
  refine ⟨hc, ?_⟩
  rcases hu' with ⟨e1, f1⟩ | ⟨e1, f1⟩ <;> rcases hv' with ⟨e2, f2⟩ | ⟨e2, f2⟩
  · subst e1; subst e2; exact up_btw hu hv hc
  · omega
  · omega
  · subst e1; subst e2
    rw [btw_ng, btw_ng]
    exact up_btw hu hv (by simp only [cross_ng_l, cross_ng_r] at hc; omega)
theorem side_sub (p q r : Sp) : side p q r = cross (sub q p) (sub r p) := by
  unfold side cross sub
  simp only
  rw [Int.mul_comm (r.1 - p.1)]
theorem on_btw {p q r : Sp} (hc : cross (sub q p) (sub r p) = 0) (h : btw (sub r p) (sub q p)) : on p q r = true := by
  unfold on
  rw [side_sub, hc]
  unfold btw sub at h
  simp only at h
  simp only [Bool.and_eq_true, decide_eq_true_eq, beq_self_eq_true, true_and]
  omega
theorem crs_swap (p q r s : Sp) : crs q p r s = crs p q r s := by
  unfold crs
  rw [side_swap p q r, side_swap p q s, sg_neg, sg_neg, Int.neg_mul_neg, Int.mul_comm (sgZ (side r s q))]
theorem meet_swap (p q r s : Sp) : meet q p r s = meet p q r s := by
  rw [Bool.eq_iff_iff, meet_iff, meet_iff, crs_swap]
  simp only [tch_iff, sam_iff, on_swap p q]
  constructor
  · rintro (⟨a, b, c⟩ | ⟨a, b, c⟩ | h | h | (⟨a, b⟩ | ⟨a, b⟩) | h)
    · exact .inl ⟨a, c, b⟩
    · exact .inr (.inl ⟨a, c, b⟩)
    · exact .inr (.inr (.inr (.inl h)))
    · exact .inr (.inr (.inl h))
    · exact .inr (.inr (.inr (.inr (.inl (.inr ⟨b, a⟩)))))
    · exact .inr (.inr (.inr (.inr (.inl (.inl ⟨b, a⟩)))))
    · simp [h]
  · rintro (⟨a, b, c⟩ | ⟨a, b, c⟩ | h | h | (⟨a, b⟩ | ⟨a, b⟩) | h)
    · exact .inl ⟨a, c, b⟩
    · exact .inr (.inl ⟨a, c, b⟩)
    · exact .inr (.inr (.inr (.inl h)))
    · exact .inr (.inr (.inl h))
    · exact .inr (.inr (.inr (.inr (.inl (.inr ⟨b, a⟩)))))
    · exact .inr (.inr (.inr (.inr (.inl (.inl ⟨b, a⟩)))))
    · simp [h]
/-- two pieces from one place in one direction meet -/
theorem meet_dir {p q s : Sp} (hq : q ≠ p) (hs : s ≠ p) (h : trn (sub q p) (sub s p) = 0) : meet p q p s = true := by
  have z : ∀ x : Sp, x ≠ p → sub x p ≠ (0, 0) := fun x hx e => hx (by
    unfold sub at e
    simp only [Prod.mk.injEq] at e
    exact Prod.ext (by omega) (by omega))
  obtain ⟨hc, hb⟩ := trn_zero (z q hq) (z s hs) h
  rw [meet_iff]
  by_cases e : q = s
  · exact .inr (.inr (.inr (.inr (.inl ((sam_iff _ _ _ _).2 (.inl ⟨rfl, e⟩))))))
  · rcases hb with hb | hb
    · refine .inr (.inr (.inr (.inl ((tch_iff _ _ _).2 ⟨on_btw ?_ hb, hq, e⟩))))
      rw [cross_swap, hc]; rfl
    · exact .inr (.inl ((tch_iff _ _ _).2 ⟨on_btw hc hb, hs, fun h => e h.symm⟩))
/-- a right map -/
structure Right (m : Arcs) : Prop where
  two : ∀ i, i < m.length → 2 ≤ (arc m i).length
  four : ∀ i, i < m.length → at_ (arc m i) 0 = at_ (arc m i) ((arc m i).length - 1) → 4 ≤ (arc m i).length
  step : step1 m
  meets : noMeet m
  once : inOnce m
theorem Right.meet2 {m : Arcs} (R : Right m) {i k j n : Nat} (hk : isP m i k) (hn : isP m j n) (h : ¬ (i = j ∧ k = n)) : meet (pt m i k) (pt m i (k + 1)) (pt m j n) (pt m j (n + 1)) = false := by
  by_cases c : j < i ∨ (j = i ∧ n < k)
  · rw [← meet_comm]; exact R.meets i k j n hk hn c
  · exact R.meets j n i k hn hk (by omega)
/-- a way's piece: where it lies in the map -/
def wi (w : Int) : Nat := w.natAbs - 1
def wk (m : Arcs) (w : Int) : Nat := if 0 < w then 0 else (arcOf m w).length - 2
theorem arcOf_eq (m : Arcs) (w : Int) : arcOf m w = arc m (wi w) := rfl
theorem way_piece {m : Arcs} (R : Right m) {w : Int} (hw : isWay m w) : isP m (wi w) (wk m w) ∧ ((frm m w = pt m (wi w) (wk m w) ∧ nxp m w = pt m (wi w) (wk m w + 1)) ∨ (frm m w = pt m (wi w) (wk m w + 1) ∧ nxp m w = pt m (wi w) (wk m w))) := by
  obtain ⟨h0, h1⟩ := hw
  have hi : wi w < m.length := by unfold wi; omega
  have h2 := R.two _ hi
  have ea := arcOf_eq m w
  unfold wk frm nxp isP pt
  rw [ea]
  by_cases c : 0 < w
  · simp only [if_pos c]
    exact ⟨⟨hi, by omega⟩, .inl (by simp)⟩
  · simp only [if_neg c]
    refine ⟨⟨hi, by omega⟩, .inr ?_⟩
    rw [show (arc m (wi w)).length - 2 + 1 = (arc m (wi w)).length - 1 by omega]
    simp
theorem nx_ne {m : Arcs} (R : Right m) {w : Int} (hw : isWay m w) : nxp m w ≠ frm m w := by
  obtain ⟨h1, h2 | h2⟩ := way_piece R hw
  · rw [h2.1, h2.2]; exact (R.step _ _ h1).symm
  · rw [h2.1, h2.2]; exact R.step _ _ h1
theorem dr_ne {m : Arcs} (R : Right m) {w : Int} (hw : isWay m w) : dr m w ≠ (0, 0) := fun e => nx_ne R hw (by
  unfold dr sub at e
  simp only [Prod.mk.injEq] at e
  exact Prod.ext (by omega) (by omega))
theorem piece_ne {m : Arcs} (R : Right m) {v w : Int} (hv : isWay m v) (hw : isWay m w) (hf : frm m v = frm m w) (hne : v ≠ w) : ¬ (wi v = wi w ∧ wk m v = wk m w) := by
  rintro ⟨a, b⟩
  obtain ⟨v0, v1⟩ := hv
  obtain ⟨w0, w1⟩ := hw
  have hvw : v = -w := by unfold wi at a; omega
  have hi : wi w < m.length := by unfold wi; omega
  have h2 := R.two _ hi
  have h4 := R.four _ hi
  have e1 := arcOf_eq m w
  have e2 := arcOf_eq m v
  rw [a] at e2
  unfold wk at b
  unfold frm at hf
  rw [e1, e2] at b hf
  by_cases c : 0 < w
  · rw [if_neg (by omega), if_pos c] at b hf
    have := h4 hf.symm
    omega
  · rw [if_pos (by omega), if_neg c] at b hf
    have := h4 hf
    omega
theorem dr_diff {m : Arcs} (R : Right m) {v w : Int} (hv : isWay m v) (hw : isWay m w) (hf : frm m v = frm m w) (hne : v ≠ w) : trn (dr m v) (dr m w) ≠ 0 := fun h => by
  obtain ⟨p1, d1⟩ := way_piece R hv
  obtain ⟨p2, d2⟩ := way_piece R hw
  have hm := R.meet2 p1 p2 (piece_ne R hv hw hf hne)
  have hh : meet (frm m v) (nxp m v) (frm m v) (nxp m w) = true := by
    refine meet_dir (nx_ne R hv) (by rw [hf]; exact nx_ne R hw) ?_
    unfold dr at h
    rw [← hf] at h
    exact h
  have key : meet (frm m v) (nxp m v) (frm m w) (nxp m w) = meet (pt m (wi v) (wk m v)) (pt m (wi v) (wk m v + 1)) (pt m (wi w) (wk m w)) (pt m (wi w) (wk m w + 1)) := by
    rcases d1 with ⟨a, b⟩ | ⟨a, b⟩ <;> rcases d2 with ⟨c, d⟩ | ⟨c, d⟩ <;> rw [a, b, c, d]
    · rw [← meet_comm, meet_swap, meet_comm]
    · rw [meet_swap]
    · rw [meet_swap, ← meet_comm, meet_swap, meet_comm]
  rw [← key, ← hf, hh] at hm
  cases hm
end Shp
