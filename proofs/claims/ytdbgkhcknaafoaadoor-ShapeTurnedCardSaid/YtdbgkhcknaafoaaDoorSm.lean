/-
  Plain facts on rings of points: their area and where a point is, gone around the other way, begun elsewhere, moved (no program in sight).
-/
namespace Shp
abbrev Sp := Int × Int
def side (p q r : Sp) : Int := (q.1 - p.1) * (r.2 - p.2) - (q.2 - p.2) * (r.1 - p.1)
def cross (p q : Sp) : Int := p.1 * q.2 - q.1 * p.2
def on (p q r : Sp) : Bool := side p q r == 0 && decide (min p.1 q.1 ≤ r.1) && decide (r.1 ≤ max p.1 q.1) && decide (min p.2 q.2 ≤ r.2) && decide (r.2 ≤ max p.2 q.2)
def at_ (l : List Sp) (i : Nat) : Sp := l.getD i (0, 0)
def nx (l : List Sp) (i : Nat) : Nat := (i + 1) % l.length
/-- sums -/
def sumTo (f : Nat → Int) : Nat → Int
  | 0 => 0
  | n + 1 => sumTo f n + f n
theorem sum_congr {f g : Nat → Int} : ∀ {n : Nat}, (∀ i, i < n → f i = g i) → sumTo f n = sumTo g n
  | 0, _ => rfl
  | n + 1, h => by rw [sumTo, sumTo, sum_congr (fun i hi => h i (by omega)), h n (by omega)]
theorem sum_head (f : Nat → Int) : ∀ n, sumTo f (n + 1) = f 0 + sumTo (fun i => f (i + 1)) n
  | 0 => by simp [sumTo]
  | n + 1 => by rw [sumTo, sum_head f n]; simp only [sumTo]; omega
theorem sum_rev (f : Nat → Int) : ∀ n, sumTo (fun i => f (n - 1 - i)) n = sumTo f n
  | 0 => rfl
  | n + 1 => by
    rw [sum_head, sumTo, ← sum_rev f n]
    have : sumTo (fun i => f (n + 1 - 1 - (i + 1))) n = sumTo (fun i => f (n - 1 - i)) n := sum_congr (fun i hi => by congr 1; omega)
    rw [this]; simp; omega
theorem sum_rot1 (f : Nat → Int) (n : Nat) : sumTo (fun i => f ((i + 1) % n)) n = sumTo f n := by
  cases n with
  | zero => rfl
  | succ n =>
    rw [sum_head f n, sumTo]
    have h1 : sumTo (fun i => f ((i + 1) % (n + 1))) n = sumTo (fun i => f (i + 1)) n := sum_congr (fun i hi => by rw [Nat.mod_eq_of_lt (by omega)])
    rw [h1, Nat.mod_self]; omega
theorem sum_rot (f : Nat → Int) (n k : Nat) : sumTo (fun i => f ((i + k) % n)) n = sumTo f n := by
  induction k with
  | zero => exact sum_congr (fun i hi => by rw [Nat.add_zero, Nat.mod_eq_of_lt hi])
  | succ k ih =>
    rw [← ih, ← sum_rot1 (fun i => f ((i + k) % n)) n]
    refine sum_congr (fun i hi => ?_)
    congr 1
    rw [Nat.mod_add_mod]; congr 1; omega
theorem sum_add (f g : Nat → Int) : ∀ n, sumTo (fun i => f i + g i) n = sumTo f n + sumTo g n
  | 0 => rfl
  | n + 1 => by rw [sumTo, sumTo, sumTo, sum_add f g n]; omega
theorem sum_mul (c : Int) (f : Nat → Int) : ∀ n, sumTo (fun i => c * f i) n = c * sumTo f n
  | 0 => by simp [sumTo]
  | n + 1 => by rw [sumTo, sumTo, sum_mul c f n, Int.mul_add]
theorem sum_neg (f : Nat → Int) : ∀ n, sumTo (fun i => - f i) n = - sumTo f n
  | 0 => rfl
  | n + 1 => by rw [sumTo, sumTo, sum_neg f n]; omega
theorem sum_nonneg {f : Nat → Int} (h : ∀ i, 0 ≤ f i) : ∀ n, 0 ≤ sumTo f n
  | 0 => Int.le_refl _
  | n + 1 => by have := sum_nonneg h n; have := h n; rw [sumTo]; omega
theorem sum_zero_iff {f : Nat → Int} (h : ∀ i, 0 ≤ f i) : ∀ n, sumTo f n = 0 ↔ ∀ i, i < n → f i = 0
  | 0 => by simp [sumTo]
  | n + 1 => by
    have h1 := sum_nonneg h n
    have h2 := h n
    rw [sumTo]
    constructor
    · intro hs i hi
      rcases Nat.lt_or_ge i n with hlt | hge
      · exact (sum_zero_iff h n).1 (by omega) i hlt
      · have : i = n := by omega
        rw [this]; omega
    · intro hall
      have := (sum_zero_iff h n).2 (fun i hi => hall i (by omega))
      rw [this, hall n (by omega)]; rfl
/-- the area, twice -/
def areaTo (l : List Sp) (k : Nat) : Int := sumTo (fun i => cross (at_ l i) (at_ l (nx l i))) k
def area (l : List Sp) : Int := areaTo l l.length
/-- is an edge crossed to the left of a point? -/
def tog (a b p : Sp) : Bool := (decide (p.2 < a.2) != decide (p.2 < b.2)) && decide (0 < (if b.2 < a.2 then side b a p else side a b p))
def ons (l : List Sp) (p : Sp) (k : Nat) : Int := sumTo (fun i => if on (at_ l i) (at_ l (nx l i)) p then 1 else 0) k
def togs (l : List Sp) (p : Sp) (k : Nat) : Int := sumTo (fun i => if tog (at_ l i) (at_ l (nx l i)) p then 1 else 0) k
def sgn (t : Int) : Int := if t % 2 = 0 then -1 else 1
def wh (l : List Sp) (p : Sp) : Int := if ons l p l.length = 0 then sgn (togs l p l.length) else 0
theorem sgn_flip (t : Int) : sgn (t + 1) = - sgn t := by unfold sgn; split <;> split <;> omega
/-- the other way around, and moved -/
def back (l : List Sp) : List Sp := (List.range l.length).map fun i => at_ l (l.length - 1 - i)
def mv (d p : Sp) : Sp := (p.1 + d.1, p.2 + d.2)
def moved (l : List Sp) (k : Nat) (d : Sp) : List Sp := (List.range l.length).map fun i => mv d (at_ l ((i + k) % l.length))
theorem back_length (l : List Sp) : (back l).length = l.length := by simp [back]
theorem moved_length (l : List Sp) (k : Nat) (d : Sp) : (moved l k d).length = l.length := by simp [moved]
theorem at_back (l : List Sp) (i : Nat) (h : i < l.length) : at_ (back l) i = at_ l (l.length - 1 - i) := by
  unfold back; conv => lhs; unfold at_
  simp [h]; rfl
theorem at_moved (l : List Sp) (k : Nat) (d : Sp) (i : Nat) (h : i < l.length) : at_ (moved l k d) i = mv d (at_ l ((i + k) % l.length)) := by
  unfold moved; conv => lhs; unfold at_
  simp [h]; rfl
/-- a sum over edges, gone around the other way -/
theorem edges_back (l : List Sp) (f : Sp → Sp → Int) : sumTo (fun i => f (at_ (back l) i) (at_ (back l) (nx (back l) i))) (back l).length = sumTo (fun i => f (at_ l (nx l i)) (at_ l i)) l.length := by
  rw [back_length]
  rcases Nat.eq_zero_or_pos l.length with h0 | hp
  · rw [h0]; rfl
  have h1 := sum_rev (fun i => (fun j => f (at_ l (nx l j)) (at_ l j)) ((i + (l.length - 1)) % l.length)) l.length
  rw [sum_rot (fun j => f (at_ l (nx l j)) (at_ l j)) l.length (l.length - 1)] at h1
  rw [← h1]
  refine sum_congr (fun i hi => ?_)
  simp only
  have hn : nx (back l) i < l.length := by unfold nx; rw [back_length]; exact Nat.mod_lt _ hp
  rw [at_back l i hi, at_back l _ hn]
  unfold nx; rw [back_length]
  by_cases hl : i + 1 = l.length
  · have e1 : (i + 1) % l.length = 0 := by rw [hl]; exact Nat.mod_self _
    have e2 : (l.length - 1 - i + (l.length - 1)) % l.length = l.length - 1 := by
      rw [show l.length - 1 - i + (l.length - 1) = l.length - 1 by omega]; exact Nat.mod_eq_of_lt (by omega)
    have e3 : (l.length - 1 + 1) % l.length = 0 := by rw [show l.length - 1 + 1 = l.length by omega]; exact Nat.mod_self _
    rw [e1, e2, e3]
    congr 2; omega
  · have e1 : (i + 1) % l.length = i + 1 := Nat.mod_eq_of_lt (by omega)
    have e2 : (l.length - 1 - i + (l.length - 1)) % l.length = l.length - 2 - i := by
      rw [show l.length - 1 - i + (l.length - 1) = (l.length - 2 - i) + l.length by omega, Nat.add_mod_right]; exact Nat.mod_eq_of_lt (by omega)
    have e3 : (l.length - 2 - i + 1) % l.length = l.length - 1 - i := by rw [Nat.mod_eq_of_lt (by omega)]; omega
    rw [e1, e2, e3]
    congr 2; omega
theorem edges_moved (l : List Sp) (k : Nat) (d : Sp) (f : Sp → Sp → Int) : sumTo (fun i => f (at_ (moved l k d) i) (at_ (moved l k d) (nx (moved l k d) i))) (moved l k d).length = sumTo (fun i => f (mv d (at_ l i)) (mv d (at_ l (nx l i)))) l.length := by
  rw [moved_length]
  rcases Nat.eq_zero_or_pos l.length with h0 | hp
  · rw [h0]; rfl
  rw [← sum_rot (fun i => f (mv d (at_ l i)) (mv d (at_ l (nx l i)))) l.length k]
  refine sum_congr (fun i hi => ?_)
  have hn : nx (moved l k d) i < l.length := by unfold nx; rw [moved_length]; exact Nat.mod_lt _ hp
  rw [at_moved l k d i hi, at_moved l k d _ hn]
  unfold nx; rw [moved_length]
  congr 3
  rw [Nat.mod_add_mod, Nat.mod_add_mod]; congr 1; omega
theorem cross_swap (p q : Sp) : cross q p = - cross p q := by unfold cross; omega
theorem area_back (l : List Sp) : area (back l) = - area l := by
  unfold area areaTo
  rw [edges_back l cross, ← sum_neg]
  exact sum_congr (fun i _ => cross_swap _ _)
theorem cross_mv (d p q : Sp) : cross (mv d p) (mv d q) = cross p q + (d.1 * (q.2 - p.2) + (- d.2) * (q.1 - p.1)) := by
  unfold cross mv
  simp only [Int.add_mul, Int.mul_add, Int.mul_sub, Int.neg_mul, Int.mul_comm q.1 d.2, Int.mul_comm p.1 d.2, Int.mul_comm d.1 d.2]
  omega
theorem area_moved (l : List Sp) (k : Nat) (d : Sp) : area (moved l k d) = area l := by
  unfold area areaTo
  rw [edges_moved l k d cross, sum_congr (fun i _ => cross_mv d _ _), sum_add, sum_add, sum_mul, sum_mul]
  have hz : ∀ g : Nat → Int, sumTo (fun i => g (nx l i) - g i) l.length = 0 := by
    intro g
    have h1 := sum_add (fun i => g (nx l i)) (fun i => - g i) l.length
    have h2 := sum_rot1 g l.length
    have h3 := sum_neg g l.length
    have h4 : sumTo (fun i => g (nx l i)) l.length = sumTo g l.length := h2
    rw [h3, h4] at h1
    have h5 : sumTo (fun i => g (nx l i) - g i) l.length = sumTo (fun i => g (nx l i) + - g i) l.length := sum_congr (fun i _ => by omega)
    rw [h5, h1]; omega
  rw [hz (fun i => (at_ l i).2), hz (fun i => (at_ l i).1)]
  simp
theorem side_swap (p q r : Sp) : side q p r = - side p q r := by
  unfold side
  simp only [Int.sub_mul, Int.mul_sub, Int.mul_comm q.1 p.2, Int.mul_comm q.2 p.1, Int.mul_comm p.2 p.1, Int.mul_comm q.2 q.1]
  omega
theorem on_swap (p q r : Sp) : on q p r = on p q r := by
  unfold on
  rw [side_swap, Int.min_comm q.1, Int.min_comm q.2, Int.max_comm q.1, Int.max_comm q.2]
  have : (- side p q r == 0) = (side p q r == 0) := by rw [Bool.eq_iff_iff]; simp
  rw [this]
theorem bnec : ∀ a b : Bool, (a != b) = (b != a) := by decide
theorem tog_swap (a b p : Sp) : tog b a p = tog a b p := by
  unfold tog
  rcases Int.lt_trichotomy a.2 b.2 with h | h | h
  · rw [if_pos h, if_neg (by omega), bnec]
  · rw [h]; simp
  · rw [if_neg (by omega), if_pos h, bnec]
theorem side_mv (d p q r : Sp) : side (mv d p) (mv d q) (mv d r) = side p q r := by
  unfold side mv
  simp only
  have h : ∀ a b c : Int, a + c - (b + c) = a - b := by intro a b c; omega
  rw [h, h, h, h]
theorem on_mv (d p q r : Sp) : on (mv d p) (mv d q) (mv d r) = on p q r := by
  unfold on
  rw [side_mv]
  unfold mv
  congr 1
  · congr 1
    · congr 1
      · congr 1
        rw [Bool.eq_iff_iff]; simp only [decide_eq_true_eq]; omega
      · rw [Bool.eq_iff_iff]; simp only [decide_eq_true_eq]; omega
    · rw [Bool.eq_iff_iff]; simp only [decide_eq_true_eq]; omega
  · rw [Bool.eq_iff_iff]; simp only [decide_eq_true_eq]; omega
theorem tog_mv (d a b p : Sp) : tog (mv d a) (mv d b) (mv d p) = tog a b p := by
  unfold tog
  rw [side_mv, side_mv]
  have h1 : decide ((mv d p).2 < (mv d a).2) = decide (p.2 < a.2) := by unfold mv; rw [Bool.eq_iff_iff]; simp
  have h2 : decide ((mv d p).2 < (mv d b).2) = decide (p.2 < b.2) := by unfold mv; rw [Bool.eq_iff_iff]; simp
  have h3 : ((mv d b).2 < (mv d a).2) = (b.2 < a.2) := by unfold mv; simp
  rw [h1, h2]; simp only [h3]
theorem wh_back (l : List Sp) (p : Sp) : wh (back l) p = wh l p := by
  unfold wh ons togs
  rw [edges_back l (fun a b => if on a b p then 1 else 0), edges_back l (fun a b => if tog a b p then 1 else 0)]
  simp only [on_swap _ _ p, tog_swap _ _ p]
theorem wh_moved (l : List Sp) (k : Nat) (d p : Sp) : wh (moved l k d) (mv d p) = wh l p := by
  unfold wh ons togs
  rw [edges_moved l k d (fun a b => if on a b (mv d p) then 1 else 0), edges_moved l k d (fun a b => if tog a b (mv d p) then 1 else 0)]
  simp only [on_mv, tog_mv]
end Shp
