/-
  Plain facts on rounds: a round goes on until a way is gone already; all of them (no program in sight).
-/
import Derived.Test.YtcfalmdfohphoaaDoorM6
import Derived.WideKeyPair
import Derived.DeepKeys3
namespace Shp
/-- a round from w on, where the ways g are gone; so many ways at most -/
def rd (nf : Int → Int) : Nat → List Int → Int → List Int
  | 0, _, _ => []
  | f + 1, g, w => if w ∈ g then [] else w :: rd nf f (w :: g) (nf w)
/-- what is gone is a set of ways -/
structure Gn (n : Nat) (g : List Int) : Prop where
  nodup : g.Nodup
  ways : ∀ v ∈ g, v ≠ 0 ∧ v.natAbs ≤ n
theorem wl_length : ∀ k, (wl k).length = 2 * k
  | 0 => rfl
  | k + 1 => by rw [wl, List.length_append, wl_length k]; simp; omega
theorem nodup_len {α : Type} [DecidableEq α] : ∀ (g l : List α), g.Nodup → (∀ v ∈ g, v ∈ l) → g.length ≤ l.length
  | [], _, _, _ => Nat.zero_le _
  | x :: g, l, hn, hs => by
    have hx : x ∈ l := hs x (List.mem_cons_self ..)
    obtain ⟨h1, h2⟩ := List.nodup_cons.1 hn
    have := nodup_len g (l.erase x) h2 fun v hv => by
      have hne : v ≠ x := fun e => h1 (e ▸ hv)
      exact (List.mem_erase_of_ne hne).2 (hs v (List.mem_cons_of_mem _ hv))
    rw [List.length_erase_of_mem hx] at this
    have := List.length_pos_of_mem hx
    simp only [List.length_cons]
    omega
theorem Gn.len {n : Nat} {g : List Int} (h : Gn n g) : g.length ≤ 2 * n := by
  have := nodup_len g (wl n) h.nodup fun v hv => (mem_wl _ _).2 (h.ways v hv)
  rw [wl_length] at this
  exact this
theorem Gn.cons {n : Nat} {g : List Int} (h : Gn n g) {w : Int} (hw : w ≠ 0 ∧ w.natAbs ≤ n) (hg : w ∉ g) : Gn n (w :: g) :=
  ⟨List.nodup_cons.2 ⟨hg, h.nodup⟩, fun v hv => (List.mem_cons.1 hv).elim (fun e => e ▸ hw) (h.ways v)⟩
theorem rd_in {nf : Int → Int} {f : Nat} {g : List Int} {w : Int} (h : w ∈ g) : rd nf f g w = [] := by
  cases f
  · rfl
  · unfold rd; rw [if_pos h]
theorem rd_out {nf : Int → Int} {f : Nat} {g : List Int} {w : Int} (h : w ∉ g) : rd nf (f + 1) g w = w :: rd nf f (w :: g) (nf w) := by
  conv => lhs; unfold rd
  rw [if_neg h]
def ways (n : Nat) (nf : Int → Int) : Prop := ∀ w, w ≠ 0 ∧ w.natAbs ≤ n → nf w ≠ 0 ∧ (nf w).natAbs ≤ n
theorem rd_gone {n : Nat} {nf : Int → Int} (hnf : ways n nf) : ∀ (f : Nat) (g : List Int) (w : Int), Gn n g → w ≠ 0 ∧ w.natAbs ≤ n → Gn n ((rd nf f g w).reverse ++ g)
  | 0, g, w, hg, _ => hg
  | f + 1, g, w, hg, hw => by
    by_cases h : w ∈ g
    · rw [rd_in h]; exact hg
    · rw [rd_out h, List.reverse_cons, List.append_assoc]
      exact rd_gone hnf f (w :: g) (nf w) (hg.cons hw h) (hnf w hw)
theorem rd_congr {n : Nat} {nf nf' : Int → Int} (hnf : ways n nf) (h : ∀ w, w ≠ 0 ∧ w.natAbs ≤ n → nf w = nf' w) : ∀ (f : Nat) (g : List Int) (w : Int), w ≠ 0 ∧ w.natAbs ≤ n → rd nf f g w = rd nf' f g w
  | 0, _, _, _ => rfl
  | f + 1, g, w, hw => by
    by_cases hg : w ∈ g
    · rw [rd_in hg, rd_in hg]
    · rw [rd_out hg, rd_out hg, ← h w hw, rd_congr hnf h f _ _ (hnf w hw)]
theorem rd_way {n : Nat} {nf : Int → Int} (hnf : ways n nf) : ∀ (f : Nat) (g : List Int) (w : Int), w ≠ 0 ∧ w.natAbs ≤ n → ∀ v ∈ rd nf f g w, v ≠ 0 ∧ v.natAbs ≤ n
  | 0, _, _, _, v, hv => by cases hv
  | f + 1, g, w, hw, v, hv => by
    by_cases hg : w ∈ g
    · rw [rd_in hg] at hv; cases hv
    · rw [rd_out hg] at hv
      rcases List.mem_cons.1 hv with e | e
      · rw [e]; exact hw
      · exact rd_way hnf f _ _ (hnf w hw) v e
/-- one round more, if there is any -/
def ad (l : List Int) : List (List Int) := if l = [] then [] else [l]
/-- rounds, from these ways on -/
def rnd (nf : Int → Int) (n : Nat) : List Int → List Int → List (List Int)
  | [], _ => []
  | w :: ws, g => ad (rd nf (2 * n + 1 - g.length) g w) ++ rnd nf n ws ((rd nf (2 * n + 1 - g.length) g w).reverse ++ g)
/-- the ways in the order of the rounds -/
def wf : Nat → List Int
  | 0 => []
  | k + 1 => wf k ++ [(k : Int) + 1, -((k : Int) + 1)]
def rounds (nf : Int → Int) (n : Nat) : List (List Int) := rnd nf n (wf n) []
theorem mem_wf : ∀ (k : Nat) (v : Int), v ∈ wf k ↔ v ≠ 0 ∧ v.natAbs ≤ k
  | 0, v => by simp [wf]
  | k + 1, v => by
    simp only [wf, List.mem_append, List.mem_cons, List.not_mem_nil, or_false, mem_wf k v]
    omega
theorem wf_length : ∀ k, (wf k).length = 2 * k
  | 0 => rfl
  | k + 1 => by rw [wf, List.length_append, wf_length k]; simp; omega
theorem wf_get : ∀ (k i : Nat), i < k → (wf k)[2 * i]? = some ((i : Int) + 1) ∧ (wf k)[2 * i + 1]? = some (-((i : Int) + 1))
  | 0, _, h => absurd h (Nat.not_lt_zero _)
  | k + 1, i, h => by
    have hl := wf_length k
    rcases Nat.lt_or_ge i k with c | c
    · obtain ⟨a, b⟩ := wf_get k i c
      rw [wf, List.getElem?_append_left (by omega), List.getElem?_append_left (by omega)]
      exact ⟨a, b⟩
    · have : i = k := by omega
      subst this
      rw [wf, List.getElem?_append_right (by omega), List.getElem?_append_right (by omega), hl]
      rw [show 2 * i - 2 * i = 0 by omega, show 2 * i + 1 - 2 * i = 1 by omega]
      exact ⟨rfl, rfl⟩
theorem rnd_congr {n : Nat} {nf nf' : Int → Int} (hnf : ways n nf) (h : ∀ w, w ≠ 0 ∧ w.natAbs ≤ n → nf w = nf' w) : ∀ (ws : List Int), (∀ w ∈ ws, w ≠ 0 ∧ w.natAbs ≤ n) → ∀ g, rnd nf n ws g = rnd nf' n ws g
  | [], _, _ => rfl
  | w :: ws, hw, g => by
    unfold rnd
    rw [rd_congr hnf h _ g w (hw w (List.mem_cons_self ..)), rnd_congr hnf h ws (fun v hv => hw v (List.mem_cons_of_mem _ hv))]
theorem rounds_congr {n : Nat} {nf nf' : Int → Int} (hnf : ways n nf) (h : ∀ w, w ≠ 0 ∧ w.natAbs ≤ n → nf w = nf' w) : rounds nf n = rounds nf' n :=
  rnd_congr hnf h _ (fun w hw => (mem_wf n w).1 hw) []
theorem nof_way {m : Arcs} : ways m.length (nof m) := fun w hw => by
  have hst : ∀ (xs : List Int), (∀ v ∈ xs, isWay m v) → ∀ st : Int × Sp, (st.1 = 0 ∨ isWay m st.1) → ((xs.foldl (nst m w) st).1 = 0 ∨ isWay m (xs.foldl (nst m w) st).1) := by
    intro xs
    induction xs with
    | nil => exact fun _ st h => h
    | cons v xs ih =>
      intro hx st h
      rw [List.foldl_cons]
      refine ih (fun u hu => hx u (List.mem_cons_of_mem _ hu)) _ ?_
      unfold nst
      split
      · exact h
      · split
        · exact .inr (hx v (List.mem_cons_self ..))
        · exact h
  unfold nof
  rcases hst (wl m.length) (fun v hv => (mem_wl _ _).1 hv) (0, (0, 0)) (.inl rfl) with h | h
  · rw [if_pos h]; omega
  · rw [if_neg h.1]; exact h
/-! ### the points of a round, their area -/
def wpts (m : Arcs) (w : Int) : List Sp := (if w < 0 then (arcOf m w).reverse else arcOf m w).dropLast
def pts (m : Arcs) (l : List Int) : List Sp := l.flatMap (wpts m)
def fanA (l : List Sp) : Int := fan l (l.length - 2)
theorem fanA_area (l : List Sp) : fanA l = area l := by
  unfold fanA
  match l with
  | [] => rfl
  | [p] =>
    simp [fan, area, areaTo, sumTo, nx, at_, cross_self]
  | [p, q] =>
    have := cross_swap p q
    simp [fan, area, areaTo, sumTo, nx, at_]
    omega
  | p :: q :: r :: l => exact fan_area _ (by simp)
end Shp
/-
  Plain facts on a triangle: in it or on its edges, told by the code and by the document (no program in sight).
-/
namespace Shp
def tri (p q r x : Sp) : Bool :=
  if side p q r = 0 then on p q x || on q r x || on r p x
  else !(decide (sgZ (side p q x) < 0) || decide (sgZ (side q r x) < 0) || decide (sgZ (side r p x) < 0)) || !(decide (0 < sgZ (side p q x)) || decide (0 < sgZ (side q r x)) || decide (0 < sgZ (side r p x)))
def tri2 (p q r x : Sp) : Bool :=
  if (on p q x || on q r x || on r p x) = true then true
  else decide (sgZ (side p q x) = sgZ (side q r x)) && decide (sgZ (side q r x) = sgZ (side r p x)) && !decide (sgZ (side p q x) = 0)
theorem tri_sum (p q r x : Sp) : side p q x + side q r x + side r p x = side p q r := by
  rw [← turn_side, ← turn_side, ← turn_side, ← turn_side, turn_cross, turn_cross, turn_cross, turn_cross, cross_swap r x, cross_swap q x, cross_swap p x]
  have q1 := cross_swap x p
  have q2 := cross_swap x q
  have q3 := cross_swap x r
  have := cross_swap p q
  have := cross_swap q r
  have := cross_swap r p
  have := cross_swap p x
  have := cross_swap q x
  have := cross_swap r x
  omega
theorem side_rot (p q r : Sp) : side q r p = side p q r := by
  rw [← turn_side, ← turn_side, turn_cross, turn_cross]; omega
theorem sg_gt (x : Int) : 0 < sgZ x ↔ 0 < x := by unfold sgZ; split <;> (try split) <;> omega
theorem sg_zero (x : Int) : sgZ x = 0 ↔ x = 0 := by unfold sgZ; split <;> (try split) <;> omega
/-- where a point lies, weighed by the triangles that it makes -/
theorem bary (p q r x : Sp) : (x.1 - p.1) * side p q r = side p q x * (r.1 - p.1) + side r p x * (q.1 - p.1) ∧ (x.2 - p.2) * side p q r = side p q x * (r.2 - p.2) + side r p x * (q.2 - p.2) := by
  obtain ⟨a, b⟩ := p; obtain ⟨c, d⟩ := q; obtain ⟨e, f⟩ := r; obtain ⟨g, h⟩ := x
  have e1 : ∃ u, c - a = u := ⟨_, rfl⟩
  have e2 : ∃ u, d - b = u := ⟨_, rfl⟩
  have e3 : ∃ u, e - a = u := ⟨_, rfl⟩
  have e4 : ∃ u, f - b = u := ⟨_, rfl⟩
  have e5 : ∃ u, g - a = u := ⟨_, rfl⟩
  have e6 : ∃ u, h - b = u := ⟨_, rfl⟩
  obtain ⟨u1, e1⟩ := e1; obtain ⟨u2, e2⟩ := e2; obtain ⟨u3, e3⟩ := e3; obtain ⟨u4, e4⟩ := e4; obtain ⟨u5, e5⟩ := e5; obtain ⟨u6, e6⟩ := e6
  have s1 : side (a, b) (c, d) (e, f) = u1 * u4 - u2 * u3 := by unfold side; simp only [e1, e2, e3, e4]
  have s2 : side (a, b) (c, d) (g, h) = u1 * u6 - u2 * u5 := by unfold side; simp only [e1, e2, e5, e6]
  have s3 : side (e, f) (a, b) (g, h) = u5 * u4 - u6 * u3 := by
    unfold side
    simp only
    rw [show a - e = -u3 by omega, show b - f = -u4 by omega, show g - e = u5 - u3 by omega, show h - f = u6 - u4 by omega]
    simp only [Int.mul_sub, Int.neg_mul]
    rw [Int.mul_comm u3 u6, Int.mul_comm u4 u5, Int.mul_comm u3 u4]
    omega
  rw [s1, s2, s3]
  simp only [e1, e2, e3, e4, e5, e6]
  constructor
  · simp only [Int.mul_sub, Int.sub_mul]
    have x1 : u5 * (u1 * u4) = u5 * u4 * u1 := by rw [Int.mul_comm u1 u4, Int.mul_assoc]
    have x2 : u5 * (u2 * u3) = u2 * u5 * u3 := by rw [Int.mul_comm u2 u5, Int.mul_assoc]
    have x3 : u1 * u6 * u3 = u6 * u3 * u1 := by rw [Int.mul_comm u1 u6, Int.mul_assoc, Int.mul_assoc, Int.mul_comm u1 u3]
    omega
  · simp only [Int.mul_sub, Int.sub_mul]
    have x1 : u6 * (u1 * u4) = u1 * u6 * u4 := by rw [Int.mul_comm u1 u6, Int.mul_assoc]
    have x2 : u6 * (u2 * u3) = u6 * u3 * u2 := by rw [Int.mul_comm u2 u3, Int.mul_assoc]
    have x3 : u2 * u5 * u4 = u5 * u4 * u2 := by rw [Int.mul_comm u2 u5, Int.mul_assoc, Int.mul_assoc, Int.mul_comm u2 u4]
    omega
/-- a share of a way along a line -/
theorem share {t u c D : Int} (hD : 0 < D) (h : t * D = c * u) (hc : 0 ≤ c) (hd : c ≤ D) : min 0 u ≤ t ∧ t ≤ max 0 u := by
  rcases Int.le_total 0 u with g | g
  · have h1 : 0 ≤ c * u := Int.mul_nonneg hc g
    have h2 : c * u ≤ D * u := Int.mul_le_mul_of_nonneg_right hd g
    have h3 : 0 ≤ t := le_of_mul hD (by rw [Int.zero_mul, h]; exact h1)
    have h4 : t ≤ u := le_of_mul hD (by rw [h, Int.mul_comm u D]; exact h2)
    omega
  · have h1 : c * u ≤ 0 := Int.mul_nonpos_of_nonneg_of_nonpos hc g
    have h2 : D * u ≤ c * u := Int.mul_le_mul_of_nonpos_right hd g
    have h3 : t ≤ 0 := le_of_mul hD (by rw [Int.zero_mul, h]; exact h1)
    have h4 : u ≤ t := le_of_mul hD (by rw [h, Int.mul_comm u D]; exact h2)
    omega
theorem unshare {t u c D : Int} (hD : 0 < D) (h : t * D = c * u) (h1 : min 0 u ≤ t) (h2 : t ≤ max 0 u) (hu : u ≠ 0) : 0 ≤ c ∧ c ≤ D := by
  rcases Int.lt_or_gt_of_ne hu with g | g
  · have h3 : t * D ≤ 0 := Int.mul_nonpos_of_nonpos_of_nonneg (by omega) (by omega)
    have h4 : u * D ≤ t * D := Int.mul_le_mul_of_nonneg_right (by omega) (by omega)
    rw [h] at h3 h4
    constructor
    · rcases Int.lt_or_le c 0 with k | k
      · have := Int.mul_pos_of_neg_of_neg k g; omega
      · exact k
    · rcases Int.lt_or_le D c with k | k
      · have : c * u < D * u := Int.mul_lt_mul_of_neg_right k g
        rw [Int.mul_comm u D] at h4; omega
      · exact k
  · have h3 : 0 ≤ t * D := Int.mul_nonneg (by omega) (by omega)
    have h4 : t * D ≤ u * D := Int.mul_le_mul_of_nonneg_right (by omega) (by omega)
    rw [h] at h3 h4
    constructor
    · rcases Int.lt_or_le c 0 with k | k
      · have := Int.mul_neg_of_neg_of_pos k g; omega
      · exact k
    · rcases Int.lt_or_le D c with k | k
      · have : D * u < c * u := Int.mul_lt_mul_of_pos_right k g
        rw [Int.mul_comm u D] at h4; omega
      · exact k
/-- on an edge: of a triangle that goes against the clock -/
theorem on_edge {p q r x : Sp} (hD : 0 < side p q r) (ha : side p q x = 0) : on p q x = true ↔ 0 ≤ side q r x ∧ 0 ≤ side r p x := by
  have hs := tri_sum p q r x
  obtain ⟨b1, b2⟩ := bary p q r x
  rw [ha, Int.zero_mul, Int.zero_add] at b1 b2
  have hon : on p q x = true ↔ (min 0 (q.1 - p.1) ≤ x.1 - p.1 ∧ x.1 - p.1 ≤ max 0 (q.1 - p.1)) ∧ (min 0 (q.2 - p.2) ≤ x.2 - p.2 ∧ x.2 - p.2 ≤ max 0 (q.2 - p.2)) := by
    unfold on
    rw [ha]
    simp only [Bool.and_eq_true, decide_eq_true_eq, beq_self_eq_true, true_and]
    omega
  rw [hon]
  constructor
  · rintro ⟨⟨h1, h2⟩, h3, h4⟩
    by_cases c : q.1 - p.1 = 0
    · by_cases d : q.2 - p.2 = 0
      · exfalso
        unfold side at hD
        rw [c, d] at hD
        simp at hD
      · have := unshare hD b2 h3 h4 d
        omega
    · have := unshare hD b1 h1 h2 c
      omega
  · rintro ⟨h1, h2⟩
    exact ⟨share hD b1 h2 (by omega), share hD b2 h2 (by omega)⟩
theorem tri_pos {p q r x : Sp} (hD : 0 < side p q r) : (on p q x || on q r x || on r p x) = true ↔ (0 ≤ side p q x ∧ 0 ≤ side q r x ∧ 0 ≤ side r p x) ∧ (side p q x = 0 ∨ side q r x = 0 ∨ side r p x = 0) := by
  have r1 := side_rot p q r
  have r2 := side_rot q r p
  have e1 := fun h => on_edge (x := x) hD h
  have e2 := fun h => on_edge (p := q) (q := r) (r := p) (x := x) (by omega) h
  have e3 := fun h => on_edge (p := r) (q := p) (r := q) (x := x) (by omega) h
  simp only [Bool.or_eq_true]
  constructor
  · rintro ((h | h) | h)
    · have := on_side h
      have := (e1 this).1 h
      omega
    · have := on_side h
      have := (e2 this).1 h
      omega
    · have := on_side h
      have := (e3 this).1 h
      omega
  · rintro ⟨⟨h1, h2, h3⟩, h | h | h⟩
    · exact .inl (.inl ((e1 h).2 ⟨h2, h3⟩))
    · exact .inl (.inr ((e2 h).2 ⟨h3, h1⟩))
    · exact .inr ((e3 h).2 ⟨h1, h2⟩)
theorem tri_any {p q r x : Sp} (hD : side p q r ≠ 0) : (on p q x || on q r x || on r p x) = true ↔ ((0 ≤ side p q x ∧ 0 ≤ side q r x ∧ 0 ≤ side r p x) ∨ (side p q x ≤ 0 ∧ side q r x ≤ 0 ∧ side r p x ≤ 0)) ∧ (side p q x = 0 ∨ side q r x = 0 ∨ side r p x = 0) := by
  have hs := tri_sum p q r x
  rcases Int.lt_or_gt_of_ne hD with c | c
  · have t := tri_pos (p := q) (q := p) (r := r) (x := x) (by rw [side_swap]; omega)
    have o : (on p q x || on q r x || on r p x) = (on q p x || on p r x || on r q x) := by
      rw [on_swap p q x, on_swap r p x, on_swap q r x, Bool.or_assoc, Bool.or_assoc, Bool.or_comm (on q r x)]
    rw [o, t, side_swap p q x, side_swap r p x, side_swap q r x]
    omega
  · rw [tri_pos c]
    omega
theorem tri_eq (p q r x : Sp) : tri p q r x = tri2 p q r x := by
  have hs := tri_sum p q r x
  unfold tri tri2
  by_cases hD : side p q r = 0
  · rw [if_pos hD]
    split
    · assumption
    · rename_i h
      rw [Bool.not_eq_true] at h
      rw [h, eq_comm, Bool.eq_false_iff]
      intro h2
      simp only [Bool.and_eq_true, decide_eq_true_eq, Bool.not_eq_true', decide_eq_false_iff_not] at h2
      have a1 := sg_lt (side p q x)
      have a2 := sg_lt (side q r x)
      have a3 := sg_lt (side r p x)
      have b1 := sg_gt (side p q x)
      have b2 := sg_gt (side q r x)
      have b3 := sg_gt (side r p x)
      omega
  · rw [if_neg hD]
    have t := tri_any (x := x) hD
    have a1 := sg_lt (side p q x)
    have a2 := sg_lt (side q r x)
    have a3 := sg_lt (side r p x)
    have b1 := sg_gt (side p q x)
    have b2 := sg_gt (side q r x)
    have b3 := sg_gt (side r p x)
    split
    · rename_i h
      rw [t] at h
      simp only [Bool.or_eq_true, Bool.not_eq_true', Bool.or_eq_false_iff, decide_eq_false_iff_not]
      omega
    · rename_i h
      rw [t] at h
      rw [Bool.eq_iff_iff]
      simp only [Bool.or_eq_true, Bool.and_eq_true, Bool.not_eq_true', Bool.or_eq_false_iff, decide_eq_false_iff_not, decide_eq_true_eq]
      have c1 : -1 ≤ sgZ (side p q x) ∧ sgZ (side p q x) ≤ 1 := by unfold sgZ; split <;> (try split) <;> omega
      have c2 : -1 ≤ sgZ (side q r x) ∧ sgZ (side q r x) ≤ 1 := by unfold sgZ; split <;> (try split) <;> omega
      have c3 : -1 ≤ sgZ (side r p x) ∧ sgZ (side r p x) ≤ 1 := by unfold sgZ; split <;> (try split) <;> omega
      omega
end Shp
/-
  Pieces of arcs: the walks.
-/
namespace Go.Proofs.YtcfalmdfohphoaaDoor
open Go Go.Ab
set_option maxRecDepth 100000
theorem isNode_any (G : List (Nat × Value)) (a : List (Int × Int)) (k : Nat) (x : Int × Int) (hk : k + 1 < a.length) (hl : a.length ≤ 1000000) (K : AV → List AO → Prop) (hK : K (.fz .bool (Shp.ndB a k x)) []) : ACall Tryd.prog G 46 [.fz (.list SpT) a, .fz int k, .fz SpT x] [] K := by
  have f1 : ((a.length : Int) - 1).toNat = a.length - 1 := by omega
  have e0 : a.getD (Int.toNat 0) SpT.dft = Shp.at_ a 0 := rfl
  have e1 : a.getD (Int.toNat ((a.length : Int) - 1)) SpT.dft = Shp.at_ a (a.length - 1) := by rw [f1]; rfl
  refine acall_mk (E := envAt G 33 0) (envOk _ _ _) Tryd.func46 rfl rfl rfl rfl rfl ?_
  (repeat' (first | exact trivial | refine And.intro ?_ ?_ | (intro hb; try simp at hb) | omega | exact rfl | refine aRegion_auto (by decide +kernel) ?_ | refine ⟨_, _, REnt.drop ⟨rfl, rfl⟩, ?_⟩ | fail))
  all_goals try (simp [wantB]; simp_all; done)
  refine kbl hK ?_
  have q0 := eqS x (Shp.at_ a 0)
  have q1 := eqS x (Shp.at_ a (a.length - 1))
  rw [e0, e1]
  show _ = bif (bif (k : Int) == 0 then eqL [x.1, x.2] [(Shp.at_ a 0).1, (Shp.at_ a 0).2] else false) then true else bif (k : Int) == (a.length : Int) - 2 then eqL [x.1, x.2] [(Shp.at_ a (a.length - 1)).1, (Shp.at_ a (a.length - 1)).2] else false
  rw [q0, q1]
  unfold Shp.ndB
  have g0 : ((k : Int) == 0) = decide (k = 0) := by rw [Bool.eq_iff_iff]; simp
  have g1 : ((k : Int) == (a.length : Int) - 2) = decide (k + 2 = a.length) := by rw [Bool.eq_iff_iff]; simp; omega
  rw [g0, g1]
  cases decide (k = 0) <;> cases decide (k + 2 = a.length) <;> cases decide (x = Shp.at_ a 0) <;> cases decide (x = Shp.at_ a (a.length - 1)) <;> rfl
theorem in_any (G : List (Nat × Value)) (p q r x : Int × Int) (hp : plB p = true) (hq : plB q = true) (hr : plB r = true) (hx : plB x = true) (K : AV → List AO → Prop) (hK : K (.fz .bool (Shp.tri p q r x)) []) : ACall Tryd.prog G 52 [.fz SpT p, .fz SpT q, .fz SpT r, .fz SpT x] [] K := by
  refine acall_mk (E := envAt G 72 0) (envOk _ _ _) Tryd.func52 rfl rfl rfl rfl rfl ?_
  (repeat' (first | exact trivial | refine And.intro ?_ ?_ | (intro hb; try simp at hb) | omega | exact rfl | refine aRegion_auto (by decide +kernel) ?_ | fail))
  apply exEff
  · refine acall_conv [.dat SpT, .dat SpT, .dat SpT] _ _ _ rfl trivial (acall_frame0 rfl (side_any _ p q x hp hq hx _ ?_))
    exact ⟨rfl, rfl⟩
  (repeat' (first | exact trivial | refine And.intro ?_ ?_ | (intro hb; try simp at hb) | omega | exact rfl | refine aRegion_auto (by decide +kernel) ?_ | fail))
  apply exEff
  · refine acall_frame0 rfl (sign_any _ _ _ ?_)
    exact ⟨rfl, rfl⟩
  (repeat' (first | exact trivial | refine And.intro ?_ ?_ | (intro hb; try simp at hb) | omega | exact rfl | refine aRegion_auto (by decide +kernel) ?_ | fail))
  apply exEff
  · refine acall_conv [.dat SpT, .dat SpT, .dat SpT] _ _ _ rfl trivial (acall_frame0 rfl (side_any _ q r x hq hr hx _ ?_))
    exact ⟨rfl, rfl⟩
  (repeat' (first | exact trivial | refine And.intro ?_ ?_ | (intro hb; try simp at hb) | omega | exact rfl | refine aRegion_auto (by decide +kernel) ?_ | fail))
  apply exEff
  · refine acall_frame0 rfl (sign_any _ _ _ ?_)
    exact ⟨rfl, rfl⟩
  (repeat' (first | exact trivial | refine And.intro ?_ ?_ | (intro hb; try simp at hb) | omega | exact rfl | refine aRegion_auto (by decide +kernel) ?_ | fail))
  apply exEff
  · refine acall_conv [.dat SpT, .dat SpT, .dat SpT] _ _ _ rfl trivial (acall_frame0 rfl (side_any _ r p x hr hp hx _ ?_))
    exact ⟨rfl, rfl⟩
  (repeat' (first | exact trivial | refine And.intro ?_ ?_ | (intro hb; try simp at hb) | omega | exact rfl | refine aRegion_auto (by decide +kernel) ?_ | fail))
  apply exEff
  · refine acall_frame0 rfl (sign_any _ _ _ ?_)
    exact ⟨rfl, rfl⟩
  (repeat' (first | exact trivial | refine And.intro ?_ ?_ | (intro hb; try simp at hb) | omega | exact rfl | refine aRegion_auto (by decide +kernel) ?_ | fail))
  refine acall_conv [.dat SpT, .dat SpT, .dat SpT] _ _ _ rfl trivial (acall_frame0 rfl (side_any _ p q r hp hq hr _ ?_))
  unfold Shp.tri at hK
  by_cases c : Shp.side p q r = 0
  · rw [if_pos c] at hK
    (repeat' (first | exact trivial | refine And.intro ?_ ?_ | (intro hb; try simp at hb) | omega | exact rfl | refine aRegion_auto (by decide +kernel) ?_ | fail))
    refine acall_conv [.dat SpT, .dat SpT, .dat SpT] _ _ _ rfl trivial (acall_frame0 rfl (on_any _ p q x hp hq hx _ ?_))
    (repeat' (first | exact trivial | exact fun h => h | refine And.intro ?_ ?_ | (intro hb; try simp at hb) | omega | exact rfl | exact Nat.le_refl _ | (show _ + 1 ≤ 4294967296; omega) | (show _ + 1 ≤ 5864062014634; omega) | (dsimp only; omega) | (show (_ : Int) ≤ (_ : Int); omega) | (show _ < List.length _; simp only [List.length_set, List.length_append, List.length_take]; omega) | (show wantB _ _ = true; simp <;> omega) | (show (_ : Bool) = _; simp_all; done) | (exfalso; omega) | refine aRegion_auto (by decide +kernel) ?_ | fail))
    refine acall_conv [.dat SpT, .dat SpT, .dat SpT] _ _ _ rfl trivial (acall_frame0 rfl (on_any _ q r x hq hr hx _ ?_))
    (repeat' (first | exact trivial | exact fun h => h | refine And.intro ?_ ?_ | (intro hb; try simp at hb) | omega | exact rfl | exact Nat.le_refl _ | (show _ + 1 ≤ 4294967296; omega) | (show _ + 1 ≤ 5864062014634; omega) | (dsimp only; omega) | (show (_ : Int) ≤ (_ : Int); omega) | (show _ < List.length _; simp only [List.length_set, List.length_append, List.length_take]; omega) | (show wantB _ _ = true; simp <;> omega) | (show (_ : Bool) = _; simp_all; done) | (exfalso; omega) | refine aRegion_auto (by decide +kernel) ?_ | fail))
    refine acall_conv [.dat SpT, .dat SpT, .dat SpT] _ _ _ rfl trivial (acall_frame0 rfl (on_any _ r p x hr hp hx _ ?_))
    (repeat' (first | exact trivial | refine And.intro ?_ ?_ | (intro hb; try simp at hb) | omega | exact rfl | refine aRegion_auto (by decide +kernel) ?_ | refine ⟨_, _, REnt.drop ⟨rfl, rfl⟩, ?_⟩ | fail))
    all_goals
      refine kbl hK ?_
      simp_all
  · rw [if_neg c] at hK
    (repeat' (first | exact trivial | exact fun h => h | refine And.intro ?_ ?_ | (intro hb; try simp at hb) | omega | exact rfl | exact Nat.le_refl _ | (show _ + 1 ≤ 4294967296; omega) | (show _ + 1 ≤ 5864062014634; omega) | (dsimp only; omega) | (show (_ : Int) ≤ (_ : Int); omega) | (show _ < List.length _; simp only [List.length_set, List.length_append, List.length_take]; omega) | (show wantB _ _ = true; simp <;> omega) | (show (_ : Bool) = _; simp_all; done) | (exfalso; omega) | refine aRegion_auto (by decide +kernel) ?_ | refine ⟨_, _, REnt.drop ⟨rfl, rfl⟩, ?_⟩ | fail))
    refine kbl hK ?_
    generalize decide (Shp.sgZ (Shp.side p q x) < 0) = b1
    generalize decide (Shp.sgZ (Shp.side q r x) < 0) = b2
    generalize decide (Shp.sgZ (Shp.side r p x) < 0) = b3
    generalize decide (0 < Shp.sgZ (Shp.side p q x)) = b4
    generalize decide (0 < Shp.sgZ (Shp.side q r x)) = b5
    generalize decide (0 < Shp.sgZ (Shp.side r p x)) = b6
    cases b1 <;> cases b2 <;> cases b3 <;> cases b4 <;> cases b5 <;> cases b6 <;> rfl
theorem inTriangle_any (G : List (Nat × Value)) (p q r x : Int × Int) (hp : plB p = true) (hq : plB q = true) (hr : plB r = true) (hx : plB x = true) (K : AV → List AO → Prop) (hK : K (.fz .bool (Shp.tri2 p q r x)) []) : ACall Tryd.prog G 60 [.fz SpT p, .fz SpT q, .fz SpT r, .fz SpT x] [] K := by
  refine acall_mk (E := envAt G 61 0) (envOk _ _ _) Tryd.func60 rfl rfl rfl rfl rfl ?_
  (repeat' (first | exact trivial | exact fun h => h | refine And.intro ?_ ?_ | (intro hb; try simp at hb) | omega | exact rfl | exact Nat.le_refl _ | (show _ + 1 ≤ 4294967296; omega) | (show _ + 1 ≤ 5864062014634; omega) | (dsimp only; omega) | (show (_ : Int) ≤ (_ : Int); omega) | (show _ < List.length _; simp only [List.length_set, List.length_append, List.length_take]; omega) | (show wantB _ _ = true; simp <;> omega) | (show (_ : Bool) = _; simp_all; done) | (exfalso; omega) | refine aRegion_auto (by decide +kernel) ?_ | fail))
  refine acall_conv [.dat SpT, .dat SpT, .dat SpT] _ _ _ rfl trivial (acall_frame0 rfl (onPiece_any _ p q x hp hq hx _ ?_))
  (repeat' (first | exact trivial | exact fun h => h | refine And.intro ?_ ?_ | (intro hb; try simp at hb) | omega | exact rfl | exact Nat.le_refl _ | (show _ + 1 ≤ 4294967296; omega) | (show _ + 1 ≤ 5864062014634; omega) | (dsimp only; omega) | (show (_ : Int) ≤ (_ : Int); omega) | (show _ < List.length _; simp only [List.length_set, List.length_append, List.length_take]; omega) | (show wantB _ _ = true; simp <;> omega) | (show (_ : Bool) = _; simp_all; done) | (exfalso; omega) | refine aRegion_auto (by decide +kernel) ?_ | fail))
  refine acall_conv [.dat SpT, .dat SpT, .dat SpT] _ _ _ rfl trivial (acall_frame0 rfl (onPiece_any _ q r x hq hr hx _ ?_))
  (repeat' (first | exact trivial | exact fun h => h | refine And.intro ?_ ?_ | (intro hb; try simp at hb) | omega | exact rfl | exact Nat.le_refl _ | (show _ + 1 ≤ 4294967296; omega) | (show _ + 1 ≤ 5864062014634; omega) | (dsimp only; omega) | (show (_ : Int) ≤ (_ : Int); omega) | (show _ < List.length _; simp only [List.length_set, List.length_append, List.length_take]; omega) | (show wantB _ _ = true; simp <;> omega) | (show (_ : Bool) = _; simp_all; done) | (exfalso; omega) | refine aRegion_auto (by decide +kernel) ?_ | fail))
  refine acall_conv [.dat SpT, .dat SpT, .dat SpT] _ _ _ rfl trivial (acall_frame0 rfl (onPiece_any _ r p x hr hp hx _ ?_))
  unfold Shp.tri2 at hK
  by_cases c : (Shp.on p q x || Shp.on q r x || Shp.on r p x) = true
  · rw [if_pos c] at hK
    (repeat' (first | exact trivial | exact fun h => h | refine And.intro ?_ ?_ | (intro hb; try simp at hb) | omega | exact rfl | exact Nat.le_refl _ | (show _ + 1 ≤ 4294967296; omega) | (show _ + 1 ≤ 5864062014634; omega) | (dsimp only; omega) | (show (_ : Int) ≤ (_ : Int); omega) | (show _ < List.length _; simp only [List.length_set, List.length_append, List.length_take]; omega) | (show wantB _ _ = true; simp <;> omega) | (show (_ : Bool) = _; simp_all; done) | (exfalso; omega) | refine aRegion_auto (by decide +kernel) ?_ | refine ⟨_, _, REnt.drop ⟨rfl, rfl⟩, ?_⟩ | fail))
    · exact hK
    · obtain ⟨⟨h1, h2⟩, h3⟩ := hb
      rw [h1, h2, h3] at c
      cases c
  · rw [if_neg c] at hK
    (repeat' (first | exact trivial | exact fun h => h | refine And.intro ?_ ?_ | (intro hb; try simp at hb) | omega | exact rfl | exact Nat.le_refl _ | (show _ + 1 ≤ 4294967296; omega) | (show _ + 1 ≤ 5864062014634; omega) | (dsimp only; omega) | (show (_ : Int) ≤ (_ : Int); omega) | (show _ < List.length _; simp only [List.length_set, List.length_append, List.length_take]; omega) | (show wantB _ _ = true; simp <;> omega) | (show (_ : Bool) = _; simp_all; done) | (exfalso; omega) | refine aRegion_auto (by decide +kernel) ?_ | fail))
    · exact absurd (by simp only [Bool.or_eq_true]; exact hb) c
    refine acall_conv [.dat SpT, .dat SpT, .dat SpT] _ _ _ rfl trivial (acall_frame0 rfl (turn_any _ p q x hp hq hx _ ?_))
    (repeat' (first | exact trivial | refine And.intro ?_ ?_ | (intro hb; try simp at hb) | omega | exact rfl | refine aRegion_auto (by decide +kernel) ?_ | fail))
    refine acall_frame0 rfl (signOf_any _ _ _ ?_)
    (repeat' (first | exact trivial | refine And.intro ?_ ?_ | (intro hb; try simp at hb) | omega | exact rfl | refine aRegion_auto (by decide +kernel) ?_ | fail))
    refine acall_conv [.dat SpT, .dat SpT, .dat SpT] _ _ _ rfl trivial (acall_frame0 rfl (turn_any _ q r x hq hr hx _ ?_))
    (repeat' (first | exact trivial | refine And.intro ?_ ?_ | (intro hb; try simp at hb) | omega | exact rfl | refine aRegion_auto (by decide +kernel) ?_ | fail))
    refine acall_frame0 rfl (signOf_any _ _ _ ?_)
    (repeat' (first | exact trivial | refine And.intro ?_ ?_ | (intro hb; try simp at hb) | omega | exact rfl | refine aRegion_auto (by decide +kernel) ?_ | fail))
    refine acall_conv [.dat SpT, .dat SpT, .dat SpT] _ _ _ rfl trivial (acall_frame0 rfl (turn_any _ r p x hr hp hx _ ?_))
    (repeat' (first | exact trivial | refine And.intro ?_ ?_ | (intro hb; try simp at hb) | omega | exact rfl | refine aRegion_auto (by decide +kernel) ?_ | fail))
    refine acall_frame0 rfl (signOf_any _ _ _ ?_)
    (repeat' (first | exact trivial | exact fun h => h | refine And.intro ?_ ?_ | (intro hb; try simp at hb) | omega | exact rfl | exact Nat.le_refl _ | (show _ + 1 ≤ 4294967296; omega) | (show _ + 1 ≤ 5864062014634; omega) | (dsimp only; omega) | (show (_ : Int) ≤ (_ : Int); omega) | (show _ < List.length _; simp only [List.length_set, List.length_append, List.length_take]; omega) | (show wantB _ _ = true; simp <;> omega) | (show (_ : Bool) = _; simp_all; done) | (exfalso; omega) | refine aRegion_auto (by decide +kernel) ?_ | refine ⟨_, _, REnt.drop ⟨rfl, rfl⟩, ?_⟩ | fail))
    refine kbl hK ?_
    rw [Bool.eq_iff_iff]
    simp [and_assoc]
end Go.Proofs.YtcfalmdfohphoaaDoor
/-
  All pieces of a map: the walk.
-/
namespace Shp
abbrev Pc := Sp × Sp × Int × Int
def pcA (a : List Sp) (i n : Nat) : List Pc := (List.range n).map fun k => (at_ a k, at_ a (k + 1), (i : Int), (k : Int))
def pcs (m : Arcs) : Nat → List Pc
  | 0 => []
  | i + 1 => pcs m i ++ pcA (arc m i) i ((arc m i).length - 1)
theorem pcA_len (a : List Sp) (i n : Nat) : (pcA a i n).length = n := by simp [pcA]
theorem pcA_next (a : List Sp) (i n : Nat) : pcA a i (n + 1) = pcA a i n ++ [(at_ a n, at_ a (n + 1), (i : Int), (n : Int))] := by
  unfold pcA; rw [List.range_succ, List.map_append]; rfl
theorem pcs_len {m : Arcs} (h : ∀ i, i < m.length → (arc m i).length ≤ 10000) : ∀ j, j ≤ m.length → (pcs m j).length ≤ j * 10000
  | 0, _ => by simp [pcs]
  | j + 1, hj => by
    have ih := pcs_len h j (by omega)
    have := h j (by omega)
    rw [pcs, List.length_append, pcA_len]
    omega
theorem arc_getD (m : Arcs) (i : Nat) : m.getD i [] = arc m i := rfl
end Shp
namespace Go.Proofs.YtcfalmdfohphoaaDoor
open Go Go.Ab
set_option maxRecDepth 100000
abbrev PcT : Ty := .pair SpT (.pair SpT (.pair int int))
set_option maxHeartbeats 4000000 in
theorem pieces_any (G : List (Nat × Value)) (m : Shp.Arcs) (B : MB m) (K : AV → List AO → Prop) (hK : K (.fz (.list PcT) (Shp.pcs m m.length)) []) : ACall Tryd.prog G 39 [.fz MpT m] [] K := by
  have hb0 := B.few
  refine acall_mk (E := envAt G 39 0) (envOk _ _ _) Tryd.func39 rfl rfl rfl rfl rfl ?_
  (repeat' (first | exact trivial | refine And.intro ?_ ?_ | (intro hb; try simp at hb) | omega | exact rfl | refine aRegion_auto (by decide +kernel) ?_ | fail))
  refine ⟨Nat, fun i => ⟨[(1, .ptr 0 0), (3, .ref 1 0 (Shp.pcs m i).length), (8, .fz (.list (.list SpT)) m), (9, .fz int m.length), (10, .fz int i)], [.box [.fz (.list (.list SpT)) m], .row PcT (Shp.pcs m i)]⟩, fun i => i ≤ m.length, fun i => m.length - i, 0, Nat.zero_le _, (Ent.nil 3 PcT rfl).trans (Ent.sub ?_ ?_), ?_⟩
  · rfl
  · (repeat' (first | exact trivial | exact rfl | refine And.intro ?_ ?_))
  intro i hi
  have hi : i ≤ m.length := hi
  have hpl := Shp.pcs_len B.len i hi
  by_cases hlt : i < m.length
  · have h2 := B.two i hlt
    have h3 := B.len i hlt
    obtain ⟨a, ha⟩ : ∃ a, Shp.arc m i = a := ⟨_, rfl⟩
    obtain ⟨L, hL⟩ : ∃ L, Shp.pcs m i = L := ⟨_, rfl⟩
    have hg : List.getD m (Int.toNat (i : Int)) SpT.list.dft = a := ha
    have hnx : Shp.pcs m (i + 1) = L ++ Shp.pcA a i (a.length - 1) := by rw [Shp.pcs, ha, hL]
    rw [ha] at h2 h3
    show awp _ _ _ ⟨[(1, .ptr 0 0), (3, .ref 1 0 (Shp.pcs m i).length), (8, .fz (.list (.list SpT)) m), (9, .fz int m.length), (10, .fz int i)], [.box [.fz (.list (.list SpT)) m], .row PcT (Shp.pcs m i)]⟩
    rw [hL] at hpl ⊢
    (repeat' (first | exact trivial | refine And.intro ?_ ?_ | (intro hb; try simp at hb) | omega | exact rfl | refine aRegion_auto (by decide +kernel) ?_ | fail))
    rw [hg]
    (repeat' (first | exact trivial | refine And.intro ?_ ?_ | (intro hb; try simp at hb) | omega | exact rfl | refine aRegion_auto (by decide +kernel) ?_ | fail))
    refine ⟨Nat, fun k => ⟨[(1, .ptr 0 0), (3, .ref 1 0 (L ++ Shp.pcA a i k).length), (4, .fz int i), (5, .fz (.list SpT) a), (8, .fz (.list (.list SpT)) m), (9, .fz int m.length), (10, .fz int i), (17, .fz int ((a.length : Int) - 1)), (18, .fz int k)], [.box [.fz (.list (.list SpT)) m], .row PcT (L ++ Shp.pcA a i k)]⟩, fun k => k + 1 ≤ a.length, fun k => a.length - k, 0, by omega, Ent.sub ?_ ?_, ?_⟩
    · rw [show Shp.pcA a i 0 = [] from rfl, List.append_nil]
    · (repeat' (first | exact trivial | exact rfl | refine And.intro ?_ ?_))
      · exact congrArg (fun l : List Shp.Pc => AV.ref 1 0 l.length) (show L = L ++ Shp.pcA a i 0 by rw [show Shp.pcA a i 0 = [] from rfl, List.append_nil])
      · exact congrArg (fun l => AV.fz (.list SpT) l) hg
      · exact congrArg (fun l : List Shp.Sp => AV.fz int ((l.length : Int) - 1)) hg
    intro k hk
    have hk : k + 1 ≤ a.length := hk
    have hnk := Shp.pcA_next a i k
    have hlk : (L ++ Shp.pcA a i k).length ≤ i * 10000 + k := by rw [List.length_append, Shp.pcA_len]; omega
    show awp _ _ _ ⟨[(1, .ptr 0 0), (3, .ref 1 0 (L ++ Shp.pcA a i k).length), (4, .fz int i), (5, .fz (.list SpT) a), (8, .fz (.list (.list SpT)) m), (9, .fz int m.length), (10, .fz int i), (17, .fz int ((a.length : Int) - 1)), (18, .fz int k)], [.box [.fz (.list (.list SpT)) m], .row PcT (L ++ Shp.pcA a i k)]⟩
    obtain ⟨M, hM⟩ : ∃ M, L ++ Shp.pcA a i k = M := ⟨_, rfl⟩
    rw [hM] at hlk ⊢
    by_cases hkl : k + 1 < a.length
    · (repeat' (first | exact trivial | refine And.intro ?_ ?_ | (intro hb; try simp at hb) | omega | exact rfl | refine aRegion_auto (by decide +kernel) ?_ | fail))
      (apply exEff; focus (repeat' (first | exact ⟨rfl, rfl⟩ | exact trivial | refine And.intro ?_ ?_ | omega | exact Nat.le_refl _ | (show _ + 1 ≤ 4294967296; omega) | (show _ + 1 ≤ 5864062014634; omega))))
      (repeat' (first | exact trivial | refine And.intro ?_ ?_ | (intro hb; try simp at hb) | omega | exact rfl | refine aRegion_auto (by decide +kernel) ?_ | fail))
      (apply exEff; focus (repeat' (first | exact ⟨rfl, rfl⟩ | exact trivial | refine And.intro ?_ ?_ | omega | exact Nat.le_refl _ | (show _ + 1 ≤ 4294967296; omega) | (show _ + 1 ≤ 5864062014634; omega))))
      (repeat' (first | exact trivial | refine And.intro ?_ ?_ | (intro hb; try simp at hb) | omega | exact rfl | refine aRegion_auto (by decide +kernel) ?_ | fail))
      refine ⟨k + 1, by show k + 1 + 1 ≤ a.length; omega, by show a.length - (k + 1) < a.length - k; omega, Ent.ren [0, 3] rfl ?_ ?_⟩
      · (repeat' (first | exact trivial | exact rfl | refine And.intro ?_ ?_))
        refine congrArg (fun l => some (AO.row PcT l)) (?_ : List.take M.length M ++ [(Shp.at_ a k, Shp.at_ a (k + 1), (i : Int), (k : Int))] = L ++ Shp.pcA a i (k + 1))
        rw [List.take_length, hnk, ← List.append_assoc, hM]
      · (repeat' (first | exact trivial | exact rfl | refine And.intro ?_ ?_))
        refine congrArg (AV.ref 3 0) (?_ : M.length + 1 = (L ++ Shp.pcA a i (k + 1)).length)
        rw [hnk, ← List.append_assoc, hM, List.length_append]; rfl
    · have hke : k = a.length - 1 := by omega
      (repeat' (first | exact trivial | refine And.intro ?_ ?_ | (intro hb; try simp at hb) | omega | exact rfl | refine aRegion_auto (by decide +kernel) ?_ | fail))
      refine ⟨i + 1, by show i + 1 ≤ m.length; omega, by show m.length - (i + 1) < m.length - i; omega, Ent.sub ?_ ?_⟩
      · rw [hnx, ← hM, hke]
      · (repeat' (first | exact trivial | exact rfl | refine And.intro ?_ ?_))
        refine congrArg (fun l : List Shp.Pc => AV.ref 1 0 l.length) (?_ : M = Shp.pcs m (i + 1))
        rw [hnx, ← hM, hke]
  · obtain rfl : i = m.length := by omega
    (repeat' (first | exact trivial | refine And.intro ?_ ?_ | (intro hb; try simp at hb) | omega | exact rfl | refine aRegion_auto (by decide +kernel) ?_ | fail))
    refine ⟨_, _, (REnt.conv1 (.dat (.list PcT)) _ rfl ?_).trans (REnt.drop ⟨rfl, rfl⟩), ?_⟩
    · (repeat' (first | exact trivial | refine And.intro ?_ ?_ | (show _ ≤ _; omega) | (show _ ≤ _; simp; done)))
    · refine (congrArg (fun l => K (.fz (.list PcT) l) []) (?_ : List.take (Shp.pcs m m.length).length (List.drop 0 (Shp.pcs m m.length)) = Shp.pcs m m.length)).mpr hK
      rw [List.drop_zero, List.take_length]
end Go.Proofs.YtcfalmdfohphoaaDoor
/-
  Places as the keys of a map.
-/
namespace Go.Proofs.YtcfalmdfohphoaaDoor
open Go Go.Ab Go.Maps
set_option maxRecDepth 100000
def kvS (p : Int × Int) : Value := .agg #[.int .i64 p.1, .int .i64 p.2]
theorem kvS_inj {p q : Int × Int} : kvS p = kvS q ↔ p = q := by
  obtain ⟨a, b⟩ := p
  obtain ⟨c, d⟩ := q
  simp [kvS]
theorem keyedS : Keyed Tryd.prog 46 := Keyed.of_law (Go.deep_law (m := 2) (by omega) (by kernel_rfl) (by kernel_rfl) (by kernel_rfl))
theorem wf64 {x : Int} (h : -9223372036854775808 ≤ x ∧ x ≤ 9223372036854775807) : (Lit.int .i64 x).wf = true := by
  simp [Lit.wf, IntKind.min, IntKind.max, IntKind.signed, IntKind.bits]; omega
theorem keyS_ok {p : Int × Int} (hx : -9223372036854775808 ≤ p.1 ∧ p.1 ≤ 9223372036854775807) (hy : -9223372036854775808 ≤ p.2 ∧ p.2 ≤ 9223372036854775807) : ∃ l, keyOf Tryd.prog 46 (kvS p) = some l := by
  have hkt : Tryd.prog.keyType 46 = true := by kernel_rfl
  have hf : (kvS p).formed Tryd.prog 46 = true := by unfold kvS Value.formed; rw [Tryd.underlying46]; kernel_rfl
  have hl : ∃ ls, Tryd.prog.keyLits (Tryd.prog.types.size + 1) 46 (kvS p).cells.toList = some ls := by
    have c2 : Tryd.prog.cellsOf 46 = 2 := by kernel_rfl
    have c1 : Tryd.prog.cellsOf 3 = 1 := by kernel_rfl
    obtain ⟨n, hn⟩ : ∃ n, Tryd.prog.types.size = n + 1 := ⟨_, rfl⟩
    have hi : ∀ x : Int, (Lit.int .i64 x).wf = true → Tryd.prog.keyLits (n + 1) 3 [.int .i64 x] = some [.int .i64 x] := fun x hx => by
      unfold Program.keyLits
      rw [Tryd.underlying3]
      show (if IntKind.i64 = IntKind.i64 ∧ (Lit.int .i64 x).wf = true then _ else _) = _
      rw [if_pos ⟨rfl, hx⟩]
    rw [hn]
    unfold Program.keyLits
    rw [Tryd.underlying46]
    refine ⟨[.int .i64 p.1, .int .i64 p.2], ?_⟩
    simp [kvS, Value.cells, c2, c1, hi _ (wf64 hx), hi _ (wf64 hy)]
  obtain ⟨ls, hl⟩ := hl
  refine ⟨.string (keyBytes ls), ?_⟩
  unfold keyOf
  rw [Tryd.underlying46]
  show (if (_ && _) = true then _ else _) = _
  rw [hkt, hf, hl]; rfl
end Go.Proofs.YtcfalmdfohphoaaDoor
/-
  A part of a row is set to noughts (builtin clear).
-/
namespace Go.Ab
open Go
section
variable {P : Program} {G : List (Nat × Value)} {A : List AO} {T : List (Nat × AV)} {Kk : AV → List AO → Prop}
theorem set_same {A : List AO} {tok : Nat} {o : AO} (h : A[tok]? = some o) : A.set tok o = A := by
  apply List.ext_getElem?
  intro m
  rw [List.getElem?_set]
  by_cases hm : tok = m
  · subst hm
    rw [if_pos rfl, if_pos (get_lt h), h]
  · rw [if_neg hm]
theorem aact_clear {D : Tab} (hD : TabOk P D) {t el : TypeId} {e : Ty} {x : Operand} {tok off len : Nat} {xs : List e.den} (hx : ev T x = .ref tok off len) (ho : A[tok]? = some (.row e xs)) (hle : off + len ≤ xs.length) (ht : telem D t = some el)
    (hb : elOk D el e = true) (h : Kk (.tup []) (A.set tok (.row e (xs.take off ++ List.replicate len e.dft ++ xs.drop (off + len))))) : AAct P G A T (.call { callee := .builtin .clear, args := #[x], argTypes := #[t] }) Kk := by
  refine ⟨?_⟩
  rintro c a ⟨dst, op, type, pos, after, guard⟩ H hA hG rfl hT
  have rx := hT x (by simp [Op.operands, Call.operands])
  rw [hx] at rx
  subst hA
  unfold Rel at rx
  rw [ho] at rx
  simp only at rx
  obtain ⟨i, z, j1, j2, j3, j4, j5, j6, _⟩ := elOk_of hD hb
  have hu := of_telem hD ht
  have obj := H.obj tok _ ho
  have rel0 : ∀ c' : Cx, Rel c' (.tup []) (.tuple #[]) := fun c' => by unfold Rel; exact ⟨[], rfl, by unfold RelL; rfl⟩
  have none : len = 0 → ∀ p cap, a.eval x = .slice p 0 cap → ∃ c' nx v r, (execOp a.eval ⟨dst, .call { callee := .builtin .clear, args := #[x], argTypes := #[t] }, type, pos, after, guard⟩).run P c.w = .ok nx c'.w ∧ (nx = .value v ∨ (nx = .skip ∧ v = undef)) ∧ Ext c c' ∧ HR c' ∧ Rel c' r v ∧ Kk r c'.A := by
    intro h0 p cap hv
    subst h0
    have hs : c.A.set tok (.row e (xs.take off ++ List.replicate 0 e.dft ++ xs.drop (off + 0))) = c.A := by
      rw [List.replicate_zero, List.append_nil, Nat.add_zero, List.take_append_drop]
      exact set_same ho
    rw [hs] at h
    refine ⟨c, .value (.tuple #[]), .tuple #[], .tup [], ?_, .inl rfl, Ext.refl c, H, rel0 c, h⟩
    cases p <;> simp [execOp, resolve, invoke, builtin, Builtin.clear_, run_underlying' hu, hv]
  rcases rx with ⟨b, cap, cs, et, ad, hr, hv, ha, hcap, hh, hsz⟩ | ⟨hr, h0, h1, p, hv⟩
  · rcases Nat.eq_zero_or_pos len with h0 | h0
    · exact none h0 _ _ (by rw [hv, h0])
    · have had := ha (by omega)
      subst had
      rw [hr] at obj
      rcases row_iff obj with ⟨h1, _⟩ | ⟨b', cs', et', L, R, h1, h2, h3, h4⟩
      · cases h1
      · cases h1
        rw [hh] at h2; cases h2
        have hz := zcells (I := c.I) (w := c.w) (z := z.cells) j6 j4 len
        obtain ⟨M, hM⟩ : ∃ M, ((Array.range (len * e.size)).map (z.cells[· % z.cells.size]!)).toList = M := ⟨_, rfl⟩
        rw [hM] at hz
        have hMl : M.length = len * e.size := by rw [hz.1]; simp
        have hzl : z.cells.size = e.size := by
          have := congrArg List.length j6
          rw [(dft_fz (fun _ => True) default e).len] at this
          simpa using this
        have hLl := h4.1
        have hoff : off * e.size + len * e.size ≤ L.length := by rw [hLl, ← Nat.add_mul]; exact Nat.mul_le_mul_right _ hle
        have hcl : L.length ≤ cs.size := by
          have := congrArg List.length h3
          rw [List.length_append, Array.length_toList] at this
          omega
        have hst := run_storeCells_at P b (off * e.size) et M 0 cs c.w hh (by omega) (fun u hu => ocell_oneCell (hz.ocell u hu))
        simp only [Nat.add_zero] at hst
        have hsize : (setRange cs.toList (off * e.size) M).toArray.size = cs.size := setRange_size (by omega)
        let o' : AO := .row e (xs.take off ++ List.replicate len e.dft ++ xs.drop (off + len))
        have E1 := ext_wr (o' := o') H ho rfl hr hh hsize
        have hpre : (setRange cs.toList (off * e.size) M) = (L.take (off * e.size) ++ M ++ L.drop ((off + len) * e.size)) ++ R := by
          unfold setRange
          rw [h3, List.take_append_of_le_length (by omega), hMl, List.drop_append_of_le_length (by omega), Nat.add_mul]
          simp [List.append_assoc]
        have hcell : Cells c.I c.w e (xs.take off ++ List.replicate len e.dft ++ xs.drop (off + len)) (L.take (off * e.size) ++ M ++ L.drop ((off + len) * e.size)) := ((h4.take off (by omega)).append hz).append (h4.drop (off + len))
        have H1 := hr_wr (o' := o') H ho rfl hr hh hsize (row_mk (setRow_heap c.w b _ _ et (0, 0) hh) hpre (hcell.ext E1))
        refine ⟨_, .value (.tuple #[]), .tuple #[], .tup [], ?_, .inl rfl, E1, H1, rel0 _, h⟩
        obtain ⟨n, rfl⟩ : ∃ n, len = n + 1 := ⟨len - 1, by omega⟩
        have hzc : (Builtin.zeroCells z.cells (n + 1)).toList = M := by
          rw [← hM]; unfold Builtin.zeroCells; rw [hzl]
        have hze : (zeroValue el).run P c.w = .ok z c.w := by simp [zeroValue, typeInfo, j1, j2]
        have hw : (c.wr tok b (setRange cs.toList (off * e.size) M).toArray o').w = c.w.setRow b (List.take (off * e.size) cs.toList ++ M ++ List.drop (off * e.size + M.length) cs.toList).toArray := rfl
        rw [hw]
        simp [execOp, resolve, invoke, builtin, Builtin.clear_, run_underlying' hu, hv, hze, hzc, hst]
  · exact none h1 _ _ (by rw [hv])
end
end Go.Ab
/-
  Maps by their keys: what a key's value is, whatever order the entries came in.
-/
namespace Mp
section
variable {α β : Type} [DecidableEq α]
/-- a key's value, or else d -/
def gv (S : List (Nat × α × β)) (k : α) (d : β) : β := match S.find? (fun e => decide (e.2.1 = k)) with
  | some e => e.2.2
  | none => d
structure MO (Gd : α → Prop) (clk : Nat) (S : List (Nat × α × β)) : Prop where
  born : ∀ e ∈ S, e.1 < clk
  st : (S.map (·.1)).Nodup
  nd : (S.map (·.2.1)).Nodup
  good : ∀ e ∈ S, Gd e.2.1
omit [DecidableEq α] in
theorem MO.nil {Gd : α → Prop} {clk : Nat} : MO Gd clk ([] : List (Nat × α × β)) := ⟨fun e h => (by cases h), List.nodup_nil, List.nodup_nil, fun e h => (by cases h)⟩
theorem gv_no {S : List (Nat × α × β)} {k : α} {d : β} (h : ∀ e ∈ S, e.2.1 ≠ k) : gv S k d = d := by
  unfold gv
  rw [List.find?_eq_none.2 (fun e he => by simpa using h e he)]
theorem gv_mem : ∀ {S : List (Nat × α × β)} {d : β}, (S.map (·.2.1)).Nodup → ∀ e ∈ S, gv S e.2.1 d = e.2.2
  | [], _, _, e, he => by cases he
  | x :: S, d, hn, e, he => by
    rw [List.map_cons, List.nodup_cons] at hn
    unfold gv
    rw [List.find?_cons]
    by_cases hx : x.2.1 = e.2.1
    · rcases List.mem_cons.1 he with h | h
      · subst h; simp
      · exact (hn.1 (List.mem_map.2 ⟨e, h, hx.symm⟩)).elim
    · rcases List.mem_cons.1 he with h | h
      · subst h; exact (hx rfl).elim
      · rw [decide_eq_false hx]
        exact gv_mem (d := d) hn.2 e h
theorem gv_snoc {S : List (Nat × α × β)} {k k' : α} {v d : β} {c : Nat} (h : ∀ e ∈ S, e.2.1 ≠ k) : gv (S ++ [(c, k, v)]) k' d = if k' = k then v else gv S k' d := by
  unfold gv
  rw [List.find?_append]
  by_cases hk : k' = k
  · subst hk
    rw [if_pos rfl, List.find?_eq_none.2 (fun e he => by simpa using h e he)]
    simp
  · rw [if_neg hk]
    cases hf : S.find? (fun e => decide (e.2.1 = k')) with
    | some e => rfl
    | none =>
      have : decide (k = k') = false := decide_eq_false (fun e => hk e.symm)
      simp [this]
omit [DecidableEq α] in
theorem MO.snoc {Gd : α → Prop} {clk : Nat} {S : List (Nat × α × β)} (h : MO Gd clk S) {k : α} {v : β} (hn : ∀ e ∈ S, e.2.1 ≠ k) (hg : Gd k) : MO Gd (clk + 1) (S ++ [(clk, k, v)]) := by
  refine ⟨fun e he => ?_, ?_, ?_, fun e he => ?_⟩
  · rcases List.mem_append.1 he with h1 | h1
    · have := h.born e h1; omega
    · simp at h1; subst h1; exact Nat.lt_succ_self _
  · rw [List.map_append, List.nodup_append]
    refine ⟨h.st, by simp, fun a ha c hc => ?_⟩
    simp at hc; subst hc
    obtain ⟨e, he, rfl⟩ := List.mem_map.1 ha
    have := h.born e he
    omega
  · rw [List.map_append, List.nodup_append]
    refine ⟨h.nd, by simp, fun a ha c hc => ?_⟩
    simp at hc; subst hc
    obtain ⟨e, he, rfl⟩ := List.mem_map.1 ha
    exact hn e he
  · rcases List.mem_append.1 he with h1 | h1
    · exact h.good e h1
    · simp at h1; subst h1; exact hg
omit [DecidableEq α] in
theorem set_keys {S : List (Nat × α × β)} {j : Nat} {e : Nat × α × β} (hj : S[j]? = some e) (v : β) {γ : Type} (f : Nat × α → γ) : (S.set j (e.1, e.2.1, v)).map (fun e => f (e.1, e.2.1)) = S.map fun e => f (e.1, e.2.1) := by
  apply List.ext_getElem?
  intro m
  simp only [List.getElem?_map, List.getElem?_set]
  by_cases hjm : j = m
  · subst hjm
    have hlt : j < S.length := by
      rcases Nat.lt_or_ge j S.length with h | h
      · exact h
      · rw [List.getElem?_eq_none h] at hj; cases hj
    rw [if_pos rfl, if_pos hlt, hj]; rfl
  · rw [if_neg hjm]
omit [DecidableEq α] in
theorem mem_set' {S : List (Nat × α × β)} {j : Nat} {e x : Nat × α × β} (hj : S[j]? = some e) {v : β} (hx : x ∈ S.set j (e.1, e.2.1, v)) : ∃ y ∈ S, y.1 = x.1 ∧ y.2.1 = x.2.1 := by
  rcases List.mem_or_eq_of_mem_set hx with h | h
  · exact ⟨x, h, rfl, rfl⟩
  · subst h; exact ⟨e, List.mem_of_getElem? hj, rfl, rfl⟩
omit [DecidableEq α] in
theorem MO.set {Gd : α → Prop} {clk : Nat} {S : List (Nat × α × β)} (h : MO Gd clk S) {j : Nat} {e : Nat × α × β} (hj : S[j]? = some e) (v : β) : MO Gd clk (S.set j (e.1, e.2.1, v)) := by
  refine ⟨fun x hx => ?_, ?_, ?_, fun x hx => ?_⟩
  · obtain ⟨y, h1, h2, _⟩ := mem_set' hj hx
    rw [← h2]; exact h.born y h1
  · have := set_keys hj v (fun p => p.1)
    rw [this]; exact h.st
  · have := set_keys hj v (fun p => p.2)
    rw [this]; exact h.nd
  · obtain ⟨y, h1, _, h2⟩ := mem_set' hj hx
    rw [← h2]; exact h.good y h1
theorem gv_set {Gd : α → Prop} {clk : Nat} {S : List (Nat × α × β)} (h : MO Gd clk S) {j : Nat} {e : Nat × α × β} (hj : S[j]? = some e) (v d : β) (k' : α) : gv (S.set j (e.1, e.2.1, v)) k' d = if k' = e.2.1 then v else gv S k' d := by
  have h2 := h.set hj v
  have hlt : j < S.length := by
    rcases Nat.lt_or_ge j S.length with c | c
    · exact c
    · rw [List.getElem?_eq_none c] at hj; cases hj
  by_cases hk : k' = e.2.1
  · rw [if_pos hk, hk]
    exact gv_mem h2.nd (e.1, e.2.1, v) (List.mem_iff_getElem?.2 ⟨j, by rw [List.getElem?_set, if_pos rfl, if_pos hlt]⟩)
  · rw [if_neg hk]
    by_cases hx : ∃ x ∈ S, x.2.1 = k'
    · obtain ⟨x, h3, rfl⟩ := hx
      obtain ⟨i, hi⟩ := List.mem_iff_getElem?.1 h3
      have hij : j ≠ i := fun c => by subst c; rw [hj] at hi; cases hi; exact hk rfl
      rw [gv_mem h.nd x h3]
      exact gv_mem h2.nd x (List.mem_iff_getElem?.2 ⟨i, by rw [List.getElem?_set, if_neg hij]; exact hi⟩)
    · have n1 : ∀ x ∈ S, x.2.1 ≠ k' := fun x h3 c => hx ⟨x, h3, c⟩
      rw [gv_no n1]
      refine gv_no fun x h3 => ?_
      obtain ⟨y, h4, _, h5⟩ := mem_set' hj h3
      rw [← h5]; exact n1 y h4
/-- an entry there is -/
theorem gv_ex {Gd : α → Prop} {clk : Nat} {S : List (Nat × α × β)} (_ : MO Gd clk S) {k : α} {d : β} (hne : gv S k d ≠ d) : ∃ e ∈ S, e.2.1 = k := Classical.byContradiction fun c => hne (gv_no fun e he h2 => c ⟨e, he, h2⟩)
/-- where a key's entry lies, or else behind all -/
def ix (S : List (Nat × α × β)) (k : α) : Nat := S.findIdx fun e => decide (e.2.1 = k)
theorem ix_lt {S : List (Nat × α × β)} {k : α} : ix S k < S.length ↔ ∃ e ∈ S, e.2.1 = k := by
  unfold ix
  rw [List.findIdx_lt_length]
  simp
theorem ix_le {S : List (Nat × α × β)} {k : α} : ix S k ≤ S.length := List.findIdx_le_length
theorem ix_key {S : List (Nat × α × β)} {k : α} (h : ix S k < S.length) : (S[ix S k]'h).2.1 = k := by
  have h' : S.findIdx (fun e => decide (e.2.1 = k)) < S.length := h
  have := List.findIdx_getElem (xs := S) (p := fun e => decide (e.2.1 = k)) (w := h')
  exact of_decide_eq_true this
theorem ix_is {Gd : α → Prop} {clk : Nat} {S : List (Nat × α × β)} (h : MO Gd clk S) {j : Nat} {e : Nat × α × β} (hj : S[j]? = some e) : ix S e.2.1 = j := by
  have hlt : j < S.length := by
    rcases Nat.lt_or_ge j S.length with c | c
    · exact c
    · rw [List.getElem?_eq_none c] at hj; cases hj
  have hx : ix S e.2.1 < S.length := ix_lt.2 ⟨e, List.mem_of_getElem? hj, rfl⟩
  have hk := ix_key hx
  have he : S[j] = e := by rw [List.getElem?_eq_getElem hlt] at hj; simpa using hj
  exact (List.getElem_inj (h₀ := by simpa using hx) (h₁ := by simpa using hlt) h.nd).1 (by simp [hk, he])
/-- its stamp, the clock, the entries when it is looked up or made, the entries when it is put -/
def tS (S : List (Nat × α × β)) (clk : Nat) (k : α) : Nat := if h : ix S k < S.length then (S[ix S k]'h).1 else clk
def cS (S : List (Nat × α × β)) (clk : Nat) (k : α) : Nat := if ix S k < S.length then clk else clk + 1
def uS (S : List (Nat × α × β)) (clk : Nat) (k : α) (d : β) : List (Nat × α × β) := if ix S k < S.length then S else S ++ [(clk, k, d)]
def pS (S : List (Nat × α × β)) (clk : Nat) (k : α) (v : β) : List (Nat × α × β) := if ix S k < S.length then S.set (ix S k) (tS S clk k, k, v) else S ++ [(clk, k, v)]
theorem ix_at {S : List (Nat × α × β)} {clk : Nat} {k : α} (h : ix S k < S.length) : ∃ w, S[ix S k]? = some (tS S clk k, k, w) := by
  refine ⟨(S[ix S k]'h).2.2, ?_⟩
  rw [List.getElem?_eq_getElem h]
  unfold tS
  rw [dif_pos h]
  have := ix_key h
  congr 1
  exact Prod.ext rfl (Prod.ext this rfl)
theorem ix_no {S : List (Nat × α × β)} {k : α} (h : ¬ ix S k < S.length) : ∀ e ∈ S, e.2.1 ≠ k := fun e he c => h (ix_lt.2 ⟨e, he, c⟩)
theorem MO.up {Gd : α → Prop} {clk : Nat} {S : List (Nat × α × β)} (h : MO Gd clk S) {k : α} (hk : Gd k) (d : β) : MO Gd (cS S clk k) (uS S clk k d) := by
  unfold cS uS
  by_cases c : ix S k < S.length
  · rw [if_pos c, if_pos c]; exact h
  · rw [if_neg c, if_neg c]; exact h.snoc (ix_no c) hk
theorem MO.put {Gd : α → Prop} {clk : Nat} {S : List (Nat × α × β)} (h : MO Gd clk S) {k : α} (hk : Gd k) (v : β) : MO Gd (cS S clk k) (pS S clk k v) := by
  unfold cS pS
  by_cases c : ix S k < S.length
  · rw [if_pos c, if_pos c]
    obtain ⟨w, hw⟩ := ix_at (clk := clk) c
    exact h.set hw v
  · rw [if_neg c, if_neg c]; exact h.snoc (ix_no c) hk
theorem gv_up {S : List (Nat × α × β)} {clk : Nat} {k k' : α} {d : β} : gv (uS S clk k d) k' d = gv S k' d := by
  unfold uS
  by_cases c : ix S k < S.length
  · rw [if_pos c]
  · rw [if_neg c, gv_snoc (ix_no c)]
    by_cases e : k' = k
    · rw [if_pos e, e, gv_no (ix_no c)]
    · rw [if_neg e]
theorem gv_put {Gd : α → Prop} {clk : Nat} {S : List (Nat × α × β)} (h : MO Gd clk S) {k k' : α} {v d : β} : gv (pS S clk k v) k' d = if k' = k then v else gv S k' d := by
  unfold pS
  by_cases c : ix S k < S.length
  · rw [if_pos c]
    obtain ⟨w, hw⟩ := ix_at (clk := clk) c
    exact gv_set h hw v d k'
  · rw [if_neg c]; exact gv_snoc (ix_no c)
theorem pS_len {S : List (Nat × α × β)} {clk : Nat} {k : α} {v : β} : (pS S clk k v).length ≤ S.length + 1 := by
  unfold pS
  split
  · rw [List.length_set]; omega
  · rw [List.length_append]; exact Nat.le_refl _
/-- what keys there are when one is put -/
theorem pS_key {S : List (Nat × α × β)} {clk : Nat} {k k' : α} {v : β} : (∃ e ∈ pS S clk k v, e.2.1 = k') ↔ k' = k ∨ ∃ e ∈ S, e.2.1 = k' := by
  have hm : ∀ (L : List (Nat × α × β)), (∃ e ∈ L, e.2.1 = k') ↔ k' ∈ L.map (·.2.1) := fun L => by simp
  rw [hm, hm]
  unfold pS
  by_cases c : ix S k < S.length
  · rw [if_pos c]
    obtain ⟨w, hw⟩ := ix_at (clk := clk) c
    rw [set_keys hw v (fun p => p.2)]
    constructor
    · exact .inr
    · rintro (h | h)
      · obtain ⟨e, he, hk⟩ := ix_lt.1 c
        rw [h]; exact List.mem_map.2 ⟨e, he, hk⟩
      · exact h
  · rw [if_neg c, List.map_append, List.mem_append]
    simp only [List.map_cons, List.map_nil, List.mem_cons, List.not_mem_nil, or_false]
    exact Or.comm
theorem uS_set {S : List (Nat × α × β)} {clk : Nat} {k : α} {v d : β} : (uS S clk k d).set (ix S k) (tS S clk k, k, v) = pS S clk k v := by
  unfold uS pS
  by_cases c : ix S k < S.length
  · rw [if_pos c, if_pos c]
  · rw [if_neg c, if_neg c]
    have e : ix S k = S.length := Nat.le_antisymm ix_le (Nat.le_of_not_lt c)
    rw [e, List.set_append_right _ _ (Nat.le_refl _), Nat.sub_self]
    unfold tS
    rw [dif_neg c]; rfl
theorem uS_at {S : List (Nat × α × β)} {clk : Nat} {k : α} {d : β} : ∃ w, (uS S clk k d)[ix S k]? = some (tS S clk k, k, w) := by
  unfold uS
  by_cases c : ix S k < S.length
  · rw [if_pos c]; exact ix_at c
  · rw [if_neg c]
    have e : ix S k = S.length := Nat.le_antisymm ix_le (Nat.le_of_not_lt c)
    refine ⟨d, ?_⟩
    rw [e, List.getElem?_append_right (Nat.le_refl _), Nat.sub_self]
    unfold tS
    rw [dif_neg c]; rfl
end
end Mp
namespace Go.Ab
open Go Go.Maps Mp
section
variable {α β : Type} [DecidableEq α] {P : Program} {G : List (Nat × Value)} {A : List AO} {T : List (Nat × AV)} {Kk : AV → List AO → Prop}
/-- a map as the state knows it -/
abbrev mpK (kv : α → Value) (va : β → AV) (bm clk : Nat) (S : List (Nat × α × β)) : AO := .mapo (.map bm clk (S.map fun e => (e.1, kv e.2.1))) (S.map fun e => va e.2.2)
omit [DecidableEq α] in
theorem mpK_ix {kv : α → Value} {S : List (Nat × α × β)} {j : Nat} {p : Nat × Value} (h : (S.map fun e => (e.1, kv e.2.1))[j]? = some p) : ∃ e, S[j]? = some e ∧ p = (e.1, kv e.2.1) := by
  rw [List.getElem?_map] at h
  cases hS : S[j]? with
  | none => rw [hS] at h; cases h
  | some e => rw [hS] at h; exact ⟨e, rfl, by simpa using h.symm⟩
omit [DecidableEq α] in
theorem mpK_keys {kv : α → Value} {kt : TypeId} {Gd : α → Prop} {clk : Nat} {S : List (Nat × α × β)} (h : MO Gd clk S) (ok : ∀ a, Gd a → ∃ l, keyOf P kt (kv a) = some l) : ∀ p ∈ S.map (fun e => (e.1, kv e.2.1)), ∃ l, keyOf P kt p.2 = some l := fun p hp => by
  obtain ⟨e, he, rfl⟩ := List.mem_map.1 hp
  exact ok _ (h.good e he)
omit [DecidableEq α] in
theorem mpK_set {kv : α → Value} {va : β → AV} {bm clk : Nat} {S : List (Nat × α × β)} {j : Nat} {e : Nat × α × β} (hj : S[j]? = some e) (v : β) :
    AO.mapo (.map bm clk (S.map fun e => (e.1, kv e.2.1))) ((S.map fun e => va e.2.2).set j (va v)) = mpK kv va bm clk (S.set j (e.1, e.2.1, v)) := by
  unfold mpK
  rw [set_keys hj v (fun p => (p.1, kv p.2)), List.map_set]
omit [DecidableEq α] in
theorem mpK_snoc {kv : α → Value} {va : β → AV} {bm clk : Nat} {S : List (Nat × α × β)} (k : α) (v : β) :
    AO.mapo (.map bm (clk + 1) ((S.map fun e => (e.1, kv e.2.1)) ++ [(clk, kv k)])) ((S.map fun e => va e.2.2) ++ [va v]) = mpK kv va bm (clk + 1) (S ++ [(clk, k, v)]) := by
  unfold mpK
  rw [List.map_append, List.map_append]; rfl
theorem aact_lookG {kv : α → Value} {va : β → AV} {Gd : α → Prop} {t kt et : TypeId} {x k : Operand} {tok off bm clk : Nat} {S : List (Nat × α × β)} {d : β} (a : α)
    (hx : ev T x = .ptr tok off) (ho : A[tok]? = some (mpK kv va bm clk S)) (hM : MO Gd clk S) (ht : P.underlying t = some (.map kt et)) (K : Keyed P kt) (inj : ∀ a b, kv a = kv b → a = b)
    (ok : ∀ a, Gd a → ∃ l, keyOf P kt (kv a) = some l) (hk : ∀ c v, Rel c (ev T k) v → v = kv a) (ha : Gd a)
    (hz : ∀ c : Cx, ∃ zv, (zeroValue et).run P c.w = .ok zv c.w ∧ Rel c (va d) zv) (h : Kk (va (gv S a d)) A) : AAct P G A T (.lookup t x k false) Kk := by
  refine aact_lookup hx ho ht K hk (ok a ha) (mpK_keys hM ok) hz (fun hno => ?_) (fun j p av hj hp hav => ?_)
  · rw [gv_no fun e he c => hno _ (List.mem_map.2 ⟨e, he, rfl⟩) (by rw [c])] at h
    exact h
  · obtain ⟨e, he, rfl⟩ := mpK_ix hj
    have hav : av = va e.2.2 := by
      rw [List.getElem?_map, he] at hav
      simpa using hav.symm
    have hea : e.2.1 = a := inj _ _ hp
    have := gv_mem (d := d) hM.nd e (List.mem_of_getElem? he)
    rw [hea] at this
    rw [this] at h
    rw [hav]; exact h
theorem aact_putG {kv : α → Value} {va : β → AV} {Gd : α → Prop} {t kt et : TypeId} {x k y : Operand} {tok off bm clk : Nat} {S : List (Nat × α × β)} (a : α) (v : β)
    (hx : ev T x = .ptr tok off) (ho : A[tok]? = some (mpK kv va bm clk S)) (hM : MO Gd clk S) (ht : P.underlying t = some (.map kt et)) (K : Keyed P kt) (inj : ∀ a b, kv a = kv b → a = b)
    (ok : ∀ a, Gd a → ∃ l, keyOf P kt (kv a) = some l) (hk : ∀ c v, Rel c (ev T k) v → v = kv a) (ha : Gd a) (hy : ev T y = va v)
    (h : Kk .unk (A.set tok (mpK kv va bm (cS S clk a) (pS S clk a v)))) : AAct P G A T (.mapUpdate t x k y) Kk := by
  unfold cS pS at h
  refine aact_store hx ho ht K hk (ok a ha) (mpK_keys hM ok) (fun hno => ?_) (fun j p hj hp => ?_)
  · have hn : ¬ ix S a < S.length := fun c => by
      obtain ⟨e, he, c⟩ := ix_lt.1 c
      exact hno _ (List.mem_map.2 ⟨e, he, rfl⟩) (by rw [c])
    rw [if_neg hn, if_neg hn] at h
    rw [hy, mpK_snoc]
    exact h
  · obtain ⟨e, he, rfl⟩ := mpK_ix hj
    have hea : e.2.1 = a := inj _ _ hp
    have hij : ix S a = j := by rw [← hea]; exact ix_is hM he
    have hlt : ix S a < S.length := by rw [hij]; exact get_lt he
    obtain ⟨w, hw⟩ := ix_at (clk := clk) hlt
    rw [hij, he] at hw
    have hw1 : e.1 = tS S clk a := by simpa using congrArg Prod.fst (Option.some.inj hw)
    rw [if_pos hlt, if_pos hlt, hij, ← hw1, ← hea] at h
    rw [hy, mpK_set he]
    exact h
theorem aact_upG {kv : α → Value} {va : β → AV} {Gd : α → Prop} {t kt et : TypeId} {x k : Operand} {tok off bm clk : Nat} {S : List (Nat × α × β)} {d : β} (a : α)
    (hx : ev T x = .ptr tok off) (ho : A[tok]? = some (mpK kv va bm clk S)) (hM : MO Gd clk S) (ht : P.underlying t = some (.map kt et)) (K : Keyed P kt) (inj : ∀ a b, kv a = kv b → a = b)
    (ok : ∀ a, Gd a → ∃ l, keyOf P kt (kv a) = some l) (hk : ∀ c v, Rel c (ev T k) v → v = kv a) (ha : Gd a)
    (hz : ∀ c : Cx, ∃ zv, (zeroValue et).run P c.w = .ok zv c.w ∧ Rel c (va d) zv)
    (h : Kk (.tup [va (gv S a d), .fz (.int .i64) (tS S clk a : Int)]) (A.set tok (mpK kv va bm (cS S clk a) (uS S clk a d)))) : AAct P G A T (.mapEntry t x k) Kk := by
  unfold cS uS at h
  refine aact_upsert hx ho ht K hk (ok a ha) (mpK_keys hM ok) hz (fun hno => ?_) (fun j p av hj hp hav => ?_)
  · have hn : ¬ ix S a < S.length := fun c => by
      obtain ⟨e, he, c⟩ := ix_lt.1 c
      exact hno _ (List.mem_map.2 ⟨e, he, rfl⟩) (by rw [c])
    have ht : tS S clk a = clk := by unfold tS; rw [dif_neg hn]
    rw [if_neg hn, if_neg hn, ht, gv_no (ix_no hn)] at h
    rw [mpK_snoc]
    exact h
  · obtain ⟨e, he, rfl⟩ := mpK_ix hj
    have hea : e.2.1 = a := inj _ _ hp
    have hg := gv_mem (d := d) hM.nd e (List.mem_of_getElem? he)
    rw [hea] at hg
    have hav : av = va e.2.2 := by
      rw [List.getElem?_map, he] at hav
      simpa using hav.symm
    have hij : ix S a = j := by rw [← hea]; exact ix_is hM he
    have hlt : ix S a < S.length := by rw [hij]; exact get_lt he
    obtain ⟨w, hw⟩ := ix_at (clk := clk) hlt
    rw [hij, he] at hw
    have hw1 : e.1 = tS S clk a := by simpa using congrArg Prod.fst (Option.some.inj hw)
    rw [if_pos hlt, if_pos hlt, ← hw1, hg, set_same ho] at h
    rw [hav]; exact h
theorem aact_setG {kv : α → Value} {va : β → AV} {Gd : α → Prop} {t : TypeId} {x s y : Operand} {tok off bm clk : Nat} {S : List (Nat × α × β)} {a : α} {d : β} (v : β)
    (hx : ev T x = .ptr tok off) (ho : A[tok]? = some (mpK kv va bm (cS S clk a) (uS S clk a d))) (hM : MO Gd clk S) (ha : Gd a) (hs : ∀ c v, Rel c (ev T s) v → v = .int .i64 (tS S clk a : Int)) (hy : ev T y = va v)
    (h : Kk .unk (A.set tok (mpK kv va bm (cS S clk a) (pS S clk a v)))) : AAct P G A T (.entryStore t x s y) Kk := by
  obtain ⟨w, hw⟩ := uS_at (S := S) (clk := clk) (k := a) (d := d)
  refine aact_put (j := ix S a) (p := (tS S clk a, kv a)) hx ho hs ?_ ?_ rfl ?_
  · rw [List.map_map]
    exact (hM.up ha d).st
  · rw [List.getElem?_map, hw]; rfl
  · rw [hy, mpK_set (e := (tS S clk a, a, w)) hw, uS_set]
    exact h
omit [DecidableEq α] in
theorem mpK_ok {kv : α → Value} {t : Ty} {g : β → t.den} {bm clk n : Nat} : ∀ {S : List (Nat × α × β)}, okLB n (mpK kv (fun v => .fz t (g v)) bm clk S).vals = true := fun {S} => by
  show okLB n (S.map fun e => AV.fz t (g e.2.2)) = true
  induction S with
  | nil => rfl
  | cons e S ih => rw [List.map_cons]; unfold okLB; rw [ih]; rfl
omit [DecidableEq α] in
theorem mpK_same {kv : α → Value} {t : Ty} {g : β → t.den} {bm clk : Nat} (f : Nat → Nat) {S : List (Nat × α × β)} : mapO f (mpK kv (fun v => .fz t (g v)) bm clk S) = mpK kv (fun v => .fz t (g v)) bm clk S := by
  show AO.mapo _ (mapL f (S.map fun e => AV.fz t (g e.2.2))) = AO.mapo _ (S.map fun e => AV.fz t (g e.2.2))
  refine congrArg _ ?_
  induction S with
  | nil => rfl
  | cons e S ih => rw [List.map_cons]; unfold mapL; rw [ih]; rfl
end
end Go.Ab
/-
  Copies of arcs, and those without neighbours alike.
-/
namespace Go.Proofs.YtcfalmdfohphoaaDoor
open Go Go.Ab
set_option maxRecDepth 100000
theorem cloneS_any (G : List (Nat × Value)) (a : Pts) (h2 : 0 < a.length) (hl : a.length ≤ 100000) (K : AV → List AO → Prop) (hK : K (.ref 1 0 a.length) [.dead, .row SpT a]) : ACall Tryd.prog G 26 [.fz (.list SpT) a] [] K := by
  refine acall_mk (E := envAt G 8 0) (envOk _ _ _) Tryd.func26 rfl rfl rfl rfl rfl ?_
  (repeat' (first | exact trivial | exact fun h => h | refine And.intro ?_ ?_ | (intro hb; try simp at hb) | omega | exact rfl | exact Nat.le_refl _ | (show _ + 1 ≤ 4294967296; omega) | (show _ + 1 ≤ 5864062014634; omega) | (dsimp only; omega) | (show (_ : Int) ≤ (_ : Int); omega) | (show _ < List.length _; simp only [List.length_set, List.length_append, List.length_take]; omega) | (show wantB _ _ = true; simp <;> omega) | (show (_ : Bool) = _; simp_all; done) | (exfalso; omega) | refine aRegion_auto (by decide +kernel) ?_ | fail))
  (repeat' (first | exact trivial | exact fun h => h | refine And.intro ?_ ?_ | (intro hb; try simp at hb) | omega | exact rfl | exact Nat.le_refl _ | (show _ + 1 ≤ 4294967296; omega) | (show _ + 1 ≤ 5864062014634; omega) | (dsimp only; omega) | (show (_ : Int) ≤ (_ : Int); omega) | (show _ < List.length _; simp only [List.length_set, List.length_append, List.length_take]; omega) | (show wantB _ _ = true; simp <;> omega) | (show (_ : Bool) = _; simp_all; done) | (exfalso; omega) | refine aRegion_auto (by decide +kernel) ?_ | fail))
  refine ⟨_, _, REnt.refl _ _ _, ?_⟩
  show K (.ref 1 0 (0 + a.length)) [.dead, .row SpT ([] ++ a)]
  rw [Nat.zero_add]
  exact hK
/-- what is written over itself from the first twin on: how many, and the row -/
def inF (a : Pts) (k : Nat) : Nat → Nat × Pts
  | 0 => (k + 1, a)
  | v + 1 => if Shp.at_ (inF a k v).2 (k + 1 + v) = Shp.at_ (inF a k v).2 (k + 1 + (v + 1)) then inF a k v else ((inF a k v).1 + 1, (inF a k v).2.set (inF a k v).1 (Shp.at_ (inF a k v).2 (k + 1 + (v + 1))))
theorem inF_bd (a : Pts) (k : Nat) : ∀ v, (inF a k v).2.length = a.length ∧ (inF a k v).1 ≤ k + 1 + v
  | 0 => ⟨rfl, Nat.le_refl _⟩
  | v + 1 => by
    obtain ⟨h1, h2⟩ := inF_bd a k v
    rw [inF]
    split
    · exact ⟨h1, by omega⟩
    · exact ⟨by show ((inF a k v).2.set _ _).length = _; rw [List.length_set]; exact h1, by show (inF a k v).1 + 1 ≤ _; omega⟩
/-- the first twin from k on -/
def fTw (a : Pts) : Nat → Nat → Option Nat
  | 0, _ => none
  | d + 1, k => if Shp.at_ a k = Shp.at_ a (k + 1) then some k else fTw a d (k + 1)
def cmpE (a : Pts) (k : Nat) : Nat × Pts := ((inF a k (a.length - (k + 2))).1, (inF a k (a.length - (k + 2))).2.take (inF a k (a.length - (k + 2))).1 ++ List.replicate (a.length - (inF a k (a.length - (k + 2))).1) SpT.dft ++ (inF a k (a.length - (k + 2))).2.drop ((inF a k (a.length - (k + 2))).1 + (a.length - (inF a k (a.length - (k + 2))).1)))
def cmpF (a : Pts) : Nat × Pts := match fTw a (a.length - 1) 0 with
  | some k => cmpE a k
  | none => (a.length, a)
theorem fTw_some {a : Pts} : ∀ (d k j : Nat), fTw a d k = some j → k ≤ j ∧ j < k + d ∧ Shp.at_ a j = Shp.at_ a (j + 1)
  | 0, _, _, h => by cases h
  | d + 1, k, j, h => by
    rw [fTw] at h
    by_cases c : Shp.at_ a k = Shp.at_ a (k + 1)
    · rw [if_pos c] at h; cases h; exact ⟨Nat.le_refl _, by omega, c⟩
    · rw [if_neg c] at h
      obtain ⟨h1, h2, h3⟩ := fTw_some d (k + 1) j h
      exact ⟨by omega, by omega, h3⟩
theorem fTw_none {a : Pts} : ∀ (d k : Nat), fTw a d k = none → ∀ j, k ≤ j → j < k + d → Shp.at_ a j ≠ Shp.at_ a (j + 1)
  | 0, _, _, j, h1, h2 => by omega
  | d + 1, k, h, j, h1, h2 => by
    rw [fTw] at h
    by_cases c : Shp.at_ a k = Shp.at_ a (k + 1)
    · rw [if_pos c] at h; cases h
    · rw [if_neg c] at h
      by_cases e : j = k
      · rw [e]; exact c
      · exact fTw_none d (k + 1) h j (by omega) (by omega)
theorem fTw_first {a : Pts} : ∀ (d k j : Nat), k ≤ j → j < k + d → (∀ i, k ≤ i → i < j → Shp.at_ a i ≠ Shp.at_ a (i + 1)) → Shp.at_ a j = Shp.at_ a (j + 1) → fTw a d k = some j
  | 0, _, _, h1, h2, _, _ => by omega
  | d + 1, k, j, h1, h2, h3, h4 => by
    rw [fTw]
    by_cases e : j = k
    · subst e; rw [if_pos h4]
    · rw [if_neg (h3 k (Nat.le_refl _) (by omega))]
      exact fTw_first d (k + 1) j (by omega) (by omega) (fun i hi hj => h3 i (by omega) hj) h4
theorem cmpF_no {a : Pts} (h : ∀ j, j + 1 < a.length → Shp.at_ a j ≠ Shp.at_ a (j + 1)) : cmpF a = (a.length, a) := by
  unfold cmpF
  cases e : fTw a (a.length - 1) 0 with
  | none => rfl
  | some j =>
    obtain ⟨_, h2, h3⟩ := fTw_some _ _ _ e
    exact (h j (by omega) h3).elim
theorem cmpF_at {a : Pts} {j : Nat} (hj : j + 1 < a.length) (h : ∀ i, i < j → Shp.at_ a i ≠ Shp.at_ a (i + 1)) (h' : Shp.at_ a j = Shp.at_ a (j + 1)) : cmpF a = cmpE a j := by
  unfold cmpF
  rw [fTw_first (a.length - 1) 0 j (Nat.zero_le _) (by omega) (fun i _ hi => h i hi) h']
theorem cmpF_lt {a : Pts} : ((cmpF a).1 < a.length ↔ ∃ j, j + 1 < a.length ∧ Shp.at_ a j = Shp.at_ a (j + 1)) ∧ (cmpF a).1 ≤ a.length := by
  unfold cmpF
  cases e : fTw a (a.length - 1) 0 with
  | none =>
    refine ⟨⟨fun h => absurd h (Nat.lt_irrefl _), fun ⟨j, h1, h2⟩ => (fTw_none _ _ e j (Nat.zero_le _) (by omega) h2).elim⟩, Nat.le_refl _⟩
  | some j =>
    obtain ⟨_, h2, h3⟩ := fTw_some _ _ _ e
    have := (inF_bd a j (a.length - (j + 2))).2
    show ((inF a j (a.length - (j + 2))).1 < a.length ↔ _) ∧ (inF a j (a.length - (j + 2))).1 ≤ a.length
    exact ⟨⟨fun _ => ⟨j, by omega, h3⟩, fun _ => by omega⟩, by omega⟩
set_option maxHeartbeats 4000000 in
theorem compactS_any (G : List (Nat × Value)) (a : Pts) (h2 : 2 ≤ a.length) (hl : a.length ≤ 100000) (K : AV → List AO → Prop)
    (hK : K (.ref 0 0 (cmpF a).1) [.row SpT (cmpF a).2]) : ACall Tryd.prog G 37 [.ref 0 0 a.length] [.row SpT a] K := by
  refine acall_mk (E := envAt G 61 1) (envOk _ _ _) Tryd.func37 rfl rfl rfl rfl rfl ?_
  (repeat' (first | exact trivial | refine And.intro ?_ ?_ | (intro hb; try simp at hb) | omega | exact rfl | refine aRegion_auto (by decide +kernel) ?_ | fail))
  refine ⟨Nat, fun k => ⟨[(0, .ref 0 0 a.length), (3, .fz int ((k : Int) + 1))], [.row SpT a]⟩, fun k => k + 1 ≤ a.length ∧ ∀ j, j < k → Shp.at_ a j ≠ Shp.at_ a (j + 1), fun k => a.length - k, 0, ⟨by omega, fun j h => by omega⟩, Ent.sub rfl ?_, ?_⟩
  · (repeat' (first | exact trivial | exact rfl | refine And.intro ?_ ?_))
  intro k ⟨hk, hd⟩
  have hk : k + 1 ≤ a.length := hk
  have hd : ∀ j, j < k → Shp.at_ a j ≠ Shp.at_ a (j + 1) := hd
  show awp _ _ _ ⟨[(0, .ref 0 0 a.length), (3, .fz int ((k : Int) + 1))], [.row SpT a]⟩
  by_cases hka : k + 1 < a.length
  · have q1 := at_q a (k + 1)
    have q2 := at_q a k
    (repeat' (first | exact trivial | refine And.intro ?_ ?_ | (intro hb; try simp at hb) | omega | exact rfl | refine aRegion_auto (by decide +kernel) ?_ | fail))
    any_goals (first | exact Int.le_refl _ | (show (_ : Int) ≤ ((List.length a : Nat) : Int); omega))
    · have hs : Shp.at_ a k = Shp.at_ a (k + 1) := by
        rw [q1, q2, eqS] at hb
        exact (of_decide_eq_true hb).symm
      clear hb
      (repeat' (first | exact trivial | refine And.intro ?_ ?_ | (intro hb; try simp at hb) | omega | exact rfl | refine aRegion_auto (by decide +kernel) ?_ | fail))
      refine ⟨Nat, fun v => ⟨[(0, .ref 0 0 a.length), (3, .fz int ((inF a k v).1 : Nat)), (4, .ref 0 (k + 1) (a.length - (k + 1))), (5, .fz int ((v : Int) + 1))], [.row SpT (inF a k v).2]⟩, fun v => k + 1 + v + 1 ≤ a.length, fun v => a.length - v, 0, (by show k + 1 + 0 + 1 ≤ a.length; omega), Ent.sub rfl ?_, ?_⟩
      · (repeat' (first | exact trivial | exact rfl | refine And.intro ?_ ?_))
        refine (show AV.ref 0 (0 + ((k : Int) + 1).toNat) (((List.length a : Nat) : Int).toNat - ((k : Int) + 1).toNat) = .ref 0 (k + 1) (a.length - (k + 1)) from ?_)
        rw [show ((k : Int) + 1).toNat = k + 1 by omega, Int.toNat_natCast, Nat.zero_add]
      intro v hv
      have hv : k + 1 + v + 1 ≤ a.length := hv
      obtain ⟨hbl, hu⟩ := inF_bd a k v
      have hnx : inF a k (v + 1) = if Shp.at_ (inF a k v).2 (k + 1 + v) = Shp.at_ (inF a k v).2 (k + 1 + (v + 1)) then inF a k v else ((inF a k v).1 + 1, (inF a k v).2.set (inF a k v).1 (Shp.at_ (inF a k v).2 (k + 1 + (v + 1)))) := rfl
      have hce : v = a.length - (k + 2) → cmpF a = ((inF a k v).1, (inF a k v).2.take (inF a k v).1 ++ List.replicate (a.length - (inF a k v).1) SpT.dft ++ (inF a k v).2.drop ((inF a k v).1 + (a.length - (inF a k v).1))) := fun e => by
        rw [cmpF_at hka hd hs, e]; rfl
      obtain ⟨n2, hn2⟩ : ∃ n2, n2 = a.length - (k + 1) := ⟨_, rfl⟩
      show awp _ _ _ ⟨[(0, .ref 0 0 a.length), (3, .fz int ((inF a k v).1 : Nat)), (4, .ref 0 (k + 1) (a.length - (k + 1))), (5, .fz int ((v : Int) + 1))], [.row SpT (inF a k v).2]⟩
      obtain ⟨u, hu0⟩ : ∃ u, (inF a k v).1 = u := ⟨_, rfl⟩
      obtain ⟨b, hb0⟩ : ∃ b, (inF a k v).2 = b := ⟨_, rfl⟩
      rw [hu0, hb0] at hnx hce ⊢
      rw [hu0] at hu
      rw [hb0] at hbl
      have r1 := at_q b (k + 1 + (v + 1))
      have r2 := at_q b (k + 1 + v)
      rw [← hn2]
      by_cases hvn : v + 1 < n2
      · (repeat' (first | exact trivial | refine And.intro ?_ ?_ | (intro hb; try simp at hb) | omega | exact rfl | refine aRegion_auto (by decide +kernel) ?_ | fail))
        · have hne : ¬ Shp.at_ b (k + 1 + v) = Shp.at_ b (k + 1 + (v + 1)) := by
            rw [r1, r2, eqS] at hb
            exact fun h => of_decide_eq_false hb h.symm
          rw [if_neg hne] at hnx
          (repeat' (first | exact trivial | refine And.intro ?_ ?_ | (intro hb; try simp at hb) | omega | exact rfl | refine aRegion_auto (by decide +kernel) ?_ | fail))
          refine ⟨v + 1, (by show k + 1 + (v + 1) + 1 ≤ a.length; omega), by show a.length - (v + 1) < a.length - v; omega, Ent.sub ?_ ?_⟩
          · rw [hnx]
            show [AO.row SpT (List.set b (0 + u) (Shp.at_ b (k + 1 + (v + 1))))] = [AO.row SpT (List.set b u (Shp.at_ b (k + 1 + (v + 1))))]
            rw [Nat.zero_add]
          · (repeat' (first | exact trivial | exact rfl | refine And.intro ?_ ?_))
            rw [hnx]; rfl
        · have heq : Shp.at_ b (k + 1 + v) = Shp.at_ b (k + 1 + (v + 1)) := by
            rw [r1, r2, eqS] at hb
            exact (of_decide_eq_true hb).symm
          rw [if_pos heq] at hnx
          (repeat' (first | exact trivial | refine And.intro ?_ ?_ | (intro hb; try simp at hb) | omega | exact rfl | refine aRegion_auto (by decide +kernel) ?_ | fail))
          refine ⟨v + 1, (by show k + 1 + (v + 1) + 1 ≤ a.length; omega), by show a.length - (v + 1) < a.length - v; omega, Ent.sub ?_ ?_⟩
          · rw [hnx, hb0]
          · (repeat' (first | exact trivial | exact rfl | refine And.intro ?_ ?_))
            rw [hnx, hu0]; rfl
      · (repeat' (first | exact trivial | refine And.intro ?_ ?_ | (intro hb; try simp at hb) | omega | exact rfl | refine aRegion_auto (by decide +kernel) ?_ | fail))
        any_goals (first | exact Int.le_refl _ | (show (_ : Int) ≤ ((List.length a : Nat) : Int); omega))
        refine aact_clear (el := 46) tabOk (tok := 0) (off := u) (len := a.length - u) (e := SpT) (xs := b) ?_ ?_ ?_ ?_ ?_ ?_
        · show AV.ref 0 (0 + (u : Int).toNat) (((List.length a : Nat) : Int).toNat - (u : Int).toNat) = .ref 0 u (a.length - u)
          rw [Int.toNat_natCast, Int.toNat_natCast, Nat.zero_add]
        · rfl
        · show u + (a.length - u) ≤ b.length
          omega
        · kernel_rfl
        · kernel_rfl
        · (repeat' (first | exact trivial | refine And.intro ?_ ?_ | (intro hb; try simp at hb) | omega | exact rfl | refine aRegion_auto (by decide +kernel) ?_ | fail))
          refine ⟨_, _, REnt.refl _ _ _, ?_⟩
          refine (show K (.ref 0 0 u) [AO.row SpT (b.take u ++ List.replicate (a.length - u) SpT.dft ++ b.drop (u + (a.length - u)))] from ?_)
          rw [hce (by omega)] at hK
          exact hK
    · have hs : Shp.at_ a k ≠ Shp.at_ a (k + 1) := by
        rw [q1, q2, eqS] at hb
        exact fun h => of_decide_eq_false hb h.symm
      clear hb
      (repeat' (first | exact trivial | refine And.intro ?_ ?_ | (intro hb; try simp at hb) | omega | exact rfl | refine aRegion_auto (by decide +kernel) ?_ | fail))
      refine ⟨k + 1, ⟨by show k + 1 + 1 ≤ a.length; omega, fun j hj => ?_⟩, by show a.length - (k + 1) < a.length - k; omega, Ent.sub rfl ?_⟩
      · by_cases e : j = k
        · rw [e]; exact hs
        · have hj : j < k + 1 := hj
          exact hd j (by omega)
      · (repeat' (first | exact trivial | exact rfl | refine And.intro ?_ ?_))
  · (repeat' (first | exact trivial | refine And.intro ?_ ?_ | (intro hb; try simp at hb) | omega | exact rfl | refine aRegion_auto (by decide +kernel) ?_ | fail))
    refine ⟨_, _, REnt.refl _ _ _, ?_⟩
    rw [cmpF_no fun j hj => hd j (by omega)] at hK
    exact hK
end Go.Proofs.YtcfalmdfohphoaaDoor
/-
  A region that draws its order, by what holds whenever some of its operations have been done (raw: whatever is said of frames and worlds).
-/
namespace Go.Ab
open Go
theorem wpOp_ok {P : Program} {L : List Oper} {i : Nat} {o : Oper} {K : Act → World → Prop} {Q : Exit → Act → World → Prop} {a : Act} {w : World} (ho : L[i]? = some o) (hg : o.guard = none) (h : o.wp P a w K Q) : wpOp P L.toArray Q i K a w := by
  unfold wpOp
  have hi' : L.toArray[i]? = some o := by simpa using ho
  rw [hi']
  simp only
  have hw : Region.wanted o (yielded L.toArray a.tmps) = true := by unfold Region.wanted; rw [hg]
  rw [if_pos hw]
  exact .inl h
theorem wp_val {P : Program} {o : Oper} {v : Value} {K : Act → World → Prop} {Q : Exit → Act → World → Prop} {a : Act} {w w' : World} (h : (execOp a.eval o).run P w = .ok (.value v) w') (hk : K (a.put o.dst v) w') : o.wp P a w K Q := by
  unfold Oper.wp
  rw [h]
  exact hk
theorem wp_call {P : Program} {o : Oper} {f : FuncId} {vs : Array Value} {K : Act → World → Prop} {Q : Exit → Act → World → Prop} {a : Act} {w : World} (h : (execOp a.eval o).run P w = .ok (.enter f vs) w)
    (hc : Calls P f vs w fun e w' => ∃ v, e = .returned v ∧ K (a.put o.dst v) w') : o.wp P a w K Q := by
  unfold Oper.wp
  rw [h]
  exact hc.mono fun e w' ⟨v, he, hk⟩ => by subst he; exact hk
/-- what has been done is closed downward -/
def DnC (L : List Oper) (d : Nat → Bool) : Prop := ∀ (i : Nat) o, L[i]? = some o → d i = true → ∀ e ∈ o.after.toList, bindsA e = true → d e.on = true
section
variable {P : Program} {L : List Oper} {Q : Exit → Act → World → Prop} {I : (Nat → Bool) → Act → World → Prop}
theorem wpAny_inv (back : ∀ (i : Nat) o, L[i]? = some o → ∀ e ∈ o.after.toList, bindsA e = true → e.on < i)
    (hstep : ∀ d a w (i : Nat) o, L[i]? = some o → d i = false → (∀ e ∈ o.after.toList, bindsA e = true → d e.on = true) → DnC L d → I d a w → wpOp P L.toArray Q i (fun a' w' => I (fun j => decide (j = i) || d j) a' w') a w)
    (hend : ∀ d a w, (∀ i, i < L.length → d i = true) → I d a w → Q .normal a w) :
    ∀ (fuel : Nat) (listed : Array Bool) (a : Act) (w : World), listed.size = L.length → (List.range L.length).countP (fun i => !listed.getD i false) = fuel → DnC L (fun j => listed.getD j false) → I (fun j => listed.getD j false) a w → wpAny P .any L.toArray Q fuel listed a w := by
  intro fuel
  induction fuel with
  | zero =>
    intro listed a w hsz hcnt hD hI
    have hall : ∀ i, i < L.length → listed.getD i false = true := fun i hi => by
      have := List.countP_eq_zero.1 hcnt i (List.mem_range.2 hi)
      simpa using this
    refine ⟨?_, hend _ a w hall hI⟩
    cases hr : Region.ready .any L.toArray listed with
    | nil => rfl
    | cons i l =>
      have hi : i ∈ Region.ready .any L.toArray listed := by rw [hr]; exact List.mem_cons_self ..
      obtain ⟨h1, o, h2, _⟩ := mem_ready.1 hi
      have hlt : i < L.length := get_lt (by simpa using h2)
      have := getD_both h1
      rw [hall i hlt] at this; cases this
  | succ fuel ih =>
    intro listed a w hsz hcnt hD hI
    refine ⟨fun h0 => ?_, fun i hi => ?_⟩
    · have hpos : 0 < (List.range L.length).countP (fun i => !listed.getD i false) := by omega
      obtain ⟨i, h1, h2⟩ := List.countP_pos_iff.1 hpos
      obtain ⟨m, ⟨m1, m2⟩, m3⟩ := least_of (p := fun i => i < L.length ∧ listed.getD i false = false) i ⟨List.mem_range.1 h1, by simpa using h2⟩
      exfalso
      have : m ∈ Region.ready .any L.toArray listed := by
        refine mem_ready.2 ⟨getD_in (by omega) m2, L[m], by simp [m1], fun e he hb => ?_⟩
        have hlt := back m L[m] (List.getElem?_eq_getElem m1) e (by simpa using he) hb
        cases hl : listed.getD e.on false with
        | true => rfl
        | false => exact absurd ⟨by omega, hl⟩ (m3 e.on hlt)
      rw [h0] at this; cases this
    · obtain ⟨hun, o, ho, haft⟩ := mem_ready.1 hi
      have ho : L[i]? = some o := by simpa using ho
      have hil := get_lt ho
      have hun := getD_both hun
      have hset : ∀ j, (listed.setIfInBounds i true).getD j false = (decide (j = i) || listed.getD j false) := fun j => by
        by_cases hj : j = i
        · subst hj
          have : j < listed.size := by omega
          simp [Array.getD_eq_getD_getElem?, this]
        · rw [getD_set_ne false (fun e => hj e.symm)]; simp [hj]
      refine wpOp_mono (fun a' w' hI' => ?_) (hstep _ a w i o ho hun (fun e he hb => haft e (by simpa using he) hb) hD hI)
      refine ih _ a' w' (by simpa using hsz) ?_ (fun j p hj hl e he hb => ?_) (by rw [show (fun j => (listed.setIfInBounds i true).getD j false) = fun j => decide (j = i) || listed.getD j false from funext hset]; exact hI')
      · have := countP_one (n := L.length) (i := i) (p := fun i => !listed.getD i false) (q := fun j => !(listed.setIfInBounds i true).getD j false) hil (by simp only [hun]; rfl) (by simp only [hset]; simp) (fun j hj => by simp only [hset]; simp [hj])
        omega
      · show (listed.setIfInBounds i true).getD e.on false = true
        have hl : (listed.setIfInBounds i true).getD j false = true := hl
        rw [hset] at hl ⊢
        by_cases hji : j = i
        · subst hji
          rw [ho] at hj; cases hj
          rw [haft e (by simpa using he) hb]; simp
        · have hl : listed.getD j false = true := by simpa [hji] using hl
          have := hD j p hj hl e he hb
          simp only at this
          rw [this]; simp
theorem wp_region_inv {id : Nat} {a : Act} {w : World} (hm : P.follows .mixedOrders = true) (back : ∀ (i : Nat) o, L[i]? = some o → ∀ e ∈ o.after.toList, bindsA e = true → e.on < i)
    (h0 : I (fun _ => false) a { w with drawn := w.drawn + 1 })
    (hstep : ∀ d a w (i : Nat) o, L[i]? = some o → d i = false → (∀ e ∈ o.after.toList, bindsA e = true → d e.on = true) → DnC L d → I d a w → wpOp P L.toArray Q i (fun a' w' => I (fun j => decide (j = i) || d j) a' w') a w)
    (hend : ∀ d a w, (∀ i, i < L.length → d i = true) → I d a w → Q .normal a w) : (Code.region id L.toArray true).wp P Q a w := by
  refine wp_region_any hm ?_
  have hcnt0 : (List.range L.length).countP (fun i => !(Array.replicate L.length false).getD i false) = L.length := by
    rw [List.countP_eq_length.2 (fun i _ => by rw [getD_replicate_false]; rfl)]; simp
  have e : (fun j => (Array.replicate L.length false).getD j false) = fun _ => false := funext fun j => getD_replicate_false _ _
  have := wpAny_inv back hstep hend L.length (Array.replicate L.length false) a { w with drawn := w.drawn + 1 } (by simp) hcnt0 (fun i o _ hl => by have hl : (Array.replicate L.length false).getD i false = true := hl; rw [getD_replicate_false] at hl; cases hl) (by rw [e]; exact h0)
  simpa using this
end
end Go.Ab
/-
  Raw pieces: a loop by an indexed invariant; a piece of code that the engine walks, everything seen as data; a frame's slots.
-/
namespace Go.Ab
open Go Go.RowKit
theorem wp_loopI {P : Program} {c : Code} {Q : Exit → Act → World → Prop} {a : Act} {w : World} {ι : Type} (S : ι → Act → World → Prop) (μ : ι → Nat) (i0 : ι) (h0 : S i0 a w)
    (round : ∀ i a w, S i a w → c.wp P (Exit.then (fun a' w' => ∃ j, μ j < μ i ∧ S j a' w') Q) a w) : (Code.loop c).wp P Q a w := by
  let M : Act → World → Nat := fun a w => Classical.epsilon fun n => (∃ i, S i a w ∧ μ i = n) ∧ ∀ i, S i a w → n ≤ μ i
  have hM : ∀ a w, (∃ i, S i a w) → (∃ i, S i a w ∧ μ i = M a w) ∧ ∀ i, S i a w → M a w ≤ μ i := by
    intro a w ⟨i, hi⟩
    have : ∃ n, (∃ i, S i a w ∧ μ i = n) ∧ ∀ i, S i a w → n ≤ μ i := by
      obtain ⟨m, ⟨j, j2, j3⟩, hm⟩ := least_of (p := fun n => ∃ i, S i a w ∧ μ i = n) (μ i) ⟨i, hi, rfl⟩
      refine ⟨m, ⟨j, j2, j3⟩, fun i' hs' => ?_⟩
      rcases Nat.lt_or_ge (μ i') m with h | h
      · exact absurd ⟨i', hs', rfl⟩ (hm _ h)
      · exact h
    exact Classical.epsilon_spec this
  refine wp_loop (fun a w => ∃ i, S i a w) M ⟨i0, h0⟩ fun a w hI => ?_
  obtain ⟨⟨i, hi, hμ⟩, _⟩ := hM a w hI
  refine wp_mono (round i a w hi) fun e a' w' h => ?_
  cases e with
  | normal =>
    obtain ⟨j, hlt, hj⟩ := h
    refine ⟨⟨j, hj⟩, ?_⟩
    have := (hM a' w' ⟨j, hj⟩).2 j hj
    omega
  | _ => exact h
/-! ### slots -/
theorem put_get {a : Act} {d : Option Tmp} {u : Value} (hd : ∀ t, d = some t → t < a.tmps.size) (t : Nat) : (a.put d u).tmps.getD t undef = if d = some t then u else a.tmps.getD t undef := by
  cases d with
  | none => simp [Act.put]
  | some s =>
    have := hd s rfl
    unfold Act.put
    by_cases h : s = t
    · subst h; simp [Array.getD_eq_getD_getElem?, this]
    · rw [if_neg (fun e => h (by cases e; rfl))]
      simp [Array.getD_eq_getD_getElem?, Array.getElem?_setIfInBounds_ne h]
theorem put_size {a : Act} {d : Option Tmp} {u : Value} : (a.put d u).tmps.size = a.tmps.size := by cases d <;> simp [Act.put]
theorem put_defers {a : Act} {d : Option Tmp} {u : Value} : (a.put d u).defers = a.defers := by cases d <;> rfl
/-! ### everything seen as data -/
/-- no tokens in it -/
def AV.tf : AV → Bool
  | .fz _ _ => true
  | .fptr _ _ => true
  | _ => false
theorem tf_start {c : Cx} {G : List (Nat × Value)} {a : AV} {v : Value} (ha : a.tf = true) (h : Rel c a v) : Rel (Cx.start G c.w) a v := by
  have hI : ∀ b, c.I b → b < c.w.heap.size → (Cx.start G c.w).I b ∧ (Cx.start G c.w).w.heap[b]? = c.w.heap[b]? := fun b _ _ => ⟨start_I b, rfl⟩
  cases a <;> try (cases ha; done)
  · unfold Rel at *
    obtain ⟨cs, h1, h2⟩ := h
    exact ⟨cs, h1.mono hI, h2⟩
  · unfold Rel at *
    obtain ⟨b, off, cs, h1, h2, h3, h4, h5⟩ := h
    exact ⟨b, off, cs, h1, start_I b, h3, h4.mono hI, h5⟩
def tfT : List (Nat × AV) → Bool
  | [] => true
  | (_, v) :: T => v.tf && tfT T
theorem tfT_lk : ∀ {T : List (Nat × AV)}, tfT T = true → ∀ n, (lk T n).tf = true ∨ lk T n = .unk
  | [], _, n => .inr rfl
  | (d, v) :: T, h, n => by
    unfold tfT at h
    simp only [Bool.and_eq_true] at h
    unfold lk
    by_cases hd : d = n
    · rw [if_pos hd]; exact .inl h.1
    · rw [if_neg hd]; exact tfT_lk h.2 n
theorem tr_start {c : Cx} {G : List (Nat × Value)} {T : List (Nat × AV)} {tmps : Array Value} (hT : tfT T = true) (h : TR c T tmps) : TR (Cx.start G c.w) T tmps := fun n => by
  rcases tfT_lk hT n with h1 | h1
  · exact tf_start h1 (h n)
  · rw [h1]; exact rel_unk
/-- everything is data: what is known of the slots -/
structure DS (G : List (Nat × Value)) (N : Nat) (T : List (Nat × AV)) (a : Act) (w : World) : Prop where
  H : HR (Cx.start G w)
  T : TR (Cx.start G w) T a.tmps
  d : a.defers = []
  n : a.tmps.size = N
theorem DS.sim {G : List (Nat × Value)} {N : Nat} {T : List (Nat × AV)} {a : Act} {w : World} (h : DS G N T a w) : Sim 0 (Cx.start G w) N ⟨T, []⟩ a w :=
  ⟨Cx.start G w, rfl, rfl, h.H, h.T, ExtN.refl (Nat.zero_le _), h.d, h.n⟩
theorem below_of {G : List (Nat × Value)} {w : World} {c' : Cx} (h3 : ExtN 0 (Cx.start G w) c') : Below w.heap.size w c'.w := by
  have hb : ∀ k, k < w.heap.size → c'.w.heap[k]? = w.heap[k]? := fun k hk => (h3.le.I k (start_I k) hk).2
  refine ⟨h3.st.os, h3.st.tape, h3.st.output, ?_, hb⟩
  rcases Nat.lt_or_ge c'.w.heap.size w.heap.size with hlt | hge
  · have := hb c'.w.heap.size hlt
    rw [Array.getElem?_eq_none (Nat.le_refl _), Array.getElem?_eq_getElem hlt] at this
    cases this
  · exact hge
theorem hr_start {G : List (Nat × Value)} {w w' : World} (H : HR (Cx.start G w)) (hw : ∀ b, b < w.heap.size → w'.heap[b]? = w.heap[b]?) : HR (Cx.start G w') :=
  ⟨fun t b h => by obtain ⟨o, h1, _⟩ := h; simp [Cx.start] at h1, fun t u b h => by obtain ⟨o, h1, _⟩ := h; simp [Cx.start] at h1,
    fun t o h => by simp [Cx.start] at h, fun b h => h.elim, fun g v h => GloOk.mono (c := Cx.start G w) (c' := Cx.start G w') (fun b _ hlt => ⟨start_I b, hw b hlt⟩) (H.glo g v h)⟩
/-- a piece of code -/
theorem DS.seg {E : Env} (ok : EnvOk E) (hn : E.n0 = 0) {T : List (Nat × AV)} {a : Act} {w : World} (h : DS E.G E.N T a w) {c : Code} {Q : Exit → St → Prop} (hc : awp E c Q ⟨T, []⟩) :
    c.wp E.P (fun e a' w' => ∃ σ', Q e σ' ∧ Below w.heap.size w w' ∧ ∀ T', tfT T' = true → subT σ'.T T' → DS E.G E.N T' a' w') a w := by
  have hs := h.sim
  refine wp_mono (awp_sound ok (Cx.start E.G w) rfl c Q ⟨T, []⟩ a w hc (by rw [hn]; exact hs)) fun e a' w' ⟨σ', hq, hs'⟩ => ?_
  rw [hn] at hs'
  obtain ⟨c', rfl, h2, h3, h4, h5, h6, h7⟩ := hs'
  have hB := below_of h5
  exact ⟨σ', hq, hB, fun T' ht hsub => ⟨hr_start h.H hB.block, tr_start ht (subT_lk h4 T' hsub), h6, h7⟩⟩
theorem DS.at {G : List (Nat × Value)} {N : Nat} {T : List (Nat × AV)} {a : Act} {w : World} (h : DS G N T a w) (t : Nat) : Rel (Cx.start G w) (lk T t) (a.tmps.getD t undef) := h.T t
end Go.Ab
/-
  Thin, raw: one arc more (region 10).
-/
namespace Go.Proofs.YtcfalmdfohphoaaDoor
open Go Go.Ab Go.RowKit
set_option maxRecDepth 100000
namespace thin
theorem fa_run (w : World) (b : Nat) : (Instr.fieldAt 33 (.pointer (some ⟨b, 0, none⟩)) 0).run Tryd.prog w = .ok (.pointer (some ⟨b, 0, none⟩)) w := by rfl
theorem ld_run {w : World} {b o : Nat} {v : Value} {cs : Array Value} {et : TypeId} (h : w.heap[b]? = some (.cells cs et (0, 0))) (hv : cs[o]? = some v) : (Instr.loadAt 31 (.pointer (some ⟨b, o, none⟩))).run Tryd.prog w = .ok v w := by
  have := run_loadVar (P := Tryd.prog) tabOk (w := w) (t := 31) (b := b) (o := o) (cs := [v]) (ag := false) (by decide +kernel) (show tsz tab 31 = 1 by decide +kernel) (by simp) (fun _ => rfl) (fun j hj => by
    have hj : j < 1 := hj
    obtain rfl : j = 0 := by omega
    rw [delK.cells_heap _ h]
    simpa using hv)
  simp [Instr.loadAt, Instr.sureAddr, this]
theorem bs_run {w : World} {v : Value} (h1 : v.cells = #[v]) : (Instr.buildSlice 31 1 #[(0, v)]).run Tryd.prog w = .ok (.slice (some ⟨w.heap.size, 0, none⟩) 1 1) (w.alloc (.cells #[v] 44)) := by
  have hf : Instr.fill (fun i => some (i, 1)) (Array.map (fun x => (Value.slice none 0 0).cells[x % (Value.slice none 0 0).cells.size]!) (Array.range 1)) [(0, v)] = some #[v] := by
    simp [Instr.fill, h1, Array.range]
    rfl
  simp [Instr.buildSlice, run_underlying' und2, hf, newRow]
/-- slices.Clone, in a world -/
theorem clone_raw {G : List (Nat × Value)} {w : World} (H : HR (Cx.start G w)) {lo : Nat} (hlo : lo ≤ w.heap.size) {xs : Arc} {v : Value} (h2 : 0 < xs.length) (hl : xs.length ≤ 100000) (hv : Rel (Cx.start G w) (.fz (.list SpT) xs) v) :
    Calls Tryd.prog 26 #[v] w fun e w' => ∃ u, e = .returned u ∧ ∃ b, Below w.heap.size w w' ∧ w.heap.size ≤ b ∧ ArcR lo w' u b xs := by
  have hc := (cloneS_any G xs h2 hl (fun r A => r = .ref 1 0 xs.length ∧ A = [.dead, .row SpT xs]) ⟨rfl, rfl⟩).run (Cx.start G w) H rfl rfl [v] ⟨v, [], rfl, hv, rfl⟩
  refine (callsX_body hc (hasBodyB_of (by decide +kernel))).mono fun e w' ⟨u, c', r, h1, h2', h3, h4, h5, h6, h7⟩ => ⟨u, h1, ?_⟩
  subst h6
  subst h2'
  have hA : c'.A[1]? = some (.row SpT xs) := by rw [h7]; rfl
  unfold Rel at h5
  rw [hA] at h5
  simp only at h5
  rcases h5 with ⟨b, cap, cs, et, ad, hr, rfl, ha, hcap, hh, hsz⟩ | ⟨_, _, hz, _⟩
  rotate_left
  · omega
  obtain rfl := ha (by omega)
  have ho := h4.obj 1 _ hA
  rw [hr] at ho
  rcases row_iff ho with ⟨q, _⟩ | ⟨b', cs', et', L, R, q1, q2, q3, q4⟩
  · cases q
  cases q1
  rw [hh] at q2; cases q2
  have hB := below_of (c' := c') (G := G) (w := w) h3.toN
  have hfresh : w.heap.size ≤ b := by
    refine Nat.le_of_not_lt fun hlt => ?_
    exact (h3.le.I b (start_I b) hlt).1.2 1 ⟨_, hA, rfl⟩ hr
  exact ⟨b, hB, hfresh, cap, cs, et, L, R, by rw [Nat.zero_mul], Nat.le_trans hlo hfresh, hcap, hh, q3, cells_flat q4⟩
/-- what holds inside of region 10: by what has been done -/
structure R10 (lo : Nat) (a0 : Act) (w0 : World) (b7 : Nat) (hdr : Value) (hs : List Value) (bs : List Nat) (outs : List Arc) (xs : Arc) (d0 d1 d2 d3 d4 d5 d6 d7 : Bool) (a : Act) (w : World) : Prop where
  oth : ∀ t, t < 30 ∨ 36 < t → a.tmps.getD t undef = a0.tmps.getD t undef
  df : a.defers = []
  sz : a.tmps.size = 76
  s0 : d0 = true → a.tmps.getD 30 undef = .pointer (some ⟨b7, 0, none⟩)
  s1 : d1 = true → a.tmps.getD 31 undef = hdr
  s2 : d2 = true → a.tmps.getD 32 undef = a0.tmps.getD 9 undef
  s6 : d6 = true → a.tmps.getD 36 undef = .pointer (some ⟨b7, 0, none⟩)
  st : WSame w0 w
  gr : w0.heap.size ≤ w.heap.size
  p0 : d3 = false → ∀ k, k < w0.heap.size → w.heap[k]? = w0.heap[k]?
  p1 : d3 = true → d4 = false → ∃ v b, a.tmps.getD 33 undef = v ∧ w0.heap.size ≤ b ∧ ArcR lo w v b xs ∧ ∀ k, k < w0.heap.size → w.heap[k]? = w0.heap[k]?
  p2 : d4 = true → d5 = false → ∃ v b s et, a.tmps.getD 34 undef = .slice (some ⟨s, 0, none⟩) 1 1 ∧ w.heap[s]? = some (.cells #[v] et (0, 0)) ∧ w0.heap.size ≤ b ∧ ArcR lo w v b xs ∧ ∀ k, k < w0.heap.size → w.heap[k]? = w0.heap[k]?
  p3 : d5 = true → d7 = false → ∃ v b hdr' bA, a.tmps.getD 35 undef = hdr' ∧ w0.heap.size ≤ b ∧ ArcR lo w v b xs ∧ bA ∉ bs ∧ bA ≠ b7 ∧ lo ≤ bA ∧ (∀ k, k < w0.heap.size → k ≠ bA → w.heap[k]? = w0.heap[k]?) ∧ ArrR lo w b7 hdr' (hs ++ [v]) (bs ++ [b])
  p4 : d7 = true → ∃ v b hdr' bA, w0.heap.size ≤ b ∧ ArcR lo w v b xs ∧ bA ∉ bs ∧ bA ≠ b7 ∧ lo ≤ bA ∧ (∀ k, k < w0.heap.size → k ≠ b7 → k ≠ bA → w.heap[k]? = w0.heap[k]?) ∧ (∃ et, w.heap[b7]? = some (.cells #[hdr'] et (0, 0))) ∧ ArrR lo w b7 hdr' (hs ++ [v]) (bs ++ [b])
/-- a slot is written that no one asks for -/
theorem getD_put {a : Act} {s : Nat} {u : Value} (hN : a.tmps.size = 76) (hs : s < 76) (t : Nat) : (a.put (some s) u).tmps.getD t undef = if s = t then u else a.tmps.getD t undef := by
  rw [put_get (fun t h => by cases h; rw [hN]; exact hs)]
  by_cases h : s = t
  · rw [if_pos h, if_pos (by rw [h])]
  · rw [if_neg h, if_neg (fun e => h (by cases e; rfl))]
theorem ThW.a7 {lo : Nat} {w : World} {b7 : Nat} {hdr : Value} {hs : List Value} {bs : List Nat} {outs : List Arc} (h : ThW lo w b7 hdr hs bs outs) : ∃ et, w.heap[b7]? = some (.cells #[hdr] et (0, 0)) := h.h7
theorem hdr_fresh {lo : Nat} {w : World} {b7 : Nat} {hdr : Value} {hs : List Value} {bs : List Nat} {outs : List Arc} (h : ThW lo w b7 hdr hs bs outs) {b : Nat} (hb : w.heap.size ≤ b) : ∀ bA cap n, hdr = .slice (some ⟨bA, 0, none⟩) n cap → b ≠ bA := fun bA cap n e => by
  rcases h.arr with ⟨_, e1⟩ | ⟨bA', cap', cs, et, R, e1, _, _, _, q5, _⟩
  · rw [e1] at e; cases e
  · rw [e1] at e; cases e
    have := lt_of q5
    omega
def ops10 : List Oper := [{ dst := some 30, op := Op.fieldAddr 33 (Operand.tmp 7) 0, type := 0, pos := "shape.go:310", after := #[], guard := none }, { dst := some 31, op := Op.load 31 (Operand.tmp 30), type := 31, pos := "shape.go:310", after := #[{ on := 0, ground := Ground.data }], guard := none }, { dst := some 32, op := Op.move (Operand.tmp 9), type := 44, pos := "shape.go:310", after := #[], guard := none }, { dst := some 33, op := Op.call { callee := Callee.value (Operand.func 26), args := #[Operand.tmp 32], argTypes := #[44] }, type := 44, pos := "shape.go:310", after := #[{ on := 2, ground := Ground.data }], guard := none }, { dst := some 34, op := Op.buildSlice 31 1 #[(0, Operand.tmp 33)], type := 31, pos := "shape.go:310", after := #[{ on := 3, ground := Ground.data }], guard := none }, { dst := some 35, op := Op.call { callee := Callee.builtin Builtin.append, args := #[Operand.tmp 31, Operand.tmp 34], argTypes := #[31, 31] }, type := 31, pos := "shape.go:310", after := #[{ on := 1, ground := Ground.data }, { on := 4, ground := Ground.data }, { on := 3, ground := Ground.chain }], guard := none }, { dst := some 36, op := Op.fieldAddr 33 (Operand.tmp 7) 0, type := 0, pos := "shape.go:310", after := #[{ on := 0, ground := Ground.phase }, { on := 1, ground := Ground.phase }, { on := 2, ground := Ground.phase }, { on := 3, ground := Ground.phase }, { on := 4, ground := Ground.phase }, { on := 5, ground := Ground.phase }], guard := none }, { dst := none, op := Op.store 31 (Operand.tmp 36) (Operand.tmp 35), type := 0, pos := "shape.go:310", after := #[{ on := 6, ground := Ground.data }, { on := 5, ground := Ground.data }, { on := 5, ground := Ground.chain }, { on := 0, ground := Ground.phase }, { on := 1, ground := Ground.phase }, { on := 2, ground := Ground.phase }, { on := 3, ground := Ground.phase }, { on := 4, ground := Ground.phase }, { on := 5, ground := Ground.phase }], guard := none }]
section
variable {lo : Nat} {a0 : Act} {w0 : World} {b7 : Nat} {hdr : Value} {hs : List Value} {bs : List Nat} {outs : List Arc} {xs : Arc} {d0 d1 d2 d3 d4 d5 d6 d7 : Bool} {a : Act} {w : World}
theorem R10.pure (h : R10 lo a0 w0 b7 hdr hs bs outs xs d0 d1 d2 d3 d4 d5 d6 d7 a w) {s : Nat} (hs3 : s ≠ 33 ∧ s ≠ 34 ∧ s ≠ 35 ∧ 30 ≤ s ∧ s ≤ 36) {u : Value} {e0 e1 e2 e6 : Bool}
    (g0 : e0 = true → (if s = 30 then u else a.tmps.getD 30 undef) = .pointer (some ⟨b7, 0, none⟩)) (g1 : e1 = true → (if s = 31 then u else a.tmps.getD 31 undef) = hdr)
    (g2 : e2 = true → (if s = 32 then u else a.tmps.getD 32 undef) = a0.tmps.getD 9 undef) (g6 : e6 = true → (if s = 36 then u else a.tmps.getD 36 undef) = .pointer (some ⟨b7, 0, none⟩)) :
    R10 lo a0 w0 b7 hdr hs bs outs xs e0 e1 e2 d3 d4 d5 e6 d7 (a.put (some s) u) w := by
  have hp := fun t => getD_put (s := s) (u := u) h.sz (by omega) t
  refine ⟨fun t ht => ?_, put_defers.trans h.df, put_size.trans h.sz, fun e => (hp 30).trans (g0 e), fun e => (hp 31).trans (g1 e), fun e => (hp 32).trans (g2 e), fun e => (hp 36).trans (g6 e), h.st, h.gr, h.p0, ?_, ?_, ?_, h.p4⟩
  · rw [hp, if_neg (by omega)]; exact h.oth t ht
  · rw [hp, if_neg (by omega)]; exact h.p1
  · rw [hp, if_neg (by omega)]; exact h.p2
  · rw [hp, if_neg (by omega)]; exact h.p3
theorem R10.old (h : R10 lo a0 w0 b7 hdr hs bs outs xs d0 d1 d2 d3 d4 d5 d6 d7 a w) (h5 : d5 = false) : ∀ k, k < w0.heap.size → w.heap[k]? = w0.heap[k]? := by
  cases h4 : d4 with
  | true => obtain ⟨_, _, _, _, _, _, _, _, q⟩ := h.p2 h4 h5; exact q
  | false => cases h3 : d3 with
    | true => obtain ⟨_, _, _, _, _, q⟩ := h.p1 h3 h4; exact q
    | false => exact h.p0 h3
theorem R10.eff (h : R10 lo a0 w0 b7 hdr hs bs outs xs d0 d1 d2 d3 d4 d5 d6 d7 a w) {d : Option Tmp} (hd : ∀ t, d = some t → t = 33 ∨ t = 34 ∨ t = 35) {u : Value} :
    (∀ t, t < 30 ∨ 36 < t → (a.put d u).tmps.getD t undef = a0.tmps.getD t undef) ∧ (a.put d u).defers = [] ∧ (a.put d u).tmps.size = 76 ∧ (d0 = true → (a.put d u).tmps.getD 30 undef = .pointer (some ⟨b7, 0, none⟩)) ∧ (d1 = true → (a.put d u).tmps.getD 31 undef = hdr) ∧
      (d2 = true → (a.put d u).tmps.getD 32 undef = a0.tmps.getD 9 undef) ∧ (d6 = true → (a.put d u).tmps.getD 36 undef = .pointer (some ⟨b7, 0, none⟩)) := by
  have hp := fun t => put_get (a := a) (d := d) (u := u) (fun t h' => by rcases hd t h' with rfl | rfl | rfl <;> rw [h.sz] <;> decide) t
  have hne : ∀ t, (t ≠ 33 ∧ t ≠ 34 ∧ t ≠ 35) → (a.put d u).tmps.getD t undef = a.tmps.getD t undef := fun t ht => by
    rw [hp, if_neg (fun e => by rcases hd t e with rfl | rfl | rfl <;> simp at ht)]
  exact ⟨fun t ht => (hne t (by omega)).trans (h.oth t ht), put_defers.trans h.df, put_size.trans h.sz, fun e => (hne 30 (by omega)).trans (h.s0 e), fun e => (hne 31 (by omega)).trans (h.s1 e), fun e => (hne 32 (by omega)).trans (h.s2 e), fun e => (hne 36 (by omega)).trans (h.s6 e)⟩
end
theorem rel_keep {G : List (Nat × Value)} {w w' : World} {t : Ty} {x : t.den} {v : Value} (hw : ∀ k, k < w.heap.size → w'.heap[k]? = w.heap[k]?) (h : Rel (Cx.start G w) (.fz t x) v) : Rel (Cx.start G w') (.fz t x) v := by
  unfold Rel at *
  obtain ⟨cs, h1, h2⟩ := h
  exact ⟨cs, h1.mono (w' := w') fun b _ hlt => ⟨start_I b, hw b hlt⟩, h2⟩
theorem ArcR.val {lo : Nat} {w : World} {v : Value} {b : Nat} {xs : Arc} (h : ArcR lo w v b xs) : v.cells = #[v] ∧ v.oneCell' = true ∧ b < w.heap.size := by
  obtain ⟨cap, cs, et, L, R, rfl, _, _, h4, _⟩ := h
  exact ⟨rfl, rfl, lt_of h4⟩
theorem ThW.bs_lt {lo : Nat} {w : World} {b7 : Nat} {hdr : Value} {hs : List Value} {bs : List Nat} {outs : List Arc} (h : ThW lo w b7 hdr hs bs outs) {b : Nat} (hb : w.heap.size ≤ b) : b ∉ bs := fun hm => by
  obtain ⟨j, hj, e⟩ := List.getElem_of_mem hm
  have := (h.arc j (by have := h.lb; omega)).val.2.2
  rw [List.getD_eq_getElem?_getD, List.getElem?_eq_getElem hj] at this
  simp only [Option.getD_some] at this
  omega
theorem back10 : ∀ (i : Nat) o, ops10[i]? = some o → ∀ e ∈ o.after.toList, bindsA e = true → e.on < i := by
  have key : (List.range ops10.length).all (fun i => match ops10[i]? with | some o => o.after.toList.all (fun e => !bindsA e || Nat.blt e.on i) | none => true) = true := by decide +kernel
  intro i o ho e he hb
  have := List.all_eq_true.1 key i (List.mem_range.2 (get_lt ho))
  rw [ho] at this
  have := List.all_eq_true.1 this e he
  rw [hb] at this
  exact blt_of (by simpa using this)
theorem region10 {G : List (Nat × Value)} {lo : Nat} {a0 : Act} {w0 : World} {b7 : Nat} {hdr : Value} {hs : List Value} {bs : List Nat} {outs : List Arc} {xs : Arc} {T : List (Nat × AV)} (D : DS G 76 T a0 w0) (h9 : Rel (Cx.start G w0) (.fz (.list SpT) xs) (a0.tmps.getD 9 undef))
    (h7 : a0.tmps.getD 7 undef = .pointer (some ⟨b7, 0, none⟩)) (hlo : lo ≤ w0.heap.size) (hT : ThW lo w0 b7 hdr hs bs outs) (hn : outs.length ≤ 100000) (hx0 : 0 < xs.length) (hx1 : xs.length ≤ 100000) {Q : Exit → Act → World → Prop}
    (hQ : ∀ a w hdr' hs' bs', ThW lo w b7 hdr' hs' bs' (outs ++ [xs]) → WSame w0 w → w0.heap.size ≤ w.heap.size → (∀ k, k < lo → w.heap[k]? = w0.heap[k]?) → (∀ t, t < 30 ∨ 36 < t → a.tmps.getD t undef = a0.tmps.getD t undef) → a.defers = [] → a.tmps.size = 76 → Q .normal a w) :
    (Code.region 10 ops10.toArray true).wp Tryd.prog Q a0 w0 := by
  have hlt7 : b7 < w0.heap.size := by obtain ⟨_, h⟩ := hT.h7; exact lt_of h
  refine wp_region_inv (I := fun d a w => R10 lo a0 w0 b7 hdr hs bs outs xs (d 0) (d 1) (d 2) (d 3) (d 4) (d 5) (d 6) (d 7) a w) mixOk back10 ?_ ?_ ?_
  · exact ⟨fun t _ => rfl, D.d, D.n, fun h => (by cases h), fun h => (by cases h), fun h => (by cases h), fun h => (by cases h), ⟨rfl, rfl, rfl⟩, Nat.le_refl _, fun _ k _ => rfl, fun h => (by cases h), fun h => (by cases h), fun h => (by cases h), fun h => (by cases h)⟩
  · intro d a w i o ho hd haft hdn h
    have hil := get_lt ho
    have hil : i < 8 := hil
    have e7 : a.tmps.getD 7 undef = .pointer (some ⟨b7, 0, none⟩) := (h.oth 7 (by omega)).trans h7
    rcases (by omega : i = 0 ∨ i = 1 ∨ i = 2 ∨ i = 3 ∨ i = 4 ∨ i = 5 ∨ i = 6 ∨ i = 7) with rfl | rfl | rfl | rfl | rfl | rfl | rfl | rfl
    · cases (Option.some.inj ho : _ = o)
      refine wpOp_ok rfl rfl (wp_val (v := .pointer (some ⟨b7, 0, none⟩)) (w' := w) ?_ ?_)
      · show (do pure (.value (← Instr.fieldAt 33 (a.tmps.getD 7 undef) 0)) : Sem Next).run _ w = _
        rw [e7]; rfl
      · show R10 lo a0 w0 b7 hdr hs bs outs xs true (d 1) (d 2) (d 3) (d 4) (d 5) (d 6) (d 7) _ w
        exact h.pure (by omega) (fun _ => rfl) h.s1 h.s2 h.s6
    · cases (Option.some.inj ho : _ = o)
      have c0 : d 0 = true := haft { on := 0, ground := .data } (by simp) rfl
      have c5 : d 5 = false := by
        cases h5 : d 5 with
        | false => rfl
        | true => have := hdn 5 _ rfl h5 { on := 1, ground := .data } (by simp) rfl; rw [hd] at this; cases this
      obtain ⟨et, h7w⟩ := hT.h7
      refine wpOp_ok rfl rfl (wp_val (v := hdr) (w' := w) ?_ ?_)
      · show (do pure (.value (← Instr.loadAt 31 (a.tmps.getD 30 undef))) : Sem Next).run _ w = _
        rw [h.s0 c0]
        have := ld_run (w := w) (b := b7) (o := 0) (v := hdr) ((h.old c5 b7 hlt7).trans h7w) rfl
        simp [this]
      · show R10 lo a0 w0 b7 hdr hs bs outs xs (d 0) true (d 2) (d 3) (d 4) (d 5) (d 6) (d 7) _ w
        exact h.pure (by omega) h.s0 (fun _ => rfl) h.s2 h.s6
    · cases (Option.some.inj ho : _ = o)
      refine wpOp_ok rfl rfl (wp_val (v := a0.tmps.getD 9 undef) (w' := w) ?_ ?_)
      · show (pure (.value (a.tmps.getD 9 undef)) : Sem Next).run _ w = _
        rw [h.oth 9 (by omega)]; rfl
      · show R10 lo a0 w0 b7 hdr hs bs outs xs (d 0) (d 1) true (d 3) (d 4) (d 5) (d 6) (d 7) _ w
        exact h.pure (by omega) h.s0 h.s1 (fun _ => rfl) h.s6
    · cases (Option.some.inj ho : _ = o)
      have c2 : d 2 = true := haft { on := 2, ground := .data } (by simp) rfl
      have c4 : d 4 = false := by
        cases h4 : d 4 with
        | false => rfl
        | true => have := hdn 4 _ rfl h4 { on := 3, ground := .data } (by simp) rfl; rw [hd] at this; cases this
      have c5 : d 5 = false := by
        cases h5 : d 5 with
        | false => rfl
        | true => have := hdn 5 _ rfl h5 { on := 4, ground := .data } (by simp) rfl; rw [c4] at this; cases this
      have c7 : d 7 = false := by
        cases h7 : d 7 with
        | false => rfl
        | true => have := hdn 7 _ rfl h7 { on := 5, ground := .data } (by simp) rfl; rw [c5] at this; cases this
      have hp0 := h.p0 hd
      refine wpOp_ok rfl rfl (wp_call (f := 26) (vs := #[a0.tmps.getD 9 undef]) ?_ ?_)
      · have hb : hasBody Tryd.prog 26 := hasBodyB_of (by decide +kernel)
        have := run_callFunc (w := w) (vs := #[a0.tmps.getD 9 undef]) hb
        have hs2 := h.s2 c2
        have he : a.eval (.tmp 32) = a0.tmps.getD 9 undef := hs2
        rw [← he]
        simp [execOp, resolve, Deferred.ofValue, invoke, Act.eval]
      · refine (clone_raw (G := G) (hr_start D.H hp0) (lo := lo) (Nat.le_trans hlo h.gr) hx0 hx1 (rel_keep hp0 h9)).mono fun e w' ⟨u, hu, b, hB, hb, hx⟩ => ⟨u, hu, ?_⟩
        show R10 lo a0 w0 b7 hdr hs bs outs xs (d 0) (d 1) (d 2) true (d 4) (d 5) (d 6) (d 7) _ w'
        obtain ⟨g1, g2, g3, g4, g5, g6, g7⟩ := h.eff (d := some 33) (u := u) (fun t e => by cases e; simp)
        refine ⟨g1, g2, g3, g4, g5, g6, g7, ⟨hB.os.trans h.st.os, hB.tape.trans h.st.tape, hB.output.trans h.st.output⟩, Nat.le_trans h.gr hB.size, fun e => (by cases e), fun _ _ => ⟨u, b, ?_, Nat.le_trans h.gr hb, hx, fun k hk => (hB.block k (Nat.lt_of_lt_of_le hk h.gr)).trans (hp0 k hk)⟩, fun e => (by rw [c4] at e; cases e), fun e => (by rw [c5] at e; cases e), fun e => (by rw [c7] at e; cases e)⟩
        rw [getD_put h.sz (by omega), if_pos rfl]
    · cases (Option.some.inj ho : _ = o)
      have c3 : d 3 = true := haft { on := 3, ground := .data } (by simp) rfl
      have c5 : d 5 = false := by
        cases h5 : d 5 with
        | false => rfl
        | true => have := hdn 5 _ rfl h5 { on := 4, ground := .data } (by simp) rfl; rw [hd] at this; cases this
      have c7 : d 7 = false := by
        cases h7 : d 7 with
        | false => rfl
        | true => have := hdn 7 _ rfl h7 { on := 5, ground := .data } (by simp) rfl; rw [c5] at this; cases this
      obtain ⟨v, b, hv, hb, hx, hold⟩ := h.p1 c3 hd
      obtain ⟨hvc, hvo, hbl⟩ := hx.val
      refine wpOp_ok rfl rfl (wp_val (v := .slice (some ⟨w.heap.size, 0, none⟩) 1 1) (w' := w.alloc (.cells #[v] 44)) ?_ ?_)
      · have := bs_run (w := w) hvc
        have he : a.eval (.tmp 33) = v := hv
        simp [execOp, he, this]
      · show R10 lo a0 w0 b7 hdr hs bs outs xs (d 0) (d 1) (d 2) (d 3) true (d 5) (d 6) (d 7) _ _
        obtain ⟨g1, g2, g3, g4, g5, g6, g7⟩ := h.eff (d := some 34) (u := .slice (some ⟨w.heap.size, 0, none⟩) 1 1) (fun t e => by cases e; simp)
        have hal : ∀ k, k < w.heap.size → (w.alloc (.cells #[v] 44)).heap[k]? = w.heap[k]? := fun k hk => heap_alloc_old w _ hk
        refine ⟨g1, g2, g3, g4, g5, g6, g7, ⟨h.st.os, h.st.tape, h.st.output⟩, Nat.le_trans h.gr (Nat.le_of_lt (lt_of (heap_alloc_new w _))), fun e => (by rw [c3] at e; cases e), fun _ e => (by cases e), fun _ _ => ⟨v, b, w.heap.size, _, ?_, heap_alloc_new w _, hb, hx.keep (hal b hbl), fun k hk => (hal k (Nat.lt_of_lt_of_le hk h.gr)).trans (hold k hk)⟩, fun e => (by rw [c5] at e; cases e), fun e => (by rw [c7] at e; cases e)⟩
        rw [getD_put h.sz (by omega), if_pos rfl]
    · cases (Option.some.inj ho : _ = o)
      have c1 : d 1 = true := haft { on := 1, ground := .data } (by simp) rfl
      have c4 : d 4 = true := haft { on := 4, ground := .data } (by simp) rfl
      have c3 : d 3 = true := haft { on := 3, ground := .chain } (by simp) rfl
      have c7 : d 7 = false := by
        cases h7 : d 7 with
        | false => rfl
        | true => have := hdn 7 _ rfl h7 { on := 5, ground := .data } (by simp) rfl; rw [hd] at this; cases this
      obtain ⟨v, b, s, et, hv, hs1, hb, hx, hold⟩ := h.p2 c4 hd
      obtain ⟨hvc, hvo, hbl⟩ := hx.val
      obtain ⟨hdr', w1, bA, r1, r2, r3, r4, r5, r6, r7, r8, r9⟩ := app_run (hT.keep hold) (Nat.le_trans hlo h.gr) hn hvo (b := b) (s := s) (et := et) 31 hbl (hdr_fresh hT hb) hs1
      refine wpOp_ok rfl rfl (wp_val (v := hdr') (w' := w1) ?_ ?_)
      · have h1 := h.s1 c1
        have he : a.eval (.tmp 31) = hdr := h1
        have he2 : a.eval (.tmp 34) = .slice (some ⟨s, 0, none⟩) 1 1 := hv
        simp [execOp, resolve, invoke, builtin, he, he2, r1]
      · show R10 lo a0 w0 b7 hdr hs bs outs xs (d 0) (d 1) (d 2) (d 3) (d 4) true (d 6) (d 7) _ _
        obtain ⟨g1, g2, g3, g4, g5, g6, g7⟩ := h.eff (d := some 35) (u := hdr') (fun t e => by cases e; simp)
        refine ⟨g1, g2, g3, g4, g5, g6, g7, h.st.trans r7, Nat.le_trans h.gr r8, fun e => (by rw [c3] at e; cases e), fun _ e => (by rw [c4] at e; cases e), fun _ e => (by cases e), fun _ _ => ⟨v, b, hdr', bA, ?_, hb, hx.keep (r2 b hbl (fun e => r6 e.symm)), r3, r4, r5, fun k hk hne => (r2 k (Nat.lt_of_lt_of_le hk h.gr) hne).trans (hold k hk), r9⟩, fun e => (by rw [c7] at e; cases e)⟩
        rw [getD_put h.sz (by omega), if_pos rfl]
    · cases (Option.some.inj ho : _ = o)
      refine wpOp_ok rfl rfl (wp_val (v := .pointer (some ⟨b7, 0, none⟩)) (w' := w) ?_ ?_)
      · show (do pure (.value (← Instr.fieldAt 33 (a.tmps.getD 7 undef) 0)) : Sem Next).run _ w = _
        rw [e7]; rfl
      · show R10 lo a0 w0 b7 hdr hs bs outs xs (d 0) (d 1) (d 2) (d 3) (d 4) (d 5) true (d 7) _ w
        exact h.pure (by omega) h.s0 h.s1 h.s2 (fun _ => rfl)
    · cases (Option.some.inj ho : _ = o)
      have c6 : d 6 = true := haft { on := 6, ground := .data } (by simp) rfl
      have c5 : d 5 = true := haft { on := 5, ground := .data } (by simp) rfl
      have c4 : d 4 = true := haft { on := 4, ground := .phase } (by simp) rfl
      have c3 : d 3 = true := haft { on := 3, ground := .phase } (by simp) rfl
      obtain ⟨v, b, hdr', bA, hv, hb, hx, r3, r4, r5, hold, hA⟩ := h.p3 c5 hd
      have hbl := hx.val.2.2
      obtain ⟨et, h7w⟩ := hT.h7
      have h7w' := (hold b7 hlt7 (fun e => r4 e.symm)).trans h7w
      have hcell : hdr'.cells = #[hdr'] := by
        rcases hA with ⟨q, _⟩ | ⟨_, _, _, _, _, q, _⟩
        · simp at q
        · rw [q]; rfl
      have hoc : ocell hdr' = true := by
        rcases hA with ⟨q, _⟩ | ⟨_, _, _, _, _, q, _⟩
        · simp at q
        · rw [q]; rfl
      have hst := run_storeVar' (P := Tryd.prog) tabOk (t := 31) (o := 0) (v := hdr') h7w' (show 0 < tsz tab 31 by decide +kernel) (by rw [hcell]; exact (show 1 = tsz tab 31 by decide +kernel)) (show 0 + tsz tab 31 ≤ 1 by decide +kernel) (fun u hu => by rw [hcell] at hu; simp at hu; rw [hu]; exact hoc)
      have hrow : (setRange (#[hdr] : Array Value).toList 0 hdr'.cells.toList).toArray = #[hdr'] := by rw [hcell]; rfl
      rw [hrow] at hst
      refine wpOp_ok rfl rfl ?_
      show Oper.wp _ _ _ _ _ _
      unfold Oper.wp
      have hrun : (execOp a.eval { dst := none, op := Op.store 31 (Operand.tmp 36) (Operand.tmp 35), type := 0, pos := "shape.go:310", after := #[{ on := 6, ground := Ground.data }, { on := 5, ground := Ground.data }, { on := 5, ground := Ground.chain }, { on := 0, ground := Ground.phase }, { on := 1, ground := Ground.phase }, { on := 2, ground := Ground.phase }, { on := 3, ground := Ground.phase }, { on := 4, ground := Ground.phase }, { on := 5, ground := Ground.phase }], guard := none }).run Tryd.prog w = .ok .skip (w.setRow b7 #[hdr']) := by
        show (do Instr.storeAt 31 (a.tmps.getD 36 undef) (a.tmps.getD 35 undef); pure .skip : Sem Next).run _ w = _
        rw [h.s6 c6, hv]
        simp [hst]
      rw [hrun]
      show R10 lo a0 w0 b7 hdr hs bs outs xs (d 0) (d 1) (d 2) (d 3) (d 4) (d 5) (d 6) true _ _
      obtain ⟨g1, g2, g3, g4, g5, g6, g7⟩ := h.eff (d := none) (u := undef) (fun t e => by cases e)
      have hoth : ∀ k, k ≠ b7 → (w.setRow b7 #[hdr']).heap[k]? = w.heap[k]? := fun k hk => setRow_other w b7 k _ hk
      have hb7 : b ≠ b7 := by omega
      refine ⟨g1, g2, g3, g4, g5, g6, g7, ⟨h.st.os, h.st.tape, h.st.output⟩, by rw [setRow_size]; exact h.gr, fun e => (by rw [c3] at e; cases e), fun _ e => (by rw [c4] at e; cases e), fun _ e => (by rw [c5] at e; cases e), fun _ e => (by cases e), fun _ => ⟨v, b, hdr', bA, hb, hx.keep (hoth b hb7), r3, r4, r5, fun k hk hk7 hkA => (hoth k hk7).trans (hold k hk hkA), ⟨et, setRow_heap w b7 _ _ et (0, 0) h7w'⟩, ?_⟩⟩
      rcases hA with ⟨q, _⟩ | ⟨bA', cap, cs, et', R, q1, q2, q3, q4, q5, q6⟩
      · simp at q
      · exact .inr ⟨bA', cap, cs, et', R, q1, q2, q3, q4, (hoth bA' q3).trans q5, q6⟩
  · intro d a w hall h
    obtain ⟨v, b, hdr', bA, hb, hx, r3, r4, r5, hold, h7', hA⟩ := h.p4 (hall 7 (by decide))
    refine hQ a w hdr' (hs ++ [v]) (bs ++ [b]) (hT.app hx (hT.bs_lt hb) (by omega) (bA := bA) hold h7' hA r3) h.st h.gr (fun k hk => hold k (by omega) (by have := hT.lo7; omega) (by omega)) h.oth h.df h.sz
end thin
end Go.Proofs.YtcfalmdfohphoaaDoor
/-
  Thin, raw: one place less (region 21).
-/
namespace Go.Proofs.YtcfalmdfohphoaaDoor
open Go Go.Ab Go.RowKit
set_option maxRecDepth 100000
namespace thin
def ops21 : List Oper := [{ dst := some 59, op := Op.fieldAddr 33 (Operand.tmp 7) 0, type := 0, pos := "shape.go:317", after := #[], guard := none }, { dst := some 60, op := Op.load 31 (Operand.tmp 59), type := 31, pos := "shape.go:317", after := #[{ on := 0, ground := Ground.data }], guard := none }, { dst := some 61, op := Op.move (Operand.tmp 11), type := 3, pos := "shape.go:317", after := #[], guard := none }, { dst := some 62, op := Op.fieldAddr 33 (Operand.tmp 7) 0, type := 0, pos := "shape.go:317", after := #[], guard := none }, { dst := some 63, op := Op.load 31 (Operand.tmp 62), type := 31, pos := "shape.go:317", after := #[{ on := 3, ground := Ground.data }], guard := none }, { dst := some 64, op := Op.move (Operand.tmp 11), type := 3, pos := "shape.go:317", after := #[], guard := none }, { dst := some 65, op := Op.indexAddr 31 (Operand.tmp 63) (Operand.tmp 64), type := 0, pos := "shape.go:317", after := #[{ on := 4, ground := Ground.data }, { on := 5, ground := Ground.data }], guard := none }, { dst := some 66, op := Op.load 44 (Operand.tmp 65), type := 44, pos := "shape.go:317", after := #[{ on := 6, ground := Ground.data }], guard := none }, { dst := some 67, op := Op.move (Operand.tmp 12), type := 3, pos := "shape.go:317", after := #[], guard := none }, { dst := some 68, op := Op.move (Operand.tmp 12), type := 3, pos := "shape.go:317", after := #[], guard := none }, { dst := some 69, op := Op.binOp BinOp.add 3 (Operand.tmp 68) (Operand.const (Value.int IntKind.i64 1)) 3, type := 3, pos := "shape.go:317", after := #[{ on := 9, ground := Ground.data }], guard := none }, { dst := some 70, op := Op.call { callee := Callee.value (Operand.func 32), args := #[Operand.tmp 66, Operand.tmp 67, Operand.tmp 69], argTypes := #[44, 3, 3] }, type := 44, pos := "shape.go:317", after := #[{ on := 7, ground := Ground.data }, { on := 8, ground := Ground.data }, { on := 10, ground := Ground.data }], guard := none }, { dst := some 71, op := Op.indexAddr 31 (Operand.tmp 60) (Operand.tmp 61), type := 0, pos := "shape.go:317", after := #[{ on := 1, ground := Ground.data }, { on := 2, ground := Ground.data }, { on := 0, ground := Ground.phase }, { on := 1, ground := Ground.phase }, { on := 2, ground := Ground.phase }, { on := 3, ground := Ground.phase }, { on := 4, ground := Ground.phase }, { on := 5, ground := Ground.phase }, { on := 6, ground := Ground.phase }, { on := 7, ground := Ground.phase }, { on := 8, ground := Ground.phase }, { on := 9, ground := Ground.phase }, { on := 10, ground := Ground.phase }, { on := 11, ground := Ground.phase }], guard := none }, { dst := none, op := Op.store 44 (Operand.tmp 71) (Operand.tmp 70), type := 0, pos := "shape.go:317", after := #[{ on := 12, ground := Ground.data }, { on := 11, ground := Ground.data }, { on := 11, ground := Ground.chain }, { on := 0, ground := Ground.phase }, { on := 1, ground := Ground.phase }, { on := 2, ground := Ground.phase }, { on := 3, ground := Ground.phase }, { on := 4, ground := Ground.phase }, { on := 5, ground := Ground.phase }, { on := 6, ground := Ground.phase }, { on := 7, ground := Ground.phase }, { on := 8, ground := Ground.phase }, { on := 9, ground := Ground.phase }, { on := 10, ground := Ground.phase }, { on := 11, ground := Ground.phase }], guard := none }]
theorem back21 : ∀ (i : Nat) o, ops21[i]? = some o → ∀ e ∈ o.after.toList, bindsA e = true → e.on < i := by
  have key : (List.range ops21.length).all (fun i => match ops21[i]? with | some o => o.after.toList.all (fun e => !bindsA e || Nat.blt e.on i) | none => true) = true := by decide +kernel
  intro i o ho e he hb
  have := List.all_eq_true.1 key i (List.mem_range.2 (get_lt ho))
  rw [ho] at this
  have := List.all_eq_true.1 this e he
  rw [hb] at this
  exact blt_of (by simpa using this)
theorem ix_run (w : World) {b i n cap : Nat} (h : i < n) : (Instr.indexAt 31 (.slice (some ⟨b, 0, none⟩) n cap) (.int .i64 (i : Int))).run Tryd.prog w = .ok (.pointer (some ⟨b, i, none⟩)) w := by
  simp [Instr.indexAt, asIntOf, run_underlying' und2, plain_add, h]
theorem ld2_run {w : World} {b o : Nat} {v : Value} {cs : Array Value} {et : TypeId} (h : w.heap[b]? = some (.cells cs et (0, 0))) (hv : cs.toList[o]? = some v) : (Instr.loadAt 44 (.pointer (some ⟨b, o, none⟩))).run Tryd.prog w = .ok v w := by
  have := run_loadVar (P := Tryd.prog) tabOk (w := w) (t := 44) (b := b) (o := o) (cs := [v]) (ag := false) (by decide +kernel) (show tsz tab 44 = 1 by decide +kernel) (by simp) (fun _ => rfl) (fun j hj => by
    have hj : j < 1 := hj
    obtain rfl : j = 0 := by omega
    rw [delK.cells_heap _ h]
    exact hv)
  simp [Instr.loadAt, Instr.sureAddr, this]
/-- what the plain operations give -/
def V21 (b7 bA : Nat) (hdr h : Value) (i k : Nat) : Nat → Value
  | 0 | 3 => .pointer (some ⟨b7, 0, none⟩)
  | 1 | 4 => hdr
  | 2 | 5 => .int .i64 (i : Int)
  | 6 | 12 => .pointer (some ⟨bA, i, none⟩)
  | 7 => h
  | 8 | 9 => .int .i64 (k : Int)
  | 10 => .int .i64 ((k : Int) + 1)
  | _ => undef
structure R21 (lo : Nat) (a0 : Act) (w0 : World) (V : Nat → Value) (bi bA i : Nat) (v' : Value) (xs' : Arc) (csA : Array Value) (etA : TypeId) (d : Nat → Bool) (a : Act) (w : World) : Prop where
  oth : ∀ t, t < 59 ∨ 71 < t → a.tmps.getD t undef = a0.tmps.getD t undef
  df : a.defers = []
  sz : a.tmps.size = 76
  val : ∀ j, j ≤ 12 → j ≠ 11 → d j = true → a.tmps.getD (59 + j) undef = V j
  st : WSame w0 w
  gr : w.heap.size = w0.heap.size
  p0 : d 11 = false → ∀ k : Nat, w.heap[k]? = w0.heap[k]?
  p1 : d 11 = true → d 13 = false → a.tmps.getD 70 undef = v' ∧ ArcR lo w v' bi xs' ∧ ∀ k : Nat, k ≠ bi → w.heap[k]? = w0.heap[k]?
  p2 : d 13 = true → ArcR lo w v' bi xs' ∧ (∀ k : Nat, k ≠ bi → k ≠ bA → w.heap[k]? = w0.heap[k]?) ∧ w.heap[bA]? = some (.cells (setRange csA.toList i [v']).toArray etA (0, 0))
section
variable {lo : Nat} {a0 : Act} {w0 : World} {V : Nat → Value} {bi bA i : Nat} {v' : Value} {xs' : Arc} {csA : Array Value} {etA : TypeId} {d : Nat → Bool} {a : Act} {w : World}
theorem or_of {n j : Nat} {d : Nat → Bool} (h : n ≠ j) : (decide (n = j) || d n) = d n := by simp [h]
theorem R21.pure (h : R21 lo a0 w0 V bi bA i v' xs' csA etA d a w) {j : Nat} (hj : j ≤ 12 ∧ j ≠ 11) : R21 lo a0 w0 V bi bA i v' xs' csA etA (fun n => decide (n = j) || d n) (a.put (some (59 + j)) (V j)) w := by
  have hp := fun t => getD_put (s := 59 + j) (u := V j) h.sz (by omega) t
  refine ⟨fun t ht => ?_, put_defers.trans h.df, put_size.trans h.sz, fun n h1 h2 h3 => ?_, h.st, h.gr, fun e => ?_, fun e1 e2 => ?_, fun e => ?_⟩
  · rw [hp, if_neg (by omega)]; exact h.oth t ht
  · rw [hp]
    by_cases hn : n = j
    · subst hn; rw [if_pos rfl]
    · rw [if_neg (by omega)]
      have h3 : (decide (n = j) || d n) = true := h3
      rw [or_of hn] at h3
      exact h.val n h1 h2 h3
  · have e : (decide (11 = j) || d 11) = false := e
    rw [or_of (by omega)] at e
    exact h.p0 e
  · have e1 : (decide (11 = j) || d 11) = true := e1
    have e2 : (decide (13 = j) || d 13) = false := e2
    rw [or_of (by omega)] at e1 e2
    rw [hp, if_neg (by omega)]
    exact h.p1 e1 e2
  · have e : (decide (13 = j) || d 13) = true := e
    rw [or_of (by omega)] at e
    exact h.p2 e
theorem R21.at7 (h : R21 lo a0 w0 V bi bA i v' xs' csA etA d a w) (h13 : d 13 = false) {k : Nat} (hk : k ≠ bi) : w.heap[k]? = w0.heap[k]? := by
  cases h11 : d 11 with
  | false => exact h.p0 h11 k
  | true => exact (h.p1 h11 h13).2.2 k hk
end
theorem cells_del {I : Nat → Prop} {w : World} {xs : Arc} {L : List Value} {k : Nat} (h : Cells I w SpT xs L) (hk : k < xs.length) : Cells I w SpT (xs.eraseIdx k) (L.take (k * 2) ++ L.drop ((k + 1) * 2)) := by
  have h1 : Cells I w SpT (xs.take k) (L.take (k * 2)) := h.take k (by omega)
  have h2 : Cells I w SpT (xs.drop (k + 1)) (L.drop ((k + 1) * 2)) := h.drop (k + 1)
  have := h1.append h2
  rw [List.eraseIdx_eq_take_drop_succ]
  exact this
theorem region21 {G : List (Nat × Value)} {lo : Nat} {a0 : Act} {w0 : World} {b7 : Nat} {hdr : Value} {hs : List Value} {bs : List Nat} {outs : List Arc} {T : List (Nat × AV)} (D : DS G 76 T a0 w0) {i k : Nat} (h11 : a0.tmps.getD 11 undef = .int .i64 (i : Int)) (h12 : a0.tmps.getD 12 undef = .int .i64 (k : Int))
    (h7 : a0.tmps.getD 7 undef = .pointer (some ⟨b7, 0, none⟩)) (hT : ThW lo w0 b7 hdr hs bs outs) (hi : i < outs.length) (hk : k < (outs.getD i []).length) (hn : (outs.getD i []).length ≤ 100000) {Q : Exit → Act → World → Prop}
    (hQ : ∀ a w hs', ThW lo w b7 hdr hs' bs (outs.set i ((outs.getD i []).eraseIdx k)) → WSame w0 w → w0.heap.size ≤ w.heap.size → (∀ k, k < lo → w.heap[k]? = w0.heap[k]?) → (∀ t, t < 59 ∨ 71 < t → a.tmps.getD t undef = a0.tmps.getD t undef) → a.defers = [] → a.tmps.size = 76 → Q .normal a w) :
    (Code.region 21 ops21.toArray true).wp Tryd.prog Q a0 w0 := by
  have hlh := hT.lh
  have hlb := hT.lb
  obtain ⟨xs, hxs⟩ : ∃ xs, outs.getD i [] = xs := ⟨_, rfl⟩
  rw [hxs] at hk hn hQ
  have hxi : outs[i] = xs := by rw [← hxs, List.getD_eq_getElem?_getD, List.getElem?_eq_getElem hi]; rfl
  have harc := hT.arc i hi
  rw [hxi] at harc
  obtain ⟨h, hh⟩ : ∃ h, hs.getD i undef = h := ⟨_, rfl⟩
  obtain ⟨bi, hbi⟩ : ∃ bi, bs.getD i 0 = bi := ⟨_, rfl⟩
  rw [hh, hbi] at harc
  obtain ⟨cap, csI, etI, L, R, e1, e2, e3, e4, e5, e6⟩ := harc
  have hbm : bi ∈ bs := by rw [← hbi, List.getD_eq_getElem?_getD, List.getElem?_eq_getElem (by omega)]; exact List.getElem_mem _
  obtain ⟨et7, h7w⟩ := hT.h7
  have hb7 : b7 ≠ bi := fun e => hT.n7 (by rw [e]; exact hbm)
  rcases hT.arr with ⟨q, _⟩ | ⟨bA, capA, csA, etA, RA, q1, q2, q3, q4, q5, q6, q7, q8, q9⟩
  · rw [q] at hlh; simp at hlh; omega
  have hbA : bA ≠ bi := fun e => q4 (by rw [e]; exact hbm)
  have hcA : csA.toList[i]? = some h := by
    rw [q6, List.getElem?_append_left (by omega), ← hh, List.getD_eq_getElem?_getD, List.getElem?_eq_getElem (by omega)]; rfl
  have hle : (xs.eraseIdx k).length = xs.length - 1 := List.length_eraseIdx_of_lt hk
  obtain ⟨v', hv'⟩ : ∃ v', v' = Value.slice (some ⟨bi, 0, none⟩) (xs.length - 1) cap := ⟨_, rfl⟩
  have run7 : ∀ {w : World} {d : Nat → Bool} {a : Act}, R21 lo a0 w0 (V21 b7 bA hdr h i k) bi bA i v' (xs.eraseIdx k) csA etA d a w → d 13 = false → (Instr.loadAt 31 (.pointer (some ⟨b7, 0, none⟩))).run Tryd.prog w = .ok hdr w := fun hR h13 =>
    ld_run ((hR.at7 h13 hb7).trans h7w) rfl
  refine wp_region_inv (I := fun d a w => R21 lo a0 w0 (V21 b7 bA hdr h i k) bi bA i v' (xs.eraseIdx k) csA etA d a w) mixOk back21 ?_ ?_ ?_
  · exact ⟨fun t _ => rfl, D.d, D.n, fun j _ _ e => (by cases e), ⟨rfl, rfl, rfl⟩, rfl, fun _ k => rfl, fun e => (by cases e), fun e => (by cases e)⟩
  · intro d a w j o ho hd haft hdn hR
    have hjl := get_lt ho
    have hjl : j < 14 := hjl
    have o7 : a.eval (.tmp 7) = .pointer (some ⟨b7, 0, none⟩) := (hR.oth 7 (by omega)).trans h7
    have o11 : a.eval (.tmp 11) = .int .i64 (i : Int) := (hR.oth 11 (by omega)).trans h11
    have o12 : a.eval (.tmp 12) = .int .i64 (k : Int) := (hR.oth 12 (by omega)).trans h12
    have val : ∀ n, n ≤ 12 → n ≠ 11 → d n = true → a.eval (.tmp (59 + n)) = V21 b7 bA hdr h i k n := fun n h1 h2 h3 => hR.val n h1 h2 h3
    have c13 : j ≠ 13 → d 13 = false := fun hj => by
      cases h13 : d 13 with
      | false => rfl
      | true =>
        have all := hdn 13 _ rfl h13
        have : d j = true := by
          rcases (by omega : j = 0 ∨ j = 1 ∨ j = 2 ∨ j = 3 ∨ j = 4 ∨ j = 5 ∨ j = 6 ∨ j = 7 ∨ j = 8 ∨ j = 9 ∨ j = 10 ∨ j = 11 ∨ j = 12) with rfl | rfl | rfl | rfl | rfl | rfl | rfl | rfl | rfl | rfl | rfl | rfl | rfl
          all_goals first
            | exact all { on := 0, ground := .phase } (by simp) rfl
            | exact all { on := 1, ground := .phase } (by simp) rfl
            | exact all { on := 2, ground := .phase } (by simp) rfl
            | exact all { on := 3, ground := .phase } (by simp) rfl
            | exact all { on := 4, ground := .phase } (by simp) rfl
            | exact all { on := 5, ground := .phase } (by simp) rfl
            | exact all { on := 6, ground := .phase } (by simp) rfl
            | exact all { on := 7, ground := .phase } (by simp) rfl
            | exact all { on := 8, ground := .phase } (by simp) rfl
            | exact all { on := 9, ground := .phase } (by simp) rfl
            | exact all { on := 10, ground := .phase } (by simp) rfl
            | exact all { on := 11, ground := .phase } (by simp) rfl
            | exact all { on := 12, ground := .data } (by simp) rfl
        rw [hd] at this; cases this
    rcases (by omega : j = 0 ∨ j = 1 ∨ j = 2 ∨ j = 3 ∨ j = 4 ∨ j = 5 ∨ j = 6 ∨ j = 7 ∨ j = 8 ∨ j = 9 ∨ j = 10 ∨ j = 11 ∨ j = 12 ∨ j = 13) with rfl | rfl | rfl | rfl | rfl | rfl | rfl | rfl | rfl | rfl | rfl | rfl | rfl | rfl
    · cases (Option.some.inj ho : _ = o)
      refine wpOp_ok rfl rfl (wp_val (v := .pointer (some ⟨b7, 0, none⟩)) (w' := w) ?_ (hR.pure (j := 0) (by omega)))
      have := fa_run w b7
      simp [execOp, o7, this]
    · cases (Option.some.inj ho : _ = o)
      have e := val 0 (by omega) (by omega) (haft { on := 0, ground := .data } (by simp) rfl)
      refine wpOp_ok rfl rfl (wp_val (v := hdr) (w' := w) ?_ (hR.pure (j := 1) (by omega)))
      have e : a.eval (.tmp 59) = .pointer (some ⟨b7, 0, none⟩) := e
      have := run7 hR (c13 (by omega))
      simp [execOp, e, this]
    · cases (Option.some.inj ho : _ = o)
      refine wpOp_ok rfl rfl (wp_val (v := .int .i64 (i : Int)) (w' := w) ?_ (hR.pure (j := 2) (by omega)))
      simp [execOp, o11]
    · cases (Option.some.inj ho : _ = o)
      refine wpOp_ok rfl rfl (wp_val (v := .pointer (some ⟨b7, 0, none⟩)) (w' := w) ?_ (hR.pure (j := 3) (by omega)))
      have := fa_run w b7
      simp [execOp, o7, this]
    · cases (Option.some.inj ho : _ = o)
      have e := val 3 (by omega) (by omega) (haft { on := 3, ground := .data } (by simp) rfl)
      refine wpOp_ok rfl rfl (wp_val (v := hdr) (w' := w) ?_ (hR.pure (j := 4) (by omega)))
      have e : a.eval (.tmp 62) = .pointer (some ⟨b7, 0, none⟩) := e
      have := run7 hR (c13 (by omega))
      simp [execOp, e, this]
    · cases (Option.some.inj ho : _ = o)
      refine wpOp_ok rfl rfl (wp_val (v := .int .i64 (i : Int)) (w' := w) ?_ (hR.pure (j := 5) (by omega)))
      simp [execOp, o11]
    · cases (Option.some.inj ho : _ = o)
      have f1 : a.eval (.tmp 63) = hdr := val 4 (by omega) (by omega) (haft { on := 4, ground := .data } (by simp) rfl)
      have f2 : a.eval (.tmp 64) = .int .i64 (i : Int) := val 5 (by omega) (by omega) (haft { on := 5, ground := .data } (by simp) rfl)
      refine wpOp_ok rfl rfl (wp_val (v := .pointer (some ⟨bA, i, none⟩)) (w' := w) ?_ (hR.pure (j := 6) (by omega)))
      have := ix_run w (b := bA) (i := i) (n := hs.length) (cap := capA) (by omega)
      rw [q1] at f1
      simp [execOp, f1, f2, this]
    · cases (Option.some.inj ho : _ = o)
      have f1 : a.eval (.tmp 65) = .pointer (some ⟨bA, i, none⟩) := val 6 (by omega) (by omega) (haft { on := 6, ground := .data } (by simp) rfl)
      refine wpOp_ok rfl rfl (wp_val (v := h) (w' := w) ?_ (hR.pure (j := 7) (by omega)))
      have := ld2_run (w := w) ((hR.at7 (c13 (by omega)) hbA).trans q5) hcA
      simp [execOp, f1, this]
    · cases (Option.some.inj ho : _ = o)
      refine wpOp_ok rfl rfl (wp_val (v := .int .i64 (k : Int)) (w' := w) ?_ (hR.pure (j := 8) (by omega)))
      simp [execOp, o12]
    · cases (Option.some.inj ho : _ = o)
      refine wpOp_ok rfl rfl (wp_val (v := .int .i64 (k : Int)) (w' := w) ?_ (hR.pure (j := 9) (by omega)))
      simp [execOp, o12]
    · cases (Option.some.inj ho : _ = o)
      have f1 : a.eval (.tmp 68) = .int .i64 (k : Int) := val 9 (by omega) (by omega) (haft { on := 9, ground := .data } (by simp) rfl)
      refine wpOp_ok rfl rfl (wp_val (v := .int .i64 ((k : Int) + 1)) (w' := w) ?_ (hR.pure (j := 10) (by omega)))
      have hw : IntKind.i64.wrap ((k : Int) + 1) = (k : Int) + 1 := by rw [IntKind.wrap_i64]; omega
      simp [execOp, f1, show a.eval (.const (.int .i64 1)) = .int .i64 1 from rfl, eqGuard, binOp, Op.intArith, hw]
    · cases (Option.some.inj ho : _ = o)
      have f1 : a.eval (.tmp 66) = h := val 7 (by omega) (by omega) (haft { on := 7, ground := .data } (by simp) rfl)
      have f2 : a.eval (.tmp 67) = .int .i64 (k : Int) := val 8 (by omega) (by omega) (haft { on := 8, ground := .data } (by simp) rfl)
      have f3 : a.eval (.tmp 69) = .int .i64 ((k : Int) + 1) := val 10 (by omega) (by omega) (haft { on := 10, ground := .data } (by simp) rfl)
      have h13 := c13 (by omega)
      have hp0 := hR.p0 hd
      refine wpOp_ok rfl rfl (wp_call (f := 32) (vs := #[h, .int .i64 (k : Int), .int .i64 ((k : Int) + 1)]) ?_ ?_)
      · have hb : hasBody Tryd.prog 32 := hasBodyB_of (by decide +kernel)
        have := run_callFunc (w := w) (vs := #[h, .int .i64 (k : Int), .int .i64 ((k : Int) + 1)]) hb
        simp [execOp, resolve, Deferred.ofValue, invoke, f1, f2, f3, show a.eval (.func 32) = .func (.func 32) #[] #[] from rfl, this]
      · have hd1 := delK.delete_raw bi xs.length k cap csI etI L R w hk e3 (by omega) ((hp0 bi).trans e4) e5 (by have := e6.1; exact this) (fun v hv => ocell_oneCell (e6.ocell v hv))
        rw [← e1] at hd1
        refine hd1.mono fun e w' ⟨q1', cs', R', z1, z2, z3, z4, z5, z6⟩ => ⟨v', by rw [hv']; exact q1', ?_⟩
        have hp := fun t => getD_put (a := a) (s := 70) (u := v') hR.sz (by omega) t
        refine ⟨fun t ht => ?_, put_defers.trans hR.df, put_size.trans hR.sz, fun n h1 h2 h3 => ?_, hR.st.trans z4, z3.trans hR.gr, fun e => (by cases e), fun _ _ => ⟨?_, ⟨cap, cs', etI, _, R', by rw [hv', hle], e2, by omega, z1, z6, cells_flat (cells_del e6 hk)⟩, fun m hm => (z2 m hm).trans (hp0 m)⟩, fun e => ?_⟩
        · rw [hp, if_neg (by omega)]; exact hR.oth t ht
        · rw [hp, if_neg (by omega)]
          have h3 : (decide (n = 11) || d n) = true := h3
          rw [or_of h2] at h3
          exact hR.val n h1 h2 h3
        · rw [hp, if_pos rfl]
        · have e : (decide (13 = 11) || d 13) = true := e
          rw [or_of (by omega), h13] at e
          cases e
    · cases (Option.some.inj ho : _ = o)
      have f1 : a.eval (.tmp 60) = hdr := val 1 (by omega) (by omega) (haft { on := 1, ground := .data } (by simp) rfl)
      have f2 : a.eval (.tmp 61) = .int .i64 (i : Int) := val 2 (by omega) (by omega) (haft { on := 2, ground := .data } (by simp) rfl)
      refine wpOp_ok rfl rfl (wp_val (v := .pointer (some ⟨bA, i, none⟩)) (w' := w) ?_ (hR.pure (j := 12) (by omega)))
      have := ix_run w (b := bA) (i := i) (n := hs.length) (cap := capA) (by omega)
      rw [q1] at f1
      simp [execOp, f1, f2, this]
    · cases (Option.some.inj ho : _ = o)
      have f1 : a.eval (.tmp 71) = .pointer (some ⟨bA, i, none⟩) := val 12 (by omega) (by omega) (haft { on := 12, ground := .data } (by simp) rfl)
      obtain ⟨f2, hx, hold⟩ := hR.p1 (haft { on := 11, ground := .data } (by simp) rfl) hd
      have f2 : a.eval (.tmp 70) = v' := f2
      have hA := (hold bA hbA).trans q5
      have hcell : v'.cells = #[v'] := by rw [hv']; rfl
      have hoc : ocell v' = true := by rw [hv']; rfl
      have hcs : i + 1 ≤ csA.size := by omega
      have hst := run_storeVar' (P := Tryd.prog) tabOk (t := 44) (o := i) (v := v') hA (show 0 < tsz tab 44 by decide +kernel) (by rw [hcell]; exact (show 1 = tsz tab 44 by decide +kernel)) (show i + tsz tab 44 ≤ csA.size from (show tsz tab 44 = 1 by decide +kernel) ▸ hcs) (fun u hu => by rw [hcell] at hu; simp at hu; rw [hu]; exact hoc)
      have hrow : setRange csA.toList i v'.cells.toList = setRange csA.toList i [v'] := by rw [hcell]
      rw [hrow] at hst
      refine wpOp_ok rfl rfl ?_
      show Oper.wp _ _ _ _ _ _
      unfold Oper.wp
      have hrun : (execOp a.eval (ops21.getD 13 default)).run Tryd.prog w = .ok .skip (w.setRow bA (setRange csA.toList i [v']).toArray) := by
        show (do Instr.storeAt 44 (a.eval (.tmp 71)) (a.eval (.tmp 70)); pure .skip : Sem Next).run _ w = _
        rw [f1, f2]
        simp [hst]
      show Oper.upon _ _ _ _ _ ((execOp a.eval (ops21.getD 13 default)).run Tryd.prog w)
      rw [hrun]
      have hoth : ∀ m, m ≠ bA → (w.setRow bA (setRange csA.toList i [v']).toArray).heap[m]? = w.heap[m]? := fun m hm => setRow_other w bA m _ hm
      refine ⟨fun t ht => hR.oth t ht, hR.df, hR.sz, fun n h1 h2 h3 => ?_, hR.st.trans ⟨rfl, rfl, rfl⟩, by rw [setRow_size]; exact hR.gr, fun e => ?_, fun _ e => (by cases e), fun _ => ⟨hx.keep (hoth bi (fun e => hbA e.symm)), fun m h1 h2 => (hoth m h2).trans (hold m h1), setRow_heap w bA _ _ etA (0, 0) hA⟩⟩
      · have h3 : (decide (n = 13) || d n) = true := h3
        rw [or_of (by omega)] at h3
        exact hR.val n h1 h2 h3
      · have e : (decide (11 = 13) || d 11) = false := e
        rw [or_of (by omega), haft { on := 11, ground := .data } (by simp) rfl] at e
        cases e
  · intro d a w hall hR
    obtain ⟨hx, hold, hAw⟩ := hR.p2 (hall 13 (by decide))
    refine hQ a w (hs.set i v') (hT.del hi (xs := xs.eraseIdx k) (v := v') (by rw [hbi]; exact hx) (fun b hb hb2 => ?_) (fun bA' cap' n' cs' et' ea eb => ?_)) hR.st (Nat.le_of_eq hR.gr.symm) (fun m hm => hold m (by omega) (by omega)) hR.oth hR.df hR.sz
    · rw [hbi] at hb
      exact hold b hb (hb2 bA capA _ q1)
    · rw [q1] at ea
      cases ea
      rw [q5] at eb
      cases eb
      exact hAw
end thin
end Go.Proofs.YtcfalmdfohphoaaDoor
/-
  Plain facts on a map that loses an inner point of an arc: when it stays right; which points can be spared, told by the code and by the document (no program in sight).
-/
namespace Shp
def del (m : Arcs) (i k : Nat) : Arcs := m.set i ((arc m i).eraseIdx k)
def old (k t : Nat) : Nat := if t < k then t else t + 1
theorem del_length (m : Arcs) (i k : Nat) : (del m i k).length = m.length := by simp [del]
theorem arc_del_ne {m : Arcs} {i k j : Nat} (h : j ≠ i) : arc (del m i k) j = arc m j := by
  unfold arc del
  rw [List.getD_eq_getElem?_getD, List.getD_eq_getElem?_getD, List.getElem?_set_ne (Ne.symm h)]
theorem arc_del {m : Arcs} {i k : Nat} (h : i < m.length) : arc (del m i k) i = (arc m i).eraseIdx k := by
  unfold arc del
  rw [List.getD_eq_getElem?_getD, List.getElem?_set_self h]
  rfl
theorem at_erase {l : List Sp} {k t : Nat} : at_ (l.eraseIdx k) t = at_ l (old k t) := by
  unfold at_ old
  rw [List.getD_eq_getElem?_getD, List.getD_eq_getElem?_getD, List.getElem?_eraseIdx]
  split <;> rfl
theorem pt_del {m : Arcs} {i k t : Nat} (h : i < m.length) : pt (del m i k) i t = pt m i (old k t) := by
  unfold pt; rw [arc_del h, at_erase]
theorem pt_del_ne {m : Arcs} {i k j t : Nat} (h : j ≠ i) : pt (del m i k) j t = pt m j t := by
  unfold pt; rw [arc_del_ne h]
theorem len_del {m : Arcs} {i k : Nat} (h : i < m.length) (hk : k < (arc m i).length) : (arc (del m i k) i).length = (arc m i).length - 1 := by
  rw [arc_del h, List.length_eraseIdx, if_pos hk]
theorem noMeet2 {m : Arcs} (h : noMeet m) {i k j n : Nat} (hk : isP m i k) (hn : isP m j n) (hne : ¬ (i = j ∧ k = n)) : meet (pt m i k) (pt m i (k + 1)) (pt m j n) (pt m j (n + 1)) = false := by
  by_cases c : j < i ∨ (j = i ∧ n < k)
  · rw [← meet_comm]; exact h i k j n hk hn c
  · exact h j n i k hn hk (by omega)
/-- the new piece meets none that is left -/
def fits (m : Arcs) (i k : Nat) : Prop := ∀ j n, isP m j n → ¬ (j = i ∧ (n = k ∨ n + 1 = k)) → meet (pt m i (k - 1)) (pt m i (k + 1)) (pt m j n) (pt m j (n + 1)) = false
section
variable {m : Arcs} {i k : Nat} (R : Right m) (hi : i < m.length) (h0 : 0 < k) (hk : k + 1 < (arc m i).length)
include R hi h0 hk
theorem ends_ne : pt m i (k - 1) ≠ pt m i (k + 1) := fun e => by
  have h1 : isP m i (k - 1) := ⟨hi, by omega⟩
  have h2 : isP m i k := ⟨hi, hk⟩
  have := R.meet2 h1 h2 (by omega)
  rw [show k - 1 + 1 = k by omega] at this
  have hm : meet (pt m i (k - 1)) (pt m i k) (pt m i k) (pt m i (k + 1)) = true := (meet_iff _ _ _ _).2 (.inr (.inr (.inr (.inr (.inl ((sam_iff _ _ _ _).2 (.inr ⟨e, rfl⟩)))))))
  rw [hm] at this
  cases this
omit R h0 in
theorem piece_del {j n : Nat} (h : isP (del m i k) j n) : (j = i ∧ n + 1 = k) ∨ ∃ n', isP m j n' ∧ pt (del m i k) j n = pt m j n' ∧ pt (del m i k) j (n + 1) = pt m j (n' + 1) ∧ ¬ (j = i ∧ (n' = k ∨ n' + 1 = k)) ∧ (j ≠ i → n' = n) ∧ (j = i → n' = old k n) := by
  obtain ⟨a, b⟩ := h
  rw [del_length] at a
  by_cases c : j = i
  · subst c
    rw [len_del hi (by omega)] at b
    rcases Nat.lt_trichotomy (n + 1) k with g | g | g
    · refine .inr ⟨n, ⟨a, by omega⟩, ?_, ?_, by omega, fun _ => rfl, fun _ => by unfold old; rw [if_pos (by omega)]⟩
      · rw [pt_del hi]; unfold old; rw [if_pos (by omega)]
      · rw [pt_del hi]; unfold old; rw [if_pos (by omega)]
    · exact .inl ⟨rfl, g⟩
    · refine .inr ⟨n + 1, ⟨a, by omega⟩, ?_, ?_, by omega, fun h => absurd rfl h, fun _ => by unfold old; rw [if_neg (by omega)]⟩
      · rw [pt_del hi]; unfold old; rw [if_neg (by omega)]
      · rw [pt_del hi]; unfold old; rw [if_neg (by omega)]
  · rw [arc_del_ne c] at b
    exact .inr ⟨n, ⟨a, b⟩, pt_del_ne c, pt_del_ne c, fun h => c h.1, fun _ => rfl, fun h => absurd h c⟩
omit R hk in
theorem new_del {n : Nat} (h : n + 1 = k) : pt (del m i k) i n = pt m i (k - 1) ∧ pt (del m i k) i (n + 1) = pt m i (k + 1) := by
  rw [pt_del hi, pt_del hi]
  unfold old
  rw [if_pos (by omega), if_neg (by omega), show k - 1 = n by omega, h]
  exact ⟨rfl, rfl⟩
theorem right_del (h4 : at_ (arc m i) 0 = at_ (arc m i) ((arc m i).length - 1) → 5 ≤ (arc m i).length) (hf : fits m i k) : Right (del m i k) := by
  have hki : k < (arc m i).length := by omega
  have hne := ends_ne R hi h0 hk
  refine ⟨fun j hj => ?_, fun j hj e => ?_, fun j n hn => ?_, fun j n j' n' hn hn' ho => ?_, fun j t j' t' hj ht1 ht2 hj' e => ?_⟩
  · rw [del_length] at hj
    by_cases c : j = i
    · subst c; rw [len_del hi hki]; omega
    · rw [arc_del_ne c]; exact R.two j hj
  · rw [del_length] at hj
    by_cases c : j = i
    · subst c
      rw [len_del hi hki] at e ⊢
      rw [arc_del hi, at_erase, at_erase] at e
      unfold old at e
      rw [if_pos h0, if_neg (by omega), show (arc m j).length - 1 - 1 + 1 = (arc m j).length - 1 by omega] at e
      have := h4 e
      omega
    · rw [arc_del_ne c] at e ⊢; exact R.four j hj e
  · rcases piece_del hi hk hn with ⟨a, b⟩ | ⟨n', a, b, c, _⟩
    · subst a
      obtain ⟨p1, p2⟩ := new_del hi h0 b
      rw [p1, p2]; exact hne
    · rw [b, c]; exact R.step j n' a
  · have hd : ¬ (j = j' ∧ n = n') := by omega
    rcases piece_del hi hk hn with ⟨a, b⟩ | ⟨x, a, b, c, d, e, f⟩ <;> rcases piece_del hi hk hn' with ⟨a', b'⟩ | ⟨x', a', b', c', d', e', f'⟩
    · omega
    · subst a
      obtain ⟨p1, p2⟩ := new_del hi h0 b
      rw [p1, p2, b', c', ← meet_comm]
      exact hf j' x' a' d'
    · subst a'
      obtain ⟨p1, p2⟩ := new_del hi h0 b'
      rw [p1, p2, b, c]
      exact hf j x a d
    · rw [b, c, b', c']
      refine R.meet2 a' a ?_
      rintro ⟨q1, q2⟩
      subst q1
      by_cases q : j' = i
      · have g1 := f q
        have g2 := f' q
        unfold old at g1 g2
        split at g1 <;> split at g2 <;> omega
      · have g1 := e q
        have g2 := e' q
        omega
  · -- places
    have tr : ∀ j t, inM (del m i k) j t → ∃ s, inM m j s ∧ pt (del m i k) j t = pt m j s ∧ ((j ≠ i ∧ s = t) ∨ (j = i ∧ s = old k t)) := fun j t ⟨a, b⟩ => by
      rw [del_length] at a
      by_cases c : j = i
      · subst c
        rw [len_del hi hki] at b
        refine ⟨old k t, ⟨a, ?_⟩, pt_del hi, .inr ⟨rfl, rfl⟩⟩
        unfold old; split <;> omega
      · rw [arc_del_ne c] at b
        exact ⟨t, ⟨a, b⟩, pt_del_ne c, .inl ⟨c, rfl⟩⟩
    obtain ⟨s, a, b, c⟩ := tr j t hj
    obtain ⟨s', a', b', c'⟩ := tr j' t' hj'
    rw [b, b'] at e
    have hin : 0 < s ∧ s + 1 < (arc m j).length := by
      rcases c with ⟨c, d⟩ | ⟨c, d⟩
      · rw [arc_del_ne c] at ht2
        omega
      · subst c
        rw [len_del hi hki] at ht2
        unfold old at d
        split at d <;> omega
    obtain ⟨x, y⟩ := R.once j s j' s' a hin.1 hin.2 a' e
    refine ⟨x, ?_⟩
    unfold old at c c'
    split at c <;> split at c' <;> omega
omit R in
theorem fits_of (hr : noMeet (del m i k)) : fits m i k := fun j n hn hne => by
  have hki : k < (arc m i).length := by omega
  have hp : isP (del m i k) i (k - 1) := ⟨by rw [del_length]; exact hi, by rw [len_del hi hki]; omega⟩
  obtain ⟨p1, p2⟩ := new_del hi h0 (n := k - 1) (by omega)
  obtain ⟨n', a, b, c, d⟩ : ∃ n', isP (del m i k) j n' ∧ pt (del m i k) j n' = pt m j n ∧ pt (del m i k) j (n' + 1) = pt m j (n + 1) ∧ ¬ (i = j ∧ k - 1 = n') := by
    obtain ⟨a, b⟩ := hn
    by_cases c : j = i
    · subst c
      by_cases g : n + 1 < k
      · refine ⟨n, ⟨by rw [del_length]; exact a, by rw [len_del hi hki]; omega⟩, ?_, ?_, by omega⟩
        · rw [pt_del hi]; unfold old; rw [if_pos (by omega)]
        · rw [pt_del hi]; unfold old; rw [if_pos (by omega)]
      · refine ⟨n - 1, ⟨by rw [del_length]; exact a, by rw [len_del hi hki]; omega⟩, ?_, ?_, by omega⟩
        · rw [pt_del hi]; unfold old; rw [if_neg (by omega)]; congr 1; omega
        · rw [pt_del hi]; unfold old; rw [if_neg (by omega)]; congr 1; omega
    · exact ⟨n, ⟨by rw [del_length]; exact a, by rw [arc_del_ne c]; exact b⟩, pt_del_ne c, pt_del_ne c, fun h => c h.1.symm⟩
  have := noMeet2 hr hp a d
  rw [p1, p2, b, c] at this
  exact this
end
/-- can a point be spared? as the code has it -/
def spP (m : Arcs) (i k : Nat) (most : Int) : Prop :=
  (¬ most < side (pt m i (k - 1)) (pt m i k) (pt m i (k + 1)) ∧ ¬ side (pt m i (k - 1)) (pt m i k) (pt m i (k + 1)) < -most) ∧
  ¬ (at_ (arc m i) 0 = at_ (arc m i) ((arc m i).length - 1) ∧ (arc m i).length < 5) ∧
  (∀ j t, inM m j t → ¬ (j = i ∧ k ≤ t + 1 ∧ t ≤ k + 1) → pt m j t ≠ pt m i (k - 1) → pt m j t ≠ pt m i (k + 1) → tri (pt m i (k - 1)) (pt m i k) (pt m i (k + 1)) (pt m j t) = false) ∧
  fits m i k
/-- as the document has it -/
def spR (m : Arcs) (i k : Nat) (most : Int) : Prop :=
  (¬ most < side (pt m i (k - 1)) (pt m i k) (pt m i (k + 1)) ∧ ¬ side (pt m i (k - 1)) (pt m i k) (pt m i (k + 1)) < -most) ∧
  ¬ (at_ (arc m i) 0 = at_ (arc m i) ((arc m i).length - 1) ∧ (arc m i).length = 4) ∧
  (∀ j t, inM m j t → pt m j t ≠ pt m i (k - 1) → pt m j t ≠ pt m i k → pt m j t ≠ pt m i (k + 1) → tri2 (pt m i (k - 1)) (pt m i k) (pt m i (k + 1)) (pt m j t) = false) ∧
  Right (del m i k)
theorem sp_iff {m : Arcs} {i k : Nat} (R : Right m) (hi : i < m.length) (h0 : 0 < k) (hk : k + 1 < (arc m i).length) (most : Int) : spP m i k most ↔ spR m i k most := by
  have h4 := R.four i hi
  constructor
  · rintro ⟨h1, h2, h3, h5⟩
    refine ⟨h1, fun h => h2 ⟨h.1, by omega⟩, fun j t hj a b c => ?_, right_del R hi h0 hk (fun e => ?_) h5⟩
    · rw [← tri_eq]
      refine h3 j t hj (fun h => ?_) a c
      obtain ⟨e, f, g⟩ := h
      subst e
      rcases (show t = k - 1 ∨ t = k ∨ t = k + 1 by omega) with e | e | e
      · rw [e] at a; exact a rfl
      · rw [e] at b; exact b rfl
      · rw [e] at c; exact c rfl
    · exact Classical.byContradiction fun c => h2 ⟨e, by omega⟩
  · rintro ⟨h1, h2, h3, h5⟩
    refine ⟨h1, fun h => h2 ⟨h.1, by have := h4 h.1; omega⟩, fun j t hj a b c => ?_, fits_of hi h0 hk h5.meets⟩
    rw [tri_eq]
    refine h3 j t hj b (fun e => ?_) c
    obtain ⟨x, y⟩ := R.once i k j t ⟨hi, by omega⟩ h0 hk hj e.symm
    exact a ⟨x.symm, by omega, by omega⟩
end Shp
