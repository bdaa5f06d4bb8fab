/-
  Cells of a raster: what touches, the rim, neighbours.
-/
import Derived.Test.YtgjjooophigkoaaGreatDoorM5
import Derived.Test.YtgjjooophigkoaaGreatDoorChecked
import Derived.WalkKit
import Derived.LaidEql
import Derived.Stop.Asserts
import Derived.RowKitTokens
namespace Go.Proofs.YtgjjooophigkoaaGreatDoor
open Go Go.Ab
set_option maxRecDepth 100000
theorem sq_bd {x : Int} (h : -1000 ≤ x) (h1 : x ≤ 1000) : 0 ≤ x * x ∧ x * x ≤ 1000000 := by
  rcases Int.le_total 0 x with h0 | h0
  · exact ⟨Int.mul_nonneg h0 h0, by have := Int.mul_le_mul h1 h1 h0 (by omega : (0 : Int) ≤ 1000); omega⟩
  · have e : x * x = (-x) * (-x) := by rw [Int.neg_mul_neg]
    rw [e]
    exact ⟨Int.mul_nonneg (by omega) (by omega), by have := Int.mul_le_mul (show -x ≤ 1000 by omega) (show -x ≤ 1000 by omega) (by omega) (by omega : (0 : Int) ≤ 1000); omega⟩
theorem sq_le1 {x : Int} : x * x ≤ 1 ↔ (-1 ≤ x ∧ x ≤ 1) := by
  constructor
  · intro h
    have a : ¬ 2 ≤ x := fun h2 => by have := Int.mul_le_mul h2 h2 (by omega) (by omega); omega
    have b : ¬ x ≤ -2 := fun h2 => by
      have := Int.mul_le_mul (show (2 : Int) ≤ -x by omega) (show (2 : Int) ≤ -x by omega) (by omega) (by omega)
      rw [Int.neg_mul_neg] at this; omega
    omega
  · rintro ⟨h1, h2⟩
    obtain rfl | rfl | rfl : x = -1 ∨ x = 0 ∨ x = 1 := by omega
    all_goals decide
def touchT (W i k : Int) : Bool := decide (i ≠ k) && decide ((Int.tmod i W - Int.tmod k W) * (Int.tmod i W - Int.tmod k W) ≤ 1) && decide ((Int.tdiv i W - Int.tdiv k W) * (Int.tdiv i W - Int.tdiv k W) ≤ 1)
theorem cast_mod (i w : Nat) : Int.tmod (i : Int) (w : Int) = ((i % w : Nat) : Int) := rfl
theorem cast_div (i w : Nat) : Int.tdiv (i : Int) (w : Int) = ((i / w : Nat) : Int) := rfl
theorem touchT_cast (w i k : Nat) : touchT w i k = decide (touchN w i k) := by
  unfold touchT
  rw [cast_mod, cast_mod, cast_div, cast_div, Bool.eq_iff_iff]
  simp only [Bool.and_eq_true, decide_eq_true_iff, sq_le1]
  unfold touchN
  generalize i % w = a
  generalize k % w = b
  generalize i / w = c
  generalize k / w = d
  omega
theorem cell_bd {w h i : Nat} (hi : i < w * h) : i % w < w ∧ i / w < h := by
  have hw : 0 < w := by
    rcases Nat.eq_zero_or_pos w with h0 | h0
    · subst h0; simp at hi
    · exact h0
  exact ⟨Nat.mod_lt _ hw, Nat.div_lt_of_lt_mul hi⟩
/-- a raster of so many columns and rows -/
structure RasN (a : Ras) (w h : Nat) : Prop where
  wide : a.1 = w
  high : a.2.1 = h
  len : a.2.2.length = w * h
  w0 : 0 < w
  w1 : w ≤ 128
  h0 : 0 < h
  h1 : h ≤ 128
  big : ∀ x ∈ a.2.2, -1048576 ≤ x ∧ x ≤ 1048576
theorem RasN.wh {a : Ras} {w h : Nat} (R : RasN a w h) : w * h ≤ 16384 := Nat.le_trans (Nat.mul_le_mul R.w1 R.h1) (by decide)
theorem RasN.at {a : Ras} {w h : Nat} (R : RasN a w h) (i : Nat) : -1048576 ≤ a.2.2.getD i 0 ∧ a.2.2.getD i 0 ≤ 1048576 := by
  rw [List.getD]
  cases hi : a.2.2[i]? with
  | none => simp
  | some x => exact R.big x (List.mem_of_getElem? hi)
theorem RasN.mk' {a : Ras} (hv : rerr a = 0) : RasN a a.1.toNat a.2.1.toNat := by
  unfold rerr at hv
  split at hv
  · omega
  · split at hv
    · omega
    · split at hv
      · omega
      · rename_i h1 h2 h3
        refine ⟨by omega, by omega, ?_, by omega, by omega, by omega, by omega, fun x hx => ?_⟩
        · have e : ((a.1.toNat * a.2.1.toNat : Nat) : Int) = a.1 * a.2.1 := by rw [Int.natCast_mul]; congr 1 <;> omega
          omega
        · have h4 : bigB x = false := by
            cases hb : bigB x with
            | false => rfl
            | true => exact absurd (List.any_eq_true.2 ⟨x, hx, hb⟩) h3
          unfold bigB at h4; simp at h4; omega
/-- a cell's column and row -/
theorem cell_at {a : Ras} {w h : Nat} (R : RasN a w h) {i : Nat} (hi : i < w * h) : ∃ c r : Nat, Int.tmod (i : Int) a.1 = c ∧ Int.tdiv (i : Int) a.1 = r ∧ c < w ∧ r < h ∧ i % w = c ∧ i / w = r ∧ i = r * w + c :=
  ⟨i % w, i / w, by rw [R.wide]; rfl, by rw [R.wide]; rfl, (cell_bd hi).1, (cell_bd hi).2, rfl, rfl, by rw [Nat.mul_comm]; exact (Nat.div_add_mod i w).symm⟩
theorem touch_any (G : List (Nat × Value)) (a : Ras) {w h : Nat} (R : RasN a w h) (i k : Nat) (hi : i < w * h) (hk : k < w * h) (K : AV → List AO → Prop) (hK : K (.fz .bool (decide (touchN w i k))) []) :
    ACall Tryz.prog G 67 [.fptr RasT a, .fz int i, .fz int k] [] K := by
  have w1 := R.w1
  have h1 := R.h1
  have wz := R.wide
  have w0 := R.w0
  rw [← touchT_cast, ← wz] at hK
  unfold touchT at hK
  obtain ⟨c, r, m1, d1, l1, l2, _, _, _⟩ := cell_at R hi
  obtain ⟨c', r', m2, d2, l3, l4, _, _, _⟩ := cell_at R hk
  have hz : a.1 ≠ 0 := by omega
  have s1 := sq_bd (x := Int.tmod (i : Int) a.1 - Int.tmod (k : Int) a.1) (by omega) (by omega)
  have s2 := sq_bd (x := Int.tdiv (i : Int) a.1 - Int.tdiv (k : Int) a.1) (by omega) (by omega)
  refine acall_mk (E := envAt G 50 0) (envOk _ _ _) Tryz.func67 rfl rfl rfl rfl rfl ?_
  (repeat' (first | exact trivial | exact fun h => h | refine And.intro ?_ ?_ | (intro hb; try simp at hb) | omega | exact rfl | exact Nat.le_refl _ | (show _ + 1 ≤ 4294967296; omega) | (dsimp only; omega) | (show (_ : Int) ≤ (_ : Int); omega) | (show _ < List.length _; simp only [List.length_set, List.length_append, List.length_take]; omega) | (show wantB _ _ = true; simp <;> omega) | (show (_ : Bool) = _; simp_all; done) | (exfalso; omega) | refine aRegion_auto (by decide +kernel) ?_ | fail))
  refine ⟨_, _, REnt.drop ⟨rfl, rfl⟩, ?_⟩
  refine kbl hK ?_
  generalize decide ((Int.tmod (i : Int) a.1 - Int.tmod (k : Int) a.1) * (Int.tmod (i : Int) a.1 - Int.tmod (k : Int) a.1) ≤ 1) = p
  generalize decide ((Int.tdiv (i : Int) a.1 - Int.tdiv (k : Int) a.1) * (Int.tdiv (i : Int) a.1 - Int.tdiv (k : Int) a.1) ≤ 1) = q
  by_cases hik : (i : Int) = k
  · rw [hik]; simp
  · have : ((i : Int) != k) = true := by simpa using hik
    rw [this]; cases p <;> cases q <;> simp [hik]
/-! ### a cell of the rim has fewer than eight neighbours, another one has eight -/
theorem cell_lt {w h c r : Nat} (hc : c < w) (hr : r < h) : r * w + c < w * h := by
  have : r * w + w ≤ w * h := by rw [← Nat.succ_mul, Nat.mul_comm w h]; exact Nat.mul_le_mul_right _ hr
  omega
theorem touch_rc {w i r' c' : Nat} (hc : c' < w) : touchN w i (r' * w + c') ↔ (¬ (i / w = r' ∧ i % w = c')) ∧ (i % w ≤ c' + 1 ∧ c' ≤ i % w + 1) ∧ (i / w ≤ r' + 1 ∧ r' ≤ i / w + 1) := by
  obtain ⟨d1, d2⟩ := dm (w := w) (q := r') hc
  have e := Nat.div_add_mod i w
  unfold touchN
  rw [Nat.mul_comm r' w, d1, d2]
  constructor
  · rintro ⟨h1, h2⟩
    refine ⟨fun h => h1 ?_, h2⟩
    rw [h.1, h.2] at e; exact e.symm
  · rintro ⟨h1, h2⟩
    refine ⟨fun h => h1 ?_, h2⟩
    rw [h]; exact ⟨d1, d2⟩
theorem rim_count {w h : Nat} (h0 : 0 < h) {i : Nat} (hi : i < w * h) : decide ((List.range (w * h)).countP (fun k => decide (touchN w i k)) < 8) = decide (rimN w h i) := by
  obtain ⟨hc, hr⟩ := cell_bd hi
  generalize hcc : i % w = c at hc
  generalize hrr : i / w = r at hr
  rw [Bool.eq_iff_iff, decide_eq_true_iff, decide_eq_true_iff, List.countP_eq_length_filter]
  have hnd : ((List.range (w * h)).filter (fun k => decide (touchN w i k))).Nodup := List.nodup_range.filter _
  have hmem : ∀ k, k ∈ (List.range (w * h)).filter (fun k => decide (touchN w i k)) ↔ k < w * h ∧ touchN w i k := fun k => by simp
  have split : ∀ k, k < w * h → touchN w i k → ∃ r' c', k = r' * w + c' ∧ c' < w ∧ r' < h ∧ (r' = r ∨ r' + 1 = r ∨ r' = r + 1) ∧ (c' = c ∨ c' + 1 = c ∨ c' = c + 1) ∧ ¬ (r' = r ∧ c' = c) := fun k hk ht => by
    obtain ⟨k1, k2⟩ := cell_bd hk
    have e : k = (k / w) * w + k % w := by rw [Nat.mul_comm]; exact (Nat.div_add_mod k w).symm
    rw [e] at ht
    obtain ⟨t1, t2, t3⟩ := (touch_rc k1).1 ht
    rw [hcc, hrr] at *
    exact ⟨k / w, k % w, e, k1, k2, by omega, by omega, fun h => t1 ⟨h.1.symm, h.2.symm⟩⟩
  have sub : ∀ l : List Nat, (∀ k, k < w * h → touchN w i k → k ∈ l) → l.length ≤ 5 → ((List.range (w * h)).filter (fun k => decide (touchN w i k))).length < 8 := fun l hl h5 => by
    have := hnd.length_le_of_subset (l₂ := l) (fun k hk => hl k ((hmem k).1 hk).1 ((hmem k).1 hk).2)
    omega
  constructor
  · intro hlt
    apply Decidable.byContradiction
    intro hn
    unfold rimN at hn
    rw [hcc, hrr] at hn
    have hin : ∀ r' c', c' < w → r' < h → (¬ (r = r' ∧ c = c')) ∧ (c ≤ c' + 1 ∧ c' ≤ c + 1) ∧ (r ≤ r' + 1 ∧ r' ≤ r + 1) → r' * w + c' ∈ (List.range (w * h)).filter (fun k => decide (touchN w i k)) := fun r' c' h1 h2 h3 => by
      rw [hmem]; refine ⟨cell_lt h1 h2, (touch_rc h1).2 ?_⟩
      rw [hcc, hrr]; exact h3
    obtain ⟨s, rfl⟩ : ∃ s, r = s + 1 := ⟨r - 1, by omega⟩
    obtain ⟨d, rfl⟩ : ∃ d, c = d + 1 := ⟨c - 1, by omega⟩
    have m1 : (s + 1) * w = s * w + w := Nat.succ_mul s w
    have m2 : (s + 2) * w = s * w + w + w := by rw [Nat.succ_mul, Nat.succ_mul]
    have hnd8 : [s * w + d, s * w + (d + 1), s * w + (d + 2), (s + 1) * w + d, (s + 1) * w + (d + 2), (s + 2) * w + d, (s + 2) * w + (d + 1), (s + 2) * w + (d + 2)].Nodup := by
      simp only [List.nodup_cons, List.mem_cons, List.not_mem_nil, or_false, not_or, List.nodup_nil, and_true, not_false_eq_true]
      rw [m1, m2]
      omega
    have := hnd8.length_le_of_subset (l₂ := (List.range (w * h)).filter (fun k => decide (touchN w i k))) (fun k hk => by
      simp only [List.mem_cons, List.not_mem_nil, or_false] at hk
      rcases hk with rfl | rfl | rfl | rfl | rfl | rfl | rfl | rfl <;> refine hin _ _ (by omega) (by omega) ?_ <;> omega)
    simp only [List.length_cons, List.length_nil] at this
    omega
  · intro hrim
    unfold rimN at hrim
    rw [hcc, hrr] at hrim
    rcases hrim with h1 | h1 | h1 | h1
    · refine sub [(r - 1) * w + c, (r - 1) * w + (c + 1), r * w + (c + 1), (r + 1) * w + c, (r + 1) * w + (c + 1)] (fun k hk ht => ?_) (by simp)
      obtain ⟨r', c', rfl, q1, q2, q3, q4, q5⟩ := split k hk ht
      clear hk ht split
      simp only [List.mem_cons, List.not_mem_nil, or_false]
      obtain e1 | ⟨x1, e1⟩ | e1 : r' = r ∨ (r' + 1 = r ∧ r' = r - 1) ∨ r' = r + 1 := by omega
      all_goals obtain e2 | ⟨x2, e2⟩ | e2 : c' = c ∨ (c' + 1 = c ∧ c' = c - 1) ∨ c' = c + 1 := by omega
      all_goals first | (exfalso; omega) | (rw [e1, e2]; simp)
    · refine sub [r * w + (c - 1), r * w + (c + 1), (r + 1) * w + (c - 1), (r + 1) * w + c, (r + 1) * w + (c + 1)] (fun k hk ht => ?_) (by simp)
      obtain ⟨r', c', rfl, q1, q2, q3, q4, q5⟩ := split k hk ht
      clear hk ht split
      simp only [List.mem_cons, List.not_mem_nil, or_false]
      obtain e1 | ⟨x1, e1⟩ | e1 : r' = r ∨ (r' + 1 = r ∧ r' = r - 1) ∨ r' = r + 1 := by omega
      all_goals obtain e2 | ⟨x2, e2⟩ | e2 : c' = c ∨ (c' + 1 = c ∧ c' = c - 1) ∨ c' = c + 1 := by omega
      all_goals first | (exfalso; omega) | (rw [e1, e2]; simp)
    · refine sub [(r - 1) * w + c, (r - 1) * w + (c - 1), r * w + (c - 1), (r + 1) * w + c, (r + 1) * w + (c - 1)] (fun k hk ht => ?_) (by simp)
      obtain ⟨r', c', rfl, q1, q2, q3, q4, q5⟩ := split k hk ht
      clear hk ht split
      simp only [List.mem_cons, List.not_mem_nil, or_false]
      obtain e1 | ⟨x1, e1⟩ | e1 : r' = r ∨ (r' + 1 = r ∧ r' = r - 1) ∨ r' = r + 1 := by omega
      all_goals obtain e2 | ⟨x2, e2⟩ | e2 : c' = c ∨ (c' + 1 = c ∧ c' = c - 1) ∨ c' = c + 1 := by omega
      all_goals first | (exfalso; omega) | (rw [e1, e2]; simp)
    · refine sub [r * w + (c - 1), r * w + (c + 1), (r - 1) * w + (c - 1), (r - 1) * w + c, (r - 1) * w + (c + 1)] (fun k hk ht => ?_) (by simp)
      obtain ⟨r', c', rfl, q1, q2, q3, q4, q5⟩ := split k hk ht
      clear hk ht split
      simp only [List.mem_cons, List.not_mem_nil, or_false]
      obtain e1 | ⟨x1, e1⟩ | e1 : r' = r ∨ (r' + 1 = r ∧ r' = r - 1) ∨ r' = r + 1 := by omega
      all_goals obtain e2 | ⟨x2, e2⟩ | e2 : c' = c ∨ (c' + 1 = c ∧ c' = c - 1) ∨ c' = c + 1 := by omega
      all_goals first | (exfalso; omega) | (rw [e1, e2]; simp)
theorem countP_range_succ (p : Nat → Bool) (n : Nat) : (List.range (n + 1)).countP p = (List.range n).countP p + (if p n then 1 else 0) := by
  rw [List.range_succ, List.countP_append]; simp [List.countP_cons]
theorem isRim_any (G : List (Nat × Value)) (a : Ras) {w h : Nat} (R : RasN a w h) (i : Nat) (hi : i < w * h) (K : AV → List AO → Prop) (hK : K (.fz .bool (decide (rimN w h i))) []) :
    ACall Tryz.prog G 66 [.fptr RasT a, .fz int i] [] K := by
  rw [← rim_count R.h0 hi] at hK
  have hl := R.len
  have hwh := R.wh
  refine acall_mk (E := envAt G 26 0) (envOk _ _ _) Tryz.func66 rfl rfl rfl rfl rfl ?_
  (repeat' (first | exact trivial | exact fun h => h | refine And.intro ?_ ?_ | (intro hb; try simp at hb) | omega | exact rfl | exact Nat.le_refl _ | (show _ + 1 ≤ 4294967296; omega) | (dsimp only; omega) | (show (_ : Int) ≤ (_ : Int); omega) | (show _ < List.length _; simp only [List.length_set, List.length_append, List.length_take]; omega) | (show wantB _ _ = true; simp <;> omega) | (show (_ : Bool) = _; simp_all; done) | (exfalso; omega) | refine aRegion_auto (by decide +kernel) ?_ | fail))
  refine ⟨Nat, fun k => ⟨[(0, .fptr RasT a), (1, .fz int i), (5, .fz int ((List.range k).countP (fun k => decide (touchN w i k)) : Nat)), (6, .fz int k)], []⟩, fun k => k ≤ w * h, fun k => w * h - k, 0, Nat.zero_le _, Ent.sub rfl ?_, ?_⟩
  · (repeat' (first | exact trivial | exact rfl | refine And.intro ?_ ?_))
  intro k hk
  have hc : (List.range k).countP (fun k => decide (touchN w i k)) ≤ k := by
    have := List.countP_le_length (p := fun k => decide (touchN w i k)) (l := List.range k)
    simpa using this
  (repeat' (first | exact trivial | exact fun h => h | refine And.intro ?_ ?_ | (intro hb; try simp at hb) | omega | exact rfl | exact Nat.le_refl _ | (show _ + 1 ≤ 4294967296; omega) | (dsimp only; omega) | (show (_ : Int) ≤ (_ : Int); omega) | (show _ < List.length _; simp only [List.length_set, List.length_append, List.length_take]; omega) | (show wantB _ _ = true; simp <;> omega) | (show (_ : Bool) = _; simp_all; done) | (exfalso; omega) | refine aRegion_auto (by decide +kernel) ?_ | fail))
  · refine acall_frame0 rfl (touch_any G a R i k hi (by omega) _ ?_)
    (repeat' (first | exact trivial | exact fun h => h | refine And.intro ?_ ?_ | (intro hb; try simp at hb) | omega | exact rfl | exact Nat.le_refl _ | (show _ + 1 ≤ 4294967296; omega) | (dsimp only; omega) | (show (_ : Int) ≤ (_ : Int); omega) | (show _ < List.length _; simp only [List.length_set, List.length_append, List.length_take]; omega) | (show wantB _ _ = true; simp <;> omega) | (show (_ : Bool) = _; simp_all; done) | (exfalso; omega) | refine aRegion_auto (by decide +kernel) ?_ | fail))
    · refine ⟨k + 1, by show k + 1 ≤ w * h; omega, by show w * h - (k + 1) < w * h - k; omega, Ent.sub rfl ?_⟩
      (repeat' (first | exact trivial | exact rfl | refine And.intro ?_ ?_))
      refine congrArg (AV.fz int) ?_
      rw [countP_range_succ, if_pos (by simpa using hb)]; rfl
    · refine ⟨k + 1, by show k + 1 ≤ w * h; omega, by show w * h - (k + 1) < w * h - k; omega, Ent.sub rfl ?_⟩
      (repeat' (first | exact trivial | exact rfl | refine And.intro ?_ ?_))
      refine congrArg (AV.fz int) ?_
      rw [countP_range_succ, if_neg (by simpa using hb)]; rfl
  · have hk : k = w * h := by omega
    subst hk
    refine ⟨_, _, REnt.drop ⟨rfl, rfl⟩, ?_⟩
    refine kbl hK ?_
    rw [Bool.eq_iff_iff, decide_eq_true_iff, decide_eq_true_iff]
    show _ ↔ ((_ : Nat) : Int) < 8
    omega
theorem rim_any (G : List (Nat × Value)) (a : Ras) {w h : Nat} (R : RasN a w h) (i : Nat) (hi : i < w * h) (K : AV → List AO → Prop) (hK : K (.fz .bool (decide (rimN w h i))) []) :
    ACall Tryz.prog G 175 [.fz RasT a, .fz int i] [] K := by
  have w1 := R.w1
  have h1 := R.h1
  have wz := R.wide
  have hz' := R.high
  have w0 := R.w0
  have h0 := R.h0
  obtain ⟨c, r, m1, d1, l1, l2, c1, c2, _⟩ := cell_at R hi
  have hz : a.1 ≠ 0 := by omega
  have e : decide (rimN w h i) = (decide (c = 0) || decide (r = 0) || decide (c = w - 1) || decide (r = h - 1)) := by
    rw [Bool.eq_iff_iff, decide_eq_true_iff]
    unfold rimN
    rw [c1, c2]
    simp [or_assoc]
  rw [e] at hK
  refine acall_mk (E := envAt G 35 0) (envOk _ _ _) Tryz.func175 rfl rfl rfl rfl rfl ?_
  (repeat' (first | exact trivial | exact fun h => h | refine And.intro ?_ ?_ | (intro hb; try simp at hb) | omega | exact rfl | exact Nat.le_refl _ | (show _ + 1 ≤ 4294967296; omega) | (dsimp only; omega) | (show (_ : Int) ≤ (_ : Int); omega) | (show _ < List.length _; simp only [List.length_set, List.length_append, List.length_take]; omega) | (show wantB _ _ = true; simp <;> omega) | (show (_ : Bool) = _; simp_all; done) | (exfalso; omega) | refine aRegion_auto (by decide +kernel) ?_ | fail))
  refine ⟨_, _, REnt.drop ⟨rfl, rfl⟩, ?_⟩
  refine kbl hK ?_
  rw [m1, d1, wz, hz']
  rw [Bool.eq_iff_iff]
  simp only [Bool.cond_true_left, Bool.or_eq_true, decide_eq_true_iff, beq_iff_eq]
  omega
end Go.Proofs.YtgjjooophigkoaaGreatDoor
/-
  The neighbour of a cell in a direction.
-/
namespace Go.Proofs.YtgjjooophigkoaaGreatDoor
open Go Go.Ab
set_option maxRecDepth 100000
/-! ### neighbours -/
def dX : Nat → Int
  | 0 => 1 | 1 => 1 | 2 => 0 | 3 => -1 | 4 => -1 | 5 => -1 | 6 => 0 | 7 => 1 | _ => 0
def dY : Nat → Int
  | 0 => 0 | 1 => -1 | 2 => -1 | 3 => -1 | 4 => 0 | 5 => 1 | 6 => 1 | 7 => 1 | _ => 0
/-- the neighbour in a direction -/
def nbN (w h i way : Nat) : Option Nat :=
  if 0 ≤ ((i % w : Nat) : Int) + dX way ∧ 0 ≤ ((i / w : Nat) : Int) + dY way ∧ ((i % w : Nat) : Int) + dX way < w ∧ ((i / w : Nat) : Int) + dY way < h then some ((((i / w : Nat) : Int) + dY way) * w + (((i % w : Nat) : Int) + dX way)).toNat else none
set_option maxHeartbeats 4000000 in
theorem neighbour_any (G : List (Nat × Value)) (a : Ras) {w h : Nat} (R : RasN a w h) (i way : Nat) (hi : i < w * h) (hw : way < 8) (K : AV → List AO → Prop) (h1 : ∀ n, nbN w h i way = some n → K (.tup [.fz int n, .fz .bool true]) []) (h2 : nbN w h i way = none → K (.tup [.fz int 0, .fz .bool false]) []) :
    ACall Tryz.prog G 178 [.fz RasT a, .fz int i, .fz int way] [] K := by
  have w1 := R.w1
  have hh1 := R.h1
  have wz := R.wide
  have hz' := R.high
  have w0 := R.w0
  obtain ⟨c, r, m1, d1, l1, l2, c1, c2, _⟩ := cell_at R hi
  have hz : a.1 ≠ 0 := by omega
  unfold nbN at h1 h2
  rw [c1, c2] at h1 h2
  have m3 : (i : Int) % a.1 = c := by rw [wz]; exact congrArg (fun n : Nat => (n : Int)) c1
  have d3 : (i : Int) / a.1 = r := by rw [wz]; exact congrArg (fun n : Nat => (n : Int)) c2
  have rb : ∀ y : Int, 0 ≤ y → y < h → 0 ≤ y * a.1 ∧ y * a.1 ≤ 16384 := fun y hy0 hy1 => by
    have := mul_bd (a := y) (b := a.1) (A := 128) (B := 128) (by omega) (by omega) (by omega) (by omega); omega
  obtain rfl | rfl | rfl | rfl | rfl | rfl | rfl | rfl : way = 0 ∨ way = 1 ∨ way = 2 ∨ way = 3 ∨ way = 4 ∨ way = 5 ∨ way = 6 ∨ way = 7 := by omega
  · have rb := rb ((Int.tdiv (i : Int) a.1) + 0)
    simp only [dX, dY] at h1 h2
    refine acall_mk (E := envAt G 60 0) (envOk _ _ _) Tryz.func178 rfl rfl rfl rfl rfl ?_
    (repeat' (first | exact trivial | exact fun h => h | refine And.intro ?_ ?_ | (intro hb; try simp at hb) | omega | exact rfl | exact Nat.le_refl _ | (show _ + 1 ≤ 4294967296; omega) | (dsimp only; omega) | (show (_ : Int) ≤ (_ : Int); omega) | (show _ < List.length _; simp only [List.length_set, List.length_append, List.length_take]; omega) | (show wantB _ _ = true; simp <;> omega) | (show (_ : Bool) = _; simp_all; done) | (exfalso; omega) | refine aRegion_auto (by decide +kernel) ?_ | fail))
    · refine ⟨_, _, REnt.drop ⟨rfl, rfl⟩, ?_⟩
      exact h2 (if_neg (by omega))
    · have hp := rb (by omega) (by omega)
      refine ⟨_, _, REnt.drop ⟨rfl, rfl⟩, ?_⟩
      have h1 := h1 _ (if_pos (by omega))
      have e : (((((r : Int) + 0) * w + ((c : Int) + 1)).toNat : Nat) : Int) = ((Int.tdiv (i : Int) a.1) + 0) * a.1 + (Int.tmod (i : Int) a.1 + 1) := by
        rw [d1, m1, wz] at *
        omega
      exact (congrArg (fun z => K (.tup [.fz int z, .fz .bool true]) []) e).mp h1
  · have rb := rb ((Int.tdiv (i : Int) a.1) + (-1))
    simp only [dX, dY] at h1 h2
    refine acall_mk (E := envAt G 60 0) (envOk _ _ _) Tryz.func178 rfl rfl rfl rfl rfl ?_
    (repeat' (first | exact trivial | exact fun h => h | refine And.intro ?_ ?_ | (intro hb; try simp at hb) | omega | exact rfl | exact Nat.le_refl _ | (show _ + 1 ≤ 4294967296; omega) | (dsimp only; omega) | (show (_ : Int) ≤ (_ : Int); omega) | (show _ < List.length _; simp only [List.length_set, List.length_append, List.length_take]; omega) | (show wantB _ _ = true; simp <;> omega) | (show (_ : Bool) = _; simp_all; done) | (exfalso; omega) | refine aRegion_auto (by decide +kernel) ?_ | fail))
    · refine ⟨_, _, REnt.drop ⟨rfl, rfl⟩, ?_⟩
      exact h2 (if_neg (by omega))
    · have hp := rb (by omega) (by omega)
      refine ⟨_, _, REnt.drop ⟨rfl, rfl⟩, ?_⟩
      have h1 := h1 _ (if_pos (by omega))
      have e : (((((r : Int) + (-1)) * w + ((c : Int) + 1)).toNat : Nat) : Int) = ((Int.tdiv (i : Int) a.1) + (-1)) * a.1 + (Int.tmod (i : Int) a.1 + 1) := by
        rw [d1, m1, wz] at *
        omega
      exact (congrArg (fun z => K (.tup [.fz int z, .fz .bool true]) []) e).mp h1
  · have rb := rb ((Int.tdiv (i : Int) a.1) + (-1))
    simp only [dX, dY] at h1 h2
    refine acall_mk (E := envAt G 60 0) (envOk _ _ _) Tryz.func178 rfl rfl rfl rfl rfl ?_
    (repeat' (first | exact trivial | exact fun h => h | refine And.intro ?_ ?_ | (intro hb; try simp at hb) | omega | exact rfl | exact Nat.le_refl _ | (show _ + 1 ≤ 4294967296; omega) | (dsimp only; omega) | (show (_ : Int) ≤ (_ : Int); omega) | (show _ < List.length _; simp only [List.length_set, List.length_append, List.length_take]; omega) | (show wantB _ _ = true; simp <;> omega) | (show (_ : Bool) = _; simp_all; done) | (exfalso; omega) | refine aRegion_auto (by decide +kernel) ?_ | fail))
    · refine ⟨_, _, REnt.drop ⟨rfl, rfl⟩, ?_⟩
      exact h2 (if_neg (by omega))
    · have hp := rb (by omega) (by omega)
      refine ⟨_, _, REnt.drop ⟨rfl, rfl⟩, ?_⟩
      have h1 := h1 _ (if_pos (by omega))
      have e : (((((r : Int) + (-1)) * w + ((c : Int) + 0)).toNat : Nat) : Int) = ((Int.tdiv (i : Int) a.1) + (-1)) * a.1 + (Int.tmod (i : Int) a.1 + 0) := by
        rw [d1, m1, wz] at *
        omega
      exact (congrArg (fun z => K (.tup [.fz int z, .fz .bool true]) []) e).mp h1
  · have rb := rb ((Int.tdiv (i : Int) a.1) + (-1))
    simp only [dX, dY] at h1 h2
    refine acall_mk (E := envAt G 60 0) (envOk _ _ _) Tryz.func178 rfl rfl rfl rfl rfl ?_
    (repeat' (first | exact trivial | exact fun h => h | refine And.intro ?_ ?_ | (intro hb; try simp at hb) | omega | exact rfl | exact Nat.le_refl _ | (show _ + 1 ≤ 4294967296; omega) | (dsimp only; omega) | (show (_ : Int) ≤ (_ : Int); omega) | (show _ < List.length _; simp only [List.length_set, List.length_append, List.length_take]; omega) | (show wantB _ _ = true; simp <;> omega) | (show (_ : Bool) = _; simp_all; done) | (exfalso; omega) | refine aRegion_auto (by decide +kernel) ?_ | fail))
    · refine ⟨_, _, REnt.drop ⟨rfl, rfl⟩, ?_⟩
      exact h2 (if_neg (by omega))
    · have hp := rb (by omega) (by omega)
      refine ⟨_, _, REnt.drop ⟨rfl, rfl⟩, ?_⟩
      have h1 := h1 _ (if_pos (by omega))
      have e : (((((r : Int) + (-1)) * w + ((c : Int) + (-1))).toNat : Nat) : Int) = ((Int.tdiv (i : Int) a.1) + (-1)) * a.1 + (Int.tmod (i : Int) a.1 + (-1)) := by
        rw [d1, m1, wz] at *
        omega
      exact (congrArg (fun z => K (.tup [.fz int z, .fz .bool true]) []) e).mp h1
  · have rb := rb ((Int.tdiv (i : Int) a.1) + 0)
    simp only [dX, dY] at h1 h2
    refine acall_mk (E := envAt G 60 0) (envOk _ _ _) Tryz.func178 rfl rfl rfl rfl rfl ?_
    (repeat' (first | exact trivial | exact fun h => h | refine And.intro ?_ ?_ | (intro hb; try simp at hb) | omega | exact rfl | exact Nat.le_refl _ | (show _ + 1 ≤ 4294967296; omega) | (dsimp only; omega) | (show (_ : Int) ≤ (_ : Int); omega) | (show _ < List.length _; simp only [List.length_set, List.length_append, List.length_take]; omega) | (show wantB _ _ = true; simp <;> omega) | (show (_ : Bool) = _; simp_all; done) | (exfalso; omega) | refine aRegion_auto (by decide +kernel) ?_ | fail))
    · refine ⟨_, _, REnt.drop ⟨rfl, rfl⟩, ?_⟩
      exact h2 (if_neg (by omega))
    · have hp := rb (by omega) (by omega)
      refine ⟨_, _, REnt.drop ⟨rfl, rfl⟩, ?_⟩
      have h1 := h1 _ (if_pos (by omega))
      have e : (((((r : Int) + 0) * w + ((c : Int) + (-1))).toNat : Nat) : Int) = ((Int.tdiv (i : Int) a.1) + 0) * a.1 + (Int.tmod (i : Int) a.1 + (-1)) := by
        rw [d1, m1, wz] at *
        omega
      exact (congrArg (fun z => K (.tup [.fz int z, .fz .bool true]) []) e).mp h1
  · have rb := rb ((Int.tdiv (i : Int) a.1) + 1)
    simp only [dX, dY] at h1 h2
    refine acall_mk (E := envAt G 60 0) (envOk _ _ _) Tryz.func178 rfl rfl rfl rfl rfl ?_
    (repeat' (first | exact trivial | exact fun h => h | refine And.intro ?_ ?_ | (intro hb; try simp at hb) | omega | exact rfl | exact Nat.le_refl _ | (show _ + 1 ≤ 4294967296; omega) | (dsimp only; omega) | (show (_ : Int) ≤ (_ : Int); omega) | (show _ < List.length _; simp only [List.length_set, List.length_append, List.length_take]; omega) | (show wantB _ _ = true; simp <;> omega) | (show (_ : Bool) = _; simp_all; done) | (exfalso; omega) | refine aRegion_auto (by decide +kernel) ?_ | fail))
    · refine ⟨_, _, REnt.drop ⟨rfl, rfl⟩, ?_⟩
      exact h2 (if_neg (by omega))
    · have hp := rb (by omega) (by omega)
      refine ⟨_, _, REnt.drop ⟨rfl, rfl⟩, ?_⟩
      have h1 := h1 _ (if_pos (by omega))
      have e : (((((r : Int) + 1) * w + ((c : Int) + (-1))).toNat : Nat) : Int) = ((Int.tdiv (i : Int) a.1) + 1) * a.1 + (Int.tmod (i : Int) a.1 + (-1)) := by
        rw [d1, m1, wz] at *
        omega
      exact (congrArg (fun z => K (.tup [.fz int z, .fz .bool true]) []) e).mp h1
  · have rb := rb ((Int.tdiv (i : Int) a.1) + 1)
    simp only [dX, dY] at h1 h2
    refine acall_mk (E := envAt G 60 0) (envOk _ _ _) Tryz.func178 rfl rfl rfl rfl rfl ?_
    (repeat' (first | exact trivial | exact fun h => h | refine And.intro ?_ ?_ | (intro hb; try simp at hb) | omega | exact rfl | exact Nat.le_refl _ | (show _ + 1 ≤ 4294967296; omega) | (dsimp only; omega) | (show (_ : Int) ≤ (_ : Int); omega) | (show _ < List.length _; simp only [List.length_set, List.length_append, List.length_take]; omega) | (show wantB _ _ = true; simp <;> omega) | (show (_ : Bool) = _; simp_all; done) | (exfalso; omega) | refine aRegion_auto (by decide +kernel) ?_ | fail))
    · refine ⟨_, _, REnt.drop ⟨rfl, rfl⟩, ?_⟩
      exact h2 (if_neg (by omega))
    · have hp := rb (by omega) (by omega)
      refine ⟨_, _, REnt.drop ⟨rfl, rfl⟩, ?_⟩
      have h1 := h1 _ (if_pos (by omega))
      have e : (((((r : Int) + 1) * w + ((c : Int) + 0)).toNat : Nat) : Int) = ((Int.tdiv (i : Int) a.1) + 1) * a.1 + (Int.tmod (i : Int) a.1 + 0) := by
        rw [d1, m1, wz] at *
        omega
      exact (congrArg (fun z => K (.tup [.fz int z, .fz .bool true]) []) e).mp h1
  · have rb := rb ((Int.tdiv (i : Int) a.1) + 1)
    simp only [dX, dY] at h1 h2
    refine acall_mk (E := envAt G 60 0) (envOk _ _ _) Tryz.func178 rfl rfl rfl rfl rfl ?_
    (repeat' (first | exact trivial | exact fun h => h | refine And.intro ?_ ?_ | (intro hb; try simp at hb) | omega | exact rfl | exact Nat.le_refl _ | (show _ + 1 ≤ 4294967296; omega) | (dsimp only; omega) | (show (_ : Int) ≤ (_ : Int); omega) | (show _ < List.length _; simp only [List.length_set, List.length_append, List.length_take]; omega) | (show wantB _ _ = true; simp <;> omega) | (show (_ : Bool) = _; simp_all; done) | (exfalso; omega) | refine aRegion_auto (by decide +kernel) ?_ | fail))
    · refine ⟨_, _, REnt.drop ⟨rfl, rfl⟩, ?_⟩
      exact h2 (if_neg (by omega))
    · have hp := rb (by omega) (by omega)
      refine ⟨_, _, REnt.drop ⟨rfl, rfl⟩, ?_⟩
      have h1 := h1 _ (if_pos (by omega))
      have e : (((((r : Int) + 1) * w + ((c : Int) + 1)).toNat : Nat) : Int) = ((Int.tdiv (i : Int) a.1) + 1) * a.1 + (Int.tmod (i : Int) a.1 + 1) := by
        rw [d1, m1, wz] at *
        omega
      exact (congrArg (fun z => K (.tup [.fz int z, .fz .bool true]) []) e).mp h1
end Go.Proofs.YtgjjooophigkoaaGreatDoor
/-
  What waits in a heap: the plain law of sifting up and down.
-/
namespace Go.Proofs.YtgjjooophigkoaaGreatDoor
open Go Go.Ab
abbrev P2 : Type := Int × Int
def key (p : P2) : Int := p.1 * 65536 + p.2
abbrev at2 (xs : List P2) (i : Nat) : P2 := xs.getD i (0, 0)
abbrev hk (xs : List P2) (i : Nat) : Int := key (at2 xs i)
def sw (xs : List P2) (i j : Nat) : List P2 := (xs.set i (at2 xs j)).set j (at2 xs i)
theorem sw_len (xs : List P2) (i j : Nat) : (sw xs i j).length = xs.length := by simp [sw]
theorem at2_sw (xs : List P2) {i j : Nat} (hi : i < xs.length) (hj : j < xs.length) (k : Nat) : at2 (sw xs i j) k = if k = j then at2 xs i else if k = i then at2 xs j else at2 xs k := by
  unfold sw at2
  by_cases h1 : k = j
  · subst h1; rw [if_pos rfl]; simp [List.getD, hj]
  · rw [if_neg h1]
    by_cases h2 : k = i
    · subst h2; rw [if_pos rfl]; simp [List.getD, List.getElem?_set, hi, Ne.symm h1]
    · rw [if_neg h2]; simp [List.getD, List.getElem?_set, Ne.symm h1, Ne.symm h2]
theorem hk_sw (xs : List P2) {i j : Nat} (hi : i < xs.length) (hj : j < xs.length) (k : Nat) : hk (sw xs i j) k = if k = j then hk xs i else if k = i then hk xs j else hk xs k := by
  unfold hk; rw [at2_sw xs hi hj k]; split
  · rfl
  · split <;> rfl
theorem sw_perm (xs : List P2) {i j : Nat} (hi : i < xs.length) (hj : j < xs.length) : (sw xs i j).Perm xs := by
  unfold sw at2
  have := @List.set_set_perm _ xs i j hi hj
  simpa [List.getD, hi, hj] using this
theorem sw_take (xs : List P2) {i j n : Nat} (hi : i < n) (hj : j < n) (hn : n ≤ xs.length) : (sw xs i j).take n = sw (xs.take n) i j := by
  unfold sw at2
  rw [List.take_set, List.take_set]
  simp [List.getD, List.getElem?_take, hi, hj]
theorem sw_take_perm (xs : List P2) {i j n : Nat} (hi : i < n) (hj : j < n) (hn : n ≤ xs.length) : ((sw xs i j).take n).Perm (xs.take n) := by
  rw [sw_take xs hi hj hn]
  exact sw_perm _ (by simp; omega) (by simp; omega)
/-- a heap -/
def HeapB (n : Nat) (xs : List P2) : Prop := ∀ i, 0 < i → i < n → hk xs ((i - 1) / 2) ≤ hk xs i
theorem HeapB.root {n : Nat} {xs : List P2} (h : HeapB n xs) : ∀ k, k < n → hk xs 0 ≤ hk xs k := by
  intro k
  induction k using Nat.strongRecOn with
  | ind k ih =>
    intro hk'
    by_cases h0 : k = 0
    · subst h0; exact Int.le_refl _
    · have h1 := h k (by omega) hk'
      have h2 := ih ((k - 1) / 2) (by omega) (by omega)
      omega
/-- a heap, but that the one at j may be too low -/
def UpI (n : Nat) (xs : List P2) (j : Nat) : Prop := j < n ∧ n ≤ xs.length ∧ (∀ i, 0 < i → i < n → i ≠ j → hk xs ((i - 1) / 2) ≤ hk xs i) ∧ ∀ i, 0 < i → i < n → (i - 1) / 2 = j → 0 < j → hk xs ((j - 1) / 2) ≤ hk xs i
theorem UpI.done {n : Nat} {xs : List P2} {j : Nat} (h : UpI n xs j) (hd : j = 0 ∨ hk xs ((j - 1) / 2) ≤ hk xs j) : HeapB n xs := by
  intro i h0 hi
  obtain ⟨h1, _, h2, _⟩ := h
  by_cases hij : i = j
  · subst hij; rcases hd with hd | hd
    · omega
    · exact hd
  · exact h2 i h0 hi hij
theorem UpI.step {n : Nat} {xs : List P2} {j : Nat} (h : UpI n xs j) (h0 : 0 < j) (hl : hk xs j < hk xs ((j - 1) / 2)) : UpI n (sw xs ((j - 1) / 2) j) ((j - 1) / 2) := by
  obtain ⟨h1, hn, h2, h3⟩ := h
  have hs := hk_sw xs (i := (j - 1) / 2) (j := j) (by omega) (by omega)
  refine ⟨by omega, by rw [sw_len]; exact hn, fun i hi1 hi2 hi3 => ?_, fun i hi1 hi2 hi3 hi4 => ?_⟩
  · rw [hs, hs]
    have a := h2 i hi1 hi2
    have b := h3 i hi1 hi2
    generalize hp : (j - 1) / 2 = p at *
    generalize hq : (i - 1) / 2 = q at *
    by_cases c1 : q = j
    · rw [if_pos c1]
      by_cases c2 : i = j
      · omega
      · rw [if_neg c2, if_neg hi3]; exact b c1 h0
    · rw [if_neg c1]
      by_cases c2 : i = j
      · subst c2
        have : q = p := by omega
        rw [if_pos this, if_pos rfl]; omega
      · rw [if_neg c2, if_neg hi3]
        have a := a c2
        by_cases c3 : q = p
        · rw [if_pos c3]; rw [c3] at a; omega
        · rw [if_neg c3]; exact a
  · rw [hs, hs]
    have a := h2 i hi1 hi2
    have a2 := h2 ((j - 1) / 2) hi4 (by omega) (by omega)
    generalize hp : (j - 1) / 2 = p at *
    rw [if_neg (show (p - 1) / 2 ≠ j by omega), if_neg (show (p - 1) / 2 ≠ p by omega)]
    by_cases c2 : i = j
    · subst c2; rw [if_pos rfl]; exact a2
    · rw [if_neg c2, if_neg (show i ≠ p by omega)]
      have a := a c2
      rw [hi3] at a; omega
/-- a heap, but that the one at i may be too high -/
def DnI (n : Nat) (xs : List P2) (i : Nat) : Prop := n ≤ xs.length ∧ (∀ k, 0 < k → k < n → (k - 1) / 2 ≠ i → hk xs ((k - 1) / 2) ≤ hk xs k) ∧ ∀ k, 0 < k → k < n → (k - 1) / 2 = i → 0 < i → hk xs ((i - 1) / 2) ≤ hk xs k
theorem DnI.done {n : Nat} {xs : List P2} {i : Nat} (h : DnI n xs i) (hd : ∀ k, 0 < k → k < n → (k - 1) / 2 = i → hk xs i ≤ hk xs k) : HeapB n xs := by
  intro k h0 hk'
  by_cases hki : (k - 1) / 2 = i
  · have := hd k h0 hk' hki; rw [hki]; exact this
  · exact h.2.1 k h0 hk' hki
theorem DnI.step {n : Nat} {xs : List P2} {i j : Nat} (h : DnI n xs i) (hj0 : 0 < j) (hj : j < n) (hp : (j - 1) / 2 = i) (hm : ∀ k, 0 < k → k < n → (k - 1) / 2 = i → hk xs j ≤ hk xs k) (hl : hk xs j < hk xs i) : DnI n (sw xs i j) j := by
  obtain ⟨hn, h2, h3⟩ := h
  have hs := hk_sw xs (i := i) (j := j) (by omega) (by omega)
  refine ⟨by rw [sw_len]; exact hn, fun k hk1 hk2 hk3 => ?_, fun k hk1 hk2 hk3 hk4 => ?_⟩
  · rw [hs, hs]
    have a := h2 k hk1 hk2
    have b := h3 k hk1 hk2
    have m := hm k hk1 hk2
    generalize hq : (k - 1) / 2 = q at *
    rw [if_neg hk3]
    by_cases c1 : q = i
    · rw [if_pos c1]
      by_cases c2 : k = j
      · subst c2; rw [if_pos rfl]; omega
      · rw [if_neg c2, if_neg (show k ≠ i by omega)]; exact m c1
    · rw [if_neg c1]
      rw [if_neg (show k ≠ j by omega)]
      by_cases c2 : k = i
      · subst c2
        rw [if_pos rfl]
        have b := h3 j hj0 hj hp (by omega)
        rw [hq] at b; exact b
      · rw [if_neg c2]; exact a c1
  · rw [hs, hs]
    have a := h2 k hk1 hk2 (by omega)
    rw [if_neg (show (j - 1) / 2 ≠ j by omega), if_pos hp, if_neg (show k ≠ j by omega), if_neg (show k ≠ i by omega)]
    rw [hk3] at a; exact a
/-- the least one taken to the end -/
theorem dn_start {n : Nat} {xs : List P2} (h : HeapB (n + 1) xs) (hn : n + 1 ≤ xs.length) : DnI n (sw xs 0 n) 0 ∧ ∀ k, k < n → hk (sw xs 0 n) n ≤ hk (sw xs 0 n) k := by
  have hs := hk_sw xs (i := 0) (j := n) (by omega) (by omega)
  refine ⟨⟨by rw [sw_len]; omega, fun k h1 h2 h3 => ?_, fun k h1 h2 h3 h4 => by omega⟩, fun k hk' => ?_⟩
  · rw [hs, hs]
    have a := h k h1 (by omega)
    generalize hq : (k - 1) / 2 = q at *
    rw [if_neg (show q ≠ n by omega), if_neg h3, if_neg (show k ≠ n by omega), if_neg (show k ≠ 0 by omega)]
    exact a
  · rw [hs, hs, if_pos rfl, if_neg (show k ≠ n by omega)]
    by_cases c : k = 0
    · subst c; rw [if_pos rfl]; exact h.root n (by omega)
    · rw [if_neg c]; exact h.root k (by omega)
/-- one added at the end -/
theorem up_start {n : Nat} {xs : List P2} (h : HeapB n xs) (hn : n ≤ xs.length) (x : P2) : UpI (n + 1) (xs.take n ++ [x]) n := by
  have e : ∀ k, k < n → hk (xs.take n ++ [x]) k = hk xs k := fun k hk' => by
    unfold hk at2
    congr 1
    simp [List.getD, List.getElem?_append, List.getElem?_take, hk', hn, List.getElem?_eq_getElem (show k < xs.length by omega)]
  refine ⟨by omega, by simp; omega, fun i h1 h2 h3 => ?_, fun i h1 h2 h3 h4 => by omega⟩
  rw [e _ (by omega), e i (by omega)]
  exact h i h1 (by omega)
theorem HeapB.take {n : Nat} {xs ys : List P2} (h : HeapB n xs) (he : ∀ k, k < n → at2 ys k = at2 xs k) : HeapB n ys := by
  intro i h0 hi
  have := h i h0 hi
  unfold hk at *
  rw [he i hi, he _ (by omega)]; exact this
end Go.Proofs.YtgjjooophigkoaaGreatDoor
/-
  What waits in a heap: the walks.
-/
namespace Go.Proofs.YtgjjooophigkoaaGreatDoor
open Go Go.Ab
set_option maxRecDepth 100000
abbrev WT : Ty := .pair int int
def orI : List Int → Int
  | [] => 0
  | x :: l => if x ≠ 0 then x else orI l
theorem or_any (G : List (Nat × Value)) (xs : List Int) (hl : xs.length ≤ 1000000000000) (K : AV → List AO → Prop) (hK : K (.fz int (orI xs)) []) :
    ACall Tryz.prog G 61 [.fz (.list int) xs] [] K := by
  refine acall_mk (E := envAt G 18 0) (envOk _ _ _) Tryz.func61 rfl rfl rfl rfl rfl ?_
  (repeat' (first | exact trivial | exact fun h => h | refine And.intro ?_ ?_ | (intro hb; try simp at hb) | omega | exact rfl | exact Nat.le_refl _ | (show _ + 1 ≤ 4294967296; omega) | (dsimp only; omega) | (show (_ : Int) ≤ (_ : Int); omega) | (show _ < List.length _; simp only [List.length_set, List.length_append, List.length_take]; omega) | (show wantB _ _ = true; simp <;> omega) | (show (_ : Bool) = _; simp_all; done) | (exfalso; omega) | refine aRegion_auto (by decide +kernel) ?_ | fail))
  refine ⟨Nat, fun k => ⟨[(3, .fz int 0), (6, .fz (.list int) xs), (7, .fz int xs.length), (8, .fz int k)], []⟩, fun k => k ≤ xs.length ∧ orI xs = orI (xs.drop k), fun k => xs.length - k, 0, ⟨Nat.zero_le _, rfl⟩, Ent.sub rfl ?_, ?_⟩
  · (repeat' (first | exact trivial | exact rfl | refine And.intro ?_ ?_))
  intro k ⟨hk, hp⟩
  (repeat' (first | exact trivial | exact fun h => h | refine And.intro ?_ ?_ | (intro hb; try simp at hb) | omega | exact rfl | exact Nat.le_refl _ | (show _ + 1 ≤ 4294967296; omega) | (dsimp only; omega) | (show (_ : Int) ≤ (_ : Int); omega) | (show _ < List.length _; simp only [List.length_set, List.length_append, List.length_take]; omega) | (show wantB _ _ = true; simp <;> omega) | (show (_ : Bool) = _; simp_all; done) | (exfalso; omega) | refine aRegion_auto (by decide +kernel) ?_ | fail))
  · refine ⟨_, _, REnt.refl _ _ _, ?_⟩
    have hd : xs.drop k = xs[k]'(by omega) :: xs.drop (k + 1) := List.drop_eq_getElem_cons (by omega)
    have e : xs.getD (Int.toNat (k : Int)) int.dft = xs[k]'(by omega) := by simp [List.getD, show k < xs.length by omega]
    rw [hp, hd] at hK
    unfold orI at hK
    have hb : ¬ (xs.getD (Int.toNat (k : Int)) int.dft = 0) := hb
    rw [e] at hb
    rw [if_pos hb] at hK
    rw [e]; exact hK
  · refine ⟨k + 1, ⟨by omega, ?_⟩, by show _ - _ < _ - _; omega, Ent.sub rfl ?_⟩
    · have hd : xs.drop k = xs[k]'(by omega) :: xs.drop (k + 1) := List.drop_eq_getElem_cons (by omega)
      have e : xs.getD (Int.toNat (k : Int)) int.dft = xs[k]'(by omega) := by simp [List.getD, show k < xs.length by omega]
      have hb : xs.getD (Int.toNat (k : Int)) int.dft = 0 := hb
      rw [e] at hb
      rw [hp, hd, orI, if_neg (by omega)]
    · (repeat' (first | exact trivial | exact rfl | refine And.intro ?_ ?_))
  · refine ⟨_, _, REnt.refl _ _ _, ?_⟩
    have hk : k = xs.length := by omega
    subst hk
    rw [hp, List.drop_length] at hK
    exact hK
/-- so small that a key is a number -/
def okW (p : P2) : Prop := -1048576 ≤ p.1 ∧ p.1 ≤ 1048576 ∧ 0 ≤ p.2 ∧ p.2 < 65536
theorem okW_dft : okW (0, 0) := by unfold okW; omega
def AllW (xs : List P2) : Prop := ∀ p ∈ xs, okW p
theorem AllW.at {xs : List P2} (h : AllW xs) (i : Nat) : okW (at2 xs i) := by
  unfold at2
  rw [List.getD]
  cases hi : xs[i]? with
  | none => exact okW_dft
  | some p => exact h p (List.mem_of_getElem? hi)
theorem less_any (G : List (Nat × Value)) (xs : List P2) (i k : Nat) (ha : AllW xs) (hi : i < xs.length) (hk : k < xs.length) (K : AV → List AO → Prop) (hK : K (.fz .bool (decide (YtgjjooophigkoaaGreatDoor.hk xs i < YtgjjooophigkoaaGreatDoor.hk xs k))) []) :
    ACall Tryz.prog G 254 [.fz (.list WT) xs, .fz int i, .fz int k] [] K := by
  have h1 := ha.at i
  have h2 := ha.at k
  unfold okW at h1 h2
  have g1 : -1048576 ≤ (xs.getD (Int.toNat (i : Int)) WT.dft).1 ∧ (xs.getD (Int.toNat (i : Int)) WT.dft).1 ≤ 1048576 ∧ 0 ≤ (xs.getD (Int.toNat (i : Int)) WT.dft).2 ∧ (xs.getD (Int.toNat (i : Int)) WT.dft).2 < 65536 := h1
  have g2 : -1048576 ≤ (xs.getD (Int.toNat (k : Int)) WT.dft).1 ∧ (xs.getD (Int.toNat (k : Int)) WT.dft).1 ≤ 1048576 ∧ 0 ≤ (xs.getD (Int.toNat (k : Int)) WT.dft).2 ∧ (xs.getD (Int.toNat (k : Int)) WT.dft).2 < 65536 := h2
  refine acall_mk (E := envAt G 32 0) (envOk _ _ _) Tryz.func254 rfl rfl rfl rfl rfl ?_
  (repeat' (first | exact trivial | exact fun h => h | refine And.intro ?_ ?_ | (intro hb; try simp at hb) | omega | exact rfl | exact Nat.le_refl _ | (show _ + 1 ≤ 4294967296; omega) | (dsimp only; omega) | (show (_ : Int) ≤ (_ : Int); omega) | (show _ < List.length _; simp only [List.length_set, List.length_append, List.length_take]; omega) | (show wantB _ _ = true; simp <;> omega) | (show (_ : Bool) = _; simp_all; done) | (exfalso; omega) | refine aRegion_auto (by decide +kernel) ?_ | fail))
  (apply exEff; focus (repeat' (first | exact ⟨rfl, rfl⟩ | exact trivial | refine And.intro ?_ ?_ | omega | exact Nat.le_refl _ | (show _ + 1 ≤ 4294967296; omega))))
  (repeat' (first | exact trivial | exact fun h => h | refine And.intro ?_ ?_ | (intro hb; try simp at hb) | omega | exact rfl | exact Nat.le_refl _ | (show _ + 1 ≤ 4294967296; omega) | (dsimp only; omega) | (show (_ : Int) ≤ (_ : Int); omega) | (show _ < List.length _; simp only [List.length_set, List.length_append, List.length_take]; omega) | (show wantB _ _ = true; simp <;> omega) | (show (_ : Bool) = _; simp_all; done) | (exfalso; omega) | refine aRegion_auto (by decide +kernel) ?_ | fail))
  apply exEff
  · refine acall_lend [.dat (.list int)] _ _ _ rfl ?_ rfl ?_
    · (repeat' (first | exact trivial | refine And.intro ?_ ?_ | (show _ ≤ _; omega) | (show _ ≤ _; simp; done)))
    refine acall_arg (or_any G [(at2 xs i).1 - (at2 xs k).1, (at2 xs i).2 - (at2 xs k).2] (by simp) _ ?_) rfl
    refine And.intro rfl ?_
    exact ⟨rfl, rfl⟩
  (repeat' (first | exact trivial | exact fun h => h | refine And.intro ?_ ?_ | (intro hb; try simp at hb) | omega | exact rfl | exact Nat.le_refl _ | (show _ + 1 ≤ 4294967296; omega) | (dsimp only; omega) | (show (_ : Int) ≤ (_ : Int); omega) | (show _ < List.length _; simp only [List.length_set, List.length_append, List.length_take]; omega) | (show wantB _ _ = true; simp <;> omega) | (show (_ : Bool) = _; simp_all; done) | (exfalso; omega) | refine aRegion_auto (by decide +kernel) ?_ | fail))
  refine ⟨_, _, REnt.drop ⟨rfl, rfl⟩, ?_⟩
  refine kbl hK ?_
  unfold Go.Proofs.YtgjjooophigkoaaGreatDoor.hk key orI orI orI
  rw [Bool.eq_iff_iff, decide_eq_true_iff, decide_eq_true_iff]
  split <;> (try split) <;> omega
end Go.Proofs.YtgjjooophigkoaaGreatDoor
/-
  A heap of what waits: sifting up, sifting down.
-/
namespace Go.Proofs.YtgjjooophigkoaaGreatDoor
open Go Go.Ab
set_option maxRecDepth 100000
theorem swap_any (G : List (Nat × Value)) (xs : List P2) (n i k : Nat) (hn : n ≤ xs.length) (hi : i < n) (hk : k < n) (K : AV → List AO → Prop) (hK : K (.tup []) [.row WT (sw xs i k)]) :
    ACall Tryz.prog G 255 [.ref 0 0 n, .fz int i, .fz int k] [.row WT xs] K := by
  have kal : ∀ {l l' : List P2}, K (.tup []) [.row WT l] → l = l' → K (.tup []) [.row WT l'] := fun h e => e ▸ h
  refine acall_mk (E := envAt G 20 1) (envOk _ _ _) Tryz.func255 rfl rfl rfl rfl rfl ?_
  have h1 : 0 + Int.toNat (i : Int) < xs.length := by simp; omega
  have h2 : 0 + Int.toNat (k : Int) < xs.length := by simp; omega
  have h3 : 0 + Int.toNat (k : Int) < (xs.set (0 + Int.toNat (i : Int)) (xs.getD (0 + Int.toNat (k : Int)) WT.dft)).length := by simp; omega
  (repeat' (first | exact trivial | exact fun h => h | refine And.intro ?_ ?_ | (intro hb; try simp at hb) | omega | exact rfl | exact Nat.le_refl _ | (show _ + 1 ≤ 4294967296; omega) | (dsimp only; omega) | (show (_ : Int) ≤ (_ : Int); omega) | (show _ < List.length _; simp only [List.length_set, List.length_append, List.length_take]; omega) | (show wantB _ _ = true; simp <;> omega) | (show (_ : Bool) = _; simp_all; done) | (exfalso; omega) | refine aRegion_auto (by decide +kernel) ?_ | fail))
  (apply exEff; focus (repeat' (first | exact ⟨rfl, rfl⟩ | exact trivial | refine And.intro ?_ ?_ | omega | exact Nat.le_refl _ | (show _ + 1 ≤ 4294967296; omega))))
  (repeat' (first | exact trivial | exact fun h => h | refine And.intro ?_ ?_ | (intro hb; try simp at hb) | omega | exact rfl | exact Nat.le_refl _ | (show _ + 1 ≤ 4294967296; omega) | (dsimp only; omega) | (show (_ : Int) ≤ (_ : Int); omega) | (show _ < List.length _; simp only [List.length_set, List.length_append, List.length_take]; omega) | (show wantB _ _ = true; simp <;> omega) | (show (_ : Bool) = _; simp_all; done) | (exfalso; omega) | refine aRegion_auto (by decide +kernel) ?_ | fail))
  (apply exEff; focus (repeat' (first | exact ⟨rfl, rfl⟩ | exact trivial | refine And.intro ?_ ?_ | omega | exact Nat.le_refl _ | (show _ + 1 ≤ 4294967296; omega))))
  refine ⟨_, _, REnt.refl _ _ _, ?_⟩
  refine kal hK ?_
  unfold sw at2
  simp only [Int.toNat_natCast, Nat.zero_add]
  rfl
theorem hk_take {n i : Nat} (xs : List P2) (h : i < n) : hk (xs.take n) i = hk xs i := by
  unfold hk at2; simp [List.getD, h]
theorem ainv_ptr {P : Program} {D : Tab} {G : List (Nat × Value)} {t e : TypeId} {m : String} {f : FuncId} {v x : AV} {rest : List AV} {A : List AO} {C : Option Prop} {K : AV → List AO → Prop} (hm : MethPtr P t e m f) (hl : aLoad D G A e v = (C, x)) (hC : Hold C) (h : ACall P G f (x :: rest) A K) : AInv P D G t m (v :: rest) A K := .inr ⟨f, e, hm, C, x, hl, hC, h⟩
theorem ainv_ok {P : Program} {D : Tab} {G : List (Nat × Value)} {t : TypeId} {m : String} {f : FuncId} {args : List AV} {A : List AO} {K : AV → List AO → Prop} (hm : MethOk P t m f) (h : ACall P G f args A K) : AInv P D G t m args A K := .inl ⟨f, hm, h⟩
structure Same (n : Nat) (xs ys : List P2) : Prop where
  len : ys.length = xs.length
  perm : (ys.take n).Perm (xs.take n)
  rest : ∀ k, n ≤ k → at2 ys k = at2 xs k
  okw : AllW ys
theorem Same.refl {n : Nat} {xs : List P2} (h : AllW xs) : Same n xs xs := ⟨rfl, List.Perm.refl _, fun _ _ => rfl, h⟩
theorem Same.step {n : Nat} {xs ys : List P2} (h : Same n xs ys) {i j : Nat} (hi : i < n) (hj : j < n) (hn : n ≤ xs.length) : Same n xs (sw ys i j) := by
  have hl := h.len
  refine ⟨by rw [sw_len]; exact h.len, (sw_take_perm ys hi hj (by omega)).trans h.perm, fun k hk => ?_, fun p hp => ?_⟩
  · rw [at2_sw ys (by omega) (by omega), if_neg (by omega), if_neg (by omega)]; exact h.rest k hk
  · exact h.okw p ((sw_perm ys (by omega) (by omega)).mem_iff.1 hp)
abbrev hI : AV := .ifc 255 (.ptr 0 0)
abbrev hA (n : Nat) (xs : List P2) : List AO := [.box [.ref 1 0 n], .row WT xs]
theorem mLess : MethPtr Tryz.prog 255 252 "Less" 254 := methPtr_of (by kernel_rfl) (by kernel_rfl)
theorem mSwap : MethPtr Tryz.prog 255 252 "Swap" 255 := methPtr_of (by kernel_rfl) (by kernel_rfl)
theorem mLen : MethPtr Tryz.prog 255 252 "Len" 253 := methPtr_of (by kernel_rfl) (by kernel_rfl)
theorem mPush : MethOk Tryz.prog 255 "Push" 257 := methOk_ptr (e := 252) (by kernel_rfl) (by kernel_rfl)
theorem mPop : MethOk Tryz.prog 255 "Pop" 256 := methOk_ptr (e := 252) (by kernel_rfl) (by kernel_rfl)
theorem up_any (G : List (Nat × Value)) (xs : List P2) (n j : Nat) (hs : n ≤ 1000000000) (h : UpI n xs j) (ha : AllW xs) (K : AV → List AO → Prop) (hK : ∀ ys, Same n xs ys → HeapB n ys → K (.tup []) (hA n ys)) :
    ACall Tryz.prog G 198 [hI, .fz int j] (hA n xs) K := by
  refine acall_mk (E := envAt G 23 2) (envOk _ _ _) Tryz.func198 rfl rfl rfl rfl rfl ?_
  (repeat' (first | exact trivial | exact fun h => h | refine And.intro ?_ ?_ | (intro hb; try simp at hb) | omega | exact rfl | exact Nat.le_refl _ | (show _ + 1 ≤ 4294967296; omega) | (dsimp only; omega) | (show (_ : Int) ≤ (_ : Int); omega) | (show _ < List.length _; simp only [List.length_set, List.length_append, List.length_take]; omega) | (show wantB _ _ = true; simp <;> omega) | (show (_ : Bool) = _; simp_all; done) | (exfalso; omega) | refine aRegion_auto (by decide +kernel) ?_ | fail))
  refine ⟨List P2 × Nat, fun x => ⟨[(0, hI), (1, .fz int x.2)], hA n x.1⟩, fun x => UpI n x.1 x.2 ∧ Same n xs x.1, fun x => x.2, (xs, j), ⟨h, Same.refl ha⟩, Ent.sub rfl ?_, ?_⟩
  · (repeat' (first | exact trivial | exact rfl | refine And.intro ?_ ?_))
  rintro ⟨ys, j⟩ ⟨hu, hsame⟩
  simp only at hu hsame
  have hlen := hsame.len
  have hp : Int.tdiv ((j : Int) - 1) 2 = (((j - 1) / 2 : Nat) : Int) := by
    rcases Nat.eq_zero_or_pos j with h0 | h0
    · subst h0; rfl
    · rw [show (j : Int) - 1 = ((j - 1 : Nat) : Int) by omega]; rfl
  have hj : j < n := hu.1
  have hn : n ≤ ys.length := hu.2.1
  have hpn : (j - 1) / 2 < n := by omega
  have hp2 : Int.tdiv (((ys, j).2 : Int) - 1) 2 = (((j - 1) / 2 : Nat) : Int) := hp
  (repeat' (first | exact trivial | exact fun h => h | refine And.intro ?_ ?_ | (intro hb; try simp at hb) | omega | exact rfl | exact Nat.le_refl _ | (show _ + 1 ≤ 4294967296; omega) | (dsimp only; omega) | (show (_ : Int) ≤ (_ : Int); omega) | (show _ < List.length _; simp only [List.length_set, List.length_append, List.length_take]; omega) | (show wantB _ _ = true; simp <;> omega) | (show (_ : Bool) = _; simp_all; done) | (exfalso; omega) | refine aRegion_auto (by decide +kernel) ?_ | fail))
  · refine ainv_ptr mLess rfl trivial ?_
    refine acall_lend [.dat (.list WT), .keep, .keep] _ _ _ rfl ?_ rfl ?_
    · show _ ≤ _
      simp; omega
    refine acall_arg (less_any G (ys.take n) j ((j - 1) / 2) (fun p h => hsame.okw p (List.mem_of_mem_take h)) (by simp; omega) (by simp; omega) _ ?_) (by rw [hp]; rfl)
    refine ⟨rfl, ?_⟩
    (repeat' (first | exact trivial | exact fun h => h | refine And.intro ?_ ?_ | (intro hb; try simp at hb) | omega | exact rfl | exact Nat.le_refl _ | (show _ + 1 ≤ 4294967296; omega) | (dsimp only; omega) | (show (_ : Int) ≤ (_ : Int); omega) | (show _ < List.length _; simp only [List.length_set, List.length_append, List.length_take]; omega) | (show wantB _ _ = true; simp <;> omega) | (show (_ : Bool) = _; simp_all; done) | (exfalso; omega) | refine aRegion_auto (by decide +kernel) ?_ | fail))
    · refine ⟨_, _, REnt.refl _ _ _, ?_⟩
      rw [hk_take _ hpn, hk_take _ hj] at hb
      exact hK ys hsame (hu.done (.inr (by omega)))
    · refine ainv_ptr mSwap rfl trivial ?_
      refine acall_frame [1] [.row WT ys] [.ref 0 0 n, .fz int ((j - 1) / 2 : Nat), .fz int j] rfl ⟨⟨rfl, trivial⟩, trivial⟩ ⟨rfl, rfl⟩ (by rw [hp2]; rfl) (swap_any G ys n ((j - 1) / 2) j hn hpn hj _ ?_)
      rw [hk_take _ hpn, hk_take _ hj] at hb
      have hj0 : 0 < j := by
        rcases Nat.eq_zero_or_pos j with h0 | h0
        · subst h0; exact absurd (by rfl) hb.1
        · exact h0
      (repeat' (first | exact trivial | exact fun h => h | refine And.intro ?_ ?_ | (intro hb; try simp at hb) | omega | exact rfl | exact Nat.le_refl _ | (show _ + 1 ≤ 4294967296; omega) | (dsimp only; omega) | (show (_ : Int) ≤ (_ : Int); omega) | (show _ < List.length _; simp only [List.length_set, List.length_append, List.length_take]; omega) | (show wantB _ _ = true; simp <;> omega) | (show (_ : Bool) = _; simp_all; done) | (exfalso; omega) | refine aRegion_auto (by decide +kernel) ?_ | fail))
      refine ⟨(sw ys ((j - 1) / 2) j, (j - 1) / 2), ⟨hu.step hj0 hb.2, hsame.step hpn hj (by omega)⟩, by show (j - 1) / 2 < j; omega, Ent.sub rfl ?_⟩
      (repeat' (first | exact trivial | exact rfl | refine And.intro ?_ ?_))
      exact congrArg (AV.fz int) hp
  · refine ⟨_, _, REnt.refl _ _ _, ?_⟩
    exact hK ys hsame (hu.done (.inl (by omega)))
theorem down_any (G : List (Nat × Value)) (xs : List P2) (n i : Nat) (hs : n ≤ 1000000000) (hi : i ≤ 1000000000) (hn : n + 1 ≤ xs.length) (h : DnI n xs i) (ha : AllW xs) (K : AV → List AO → Prop) (hK : ∀ ys b, Same n xs ys → HeapB n ys → K (.fz .bool b) (hA (n + 1) ys)) :
    ACall Tryz.prog G 199 [hI, .fz int i, .fz int n] (hA (n + 1) xs) K := by
  refine acall_mk (E := envAt G 48 2) (envOk _ _ _) Tryz.func199 rfl rfl rfl rfl rfl ?_
  (repeat' (first | exact trivial | exact fun h => h | refine And.intro ?_ ?_ | (intro hb; try simp at hb) | omega | exact rfl | exact Nat.le_refl _ | (show _ + 1 ≤ 4294967296; omega) | (dsimp only; omega) | (show (_ : Int) ≤ (_ : Int); omega) | (show _ < List.length _; simp only [List.length_set, List.length_append, List.length_take]; omega) | (show wantB _ _ = true; simp <;> omega) | (show (_ : Bool) = _; simp_all; done) | (exfalso; omega) | refine aRegion_auto (by decide +kernel) ?_ | fail))
  refine ⟨List P2 × Nat, fun x => ⟨[(0, hI), (1, .fz int i), (2, .fz int n), (7, .fz int x.2)], hA (n + 1) x.1⟩, fun x => DnI n x.1 x.2 ∧ Same n xs x.1 ∧ x.2 ≤ n + i, fun x => n + i - x.2, (xs, i), ⟨h, Same.refl ha, by simp⟩, Ent.sub rfl ?_, ?_⟩
  · (repeat' (first | exact trivial | exact rfl | refine And.intro ?_ ?_))
  rintro ⟨ys, i1⟩ ⟨hd, hsame, hle⟩
  simp only at hd hsame hle
  have hlen := hsame.len
  have hle2 : ((ys, i1).2 : Int) ≤ 2000000000 := by show (i1 : Int) ≤ _; omega
  (repeat' (first | exact trivial | exact fun h => h | refine And.intro ?_ ?_ | (intro hb; try simp at hb) | omega | exact rfl | exact Nat.le_refl _ | (show _ + 1 ≤ 4294967296; omega) | (dsimp only; omega) | (show (_ : Int) ≤ (_ : Int); omega) | (show _ < List.length _; simp only [List.length_set, List.length_append, List.length_take]; omega) | (show wantB _ _ = true; simp <;> omega) | (show (_ : Bool) = _; simp_all; done) | (exfalso; omega) | refine aRegion_auto (by decide +kernel) ?_ | fail))
  · refine ⟨_, _, REnt.refl _ _ _, ?_⟩
    exact hK ys _ hsame (hd.done (fun k k1 k2 k3 => by omega))
  · refine ainv_ptr mLess rfl trivial ?_
    refine acall_lend [.dat (.list WT), .keep, .keep] _ _ _ rfl ?_ rfl ?_
    · show _ ≤ _
      simp; omega
    refine acall_arg (less_any G (ys.take (n + 1)) (2 * i1 + 1 + 1) (2 * i1 + 1) (fun p h => hsame.okw p (List.mem_of_mem_take h)) (by simp; omega) (by simp; omega) _ ?_) rfl
    refine ⟨rfl, ?_⟩
    rw [hk_take _ (show 2 * i1 + 1 + 1 < n + 1 by omega), hk_take _ (show 2 * i1 + 1 < n + 1 by omega)]
    (repeat' (first | exact trivial | exact fun h => h | refine And.intro ?_ ?_ | (intro hb; try simp at hb) | omega | exact rfl | exact Nat.le_refl _ | (show _ + 1 ≤ 4294967296; omega) | (dsimp only; omega) | (show (_ : Int) ≤ (_ : Int); omega) | (show _ < List.length _; simp only [List.length_set, List.length_append, List.length_take]; omega) | (show wantB _ _ = true; simp <;> omega) | (show (_ : Bool) = _; simp_all; done) | (exfalso; omega) | refine aRegion_auto (by decide +kernel) ?_ | fail))
    · have hb2 : hk ys (2 * i1 + 1 + 1) < hk ys (2 * i1 + 1) := by simpa using hb.2
      have hm : ∀ k, 0 < k → k < n → (k - 1) / 2 = i1 → hk ys (2 * i1 + 1 + 1) ≤ hk ys k := by
        intro k k1 k2 k3
        obtain rfl | rfl : k = 2 * i1 + 1 ∨ k = 2 * i1 + 2 := by omega
        all_goals first | exact Int.le_of_lt hb2 | exact Int.le_refl _
      refine ainv_ptr mLess rfl trivial ?_
      refine acall_lend [.dat (.list WT), .keep, .keep] _ _ _ rfl ?_ rfl ?_
      · show _ ≤ _
        simp; omega
      refine acall_arg (less_any G (ys.take (n + 1)) (2 * i1 + 1 + 1) i1 (fun p h => hsame.okw p (List.mem_of_mem_take h)) (by simp; omega) (by simp; omega) _ ?_) rfl
      refine ⟨rfl, ?_⟩
      rw [hk_take _ (show 2 * i1 + 1 + 1 < n + 1 by omega), hk_take _ (show i1 < n + 1 by omega)]
      (repeat' (first | exact trivial | exact fun h => h | refine And.intro ?_ ?_ | (intro hb; try simp at hb) | omega | exact rfl | exact Nat.le_refl _ | (show _ + 1 ≤ 4294967296; omega) | (dsimp only; omega) | (show (_ : Int) ≤ (_ : Int); omega) | (show _ < List.length _; simp only [List.length_set, List.length_append, List.length_take]; omega) | (show wantB _ _ = true; simp <;> omega) | (show (_ : Bool) = _; simp_all; done) | (exfalso; omega) | refine aRegion_auto (by decide +kernel) ?_ | fail))
      · refine ⟨_, _, REnt.refl _ _ _, ?_⟩
        exact hK ys _ hsame (hd.done (fun k k1 k2 k3 => Int.le_trans (by omega) (hm k k1 k2 k3)))
      · refine ainv_ptr mSwap rfl trivial ?_
        refine acall_frame [1] [.row WT ys] [.ref 0 0 (n + 1), .fz int i1, .fz int (2 * i1 + 1 + 1 : Nat)] rfl ⟨⟨rfl, trivial⟩, trivial⟩ ⟨rfl, rfl⟩ rfl (swap_any G ys (n + 1) i1 (2 * i1 + 1 + 1) (by omega) (by omega) (by omega) _ ?_)
        (repeat' (first | exact trivial | exact fun h => h | refine And.intro ?_ ?_ | (intro hb; try simp at hb) | omega | exact rfl | exact Nat.le_refl _ | (show _ + 1 ≤ 4294967296; omega) | (dsimp only; omega) | (show (_ : Int) ≤ (_ : Int); omega) | (show _ < List.length _; simp only [List.length_set, List.length_append, List.length_take]; omega) | (show wantB _ _ = true; simp <;> omega) | (show (_ : Bool) = _; simp_all; done) | (exfalso; omega) | refine aRegion_auto (by decide +kernel) ?_ | fail))
        refine ⟨(sw ys i1 (2 * i1 + 1 + 1), 2 * i1 + 1 + 1), ⟨hd.step (by omega) (by omega) (by omega) hm hb, hsame.step (by omega) (by omega) (by omega), by show 2 * i1 + 1 + 1 ≤ n + i; omega⟩, by show n + i - (2 * i1 + 1 + 1) < n + i - i1; omega, Ent.sub rfl ?_⟩
        (repeat' (first | exact trivial | exact rfl | refine And.intro ?_ ?_))

    · have hb2 : hk ys (2 * i1 + 1) ≤ hk ys (2 * i1 + 1 + 1) := by
        exact hb (by omega)
      have hm : ∀ k, 0 < k → k < n → (k - 1) / 2 = i1 → hk ys (2 * i1 + 1) ≤ hk ys k := by
        intro k k1 k2 k3
        obtain rfl | rfl : k = 2 * i1 + 1 ∨ k = 2 * i1 + 2 := by omega
        all_goals first | exact Int.le_refl _ | exact hb2
      refine ainv_ptr mLess rfl trivial ?_
      refine acall_lend [.dat (.list WT), .keep, .keep] _ _ _ rfl ?_ rfl ?_
      · show _ ≤ _
        simp; omega
      refine acall_arg (less_any G (ys.take (n + 1)) (2 * i1 + 1) i1 (fun p h => hsame.okw p (List.mem_of_mem_take h)) (by simp; omega) (by simp; omega) _ ?_) rfl
      refine ⟨rfl, ?_⟩
      rw [hk_take _ (show 2 * i1 + 1 < n + 1 by omega), hk_take _ (show i1 < n + 1 by omega)]
      (repeat' (first | exact trivial | exact fun h => h | refine And.intro ?_ ?_ | (intro hb; try simp at hb) | omega | exact rfl | exact Nat.le_refl _ | (show _ + 1 ≤ 4294967296; omega) | (dsimp only; omega) | (show (_ : Int) ≤ (_ : Int); omega) | (show _ < List.length _; simp only [List.length_set, List.length_append, List.length_take]; omega) | (show wantB _ _ = true; simp <;> omega) | (show (_ : Bool) = _; simp_all; done) | (exfalso; omega) | refine aRegion_auto (by decide +kernel) ?_ | fail))
      · refine ⟨_, _, REnt.refl _ _ _, ?_⟩
        exact hK ys _ hsame (hd.done (fun k k1 k2 k3 => Int.le_trans (by omega) (hm k k1 k2 k3)))
      · refine ainv_ptr mSwap rfl trivial ?_
        refine acall_frame [1] [.row WT ys] [.ref 0 0 (n + 1), .fz int i1, .fz int (2 * i1 + 1 : Nat)] rfl ⟨⟨rfl, trivial⟩, trivial⟩ ⟨rfl, rfl⟩ rfl (swap_any G ys (n + 1) i1 (2 * i1 + 1) (by omega) (by omega) (by omega) _ ?_)
        (repeat' (first | exact trivial | exact fun h => h | refine And.intro ?_ ?_ | (intro hb; try simp at hb) | omega | exact rfl | exact Nat.le_refl _ | (show _ + 1 ≤ 4294967296; omega) | (dsimp only; omega) | (show (_ : Int) ≤ (_ : Int); omega) | (show _ < List.length _; simp only [List.length_set, List.length_append, List.length_take]; omega) | (show wantB _ _ = true; simp <;> omega) | (show (_ : Bool) = _; simp_all; done) | (exfalso; omega) | refine aRegion_auto (by decide +kernel) ?_ | fail))
        refine ⟨(sw ys i1 (2 * i1 + 1), 2 * i1 + 1), ⟨hd.step (by omega) (by omega) (by omega) hm hb, hsame.step (by omega) (by omega) (by omega), by show 2 * i1 + 1 ≤ n + i; omega⟩, by show n + i - (2 * i1 + 1) < n + i - i1; omega, Ent.sub rfl ?_⟩
        (repeat' (first | exact trivial | exact rfl | refine And.intro ?_ ?_))

  · have hm : ∀ k, 0 < k → k < n → (k - 1) / 2 = i1 → hk ys (2 * i1 + 1) ≤ hk ys k := by
      intro k k1 k2 k3
      obtain rfl | rfl : k = 2 * i1 + 1 ∨ k = 2 * i1 + 2 := by omega
      all_goals first | exact Int.le_refl _ | omega
    refine ainv_ptr mLess rfl trivial ?_
    refine acall_lend [.dat (.list WT), .keep, .keep] _ _ _ rfl ?_ rfl ?_
    · show _ ≤ _
      simp; omega
    refine acall_arg (less_any G (ys.take (n + 1)) (2 * i1 + 1) i1 (fun p h => hsame.okw p (List.mem_of_mem_take h)) (by simp; omega) (by simp; omega) _ ?_) rfl
    refine ⟨rfl, ?_⟩
    rw [hk_take _ (show 2 * i1 + 1 < n + 1 by omega), hk_take _ (show i1 < n + 1 by omega)]
    (repeat' (first | exact trivial | exact fun h => h | refine And.intro ?_ ?_ | (intro hb; try simp at hb) | omega | exact rfl | exact Nat.le_refl _ | (show _ + 1 ≤ 4294967296; omega) | (dsimp only; omega) | (show (_ : Int) ≤ (_ : Int); omega) | (show _ < List.length _; simp only [List.length_set, List.length_append, List.length_take]; omega) | (show wantB _ _ = true; simp <;> omega) | (show (_ : Bool) = _; simp_all; done) | (exfalso; omega) | refine aRegion_auto (by decide +kernel) ?_ | fail))
    · refine ⟨_, _, REnt.refl _ _ _, ?_⟩
      exact hK ys _ hsame (hd.done (fun k k1 k2 k3 => Int.le_trans (by omega) (hm k k1 k2 k3)))
    · refine ainv_ptr mSwap rfl trivial ?_
      refine acall_frame [1] [.row WT ys] [.ref 0 0 (n + 1), .fz int i1, .fz int (2 * i1 + 1 : Nat)] rfl ⟨⟨rfl, trivial⟩, trivial⟩ ⟨rfl, rfl⟩ rfl (swap_any G ys (n + 1) i1 (2 * i1 + 1) (by omega) (by omega) (by omega) _ ?_)
      (repeat' (first | exact trivial | exact fun h => h | refine And.intro ?_ ?_ | (intro hb; try simp at hb) | omega | exact rfl | exact Nat.le_refl _ | (show _ + 1 ≤ 4294967296; omega) | (dsimp only; omega) | (show (_ : Int) ≤ (_ : Int); omega) | (show _ < List.length _; simp only [List.length_set, List.length_append, List.length_take]; omega) | (show wantB _ _ = true; simp <;> omega) | (show (_ : Bool) = _; simp_all; done) | (exfalso; omega) | refine aRegion_auto (by decide +kernel) ?_ | fail))
      refine ⟨(sw ys i1 (2 * i1 + 1), 2 * i1 + 1), ⟨hd.step (by omega) (by omega) (by omega) hm hb, hsame.step (by omega) (by omega) (by omega), by show 2 * i1 + 1 ≤ n + i; omega⟩, by show n + i - (2 * i1 + 1) < n + i - i1; omega, Ent.sub rfl ?_⟩
      (repeat' (first | exact trivial | exact rfl | refine And.intro ?_ ?_))
end Go.Proofs.YtgjjooophigkoaaGreatDoor
/-
  A heap of what waits: one more, the next one.
-/
namespace Go.Proofs.YtgjjooophigkoaaGreatDoor
open Go Go.Ab
set_option maxRecDepth 100000
abbrev agW (p : P2) : AV := .ifc 257 (.agg [.fz int p.1, .fz int p.2])
abbrev hB (n : Nat) (xs : List P2) : List AO := [.box [.ref 2 0 n], .dead, .row WT xs]
theorem len_any (G : List (Nat × Value)) (n : Nat) (xs : List P2) (K : AV → List AO → Prop) (hK : K (.fz int n) [.row WT xs]) :
    ACall Tryz.prog G 253 [.ref 0 0 n] [.row WT xs] K := by
  refine acall_mk (E := envAt G 5 1) (envOk _ _ _) Tryz.func253 rfl rfl rfl rfl rfl ?_
  (repeat' (first | exact trivial | exact fun h => h | refine And.intro ?_ ?_ | (intro hb; try simp at hb) | omega | exact rfl | exact Nat.le_refl _ | (show _ + 1 ≤ 4294967296; omega) | (dsimp only; omega) | (show (_ : Int) ≤ (_ : Int); omega) | (show _ < List.length _; simp only [List.length_set, List.length_append, List.length_take]; omega) | (show wantB _ _ = true; simp <;> omega) | (show (_ : Bool) = _; simp_all; done) | (exfalso; omega) | refine aRegion_auto (by decide +kernel) ?_ | fail))
  refine ⟨_, _, REnt.refl _ _ _, ?_⟩
  exact hK
theorem pushM_any (G : List (Nat × Value)) (xs : List P2) (n : Nat) (p : P2) (hs : n ≤ 1000000000) (hn : n ≤ xs.length) (K : AV → List AO → Prop) (hK : K (.tup []) (hB (n + 1) (xs.take n ++ [p]))) :
    ACall Tryz.prog G 257 [.ptr 0 0, agW p] (hA n xs) K := by
  refine acall_mk (E := envAt G 13 2) (envOk _ _ _) Tryz.func257 rfl rfl rfl rfl rfl ?_
  (repeat' (first | exact trivial | exact fun h => h | refine And.intro ?_ ?_ | (intro hb; try simp at hb) | omega | exact rfl | exact Nat.le_refl _ | (show _ + 1 ≤ 4294967296; omega) | (dsimp only; omega) | (show (_ : Int) ≤ (_ : Int); omega) | (show _ < List.length _; simp only [List.length_set, List.length_append, List.length_take]; omega) | (show wantB _ _ = true; simp <;> omega) | (show (_ : Bool) = _; simp_all; done) | (exfalso; omega) | refine aRegion_auto (by decide +kernel) ?_ | fail))
  (apply exEff; focus (repeat' (first | exact ⟨rfl, rfl⟩ | exact trivial | refine And.intro ?_ ?_ | omega | exact Nat.le_refl _ | (show _ + 1 ≤ 4294967296; omega))))
  (repeat' (first | exact trivial | exact fun h => h | refine And.intro ?_ ?_ | (intro hb; try simp at hb) | omega | exact rfl | exact Nat.le_refl _ | (show _ + 1 ≤ 4294967296; omega) | (dsimp only; omega) | (show (_ : Int) ≤ (_ : Int); omega) | (show _ < List.length _; simp only [List.length_set, List.length_append, List.length_take]; omega) | (show wantB _ _ = true; simp <;> omega) | (show (_ : Bool) = _; simp_all; done) | (exfalso; omega) | refine aRegion_auto (by decide +kernel) ?_ | fail))
  (apply exEff; focus (repeat' (first | exact ⟨rfl, rfl⟩ | exact trivial | refine And.intro ?_ ?_ | omega | exact Nat.le_refl _ | (show _ + 1 ≤ 4294967296; omega))))
  (repeat' (first | exact trivial | exact fun h => h | refine And.intro ?_ ?_ | (intro hb; try simp at hb) | omega | exact rfl | exact Nat.le_refl _ | (show _ + 1 ≤ 4294967296; omega) | (dsimp only; omega) | (show (_ : Int) ≤ (_ : Int); omega) | (show _ < List.length _; simp only [List.length_set, List.length_append, List.length_take]; omega) | (show wantB _ _ = true; simp <;> omega) | (show (_ : Bool) = _; simp_all; done) | (exfalso; omega) | refine aRegion_auto (by decide +kernel) ?_ | fail))
  (apply exEff; focus (repeat' (first | exact ⟨rfl, rfl⟩ | exact trivial | refine And.intro ?_ ?_ | omega | exact Nat.le_refl _ | (show _ + 1 ≤ 4294967296; omega))))
  (repeat' (first | exact trivial | exact fun h => h | refine And.intro ?_ ?_ | (intro hb; try simp at hb) | omega | exact rfl | exact Nat.le_refl _ | (show _ + 1 ≤ 4294967296; omega) | (dsimp only; omega) | (show (_ : Int) ≤ (_ : Int); omega) | (show _ < List.length _; simp only [List.length_set, List.length_append, List.length_take]; omega) | (show wantB _ _ = true; simp <;> omega) | (show (_ : Bool) = _; simp_all; done) | (exfalso; omega) | refine aRegion_auto (by decide +kernel) ?_ | fail))
  refine ⟨AV.tup [], hB (n + 1) (xs.take n ++ [p]), REnt.ren [0, 1, 3] rfl ?_ ?_, ?_⟩
  · (repeat' (first | exact trivial | exact rfl | refine And.intro ?_ ?_))
  · (repeat' (first | exact trivial | exact rfl | refine And.intro ?_ ?_))
  · exact hK
theorem popM_any (G : List (Nat × Value)) (xs : List P2) (n : Nat) (hs : n ≤ 1000000000) (hn : n + 1 ≤ xs.length) (K : AV → List AO → Prop) (hK : K (agW (at2 xs n)) (hA n xs)) :
    ACall Tryz.prog G 256 [.ptr 0 0] (hA (n + 1) xs) K := by
  refine acall_mk (E := envAt G 27 2) (envOk _ _ _) Tryz.func256 rfl rfl rfl rfl rfl ?_
  (repeat' (first | exact trivial | exact fun h => h | refine And.intro ?_ ?_ | (intro hb; try simp at hb) | omega | exact rfl | exact Nat.le_refl _ | (show _ + 1 ≤ 4294967296; omega) | (dsimp only; omega) | (show (_ : Int) ≤ (_ : Int); omega) | (show _ < List.length _; simp only [List.length_set, List.length_append, List.length_take]; omega) | (show wantB _ _ = true; simp <;> omega) | (show (_ : Bool) = _; simp_all; done) | (exfalso; omega) | refine aRegion_auto (by decide +kernel) ?_ | fail))
  (apply exEff; focus (repeat' (first | exact ⟨rfl, rfl⟩ | exact trivial | refine And.intro ?_ ?_ | omega | exact Nat.le_refl _ | (show _ + 1 ≤ 4294967296; omega))))
  (repeat' (first | exact trivial | exact fun h => h | refine And.intro ?_ ?_ | (intro hb; try simp at hb) | omega | exact rfl | exact Nat.le_refl _ | (show _ + 1 ≤ 4294967296; omega) | (dsimp only; omega) | (show (_ : Int) ≤ (_ : Int); omega) | (show _ < List.length _; simp only [List.length_set, List.length_append, List.length_take]; omega) | (show wantB _ _ = true; simp <;> omega) | (show (_ : Bool) = _; simp_all; done) | (exfalso; omega) | refine aRegion_auto (by decide +kernel) ?_ | fail))
  (apply exEff; focus (repeat' (first | exact ⟨rfl, rfl⟩ | exact trivial | refine And.intro ?_ ?_ | omega | exact Nat.le_refl _ | (show _ + 1 ≤ 4294967296; omega))))
  (repeat' (first | exact trivial | exact fun h => h | refine And.intro ?_ ?_ | (intro hb; try simp at hb) | omega | exact rfl | exact Nat.le_refl _ | (show _ + 1 ≤ 4294967296; omega) | (dsimp only; omega) | (show (_ : Int) ≤ (_ : Int); omega) | (show _ < List.length _; simp only [List.length_set, List.length_append, List.length_take]; omega) | (show wantB _ _ = true; simp <;> omega) | (show (_ : Bool) = _; simp_all; done) | (exfalso; omega) | refine aRegion_auto (by decide +kernel) ?_ | fail))
  (apply exEff; focus (repeat' (first | exact ⟨rfl, rfl⟩ | exact trivial | refine And.intro ?_ ?_ | omega | exact Nat.le_refl _ | (show _ + 1 ≤ 4294967296; omega))))
  (repeat' (first | exact trivial | exact fun h => h | refine And.intro ?_ ?_ | (intro hb; try simp at hb) | omega | exact rfl | exact Nat.le_refl _ | (show _ + 1 ≤ 4294967296; omega) | (dsimp only; omega) | (show (_ : Int) ≤ (_ : Int); omega) | (show _ < List.length _; simp only [List.length_set, List.length_append, List.length_take]; omega) | (show wantB _ _ = true; simp <;> omega) | (show (_ : Bool) = _; simp_all; done) | (exfalso; omega) | refine aRegion_auto (by decide +kernel) ?_ | fail))
  refine ⟨agW (at2 xs n), hA n xs, REnt.ren [0, 1] rfl ?_ ?_, ?_⟩
  · (repeat' (first | exact trivial | exact rfl | refine And.intro ?_ ?_))
    exact congrArg (fun z => some (AO.box [AV.ref 1 0 z])) (show (((n + 1 : Nat) : Int) - 1).toNat - 0 = n by omega)
  · (repeat' (first | exact trivial | exact rfl | refine And.intro ?_ ?_))
    exact congrArg (fun z => AV.ifc 257 (.agg [.fz int (xs.getD z WT.dft).1, .fz int (xs.getD z WT.dft).2])) (show 0 + (((n + 1 : Nat) : Int) - 1).toNat = n by omega)
  · exact hK
theorem heapPush_any (G : List (Nat × Value)) (xs : List P2) (n : Nat) (p : P2) (hs : n ≤ 100000000) (hn : n ≤ xs.length) (h : HeapB n xs) (ha : AllW xs) (hp : okW p) (K : AV → List AO → Prop)
    (hK : ∀ ys, ys.length = n + 1 → ys.Perm (xs.take n ++ [p]) → HeapB (n + 1) ys → AllW ys → K (.tup []) (hB (n + 1) ys)) :
    ACall Tryz.prog G 176 [hI, agW p] (hA n xs) K := by
  refine acall_mk (E := envAt G 12 2) (envOk _ _ _) Tryz.func176 rfl rfl rfl rfl rfl ?_
  (repeat' (first | exact trivial | exact fun h => h | refine And.intro ?_ ?_ | (intro hb; try simp at hb) | omega | exact rfl | exact Nat.le_refl _ | (show _ + 1 ≤ 4294967296; omega) | (dsimp only; omega) | (show (_ : Int) ≤ (_ : Int); omega) | (show _ < List.length _; simp only [List.length_set, List.length_append, List.length_take]; omega) | (show wantB _ _ = true; simp <;> omega) | (show (_ : Bool) = _; simp_all; done) | (exfalso; omega) | refine aRegion_auto (by decide +kernel) ?_ | fail))
  refine ainv_ok mPush (pushM_any G xs n p (by omega) hn _ ?_)
  (repeat' (first | exact trivial | exact fun h => h | refine And.intro ?_ ?_ | (intro hb; try simp at hb) | omega | exact rfl | exact Nat.le_refl _ | (show _ + 1 ≤ 4294967296; omega) | (dsimp only; omega) | (show (_ : Int) ≤ (_ : Int); omega) | (show _ < List.length _; simp only [List.length_set, List.length_append, List.length_take]; omega) | (show wantB _ _ = true; simp <;> omega) | (show (_ : Bool) = _; simp_all; done) | (exfalso; omega) | refine aRegion_auto (by decide +kernel) ?_ | fail))
  refine ainv_ptr mLen rfl trivial ?_
  refine acall_frame [2] [.row WT (xs.take n ++ [p])] [.ref 0 0 (n + 1)] rfl ⟨⟨rfl, trivial⟩, trivial⟩ ⟨rfl, rfl⟩ rfl (len_any G (n + 1) _ _ ?_)
  (repeat' (first | exact trivial | exact fun h => h | refine And.intro ?_ ?_ | (intro hb; try simp at hb) | omega | exact rfl | exact Nat.le_refl _ | (show _ + 1 ≤ 4294967296; omega) | (dsimp only; omega) | (show (_ : Int) ≤ (_ : Int); omega) | (show _ < List.length _; simp only [List.length_set, List.length_append, List.length_take]; omega) | (show wantB _ _ = true; simp <;> omega) | (show (_ : Bool) = _; simp_all; done) | (exfalso; omega) | refine aRegion_auto (by decide +kernel) ?_ | fail))
  · exact (show -9223372036854775808 ≤ ((n + 1 : Nat) : Int) - 1 by omega)
  · exact (show ((n + 1 : Nat) : Int) - 1 ≤ 9223372036854775807 by omega)
  have hu := up_start h hn p
  refine acall_frame [0, 2] (hA (n + 1) (xs.take n ++ [p])) [hI, .fz int n] ?_ ?_ ?_ ?_ (up_any G _ (n + 1) n (by omega) hu ?_ _ fun ys hsame hh => ?_)
  · rfl
  · exact ⟨⟨rfl, rfl⟩, ⟨rfl, trivial⟩, trivial⟩
  · exact ⟨rfl, rfl⟩
  · exact congrArg (fun z => [hI, AV.fz int z]) (show ((n + 1 : Nat) : Int) - 1 = n by omega)
  · intro q hq
    rcases List.mem_append.1 hq with hq | hq
    · exact ha q (List.mem_of_mem_take hq)
    · simp at hq; subst hq; exact hp
  (repeat' (first | exact trivial | exact fun h => h | refine And.intro ?_ ?_ | (intro hb; try simp at hb) | omega | exact rfl | exact Nat.le_refl _ | (show _ + 1 ≤ 4294967296; omega) | (dsimp only; omega) | (show (_ : Int) ≤ (_ : Int); omega) | (show _ < List.length _; simp only [List.length_set, List.length_append, List.length_take]; omega) | (show wantB _ _ = true; simp <;> omega) | (show (_ : Bool) = _; simp_all; done) | (exfalso; omega) | refine aRegion_auto (by decide +kernel) ?_ | fail))
  have hl : (xs.take n ++ [p]).length = n + 1 := by simp; omega
  have h1 := hsame.perm
  rw [List.take_of_length_le (by rw [hsame.len]; omega), List.take_of_length_le (by omega)] at h1
  refine ⟨AV.tup [], hB (n + 1) ys, REnt.ren [0, 1, 2] rfl ?_ ?_, ?_⟩
  · (repeat' (first | exact trivial | exact rfl | refine And.intro ?_ ?_))
  · (repeat' (first | exact trivial | exact rfl | refine And.intro ?_ ?_))
  · exact hK ys (by rw [hsame.len]; exact hl) h1 hh hsame.okw
theorem heapPop_any (G : List (Nat × Value)) (xs : List P2) (n : Nat) (hs : n ≤ 100000000) (hn : n + 1 ≤ xs.length) (h : HeapB (n + 1) xs) (ha : AllW xs) (K : AV → List AO → Prop)
    (hK : ∀ ys, ys.length = xs.length → (ys.take (n + 1)).Perm (xs.take (n + 1)) → HeapB n ys → AllW ys → (∀ k, k < n → hk ys n ≤ hk ys k) → K (agW (at2 ys n)) (hA n ys)) :
    ACall Tryz.prog G 177 [hI] (hA (n + 1) xs) K := by
  refine acall_mk (E := envAt G 15 2) (envOk _ _ _) Tryz.func177 rfl rfl rfl rfl rfl ?_
  (repeat' (first | exact trivial | exact fun h => h | refine And.intro ?_ ?_ | (intro hb; try simp at hb) | omega | exact rfl | exact Nat.le_refl _ | (show _ + 1 ≤ 4294967296; omega) | (dsimp only; omega) | (show (_ : Int) ≤ (_ : Int); omega) | (show _ < List.length _; simp only [List.length_set, List.length_append, List.length_take]; omega) | (show wantB _ _ = true; simp <;> omega) | (show (_ : Bool) = _; simp_all; done) | (exfalso; omega) | refine aRegion_auto (by decide +kernel) ?_ | fail))
  refine ainv_ptr mLen rfl trivial ?_
  refine acall_frame [1] [.row WT xs] [.ref 0 0 (n + 1)] rfl ⟨⟨rfl, trivial⟩, trivial⟩ ⟨rfl, rfl⟩ rfl (len_any G (n + 1) _ _ ?_)
  (repeat' (first | exact trivial | exact fun h => h | refine And.intro ?_ ?_ | (intro hb; try simp at hb) | omega | exact rfl | exact Nat.le_refl _ | (show _ + 1 ≤ 4294967296; omega) | (dsimp only; omega) | (show (_ : Int) ≤ (_ : Int); omega) | (show _ < List.length _; simp only [List.length_set, List.length_append, List.length_take]; omega) | (show wantB _ _ = true; simp <;> omega) | (show (_ : Bool) = _; simp_all; done) | (exfalso; omega) | refine aRegion_auto (by decide +kernel) ?_ | fail))
  · exact (show -9223372036854775808 ≤ ((n + 1 : Nat) : Int) - 1 by omega)
  · exact (show ((n + 1 : Nat) : Int) - 1 ≤ 9223372036854775807 by omega)
  refine ainv_ptr mSwap rfl trivial ?_
  refine acall_frame [1] [.row WT xs] [.ref 0 0 (n + 1), .fz int ((0 : Nat) : Int), .fz int (n : Nat)] rfl ⟨⟨rfl, trivial⟩, trivial⟩ ⟨rfl, rfl⟩ ?_ (swap_any G xs (n + 1) 0 n hn (by omega) (by omega) _ ?_)
  · exact congrArg (fun z => [AV.ref 1 0 (n + 1), AV.fz int 0, AV.fz int z]) (show ((n + 1 : Nat) : Int) - 1 = n by omega)
  (repeat' (first | exact trivial | exact fun h => h | refine And.intro ?_ ?_ | (intro hb; try simp at hb) | omega | exact rfl | exact Nat.le_refl _ | (show _ + 1 ≤ 4294967296; omega) | (dsimp only; omega) | (show (_ : Int) ≤ (_ : Int); omega) | (show _ < List.length _; simp only [List.length_set, List.length_append, List.length_take]; omega) | (show wantB _ _ = true; simp <;> omega) | (show (_ : Bool) = _; simp_all; done) | (exfalso; omega) | refine aRegion_auto (by decide +kernel) ?_ | fail))
  obtain ⟨hd, hmin⟩ := dn_start h hn
  have hsw : Same (n + 1) xs (sw xs 0 n) := (Same.refl ha).step (by omega) (by omega) (by omega)
  refine acall_frame [0, 1] (hA (n + 1) (sw xs 0 n)) [hI, .fz int ((0 : Nat) : Int), .fz int n] rfl ⟨⟨rfl, rfl⟩, ⟨rfl, trivial⟩, trivial⟩ ⟨rfl, rfl⟩ ?_ (down_any G _ n 0 (by omega) (by omega) (by rw [sw_len]; exact hn) hd hsw.okw _ fun ys b hsame hh => ?_)
  · exact congrArg (fun z => [hI, AV.fz int 0, AV.fz int z]) (show ((n + 1 : Nat) : Int) - 1 = n by omega)
  (repeat' (first | exact trivial | exact fun h => h | refine And.intro ?_ ?_ | (intro hb; try simp at hb) | omega | exact rfl | exact Nat.le_refl _ | (show _ + 1 ≤ 4294967296; omega) | (dsimp only; omega) | (show (_ : Int) ≤ (_ : Int); omega) | (show _ < List.length _; simp only [List.length_set, List.length_append, List.length_take]; omega) | (show wantB _ _ = true; simp <;> omega) | (show (_ : Bool) = _; simp_all; done) | (exfalso; omega) | refine aRegion_auto (by decide +kernel) ?_ | fail))
  refine ainv_ok mPop ?_
  refine acall_frame [0, 1] (hA (n + 1) ys) [.ptr 0 0] rfl ⟨⟨rfl, rfl⟩, ⟨rfl, trivial⟩, trivial⟩ ⟨rfl, rfl⟩ rfl (popM_any G ys n (by omega) (by rw [hsame.len, sw_len]; exact hn) _ ?_)
  (repeat' (first | exact trivial | exact fun h => h | refine And.intro ?_ ?_ | (intro hb; try simp at hb) | omega | exact rfl | exact Nat.le_refl _ | (show _ + 1 ≤ 4294967296; omega) | (dsimp only; omega) | (show (_ : Int) ≤ (_ : Int); omega) | (show _ < List.length _; simp only [List.length_set, List.length_append, List.length_take]; omega) | (show wantB _ _ = true; simp <;> omega) | (show (_ : Bool) = _; simp_all; done) | (exfalso; omega) | refine aRegion_auto (by decide +kernel) ?_ | fail))
  refine ⟨agW (at2 ys n), hA n ys, REnt.ren [0, 1] rfl ?_ ?_, ?_⟩
  · (repeat' (first | exact trivial | exact rfl | refine And.intro ?_ ?_))
  · (repeat' (first | exact trivial | exact rfl | refine And.intro ?_ ?_))
  · have hl := hsame.len
    rw [sw_len] at hl
    have hr := hsame.rest n (Nat.le_refl _)
    have tk : ∀ zs : List P2, n + 1 ≤ zs.length → zs.take (n + 1) = zs.take n ++ [at2 zs n] := fun zs hz => by
      rw [List.take_succ_eq_append_getElem (by omega)]
      simp [at2, List.getD, show n < zs.length by omega]
    have hp : (ys.take (n + 1)).Perm ((sw xs 0 n).take (n + 1)) := by
      rw [tk _ (by omega), tk _ (by rw [sw_len]; omega), hr]
      exact hsame.perm.append_right _
    refine hK ys hl (hp.trans hsw.perm) hh hsame.okw fun k hk' => ?_
    have h2 : hk ys n = hk (sw xs 0 n) n := by unfold hk; rw [hr]
    rw [h2]
    have h3 : at2 ys k ∈ (sw xs 0 n).take n := hsame.perm.mem_iff.1 (by
      have : at2 ys k = (ys.take n)[k]'(by simp; omega) := by simp [at2, List.getD, show k < ys.length by omega]
      rw [this]; exact List.getElem_mem _)
    obtain ⟨j, hj, he⟩ := List.getElem_of_mem h3
    simp at hj
    have h4 : at2 (sw xs 0 n) j = at2 ys k := by
      rw [← he]; simp [at2, List.getD, show j < (sw xs 0 n).length by omega]
    have h5 := hmin j (by omega)
    have h6 : hk ys k = hk (sw xs 0 n) j := by unfold hk; rw [h4]
    rw [h6]; exact h5
end Go.Proofs.YtgjjooophigkoaaGreatDoor
/-
  Neighbours and what touches; what waits, as a list; ways.
-/
namespace Go.Proofs.YtgjjooophigkoaaGreatDoor
open Go Go.Ab
set_option maxRecDepth 100000
/-! ### neighbours -/
theorem nb_cell {w h i way n : Nat} (_hi : i < w * h) (hn : nbN w h i way = some n) : n < w * h ∧ ((n % w : Nat) : Int) = ((i % w : Nat) : Int) + dX way ∧ ((n / w : Nat) : Int) = ((i / w : Nat) : Int) + dY way := by
  unfold nbN at hn
  split at hn
  · rename_i hc
    cases hn
    generalize hcx : ((i % w : Nat) : Int) + dX way = x at *
    generalize hry : ((i / w : Nat) : Int) + dY way = y at *
    obtain ⟨c, rfl⟩ : ∃ c : Nat, x = c := ⟨x.toNat, by omega⟩
    obtain ⟨r, rfl⟩ : ∃ r : Nat, y = r := ⟨y.toNat, by omega⟩
    have e : ((r : Int) * (w : Int) + (c : Int)).toNat = r * w + c := by
      rw [← Int.natCast_mul, ← Int.natCast_add]; rfl
    rw [e]
    have d := dm (w := w) (q := r) (c := c) (by omega)
    rw [Nat.mul_comm r w]
    refine ⟨by rw [Nat.mul_comm w r]; exact cell_lt (by omega) (by omega), by rw [d.2], by rw [d.1]⟩
  · cases hn
theorem nb_touch {w h i way n : Nat} (hi : i < w * h) (hw : way < 8) (hn : nbN w h i way = some n) : touchN w i n := by
  obtain ⟨_, h1, h2⟩ := nb_cell hi hn
  unfold touchN
  have hd : (-1 ≤ dX way ∧ dX way ≤ 1) ∧ (-1 ≤ dY way ∧ dY way ≤ 1) ∧ ¬ (dX way = 0 ∧ dY way = 0) := by
    obtain rfl | rfl | rfl | rfl | rfl | rfl | rfl | rfl : way = 0 ∨ way = 1 ∨ way = 2 ∨ way = 3 ∨ way = 4 ∨ way = 5 ∨ way = 6 ∨ way = 7 := by omega
    all_goals (simp only [dX, dY]; omega)
  refine ⟨fun e => ?_, by omega, by omega⟩
  rw [← e] at h1 h2
  omega
theorem touch_nb {w h i n : Nat} (hi : i < w * h) (hn : n < w * h) (ht : touchN w i n) : ∃ way, way < 8 ∧ nbN w h i way = some n := by
  obtain ⟨c1, c2⟩ := cell_bd hi
  obtain ⟨d1, d2⟩ := cell_bd hn
  have e : n = n / w * w + n % w := by rw [Nat.mul_comm]; exact (Nat.div_add_mod n w).symm
  have ei : i = i / w * w + i % w := by rw [Nat.mul_comm]; exact (Nat.div_add_mod i w).symm
  have key : ∀ way, ((n % w : Nat) : Int) = ((i % w : Nat) : Int) + dX way → ((n / w : Nat) : Int) = ((i / w : Nat) : Int) + dY way → nbN w h i way = some n := fun way h1 h2 => by
    unfold nbN
    rw [← h1, ← h2, if_pos ⟨Int.natCast_nonneg _, Int.natCast_nonneg _, Int.ofNat_lt.2 d1, Int.ofNat_lt.2 d2⟩]
    congr 1
    rw [← Int.natCast_mul, ← Int.natCast_add]
    exact e.symm
  obtain ⟨t0, t1, t2⟩ := ht
  have tn : ¬ (n % w = i % w ∧ n / w = i / w) := fun h => t0 (by rw [ei, e, h.1, h.2])
  clear ei
  generalize n % w = a at *
  generalize n / w = b at *
  generalize i % w = c at *
  generalize i / w = d at *
  have k0 := key 0
  have k1 := key 1
  have k2 := key 2
  have k3 := key 3
  have k4 := key 4
  have k5 := key 5
  have k6 := key 6
  have k7 := key 7
  simp only [dX, dY] at k0 k1 k2 k3 k4 k5 k6 k7
  obtain g | g | g : a = c ∨ a = c + 1 ∨ a + 1 = c := by omega
  all_goals obtain g2 | g2 | g2 : b = d ∨ b = d + 1 ∨ b + 1 = d := by omega
  · omega
  · exact ⟨6, by omega, k6 (by omega) (by omega)⟩
  · exact ⟨2, by omega, k2 (by omega) (by omega)⟩
  · exact ⟨0, by omega, k0 (by omega) (by omega)⟩
  · exact ⟨7, by omega, k7 (by omega) (by omega)⟩
  · exact ⟨1, by omega, k1 (by omega) (by omega)⟩
  · exact ⟨4, by omega, k4 (by omega) (by omega)⟩
  · exact ⟨5, by omega, k5 (by omega) (by omega)⟩
  · exact ⟨3, by omega, k3 (by omega) (by omega)⟩
theorem nb_inj {w h i n v u : Nat} (hi : i < w * h) (hv : v < 8) (hu : u < 8) (h1 : nbN w h i v = some n) (h2 : nbN w h i u = some n) : v = u := by
  obtain ⟨_, a1, a2⟩ := nb_cell hi h1
  obtain ⟨_, b1, b2⟩ := nb_cell hi h2
  have e1 : dX v = dX u := by omega
  have e2 : dY v = dY u := by omega
  obtain rfl | rfl | rfl | rfl | rfl | rfl | rfl | rfl : v = 0 ∨ v = 1 ∨ v = 2 ∨ v = 3 ∨ v = 4 ∨ v = 5 ∨ v = 6 ∨ v = 7 := by omega
  all_goals obtain rfl | rfl | rfl | rfl | rfl | rfl | rfl | rfl : u = 0 ∨ u = 1 ∨ u = 2 ∨ u = 3 ∨ u = 4 ∨ u = 5 ∨ u = 6 ∨ u = 7 := by omega
  all_goals first | rfl | (simp [dX, dY] at e1 e2)
/-! ### ways -/
/-- the way from a cell to another one, as the document tells it; x: columns to the east, y: rows to the north -/
def wayXY (x y : Int) : Int := if x = 1 then (if y = 0 then 0 else if y = 1 then 1 else 7) else if x = -1 then 4 - y else if y = 1 then 2 else if y = -1 then 6 else 8
def wayN (w i t : Nat) : Int := wayXY (((t % w : Nat) : Int) - ((i % w : Nat) : Int)) (((i / w : Nat) : Int) - ((t / w : Nat) : Int))
theorem way_self (w i : Nat) : wayN w i i = 8 := by unfold wayN; rw [Int.sub_self, Int.sub_self]; rfl
theorem way_back {w h i way n : Nat} (hi : i < w * h) (hw : way < 8) (hn : nbN w h i way = some n) : wayN w n i = ((way : Int) + 4) % 8 := by
  obtain ⟨_, h1, h2⟩ := nb_cell hi hn
  unfold wayN
  have e1 : ((i % w : Nat) : Int) - ((n % w : Nat) : Int) = - dX way := by omega
  have e2 : ((n / w : Nat) : Int) - ((i / w : Nat) : Int) = dY way := by omega
  rw [e1, e2]
  obtain rfl | rfl | rfl | rfl | rfl | rfl | rfl | rfl : way = 0 ∨ way = 1 ∨ way = 2 ∨ way = 3 ∨ way = 4 ∨ way = 5 ∨ way = 6 ∨ way = 7 := by omega
  all_goals rfl
/-- along a way to what touches -/
theorem way_to {w h i t : Nat} (hi : i < w * h) (ht : t < w * h) (htc : touchN w i t) : ∃ way : Nat, way < 8 ∧ wayN w i t = (way : Int) ∧ nbN w h i way = some t := by
  obtain ⟨v, hv, hn⟩ := touch_nb hi ht htc
  obtain ⟨_, h1, h2⟩ := nb_cell hi hn
  refine ⟨v, hv, ?_, hn⟩
  unfold wayN
  have e1 : ((t % w : Nat) : Int) - ((i % w : Nat) : Int) = dX v := by omega
  have e2 : ((i / w : Nat) : Int) - ((t / w : Nat) : Int) = - dY v := by omega
  rw [e1, e2]
  obtain rfl | rfl | rfl | rfl | rfl | rfl | rfl | rfl : v = 0 ∨ v = 1 ∨ v = 2 ∨ v = 3 ∨ v = 4 ∨ v = 5 ∨ v = 6 ∨ v = 7 := by omega
  all_goals rfl
/-! ### what waits -/
def WL (n : Nat) (p : Nat → Bool) (f : Nat → Int) : List P2 := ((List.range n).filter p).map fun i => (f i, ((i : Nat) : Int))
theorem WL_succ (n : Nat) (p : Nat → Bool) (f : Nat → Int) : WL (n + 1) p f = WL n p f ++ (if p n then [(f n, ((n : Nat) : Int))] else []) := by
  unfold WL
  rw [List.range_succ, List.filter_append, List.map_append]
  congr 1
  by_cases h : p n = true <;> simp [h]
theorem WL_mem {n : Nat} {p : Nat → Bool} {f : Nat → Int} {x : P2} : x ∈ WL n p f ↔ ∃ i, i < n ∧ p i = true ∧ x = (f i, ((i : Nat) : Int)) := by
  unfold WL
  simp only [List.mem_map, List.mem_filter, List.mem_range]
  constructor
  · rintro ⟨i, ⟨h1, h2⟩, rfl⟩; exact ⟨i, h1, h2, rfl⟩
  · rintro ⟨i, h1, h2, rfl⟩; exact ⟨i, ⟨h1, h2⟩, rfl⟩
theorem WL_congr {n : Nat} {p p' : Nat → Bool} {f f' : Nat → Int} (hp : ∀ i, i < n → p i = p' i) (hf : ∀ i, i < n → p i = true → f i = f' i) : WL n p f = WL n p' f' := by
  induction n with
  | zero => rfl
  | succ n ih =>
    rw [WL_succ, WL_succ, ih (fun i hi => hp i (by omega)) (fun i hi => hf i (by omega)), hp n (by omega)]
    by_cases h : p' n = true
    · rw [if_pos h, if_pos h, hf n (by omega) (by rw [hp n (by omega)]; exact h)]
    · rw [if_neg h, if_neg h]
theorem WL_add {n i : Nat} {p p' : Nat → Bool} {f f' : Nat → Int} (hi : i < n) (h0 : p i = false) (h1 : p' i = true) (hp : ∀ j, j < n → j ≠ i → p' j = p j) (hf : ∀ j, j < n → j ≠ i → p j = true → f' j = f j) : (WL n p' f').Perm (WL n p f ++ [(f' i, ((i : Nat) : Int))]) := by
  induction n with
  | zero => omega
  | succ n ih =>
    rw [WL_succ, WL_succ]
    by_cases e : i = n
    · subst e
      rw [if_pos h1, if_neg (by rw [h0]; simp), List.append_nil]
      rw [WL_congr (p := p') (p' := p) (f := f') (f' := f) (fun j hj => hp j (by omega) (by omega)) (fun j hj hpj => hf j (by omega) (by omega) (by rw [← hp j (by omega) (by omega)]; exact hpj))]
    · have := ih (by omega) (fun j hj => hp j (by omega)) (fun j hj => hf j (by omega))
      refine (this.append_right _).trans ?_
      rw [List.append_assoc, List.append_assoc]
      refine List.Perm.append_left _ ?_
      rw [hp n (by omega) (fun h => e h.symm)]
      by_cases h : p n = true
      · rw [if_pos h, if_pos h, hf n (by omega) (fun h => e h.symm) h]
        exact List.Perm.swap _ _ _
      · rw [if_neg h, if_neg h]; exact List.Perm.refl _
theorem WL_len {n : Nat} {p : Nat → Bool} {f : Nat → Int} : (WL n p f).length ≤ n := by
  unfold WL
  rw [List.length_map]
  have := List.length_filter_le p (List.range n)
  simpa using this
end Go.Proofs.YtgjjooophigkoaaGreatDoor
/-
  The document's flood: the walk.
-/
namespace Go.Proofs.YtgjjooophigkoaaGreatDoor
open Go Go.Ab
set_option maxRecDepth 100000
/-! ### lists by their numbers -/
def natL (l : List Nat) : List Int := l.map fun i => ((i : Nat) : Int)
def lst (n : Nat) (f : Nat → Int) : List Int := (List.range n).map f
theorem lst_len (n : Nat) (f : Nat → Int) : (lst n f).length = n := by simp [lst]
theorem lst_at {n i : Nat} (f : Nat → Int) (h : i < n) : (lst n f).getD i 0 = f i := by simp [lst, List.getD, h]
theorem lst_congr {n : Nat} {f g : Nat → Int} (h : ∀ i, i < n → f i = g i) : lst n f = lst n g := List.map_congr_left fun i hi => h i (List.mem_range.1 hi)
theorem lst_set {n i : Nat} (f : Nat → Int) (v : Int) : List.set (lst n f) i v = lst n (fun j => if j = i then v else f j) := by
  refine List.ext_getElem (by simp [lst]) fun j h1 h2 => ?_
  simp only [lst, List.getElem_set, List.getElem_map, List.getElem_range]
  by_cases h : i = j
  · subst h; simp
  · rw [if_neg h, if_neg (Ne.symm h)]
theorem lst_zero (n : Nat) : List.replicate n (0 : Int) = lst n (fun _ => 0) := by
  refine List.ext_getElem (by simp [lst]) fun j h1 h2 => ?_
  simp [lst]
theorem lst_eq (xs : List Int) : xs = lst xs.length (fun i => xs.getD i 0) := by
  refine List.ext_getElem (by simp [lst]) fun j h1 h2 => ?_
  simp [lst, List.getD, h1]
theorem row_lst {n : Nat} {f g : Nat → Int} (h : ∀ i, i < n → f i = g i) : AO.row int (lst n f) = AO.row int (lst n g) := congrArg (AO.row int) (lst_congr h)
theorem row_set1 {n k : Nat} {f g : Nat → Int} {v : Int} (v' : Int) (hv : v = v') (h : ∀ i, i < n → (if i = k then v' else f i) = g i) : AO.row int (List.set (lst n f) (0 + Int.toNat (k : Int)) v) = AO.row int (lst n g) := by
  subst hv
  rw [Nat.zero_add, Int.toNat_natCast, lst_set]; exact row_lst h
theorem row_set2 {n k : Nat} {f g : Nat → Int} {u v : Int} (v' : Int) (hv : v = v') (h : ∀ i, i < n → (if i = k then v' else f i) = g i) : AO.row int (List.set (List.set (lst n f) (0 + Int.toNat (k : Int)) u) (0 + Int.toNat (k : Int)) v) = AO.row int (lst n g) := by
  rw [List.set_set]; exact row_set1 v' hv h
theorem lst_get {n i : Nat} (f : Nat → Int) (h : i < n) : (lst n f)[i]?.getD int.dft = f i := by simp [lst, h]
theorem natL_len (l : List Nat) : (natL l).length = l.length := by simp [natL]
abbrev FT : Ty := .pair (.list int) (.pair (.list int) (.list int))
/-- the heights of a raster's cells -/
abbrev hts (a : Ras) : Nat → Int := fun i => a.2.2.getD i 0
def toI (S : Fl) (i : Nat) : Int := if S.st i = 0 then -1 else (S.to i : Nat)
def stI (S : Fl) (i : Nat) : Int := (S.st i : Nat)
def bestI (S : Fl) (k : Nat) : Int := match bestK S k with
  | none => -1
  | some b => (b : Nat)
theorem bestI_succ (S : Fl) (m : Nat) : bestI S (m + 1) = match bestK S m with | none => if S.st m = 1 then (m : Int) else -1 | some b => if S.st m = 1 ∧ S.fill m < S.fill b then (m : Int) else (b : Nat) := by
  have e : bestK S (m + 1) = match bestK S m with | none => if S.st m = 1 then some m else none | some b => if S.st m = 1 ∧ S.fill m < S.fill b then some m else some b := rfl
  unfold bestI
  rw [e]
  cases bestK S m with
  | none => by_cases e : S.st m = 1 <;> simp [e]
  | some b => by_cases e : S.st m = 1 ∧ S.fill m < S.fill b <;> simp [e]
def T4 (w : Nat) (S : Fl) (b q i : Nat) : Int := if i < q ∧ touchN w b i ∧ S.st i = 0 then (b : Nat) else toI S i
def F4 (w : Nat) (L : Nat → Int) (S : Fl) (b q i : Nat) : Int := if i < q ∧ touchN w b i ∧ S.st i = 0 then max (L i) (S.fill b) else S.fill i
def S4 (w : Nat) (S : Fl) (b q i : Nat) : Int := if i = b then 2 else if i < q ∧ touchN w b i ∧ S.st i = 0 then 1 else stI S i
theorem T4_end {w n b : Nat} {L : Nat → Int} {S : Fl} (hw : ∀ i, i < n → (i < n ∧ touchN w b i ∧ S.st i = 0 ↔ touchN w b i ∧ S.st i = 0)) (hb : S.st b = 1) : lst n (T4 w S b n) = lst n (toI (flS w L S b)) := lst_congr fun i hi => by
  have e1 : (flS w L S b).st i = if i = b then 2 else if touchN w b i ∧ S.st i = 0 then 1 else S.st i := rfl
  have e2 : (flS w L S b).to i = if touchN w b i ∧ S.st i = 0 then b else S.to i := rfl
  unfold T4 toI
  simp only [hw i hi, e1, e2]
  by_cases c : touchN w b i ∧ S.st i = 0
  · have : i ≠ b := fun e => c.1.1 e.symm
    simp [c, this]
  · by_cases c2 : i = b
    · subst c2; simp [c, hb]
    · simp [c, c2]
theorem F4_end {w n b : Nat} {L : Nat → Int} {S : Fl} (hw : ∀ i, i < n → (i < n ∧ touchN w b i ∧ S.st i = 0 ↔ touchN w b i ∧ S.st i = 0)) : lst n (F4 w L S b n) = lst n (flS w L S b).fill := lst_congr fun i hi => by
  unfold F4
  simp only [hw i hi]
  rfl
theorem S4_end {w n b : Nat} {L : Nat → Int} {S : Fl} (hw : ∀ i, i < n → (i < n ∧ touchN w b i ∧ S.st i = 0 ↔ touchN w b i ∧ S.st i = 0)) : lst n (S4 w S b n) = lst n (stI (flS w L S b)) := lst_congr fun i hi => by
  have e1 : (flS w L S b).st i = if i = b then 2 else if touchN w b i ∧ S.st i = 0 then 1 else S.st i := rfl
  unfold S4 stI
  simp only [hw i hi, e1]
  by_cases c2 : i = b
  · simp [c2]
  · by_cases c : touchN w b i ∧ S.st i = 0 <;> simp [c, c2]
def fRes (w h : Nat) (a : Ras) : List Int × List Int × List Int := (lst (w * h) (flD w h (hts a)).fill, lst (w * h) (fun i => ((flD w h (hts a)).to i : Nat)), natL (flD w h (hts a)).ord)
def T1 (w h k i : Nat) : Int := if i < k then (if rimN w h i then (i : Int) else -1) else 0
def F1 (w h : Nat) (a : Ras) (k i : Nat) : Int := if i < k ∧ rimN w h i then hts a i else 0
def S1 (w h k i : Nat) : Int := if i < k ∧ rimN w h i then 1 else 0
set_option maxHeartbeats 4000000 in
theorem floodOf_any (G : List (Nat × Value)) (a : Ras) {w h : Nat} (R : RasN a w h) (K : AV → List AO → Prop) (hK : K (.fz FT (fRes w h a)) []) :
    ACall Tryz.prog G 25 [.fptr RasT a] [] K := by
  have hl := R.len
  have hwh := R.wh
  obtain ⟨n, hn⟩ : ∃ n, n = w * h := ⟨_, rfl⟩
  rw [← hn] at hl hwh
  let bz : AO := .box [.nilSl, .nilSl, .nilSl]
  let rm : AO := .room
  let Z : AO := .row int (List.replicate a.2.2.length 0)
  let B1 : AO := .box [.ref 3 0 a.2.2.length, .ref 1 0 a.2.2.length, .nilSl]
  refine acall_mk (E := envAt G 158 0) (envOk _ _ _) Tryz.func25 rfl rfl rfl rfl rfl ?_
  (repeat' (first | exact trivial | exact fun h => h | refine And.intro ?_ ?_ | (intro hb; try simp at hb) | omega | exact rfl | exact Nat.le_refl _ | (show _ + 1 ≤ 4294967296; omega) | (dsimp only; omega) | (show (_ : Int) ≤ (_ : Int); omega) | (show _ < List.length _; simp only [List.length_set, List.length_append, List.length_take]; omega) | (show wantB _ _ = true; simp <;> omega) | (show (_ : Bool) = _; simp_all; done) | (exfalso; omega) | fail))
  refine aRegion_open 2 (by decide +kernel) ?_
  (repeat' (first | exact trivial | exact fun h => h | refine And.intro ?_ ?_ | (intro hb; try simp at hb) | omega | exact rfl | exact Nat.le_refl _ | (show _ + 1 ≤ 4294967296; omega) | (dsimp only; omega) | (show (_ : Int) ≤ (_ : Int); omega) | (show _ < List.length _; simp only [List.length_set, List.length_append, List.length_take]; omega) | (show wantB _ _ = true; simp <;> omega) | (show (_ : Bool) = _; simp_all; done) | (exfalso; omega) | refine aRegion_auto (by decide +kernel) ?_ | fail))
  refine eff_is (.ref 3 0 a.2.2.length) [bz, rm, rm, Z] ?_
  (repeat' (first | exact trivial | exact fun h => h | refine And.intro ?_ ?_ | (intro hb; try simp at hb) | omega | exact rfl | exact Nat.le_refl _ | (show _ + 1 ≤ 4294967296; omega) | (dsimp only; omega) | (show (_ : Int) ≤ (_ : Int); omega) | (show _ < List.length _; simp only [List.length_set, List.length_append, List.length_take]; omega) | (show wantB _ _ = true; simp <;> omega) | (show (_ : Bool) = _; simp_all; done) | (exfalso; omega) | refine aRegion_auto (by decide +kernel) ?_ | fail))
  refine eff_is (.ref 1 0 a.2.2.length) [bz, Z, rm, Z] ?_
  (repeat' (first | exact trivial | exact fun h => h | refine And.intro ?_ ?_ | (intro hb; try simp at hb) | omega | exact rfl | exact Nat.le_refl _ | (show _ + 1 ≤ 4294967296; omega) | (dsimp only; omega) | (show (_ : Int) ≤ (_ : Int); omega) | (show _ < List.length _; simp only [List.length_set, List.length_append, List.length_take]; omega) | (show wantB _ _ = true; simp <;> omega) | (show (_ : Bool) = _; simp_all; done) | (exfalso; omega) | refine aRegion_auto (by decide +kernel) ?_ | fail))
  refine eff_is (.ptr 2 0) [bz, Z, bz, Z] ?_
  (repeat' (first | exact trivial | exact fun h => h | refine And.intro ?_ ?_ | (intro hb; try simp at hb) | omega | exact rfl | exact Nat.le_refl _ | (show _ + 1 ≤ 4294967296; omega) | (dsimp only; omega) | (show (_ : Int) ≤ (_ : Int); omega) | (show _ < List.length _; simp only [List.length_set, List.length_append, List.length_take]; omega) | (show wantB _ _ = true; simp <;> omega) | (show (_ : Bool) = _; simp_all; done) | (exfalso; omega) | refine aRegion_auto (by decide +kernel) ?_ | fail))
  refine eff_is .unk [bz, Z, B1, Z] ?_
  refine ⟨[(0, [bz, rm, rm]), (2, [bz, rm, rm, Z]), (8, [bz, Z, rm]), (32, [bz, rm, bz]), (10, [bz, Z, rm, Z]), (34, [bz, rm, bz, Z]), (40, [bz, Z, bz]), (42, [bz, Z, bz, Z]), (106, [bz, Z, B1, Z])], rfl, rfl, ?_, ?_⟩
  · (repeat' (first | refine And.intro ?_ ?_ | exact trivial | exact rfl | omega))
    all_goals first
      | (refine view_of [0, 1, 2, 3] rfl ?_ rfl rfl; (repeat' (first | exact trivial | exact rfl | refine And.intro ?_ ?_)); done)
      | (refine view_of [0, 3, 2] rfl ?_ rfl rfl; (repeat' (first | exact trivial | exact rfl | refine And.intro ?_ ?_)); done)
      | (refine view_of [0, 1, 3] rfl ?_ rfl rfl; (repeat' (first | exact trivial | exact rfl | refine And.intro ?_ ?_)); done)
      | (refine view_of [0, 4, 2, 3] rfl ?_ rfl rfl; (repeat' (first | exact trivial | exact rfl | refine And.intro ?_ ?_)); done)
      | (refine view_of [0, 1, 4, 3] rfl ?_ rfl rfl; (repeat' (first | exact trivial | exact rfl | refine And.intro ?_ ?_)); done)
  (repeat' (first | exact trivial | exact fun h => h | refine And.intro ?_ ?_ | (intro hb; try simp at hb) | omega | exact rfl | exact Nat.le_refl _ | (show _ + 1 ≤ 4294967296; omega) | (dsimp only; omega) | (show (_ : Int) ≤ (_ : Int); omega) | (show _ < List.length _; simp only [List.length_set, List.length_append, List.length_take]; omega) | (show wantB _ _ = true; simp <;> omega) | (show (_ : Bool) = _; simp_all; done) | (exfalso; omega) | refine aRegion_auto (by decide +kernel) ?_ | fail))
  refine ⟨Nat, fun k => ⟨[(0, .fptr RasT a), (2, .ptr 0 0), (3, .fz int (n : Nat)), (4, .ptr 2 0), (5, .ref 4 0 n), (6, .fz int k)], [bz, .row int (lst n (T1 w h k)), .box [.ref 3 0 n, .ref 1 0 n, .nilSl], .row int (lst n (F1 w h a k)), .row int (lst n (S1 w h k))]⟩, fun k => k ≤ n, fun k => n - k, 0, Nat.zero_le _, Ent.sub ?_ ?_, ?_⟩
  · show [bz, .row int (List.replicate a.2.2.length 0), .box [.ref 3 0 a.2.2.length, .ref 1 0 a.2.2.length, .nilSl], .row int (List.replicate a.2.2.length 0), .row int (List.replicate a.2.2.length 0)] = _
    rw [hl, lst_zero]
    (repeat' (first | exact rfl | refine cons_eq ?_ ?_))
  · (repeat' (first | exact trivial | exact rfl | refine And.intro ?_ ?_))
    · exact congrArg (fun z : Nat => AV.fz int (z : Int)) hl
    · exact congrArg (AV.ref 4 0) hl
  · intro k hk
    have hT := lst_len n (T1 w h k)
    have hF := lst_len n (F1 w h a k)
    have hS := lst_len n (S1 w h k)
    (repeat' (first | exact trivial | exact fun h => h | refine And.intro ?_ ?_ | (intro hb; try simp at hb) | omega | exact rfl | exact Nat.le_refl _ | (show _ + 1 ≤ 4294967296; omega) | (dsimp only; omega) | (show (_ : Int) ≤ (_ : Int); omega) | (show _ < List.length _; simp only [List.length_set, List.length_append, List.length_take]; omega) | (show wantB _ _ = true; simp <;> omega) | (show (_ : Bool) = _; simp_all; done) | (exfalso; omega) | refine aRegion_auto (by decide +kernel) ?_ | fail))
    · refine acall_frame0 rfl (isRim_any G a R k (by omega) _ ?_)
      (repeat' (first | exact trivial | exact fun h => h | refine And.intro ?_ ?_ | (intro hb; try simp at hb) | omega | exact rfl | exact Nat.le_refl _ | (show _ + 1 ≤ 4294967296; omega) | (dsimp only; omega) | (show (_ : Int) ≤ (_ : Int); omega) | (show _ < List.length _; simp only [List.length_set, List.length_append, List.length_take]; omega) | (show wantB _ _ = true; simp <;> omega) | (show (_ : Bool) = _; simp_all; done) | (exfalso; omega) | refine aRegion_auto (by decide +kernel) ?_ | fail))
      · (apply exEff; focus (repeat' (first | exact ⟨rfl, rfl⟩ | exact trivial | refine And.intro ?_ ?_ | omega | exact Nat.le_refl _ | (show _ + 1 ≤ 4294967296; omega))))
        (repeat' (first | exact trivial | exact fun h => h | refine And.intro ?_ ?_ | (intro hb; try simp at hb) | omega | exact rfl | exact Nat.le_refl _ | (show _ + 1 ≤ 4294967296; omega) | (dsimp only; omega) | (show (_ : Int) ≤ (_ : Int); omega) | (show _ < List.length _; simp only [List.length_set, List.length_append, List.length_take]; omega) | (show wantB _ _ = true; simp <;> omega) | (show (_ : Bool) = _; simp_all; done) | (exfalso; omega) | refine aRegion_auto (by decide +kernel) ?_ | fail))
        refine ⟨k + 1, by show k + 1 ≤ n; omega, by show n - (k + 1) < n - k; omega, Ent.sub ?_ ?_⟩
        · (repeat' (first | exact rfl | refine cons_eq ?_ ?_))
          · refine row_set2 (k : Int) rfl fun i hi => ?_
            unfold T1
            by_cases e : i = k
            · subst e; rw [if_pos rfl, if_pos (by omega), if_pos hb]
            · rw [if_neg e]; by_cases e2 : i < k
              · rw [if_pos e2, if_pos (show i < k + 1 by omega)]
              · rw [if_neg e2, if_neg (show ¬ i < k + 1 by omega)]
          · refine row_set1 (hts a k) rfl fun i hi => ?_
            unfold F1
            by_cases e : i = k
            · subst e; rw [if_pos rfl, if_pos ⟨by omega, hb⟩]
            · rw [if_neg e]
              by_cases e2 : i < k ∧ rimN w h i
              · rw [if_pos e2, if_pos ⟨by omega, e2.2⟩]
              · rw [if_neg e2, if_neg (fun e3 => e2 ⟨by omega, e3.2⟩)]
          · refine row_set1 1 rfl fun i hi => ?_
            unfold S1
            by_cases e : i = k
            · subst e; rw [if_pos rfl, if_pos ⟨by omega, hb⟩]
            · rw [if_neg e]
              by_cases e2 : i < k ∧ rimN w h i
              · rw [if_pos e2, if_pos ⟨by omega, e2.2⟩]
              · rw [if_neg e2, if_neg (fun e3 => e2 ⟨by omega, e3.2⟩)]
        · (repeat' (first | exact trivial | exact rfl | refine And.intro ?_ ?_))
      · refine ⟨k + 1, by show k + 1 ≤ n; omega, by show n - (k + 1) < n - k; omega, Ent.sub ?_ ?_⟩
        · (repeat' (first | exact rfl | refine cons_eq ?_ ?_))
          · refine row_set1 (-1) rfl fun i hi => ?_
            unfold T1
            by_cases e : i = k
            · subst e; rw [if_pos rfl, if_pos (by omega), if_neg hb]
            · rw [if_neg e]; by_cases e2 : i < k
              · rw [if_pos e2, if_pos (show i < k + 1 by omega)]
              · rw [if_neg e2, if_neg (show ¬ i < k + 1 by omega)]
          · refine row_lst fun i hi => ?_
            unfold F1
            by_cases e2 : i < k ∧ rimN w h i
            · rw [if_pos e2, if_pos ⟨by omega, e2.2⟩]
            · rw [if_neg e2, if_neg (fun e3 => e2 ⟨by
                have : i ≠ k := fun e => hb (e ▸ e3.2)
                omega, e3.2⟩)]
          · refine row_lst fun i hi => ?_
            unfold S1
            by_cases e2 : i < k ∧ rimN w h i
            · rw [if_pos e2, if_pos ⟨by omega, e2.2⟩]
            · rw [if_neg e2, if_neg (fun e3 => e2 ⟨by
                have : i ≠ k := fun e => hb (e ▸ e3.2)
                omega, e3.2⟩)]
        · (repeat' (first | exact trivial | exact rfl | refine And.intro ?_ ?_))
    · have hk2 : k = n := by omega
      subst hk2
      refine ⟨Nat, fun j => ⟨[(0, .fptr RasT a), (2, .ptr 0 0), (3, .fz int (k : Nat)), (4, .ptr 2 0), (5, .ref 4 0 k)], [bz, .row int (lst k (toI (flN w h (hts a) j))), .box [.ref 3 0 k, .ref 1 0 k, .ref 5 0 j], .row int (lst k (flN w h (hts a) j).fill), .row int (lst k (stI (flN w h (hts a) j))), .row int (natL (flN w h (hts a) j).ord)]⟩, fun j => j ≤ k, fun j => k - j, 0, Nat.zero_le _, (Ent.nilBox 2 2 int rfl rfl).trans (Ent.sub ?_ ?_), ?_⟩
      · (repeat' (first | exact rfl | refine cons_eq ?_ ?_))
        · refine row_lst fun i hi => ?_
          have e0 : (flN w h (hts a) 0).st i = if rimN w h i then 1 else 0 := rfl
          have e1 : (flN w h (hts a) 0).to i = i := rfl
          simp only [toI, T1, e0, e1, if_pos hi]
          by_cases e : rimN w h i <;> simp [e]
        · refine row_lst fun i hi => ?_
          have e0 : (flN w h (hts a) 0).fill i = if rimN w h i then hts a i else 0 := rfl
          simp only [F1, e0]
          by_cases e : rimN w h i <;> simp [e, hi]
        · refine row_lst fun i hi => ?_
          have e0 : (flN w h (hts a) 0).st i = if rimN w h i then 1 else 0 := rfl
          simp only [S1, stI, e0]
          by_cases e : rimN w h i <;> simp [e, hi]
      · (repeat' (first | exact trivial | exact rfl | refine And.intro ?_ ?_))
      intro j hj
      obtain ⟨I, hol⟩ := flN_ok w h (hts a) R.w0 j (by omega)
      have hol' := natL_len (flN w h (hts a) j).ord
      have hbest := @flN_best w h (hts a) R.w0 j
      have hT2 := lst_len k (toI (flN w h (hts a) j))
      have hF2 := lst_len k (flN w h (hts a) j).fill
      have hS2 := lst_len k (stI (flN w h (hts a) j))
      (repeat' (first | exact trivial | exact fun h => h | refine And.intro ?_ ?_ | (intro hb; try simp at hb) | omega | exact rfl | exact Nat.le_refl _ | (show _ + 1 ≤ 4294967296; omega) | (dsimp only; omega) | (show (_ : Int) ≤ (_ : Int); omega) | (show _ < List.length _; simp only [List.length_set, List.length_append, List.length_take]; omega) | (show wantB _ _ = true; simp <;> omega) | (show (_ : Bool) = _; simp_all; done) | (exfalso; omega) | refine aRegion_auto (by decide +kernel) ?_ | fail))
      · have hjk : j < w * h := by omega
        obtain ⟨b, hb1, hb2, hb3⟩ := hbest hjk
        refine ⟨Nat × Int, fun x => ⟨[(0, .fptr RasT a), (2, .ptr 0 0), (3, .fz int (k : Nat)), (4, .ptr 2 0), (5, .ref 4 0 k), (8, .fz int x.2), (9, .fz int x.1)], [bz, .row int (lst k (toI (flN w h (hts a) j))), .box [.ref 3 0 k, .ref 1 0 k, .ref 5 0 j], .row int (lst k (flN w h (hts a) j).fill), .row int (lst k (stI (flN w h (hts a) j))), .row int (natL (flN w h (hts a) j).ord)]⟩, fun x => x.1 ≤ k ∧ x.2 = bestI (flN w h (hts a) j) x.1, fun x => k - x.1, (0, -1), ⟨Nat.zero_le _, rfl⟩, Ent.sub rfl ?_, ?_⟩
        · (repeat' (first | exact trivial | exact rfl | refine And.intro ?_ ?_))
        · rintro ⟨m, v⟩ ⟨hm, hv⟩
          simp only at hm hv
          have sp := bestK_spec (flN w h (hts a) j) m
          by_cases hmk : m < k
          · have g1 : (lst k (stI (flN w h (hts a) j)))[m]?.getD int.dft = stI (flN w h (hts a) j) m := lst_get _ hmk
            have g2 : (lst k (flN w h (hts a) j).fill)[m]?.getD int.dft = (flN w h (hts a) j).fill m := lst_get _ hmk
            have g3 := bestI_succ (flN w h (hts a) j) m
            have g4 : bestI (flN w h (hts a) j) m = match bestK (flN w h (hts a) j) m with | none => -1 | some b => (b : Nat) := rfl
            have g6 : stI (flN w h (hts a) j) m = ((flN w h (hts a) j).st m : Nat) := rfl
            cases hbk : bestK (flN w h (hts a) j) m with
            | none =>
              rw [hbk] at g3 g4
              simp only at g3 g4
              rw [g4] at hv
              subst hv
              (repeat' (first | exact trivial | exact fun h => h | refine And.intro ?_ ?_ | (intro hb; try simp at hb) | omega | exact rfl | exact Nat.le_refl _ | (show _ + 1 ≤ 4294967296; omega) | (dsimp only; omega) | (show (_ : Int) ≤ (_ : Int); omega) | (show _ < List.length _; simp only [List.length_set, List.length_append, List.length_take]; omega) | (show wantB _ _ = true; simp <;> omega) | (show (_ : Bool) = _; simp_all; done) | (exfalso; omega) | refine aRegion_auto (by decide +kernel) ?_ | fail))
              · refine ⟨(m + 1, (m : Int)), ⟨by show m + 1 ≤ k; omega, by show (m : Int) = _; rw [g3, if_pos (by omega)]⟩, by show k - (m + 1) < k - m; omega, Ent.sub rfl ?_⟩
                (repeat' (first | exact trivial | exact rfl | refine And.intro ?_ ?_))
              · refine ⟨(m + 1, -1), ⟨by show m + 1 ≤ k; omega, by show (-1 : Int) = _; rw [g3, if_neg (by omega)]⟩, by show k - (m + 1) < k - m; omega, Ent.sub rfl ?_⟩
                (repeat' (first | exact trivial | exact rfl | refine And.intro ?_ ?_))
            | some b0 =>
              rw [hbk] at g3 g4 sp
              simp only at g3 g4 sp
              obtain ⟨sb1, sb2, _⟩ := sp
              have g5 : (lst k (flN w h (hts a) j).fill)[b0]?.getD int.dft = (flN w h (hts a) j).fill b0 := lst_get _ (by omega)
              rw [g4] at hv
              subst hv
              (repeat' (first | exact trivial | exact fun h => h | refine And.intro ?_ ?_ | (intro hb; try simp at hb) | omega | exact rfl | exact Nat.le_refl _ | (show _ + 1 ≤ 4294967296; omega) | (dsimp only; omega) | (show (_ : Int) ≤ (_ : Int); omega) | (show _ < List.length _; simp only [List.length_set, List.length_append, List.length_take]; omega) | (show wantB _ _ = true; simp <;> omega) | (show (_ : Bool) = _; simp_all; done) | (exfalso; omega) | refine aRegion_auto (by decide +kernel) ?_ | fail))
              · refine ⟨(m + 1, (m : Int)), ⟨by show m + 1 ≤ k; omega, by show (m : Int) = _; rw [g3, if_pos (by omega)]⟩, by show k - (m + 1) < k - m; omega, Ent.sub rfl ?_⟩
                (repeat' (first | exact trivial | exact rfl | refine And.intro ?_ ?_))
              · refine ⟨(m + 1, (b0 : Int)), ⟨by show m + 1 ≤ k; omega, by show (b0 : Int) = _; rw [g3, if_neg (by omega)]⟩, by show k - (m + 1) < k - m; omega, Ent.sub rfl ?_⟩
                (repeat' (first | exact trivial | exact rfl | refine And.intro ?_ ?_))
          · have hmk : m = k := by omega
            subst hmk
            have g4 : bestI (flN w h (hts a) j) m = b := by unfold bestI; rw [hn, hb1]
            rw [g4] at hv
            subst hv
            obtain ⟨hbm, hbs, hbx⟩ := hb2
            have hbm : b < m := by omega
            have hbm2 : (m, (b : Int)).2 < (m : Int) := by show (b : Int) < m; omega
            (repeat' (first | exact trivial | exact fun h => h | refine And.intro ?_ ?_ | (intro hb; try simp at hb) | omega | exact rfl | exact Nat.le_refl _ | (show _ + 1 ≤ 4294967296; omega) | (dsimp only; omega) | (show (_ : Int) ≤ (_ : Int); omega) | (show _ < List.length _; simp only [List.length_set, List.length_append, List.length_take]; omega) | (show wantB _ _ = true; simp <;> omega) | (show (_ : Bool) = _; simp_all; done) | (exfalso; omega) | refine aRegion_auto (by decide +kernel) ?_ | fail))
            refine ⟨Nat, fun q => ⟨[(0, .fptr RasT a), (2, .ptr 0 0), (3, .fz int (m : Nat)), (4, .ptr 2 0), (5, .ref 4 0 m), (8, .fz int b), (10, .fz int q)], [bz, .row int (lst m (T4 w (flN w h (hts a) j) b q)), .box [.ref 3 0 m, .ref 1 0 m, .ref 5 0 (j + 1)], .row int (lst m (F4 w (hts a) (flN w h (hts a) j) b q)), .row int (lst m (S4 w (flN w h (hts a) j) b q)), .row int (natL ((flN w h (hts a) j).ord ++ [b]))]⟩, fun q => q ≤ m, fun q => m - q, 0, Nat.zero_le _, Ent.ren [0, 1, 2, 3, 4, 7] rfl ?_ ?_, ?_⟩
            · (repeat' (first | exact trivial | exact rfl | refine And.intro ?_ ?_))
              · refine congrArg some (row_set1 2 rfl fun i hi => ?_)
                unfold S4
                by_cases e : i = b
                · rw [if_pos e, if_pos e]
                · rw [if_neg e, if_neg e, if_neg (by omega)]
              · refine congrArg (fun l => some (AO.row int l)) (?_ : List.take j (natL (flN w h (hts a) j).ord) ++ [(b : Int)] = natL ((flN w h (hts a) j).ord ++ [b]))
                rw [List.take_of_length_le (by omega)]
                simp [natL]
            · (repeat' (first | exact trivial | exact rfl | refine And.intro ?_ ?_))
            intro q hq
            have k1 := lst_len m (T4 w (flN w h (hts a) j) b q)
            have k2 := lst_len m (F4 w (hts a) (flN w h (hts a) j) b q)
            have k3 := lst_len m (S4 w (flN w h (hts a) j) b q)
            by_cases hqm : q < m
            · have p1 : (lst m (S4 w (flN w h (hts a) j) b q))[q]?.getD int.dft = S4 w (flN w h (hts a) j) b q q := lst_get _ hqm
              have p2 : S4 w (flN w h (hts a) j) b q q = if q = b then 2 else stI (flN w h (hts a) j) q := by
                unfold S4; rw [if_neg (show ¬ (q < q ∧ touchN w b q ∧ (flN w h (hts a) j).st q = 0) by omega)]
              have p3 : stI (flN w h (hts a) j) q = ((flN w h (hts a) j).st q : Nat) := rfl
              have p4 : (lst m (F4 w (hts a) (flN w h (hts a) j) b q))[b]?.getD int.dft = (flN w h (hts a) j).fill b := by
                rw [lst_get _ hbm]; unfold F4; rw [if_neg (by omega)]
              have skip : ¬ (touchN w b q ∧ (flN w h (hts a) j).st q = 0) → ∀ i, (i < q + 1 ∧ touchN w b i ∧ (flN w h (hts a) j).st i = 0) ↔ (i < q ∧ touchN w b i ∧ (flN w h (hts a) j).st i = 0) := fun h1 i => by
                constructor
                · rintro ⟨h2, h3, h4⟩
                  refine ⟨?_, h3, h4⟩
                  have : i ≠ q := fun e => h1 (by rw [← e]; exact ⟨h3, h4⟩)
                  omega
                · rintro ⟨h2, h3⟩; exact ⟨by omega, h3⟩
              have stp : touchN w b q ∧ (flN w h (hts a) j).st q = 0 → ∀ i, i ≠ q → ((i < q + 1 ∧ touchN w b i ∧ (flN w h (hts a) j).st i = 0) ↔ (i < q ∧ touchN w b i ∧ (flN w h (hts a) j).st i = 0)) := fun h1 i hi => by
                constructor
                · rintro ⟨h2, h3, h4⟩
                  exact ⟨by omega, h3, h4⟩
                · rintro ⟨h2, h3⟩; exact ⟨by omega, h3⟩
              have skipL : ¬ (touchN w b q ∧ (flN w h (hts a) j).st q = 0) → [bz, AO.row int (lst m (T4 w (flN w h (hts a) j) b q)), .box [.ref 3 0 m, .ref 1 0 m, .ref 5 0 (j + 1)], .row int (lst m (F4 w (hts a) (flN w h (hts a) j) b q)), .row int (lst m (S4 w (flN w h (hts a) j) b q)), .row int (natL ((flN w h (hts a) j).ord ++ [b]))] = [bz, .row int (lst m (T4 w (flN w h (hts a) j) b (q + 1))), .box [.ref 3 0 m, .ref 1 0 m, .ref 5 0 (j + 1)], .row int (lst m (F4 w (hts a) (flN w h (hts a) j) b (q + 1))), .row int (lst m (S4 w (flN w h (hts a) j) b (q + 1))), .row int (natL ((flN w h (hts a) j).ord ++ [b]))] := fun h1 => by
                have e1 : lst m (T4 w (flN w h (hts a) j) b q) = lst m (T4 w (flN w h (hts a) j) b (q + 1)) := lst_congr fun i hi => by unfold T4; simp only [skip h1 i]
                have e2 : lst m (F4 w (hts a) (flN w h (hts a) j) b q) = lst m (F4 w (hts a) (flN w h (hts a) j) b (q + 1)) := lst_congr fun i hi => by unfold F4; simp only [skip h1 i]
                have e3 : lst m (S4 w (flN w h (hts a) j) b q) = lst m (S4 w (flN w h (hts a) j) b (q + 1)) := lst_congr fun i hi => by unfold S4; simp only [skip h1 i]
                rw [e1, e2, e3]
              (repeat' (first | exact trivial | exact fun h => h | refine And.intro ?_ ?_ | (intro hb; try simp at hb) | omega | exact rfl | exact Nat.le_refl _ | (show _ + 1 ≤ 4294967296; omega) | (dsimp only; omega) | (show (_ : Int) ≤ (_ : Int); omega) | (show _ < List.length _; simp only [List.length_set, List.length_append, List.length_take]; omega) | (show wantB _ _ = true; simp <;> omega) | (show (_ : Bool) = _; simp_all; done) | (exfalso; omega) | refine aRegion_auto (by decide +kernel) ?_ | fail))
              refine acall_frame0 rfl (touch_any G a R b q (by omega) (by omega) _ ?_)
              (repeat' (first | exact trivial | exact fun h => h | refine And.intro ?_ ?_ | (intro hb; try simp at hb) | omega | exact rfl | exact Nat.le_refl _ | (show _ + 1 ≤ 4294967296; omega) | (dsimp only; omega) | (show (_ : Int) ≤ (_ : Int); omega) | (show _ < List.length _; simp only [List.length_set, List.length_append, List.length_take]; omega) | (show wantB _ _ = true; simp <;> omega) | (show (_ : Bool) = _; simp_all; done) | (exfalso; omega) | refine aRegion_auto (by decide +kernel) ?_ | fail))
              · have hsk : ¬ (touchN w b q ∧ (flN w h (hts a) j).st q = 0) := by
                  rintro ⟨h1, h2⟩
                  have h3 : q ≠ b := fun e => h1.1 e.symm
                  rw [if_neg h3] at p2
                  rcases hb with hb | hb
                  · exact hb h1
                  · omega
                refine ⟨q + 1, by show q + 1 ≤ m; omega, by show m - (q + 1) < m - q; omega, Ent.sub (skipL hsk) ?_⟩
                (repeat' (first | exact trivial | exact rfl | refine And.intro ?_ ?_))
              · obtain ⟨hbt, hb0⟩ := hb
                have h3 : q ≠ b := fun e => hbt.1 e.symm
                rw [if_neg h3] at p2
                have hst : (flN w h (hts a) j).st q = 0 := by omega
                have hgo := stp ⟨hbt, hst⟩
                have p5 : ∀ v, (List.set (lst m (F4 w (hts a) (flN w h (hts a) j) b q)) q v)[b]?.getD int.dft = (flN w h (hts a) j).fill b := fun v => by
                  rw [List.getElem?_set_ne h3]; exact p4
                have hq0 : a.2.2[q]?.getD int.dft = hts a q := by simp [hts, List.getD]; rfl
                have fT : AO.row int (List.set (lst m (T4 w (flN w h (hts a) j) b q)) (0 + Int.toNat (q : Int)) (b : Int)) = AO.row int (lst m (T4 w (flN w h (hts a) j) b (q + 1))) := row_set1 (b : Int) rfl fun i hi => by
                  unfold T4
                  by_cases e : i = q
                  · subst e; rw [if_pos rfl, if_pos ⟨by omega, hbt, hst⟩]
                  · rw [if_neg e]; simp only [hgo i e]
                have fS : AO.row int (List.set (lst m (S4 w (flN w h (hts a) j) b q)) (0 + Int.toNat (q : Int)) 1) = AO.row int (lst m (S4 w (flN w h (hts a) j) b (q + 1))) := row_set1 1 rfl fun i hi => by
                  unfold S4
                  by_cases e : i = q
                  · subst e; rw [if_pos rfl, if_neg h3, if_pos ⟨by omega, hbt, hst⟩]
                  · rw [if_neg e]; simp only [hgo i e]
                have fF : ∀ x, x = max (hts a q) ((flN w h (hts a) j).fill b) → AO.row int (List.set (lst m (F4 w (hts a) (flN w h (hts a) j) b q)) (0 + Int.toNat (q : Int)) x) = AO.row int (lst m (F4 w (hts a) (flN w h (hts a) j) b (q + 1))) := fun x hx => row_set1 x rfl fun i hi => by
                  unfold F4
                  by_cases e : i = q
                  · subst e; rw [if_pos rfl, if_pos ⟨by omega, hbt, hst⟩]; exact hx
                  · rw [if_neg e]; simp only [hgo i e]
                have fF2 : ∀ y x, x = max (hts a q) ((flN w h (hts a) j).fill b) → AO.row int (List.set (List.set (lst m (F4 w (hts a) (flN w h (hts a) j) b q)) (0 + Int.toNat (q : Int)) y) (0 + Int.toNat (q : Int)) x) = AO.row int (lst m (F4 w (hts a) (flN w h (hts a) j) b (q + 1))) := fun y x hx => by
                  rw [List.set_set]; exact fF x hx
                (apply exEff; focus (repeat' (first | exact ⟨rfl, rfl⟩ | exact trivial | refine And.intro ?_ ?_ | omega | exact Nat.le_refl _ | (show _ + 1 ≤ 4294967296; omega))))
                (repeat' (first | exact trivial | exact fun h => h | refine And.intro ?_ ?_ | (intro hb; try simp at hb) | omega | exact rfl | exact Nat.le_refl _ | (show _ + 1 ≤ 4294967296; omega) | (dsimp only; omega) | (show (_ : Int) ≤ (_ : Int); omega) | (show _ < List.length _; simp only [List.length_set, List.length_append, List.length_take]; omega) | (show wantB _ _ = true; simp <;> omega) | (show (_ : Bool) = _; simp_all; done) | (exfalso; omega) | refine aRegion_auto (by decide +kernel) ?_ | fail))
                · (apply exEff; focus (repeat' (first | exact ⟨rfl, rfl⟩ | exact trivial | refine And.intro ?_ ?_ | omega | exact Nat.le_refl _ | (show _ + 1 ≤ 4294967296; omega))))
                  (repeat' (first | exact trivial | exact fun h => h | refine And.intro ?_ ?_ | (intro hb; try simp at hb) | omega | exact rfl | exact Nat.le_refl _ | (show _ + 1 ≤ 4294967296; omega) | (dsimp only; omega) | (show (_ : Int) ≤ (_ : Int); omega) | (show _ < List.length _; simp only [List.length_set, List.length_append, List.length_take]; omega) | (show wantB _ _ = true; simp <;> omega) | (show (_ : Bool) = _; simp_all; done) | (exfalso; omega) | refine aRegion_auto (by decide +kernel) ?_ | fail))
                  refine ⟨q + 1, by show q + 1 ≤ m; omega, by show m - (q + 1) < m - q; omega, Ent.sub ?_ ?_⟩
                  · (repeat' (first | exact rfl | refine cons_eq ?_ ?_))
                    · exact fT
                    · refine fF2 _ _ ?_
                      rw [p5, hq0] at hb
                      show List.getD (List.set (lst m (F4 w (hts a) (flN w h (hts a) j) b q)) (0 + Int.toNat (q : Int)) _) (0 + Int.toNat (b : Int)) int.dft = max _ _
                      rw [List.getD_eq_getElem?_getD, Nat.zero_add, Nat.zero_add, Int.toNat_natCast, Int.toNat_natCast, p5]
                      omega
                    · exact fS
                  · (repeat' (first | exact trivial | exact rfl | refine And.intro ?_ ?_))
                · refine ⟨q + 1, by show q + 1 ≤ m; omega, by show m - (q + 1) < m - q; omega, Ent.sub ?_ ?_⟩
                  · (repeat' (first | exact rfl | refine cons_eq ?_ ?_))
                    · exact fT
                    · refine fF _ ?_
                      rw [p5, hq0] at hb
                      show hts a q = _
                      omega
                    · exact fS
                  · (repeat' (first | exact trivial | exact rfl | refine And.intro ?_ ?_))
            · have hqm : q = m := by omega
              subst hqm
              have hqm' : ∀ i, i < q → (i < q ∧ touchN w b i ∧ (flN w h (hts a) j).st i = 0 ↔ touchN w b i ∧ (flN w h (hts a) j).st i = 0) := fun i hi => ⟨fun x => x.2, fun x => ⟨hi, x⟩⟩
              (repeat' (first | exact trivial | exact fun h => h | refine And.intro ?_ ?_ | (intro hb; try simp at hb) | omega | exact rfl | exact Nat.le_refl _ | (show _ + 1 ≤ 4294967296; omega) | (dsimp only; omega) | (show (_ : Int) ≤ (_ : Int); omega) | (show _ < List.length _; simp only [List.length_set, List.length_append, List.length_take]; omega) | (show wantB _ _ = true; simp <;> omega) | (show (_ : Bool) = _; simp_all; done) | (exfalso; omega) | refine aRegion_auto (by decide +kernel) ?_ | fail))
              refine ⟨j + 1, by show j + 1 ≤ q; omega, by show q - (j + 1) < q - j; omega, Ent.sub ?_ ?_⟩
              · rw [hb3, T4_end (L := hts a) hqm' hbs, F4_end hqm', S4_end (L := hts a) hqm']
                rfl
              · (repeat' (first | exact trivial | exact rfl | refine And.intro ?_ ?_))
      · have hjk : j = k := by omega
        subst hjk
        (repeat' (first | exact trivial | exact fun h => h | refine And.intro ?_ ?_ | (intro hb; try simp at hb) | omega | exact rfl | exact Nat.le_refl _ | (show _ + 1 ≤ 4294967296; omega) | (dsimp only; omega) | (show (_ : Int) ≤ (_ : Int); omega) | (show _ < List.length _; simp only [List.length_set, List.length_append, List.length_take]; omega) | (show wantB _ _ = true; simp <;> omega) | (show (_ : Bool) = _; simp_all; done) | (exfalso; omega) | refine aRegion_auto (by decide +kernel) ?_ | fail))
        refine ⟨_, _, (REnt.conv1 (.dat FT) _ rfl ?_).trans (REnt.drop ⟨rfl, rfl⟩), ?_⟩
        · exact ⟨by show 0 + j ≤ _; rw [hF2]; omega, by show 0 + j ≤ _; rw [hT2]; omega, by show 0 + j ≤ _; omega⟩
        · have hall := flD_all w h (hts a) R.w0
          refine (congrArg (fun x => K (.fz FT x) []) (?_ : fRes w h a = (List.take j (List.drop 0 (lst j (flN w h (hts a) j).fill)), List.take j (List.drop 0 (lst j (toI (flN w h (hts a) j)))), List.take j (List.drop 0 (natL (flN w h (hts a) j).ord))))).mp hK
          rw [List.drop_zero, List.drop_zero, List.drop_zero, List.take_of_length_le (by omega), List.take_of_length_le (by omega), List.take_of_length_le (by omega)]
          unfold fRes flD
          unfold flD at hall
          rw [← hn] at hall ⊢
          have e : lst j (fun i => (((flN w h (hts a) j).to i : Nat) : Int)) = lst j (toI (flN w h (hts a) j)) := lst_congr fun i hi => by
            unfold toI; rw [if_neg (by rw [hall i hi]; omega)]
          rw [e]
end Go.Proofs.YtgjjooophigkoaaGreatDoor
/-
  The flood, neighbour by neighbour.
-/
namespace Go.Proofs.YtgjjooophigkoaaGreatDoor
open Go Go.Ab
set_option maxRecDepth 100000
def visB (w h b q i : Nat) : Bool := (List.range q).any fun v => decide (nbN w h b v = some i)
theorem visB_iff {w h b q i : Nat} : visB w h b q i = true ↔ ∃ v, v < q ∧ nbN w h b v = some i := by
  unfold visB; simp
theorem visB_succ {w h b q i : Nat} : visB w h b (q + 1) i = (visB w h b q i || decide (nbN w h b q = some i)) := by
  unfold visB; rw [List.range_succ, List.any_append]; simp
/-- after b was taken and q directions were looked at -/
def flQ (w h : Nat) (L : Nat → Int) (S : Fl) (b q : Nat) : Fl :=
  ⟨fun i => if i = b then 2 else if visB w h b q i = true ∧ S.st i = 0 then 1 else S.st i, fun i => if visB w h b q i = true ∧ S.st i = 0 then max (L i) (S.fill b) else S.fill i, fun i => if visB w h b q i = true ∧ S.st i = 0 then b else S.to i, S.ord ++ [b]⟩
def floI (w : Nat) (S : Fl) (i : Nat) : Int := if S.st i = 0 then -1 else wayN w i (S.to i)
def filI (L : Nat → Int) (S : Fl) (i : Nat) : Int := if S.st i = 0 then L i else S.fill i
def wts (n : Nat) (S : Fl) : List P2 := WL n (fun i => decide (S.st i = 1)) S.fill
theorem vis8 {w h b i : Nat} (hb : b < w * h) (hi : i < w * h) : visB w h b 8 i = true ↔ touchN w b i := by
  rw [visB_iff]
  constructor
  · rintro ⟨v, hv, h⟩; exact nb_touch hb hv h
  · exact touch_nb hb hi
section
variable {w h : Nat} {L : Nat → Int} {S : Fl} {b : Nat}
theorem flQ_st (q i : Nat) : (flQ w h L S b q).st i = if i = b then 2 else if visB w h b q i = true ∧ S.st i = 0 then 1 else S.st i := rfl
theorem flQ_fill (q i : Nat) : (flQ w h L S b q).fill i = if visB w h b q i = true ∧ S.st i = 0 then max (L i) (S.fill b) else S.fill i := rfl
theorem flQ_to (q i : Nat) : (flQ w h L S b q).to i = if visB w h b q i = true ∧ S.st i = 0 then b else S.to i := rfl
theorem flQ_end (hb : b < w * h) {i : Nat} (hi : i < w * h) : (flQ w h L S b 8).st i = (flS w L S b).st i ∧ (flQ w h L S b 8).fill i = (flS w L S b).fill i ∧ (flQ w h L S b 8).to i = (flS w L S b).to i := by
  have e1 : (flS w L S b).st i = if i = b then 2 else if touchN w b i ∧ S.st i = 0 then 1 else S.st i := rfl
  have e2 : (flS w L S b).fill i = if touchN w b i ∧ S.st i = 0 then max (L i) (S.fill b) else S.fill i := rfl
  have e3 : (flS w L S b).to i = if touchN w b i ∧ S.st i = 0 then b else S.to i := rfl
  rw [flQ_st, flQ_fill, flQ_to, e1, e2, e3]
  simp only [vis8 hb hi, and_self]
theorem rows_eq {n : Nat} {A B : Fl} (he : ∀ i, i < n → A.st i = B.st i ∧ A.fill i = B.fill i ∧ A.to i = B.to i) : lst n (floI w A) = lst n (floI w B) ∧ lst n (filI L A) = lst n (filI L B) ∧ wts n A = wts n B := by
  refine ⟨lst_congr fun i hi => ?_, lst_congr fun i hi => ?_, WL_congr (fun i hi => ?_) (fun i hi _ => (he i hi).2.1)⟩
  · unfold floI; rw [(he i hi).1, (he i hi).2.2]
  · unfold filI; rw [(he i hi).1, (he i hi).2.1]
  · rw [(he i hi).1]
/-- the direction leads nowhere new -/
theorem flQ_skip {q : Nat} (hs : S.st b = 1) (h0 : ∀ t, nbN w h b q = some t → (flQ w h L S b q).st t ≠ 0) (i : Nat) : (flQ w h L S b (q + 1)).st i = (flQ w h L S b q).st i ∧ (flQ w h L S b (q + 1)).fill i = (flQ w h L S b q).fill i ∧ (flQ w h L S b (q + 1)).to i = (flQ w h L S b q).to i := by
  have key : (visB w h b (q + 1) i = true ∧ S.st i = 0) ↔ (visB w h b q i = true ∧ S.st i = 0) := by
    rw [visB_succ]
    constructor
    · rintro ⟨h1, h2⟩
      rcases Bool.or_eq_true_iff.1 h1 with h1 | h1
      · exact ⟨h1, h2⟩
      · have h1 : nbN w h b q = some i := by simpa using h1
        have h3 := h0 i h1
        rw [flQ_st] at h3
        have hib : i ≠ b := fun e => by subst e; omega
        rw [if_neg hib] at h3
        by_cases hv : visB w h b q i = true ∧ S.st i = 0
        · exact hv
        · rw [if_neg hv] at h3; exact absurd h2 h3
    · rintro ⟨h1, h2⟩; exact ⟨by rw [h1]; rfl, h2⟩
  rw [flQ_st, flQ_fill, flQ_to, flQ_st, flQ_fill, flQ_to]
  simp only [key, and_self]
/-- it leads to one that is new -/
theorem flQ_new {q t : Nat} (hb : b < w * h) (hs : S.st b = 1) (hq : q < 8) (hn : nbN w h b q = some t) (h0 : (flQ w h L S b q).st t = 0) : S.st t = 0 ∧ t ≠ b ∧
    (∀ i, (flQ w h L S b (q + 1)).st i = if i = t then 1 else (flQ w h L S b q).st i) ∧ (∀ i, (flQ w h L S b (q + 1)).fill i = if i = t then max (L t) (S.fill b) else (flQ w h L S b q).fill i) ∧ (∀ i, (flQ w h L S b (q + 1)).to i = if i = t then b else (flQ w h L S b q).to i) := by
  have htb : t ≠ b := fun e => (nb_touch hb hq hn).1 e.symm
  rw [flQ_st, if_neg htb] at h0
  have hvt : ¬ (visB w h b q t = true ∧ S.st t = 0) := fun h => by rw [if_pos h] at h0; omega
  rw [if_neg hvt] at h0
  have hother : ∀ i, i ≠ t → (visB w h b (q + 1) i = true ∧ S.st i = 0 ↔ visB w h b q i = true ∧ S.st i = 0) := fun i hi => by
    rw [visB_succ, hn]
    have : decide (some t = some i) = false := by simp; exact fun e => hi e.symm
    rw [this, Bool.or_false]
  have hself : visB w h b (q + 1) t = true ∧ S.st t = 0 := ⟨by rw [visB_succ, hn]; simp, h0⟩
  refine ⟨h0, htb, fun i => ?_, fun i => ?_, fun i => ?_⟩
  · rw [flQ_st, flQ_st]
    by_cases e : i = t
    · subst e; rw [if_neg htb, if_pos hself, if_pos rfl]
    · rw [if_neg e]; simp only [hother i e]
  · rw [flQ_fill, flQ_fill]
    by_cases e : i = t
    · subst e; rw [if_pos hself, if_pos rfl]
    · rw [if_neg e]; simp only [hother i e]
  · rw [flQ_to, flQ_to]
    by_cases e : i = t
    · subst e; rw [if_pos hself, if_pos rfl]
    · rw [if_neg e]; simp only [hother i e]
/-- what waits when b was taken -/
theorem wts_take (hb : b < w * h) (hs : S.st b = 1) : (wts (w * h) S).Perm (wts (w * h) (flQ w h L S b 0) ++ [(S.fill b, ((b : Nat) : Int))]) := by
  have e0 : ∀ i, visB w h b 0 i = false := fun i => rfl
  refine WL_add hb ?_ ?_ (fun j hj hne => ?_) (fun j hj hne hp => ?_)
  · rw [flQ_st, if_pos rfl]; rfl
  · rw [hs]; rfl
  · rw [flQ_st, if_neg hne, e0]; simp
  · rw [flQ_fill, e0]; simp
theorem wts_new {q t : Nat} (hb : b < w * h) (hs : S.st b = 1) (hq : q < 8) (hn : nbN w h b q = some t) (h0 : (flQ w h L S b q).st t = 0) : (wts (w * h) (flQ w h L S b (q + 1))).Perm (wts (w * h) (flQ w h L S b q) ++ [(max (L t) (S.fill b), ((t : Nat) : Int))]) := by
  obtain ⟨h1, h2, h3, h4, h5⟩ := flQ_new hb hs hq hn h0
  have ht := (nb_cell hb hn).1
  have := WL_add (n := w * h) (i := t) (p := fun i => decide ((flQ w h L S b q).st i = 1)) (p' := fun i => decide ((flQ w h L S b (q + 1)).st i = 1)) (f := (flQ w h L S b q).fill) (f' := (flQ w h L S b (q + 1)).fill) ht (by rw [h0]; rfl) (by rw [h3 t, if_pos rfl]; rfl) (fun j hj hne => by rw [h3 j, if_neg hne]) (fun j hj hne _ => by rw [h4 j, if_neg hne])
  rw [h4 t, if_pos rfl] at this
  exact this
theorem rows_new {q t : Nat} (hb : b < w * h) (hs : S.st b = 1) (hq : q < 8) (hn : nbN w h b q = some t) (h0 : (flQ w h L S b q).st t = 0) (i : Nat) : (if i = t then ((q : Int) + 4) % 8 else floI w (flQ w h L S b q) i) = floI w (flQ w h L S b (q + 1)) i ∧ (if i = t then max (L t) (S.fill b) else filI L (flQ w h L S b q) i) = filI L (flQ w h L S b (q + 1)) i := by
  obtain ⟨h1, h2, h3, h4, h5⟩ := flQ_new hb hs hq hn h0
  unfold floI filI
  rw [h3 i, h4 i, h5 i]
  by_cases e : i = t
  · subst e
    rw [if_pos rfl, if_pos rfl, if_pos rfl, if_pos rfl, if_pos rfl, if_neg (by omega), if_neg (by omega), way_back hb hq hn]
    exact ⟨rfl, rfl⟩
  · simp only [if_neg e, and_self]
theorem wayXY_nn {x y : Int} (h1 : -1 ≤ y) (h2 : y ≤ 1) : 0 ≤ wayXY x y := by
  unfold wayXY
  repeat' split
  all_goals omega
theorem way_nn {i t : Nat} (ht : touchN w t i ∨ t = i) : 0 ≤ wayN w i t := by
  rcases ht with ht | rfl
  · unfold wayN; obtain ⟨_, _, h3⟩ := ht; exact wayXY_nn (by omega) (by omega)
  · rw [way_self]; omega
theorem flo_nn (I : FlI w h L S) (hb : b < w * h) (hs : S.st b = 1) {q i : Nat} (hq : q ≤ 8) (hi : i < w * h) : 0 ≤ floI w (flQ w h L S b q) i ↔ (flQ w h L S b q).st i ≠ 0 := by
  unfold floI
  by_cases h0 : (flQ w h L S b q).st i = 0
  · rw [if_pos h0]; simp [h0]
  · rw [if_neg h0]
    refine ⟨fun _ => h0, fun _ => way_nn ?_⟩
    rw [flQ_to]
    by_cases hv : visB w h b q i = true ∧ S.st i = 0
    · rw [if_pos hv]
      obtain ⟨v, hv1, hv2⟩ := visB_iff.1 hv.1
      exact .inl (nb_touch hb (by omega) hv2)
    · rw [if_neg hv]
      rw [flQ_st] at h0
      by_cases hib : i = b
      · subst hib
        by_cases hz : S.st i = 0
        · omega
        · rcases I.src i hi hz with ⟨_, h, _⟩ | ⟨_, h, _⟩
          · exact .inr h
          · exact .inl h
      · rw [if_neg hib, if_neg hv] at h0
        rcases I.src i hi h0 with ⟨_, h, _⟩ | ⟨_, h, _⟩
        · exact .inr h
        · exact .inl h
end
/-- the key of the least that waits is the best one's -/
theorem best_key {w h : Nat} {S : Fl} {b i : Nat} (hwh : w * h ≤ 16384) (hb : isBest S (w * h) b) (hi : i < w * h) (hs : S.st i = 1) (hk : key (S.fill i, ((i : Nat) : Int)) ≤ key (S.fill b, ((b : Nat) : Int))) : i = b := by
  obtain ⟨h1, h2, h3⟩ := hb
  have := h3 i hi hs
  unfold key at hk
  simp only at hk
  omega
end Go.Proofs.YtgjjooophigkoaaGreatDoor
/-
  errors.Is of two errors of errors.New's make.
-/
namespace Go.Proofs.YtgjjooophigkoaaGreatDoor.isK
open Go Go.RowKit Go.Extern.Stop Go.Stop Go.Extern
set_option maxRecDepth 100000
theorem typeOf (v : Value) (w : World) : (Extern.ReflectliteType.typeOf #[.iface 293 v]).run Tryz.prog w = .ok (.iface 221 (.agg #[.pointer (some ⟨17, 293, none⟩)])) w := by kernel_rfl
theorem comparable (w : World) : ((Extern.ReflectliteType.method fun t => do Extern.Rtype.noPackHeld "Comparable" t; (fun a => Value.bool a.comparable) <$> typeInfo t) #[.agg #[.pointer (some ⟨17, 293, none⟩)]]).run Tryz.prog w = .ok (.bool true) w := by kernel_rfl
theorem mComparable (v : Value) (w : World) : (Go.method 431 221 v "Comparable").run Tryz.prog w = .ok (240, v) w := by kernel_rfl
theorem comp : (Tryz.prog.info? 293).map (·.comparable) = some true := by kernel_rfl
theorem size : (Tryz.prog.info? 295).map (·.size) = some 1 := by kernel_rfl
theorem noIs (v : Value) (xT : TypeId) (w : World) : (Instr.typeAssert (.iface 293 v) xT 232 true).run Tryz.prog w = .ok (.tuple #[.nilIface, .bool false]) w := run_typeAssert_lacksB Tryz.underlying232 (by kernel_rfl) (by kernel_rfl) v xT w
theorem noUnwrap (v : Value) (xT : TypeId) (w : World) : (Instr.typeAssert (.iface 293 v) xT 228 true).run Tryz.prog w = .ok (.tuple #[.nilIface, .bool false]) w := run_typeAssert_lacksB Tryz.underlying228 (by kernel_rfl) (by kernel_rfl) v xT w
theorem noUnwraps (v : Value) (xT : TypeId) (w : World) : (Instr.typeAssert (.iface 293 v) xT 230 true).run Tryz.prog w = .ok (.tuple #[.nilIface, .bool false]) w := run_typeAssert_lacksB Tryz.underlying230 (by kernel_rfl) (by kernel_rfl) v xT w
/-- errors.Is(x, x), x a pointer to an errors.errorString. -/
theorem is_same (a : Addr) (w : World) :
    Calls Tryz.prog 91 #[.iface 293 (.pointer (some a)), .iface 293 (.pointer (some a))] w fun e w' => e = .returned (.bool true) ∧ w' = w := by
  obtain ⟨i, hi, hcmp⟩ := Option.map_eq_some_iff.1 comp
  obtain ⟨j, hj, hjs⟩ := Option.map_eq_some_iff.1 size
  have h8 := @run_callFunc_extern Tryz.prog 124 _ Extern.ReflectliteType.typeOf Tryz.func124 (by kernel_rfl) (by kernel_rfl) (by kernel_rfl) (by kernel_rfl)
  have h32 := @run_callFunc_extern Tryz.prog 240 _ (Extern.ReflectliteType.method fun t => do Extern.Rtype.noPackHeld "Comparable" t; pure (.bool (← typeInfo t).comparable)) Tryz.func240 (by kernel_rfl) (by kernel_rfl) (by kernel_rfl) (by kernel_rfl)
  have tT := typeOf
  have cT := comparable
  have mR := mComparable
  have heq := run_eql_iface_ptr_same (P := Tryz.prog) w a Tryz.underlying27 Tryz.underlying293 hi hcmp hj
  go_enter Tryz.func91, Tryz.ntmps91
  go_wp2
  refine wp_loop_rounds 1 ?_
  rw [rounds_succ]
  go_wp2
  go_ret
  exact ⟨rfl, rfl⟩
/-- errors.Is(x, y), two different pointers to errors.errorString. -/
theorem is_other (a b : Addr) (ca cb : Array Value) (ta tb : TypeId) (w : World) (hne : a ≠ b) (ha : w.heap[a.block]? = some (.cells ca ta (0, 0))) (hb : w.heap[b.block]? = some (.cells cb tb (0, 0))) :
    Calls Tryz.prog 91 #[.iface 293 (.pointer (some a)), .iface 293 (.pointer (some b))] w fun e w' => e = .returned (.bool false) ∧ w' = w := by
  obtain ⟨i, hi, hcmp⟩ := Option.map_eq_some_iff.1 comp
  obtain ⟨j, hj, hjs⟩ := Option.map_eq_some_iff.1 size
  have h8 := @run_callFunc_extern Tryz.prog 124 _ Extern.ReflectliteType.typeOf Tryz.func124 (by kernel_rfl) (by kernel_rfl) (by kernel_rfl) (by kernel_rfl)
  have h32 := @run_callFunc_extern Tryz.prog 240 _ (Extern.ReflectliteType.method fun t => do Extern.Rtype.noPackHeld "Comparable" t; pure (.bool (← typeInfo t).comparable)) Tryz.func240 (by kernel_rfl) (by kernel_rfl) (by kernel_rfl) (by kernel_rfl)
  have tT := typeOf
  have cT := comparable
  have mR := mComparable
  have nE := noIs
  have uE := noUnwrap
  have vE := noUnwraps
  have heq := run_eql_iface_ptr_other (P := Tryz.prog) w Tryz.underlying27 Tryz.underlying293 hi hcmp hj (by rw [hjs]; decide) hne ha hb
  go_enter Tryz.func91, Tryz.ntmps91
  go_wp2
  refine wp_loop_rounds 1 ?_
  rw [rounds_succ]
  go_wp2
  go_ret
  exact ⟨rfl, rfl⟩
end Go.Proofs.YtgjjooophigkoaaGreatDoor.isK
