/-
  Contracts: great, IsPlace, side, on, area, for points of paper.
-/
import Derived.Test.YtdbgkhcknaafoaaDoorChecked
import Derived.Test.YtdbgkhcknaafoaaDoorSm
import Derived.WalkKit
import Derived.WalkLawsBesides
import Derived.WalkSpells
import Derived.BigQuiet
import Derived.Deep.QuietTactic
import Derived.Lib.Hide
namespace Go.Proofs.YtdbgkhcknaafoaaDoor
open Go Go.RowKit Shp
set_option maxRecDepth 100000
def sp (p : Sp) : Value := .agg #[.int .i64 p.1, .int .i64 p.2]
def grt (x y : Int) : Bool := decide (16777216 < x) || decide (x < -16777216) || decide (16777216 < y) || decide (y < -16777216)
theorem ret_int {a b : Int} (h : a = b) : Ending.returned (.int .i64 a) = .returned (.int .i64 b) := by rw [h]
theorem ret_bool {a b : Bool} (h : a = b) : Ending.returned (.bool a) = .returned (.bool b) := by rw [h]
theorem bcell {W w1 : World} (hb : Below W.heap.size W w1) : (∀ b o, b < W.heap.size → w1.cell? ⟨b, o, none⟩ = W.cell? ⟨b, o, none⟩) ∧ (∀ b o, b < W.heap.size → w1.frozen? ⟨b, o, none⟩ = W.frozen? ⟨b, o, none⟩) :=
  ⟨fun b o h => hb.cell (p := ⟨b, o, none⟩) h, fun b o h => hb.frozen (p := ⟨b, o, none⟩) h⟩
theorem great_any (x y : Int) (w : World) :
    Calls Tryd.prog 18 #[.agg #[.int .i64 x, .int .i64 y]] w fun e w' => e = .returned (.bool (grt x y)) ∧ Below w.heap.size w w' := by
  generalize hG : grt x y = G
  have HG := Lib.hid hG; clear hG
  go_enter Tryd.func18, Tryd.ntmps18
  go_wp2
  all_goals go_ret
  all_goals (refine ⟨?_, (Below.refl _ _).alloc (Nat.le_refl _) _⟩; rw [← HG.out]; unfold grt; exact ret_bool (by first | rfl | (rw [Bool.eq_iff_iff]; simp; done) | (rw [Bool.eq_iff_iff]; simp; omega)))
theorem IsPlace_any (x y : Int) (w : World) :
    Calls Tryd.prog 8 #[.agg #[.int .i64 x, .int .i64 y]] w fun e w' => e = .returned (.bool (!grt x y)) ∧ Below w.heap.size w w' := by
  generalize hG : (!grt x y) = G
  have HG := Lib.hid hG; clear hG
  go_enter Tryd.func8, Tryd.ntmps8
  go_wp2
  all_goals go_ret
  all_goals (refine ⟨?_, (Below.refl _ _).alloc (Nat.le_refl _) _⟩; rw [← HG.out]; unfold grt; exact ret_bool (by first | rfl | (rw [Bool.eq_iff_iff]; simp; done) | (rw [Bool.eq_iff_iff]; simp; omega)))
/-- within paper -/
def Pt (p : Sp) : Prop := -16777216 ≤ p.1 ∧ p.1 ≤ 16777216 ∧ -16777216 ≤ p.2 ∧ p.2 ≤ 16777216
theorem mul_le {a b A B : Int} (h1 : -A ≤ a) (h2 : a ≤ A) (h3 : -B ≤ b) (h4 : b ≤ B) : -(A * B) ≤ a * b ∧ a * b ≤ A * B := by
  have hA : 0 ≤ A := by omega
  have hB : 0 ≤ B := by omega
  have k1 : 0 ≤ (A - a) * (B - b) := Int.mul_nonneg (by omega) (by omega)
  have k2 : 0 ≤ (A + a) * (B + b) := Int.mul_nonneg (by omega) (by omega)
  have k3 : 0 ≤ (A - a) * (B + b) := Int.mul_nonneg (by omega) (by omega)
  have k4 : 0 ≤ (A + a) * (B - b) := Int.mul_nonneg (by omega) (by omega)
  simp only [Int.sub_mul, Int.add_mul, Int.mul_sub, Int.mul_add] at k1 k2 k3 k4
  omega
theorem side_range {p q r : Sp} (hp : Pt p) (hq : Pt q) (hr : Pt r) : -2251799813685248 ≤ side p q r ∧ side p q r ≤ 2251799813685248 ∧
    (-1125899906842624 ≤ (q.1 - p.1) * (r.2 - p.2) ∧ (q.1 - p.1) * (r.2 - p.2) ≤ 1125899906842624) ∧ (-1125899906842624 ≤ (q.2 - p.2) * (r.1 - p.1) ∧ (q.2 - p.2) * (r.1 - p.1) ≤ 1125899906842624) := by
  obtain ⟨a1, a2, a3, a4⟩ := hp
  obtain ⟨b1, b2, b3, b4⟩ := hq
  obtain ⟨c1, c2, c3, c4⟩ := hr
  have m1 := mul_le (a := q.1 - p.1) (b := r.2 - p.2) (A := 33554432) (B := 33554432) (by omega) (by omega) (by omega) (by omega)
  have m2 := mul_le (a := q.2 - p.2) (b := r.1 - p.1) (A := 33554432) (B := 33554432) (by omega) (by omega) (by omega) (by omega)
  unfold side
  omega
theorem side_any (p q r : Sp) (hp : Pt p) (hq : Pt q) (hr : Pt r) (w : World) :
    Calls Tryd.prog 20 #[.agg #[.int .i64 p.1, .int .i64 p.2], .agg #[.int .i64 q.1, .int .i64 q.2], .agg #[.int .i64 r.1, .int .i64 r.2]] w fun e w' => e = .returned (.int .i64 (side p q r)) ∧ Below w.heap.size w w' := by
  obtain ⟨s1, s2, ⟨s3, s4⟩, s5, s6⟩ := side_range hp hq hr
  have hs : Hid (side p q r = (q.1 - p.1) * (r.2 - p.2) - (q.2 - p.2) * (r.1 - p.1)) := Lib.hid rfl
  obtain ⟨a, b⟩ := p
  obtain ⟨c, d⟩ := q
  obtain ⟨e, f⟩ := r
  obtain ⟨a1, a2, a3, a4⟩ := hp
  obtain ⟨b1, b2, b3, b4⟩ := hq
  obtain ⟨c1, c2, c3, c4⟩ := hr
  simp only at *
  generalize side (a, b) (c, d) (e, f) = S at *
  clear s1 s2
  go_enter Tryd.func20, Tryd.ntmps20
  go_wp2
  go_ret
  refine ⟨?_, (((Below.refl _ _).alloc (Nat.le_refl _) _).alloc (by simp) _).alloc (by simp; omega) _⟩
  rw [hs.out]; rfl
set_option maxHeartbeats 400000 in
theorem on_any (p q r : Sp) (hp : Pt p) (hq : Pt q) (hr : Pt r) (w : World) :
    Calls Tryd.prog 19 #[.agg #[.int .i64 p.1, .int .i64 p.2], .agg #[.int .i64 q.1, .int .i64 q.2], .agg #[.int .i64 r.1, .int .i64 r.2]] w fun e w' => e = .returned (.bool (on p q r)) ∧ Below w.heap.size w w' := by
  have hs := Lib.hid (side_any p q r hp hq hr)
  have ho : Hid (on p q r = (side p q r == 0 && decide (min p.1 q.1 ≤ r.1) && decide (r.1 ≤ max p.1 q.1) && decide (min p.2 q.2 ≤ r.2) && decide (r.2 ≤ max p.2 q.2))) := Lib.hid rfl
  generalize on p q r = O at *
  generalize side p q r = S at *
  obtain ⟨a, b⟩ := p
  obtain ⟨c, d⟩ := q
  obtain ⟨e, f⟩ := r
  simp only at *
  clear hp hq hr
  go_enter Tryd.func19, Tryd.ntmps19
  go_wp2_with (go_at_call 20; refine (hs.out _).mono ?_; rintro e w1 ⟨rfl, hb⟩; have HB := Lib.hid hb; obtain ⟨hcl, hfr⟩ := bcell hb; clear hb)
  all_goals go_ret
  all_goals (refine ⟨?_, ((((Below.refl _ _).alloc (Nat.le_refl _) _).alloc (by simp) _).alloc (by simp; omega) _).trans (HB.out.mono (by simp; omega))⟩)
  all_goals (rw [ho.out]; exact ret_bool (by first | rfl | (rw [Bool.eq_iff_iff]; simp; done) | (rw [Bool.eq_iff_iff]; simp; omega)))
/-- the points of l lie at a place -/
def At (w : World) (g off : Nat) (l : List Sp) : Prop := ∀ i, i < l.length → w.cell? ⟨g, off + i * 2, none⟩ = some (.int .i64 (at_ l i).1) ∧ w.cell? ⟨g, off + i * 2 + 1, none⟩ = some (.int .i64 (at_ l i).2)
theorem At.below {w w' : World} {g off B : Nat} {l : List Sp} (h : At w g off l) (hb : Below B w w') (hg : g < B) : At w' g off l :=
  fun i hi => ⟨(hb.cell (p := ⟨g, off + i * 2, none⟩) hg).trans (h i hi).1, (hb.cell (p := ⟨g, off + i * 2 + 1, none⟩) hg).trans (h i hi).2⟩
def Pts (l : List Sp) : Prop := ∀ i, i < l.length → Pt (at_ l i)
theorem cross_range {p q : Sp} (hp : Pt p) (hq : Pt q) : (-281474976710656 ≤ p.1 * q.2 ∧ p.1 * q.2 ≤ 281474976710656) ∧ (-281474976710656 ≤ q.1 * p.2 ∧ q.1 * p.2 ≤ 281474976710656) := by
  obtain ⟨a1, a2, a3, a4⟩ := hp
  obtain ⟨b1, b2, b3, b4⟩ := hq
  exact ⟨mul_le (A := 16777216) (B := 16777216) (by omega) (by omega) (by omega) (by omega), mul_le (A := 16777216) (B := 16777216) (by omega) (by omega) (by omega) (by omega)⟩
theorem area_range {l : List Sp} (h : Pts l) : ∀ k, k ≤ l.length → -(562949953421312 * (k : Int)) ≤ areaTo l k ∧ areaTo l k ≤ 562949953421312 * (k : Int)
  | 0, _ => by unfold areaTo sumTo; omega
  | k + 1, hk => by
    have ih := area_range h k (by omega)
    have hn : nx l k < l.length := by unfold nx; exact Nat.mod_lt _ (by omega)
    have hc := cross_range (h k (by omega)) (h _ hn)
    have he : areaTo l (k + 1) = areaTo l k + ((at_ l k).1 * (at_ l (nx l k)).2 - (at_ l (nx l k)).1 * (at_ l k).2) := rfl
    rw [he]
    omega
set_option maxHeartbeats 400000 in
theorem area_any (g off c : Nat) (l : List Sp) (h1 : 1 ≤ l.length) (hn : l.length ≤ 4000) (hp : Pts l) (w : World) (hc : At w g off l) (hg : g < w.heap.size) :
    Calls Tryd.prog 17 #[.slice (some ⟨g, off, none⟩) l.length c] w fun e w' => e = .returned (.int .i64 (area l)) ∧ Below w.heap.size w w' := by
  obtain ⟨n, hnl⟩ : ∃ n, n = l.length := ⟨_, rfl⟩
  have HL := Lib.hid hnl
  rw [← hnl] at h1 hn ⊢
  clear hnl
  have HP := Lib.hid hp; clear hp
  have HC := Lib.hid hc; clear hc
  go_enter Tryd.func17, Tryd.ntmps17
  go_wp2
  go_loopw [3, 9] (fun s i wr => ∃ k : Nat, k ≤ n ∧ i = .int .i64 (k : Int) ∧ s = .int .i64 (areaTo l k) ∧ Below w.heap.size w wr) (fun _ i _ => n - (intOf i).toNat)
  case atStart => exact ⟨0, by omega, rfl, rfl, Below.refl _ _⟩
  case round =>
    obtain ⟨k, hk, rfl, rfl, hb⟩ := hrel
    have HB := Lib.hid hb
    have hz := hb.size
    clear hb
    by_cases hlt : k < n
    · have hA := HC.out.below HB.out hg
      have hnx : nx l k < n := by unfold nx; rw [← HL.out]; exact Nat.mod_lt _ (by omega)
      obtain ⟨c1, c2⟩ := hA k (by rw [← HL.out]; exact hlt)
      obtain ⟨d1, d2⟩ := hA (nx l k) (by rw [← HL.out]; exact hnx)
      have hm : ((k : Int) + 1) % (n : Int) = ((nx l k : Nat) : Int) := by unfold nx; rw [← HL.out, Int.natCast_emod]; rfl
      have hgw : g < wr.heap.size := by omega
      have hr := cross_range (HP.out k (by rw [← HL.out]; exact hlt)) (HP.out (nx l k) (by rw [← HL.out]; exact hnx))
      have hs := area_range HP.out k (by rw [← HL.out]; omega)
      have he : Hid (areaTo l (k + 1) = areaTo l k + ((at_ l k).1 * (at_ l (nx l k)).2 - (at_ l (nx l k)).1 * (at_ l k).2)) := Lib.hid rfl
      generalize areaTo l k = S at *
      generalize nx l k = j at *
      generalize at_ l k = a at *
      generalize at_ l j = b at *
      obtain ⟨⟨q1, q2⟩, q3, q4⟩ := hr
      have s1 : -2251799813685248000 ≤ S := by omega
      have s2 : S ≤ 2251799813685248000 := by omega
      clear hs hA
      go_wp2
      go_roundw
      case rel =>
        refine ⟨k + 1, by omega, by go_num, ?_, ?_⟩
        · exact congrArg (Value.int .i64) he.out.symm
        · exact ((HB.out.alloc hz _).alloc (by simp; omega) _)
      case measure => simp [intOf]; omega
    · obtain rfl : k = n := by omega
      go_wp2
      go_ret
      exact ⟨ret_int (by unfold area; rw [← HL.out]), HB.out⟩
end Go.Proofs.YtdbgkhcknaafoaaDoor
