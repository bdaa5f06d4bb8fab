/-
  Contracts: RingError, Area, few, ringed, Where.
-/
import Derived.Test.YtdbgkhcknaafoaaDoorS2
namespace Go.Proofs.YtdbgkhcknaafoaaDoor
open Go Go.RowKit Shp
set_option maxRecDepth 100000
theorem spot_same (w : World) {a b : Sp} (h : a = b) : (binOp .eql 24 (.agg #[.int .i64 a.1, .int .i64 a.2]) (.agg #[.int .i64 b.1, .int .i64 b.2])).run Tryd.prog w = .ok (.bool true) w := by
  rw [spot_eql, h]; simp
def RetRing (l : List Sp) (e : Ending) : Prop := ∃ r : Int, e = .returned (.int .i64 r) ∧ 0 ≤ r ∧ (r = 0 ↔ Ring l)
theorem re_short (l : List Sp) (pa : Option Addr) (c : Nat) (h : l.length < 3 ∨ 4000 < l.length) (hw : l.length ≤ 9223372036854775807) (w : World) :
    Calls Tryd.prog 7 #[.slice pa l.length c] w fun e w' => RetRing l e ∧ Below w.heap.size w w' := by
  have hr : Hid (¬ Ring l) := Lib.hid (fun hr => by have := hr.1; have := hr.2.1; omega)
  generalize l.length = n at *
  rcases h with h | h
  all_goals
    go_enter Tryd.func7, Tryd.ntmps7
    go_wp2
    go_ret
  · exact ⟨⟨3, rfl, by decide, by simp [hr.out]⟩, Below.refl _ _⟩
  · exact ⟨⟨2, rfl, by decide, by simp [hr.out]⟩, Below.refl _ _⟩
set_option maxHeartbeats 800000 in
theorem re_long (g off c : Nat) (l : List Sp) (h3 : 3 ≤ l.length) (hn : l.length ≤ 4000) (w : World) (hc : At w g off l) (hg : g < w.heap.size) :
    Calls Tryd.prog 7 #[.slice (some ⟨g, off, none⟩) l.length c] w fun e w' => RetRing l e ∧ Below w.heap.size w w' := by
  obtain ⟨n, hnl⟩ : ∃ n, n = l.length := ⟨_, rfl⟩
  have HL := Lib.hid hnl
  rw [← hnl] at h3 hn ⊢
  clear hnl
  have HC := Lib.hid hc; clear hc
  go_enter Tryd.func7, Tryd.ntmps7
  go_wp2
  go_loopw [3] (fun i wr => ∃ k : Nat, k ≤ n ∧ i = .int .i64 (k : Int) ∧ (∀ i, i < k → Good l i) ∧ Below w.heap.size w wr) (fun i _ => n - (intOf i).toNat)
  case atStart => exact ⟨0, by omega, rfl, fun i hi => absurd hi (Nat.not_lt_zero i), Below.refl _ _⟩
  case round =>
    obtain ⟨k, hk, rfl, hgd, hb⟩ := hrel
    have HB := Lib.hid hb
    have HG := Lib.hid hgd
    have hz := hb.size
    clear hb hgd
    by_cases hlt : k < n
    · have hA := HC.out.below HB.out hg
      have hnx : nx l k < n := by unfold nx; rw [← HL.out]; exact Nat.mod_lt _ (by omega)
      obtain ⟨c1, c2⟩ := hA k (by rw [← HL.out]; exact hlt)
      obtain ⟨d1, d2⟩ := hA (nx l k) (by rw [← HL.out]; exact hnx)
      have hgw : g < wr.heap.size := by omega
      have HN : Hid (Good l k ↔ Pt (at_ l k) ∧ at_ l k ≠ at_ l (nx l k)) := Lib.hid Iff.rfl
      have hj : Hid (nx l k = if k + 1 = n then 0 else k + 1) := Lib.hid (by
        unfold nx; rw [← HL.out]; split
        · rename_i h; rw [h, Nat.mod_self]
        · exact Nat.mod_eq_of_lt (by omega))
      have HX : Hid (Good l k → ∀ i, i < k + 1 → Good l i) := Lib.hid (fun h i hi => by
        rcases Nat.lt_succ_iff_lt_or_eq.mp hi with h1 | h1
        · exact HG.out i h1
        · exact h1 ▸ h)
      have HY : Hid (¬ Good l k → ¬ Ring l) := Lib.hid (fun h hr => h (hr.2.2 k (by rw [← HL.out]; exact hlt)))
      generalize Good l k = GK at *
      generalize nx l k = j at *
      generalize at_ l k = a at *
      generalize at_ l j = b at *
      clear hA
      have hgd : Tryd.prog.eqGuardType Tryd.prog.depth 24 = false := by kernel_rfl
      by_cases hP : Pt a
      · have hf := Lib.hid (grt_false hP)
        by_cases hlast : k + 1 = n
        · have hj0 := hj.out; rw [if_pos hlast] at hj0; subst hj0
          rw [Nat.zero_mul, Nat.add_zero] at d1 d2
          have hlast' : (k : Int) + 1 = (n : Int) := by omega
          by_cases he : a = b
          · skip
            have hq : ∀ w', (binOp .eql 24 (.agg #[.int .i64 a.1, .int .i64 a.2]) (.agg #[.int .i64 b.1, .int .i64 b.2])).run Tryd.prog w' = .ok (.bool true) w' := fun w' => spot_same w' he
            have HE := Lib.hid he; clear he
            go_wp2_with (go_at_call 8; refine (IsPlace_any _ _ _).mono ?_; rintro e w1 ⟨rfl, hb1⟩; rw [hf.out]; have HB1 := Lib.hid hb1; obtain ⟨hcl, hfr⟩ := bcell hb1; have hz1 := hb1.size; clear hb1)
            go_quiet (fail)
            go_wp2
            go_ret
            exact ⟨⟨3, rfl, by decide, by simp; exact HY.out (fun h => (HN.out.mp h).2 HE.out)⟩, below_drewN (HB.out.trans (HB1.out.mono hz)) _⟩
          · skip
            have hq : ∀ w', (binOp .eql 24 (.agg #[.int .i64 a.1, .int .i64 a.2]) (.agg #[.int .i64 b.1, .int .i64 b.2])).run Tryd.prog w' = .ok (.bool false) w' := fun w' => spot_ne w' he
            have HE := Lib.hid he; clear he
            go_wp2_with (go_at_call 8; refine (IsPlace_any _ _ _).mono ?_; rintro e w1 ⟨rfl, hb1⟩; rw [hf.out]; have HB1 := Lib.hid hb1; obtain ⟨hcl, hfr⟩ := bcell hb1; have hz1 := hb1.size; clear hb1)
            go_quiet (fail)
            go_wp2
            go_roundw
            case rel => exact ⟨k + 1, by omega, by go_num, HX.out (HN.out.mpr ⟨hP, HE.out⟩), below_drewN (HB.out.trans (HB1.out.mono hz)) _⟩
            case measure => simp [intOf]; omega
        · have hj0 := hj.out; rw [if_neg hlast] at hj0; subst hj0
          have hlast' : ¬ ((k : Int) + 1 = (n : Int)) := by omega
          have hk1 : (k : Int) + 1 < (n : Int) := by omega
          clear hlast
          by_cases he : a = b
          · skip
            have hq : ∀ w', (binOp .eql 24 (.agg #[.int .i64 a.1, .int .i64 a.2]) (.agg #[.int .i64 b.1, .int .i64 b.2])).run Tryd.prog w' = .ok (.bool true) w' := fun w' => spot_same w' he
            have HE := Lib.hid he; clear he
            go_wp2_with (go_at_call 8; refine (IsPlace_any _ _ _).mono ?_; rintro e w1 ⟨rfl, hb1⟩; rw [hf.out]; have HB1 := Lib.hid hb1; obtain ⟨hcl, hfr⟩ := bcell hb1; have hz1 := hb1.size; clear hb1)
            go_quiet (fail)
            go_wp2
            go_ret
            exact ⟨⟨3, rfl, by decide, by simp; exact HY.out (fun h => (HN.out.mp h).2 HE.out)⟩, below_drewN (HB.out.trans (HB1.out.mono hz)) _⟩
          · skip
            have hq : ∀ w', (binOp .eql 24 (.agg #[.int .i64 a.1, .int .i64 a.2]) (.agg #[.int .i64 b.1, .int .i64 b.2])).run Tryd.prog w' = .ok (.bool false) w' := fun w' => spot_ne w' he
            have HE := Lib.hid he; clear he
            go_wp2_with (go_at_call 8; refine (IsPlace_any _ _ _).mono ?_; rintro e w1 ⟨rfl, hb1⟩; rw [hf.out]; have HB1 := Lib.hid hb1; obtain ⟨hcl, hfr⟩ := bcell hb1; have hz1 := hb1.size; clear hb1)
            go_quiet (fail)
            go_wp2
            go_roundw
            case rel => exact ⟨k + 1, by omega, by go_num, HX.out (HN.out.mpr ⟨hP, HE.out⟩), below_drewN (HB.out.trans (HB1.out.mono hz)) _⟩
            case measure => simp [intOf]; omega
      · have hf := Lib.hid (grt_true hP)
        by_cases hlast : k + 1 = n
        · have hlast' : (k : Int) + 1 = (n : Int) := by omega
          go_wp2_with (go_at_call 8; refine (IsPlace_any _ _ _).mono ?_; rintro e w1 ⟨rfl, hb1⟩; rw [hf.out]; have HB1 := Lib.hid hb1; obtain ⟨hcl, hfr⟩ := bcell hb1; have hz1 := hb1.size; clear hb1)
          go_quiet (fail)
          go_wp2
          go_ret
          exact ⟨⟨3, rfl, by decide, by simp; exact HY.out (fun h => hP (HN.out.mp h).1)⟩, below_drewN (HB.out.trans (HB1.out.mono hz)) _⟩
        · have hlast' : ¬ ((k : Int) + 1 = (n : Int)) := by omega
          clear hlast
          go_wp2_with (go_at_call 8; refine (IsPlace_any _ _ _).mono ?_; rintro e w1 ⟨rfl, hb1⟩; rw [hf.out]; have HB1 := Lib.hid hb1; obtain ⟨hcl, hfr⟩ := bcell hb1; have hz1 := hb1.size; clear hb1)
          go_quiet (fail)
          go_wp2
          go_ret
          exact ⟨⟨3, rfl, by decide, by simp; exact HY.out (fun h => hP (HN.out.mp h).1)⟩, below_drewN (HB.out.trans (HB1.out.mono hz)) _⟩
    · obtain rfl : k = n := by omega
      go_wp2
      go_ret
      exact ⟨⟨0, rfl, by decide, by simp; exact ⟨by rw [← HL.out]; exact h3, by rw [← HL.out]; exact hn, fun i hi => HG.out i (by rw [HL.out]; exact hi)⟩⟩, HB.out⟩
theorem ret_area {a b : Int} (h : a = b) : Ending.returned (.tuple #[.int .i64 a, .nilIface]) = .returned (.tuple #[.int .i64 b, .nilIface]) := by rw [h]
theorem Area_ring (g off c : Nat) (l : List Sp) (hr : Ring l) (w : World) (hc : At w g off l) (hg : g < w.heap.size) :
    Calls Tryd.prog 9 #[.slice (some ⟨g, off, none⟩) l.length c] w fun e w' => e = .returned (.tuple #[.int .i64 (area l), .nilIface]) ∧ Below w.heap.size w w' := by
  have H1 := Lib.hid (ring_yes g off c l hr w hc hg)
  have H2 := Lib.hid (fun (w1 : World) (hb : Below w.heap.size w w1) => area_any g off c l (by have := hr.1; omega) hr.2.1 hr.pts w1 (hc.below hb hg) (by have := hb.size; omega))
  clear hr hc
  generalize l.length = n at *
  generalize area l = A at *
  go_enter Tryd.func9, Tryd.ntmps9
  go_wp2_with (first
    | (go_at_call 16; refine H1.out.mono ?_; rintro e w1 ⟨rfl, hb1⟩; have HB1 := Lib.hid hb1; clear hb1)
    | (go_at_call 17; refine (H2.out _ HB1.out).mono ?_; rintro e w2 ⟨rfl, hb2⟩; have HB2 := Lib.hid hb2; clear hb2))
  go_ret2
  exact ⟨rfl, HB1.out.trans (HB2.out.mono HB1.out.size)⟩
theorem few_yes (pa : Option Addr) (n c : Nat) (h : n ≤ 30) (w : World) :
    Calls Tryd.prog 6 #[.slice pa n c] w fun e w' => e = .returned (.bool true) ∧ w' = w := by
  go_enter Tryd.func6, Tryd.ntmps6
  go_wp2
  all_goals go_ret
  all_goals exact ⟨rfl, rfl⟩
theorem few_no (pa : Option Addr) (n c : Nat) (h : 30 < n) (hn : n ≤ 4000) (w : World) :
    Calls Tryd.prog 6 #[.slice pa n c] w fun e w' => e = .returned (.bool false) ∧ w' = w := by
  have hd : decide ((n : Int) ≤ 30) = false := by rw [decide_eq_false_iff_not]; omega
  go_enter Tryd.func6, Tryd.ntmps6
  go_wp2
  all_goals go_ret
  all_goals exact ⟨rfl, rfl⟩
def RetB (e : Ending) : Prop := ∃ b : Bool, e = .returned (.bool b)
theorem few_any (pa : Option Addr) (n c : Nat) (hn : n ≤ 9223372036854775807) (w : World) :
    Calls Tryd.prog 6 #[.slice pa n c] w fun e w' => RetB e ∧ w' = w := by
  go_enter Tryd.func6, Tryd.ntmps6
  go_wp2
  all_goals go_ret
  all_goals exact ⟨⟨_, rfl⟩, rfl⟩
theorem at_three (w : World) (t : TypeId) : At (w.alloc (.cells #[.int .i64 0, .int .i64 0, .int .i64 4, .int .i64 0, .int .i64 0, .int .i64 3] t)) w.heap.size 0 [(0, 0), (4, 0), (0, 3)] := by
  intro i hi
  rcases i with _ | _ | _ | i
  · exact ⟨World.cell?_alloc_new _ _ _ _, World.cell?_alloc_new _ _ _ _⟩
  · exact ⟨World.cell?_alloc_new _ _ _ _, World.cell?_alloc_new _ _ _ _⟩
  · exact ⟨World.cell?_alloc_new _ _ _ _, World.cell?_alloc_new _ _ _ _⟩
  · simp at hi; omega
theorem ringed_any (w : World) :
    Calls Tryd.prog 5 #[] w fun e w' => e = .returned (.bool true) ∧ Below w.heap.size w w' := by
  have hr : Hid (Ring [(0, 0), (4, 0), (0, 3)]) := Lib.hid ⟨by decide, by decide, fun i hi => by
    rcases i with _ | _ | _ | i
    · unfold Good Pt; decide
    · unfold Good Pt; decide
    · unfold Good Pt; decide
    · simp at hi; omega⟩
  have ha : Hid (area [(0, 0), (4, 0), (0, 3)] = 12) := Lib.hid (by decide)
  go_enter Tryd.func5, Tryd.ntmps5
  go_wp2_with (go_at_call 9; refine (Area_ring _ 0 3 [(0, 0), (4, 0), (0, 3)] hr.out _ (at_three _ _) (by rw [World.size_alloc]; exact Nat.lt_succ_self _)).mono ?_; rintro e w1 ⟨rfl, hb1⟩; have HB1 := Lib.hid hb1; clear hb1; rw [ha.out])
  go_ret
  exact ⟨rfl, ((Below.refl _ _).alloc (Nat.le_refl _) _).trans (HB1.out.mono (by simp))⟩
end Go.Proofs.YtdbgkhcknaafoaaDoor
