/-
  The law ShapeTurned answers true where nothing is asked: its walk.
-/
import Derived.Test.YtdbgkhcknaafoaaDoorS5
namespace Go.Proofs.YtdbgkhcknaafoaaDoor
open Go Go.RowKit Shp
set_option maxRecDepth 100000
theorem turned_skip (pa : Option Addr) (n c : Nat) (p by_ : Sp) (k : Int) (l : List Sp) (hw : n ≤ 9223372036854775807) (w : World)
    (H : ∀ w1, Below w.heap.size w w1 → Calls Tryd.prog 7 #[.slice pa n c] w1 fun e w' => RetRing l e ∧ Below w1.heap.size w1 w') (h : ¬ Ring l ∨ k < 0 ∨ (n : Int) ≤ k) :
    Calls Tryd.prog 3 #[.slice pa n c, .agg #[.int .i64 p.1, .int .i64 p.2], .int .i64 k, .agg #[.int .i64 by_.1, .int .i64 by_.2]] w fun e w' => e = .returned (.bool true) ∧ Below w.heap.size w w' := by
  have HH := Lib.hid H; clear H
  have hx := Lib.hid h; clear h
  go_enter Tryd.func3, Tryd.ntmps3
  have hB : Below w.heap.size w ((w.alloc (.cells #[.int .i64 p.1, .int .i64 p.2] 24)).alloc (.cells #[.int .i64 by_.1, .int .i64 by_.2] 24)) := ((Below.refl _ _).alloc (Nat.le_refl _) _).alloc (by simp) _
  have HB := Lib.hid hB; clear hB
  go_wp2_with fail
  generalize ((w.alloc (.cells #[.int .i64 p.1, .int .i64 p.2] 24)).alloc (.cells #[.int .i64 by_.1, .int .i64 by_.2] 24)) = W1 at *
  go_at_call 5
  refine (ringed_any _).mono ?_
  rintro e w2 ⟨rfl, hb⟩
  replace HB := Lib.hid (HB.out.trans (hb.mono HB.out.size))
  clear hb
  go_wp2_with fail
  go_at_call 6
  refine (few_any _ _ _ hw _).mono ?_
  rintro e w3 ⟨⟨b, rfl⟩, hs3⟩
  subst hs3
  cases b
  · go_wp2
    go_ret
    exact ⟨rfl, HB.out⟩
  · by_cases hr : Ring l
    · have hk : k < 0 ∨ (n : Int) ≤ k := by
        rcases hx.out with h | h
        · exact absurd hr h
        · exact h
      rcases hk with hk | hk
      all_goals
        go_wp2_with (go_at_call 7; refine (HH.out _ HB.out).mono ?_; rintro e w4 ⟨⟨r, rfl, hr0, hr1⟩, hb4⟩; obtain rfl := hr1.mpr hr; have HB4 := Lib.hid hb4; clear hb4 hr0 hr1)
        all_goals go_ret
        all_goals exact ⟨rfl, HB.out.trans (HB4.out.mono HB.out.size)⟩
    · go_wp2_with (go_at_call 7; refine (HH.out _ HB.out).mono ?_; rintro e w4 ⟨⟨r, rfl, hr0, hr1⟩, hb4⟩; have hrp : 0 < r := (by rcases Int.lt_or_eq_of_le hr0 with h | h; exact h; exact absurd (hr1.mp h.symm) hr); have HB4 := Lib.hid hb4; clear hb4 hr0 hr1)
      all_goals go_ret
      all_goals exact ⟨rfl, HB.out.trans (HB4.out.mono HB.out.size)⟩
theorem turned_many (pa : Option Addr) (n c : Nat) (p by_ : Sp) (k : Int) (h : 30 < n) (hn : n ≤ 4000) (w : World) :
    Calls Tryd.prog 3 #[.slice pa n c, .agg #[.int .i64 p.1, .int .i64 p.2], .int .i64 k, .agg #[.int .i64 by_.1, .int .i64 by_.2]] w fun e w' => e = .returned (.bool true) ∧ Below w.heap.size w w' := by
  go_enter Tryd.func3, Tryd.ntmps3
  have hB : Below w.heap.size w ((w.alloc (.cells #[.int .i64 p.1, .int .i64 p.2] 24)).alloc (.cells #[.int .i64 by_.1, .int .i64 by_.2] 24)) := ((Below.refl _ _).alloc (Nat.le_refl _) _).alloc (by simp) _
  have HB := Lib.hid hB; clear hB
  go_wp2_with fail
  generalize ((w.alloc (.cells #[.int .i64 p.1, .int .i64 p.2] 24)).alloc (.cells #[.int .i64 by_.1, .int .i64 by_.2] 24)) = W1 at *
  go_at_call 5
  refine (ringed_any _).mono ?_
  rintro e w2 ⟨rfl, hb⟩
  replace HB := Lib.hid (HB.out.trans (hb.mono HB.out.size))
  clear hb
  go_wp2_with fail
  go_at_call 6
  refine (few_no _ _ _ h hn _).mono ?_
  rintro e w3 ⟨rfl, hs3⟩
  subst hs3
  go_wp2
  go_ret
  exact ⟨rfl, HB.out⟩
end Go.Proofs.YtdbgkhcknaafoaaDoor
