/-
  The law GrainAngles returns true, for every angle and every three floats.
-/
import Derived.Test.YtlmmhmoihmlljaaG5
import Derived.Test.YtlmmhmoihmlljaaG7
namespace Go.Proofs.Ytlmmhmoihmlljaa
open Go Go.RowKit Fl Fs
set_option maxRecDepth 100000
attribute [local go_sem] run_store_float run_neg_float
/-- both ways to an angle of a point give the same -/
theorem angle_or (x y : Nat) (lx : x < 2 ^ 64) (ly : y < 2 ^ 64) : ∃ (t : Int) (b : Bool),
    (∀ w, Calls Try.prog 13 #[.float .f64 y, .float .f64 x] w fun e w' => e = .returned (.tuple #[.int .i64 t, .bool b]) ∧ Below w.heap.size w w') ∧
    (∀ w, Calls Try.prog 14 #[.float .f64 y, .float .f64 x] w (Ret (.tuple #[.int .i64 t, .bool b]) w)) := by
  cases hx : fin x with
  | false => exact ⟨0, false, Angle_no1 x y hx, AngleOf_no1 x y hx⟩
  | true =>
    cases hy : fin y with
    | false => exact ⟨0, false, Angle_no2 x y hx hy, AngleOf_no2 x y hx hy⟩
    | true =>
      obtain ⟨s, hs⟩ := order_zero hx
      obtain ⟨t, ht⟩ := order_zero hy
      by_cases h : s = .eq ∧ t = .eq
      · obtain ⟨rfl, rfl⟩ := h
        exact ⟨0, false, Angle_no3 x y hx hy hs ht, AngleOf_no3 x y hx hy hs ht⟩
      · exact ⟨_, _, Angle_yes x y lx ly hx hy s t hs ht h, AngleOf_yes x y lx ly hx hy s t hs ht h⟩
set_option maxHeartbeats 1000000 in
theorem GrainAngles_calls (a : Int) (x y z : Nat) (lx : x < 2 ^ 64) (ly : y < 2 ^ 64) (w : World) :
    Calls Try.prog 3 #[.int .i64 a, .float .f64 x, .float .f64 y, .float .f64 z] w fun e w' => e = .returned (.bool true) ∧ Below w.heap.size w w' := by
  obtain ⟨t, b, hA, hB⟩ := angle_or x y lx ly
  have HA := Lib.hid hA; clear hA
  have HB := Lib.hid hB; clear hB lx ly
  obtain ⟨D, hD⟩ : ∃ D, D = (if 180000000000 < G.norm a then G.norm a - 360000000000 else G.norm a) := ⟨_, rfl⟩
  have HS : Hid (∀ w, Calls Try.prog 18 #[.int .i64 a] w fun e w' => e = .returned (.int .i64 D) ∧ w = w') := Lib.hid (fun w => by rw [hD]; exact Signed_any a w)
  have HT : Hid (∀ w, Calls Try.prog 19 #[.int .i64 a] w fun e w' => e = .returned (.int .i64 D) ∧ w = w') := Lib.hid (fun w => by rw [hD]; exact SignedAngle_any a w)
  clear hD
  have hm : Hid (G.norm (-1) = 359999999999) := Lib.hid rfl
  go_enter Try.func3, Try.ntmps3
  go_wp2_with fail
  refine (Norm_any _ _).mono ?_; rintro e w' ⟨rfl, rfl⟩; rw [hm.out]
  go_wp2_with fail
  refine (SinCos_any _ _).mono ?_; rintro e w' ⟨rfl, rfl⟩
  go_wp2_with fail
  refine (Sin_any _ _).mono ?_; rintro e w1 ⟨rfl, hb1⟩; have B1 := Lib.hid hb1; clear hb1
  go_wp2_with fail
  refine (SameBits_sim (Sim.refl _) _).mono ?_; rintro e w' ⟨rfl, rfl⟩
  go_wp2_with fail
  refine (Cos_any _ _).mono ?_; rintro e w2 ⟨rfl, hb2⟩; have B2 := Lib.hid hb2; clear hb2
  go_wp2_with fail
  refine (SameBits_sim (Sim.refl _) _).mono ?_; rintro e w' ⟨rfl, rfl⟩
  go_wp2_with fail
  refine (HA.out _).mono ?_; rintro e w3 ⟨rfl, hb3⟩; have B3 := Lib.hid hb3; clear hb3
  go_wp2_with fail
  refine (HB.out _).mono ?_; rintro e w4 ⟨n, rfl, hb4⟩
  have B4 : Hid (Below w3.heap.size w3 w4) := by rw [← hb4]; exact below_drewN (Below.refl _ _) n
  clear hb4
  go_wp2_with fail
  go_region_held3 (fun w' => w'.cell? ⟨w4.heap.size, 0, none⟩ = some (.float .f64 x) ∧ w'.cell? ⟨w4.heap.size, 1, none⟩ = some (.float .f64 y) ∧ w'.cell? ⟨w4.heap.size, 2, none⟩ = some (.float .f64 z))
    (first
      | go_keep
      | (go_split_ands
         refine ⟨?_, ?_, ?_⟩
         · (rw [b5c.cell (by simp)]; assumption)
         · (rw [b5c.cell (by simp)]; assumption)
         · (rw [b5c.cell (by simp)]; assumption))
      | (go_split_ands
         refine ⟨?_, ?_, ?_⟩
         · (rw [b6c.cell z5]; assumption)
         · (rw [b6c.cell z5]; assumption)
         · (rw [b6c.cell z5]; assumption)))
    (first
      | (go_at_call 15; refine (Length_any _ _ _ _).mono ?_; rintro e w5 ⟨r5, rfl, h5, b5c⟩; have z5 : w4.heap.size < w5.heap.size := (by have := b5c.size; simp at this; omega))
      | (go_at_call 16; refine (LengthOf_any _ _ _ _).mono ?_; rintro e w6 ⟨r6, rfl, h6, b6c⟩)
      | (go_at_call 10; refine (SameBits_sim (h5.trans h6.symm) _).mono ?_; rintro e w7 ⟨rfl, rfl⟩))
  have B5 : Hid (Below w4.heap.size w4 w6) := by
    have h5 := (((Below.refl w4.heap.size w4).alloc (Nat.le_refl _) (.cells #[.float .f64 x, .float .f64 y, .float .f64 z] 31)))
    exact (below_drewN h5 1).trans ((b5c.mono (by simp)).trans (b6c.mono (by omega)))
  clear b5c b6c z5 h5 h6
  go_wp2_with fail
  generalize hN : G.norm a = N at *
  have HN := Lib.hid hN; clear hN
  refine (Norm_any _ _).mono ?_; rintro e w' ⟨rfl, rfl⟩; rw [HN.out]
  go_wp2_with fail
  refine (NormOf_any _ _).mono ?_; rintro e w' ⟨rfl, rfl⟩; rw [HN.out]
  go_wp2_with fail
  refine (HS.out _).mono ?_; rintro e w' ⟨rfl, rfl⟩
  go_wp2_with fail
  refine (HT.out _).mono ?_; rintro e w' ⟨rfl, rfl⟩
  go_wp2_with fail
  go_ret
  have b1 := B1.out
  have b2 := b1.trans (B2.out.mono b1.size)
  have b3 := b2.trans (B3.out.mono b2.size)
  have b4 := b3.trans (B4.out.mono b3.size)
  exact ⟨rfl, b4.trans (B5.out.mono b4.size)⟩
end Go.Proofs.Ytlmmhmoihmlljaa
