/-
  Contracts: Norm, NormOf, Signed, SignedAngle, finite, Finite, SameBits at alike words, Plus.
-/
import Derived.Test.YtlmmhmoihmlljaaFlw
import Derived.Test.YtlmmhmoihmlljaaChecked
namespace Go.Proofs.Ytlmmhmoihmlljaa
open Go Go.RowKit Fl
set_option maxRecDepth 100000
/-! angles: Norm, NormOf, Signed, SignedAngle -/
namespace G
def turn : Int := 360000000000
def norm (a : Int) : Int := a % turn
theorem tmod_norm (a : Int) : (if a.tmod 360000000000 < 0 then a.tmod 360000000000 + 360000000000 else a.tmod 360000000000) = norm a := by
  unfold norm turn
  by_cases h : 0 ≤ a
  · rw [Int.tmod_eq_emod_of_nonneg h, if_neg (by omega)]
  · obtain ⟨b, hb⟩ : ∃ b, a = -b := ⟨-a, by omega⟩
    subst hb
    rw [Int.neg_tmod, Int.tmod_eq_emod_of_nonneg (by omega)]
    split <;> omega
theorem norm_range (a : Int) : 0 ≤ norm a ∧ norm a < 360000000000 := by unfold norm turn; omega
end G
theorem Norm_any (a : Int) (w : World) : Calls Try.prog 8 #[.int .i64 a] w fun e w' => e = .returned (.int .i64 (G.norm a)) ∧ w = w' := by
  rw [← G.tmod_norm a]
  have h1 := Int.tmod_lt_of_pos a (show (0 : Int) < 360000000000 by omega)
  have h2 : -360000000000 < a.tmod 360000000000 := by have := Int.lt_tmod_of_pos a (show (0 : Int) < 360000000000 by omega); omega
  go_enter Try.func8, Try.ntmps8
  go_wp2
  all_goals (go_ret; exact ⟨rfl, rfl⟩)
theorem NormOf_any (a : Int) (w : World) : Calls Try.prog 17 #[.int .i64 a] w fun e w' => e = .returned (.int .i64 (G.norm a)) ∧ w = w' := by
  rw [← G.tmod_norm a]
  have h1 := Int.tmod_lt_of_pos a (show (0 : Int) < 360000000000 by omega)
  have h2 : -360000000000 < a.tmod 360000000000 := by have := Int.lt_tmod_of_pos a (show (0 : Int) < 360000000000 by omega); omega
  go_enter Try.func17, Try.ntmps17
  go_wp2
  all_goals (go_ret; exact ⟨rfl, rfl⟩)
theorem Signed_any (a : Int) (w : World) : Calls Try.prog 18 #[.int .i64 a] w fun e w' => e = .returned (.int .i64 (if 180000000000 < G.norm a then G.norm a - 360000000000 else G.norm a)) ∧ w = w' := by
  obtain ⟨h1, h2⟩ := G.norm_range a
  go_enter Try.func18, Try.ntmps18
  go_wp2_with (go_at_call 8; refine (Norm_any a _).mono ?_; rintro e w' ⟨rfl, rfl⟩)
  all_goals (go_ret; exact ⟨rfl, rfl⟩)
theorem SignedAngle_any (a : Int) (w : World) : Calls Try.prog 19 #[.int .i64 a] w fun e w' => e = .returned (.int .i64 (if 180000000000 < G.norm a then G.norm a - 360000000000 else G.norm a)) ∧ w = w' := by
  obtain ⟨h1, h2⟩ := G.norm_range a
  go_enter Try.func19, Try.ntmps19
  go_wp2_with (go_at_call 17; refine (NormOf_any a _).mono ?_; rintro e w' ⟨rfl, rfl⟩)
  all_goals (go_ret; exact ⟨rfl, rfl⟩)
/-! floats -/
theorem finite_any (x : Nat) (w : World) : Calls Try.prog 38 #[.float .f64 x] w fun e w' => ∃ n, e = .returned (.bool (fin x)) ∧ w.drewN n = w' := by
  go_enter Try.func38, Try.ntmps38
  go_wp2_with (refine wpList_fl rfl rfl (by decide) rfl rfl ?_; intro r n hr)
  go_ret
  exact ⟨n, by rw [← got_fin hr]; rfl, rfl⟩
theorem Finite_any (x : Nat) (w : World) : Calls Try.prog 40 #[.float .f64 x] w fun e w' => ∃ n, e = .returned (.bool (fin x)) ∧ w.drewN n = w' := by
  go_enter Try.func40, Try.ntmps40
  go_wp2_with (refine wpList_fl rfl rfl (by decide) rfl rfl ?_; intro r n hr)
  go_ret
  exact ⟨n, by rw [← got_fin hr]; rfl, rfl⟩
theorem SameBits_sim {x y : Nat} (h : Sim x y) (w : World) : Calls Try.prog 10 #[.float .f64 x, .float .f64 y] w fun e w' => e = .returned (.bool true) ∧ w = w' := by
  cases hx : isNaN x with
  | true =>
    have hy : isNaN y = true := by
      rcases h with rfl | ⟨_, h⟩
      · exact hx
      · exact h
    have h1 := order_none_l x hx
    have h2 := order_none_l y hy
    clear h hx hy
    go_enter Try.func10, Try.ntmps10
    go_wp2
    go_ret
    exact ⟨rfl, rfl⟩
  | false =>
    have hy : y = x := by
      rcases h with rfl | ⟨h, _⟩
      · rfl
      · rw [hx] at h; cases h
    subst hy
    have h1 := order_self hx
    clear h hx
    go_enter Try.func10, Try.ntmps10
    go_wp2
    go_ret
    exact ⟨rfl, rfl⟩
theorem Plus_any (s a b s' a' b' : Nat) (hs : Sim s s') (ha : Sim a a') (hb : Sim b b') (w : World) : Calls Try.prog 42 #[.float .f64 s, .float .f64 a, .float .f64 b] w fun e w' => ∃ r n, e = .returned (.float .f64 r) ∧ Sim r (add s' (mul a' b')) ∧ w.drewN n = w' := by
  go_enter Try.func42, Try.ntmps42
  go_wp2_with (refine wpList_fl rfl rfl (by decide) rfl rfl ?_; intro r n hr)
  go_ret
  rename_i r1 n1 hr1
  exact ⟨r, _, rfl, got_add hs (got_mul ha hb hr1) hr, rfl⟩
end Go.Proofs.Ytlmmhmoihmlljaa
