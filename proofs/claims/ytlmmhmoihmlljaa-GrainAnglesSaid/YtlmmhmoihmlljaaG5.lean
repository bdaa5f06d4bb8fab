/-
  Contract: LengthOf, for every vector.
-/
import Derived.Test.YtlmmhmoihmlljaaG4
import Derived.Deep.RegionHeld3
namespace Go.Proofs.Ytlmmhmoihmlljaa
open Go Go.RowKit Fl Fs
set_option maxRecDepth 100000
attribute [local go_sem] run_store_float run_neg_float
theorem sim_add {a a' b b' : Nat} (ha : Sim a a') (hb : Sim b b') : Sim (add a b) (add a' b') :=
  got_add ha hb (by unfold add; cases Ieee.Format.add Ieee.double a b <;> first | rfl | exact qnan_isNaN)
theorem LengthOf_any (x y z : Nat) (w : World) : Calls Try.prog 16 #[.agg #[.float .f64 x, .float .f64 y, .float .f64 z]] w fun e w' => ∃ r, e = .returned (.float .f64 r) ∧ Sim r (Fl.sqrt (add (add (mul x x) (mul y y)) (mul z z))) ∧ Below w.heap.size w w' := by
  have hm := fun w => run_op (P := Try.prog) (op := .mul) (by decide) 22 x x w
  go_enter Try.func16, Try.ntmps16
  go_wp2
  refine wp_region_held_drew (S := (fun w' => w'.cell? ⟨w.heap.size, 0, none⟩ = some (.float .f64 x) ∧ w'.cell? ⟨w.heap.size, 1, none⟩ = some (.float .f64 y) ∧ w'.cell? ⟨w.heap.size, 2, none⟩ = some (.float .f64 z))) (by kernel_rfl) ?_ (fun hHeld => ?_)
  · simp [go_sem]
  refine' wpAnyH_take (i := 0) (oi := _) (v := _) ?h0 ?a0 ?b0 ?c0 ?d0 ?y0 ?s0 ?r0
  case h0 => exact rfl
  case a0 => kernel_rfl
  case b0 => kernel_rfl
  case c0 => kernel_rfl
  case d0 => exact fun _ _ _ h => h
  case s0 => exact hHeld
  case y0 =>
    refine Or.inl ⟨by rfl, ?_⟩
    intro w1 hS
    obtain ⟨c0, c1, c2⟩ := hS
    go_simp
    with_reducible rfl
  simp only [Act.put, List.setIfInBounds_toArray, List.set_cons_zero, List.set_cons_succ]
  refine' wpAnyH_take (i := 1) (oi := _) (v := _) ?h1 ?a1 ?b1 ?c1 ?d1 ?y1 ?s1 ?r1
  case h1 => exact rfl
  case a1 => kernel_rfl
  case b1 => kernel_rfl
  case c1 => kernel_rfl
  case d1 => exact fun _ _ _ h => h
  case s1 => exact hHeld
  case y1 =>
    refine Or.inl ⟨by rfl, ?_⟩
    intro w1 hS
    obtain ⟨c0, c1, c2⟩ := hS
    go_simp
    with_reducible rfl
  simp only [Act.put, List.setIfInBounds_toArray, List.set_cons_zero, List.set_cons_succ]
  refine' wpAnyH_take (i := 2) (oi := _) (v := _) ?h2 ?a2 ?b2 ?c2 ?d2 ?y2 ?s2 ?r2
  case h2 => exact rfl
  case a2 => kernel_rfl
  case b2 => kernel_rfl
  case c2 => kernel_rfl
  case d2 => exact fun _ _ _ h => h
  case s2 => exact hHeld
  case y2 =>
    refine Or.inl ⟨by rfl, ?_⟩
    intro w1 hS
    obtain ⟨c0, c1, c2⟩ := hS
    go_simp
    with_reducible rfl
  simp only [Act.put, List.setIfInBounds_toArray, List.set_cons_zero, List.set_cons_succ]
  refine' wpAnyH_take (i := 3) (oi := _) (v := _) ?h3 ?a3 ?b3 ?c3 ?d3 ?y3 ?s3 ?r3
  case h3 => exact rfl
  case a3 => kernel_rfl
  case b3 => kernel_rfl
  case c3 => kernel_rfl
  case d3 => exact fun _ _ _ h => h
  case s3 => exact hHeld
  case y3 =>
    refine Or.inl ⟨by rfl, ?_⟩
    intro w1 hS
    obtain ⟨c0, c1, c2⟩ := hS
    go_simp
    with_reducible rfl
  simp only [Act.put, List.setIfInBounds_toArray, List.set_cons_zero, List.set_cons_succ]
  refine' wpAnyH_take (i := 5) (oi := _) (v := _) ?h5 ?a5 ?b5 ?c5 ?d5 ?y5 ?s5 ?r5
  case h5 => exact rfl
  case a5 => kernel_rfl
  case b5 => kernel_rfl
  case c5 => kernel_rfl
  case d5 => exact fun _ _ _ h => h
  case s5 => exact hHeld
  case y5 =>
    refine Or.inl ⟨by rfl, ?_⟩
    intro w1 hS
    obtain ⟨c0, c1, c2⟩ := hS
    go_simp
    with_reducible rfl
  simp only [Act.put, List.setIfInBounds_toArray, List.set_cons_zero, List.set_cons_succ]
  refine' wpAnyH_take (i := 6) (oi := _) (v := _) ?h6 ?a6 ?b6 ?c6 ?d6 ?y6 ?s6 ?r6
  case h6 => exact rfl
  case a6 => kernel_rfl
  case b6 => kernel_rfl
  case c6 => kernel_rfl
  case d6 => exact fun _ _ _ h => h
  case s6 => exact hHeld
  case y6 =>
    refine Or.inl ⟨by rfl, ?_⟩
    intro w1 hS
    obtain ⟨c0, c1, c2⟩ := hS
    go_simp
    with_reducible rfl
  simp only [Act.put, List.setIfInBounds_toArray, List.set_cons_zero, List.set_cons_succ]
  refine' wpAnyH_take (i := 7) (oi := _) (v := _) ?h7 ?a7 ?b7 ?c7 ?d7 ?y7 ?s7 ?r7
  case h7 => exact rfl
  case a7 => kernel_rfl
  case b7 => kernel_rfl
  case c7 => kernel_rfl
  case d7 => exact fun _ _ _ h => h
  case s7 => exact hHeld
  case y7 =>
    refine Or.inl ⟨by rfl, ?_⟩
    intro w1 hS
    obtain ⟨c0, c1, c2⟩ := hS
    go_simp
    with_reducible rfl
  simp only [Act.put, List.setIfInBounds_toArray, List.set_cons_zero, List.set_cons_succ]
  refine' wpAnyH_take (i := 8) (oi := _) (v := _) ?h8 ?a8 ?b8 ?c8 ?d8 ?y8 ?s8 ?r8
  case h8 => exact rfl
  case a8 => kernel_rfl
  case b8 => kernel_rfl
  case c8 => kernel_rfl
  case d8 => exact fun _ _ _ h => h
  case s8 => exact hHeld
  case y8 =>
    refine Or.inl ⟨by rfl, ?_⟩
    intro w1 hS
    obtain ⟨c0, c1, c2⟩ := hS
    go_simp
    with_reducible rfl
  simp only [Act.put, List.setIfInBounds_toArray, List.set_cons_zero, List.set_cons_succ]
  refine' wpAnyH_take (i := 10) (oi := _) (v := _) ?h10 ?a10 ?b10 ?c10 ?d10 ?y10 ?s10 ?r10
  case h10 => exact rfl
  case a10 => kernel_rfl
  case b10 => kernel_rfl
  case c10 => kernel_rfl
  case d10 => exact fun _ _ _ h => h
  case s10 => exact hHeld
  case y10 =>
    refine Or.inl ⟨by rfl, ?_⟩
    intro w1 hS
    obtain ⟨c0, c1, c2⟩ := hS
    go_simp
    with_reducible rfl
  simp only [Act.put, List.setIfInBounds_toArray, List.set_cons_zero, List.set_cons_succ]
  refine' wpAnyH_take (i := 11) (oi := _) (v := _) ?h11 ?a11 ?b11 ?c11 ?d11 ?y11 ?s11 ?r11
  case h11 => exact rfl
  case a11 => kernel_rfl
  case b11 => kernel_rfl
  case c11 => kernel_rfl
  case d11 => exact fun _ _ _ h => h
  case s11 => exact hHeld
  case y11 =>
    refine Or.inl ⟨by rfl, ?_⟩
    intro w1 hS
    obtain ⟨c0, c1, c2⟩ := hS
    go_simp
    with_reducible rfl
  simp only [Act.put, List.setIfInBounds_toArray, List.set_cons_zero, List.set_cons_succ]
  refine' wpAnyH_take (i := 12) (oi := _) (v := _) ?h12 ?a12 ?b12 ?c12 ?d12 ?y12 ?s12 ?r12
  case h12 => exact rfl
  case a12 => kernel_rfl
  case b12 => kernel_rfl
  case c12 => kernel_rfl
  case d12 => exact fun _ _ _ h => h
  case s12 => exact hHeld
  case y12 =>
    refine Or.inl ⟨by rfl, ?_⟩
    intro w1 hS
    obtain ⟨c0, c1, c2⟩ := hS
    go_simp
    with_reducible rfl
  simp only [Act.put, List.setIfInBounds_toArray, List.set_cons_zero, List.set_cons_succ]
  refine' wpAnyH_take (i := 13) (oi := _) (v := _) ?h13 ?a13 ?b13 ?c13 ?d13 ?y13 ?s13 ?r13
  case h13 => exact rfl
  case a13 => kernel_rfl
  case b13 => kernel_rfl
  case c13 => kernel_rfl
  case d13 => exact fun _ _ _ h => h
  case s13 => exact hHeld
  case y13 =>
    refine Or.inl ⟨by rfl, ?_⟩
    intro w1 hS
    obtain ⟨c0, c1, c2⟩ := hS
    go_simp
    with_reducible rfl
  simp only [Act.put, List.setIfInBounds_toArray, List.set_cons_zero, List.set_cons_succ]
  refine wpAnyH_ready (rs := [4]) (by kernel_rfl) (by simp) ?_
  refine' AllReadyH.cons (o := _) rfl (fun K hK => ?k4) AllReadyH.nil
  case k4 =>
    go_simp
    refine hK.out _ _ ?s4 (fun hHeld => ?t4)
    case s4 => simp [go_sem]
    clear hK K
    refine wpAnyH_ready (rs := [9]) (by kernel_rfl) (by simp) ?_
    refine' AllReadyH.cons (o := _) rfl (fun K hK => ?k9) AllReadyH.nil
    case k9 =>
      (go_simp; refine (Plus_any _ _ _ _ _ _ (Sim.refl _) (Sim.refl _) (Sim.refl _) _).mono ?_; rintro e w1 ⟨r1, n1, rfl, hr1, rfl⟩; try go_simp)
      refine hK.out _ _ ?s9 (fun hHeld => ?t9)
      case s9 => simp [go_sem]
      clear hK K
      refine wpAnyH_ready (rs := [14]) (by kernel_rfl) (by simp) ?_
      refine' AllReadyH.cons (o := _) rfl (fun K hK => ?k14) AllReadyH.nil
      case k14 =>
        (go_simp; refine (Plus_any _ _ _ _ _ _ (Sim.refl _) (Sim.refl _) (Sim.refl _) _).mono ?_; rintro e w1 ⟨r2, n2, rfl, hr2, rfl⟩; try go_simp)
        refine hK.out _ _ ?s14 (fun hHeld => ?t14)
        case s14 => simp [go_sem]
        clear hK K
        refine wpAnyH_ready (rs := [15]) (by kernel_rfl) (by simp) ?_
        refine' AllReadyH.cons (o := _) rfl (fun K hK => ?k15) AllReadyH.nil
        case k15 =>
          (go_simp; refine (Sqrt_any _ _ (Sim.refl _) _).mono ?_; rintro e w1 ⟨r3, n3, rfl, hr3, rfl⟩; try go_simp)
          refine hK.out _ _ ?s15 (fun hHeld => ?t15)
          case s15 => simp [go_sem]
          clear hK K
          refine wpAnyH_ready (rs := [16]) (by kernel_rfl) (by simp) ?_
          refine' AllReadyH.cons (o := _) rfl (fun K hK => ?k16) AllReadyH.nil
          case k16 =>
            go_simp
            refine hK.out _ _ ?s16 (fun hHeld => ?t16)
            case s16 => simp [go_sem]
            clear hK K
            refine wpAnyH_done (by kernel_rfl) ?_ _
            go_wp2
            go_ret
            refine ⟨r3, rfl, hr3.trans (sim_sqrt (hr2.trans (sim_add (hr1.trans (sim_add (opR_got .mul x x _).sim (Sim.refl _))) (Sim.refl _)))), below_drewN ((Below.refl _ _).alloc (Nat.le_refl _) _) _⟩
end Go.Proofs.Ytlmmhmoihmlljaa
