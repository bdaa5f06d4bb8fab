/-
  Contract: Where, of a ring and a point of paper.
-/
import Derived.Test.YtdbgkhcknaafoaaDoorS3
namespace Go.Proofs.YtdbgkhcknaafoaaDoor
open Go Go.RowKit Shp
set_option maxRecDepth 100000
theorem wh_on {l : List Sp} {p : Sp} {k : Nat} (hk : k < l.length) (h : on (at_ l k) (at_ l (nx l k)) p = true) : wh l p = 0 := by
  unfold wh
  rw [if_neg]
  intro h0
  have h1 := (sum_zero_iff (f := fun i => if on (at_ l i) (at_ l (nx l i)) p then 1 else 0) (fun i => by split <;> omega) _).mp h0 k hk
  simp [h] at h1
theorem sgn_range (t : Int) : -1 ≤ sgn t ∧ sgn t ≤ 1 := by unfold sgn; split <;> omega
theorem ret_where {a b : Int} (h : a = b) : Ending.returned (.tuple #[.int .i64 a, .nilIface]) = .returned (.tuple #[.int .i64 b, .nilIface]) := by rw [h]
theorem boxed (w : World) (t : TypeId) (p : Sp) : (w.alloc (.cells #[.int .i64 p.1, .int .i64 p.2] t)).cell? ⟨w.heap.size, 0, none⟩ = some (.int .i64 p.1) ∧ (w.alloc (.cells #[.int .i64 p.1, .int .i64 p.2] t)).cell? ⟨w.heap.size, 1, none⟩ = some (.int .i64 p.2) :=
  ⟨World.cell?_alloc_new _ _ _ _, World.cell?_alloc_new _ _ _ _⟩
theorem boxed2 (w : World) (t : TypeId) (a b : Sp) : let W := (w.alloc (.cells #[.int .i64 a.1, .int .i64 a.2] t)).alloc (.cells #[.int .i64 b.1, .int .i64 b.2] t)
    W.cell? ⟨w.heap.size, 0, none⟩ = some (.int .i64 a.1) ∧ W.cell? ⟨w.heap.size, 1, none⟩ = some (.int .i64 a.2) ∧ W.cell? ⟨w.heap.size + 1, 0, none⟩ = some (.int .i64 b.1) ∧ W.cell? ⟨w.heap.size + 1, 1, none⟩ = some (.int .i64 b.2) := by
  have h1 := boxed (w.alloc (.cells #[.int .i64 a.1, .int .i64 a.2] t)) t b
  have h2 := boxed w t a
  rw [World.size_alloc] at h1
  exact ⟨(World.cell?_alloc_lt _ _ _ (by rw [World.size_alloc]; exact Nat.lt_succ_self _)).trans h2.1, (World.cell?_alloc_lt _ _ _ (by rw [World.size_alloc]; exact Nat.lt_succ_self _)).trans h2.2, h1.1, h1.2⟩
set_option maxHeartbeats 1600000 in
theorem Where_ring (g off c : Nat) (l : List Sp) (hr : Ring l) (p : Sp) (hp : Pt p) (w : World) (hc : At w g off l) (hg : g < w.heap.size) :
    Calls Tryd.prog 10 #[.slice (some ⟨g, off, none⟩) l.length c, .agg #[.int .i64 p.1, .int .i64 p.2]] w fun e w' => e = .returned (.tuple #[.int .i64 (wh l p), .nilIface]) ∧ Below w.heap.size w w' := by
  have H1 := Lib.hid (fun (w1 : World) (hb : Below w.heap.size w w1) => ring_yes g off c l hr w1 (hc.below hb hg) (by have := hb.size; omega))
  have HR := Lib.hid hr
  have h3 := hr.1
  have hn := hr.2.1
  have HP := Lib.hid hp
  have hf := Lib.hid (grt_false hp)
  clear hr hp
  obtain ⟨n, hnl⟩ : ∃ n, n = l.length := ⟨_, rfl⟩
  have HL := Lib.hid hnl
  rw [← hnl] at h3 hn H1 ⊢
  clear hnl
  have HC := Lib.hid hc; clear hc
  go_enter Tryd.func10, Tryd.ntmps10
  obtain ⟨p1, p2⟩ := boxed w 24 p
  have hB : Below w.heap.size w (w.alloc (.cells #[.int .i64 p.1, .int .i64 p.2] 24)) := (Below.refl _ _).alloc (Nat.le_refl _) _
  have hZ : (w.alloc (.cells #[.int .i64 p.1, .int .i64 p.2] 24)).heap.size = w.heap.size + 1 := World.size_alloc _ _
  have HB := Lib.hid hB
  clear hB
  go_wp2_with fail
  generalize (w.alloc (.cells #[.int .i64 p.1, .int .i64 p.2] 24)) = W1 at *
  go_at_call 16
  refine (H1.out _ HB.out).mono ?_
  rintro e w1 ⟨rfl, hb1⟩
  replace HB := Lib.hid (HB.out.trans (hb1.mono HB.out.size))
  replace p1 := (hb1.cell (p := ⟨w.heap.size, 0, none⟩) (by show w.heap.size < _; omega)).trans p1
  replace p2 := (hb1.cell (p := ⟨w.heap.size, 1, none⟩) (by show w.heap.size < _; omega)).trans p2
  have hz := hb1.size
  rw [hZ] at hz
  clear hb1 hZ W1
  go_wp2_with (go_at_call 18; refine (great_any _ _ _).mono ?_; rintro e w2 ⟨rfl, hb2⟩; rw [hf.out]; replace HB := Lib.hid (HB.out.trans (hb2.mono HB.out.size)); replace p1 := (hb2.cell (p := ⟨w.heap.size, 0, none⟩) (by show w.heap.size < _; omega)).trans p1; replace p2 := (hb2.cell (p := ⟨w.heap.size, 1, none⟩) (by show w.heap.size < _; omega)).trans p2; replace hz := Nat.le_trans hz hb2.size; clear hb2)
  go_loopw [7, 21] (fun s i wr => ∃ k : Nat, k ≤ n ∧ i = .int .i64 (k : Int) ∧ s = .int .i64 (sgn (togs l p k)) ∧ ons l p k = 0 ∧ Below (w.heap.size + 1) w2 wr) (fun _ i _ => n - (intOf i).toNat)
  case atStart => exact ⟨0, by omega, rfl, rfl, rfl, Below.refl _ _⟩
  case round =>
    obtain ⟨k, hk, rfl, rfl, h0, hb⟩ := hrel
    have HB2 := Lib.hid hb
    have hz2 := hb.size
    by_cases hlt : k < n
    · have hA := HC.out.below (HB.out.trans (hb.mono (by omega))) hg
      have e1 := (hb.cell (p := ⟨w.heap.size, 0, none⟩) (by show w.heap.size < _; omega)).trans p1
      have e2 := (hb.cell (p := ⟨w.heap.size, 1, none⟩) (by show w.heap.size < _; omega)).trans p2
      clear hb p1 p2
      have hnx : nx l k < n := by unfold nx; rw [← HL.out]; exact Nat.mod_lt _ (by omega)
      obtain ⟨c1, c2⟩ := hA k (by rw [← HL.out]; exact hlt)
      obtain ⟨d1, d2⟩ := hA (nx l k) (by rw [← HL.out]; exact hnx)
      have hm : ((k : Int) + 1) % (n : Int) = ((nx l k : Nat) : Int) := by unfold nx; rw [← HL.out, Int.natCast_emod]; rfl
      have hgw : g < wr.heap.size := by omega
      have hww : w.heap.size < wr.heap.size := by omega
      obtain ⟨hs1, hs2⟩ := sgn_range (togs l p k)
      have hpa := Lib.hid (HR.out.pts k (by rw [← HL.out]; exact hlt))
      have hpb := Lib.hid (HR.out.pts (nx l k) (by rw [← HL.out]; exact hnx))
      have KO : Hid (on (at_ l k) (at_ l (nx l k)) p = true → wh l p = 0) := Lib.hid (fun h => wh_on (by rw [← HL.out]; exact hlt) h)
      have KN : Hid (on (at_ l k) (at_ l (nx l k)) p = false → ons l p (k + 1) = 0) := Lib.hid (fun h => by
        have e : ons l p (k + 1) = ons l p k + (if on (at_ l k) (at_ l (nx l k)) p then 1 else 0) := rfl
        rw [e, h0, h]; rfl)
      have KT : Hid (tog (at_ l k) (at_ l (nx l k)) p = true → sgn (togs l p (k + 1)) = - sgn (togs l p k)) := Lib.hid (fun h => by
        have e : togs l p (k + 1) = togs l p k + (if tog (at_ l k) (at_ l (nx l k)) p then 1 else 0) := rfl
        rw [e, h]; exact sgn_flip _)
      have KF : Hid (tog (at_ l k) (at_ l (nx l k)) p = false → sgn (togs l p (k + 1)) = sgn (togs l p k)) := Lib.hid (fun h => by
        have e : togs l p (k + 1) = togs l p k + (if tog (at_ l k) (at_ l (nx l k)) p then 1 else 0) := rfl
        rw [e, h]; exact congrArg sgn (Int.add_zero _))
      clear h0 hA
      generalize sgn (togs l p k) = S at *
      generalize nx l k = j at *
      generalize at_ l k = a at *
      generalize at_ l j = b at *
      have hon := Lib.hid (on_any a b p hpa.out hpb.out HP.out)
      have hO : Hid (on a b p = true ∨ on a b p = false) := Lib.hid (by cases on a b p <;> simp)
      go_wp2_with fail
      obtain ⟨x1, x2, y1, y2⟩ := boxed2 wr 24 a b
      have hB : Below wr.heap.size wr ((wr.alloc (.cells #[.int .i64 a.1, .int .i64 a.2] 24)).alloc (.cells #[.int .i64 b.1, .int .i64 b.2] 24)) := ((Below.refl _ _).alloc (Nat.le_refl _) _).alloc (by simp) _
      have hz1 : ∀ o, ((wr.alloc (.cells #[.int .i64 a.1, .int .i64 a.2] 24)).alloc (.cells #[.int .i64 b.1, .int .i64 b.2] 24)).frozen? ⟨wr.heap.size, o, none⟩ = false := fun o => by simp
      have hz5 : ∀ o, ((wr.alloc (.cells #[.int .i64 a.1, .int .i64 a.2] 24)).alloc (.cells #[.int .i64 b.1, .int .i64 b.2] 24)).frozen? ⟨wr.heap.size + 1, o, none⟩ = false := fun o => by simp
      have hZ : ((wr.alloc (.cells #[.int .i64 a.1, .int .i64 a.2] 24)).alloc (.cells #[.int .i64 b.1, .int .i64 b.2] 24)).heap.size = wr.heap.size + 2 := by rw [World.size_alloc, World.size_alloc]
      generalize ((wr.alloc (.cells #[.int .i64 a.1, .int .i64 a.2] 24)).alloc (.cells #[.int .i64 b.1, .int .i64 b.2] 24)) = W2 at *
      go_at_call 19
      refine (hon.out _).mono ?_
      rintro e w3 ⟨rfl, hb3⟩
      have hcl : ∀ b o, b < W2.heap.size → w3.cell? ⟨b, o, none⟩ = W2.cell? ⟨b, o, none⟩ := fun b o h => hb3.cell (p := ⟨b, o, none⟩) h
      have f1 : ∀ o, w3.frozen? ⟨wr.heap.size, o, none⟩ = false := fun o => (hb3.frozen (p := ⟨wr.heap.size, o, none⟩) (by show wr.heap.size < _; omega)).trans (hz1 o)
      have f2 : ∀ o, w3.frozen? ⟨wr.heap.size + 1, o, none⟩ = false := fun o => (hb3.frozen (p := ⟨wr.heap.size + 1, o, none⟩) (by show wr.heap.size + 1 < _; omega)).trans (hz5 o)
      replace x1 := (hcl wr.heap.size 0 (by omega)).trans x1
      replace x2 := (hcl wr.heap.size 1 (by omega)).trans x2
      replace y1 := (hcl (wr.heap.size + 1) 0 (by omega)).trans y1
      replace y2 := (hcl (wr.heap.size + 1) 1 (by omega)).trans y2
      replace e1 := ((hcl w.heap.size 0 (by omega)).trans (hB.cell (p := ⟨w.heap.size, 0, none⟩) hww)).trans e1
      replace e2 := ((hcl w.heap.size 1 (by omega)).trans (hB.cell (p := ⟨w.heap.size, 1, none⟩) hww)).trans e2
      have hz3 := hb3.size
      rw [hZ] at hz3
      have HB3 := Lib.hid (hB.trans (hb3.mono (by omega)))
      clear hcl hB hb3 hZ hz1 hz5 W2
      rcases hO.out with hO1 | hO1
      · rw [hO1]
        go_wp2
        go_ret2
        exact ⟨ret_where (KO.out hO1).symm, HB.out.trans ((HB2.out.trans (HB3.out.mono (by omega))).mono (by omega))⟩
      · rw [hO1]
        have hK := KN.out hO1
        have hT : Hid (tog a b p = ((decide (p.2 < a.2) != decide (p.2 < b.2)) && decide (0 < (if b.2 < a.2 then side b a p else side a b p)))) := Lib.hid rfl
        clear KO KN hon hO
        by_cases h1 : p.2 < a.2
        · by_cases h2 : p.2 < b.2
          · skip
            have hS := Lib.hid (KF.out (by rw [hT.out]; simp [h1, h2]))
            clear KF KT
            have hd : (decide (p.2 < a.2) == decide (p.2 < b.2)) = true := by simp [h1, h2]
            have HH1 := Lib.hid h1; have HH2 := Lib.hid h2; clear h1 h2
            go_wp2
            go_roundw
            case rel => exact ⟨k + 1, by omega, by go_num, by rw [hS.out], hK, HB2.out.trans (HB3.out.mono (by omega))⟩
            case measure => simp [intOf]; omega
          · skip
            have h3 : b.2 < a.2 := by omega
            have hsd := Lib.hid (side_any b a p hpb.out hpa.out HP.out)
            rw [if_pos h3] at hT
            by_cases h4 : 0 < side b a p
            · have hS := Lib.hid (KT.out (by rw [hT.out]; simp [h1, h2, h4]))
              clear KF KT
              have hd : (decide (p.2 < a.2) == decide (p.2 < b.2)) = false := by simp [h1, h2]
              have HH1 := Lib.hid h1; have HH2 := Lib.hid h2; clear h1 h2
              generalize side b a p = Z at *
              go_wp2_with (go_at_call 20; refine (hsd.out _).mono ?_; rintro e w4 ⟨rfl, hb4⟩; have HB4 := Lib.hid hb4; clear hb4)
              go_roundw
              case rel => exact ⟨k + 1, by omega, by go_num, by rw [hS.out], hK, (HB2.out.trans ((((((HB3.out.mono (by omega)).setCell (by show _ ≤ wr.heap.size; omega) _).setCell (by show _ ≤ wr.heap.size; omega) _).setCell (by show _ ≤ wr.heap.size + 1; omega) _).setCell (by show _ ≤ wr.heap.size + 1; omega) _).trans (HB4.out.mono (by simp; omega))))⟩
              case measure => simp [intOf]; omega
            · have hS := Lib.hid (KF.out (by rw [hT.out]; simp [h1, h2, h4]))
              clear KF KT
              have hd : (decide (p.2 < a.2) == decide (p.2 < b.2)) = false := by simp [h1, h2]
              have HH1 := Lib.hid h1; have HH2 := Lib.hid h2; clear h1 h2
              generalize side b a p = Z at *
              go_wp2_with (go_at_call 20; refine (hsd.out _).mono ?_; rintro e w4 ⟨rfl, hb4⟩; have HB4 := Lib.hid hb4; clear hb4)
              go_roundw
              case rel => exact ⟨k + 1, by omega, by go_num, by rw [hS.out], hK, (HB2.out.trans ((((((HB3.out.mono (by omega)).setCell (by show _ ≤ wr.heap.size; omega) _).setCell (by show _ ≤ wr.heap.size; omega) _).setCell (by show _ ≤ wr.heap.size + 1; omega) _).setCell (by show _ ≤ wr.heap.size + 1; omega) _).trans (HB4.out.mono (by simp; omega))))⟩
              case measure => simp [intOf]; omega
        · by_cases h2 : p.2 < b.2
          · skip
            have h3 : ¬ b.2 < a.2 := by omega
            have hsd := Lib.hid (side_any a b p hpa.out hpb.out HP.out)
            rw [if_neg h3] at hT
            by_cases h4 : 0 < side a b p
            · have hS := Lib.hid (KT.out (by rw [hT.out]; simp [h1, h2, h4]))
              clear KF KT
              have hd : (decide (p.2 < a.2) == decide (p.2 < b.2)) = false := by simp [h1, h2]
              have HH1 := Lib.hid h1; have HH2 := Lib.hid h2; clear h1 h2
              generalize side a b p = Z at *
              go_wp2_with (go_at_call 20; refine (hsd.out _).mono ?_; rintro e w4 ⟨rfl, hb4⟩; have HB4 := Lib.hid hb4; clear hb4)
              go_roundw
              case rel => exact ⟨k + 1, by omega, by go_num, by rw [hS.out], hK, (HB2.out.trans ((HB3.out.mono (by omega)).trans (HB4.out.mono (by omega))))⟩
              case measure => simp [intOf]; omega
            · have hS := Lib.hid (KF.out (by rw [hT.out]; simp [h1, h2, h4]))
              clear KF KT
              have hd : (decide (p.2 < a.2) == decide (p.2 < b.2)) = false := by simp [h1, h2]
              have HH1 := Lib.hid h1; have HH2 := Lib.hid h2; clear h1 h2
              generalize side a b p = Z at *
              go_wp2_with (go_at_call 20; refine (hsd.out _).mono ?_; rintro e w4 ⟨rfl, hb4⟩; have HB4 := Lib.hid hb4; clear hb4)
              go_roundw
              case rel => exact ⟨k + 1, by omega, by go_num, by rw [hS.out], hK, (HB2.out.trans ((HB3.out.mono (by omega)).trans (HB4.out.mono (by omega))))⟩
              case measure => simp [intOf]; omega
          · skip
            have hS := Lib.hid (KF.out (by rw [hT.out]; simp [h1, h2]))
            clear KF KT
            have hd : (decide (p.2 < a.2) == decide (p.2 < b.2)) = true := by simp [h1, h2]
            have HH1 := Lib.hid h1; have HH2 := Lib.hid h2; clear h1 h2
            go_wp2
            go_roundw
            case rel => exact ⟨k + 1, by omega, by go_num, by rw [hS.out], hK, HB2.out.trans (HB3.out.mono (by omega))⟩
            case measure => simp [intOf]; omega
    · obtain rfl : k = n := by omega
      go_wp2
      go_ret2
      exact ⟨ret_where (by unfold wh; rw [← HL.out, if_pos h0]), HB.out.trans (HB2.out.mono (by omega))⟩
end Go.Proofs.YtdbgkhcknaafoaaDoor
