/-
  The law ShapeTurned answers true: its walk.
-/
import Derived.Test.YtdbgkhcknaafoaaDoorS5
namespace Go.Proofs.YtdbgkhcknaafoaaDoor
open Go Go.RowKit Shp
set_option maxRecDepth 100000
theorem Tryd.infoSpot : (Tryd.prog.info? 24).map (fun i => (i.zero, i.size, i.bytes)) = some (some (.agg #[.int .i64 0, .int .i64 0]), 2, 16) := by kernel_rfl
theorem cell_two (w : World) (x y : Value) (t : TypeId) : ∀ j u, [x, y][j]? = some u → (w.alloc (.cells #[x, y] t)).cell? ((⟨w.heap.size, 0, none⟩ : Addr).add j) = some u := by
  intro j u hj
  match j, hj with
  | 0, hj => simp at hj; subst hj; simp [Addr.add]
  | 1, hj => simp at hj; subst hj; simp [Addr.add]
  | (j + 2), hj => simp at hj
theorem cell_two' (w : World) (N : Nat) (x y : Value) (t : TypeId) (hN : N = w.heap.size) : ∀ j u, [x, y][j]? = some u → (w.alloc (.cells #[x, y] t)).cell? ((⟨N, 0, none⟩ : Addr).add j) = some u := by
  subst hN; exact cell_two w x y t
theorem own_at' {w : World} {B n : Nat} {L : List Sp} {v : Value} (hL : L.length = n) (h : w.ownsRow B 24 2 v n (fl (L.take n))) (hn : 0 < n) :
    ∃ g cap, v = .slice (some ⟨g, 0, none⟩) n cap ∧ g < w.heap.size ∧ At w g 0 L := by
  subst hL; exact own_at h hn
theorem re_long' (g off c : Nat) (l : List Sp) (n : Nat) (hL : l.length = n) (h3 : 3 ≤ n) (hn : n ≤ 4000) (w : World) (hc : At w g off l) (hg : g < w.heap.size) :
    Calls Tryd.prog 7 #[.slice (some ⟨g, off, none⟩) n c] w fun e w' => RetRing l e ∧ Below w.heap.size w w' := by
  subst hL; exact re_long g off c l h3 hn w hc hg
theorem Area_ring' (g off c : Nat) (l : List Sp) (n : Nat) (hL : l.length = n) (A : Int) (hA : area l = A) (hr : Ring l) (w : World) (hc : At w g off l) (hg : g < w.heap.size) :
    Calls Tryd.prog 9 #[.slice (some ⟨g, off, none⟩) n c] w fun e w' => e = .returned (.tuple #[.int .i64 A, .nilIface]) ∧ Below w.heap.size w w' := by
  subst hL; subst hA; exact Area_ring g off c l hr w hc hg
theorem Where_ring' (g off c : Nat) (l : List Sp) (n : Nat) (hL : l.length = n) (p : Sp) (W : Int) (hW : wh l p = W) (hp : Pt p) (hr : Ring l) (w : World) (hc : At w g off l) (hg : g < w.heap.size) :
    Calls Tryd.prog 10 #[.slice (some ⟨g, off, none⟩) n c, .agg #[.int .i64 p.1, .int .i64 p.2]] w fun e w' => e = .returned (.tuple #[.int .i64 W, .nilIface]) ∧ Below w.heap.size w w' := by
  subst hL; subst hW; exact Where_ring g off c l hr p hp w hc hg
set_option maxHeartbeats 16000000 in
theorem turned_ring (g off c : Nat) (l : List Sp) (hr : Ring l) (hn : l.length ≤ 30) (p d : Sp) (k : Nat) (hk : k < l.length) (w : World) (hc : At w g off l) (hg : g < w.heap.size) :
    Calls Tryd.prog 3 #[.slice (some ⟨g, off, none⟩) l.length c, .agg #[.int .i64 p.1, .int .i64 p.2], .int .i64 (k : Int), .agg #[.int .i64 d.1, .int .i64 d.2]] w fun e w' => e = .returned (.bool true) ∧ Below w.heap.size w w' := by
  have hre := Lib.hid (fun (w1 : World) (hb : Below w.heap.size w w1) => re_long g off c l hr.1 hr.2.1 w1 (hc.below hb hg) (by have := hb.size; omega))
  have HR := Lib.hid hr
  have h3 := hr.1
  clear hr
  obtain ⟨n, hnl⟩ : ∃ n, n = l.length := ⟨_, rfl⟩
  have HL := Lib.hid hnl
  rw [← hnl] at h3 hn hk hre ⊢
  clear hnl
  have HC := Lib.hid hc; clear hc
  obtain ⟨i0, hi, hz0, hz1, hz2⟩ := info_parts Tryd.infoSpot
  go_enter Tryd.func3, Tryd.ntmps3
  obtain ⟨x1, x2, y1, y2⟩ := boxed2 w 24 p d
  have hB : Below w.heap.size w ((w.alloc (.cells #[.int .i64 p.1, .int .i64 p.2] 24)).alloc (.cells #[.int .i64 d.1, .int .i64 d.2] 24)) := ((Below.refl _ _).alloc (Nat.le_refl _) _).alloc (by simp) _
  have hZ : ((w.alloc (.cells #[.int .i64 p.1, .int .i64 p.2] 24)).alloc (.cells #[.int .i64 d.1, .int .i64 d.2] 24)).heap.size = w.heap.size + 2 := by rw [World.size_alloc, World.size_alloc]
  have HB := Lib.hid hB; clear hB
  go_wp2_with fail
  generalize ((w.alloc (.cells #[.int .i64 p.1, .int .i64 p.2] 24)).alloc (.cells #[.int .i64 d.1, .int .i64 d.2] 24)) = W1 at *
  go_at_call 5
  refine (ringed_any _).mono ?_
  rintro e w2 ⟨rfl, hb⟩
  have HB1 := Lib.hid hb
  have hz := hb.size
  rw [hZ] at hz
  have HZ := Lib.hid hZ
  clear hb hZ
  go_wp2_with (first
    | (go_at_call 6; refine (few_yes _ _ _ hn _).mono ?_; rintro e w3 ⟨rfl, hs3⟩; subst hs3)
    | (go_at_call 7; refine (hre.out _ (HB.out.trans (HB1.out.mono HB.out.size))).mono ?_; rintro e w4 ⟨⟨r, rfl, hr0, hr1⟩, hb4⟩; obtain rfl := hr1.mpr HR.out; have HB4 := Lib.hid hb4; clear hb4 hr0 hr1))
  have hz4 := Nat.le_trans hz HB4.out.size
  have hZ := HZ.out
  replace HB := Lib.hid ((HB.out.trans (HB1.out.mono HB.out.size)).trans (HB4.out.mono (by omega)))
  have hcl : ∀ b o, b < W1.heap.size → w4.cell? ⟨b, o, none⟩ = W1.cell? ⟨b, o, none⟩ := fun b o h => (HB4.out.cell (p := ⟨b, o, none⟩) (Nat.lt_of_lt_of_le h HB1.out.size)).trans (HB1.out.cell (p := ⟨b, o, none⟩) h)
  replace x1 := (hcl w.heap.size 0 (by omega)).trans x1
  replace x2 := (hcl w.heap.size 1 (by omega)).trans x2
  replace y1 := (hcl (w.heap.size + 1) 0 (by omega)).trans y1
  replace y2 := (hcl (w.heap.size + 1) 1 (by omega)).trans y2
  clear hcl HB1 HB4 hz hZ HZ W1
  have md : ∀ x : Int, -999 ≤ x.tmod 1000 ∧ x.tmod 1000 ≤ 999 := fun x => by
    rcases Int.le_total 0 x with h | h
    · rw [Int.tmod_eq_emod_of_nonneg h]; omega
    · have e : x.tmod 1000 = -((-x).tmod 1000) := by rw [Int.neg_tmod]; omega
      rw [e, Int.tmod_eq_emod_of_nonneg (by omega)]; omega
  obtain ⟨d1, d2⟩ := md d.1
  obtain ⟨d3, d4⟩ := md d.2
  clear md
  generalize decide (n ≤ k) = b1
  generalize decide ((k : Int) < 0) = b2
  go_loopw [11, 12, 13] (fun vb vm i wr => ∃ j : Nat, j ≤ n ∧ i = .int .i64 (j : Int) ∧ Two w4 w4.heap.size (back l) (moved l k (d.1.tmod 1000, d.2.tmod 1000)) j j vb vm wr) (fun _ _ i _ => n - (intOf i).toNat)
  case atStart => exact ⟨0, by omega, rfl, World.ownsRow_nil _ _ _ _, World.ownsRow_nil _ _ _ _, .inl rfl, Below.refl _ _, Nat.le_refl _⟩
  case round =>
    obtain ⟨j, hj, rfl, ht⟩ := hrel
    have HT := Lib.hid ht
    have hb := ht.2.2.2.1
    have hzr := ht.2.2.2.2
    clear ht
    by_cases hlt : j < n
    · have hA := HC.out.below (HB.out.trans (hb.mono (by omega))) hg
      have e1 := (hb.cell (p := ⟨w.heap.size + 1, 0, none⟩) (by show w.heap.size + 1 < _; omega)).trans y1
      have e2 := (hb.cell (p := ⟨w.heap.size + 1, 1, none⟩) (by show w.heap.size + 1 < _; omega)).trans y2
      have hg4 : g < w4.heap.size := by omega
      have hp4 : w.heap.size + 1 < w4.heap.size := by omega
      have HBR := Lib.hid hb
      clear hb x1 x2
      have hm1 : (j + k) % n < n := Nat.mod_lt _ (by omega)
      obtain ⟨c1, c2⟩ := hA (n - 1 - j) (by rw [← HL.out]; omega)
      obtain ⟨c3, c4⟩ := hA ((j + k) % n) (by rw [← HL.out]; exact hm1)
      have hm : ((j : Int) + (k : Int)) % (n : Int) = (((j + k) % n : Nat) : Int) := by rw [Int.natCast_emod]; rfl
      have hs : (n : Int) - 1 - (j : Int) = ((n - 1 - j : Nat) : Int) := by omega
      have hgw : g < wr.heap.size := by omega
      have hpa := HR.out.pts ((j + k) % n) (by rw [← HL.out]; exact hm1)
      obtain ⟨p1, p2, p3, p4⟩ := hpa
      have EB : Hid (at_ (back l) j = at_ l (n - 1 - j)) := Lib.hid (by rw [at_back l j (by rw [← HL.out]; exact hlt), HL.out])
      have EM : Hid (at_ (moved l k (d.1.tmod 1000, d.2.tmod 1000)) j = mv (d.1.tmod 1000, d.2.tmod 1000) (at_ l ((j + k) % n))) := Lib.hid (by rw [at_moved l k _ j (by rw [← HL.out]; exact hlt), HL.out])
      have LB : Hid (j < (back l).length) := Lib.hid (by rw [back_length, ← HL.out]; exact hlt)
      have LM : Hid (j < (moved l k (d.1.tmod 1000, d.2.tmod 1000)).length) := Lib.hid (by rw [moved_length, ← HL.out]; exact hlt)
      have q1 : (j + k) % n < n := hm1
      have q2 : n - 1 - j < n := by omega
      generalize (j + k) % n = s at *
      generalize n - 1 - j = t at *
      generalize at_ l s = a at *
      generalize at_ l t = b at *
      clear hA
      go_wp2_with (first
        | (at_builtin; refine wpList_append_own_at _ rfl (.tmp 61) (.tmp 70) 22 rfl w4.heap.size 24 i0 (.agg #[.int .i64 0, .int .i64 0]) 2 16 Tryd.underlying22 hi hz0 hz1 hz2 rfl (by decide) _ _ _ rfl (HT.out.alloc _).1 _ 1 1 [.int .i64 b.1, .int .i64 b.2] rfl rfl (cell_two _ _ _ _) (fun x hx => by simp at hx; rcases hx with rfl | rfl <;> rfl) (by unfold maxLen; omega) (by omega) (HT.out.alloc _).2.2.2.2 ?_; intro v1 w5 ho1 hg1 hn1 ha1
           have T1 := Lib.hid ((HT.out.alloc _).left LB.out (by rw [EB.out]; exact ho1) hg1 ha1)
           have hcl : ∀ b o, b < w4.heap.size → w5.cell? ⟨b, o, none⟩ = w4.cell? ⟨b, o, none⟩ := fun b o h => T1.out.2.2.2.1.cell (p := ⟨b, o, none⟩) h
           have s3 := (hcl g (off + s * 2) hg4).trans ((HBR.out.cell (p := ⟨g, off + s * 2, none⟩) hg4).symm.trans c3)
           have s4 := (hcl g (off + s * 2 + 1) hg4).trans ((HBR.out.cell (p := ⟨g, off + s * 2 + 1, none⟩) hg4).symm.trans c4)
           have s5 := (hcl (w.heap.size + 1) 0 hp4).trans y1
           have s6 := (hcl (w.heap.size + 1) 1 hp4).trans y2
           have hz5 := T1.out.2.2.2.2
           clear hcl
           have hg5 : g < w5.heap.size := by omega
           have hp5 : w.heap.size + 1 < w5.heap.size := by omega
           clear ho1 hg1 hn1 ha1)
        | (at_builtin; refine wpList_append_own_at _ rfl (.tmp 81) (.tmp 95) 22 rfl w4.heap.size 24 i0 (.agg #[.int .i64 0, .int .i64 0]) 2 16 Tryd.underlying22 hi hz0 hz1 hz2 rfl (by decide) _ _ _ rfl ((T1.out.alloc _).alloc _).2.1 _ 1 1 [.int .i64 (a.1 + d.1.tmod 1000), .int .i64 (a.2 + d.2.tmod 1000)] rfl rfl (cell_two' _ _ _ _ _ (World.size_alloc _ _).symm) (fun x hx => by simp at hx; rcases hx with rfl | rfl <;> rfl) (by unfold maxLen; omega) (by omega) ((T1.out.alloc _).alloc _).2.2.2.2 ?_; intro v2 w6 ho2 hg2 hn2 ha2
           have T2 := Lib.hid (((T1.out.alloc _).alloc _).right LM.out (by rw [EM.out]; exact ho2) hg2 ha2)
           clear ho2 hg2 hn2 ha2))
      go_roundw
      case rel => exact ⟨j + 1, by omega, by go_num, T2.out⟩
      case measure => simp [intOf]; omega
    · obtain rfl : j = n := by omega
      have HBL : Hid ((back l).length = j) := Lib.hid (by rw [back_length, ← HL.out])
      have HML : Hid ((moved l k (d.1.tmod 1000, d.2.tmod 1000)).length = j) := Lib.hid (by rw [moved_length, ← HL.out])
      obtain ⟨gb, cb, rfl, hgb, hAb⟩ := own_at' HBL.out HT.out.1 (by omega)
      obtain ⟨gm, cm, rfl, hgm, hAm⟩ := own_at' HML.out HT.out.2.1 (by omega)
      replace HB := Lib.hid (HB.out.trans (hb.mono (by omega)))
      replace x1 := (hb.cell (p := ⟨w.heap.size, 0, none⟩) (by show w.heap.size < _; omega)).trans x1
      replace x2 := (hb.cell (p := ⟨w.heap.size, 1, none⟩) (by show w.heap.size < _; omega)).trans x2
      replace y1 := (hb.cell (p := ⟨w.heap.size + 1, 0, none⟩) (by show w.heap.size + 1 < _; omega)).trans y1
      replace y2 := (hb.cell (p := ⟨w.heap.size + 1, 1, none⟩) (by show w.heap.size + 1 < _; omega)).trans y2
      have hzw : w.heap.size + 1 < wr.heap.size := by omega
      have hzv : w.heap.size < wr.heap.size := by omega
      have RB : Hid (Ring (back l)) := Lib.hid (ring_back HR.out)
      have AB : Hid (area (back l) = - area l) := Lib.hid (area_back l)
      have AM : Hid (area (moved l k (d.1.tmod 1000, d.2.tmod 1000)) = area l) := Lib.hid (area_moved l k _)
      have WB : Hid (wh (back l) p = wh l p) := Lib.hid (wh_back l p)
      have WM : Hid (wh (moved l k (d.1.tmod 1000, d.2.tmod 1000)) (mv (d.1.tmod 1000, d.2.tmod 1000) p) = wh l p) := Lib.hid (wh_moved l k _ p)
      have hrm := Lib.hid (fun (w1 : World) (hb : Below wr.heap.size wr w1) => re_long' gm 0 cm (moved l k (d.1.tmod 1000, d.2.tmod 1000)) j HML.out (by omega) (by omega) w1 (hAm.below hb hgm) (Nat.lt_of_lt_of_le hgm hb.size))
      generalize moved l k (d.1.tmod 1000, d.2.tmod 1000) = lm at *
      generalize back l = lb at *
      clear hb hzr HT hz4 i0 hi hz0 hz1 hz2
      by_cases hp : Pt p
      · have WM2 : Hid (wh lm (p.1 + d.1.tmod 1000, p.2 + d.2.tmod 1000) = wh l p) := WM
        have hf := Lib.hid (grt_false hp)
        have HP := Lib.hid hp
        obtain ⟨pp1, pp2, pp3, pp4⟩ := hp
        clear WM
        go_wp2_with fail
        obtain ⟨z1, z2⟩ := boxed wr 24 (p.1 + d.1.tmod 1000, p.2 + d.2.tmod 1000)
        have hx : Below wr.heap.size wr (wr.alloc (.cells #[.int .i64 (p.1 + d.1.tmod 1000), .int .i64 (p.2 + d.2.tmod 1000)] 24)) := (Below.refl _ _).alloc (Nat.le_refl _) _
        have hzc : wr.heap.size < (wr.alloc (.cells #[.int .i64 (p.1 + d.1.tmod 1000), .int .i64 (p.2 + d.2.tmod 1000)] 24)).heap.size := by rw [World.size_alloc]; exact Nat.lt_succ_self _
        replace x1 := (hx.cell (p := ⟨w.heap.size, 0, none⟩) hzv).trans x1
        replace x2 := (hx.cell (p := ⟨w.heap.size, 1, none⟩) hzv).trans x2
        have HC7 := Lib.hid hx
        clear hx y1 y2
        dsimp only at z1 z2
        generalize (wr.alloc (.cells #[.int .i64 (p.1 + d.1.tmod 1000), .int .i64 (p.2 + d.2.tmod 1000)] 24)) = W7 at *
        generalize p.1 + d.1.tmod 1000 = A1 at *
        generalize p.2 + d.2.tmod 1000 = A2 at *
        by_cases hq : Pt (A1, A2)
        · have hf2 := Lib.hid (grt_false hq)
          have HQ := Lib.hid hq
          clear hq
          by_cases hm : Ring lm
          · have hgl : g < wr.heap.size := by omega
            have hAl := HC.out.below HB.out hg
            obtain ⟨s1, s2⟩ := area_range HR.out.pts l.length (Nat.le_refl _)
            rw [← HL.out] at s1 s2
            have hS : Hid (areaTo l j = area l) := Lib.hid (by unfold area; rw [← HL.out])
            rw [hS.out] at s1 s2
            have hA0 := Lib.hid (fun (w1 : World) (hb : Below wr.heap.size wr w1) => Area_ring' g off c l j HL.out.symm _ rfl HR.out w1 (hAl.below hb hgl) (Nat.lt_of_lt_of_le hgl hb.size))
            have hA1 := Lib.hid (fun (w1 : World) (hb : Below wr.heap.size wr w1) => Area_ring' gb 0 cb lb j HBL.out _ AB.out RB.out w1 (hAb.below hb hgb) (Nat.lt_of_lt_of_le hgb hb.size))
            have hA2 := Lib.hid (fun (w1 : World) (hb : Below wr.heap.size wr w1) => Area_ring' gm 0 cm lm j HML.out _ AM.out hm w1 (hAm.below hb hgm) (Nat.lt_of_lt_of_le hgm hb.size))
            have hW0 := Lib.hid (fun (w1 : World) (hb : Below wr.heap.size wr w1) => Where_ring' g off c l j HL.out.symm p _ rfl HP.out HR.out w1 (hAl.below hb hgl) (Nat.lt_of_lt_of_le hgl hb.size))
            have hW1 := Lib.hid (fun (w1 : World) (hb : Below wr.heap.size wr w1) => Where_ring' gb 0 cb lb j HBL.out p _ WB.out HP.out RB.out w1 (hAb.below hb hgb) (Nat.lt_of_lt_of_le hgb hb.size))
            have hW2 := Lib.hid (fun (w1 : World) (hb : Below wr.heap.size wr w1) => Where_ring' gm 0 cm lm j HML.out (A1, A2) _ WM2.out HQ.out hm w1 (hAm.below hb hgm) (Nat.lt_of_lt_of_le hgm hb.size))
            have HM := Lib.hid hm
            clear hm hAl hAb hAm hS AB AM WB WM2
            generalize area l = S at *
            generalize wh l p = V at *
            go_wp2_with fail
            go_at_call 8
            refine (IsPlace_any _ _ _).mono ?_
            rintro e w8 ⟨rfl, hx⟩
            rw [hf.out]
            replace x1 := (hx.cell (p := ⟨w.heap.size, 0, none⟩) (Nat.lt_trans hzv hzc)).trans x1
            replace x2 := (hx.cell (p := ⟨w.heap.size, 1, none⟩) (Nat.lt_trans hzv hzc)).trans x2
            replace z1 := (hx.cell (p := ⟨wr.heap.size, 0, none⟩) hzc).trans z1
            replace z2 := (hx.cell (p := ⟨wr.heap.size, 1, none⟩) hzc).trans z2
            replace HC7 := Lib.hid (HC7.out.trans (hx.mono (Nat.le_of_lt hzc)))
            replace hzc := Nat.lt_of_lt_of_le hzc hx.size
            clear hx
            go_wp2_with fail
            go_at_call 8
            refine (IsPlace_any _ _ _).mono ?_
            rintro e w9 ⟨rfl, hx⟩
            rw [hf2.out]
            replace x1 := (hx.cell (p := ⟨w.heap.size, 0, none⟩) (Nat.lt_trans hzv hzc)).trans x1
            replace x2 := (hx.cell (p := ⟨w.heap.size, 1, none⟩) (Nat.lt_trans hzv hzc)).trans x2
            replace z1 := (hx.cell (p := ⟨wr.heap.size, 0, none⟩) hzc).trans z1
            replace z2 := (hx.cell (p := ⟨wr.heap.size, 1, none⟩) hzc).trans z2
            replace HC7 := Lib.hid (HC7.out.trans (hx.mono (Nat.le_of_lt hzc)))
            replace hzc := Nat.lt_of_lt_of_le hzc hx.size
            clear hx
            go_wp2_with fail
            go_at_call 7
            refine (hrm.out _ HC7.out).mono ?_
            rintro e w10 ⟨⟨r, rfl, hr0, hr1⟩, hx⟩
            obtain rfl := hr1.mpr HM.out
            clear hr0 hr1 hrm
            replace x1 := (hx.cell (p := ⟨w.heap.size, 0, none⟩) (Nat.lt_trans hzv hzc)).trans x1
            replace x2 := (hx.cell (p := ⟨w.heap.size, 1, none⟩) (Nat.lt_trans hzv hzc)).trans x2
            replace z1 := (hx.cell (p := ⟨wr.heap.size, 0, none⟩) hzc).trans z1
            replace z2 := (hx.cell (p := ⟨wr.heap.size, 1, none⟩) hzc).trans z2
            replace HC7 := Lib.hid (HC7.out.trans (hx.mono (Nat.le_of_lt hzc)))
            replace hzc := Nat.lt_of_lt_of_le hzc hx.size
            clear hx
            go_wp2_with fail
            go_at_call 9
            refine (hA0.out _ HC7.out).mono ?_
            rintro e w11 ⟨rfl, hx⟩
            clear hA0
            replace x1 := (hx.cell (p := ⟨w.heap.size, 0, none⟩) (Nat.lt_trans hzv hzc)).trans x1
            replace x2 := (hx.cell (p := ⟨w.heap.size, 1, none⟩) (Nat.lt_trans hzv hzc)).trans x2
            replace z1 := (hx.cell (p := ⟨wr.heap.size, 0, none⟩) hzc).trans z1
            replace z2 := (hx.cell (p := ⟨wr.heap.size, 1, none⟩) hzc).trans z2
            replace HC7 := Lib.hid (HC7.out.trans (hx.mono (Nat.le_of_lt hzc)))
            replace hzc := Nat.lt_of_lt_of_le hzc hx.size
            clear hx
            go_wp2_with fail
            go_at_call 9
            refine (hA1.out _ HC7.out).mono ?_
            rintro e w12 ⟨rfl, hx⟩
            clear hA1
            replace x1 := (hx.cell (p := ⟨w.heap.size, 0, none⟩) (Nat.lt_trans hzv hzc)).trans x1
            replace x2 := (hx.cell (p := ⟨w.heap.size, 1, none⟩) (Nat.lt_trans hzv hzc)).trans x2
            replace z1 := (hx.cell (p := ⟨wr.heap.size, 0, none⟩) hzc).trans z1
            replace z2 := (hx.cell (p := ⟨wr.heap.size, 1, none⟩) hzc).trans z2
            replace HC7 := Lib.hid (HC7.out.trans (hx.mono (Nat.le_of_lt hzc)))
            replace hzc := Nat.lt_of_lt_of_le hzc hx.size
            clear hx
            go_wp2_with fail
            go_at_call 9
            refine (hA2.out _ HC7.out).mono ?_
            rintro e w13 ⟨rfl, hx⟩
            clear hA2
            replace x1 := (hx.cell (p := ⟨w.heap.size, 0, none⟩) (Nat.lt_trans hzv hzc)).trans x1
            replace x2 := (hx.cell (p := ⟨w.heap.size, 1, none⟩) (Nat.lt_trans hzv hzc)).trans x2
            replace z1 := (hx.cell (p := ⟨wr.heap.size, 0, none⟩) hzc).trans z1
            replace z2 := (hx.cell (p := ⟨wr.heap.size, 1, none⟩) hzc).trans z2
            replace HC7 := Lib.hid (HC7.out.trans (hx.mono (Nat.le_of_lt hzc)))
            replace hzc := Nat.lt_of_lt_of_le hzc hx.size
            clear hx
            go_wp2_with fail
            go_at_call 10
            refine (hW0.out _ HC7.out).mono ?_
            rintro e w14 ⟨rfl, hx⟩
            clear hW0
            replace x1 := (hx.cell (p := ⟨w.heap.size, 0, none⟩) (Nat.lt_trans hzv hzc)).trans x1
            replace x2 := (hx.cell (p := ⟨w.heap.size, 1, none⟩) (Nat.lt_trans hzv hzc)).trans x2
            replace z1 := (hx.cell (p := ⟨wr.heap.size, 0, none⟩) hzc).trans z1
            replace z2 := (hx.cell (p := ⟨wr.heap.size, 1, none⟩) hzc).trans z2
            replace HC7 := Lib.hid (HC7.out.trans (hx.mono (Nat.le_of_lt hzc)))
            replace hzc := Nat.lt_of_lt_of_le hzc hx.size
            clear hx
            go_wp2_with fail
            go_at_call 10
            refine (hW1.out _ HC7.out).mono ?_
            rintro e w15 ⟨rfl, hx⟩
            clear hW1
            replace x1 := (hx.cell (p := ⟨w.heap.size, 0, none⟩) (Nat.lt_trans hzv hzc)).trans x1
            replace x2 := (hx.cell (p := ⟨w.heap.size, 1, none⟩) (Nat.lt_trans hzv hzc)).trans x2
            replace z1 := (hx.cell (p := ⟨wr.heap.size, 0, none⟩) hzc).trans z1
            replace z2 := (hx.cell (p := ⟨wr.heap.size, 1, none⟩) hzc).trans z2
            replace HC7 := Lib.hid (HC7.out.trans (hx.mono (Nat.le_of_lt hzc)))
            replace hzc := Nat.lt_of_lt_of_le hzc hx.size
            clear hx
            go_wp2_with fail
            go_at_call 10
            refine (hW2.out _ HC7.out).mono ?_
            rintro e w16 ⟨rfl, hx⟩
            clear hW2
            replace x1 := (hx.cell (p := ⟨w.heap.size, 0, none⟩) (Nat.lt_trans hzv hzc)).trans x1
            replace x2 := (hx.cell (p := ⟨w.heap.size, 1, none⟩) (Nat.lt_trans hzv hzc)).trans x2
            replace z1 := (hx.cell (p := ⟨wr.heap.size, 0, none⟩) hzc).trans z1
            replace z2 := (hx.cell (p := ⟨wr.heap.size, 1, none⟩) hzc).trans z2
            replace HC7 := Lib.hid (HC7.out.trans (hx.mono (Nat.le_of_lt hzc)))
            replace hzc := Nat.lt_of_lt_of_le hzc hx.size
            clear hx
            go_wp2
            go_ret
            exact ⟨rfl, HB.out.trans (HC7.out.mono (by omega))⟩
          · skip
            go_wp2_with fail
            go_at_call 8
            refine (IsPlace_any _ _ _).mono ?_
            rintro e w8 ⟨rfl, hx⟩
            rw [hf.out]
            replace x1 := (hx.cell (p := ⟨w.heap.size, 0, none⟩) (Nat.lt_trans hzv hzc)).trans x1
            replace x2 := (hx.cell (p := ⟨w.heap.size, 1, none⟩) (Nat.lt_trans hzv hzc)).trans x2
            replace z1 := (hx.cell (p := ⟨wr.heap.size, 0, none⟩) hzc).trans z1
            replace z2 := (hx.cell (p := ⟨wr.heap.size, 1, none⟩) hzc).trans z2
            replace HC7 := Lib.hid (HC7.out.trans (hx.mono (Nat.le_of_lt hzc)))
            replace hzc := Nat.lt_of_lt_of_le hzc hx.size
            clear hx
            go_wp2_with fail
            go_at_call 8
            refine (IsPlace_any _ _ _).mono ?_
            rintro e w9 ⟨rfl, hx⟩
            rw [hf2.out]
            replace x1 := (hx.cell (p := ⟨w.heap.size, 0, none⟩) (Nat.lt_trans hzv hzc)).trans x1
            replace x2 := (hx.cell (p := ⟨w.heap.size, 1, none⟩) (Nat.lt_trans hzv hzc)).trans x2
            replace z1 := (hx.cell (p := ⟨wr.heap.size, 0, none⟩) hzc).trans z1
            replace z2 := (hx.cell (p := ⟨wr.heap.size, 1, none⟩) hzc).trans z2
            replace HC7 := Lib.hid (HC7.out.trans (hx.mono (Nat.le_of_lt hzc)))
            replace hzc := Nat.lt_of_lt_of_le hzc hx.size
            clear hx
            go_wp2_with fail
            go_at_call 7
            refine (hrm.out _ HC7.out).mono ?_
            rintro e w10 ⟨⟨r, rfl, hr0, hr1⟩, hx⟩
            have hrp : 0 < r := (by rcases Int.lt_or_eq_of_le hr0 with h | h; exact h; exact absurd (hr1.mp h.symm) hm)
            clear hr1 hrm hm
            replace x1 := (hx.cell (p := ⟨w.heap.size, 0, none⟩) (Nat.lt_trans hzv hzc)).trans x1
            replace x2 := (hx.cell (p := ⟨w.heap.size, 1, none⟩) (Nat.lt_trans hzv hzc)).trans x2
            replace z1 := (hx.cell (p := ⟨wr.heap.size, 0, none⟩) hzc).trans z1
            replace z2 := (hx.cell (p := ⟨wr.heap.size, 1, none⟩) hzc).trans z2
            replace HC7 := Lib.hid (HC7.out.trans (hx.mono (Nat.le_of_lt hzc)))
            replace hzc := Nat.lt_of_lt_of_le hzc hx.size
            clear hx
            go_wp2
            all_goals go_ret
            all_goals exact ⟨rfl, HB.out.trans (HC7.out.mono (by omega))⟩
        · have hf2 := Lib.hid (grt_true hq)
          clear hq
          go_wp2_with fail
          go_at_call 8
          refine (IsPlace_any _ _ _).mono ?_
          rintro e w8 ⟨rfl, hx⟩
          rw [hf.out]
          replace x1 := (hx.cell (p := ⟨w.heap.size, 0, none⟩) (Nat.lt_trans hzv hzc)).trans x1
          replace x2 := (hx.cell (p := ⟨w.heap.size, 1, none⟩) (Nat.lt_trans hzv hzc)).trans x2
          replace z1 := (hx.cell (p := ⟨wr.heap.size, 0, none⟩) hzc).trans z1
          replace z2 := (hx.cell (p := ⟨wr.heap.size, 1, none⟩) hzc).trans z2
          replace HC7 := Lib.hid (HC7.out.trans (hx.mono (Nat.le_of_lt hzc)))
          replace hzc := Nat.lt_of_lt_of_le hzc hx.size
          clear hx
          go_wp2_with fail
          go_at_call 8
          refine (IsPlace_any _ _ _).mono ?_
          rintro e w9 ⟨rfl, hx⟩
          rw [hf2.out]
          replace x1 := (hx.cell (p := ⟨w.heap.size, 0, none⟩) (Nat.lt_trans hzv hzc)).trans x1
          replace x2 := (hx.cell (p := ⟨w.heap.size, 1, none⟩) (Nat.lt_trans hzv hzc)).trans x2
          replace z1 := (hx.cell (p := ⟨wr.heap.size, 0, none⟩) hzc).trans z1
          replace z2 := (hx.cell (p := ⟨wr.heap.size, 1, none⟩) hzc).trans z2
          replace HC7 := Lib.hid (HC7.out.trans (hx.mono (Nat.le_of_lt hzc)))
          replace hzc := Nat.lt_of_lt_of_le hzc hx.size
          clear hx
          go_wp2_with fail
          go_at_call 7
          refine (hrm.out _ HC7.out).mono ?_
          rintro e w10 ⟨⟨r, rfl, hr0, hr1⟩, hx⟩
          clear hr1 hrm
          replace x1 := (hx.cell (p := ⟨w.heap.size, 0, none⟩) (Nat.lt_trans hzv hzc)).trans x1
          replace x2 := (hx.cell (p := ⟨w.heap.size, 1, none⟩) (Nat.lt_trans hzv hzc)).trans x2
          replace z1 := (hx.cell (p := ⟨wr.heap.size, 0, none⟩) hzc).trans z1
          replace z2 := (hx.cell (p := ⟨wr.heap.size, 1, none⟩) hzc).trans z2
          replace HC7 := Lib.hid (HC7.out.trans (hx.mono (Nat.le_of_lt hzc)))
          replace hzc := Nat.lt_of_lt_of_le hzc hx.size
          clear hx
          go_wp2
          all_goals go_ret
          all_goals exact ⟨rfl, HB.out.trans (HC7.out.mono (by omega))⟩
      · skip
        have hf := Lib.hid (grt_true hp)
        clear hp
        go_wp2_with fail
        obtain ⟨z1, z2⟩ := boxed wr 24 (wrap64 (p.1 + d.1.tmod 1000), wrap64 (p.2 + d.2.tmod 1000))
        have hx : Below wr.heap.size wr (wr.alloc (.cells #[.int .i64 (wrap64 (p.1 + d.1.tmod 1000)), .int .i64 (wrap64 (p.2 + d.2.tmod 1000))] 24)) := (Below.refl _ _).alloc (Nat.le_refl _) _
        have hzc : wr.heap.size < (wr.alloc (.cells #[.int .i64 (wrap64 (p.1 + d.1.tmod 1000)), .int .i64 (wrap64 (p.2 + d.2.tmod 1000))] 24)).heap.size := by rw [World.size_alloc]; exact Nat.lt_succ_self _
        replace x1 := (hx.cell (p := ⟨w.heap.size, 0, none⟩) hzv).trans x1
        replace x2 := (hx.cell (p := ⟨w.heap.size, 1, none⟩) hzv).trans x2
        have HC7 := Lib.hid hx
        clear hx y1 y2
        dsimp only at z1 z2
        generalize (wr.alloc (.cells #[.int .i64 (wrap64 (p.1 + d.1.tmod 1000)), .int .i64 (wrap64 (p.2 + d.2.tmod 1000))] 24)) = W7 at *
        generalize wrap64 (p.1 + d.1.tmod 1000) = A1 at *
        generalize wrap64 (p.2 + d.2.tmod 1000) = A2 at *
        go_wp2_with (first
          | (go_at_call 8; refine (IsPlace_any _ _ _).mono ?_; rintro e w8 ⟨rfl, hx⟩; try rw [hf.out]
             replace x1 := (hx.cell (p := ⟨w.heap.size, 0, none⟩) (by show w.heap.size < _; omega)).trans x1; replace x2 := (hx.cell (p := ⟨w.heap.size, 1, none⟩) (by show w.heap.size < _; omega)).trans x2; replace z1 := (hx.cell (p := ⟨wr.heap.size, 0, none⟩) hzc).trans z1; replace z2 := (hx.cell (p := ⟨wr.heap.size, 1, none⟩) hzc).trans z2; replace HC7 := Lib.hid (HC7.out.trans (hx.mono (Nat.le_of_lt hzc))); replace hzc := Nat.lt_of_lt_of_le hzc hx.size; clear hx)
          | (go_at_call 7; refine (hrm.out _ HC7.out).mono ?_; rintro e w9 ⟨⟨r, rfl, hr0, _⟩, hx⟩
             replace x1 := (hx.cell (p := ⟨w.heap.size, 0, none⟩) (by show w.heap.size < _; omega)).trans x1; replace x2 := (hx.cell (p := ⟨w.heap.size, 1, none⟩) (by show w.heap.size < _; omega)).trans x2; replace z1 := (hx.cell (p := ⟨wr.heap.size, 0, none⟩) hzc).trans z1; replace z2 := (hx.cell (p := ⟨wr.heap.size, 1, none⟩) hzc).trans z2; replace HC7 := Lib.hid (HC7.out.trans (hx.mono (Nat.le_of_lt hzc))); replace hzc := Nat.lt_of_lt_of_le hzc hx.size; clear hx))
        all_goals go_ret
        all_goals exact ⟨rfl, HB.out.trans (HC7.out.mono (by omega))⟩
end Go.Proofs.YtdbgkhcknaafoaaDoor
