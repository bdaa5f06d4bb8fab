/-
  Can a point be left out: the walk.
-/
import Derived.Test.YtcfalmdfohphoaaDoorM8
import Derived.Shelf.SlSortCmp.Whole1
import Derived.Test.YtcfalmdfohphoaaDoorProg
namespace Go.Proofs.YtcfalmdfohphoaaDoor
open Go Go.Ab Mp
set_option maxRecDepth 100000
set_option maxHeartbeats 8000000 in
theorem spare_any (G : List (Nat × Value)) (m : Shp.Arcs) (B : MB m) (i k : Nat) (hi : i < m.length) (h0 : 0 < k) (hk : k + 1 < (Shp.arc m i).length) (most : Int) (hm0 : 0 ≤ most) (hm1 : most ≤ 9223372036854775807) (K : AV → List AO → Prop) (hK : K (.fz .bool (Shp.spB most m i k)) []) :
    ACall Tryd.prog G 31 [.fz MpT m, .fz int i, .fz int k, .fz int most] [] K := by
  have hb0 := B.few
  have hai := B.len i hi
  obtain ⟨a, ha⟩ : ∃ a, Shp.arc m i = a := ⟨_, rfl⟩
  have hg : List.getD m (Int.toNat (i : Int)) SpT.list.dft = a := ha
  have hpl : ∀ t, t < a.length → plB (Shp.at_ a t) = true := fun t ht => by
    have := B.pl i t ⟨hi, by rw [ha]; exact ht⟩
    unfold Shp.pt at this
    rw [ha] at this
    exact this
  rw [ha] at hk hai
  refine acall_mk (E := envCut G 153 0 [3, 6, 13]) (envCutOk _ _ _ _) Tryd.func31 rfl rfl rfl rfl rfl ?_
  (repeat' (first | exact trivial | refine And.intro ?_ ?_ | (intro hb; try simp at hb) | omega | exact rfl | refine aRegion_auto (by decide +kernel) ?_ | fail))
  obtain ⟨p, hp⟩ : ∃ p, Shp.at_ a (k - 1) = p := ⟨_, rfl⟩
  obtain ⟨q, hq⟩ : ∃ q, Shp.at_ a k = q := ⟨_, rfl⟩
  obtain ⟨r, hr⟩ : ∃ r, Shp.at_ a (k + 1) = r := ⟨_, rfl⟩
  have e1 : List.getD a (Int.toNat ((k : Int) - 1)) SpT.dft = p := by rw [← hp, show Int.toNat ((k : Int) - 1) = k - 1 by omega]; rfl
  have e2 : List.getD a (Int.toNat (k : Int)) SpT.dft = q := hq
  have e3 : List.getD a (Int.toNat ((k : Int) + 1)) SpT.dft = r := hr
  let M : AO := .box [.fz (.list (.list SpT)) m]
  let rb : AO := .room
  let bz : AO := .box [.fz int 0, .fz int 0]
  let gp : Int × Int := List.getD a (Int.toNat ((k : Int) - 1)) SpT.dft
  let gq : Int × Int := List.getD a (Int.toNat (k : Int)) SpT.dft
  let gr : Int × Int := List.getD a (Int.toNat ((k : Int) + 1)) SpT.dft
  let bp : AO := .box [.fz int gp.1, .fz int gp.2]
  let bq : AO := .box [.fz int gq.1, .fz int gq.2]
  let br : AO := .box [.fz int gr.1, .fz int gr.2]
  rw [hg]
  refine aRegion_open 3 (by decide +kernel) ?_
  (repeat' (first | exact trivial | exact fun h => h | refine And.intro ?_ ?_ | (intro hb; try simp at hb) | omega | exact rfl | exact Nat.le_refl _ | (show _ + 1 ≤ 4294967296; omega) | (show _ + 1 ≤ 5864062014634; omega) | (dsimp only; omega) | (show (_ : Int) ≤ (_ : Int); omega) | (show _ < List.length _; simp only [List.length_set, List.length_append, List.length_take]; omega) | (show wantB _ _ = true; simp <;> omega) | (show (_ : Bool) = _; simp_all; done) | (exfalso; omega) | refine aRegion_auto (by decide +kernel) ?_ | fail))
  refine eff_is (.ptr 1 0) [M, bz, rb, rb] ?_
  (repeat' (first | exact trivial | exact fun h => h | refine And.intro ?_ ?_ | (intro hb; try simp at hb) | omega | exact rfl | exact Nat.le_refl _ | (show _ + 1 ≤ 4294967296; omega) | (show _ + 1 ≤ 5864062014634; omega) | (dsimp only; omega) | (show (_ : Int) ≤ (_ : Int); omega) | (show _ < List.length _; simp only [List.length_set, List.length_append, List.length_take]; omega) | (show wantB _ _ = true; simp <;> omega) | (show (_ : Bool) = _; simp_all; done) | (exfalso; omega) | refine aRegion_auto (by decide +kernel) ?_ | fail))
  refine eff_is (.ptr 2 0) [M, bz, bz, rb] ?_
  (repeat' (first | exact trivial | exact fun h => h | refine And.intro ?_ ?_ | (intro hb; try simp at hb) | omega | exact rfl | exact Nat.le_refl _ | (show _ + 1 ≤ 4294967296; omega) | (show _ + 1 ≤ 5864062014634; omega) | (dsimp only; omega) | (show (_ : Int) ≤ (_ : Int); omega) | (show _ < List.length _; simp only [List.length_set, List.length_append, List.length_take]; omega) | (show wantB _ _ = true; simp <;> omega) | (show (_ : Bool) = _; simp_all; done) | (exfalso; omega) | refine aRegion_auto (by decide +kernel) ?_ | fail))
  refine eff_is (.ptr 3 0) [M, bz, bz, bz] ?_
  (repeat' (first | exact trivial | exact fun h => h | refine And.intro ?_ ?_ | (intro hb; try simp at hb) | omega | exact rfl | exact Nat.le_refl _ | (show _ + 1 ≤ 4294967296; omega) | (show _ + 1 ≤ 5864062014634; omega) | (dsimp only; omega) | (show (_ : Int) ≤ (_ : Int); omega) | (show _ < List.length _; simp only [List.length_set, List.length_append, List.length_take]; omega) | (show wantB _ _ = true; simp <;> omega) | (show (_ : Bool) = _; simp_all; done) | (exfalso; omega) | refine aRegion_auto (by decide +kernel) ?_ | fail))
  refine eff_is .unk [M, bp, bz, bz] ?_
  (repeat' (first | exact trivial | exact fun h => h | refine And.intro ?_ ?_ | (intro hb; try simp at hb) | omega | exact rfl | exact Nat.le_refl _ | (show _ + 1 ≤ 4294967296; omega) | (show _ + 1 ≤ 5864062014634; omega) | (dsimp only; omega) | (show (_ : Int) ≤ (_ : Int); omega) | (show _ < List.length _; simp only [List.length_set, List.length_append, List.length_take]; omega) | (show wantB _ _ = true; simp <;> omega) | (show (_ : Bool) = _; simp_all; done) | (exfalso; omega) | refine aRegion_auto (by decide +kernel) ?_ | fail))
  refine eff_is .unk [M, bp, bq, bz] ?_
  (repeat' (first | exact trivial | exact fun h => h | refine And.intro ?_ ?_ | (intro hb; try simp at hb) | omega | exact rfl | exact Nat.le_refl _ | (show _ + 1 ≤ 4294967296; omega) | (show _ + 1 ≤ 5864062014634; omega) | (dsimp only; omega) | (show (_ : Int) ≤ (_ : Int); omega) | (show _ < List.length _; simp only [List.length_set, List.length_append, List.length_take]; omega) | (show wantB _ _ = true; simp <;> omega) | (show (_ : Bool) = _; simp_all; done) | (exfalso; omega) | refine aRegion_auto (by decide +kernel) ?_ | fail))
  refine eff_is .unk [M, bp, bq, br] ?_
  refine ⟨[(0, [M, rb, rb, rb]), (16384, [M, bz, rb, rb]), (32768, [M, rb, bz, rb]), (49152, [M, bz, bz, rb]), (65536, [M, rb, rb, bz]), (81920, [M, bz, rb, bz]), (98304, [M, rb, bz, bz]), (114688, [M, bz, bz, bz]), (245760, [M, bp, bz, bz]), (507904, [M, bp, bq, bz]), (1032192, [M, bp, bq, br])], rfl, rfl, ?_, ?_⟩
  · (repeat' (first | refine And.intro ?_ ?_ | exact trivial | exact rfl | omega))
    all_goals first
      | (refine view_of [0, 4, 2, 3] rfl ?_ rfl rfl; (repeat' (first | exact trivial | exact rfl | refine And.intro ?_ ?_)); done)
      | (refine view_of [0, 1, 4, 3] rfl ?_ rfl rfl; (repeat' (first | exact trivial | exact rfl | refine And.intro ?_ ?_)); done)
      | (refine view_of [0, 1, 2, 4] rfl ?_ rfl rfl; (repeat' (first | exact trivial | exact rfl | refine And.intro ?_ ?_)); done)
      | (refine view_of [0, 1, 2, 3] rfl ?_ rfl rfl; (repeat' (first | exact trivial | exact rfl | refine And.intro ?_ ?_)); done)
  · have pp : plB p = true := by rw [← hp]; exact hpl _ (by omega)
    have pq : plB q = true := by rw [← hq]; exact hpl _ (by omega)
    have pr : plB r = true := by rw [← hr]; exact hpl _ (by omega)
    refine ⟨[(1, .fz int i), (2, .fz int k), (3, .fz int most), (4, .ptr 0 0), (9, .fz (.list SpT) a), (10, .ptr 1 0), (11, .ptr 2 0), (12, .ptr 3 0)], [M, .box [.fz int p.1, .fz int p.2], .box [.fz int q.1, .fz int q.2], .box [.fz int r.1, .fz int r.2]], Ent.sub (by rw [← e1, ← e2, ← e3]) ?_, ?_⟩
    · (repeat' (first | exact trivial | exact rfl | refine And.intro ?_ ?_))
    have hno : ¬ Shp.spP m i k most → K (.fz .bool false) [] := fun h => by
      have e : Shp.spB most m i k = false := Bool.eq_false_iff.2 fun c => h (Shp.spB_iff.1 c)
      rw [e] at hK; exact hK
    have hyes : Shp.spP m i k most → K (.fz .bool true) [] := fun h => by
      rw [Shp.spB_iff.2 h] at hK; exact hK
    clear hK
    have hsp : Shp.spP m i k most ↔ (¬ most < Shp.side p q r ∧ ¬ Shp.side p q r < -most) ∧ ¬ (Shp.at_ a 0 = Shp.at_ a (a.length - 1) ∧ a.length < 5) ∧
        (∀ j t, Shp.inM m j t → ¬ (j = i ∧ k ≤ t + 1 ∧ t ≤ k + 1) → Shp.pt m j t ≠ p → Shp.pt m j t ≠ r → Shp.tri p q r (Shp.pt m j t) = false) ∧
        (∀ j n, Shp.isP m j n → ¬ (j = i ∧ (n = k ∨ n + 1 = k)) → Shp.meet p r (Shp.pt m j n) (Shp.pt m j (n + 1)) = false) := by
      unfold Shp.spP Shp.fits
      have h1 : Shp.pt m i (k - 1) = p := by unfold Shp.pt; rw [ha]; exact hp
      have h2 : Shp.pt m i k = q := by unfold Shp.pt; rw [ha]; exact hq
      have h3 : Shp.pt m i (k + 1) = r := by unfold Shp.pt; rw [ha]; exact hr
      rw [h1, h2, h3, ha]
    rw [hsp] at hno hyes
    clear hsp
    (repeat' (first | exact trivial | exact fun h => h | refine And.intro ?_ ?_ | (intro hb; try simp at hb) | omega | exact rfl | exact Nat.le_refl _ | (show _ + 1 ≤ 4294967296; omega) | (show _ + 1 ≤ 5864062014634; omega) | (dsimp only; omega) | (show (_ : Int) ≤ (_ : Int); omega) | (show _ < List.length _; simp only [List.length_set, List.length_append, List.length_take]; omega) | (show wantB _ _ = true; simp <;> omega) | (show (_ : Bool) = _; simp_all; done) | (exfalso; omega) | refine aRegion_auto (by decide +kernel) ?_ | fail))
    refine acall_conv [.dat SpT, .dat SpT, .dat SpT] _ _ _ rfl trivial (acall_frame0 rfl (side_any G p q r pp pq pr _ ?_))
    generalize Shp.side p q r = n at hno hyes
    have hz0 : (a[0]?.getD SpT.dft) = Shp.at_ a 0 := by unfold Shp.at_; rw [List.getD_eq_getElem?_getD]; rfl
    have hz1 : (a[a.length - 1]?.getD SpT.dft) = Shp.at_ a (a.length - 1) := by unfold Shp.at_; rw [List.getD_eq_getElem?_getD]; rfl
    by_cases hc : (¬ most < n ∧ ¬ n < -most) ∧ ¬ (Shp.at_ a 0 = Shp.at_ a (a.length - 1) ∧ a.length < 5)
    case neg =>
      have hK := hno (fun h => hc ⟨h.1, h.2.1⟩)
      (repeat' (first | exact trivial | exact fun h => h | refine And.intro ?_ ?_ | (intro hb; try simp at hb) | omega | exact rfl | exact Nat.le_refl _ | (show _ + 1 ≤ 4294967296; omega) | (show _ + 1 ≤ 5864062014634; omega) | (dsimp only; omega) | (show (_ : Int) ≤ (_ : Int); omega) | (show _ < List.length _; simp only [List.length_set, List.length_append, List.length_take]; omega) | (show wantB _ _ = true; simp <;> omega) | (show (_ : Bool) = _; simp_all; done) | (exfalso; omega) | refine aRegion_auto (by decide +kernel) ?_ | refine ⟨_, _, REnt.drop ⟨rfl, rfl⟩, ?_⟩ | fail))
      · exact hK
      · rw [hz0, hz1, eqS, decide_eq_true_iff] at hb
        exfalso
        refine hc ⟨by omega, fun h => ?_⟩
        have := hb.2 h.1
        omega
    (repeat' (first | exact trivial | exact fun h => h | refine And.intro ?_ ?_ | (intro hb; try simp at hb) | omega | exact rfl | exact Nat.le_refl _ | (show _ + 1 ≤ 4294967296; omega) | (show _ + 1 ≤ 5864062014634; omega) | (dsimp only; omega) | (show (_ : Int) ≤ (_ : Int); omega) | (show _ < List.length _; simp only [List.length_set, List.length_append, List.length_take]; omega) | (show wantB _ _ = true; simp <;> omega) | (show (_ : Bool) = _; simp_all; done) | (exfalso; omega) | refine aRegion_auto (by decide +kernel) ?_ | refine ⟨_, _, REnt.drop ⟨rfl, rfl⟩, ?_⟩ | fail))
    · rw [hz0, hz1, eqS, decide_eq_true_iff] at hb
      exfalso
      rcases hb with hb | hb
      · have := hc.1; omega
      · exact hc.2 ⟨hb.1, by omega⟩
    have hno : ¬ ((∀ j t, Shp.inM m j t → ¬ (j = i ∧ k ≤ t + 1 ∧ t ≤ k + 1) → Shp.pt m j t ≠ p → Shp.pt m j t ≠ r → Shp.tri p q r (Shp.pt m j t) = false) ∧
        (∀ j n, Shp.isP m j n → ¬ (j = i ∧ (n = k ∨ n + 1 = k)) → Shp.meet p r (Shp.pt m j n) (Shp.pt m j (n + 1)) = false)) → K (.fz .bool false) [] := fun h => hno fun c => h c.2.2
    have hyes := fun h => hyes ⟨hc.1, hc.2, h⟩
    clear hc
    refine ⟨[(1, .fz int i), (2, .fz int k), (4, .ptr 0 0), (10, .ptr 1 0), (11, .ptr 2 0), (12, .ptr 3 0)], [M, .box [.fz int p.1, .fz int p.2], .box [.fz int q.1, .fz int q.2], .box [.fz int r.1, .fz int r.2]], Ent.sub rfl ?_, ?_⟩
    · (repeat' (first | exact trivial | exact rfl | refine And.intro ?_ ?_))
    (repeat' (first | exact trivial | exact fun h => h | refine And.intro ?_ ?_ | (intro hb; try simp at hb) | omega | exact rfl | exact Nat.le_refl _ | (show _ + 1 ≤ 4294967296; omega) | (show _ + 1 ≤ 5864062014634; omega) | (dsimp only; omega) | (show (_ : Int) ≤ (_ : Int); omega) | (show _ < List.length _; simp only [List.length_set, List.length_append, List.length_take]; omega) | (show wantB _ _ = true; simp <;> omega) | (show (_ : Bool) = _; simp_all; done) | (exfalso; omega) | refine aRegion_auto (by decide +kernel) ?_ | fail))
    let Ok : Nat → Nat → Prop := fun j t => Shp.inM m j t → ¬ (j = i ∧ k ≤ t + 1 ∧ t ≤ k + 1) → Shp.pt m j t ≠ p → Shp.pt m j t ≠ r → Shp.tri p q r (Shp.pt m j t) = false
    let BX : List AO := [.box [.fz (.list (.list SpT)) m], .box [.fz int p.1, .fz int p.2], .box [.fz int q.1, .fz int q.2], .box [.fz int r.1, .fz int r.2]]
    refine ⟨Nat, fun j => ⟨[(1, .fz int i), (2, .fz int k), (4, .ptr 0 0), (10, .ptr 1 0), (11, .ptr 2 0), (12, .ptr 3 0), (71, .fz (.list (.list SpT)) m), (72, .fz int m.length), (73, .fz int j)], BX⟩, fun j => j ≤ m.length ∧ ∀ j', j' < j → ∀ t, Ok j' t, fun j => m.length - j, 0, ⟨Nat.zero_le _, fun _ h => absurd h (Nat.not_lt_zero _)⟩, Ent.sub rfl ?_, ?_⟩
    · (repeat' (first | exact trivial | exact rfl | refine And.intro ?_ ?_))
    intro j ⟨hj, hjs⟩
    have hj : j ≤ m.length := hj
    have hjs : ∀ j', j' < j → ∀ t, Ok j' t := hjs
    show awp _ _ _ ⟨[(1, .fz int i), (2, .fz int k), (4, .ptr 0 0), (10, .ptr 1 0), (11, .ptr 2 0), (12, .ptr 3 0), (71, .fz (.list (.list SpT)) m), (72, .fz int m.length), (73, .fz int j)], [.box [.fz (.list (.list SpT)) m], .box [.fz int p.1, .fz int p.2], .box [.fz int q.1, .fz int q.2], .box [.fz int r.1, .fz int r.2]]⟩
    by_cases hjl : j < m.length
    · have hbl := B.len j hjl
      obtain ⟨b, hbd⟩ : ∃ b, Shp.arc m j = b := ⟨_, rfl⟩
      have hgb : List.getD m (Int.toNat (j : Int)) SpT.list.dft = b := hbd
      rw [hbd] at hbl
      (repeat' (first | exact trivial | exact fun h => h | refine And.intro ?_ ?_ | (intro hb; try simp at hb) | omega | exact rfl | exact Nat.le_refl _ | (show _ + 1 ≤ 4294967296; omega) | (show _ + 1 ≤ 5864062014634; omega) | (dsimp only; omega) | (show (_ : Int) ≤ (_ : Int); omega) | (show _ < List.length _; simp only [List.length_set, List.length_append, List.length_take]; omega) | (show wantB _ _ = true; simp <;> omega) | (show (_ : Bool) = _; simp_all; done) | (exfalso; omega) | refine aRegion_auto (by decide +kernel) ?_ | fail))
      refine ⟨Nat, fun t => ⟨[(1, .fz int i), (2, .fz int k), (4, .ptr 0 0), (10, .ptr 1 0), (11, .ptr 2 0), (12, .ptr 3 0), (14, .fz int j), (71, .fz (.list (.list SpT)) m), (72, .fz int m.length), (73, .fz int j), (78, .fz (.list SpT) b), (79, .fz int b.length), (80, .fz int t)], BX⟩, fun t => t ≤ b.length ∧ ∀ t', t' < t → Ok j t', fun t => b.length - t, 0, ⟨Nat.zero_le _, fun _ h => absurd h (Nat.not_lt_zero _)⟩, Ent.sub rfl ?_, ?_⟩
      · (repeat' (first | exact trivial | exact rfl | refine And.intro ?_ ?_))
        · exact congrArg (fun l => AV.fz (.list SpT) l) hgb
        · exact congrArg (fun l : List (Int × Int) => AV.fz int (l.length : Int)) hgb
      intro t ⟨ht, hts⟩
      have ht : t ≤ b.length := ht
      have hts : ∀ t', t' < t → Ok j t' := hts
      show awp _ _ _ ⟨[(1, .fz int i), (2, .fz int k), (4, .ptr 0 0), (10, .ptr 1 0), (11, .ptr 2 0), (12, .ptr 3 0), (14, .fz int j), (71, .fz (.list (.list SpT)) m), (72, .fz int m.length), (73, .fz int j), (78, .fz (.list SpT) b), (79, .fz int b.length), (80, .fz int t)], [.box [.fz (.list (.list SpT)) m], .box [.fz int p.1, .fz int p.2], .box [.fz int q.1, .fz int q.2], .box [.fz int r.1, .fz int r.2]]⟩
      by_cases htl : t < b.length
      · obtain ⟨x, hx⟩ : ∃ x, Shp.at_ b t = x := ⟨_, rfl⟩
        have hgx : List.getD b (Int.toNat (t : Int)) SpT.dft = x := hx
        have px : plB x = true := by
          have := B.pl j t ⟨hjl, by rw [hbd]; exact htl⟩
          unfold Shp.pt at this
          rw [hbd, hx] at this
          exact this
        have hpx : Shp.pt m j t = x := by unfold Shp.pt; rw [hbd]; exact hx
        have hin : Shp.inM m j t := ⟨hjl, by rw [hbd]; exact htl⟩
        obtain ⟨mine, hmine⟩ : ∃ mine, mine = decide (j = i ∧ k ≤ t + 1 ∧ t ≤ k + 1) := ⟨_, rfl⟩
        (repeat' (first | exact trivial | exact fun h => h | refine And.intro ?_ ?_ | (intro hb; try simp at hb) | omega | exact rfl | exact Nat.le_refl _ | (show _ + 1 ≤ 4294967296; omega) | (show _ + 1 ≤ 5864062014634; omega) | (dsimp only; omega) | (show (_ : Int) ≤ (_ : Int); omega) | (show _ < List.length _; simp only [List.length_set, List.length_append, List.length_take]; omega) | (show wantB _ _ = true; simp <;> omega) | (show (_ : Bool) = _; simp_all; done) | (exfalso; omega) | refine aRegion_auto (by decide +kernel) ?_ | fail))
        refine ⟨[(1, .fz int i), (2, .fz int k), (4, .ptr 0 0), (10, .ptr 1 0), (11, .ptr 2 0), (12, .ptr 3 0), (14, .fz int j), (17, .ptr 4 0), (18, .fz .bool mine), (71, .fz (.list (.list SpT)) m), (72, .fz int m.length), (73, .fz int j), (78, .fz (.list SpT) b), (79, .fz int b.length), (80, .fz int t)], [.box [.fz (.list (.list SpT)) m], .box [.fz int p.1, .fz int p.2], .box [.fz int q.1, .fz int q.2], .box [.fz int r.1, .fz int r.2], .box [.fz int x.1, .fz int x.2]], Ent.sub (by rw [← hgx]) ?_, ?_⟩
        · (repeat' (first | exact trivial | exact rfl | refine And.intro ?_ ?_))
          refine congrArg (AV.fz .bool) (?_ : (bif bif ((j : Int) == (i : Int)) then decide ((k : Int) - 1 ≤ (t : Int)) else false then decide ((t : Int) ≤ (k : Int) + 1) else false) = mine)
          rw [hmine, Bool.eq_iff_iff]
          simp
          omega
        · have eP : eqL [x.1, x.2] [p.1, p.2] = decide (x = p) := eqS _ _
          have eR : eqL [x.1, x.2] [r.1, r.2] = decide (x = r) := eqS _ _
          by_cases hw : mine = false ∧ x ≠ p ∧ x ≠ r
          case neg =>
            have hF : (bif bif !mine then !eqL [x.1, x.2] [p.1, p.2] else false then !eqL [x.1, x.2] [r.1, r.2] else false) = false := by
              rw [eP, eR]
              cases mine
              · by_cases c1 : x = p
                · simp [c1]
                · by_cases c2 : x = r
                  · simp [c2]
                  · exact absurd ⟨rfl, c1, c2⟩ hw
              · rfl
            have hOk : Ok j t := fun _ h1 h2 h3 => by
              rw [hpx] at h2 h3
              exact absurd ⟨by rw [hmine]; exact decide_eq_false h1, h2, h3⟩ hw
            (repeat' (first | exact trivial | exact fun h => h | refine And.intro ?_ ?_ | (intro hb; try simp at hb) | omega | exact rfl | exact Nat.le_refl _ | (show _ + 1 ≤ 4294967296; omega) | (show _ + 1 ≤ 5864062014634; omega) | (dsimp only; omega) | (show (_ : Int) ≤ (_ : Int); omega) | (show _ < List.length _; simp only [List.length_set, List.length_append, List.length_take]; omega) | (show wantB _ _ = true; simp <;> omega) | (show (_ : Bool) = _; simp_all; done) | (exfalso; omega) | refine aRegion_auto (by decide +kernel) ?_ | fail))
            all_goals first
              | exact hF
              | (exfalso; rw [eP, eR] at hb; simp at hb; exact hw ⟨hb.1.1, hb.1.2, hb.2⟩)
              | skip
            refine ⟨t + 1, ⟨by show t + 1 ≤ b.length; omega, fun t' h' => ?_⟩, by show b.length - (t + 1) < b.length - t; omega, Ent.ren [0, 1, 2, 3] rfl ?_ ?_⟩
            · by_cases c : t' = t
              · rw [c]; exact hOk
              · exact hts t' (by have h' : t' < t + 1 := h'; omega)
            · (repeat' (first | exact trivial | exact rfl | refine And.intro ?_ ?_))
            · (repeat' (first | exact trivial | exact rfl | refine And.intro ?_ ?_))
          · have hF : (bif bif !mine then !eqL [x.1, x.2] [p.1, p.2] else false then !eqL [x.1, x.2] [r.1, r.2] else false) = true := by
              rw [eP, eR, hw.1]
              simp [hw.2.1, hw.2.2]
            have hw1 : ¬ (j = i ∧ k ≤ t + 1 ∧ t ≤ k + 1) := of_decide_eq_false (hmine ▸ hw.1)
            have hia := in_any G p q r x pp pq pr px
            (repeat' (first | exact trivial | exact fun h => h | refine And.intro ?_ ?_ | (intro hb; try simp at hb) | omega | exact rfl | exact Nat.le_refl _ | (show _ + 1 ≤ 4294967296; omega) | (show _ + 1 ≤ 5864062014634; omega) | (dsimp only; omega) | (show (_ : Int) ≤ (_ : Int); omega) | (show _ < List.length _; simp only [List.length_set, List.length_append, List.length_take]; omega) | (show wantB _ _ = true; simp <;> omega) | (show (_ : Bool) = _; simp_all; done) | (exfalso; omega) | refine aRegion_auto (by decide +kernel) ?_ | fail))
            all_goals first
              | (have hcc : mine = false → eqL [x.1, x.2] [p.1, p.2] = false → eqL [x.1, x.2] [r.1, r.2] = true := by assumption
                 exfalso
                 have := hcc hw.1 (by rw [eP]; exact decide_eq_false hw.2.1)
                 rw [eR, decide_eq_true_iff] at this
                 exact hw.2.2 this)
              | skip
            refine acall_conv [.dat SpT, .dat SpT, .dat SpT, .dat SpT] _ _ _ rfl trivial (acall_frame0 rfl (hia _ ?_))
            cases htr : Shp.tri p q r x with
            | true =>
              have hK := hno (fun h => by
                have := h.1 j t hin hw1 (by rw [hpx]; exact hw.2.1) (by rw [hpx]; exact hw.2.2)
                rw [hpx, htr] at this
                cases this)
              (repeat' (first | exact trivial | exact fun h => h | refine And.intro ?_ ?_ | (intro hb; try simp at hb) | omega | exact rfl | exact Nat.le_refl _ | (show _ + 1 ≤ 4294967296; omega) | (show _ + 1 ≤ 5864062014634; omega) | (dsimp only; omega) | (show (_ : Int) ≤ (_ : Int); omega) | (show _ < List.length _; simp only [List.length_set, List.length_append, List.length_take]; omega) | (show wantB _ _ = true; simp <;> omega) | (show (_ : Bool) = _; simp_all; done) | (exfalso; omega) | refine aRegion_auto (by decide +kernel) ?_ | refine ⟨_, _, REnt.drop ⟨rfl, rfl⟩, ?_⟩ | fail))
              · exact hK
              · (have hcc : mine = false → eqL [x.1, x.2] [p.1, p.2] = false → eqL [x.1, x.2] [r.1, r.2] = true := by assumption
                 exfalso
                 have := hcc hw.1 (by rw [eP]; exact decide_eq_false hw.2.1)
                 rw [eR, decide_eq_true_iff] at this
                 exact hw.2.2 this)
            | false =>
              have hOk : Ok j t := fun _ _ _ _ => by rw [hpx]; exact htr
              (repeat' (first | exact trivial | refine And.intro ?_ ?_ | (intro hb; try simp at hb) | omega | exact rfl | refine aRegion_auto (by decide +kernel) ?_ | fail))
              refine ⟨t + 1, ⟨by show t + 1 ≤ b.length; omega, fun t' h' => ?_⟩, by show b.length - (t + 1) < b.length - t; omega, Ent.ren [0, 1, 2, 3] rfl ?_ ?_⟩
              · by_cases c : t' = t
                · rw [c]; exact hOk
                · exact hts t' (by have h' : t' < t + 1 := h'; omega)
              · (repeat' (first | exact trivial | exact rfl | refine And.intro ?_ ?_))
              · (repeat' (first | exact trivial | exact rfl | refine And.intro ?_ ?_))
      · obtain rfl : t = b.length := by omega
        (repeat' (first | exact trivial | exact fun h => h | refine And.intro ?_ ?_ | (intro hb; try simp at hb) | omega | exact rfl | exact Nat.le_refl _ | (show _ + 1 ≤ 4294967296; omega) | (show _ + 1 ≤ 5864062014634; omega) | (dsimp only; omega) | (show (_ : Int) ≤ (_ : Int); omega) | (show _ < List.length _; simp only [List.length_set, List.length_append, List.length_take]; omega) | (show wantB _ _ = true; simp <;> omega) | (show (_ : Bool) = _; simp_all; done) | (exfalso; omega) | refine aRegion_auto (by decide +kernel) ?_ | fail))
        refine ⟨j + 1, ⟨by show j + 1 ≤ m.length; omega, fun j' h' t => ?_⟩, by show m.length - (j + 1) < m.length - j; omega, Ent.sub rfl ?_⟩
        · by_cases c : j' = j
          · rw [c]
            intro h1
            exact hts t (by have := h1.2; rw [hbd] at this; exact this) h1
          · exact hjs j' (by have h' : j' < j + 1 := h'; omega) t
        · (repeat' (first | exact trivial | exact rfl | refine And.intro ?_ ?_))
    · obtain rfl : j = m.length := by omega
      have htri : ∀ j t, Ok j t := fun j t h1 => hjs j h1.1 t h1
      (repeat' (first | exact trivial | exact fun h => h | refine And.intro ?_ ?_ | (intro hb; try simp at hb) | omega | exact rfl | exact Nat.le_refl _ | (show _ + 1 ≤ 4294967296; omega) | (show _ + 1 ≤ 5864062014634; omega) | (dsimp only; omega) | (show (_ : Int) ≤ (_ : Int); omega) | (show _ < List.length _; simp only [List.length_set, List.length_append, List.length_take]; omega) | (show wantB _ _ = true; simp <;> omega) | (show (_ : Bool) = _; simp_all; done) | (exfalso; omega) | refine aRegion_auto (by decide +kernel) ?_ | fail))
      refine acall_conv [.dat MpT] _ _ _ rfl trivial (acall_frame0 rfl (pieces_any G m B _ ?_))
      have hll := Shp.pcs_len B.len m.length (Nat.le_refl _)
      have hml := fun x => Shp.mem_pcs (m := m) (x := x) m.length
      generalize Shp.pcs m m.length = L at hll hml
      have hyes := fun h => hyes ⟨htri, h⟩
      have hno : ¬ (∀ j n, Shp.isP m j n → ¬ (j = i ∧ (n = k ∨ n + 1 = k)) → Shp.meet p r (Shp.pt m j n) (Shp.pt m j (n + 1)) = false) → K (.fz .bool false) [] := fun h => hno fun c => h c.2
      let PO : Shp.Pc → Prop := fun y => ¬ (y.2.2.1 = (i : Int) ∧ (y.2.2.2 = (k : Int) ∨ y.2.2.2 + 1 = (k : Int))) → Shp.meet p r y.1 y.2.1 = false
      (repeat' (first | exact trivial | exact fun h => h | refine And.intro ?_ ?_ | (intro hb; try simp at hb) | omega | exact rfl | exact Nat.le_refl _ | (show _ + 1 ≤ 4294967296; omega) | (show _ + 1 ≤ 5864062014634; omega) | (dsimp only; omega) | (show (_ : Int) ≤ (_ : Int); omega) | (show _ < List.length _; simp only [List.length_set, List.length_append, List.length_take]; omega) | (show wantB _ _ = true; simp <;> omega) | (show (_ : Bool) = _; simp_all; done) | (exfalso; omega) | refine aRegion_auto (by decide +kernel) ?_ | fail))
      refine ⟨Nat, fun c => ⟨[(1, .fz int i), (2, .fz int k), (10, .ptr 1 0), (12, .ptr 3 0), (122, .fz (.list PcT) L), (123, .fz int L.length), (124, .fz int c)], [.box [.fz (.list (.list SpT)) m], .box [.fz int p.1, .fz int p.2], .box [.fz int q.1, .fz int q.2], .box [.fz int r.1, .fz int r.2]]⟩, fun c => c ≤ L.length ∧ ∀ c', c' < c → PO (List.getD L c' PcT.dft), fun c => L.length - c, 0, ⟨Nat.zero_le _, fun _ h => absurd h (Nat.not_lt_zero _)⟩, Ent.sub rfl ?_, ?_⟩
      · (repeat' (first | exact trivial | exact rfl | refine And.intro ?_ ?_))
      intro c ⟨hc, hcs⟩
      have hc : c ≤ L.length := hc
      have hcs : ∀ c', c' < c → PO (List.getD L c' PcT.dft) := hcs
      show awp _ _ _ ⟨[(1, .fz int i), (2, .fz int k), (10, .ptr 1 0), (12, .ptr 3 0), (122, .fz (.list PcT) L), (123, .fz int L.length), (124, .fz int c)], [.box [.fz (.list (.list SpT)) m], .box [.fz int p.1, .fz int p.2], .box [.fz int q.1, .fz int q.2], .box [.fz int r.1, .fz int r.2]]⟩
      by_cases hcl : c < L.length
      · obtain ⟨y, hy⟩ : ∃ y, List.getD L c PcT.dft = y := ⟨_, rfl⟩
        have hgy : List.getD L (Int.toNat (c : Int)) PcT.dft = y := hy
        have hyL : y ∈ L := by rw [← hy, List.getD_eq_getElem?_getD, List.getElem?_eq_getElem hcl]; exact List.getElem_mem _
        obtain ⟨j, n, hjm, hnl, hye⟩ := (hml y).1 hyL
        have p1 : plB y.1 = true := by rw [hye]; exact B.pl j n ⟨hjm, by omega⟩
        have p2 : plB y.2.1 = true := by rw [hye]; exact B.pl j (n + 1) ⟨hjm, hnl⟩
        have hip : Shp.isP m j n := ⟨hjm, hnl⟩
        have hma := meet_any G p r (List.getD L (Int.toNat (c : Int)) PcT.dft).1 (List.getD L (Int.toNat (c : Int)) PcT.dft).2.1 pp pr (by rw [hgy]; exact p1) (by rw [hgy]; exact p2)
        have n1 : y.2.2.1 = (j : Int) := by rw [hye]
        have n2 : y.2.2.2 = (n : Int) := by rw [hye]
        have n3 : y.1 = Shp.pt m j n := by rw [hye]
        have n4 : y.2.1 = Shp.pt m j (n + 1) := by rw [hye]
        have hz : (L[c]?.getD PcT.dft) = y := by rw [← hy, List.getD_eq_getElem?_getD]
        clear hye
        have hgo : PO y → ∀ c', c' < c + 1 → PO (List.getD L c' PcT.dft) := fun h c' h' => by
          by_cases e : c' = c
          · rw [e, hy]; exact h
          · exact hcs c' (by omega)
        (repeat' (first | exact trivial | exact fun h => h | refine And.intro ?_ ?_ | (intro hb; try simp at hb) | omega | exact rfl | exact Nat.le_refl _ | (show _ + 1 ≤ 4294967296; omega) | (show _ + 1 ≤ 5864062014634; omega) | (dsimp only; omega) | (show (_ : Int) ≤ (_ : Int); omega) | (show _ < List.length _; simp only [List.length_set, List.length_append, List.length_take]; omega) | (show wantB _ _ = true; simp <;> omega) | (show (_ : Bool) = _; simp_all; done) | (exfalso; omega) | refine aRegion_auto (by decide +kernel) ?_ | fail))
        · have hg := hgo (fun h => by
            rw [hz] at hb
            exact absurd (by omega) h)
          refine ⟨c + 1, ⟨by show c + 1 ≤ L.length; omega, hg⟩, by show L.length - (c + 1) < L.length - c; omega, Ent.ren [0, 1, 2, 3] rfl ?_ ?_⟩
          · (repeat' (first | exact trivial | exact rfl | refine And.intro ?_ ?_))
          · (repeat' (first | exact trivial | exact rfl | refine And.intro ?_ ?_))
        · rw [hz, n1, n2] at hb
          refine acall_conv [.dat SpT, .dat SpT, .dat SpT, .dat SpT] _ _ _ rfl trivial (acall_frame0 rfl (hma _ ?_))
          rw [hgy]
          cases hmt : Shp.meet p r y.1 y.2.1 with
          | true =>
            have hK := hno (fun h => by
              have := h j n hip (by omega)
              rw [← n3, ← n4, hmt] at this
              cases this)
            (repeat' (first | exact trivial | exact fun h => h | refine And.intro ?_ ?_ | (intro hb; try simp at hb) | omega | exact rfl | exact Nat.le_refl _ | (show _ + 1 ≤ 4294967296; omega) | (show _ + 1 ≤ 5864062014634; omega) | (dsimp only; omega) | (show (_ : Int) ≤ (_ : Int); omega) | (show _ < List.length _; simp only [List.length_set, List.length_append, List.length_take]; omega) | (show wantB _ _ = true; simp <;> omega) | (show (_ : Bool) = _; simp_all; done) | (exfalso; omega) | refine aRegion_auto (by decide +kernel) ?_ | refine ⟨_, _, REnt.drop ⟨rfl, rfl⟩, ?_⟩ | fail))
            exact hK
          | false =>
            have hg := hgo (fun _ => hmt)
            (repeat' (first | exact trivial | refine And.intro ?_ ?_ | (intro hb; try simp at hb) | omega | exact rfl | refine aRegion_auto (by decide +kernel) ?_ | fail))
            refine ⟨c + 1, ⟨by show c + 1 ≤ L.length; omega, hg⟩, by show L.length - (c + 1) < L.length - c; omega, Ent.ren [0, 1, 2, 3] rfl ?_ ?_⟩
            · (repeat' (first | exact trivial | exact rfl | refine And.intro ?_ ?_))
            · (repeat' (first | exact trivial | exact rfl | refine And.intro ?_ ?_))
      · obtain rfl : c = L.length := by omega
        have hK := hyes fun j n hip hne => by
          have hm : (Shp.pt m j n, Shp.pt m j (n + 1), (j : Int), (n : Int)) ∈ L := (hml _).2 ⟨j, n, hip.1, hip.2, rfl⟩
          obtain ⟨c, hc, he⟩ := List.getElem_of_mem hm
          have := hcs c hc
          rw [List.getD_eq_getElem?_getD, List.getElem?_eq_getElem hc] at this
          have this : PO L[c] := this
          rw [he] at this
          exact this (fun h => hne (by
            have h1 : (j : Int) = (i : Int) := h.1
            have h2 : (n : Int) = (k : Int) ∨ (n : Int) + 1 = (k : Int) := h.2
            omega))
        (repeat' (first | exact trivial | refine And.intro ?_ ?_ | (intro hb; try simp at hb) | omega | exact rfl | refine aRegion_auto (by decide +kernel) ?_ | refine ⟨_, _, REnt.drop ⟨rfl, rfl⟩, ?_⟩ | fail))
        exact hK
theorem spareC {G : List (Nat × Value)} {most : Int} (h0 : 0 ≤ most) (h1 : most ≤ 9223372036854775807) : thin.SpareC G most := fun o i k hv hi hk0 hk =>
  spare_any G o (MB_of (Shp.vE_zero hv).1.1 (Shp.vE_zero hv).1.2 (Shp.vE_zero hv).2.1) i k hi hk0 hk most h0 h1 _ rfl
end Go.Proofs.YtcfalmdfohphoaaDoor
/-
  What two pieces have in common: the walk of the document's.
-/
namespace Go.Proofs.YtcfalmdfohphoaaDoor
open Go Go.Ab
set_option maxRecDepth 100000
theorem with_any (G : List (Nat × Value)) (L : Pts) (hm : L.length ≤ 100) (x : Int × Int) (K : AV → List AO → Prop) (h1 : x ∈ L → K (.ref 0 0 L.length) [.row SpT L]) (h2 : x ∉ L → K (.ref 1 0 (L.length + 1)) [.dead, .row SpT (L ++ [x])]) :
    ACall Tryd.prog G 29 [.ref 0 0 L.length, .fz SpT x] [.row SpT L] K := by
  refine acall_mk (E := envAt G 23 1) (envOk _ _ _) Tryd.func29 rfl rfl rfl rfl rfl ?_
  (repeat' (first | exact trivial | refine And.intro ?_ ?_ | (intro hb; try simp at hb) | omega | exact rfl | refine aRegion_auto (by decide +kernel) ?_ | fail))
  refine ⟨Nat, fun k => ⟨[(0, .ref 0 0 L.length), (3, .ptr 1 0), (5, .fz int k)], [.row SpT L, .box [.fz int x.1, .fz int x.2]]⟩, fun k => k ≤ L.length ∧ ∀ j, j < k → Shp.at_ L j ≠ x, fun k => L.length - k, 0, ⟨Nat.zero_le _, fun j h => absurd h (Nat.not_lt_zero _)⟩, Ent.sub rfl ?_, ?_⟩
  · (repeat' (first | exact trivial | exact rfl | refine And.intro ?_ ?_))
  intro k ⟨hk, hno⟩
  by_cases hkl : k < L.length
  · have qk := at_q L k
    have eX := eqS (Shp.at_ L k) x
    (repeat' (first | exact trivial | exact fun h => h | refine And.intro ?_ ?_ | (intro hb; try simp at hb) | omega | exact rfl | exact Nat.le_refl _ | (show _ + 1 ≤ 4294967296; omega) | (show _ + 1 ≤ 5864062014634; omega) | (dsimp only; omega) | (show (_ : Int) ≤ (_ : Int); omega) | (show _ < List.length _; simp only [List.length_set, List.length_append, List.length_take]; omega) | (show wantB _ _ = true; simp <;> omega) | (show (_ : Bool) = _; simp_all; done) | (exfalso; omega) | refine aRegion_auto (by decide +kernel) ?_ | fail))
    · have e : Shp.at_ L k = x := by
        rw [qk, eX] at hb
        exact of_decide_eq_true hb
      refine ⟨_, _, REnt.ren [0] rfl ?_ ?_, h1 ?_⟩
      · (repeat' (first | exact trivial | exact rfl | refine And.intro ?_ ?_))
      · (repeat' (first | exact trivial | exact rfl | refine And.intro ?_ ?_))
      · rw [← e]
        have : Shp.at_ L k = L[k] := by unfold Shp.at_; simp [hkl]
        rw [this]; exact List.getElem_mem hkl
    · have e : Shp.at_ L k ≠ x := by
        rw [qk, eX] at hb
        exact of_decide_eq_false hb
      refine ⟨k + 1, ⟨by show k + 1 ≤ L.length; omega, fun j hj => ?_⟩, by show L.length - (k + 1) < L.length - k; omega, Ent.sub rfl ?_⟩
      · by_cases ej : j = k
        · rw [ej]; exact e
        · exact hno j (by omega)
      · (repeat' (first | exact trivial | exact rfl | refine And.intro ?_ ?_))
  · have hke : k = L.length := by omega
    have hnx : x ∉ L := fun hx => by
      obtain ⟨i, hi, rfl⟩ := List.getElem_of_mem hx
      have e : Shp.at_ L i = L[i] := by unfold Shp.at_; simp [hi]
      exact hno i (by omega) e
    (repeat' (first | exact trivial | exact fun h => h | refine And.intro ?_ ?_ | (intro hb; try simp at hb) | omega | exact rfl | exact Nat.le_refl _ | (show _ + 1 ≤ 4294967296; omega) | (show _ + 1 ≤ 5864062014634; omega) | (dsimp only; omega) | (show (_ : Int) ≤ (_ : Int); omega) | (show _ < List.length _; simp only [List.length_set, List.length_append, List.length_take]; omega) | (show wantB _ _ = true; simp <;> omega) | (show (_ : Bool) = _; simp_all; done) | (exfalso; omega) | refine aRegion_auto (by decide +kernel) ?_ | fail))
    refine ⟨_, _, REnt.ren [0, 3] rfl ?_ ?_, h2 hnx⟩
    · (repeat' (first | exact trivial | exact rfl | refine And.intro ?_ ?_))
      refine congrArg (fun l => some (AO.row SpT l)) (?_ : List.take L.length L ++ [x] = L ++ [x])
      rw [List.take_of_length_le (Nat.le_refl _)]
    · (repeat' (first | exact trivial | exact rfl | refine And.intro ?_ ?_))
/-- branches that come to the same state are joined there: what is to be shown of it, once -/
structure Bx (c : Prop) : Prop where
  out : c
theorem merge {c g : Prop} (f : Bx c → g) (h : c) : g := f ⟨h⟩
theorem wth_len (L : Pts) (x : Int × Int) : (Shp.wth L x).length ≤ L.length + 1 := by unfold Shp.wth; split <;> simp
theorem wif_len (b : Bool) (L : Pts) (x : Int × Int) : (Shp.wif b L x).length ≤ L.length + 1 := by
  unfold Shp.wif
  split
  · exact wth_len L x
  · omega
set_option maxHeartbeats 8000000 in
theorem common_any (G : List (Nat × Value)) (p q r s : Int × Int) (hp : plB p = true) (hq : plB q = true) (hr : plB r = true) (hs : plB s = true) (K : AV → List AO → Prop) (hK : K (.tup [.fz int (Shp.com p q r s).1, .agg [.fz int (Shp.com p q r s).2.1, .fz int (Shp.com p q r s).2.2]]) []) : ACall Tryd.prog G 45 [.fz SpT p, .fz SpT q, .fz SpT r, .fz SpT s] [] K := by
  refine acall_mk (E := envCut G 89 0 [6, 8, 10, 12, 14]) (envCutOk _ _ _ _) Tryd.func45 rfl rfl rfl rfl rfl ?_
  (repeat' (first | exact trivial | exact fun h => h | refine And.intro ?_ ?_ | (intro hb; try simp at hb) | omega | exact rfl | exact Nat.le_refl _ | (show _ + 1 ≤ 4294967296; omega) | (show _ + 1 ≤ 5864062014634; omega) | (dsimp only; omega) | (show (_ : Int) ≤ (_ : Int); omega) | (show _ < List.length _; simp only [List.length_set, List.length_append, List.length_take]; omega) | (show wantB _ _ = true; simp <;> omega) | (show (_ : Bool) = _; simp_all; done) | (exfalso; omega) | refine aRegion_auto (by decide +kernel) ?_ | refine ⟨_, _, REnt.drop ⟨rfl, rfl⟩, ?_⟩ | fail))
  refine acall_conv [.dat SpT, .dat SpT, .dat SpT] _ _ _ rfl trivial (acall_frame0 rfl (onPiece_any _ p q r hp hq hr _ ?_))
  (repeat' (first | exact trivial | refine And.intro ?_ ?_ | (intro hb; try simp at hb) | omega | exact rfl | refine aRegion_auto (by decide +kernel) ?_ | refine ⟨_, _, REnt.drop ⟨rfl, rfl⟩, ?_⟩ | fail))
  refine acall_conv [.dat SpT, .dat SpT, .dat SpT] _ _ _ rfl trivial (acall_frame0 rfl (onPiece_any _ p q s hp hq hs _ ?_))
  (repeat' (first | exact trivial | refine And.intro ?_ ?_ | (intro hb; try simp at hb) | omega | exact rfl | refine aRegion_auto (by decide +kernel) ?_ | refine ⟨_, _, REnt.drop ⟨rfl, rfl⟩, ?_⟩ | fail))
  refine acall_conv [.dat SpT, .dat SpT, .dat SpT] _ _ _ rfl trivial (acall_frame0 rfl (onPiece_any _ r s p hr hs hp _ ?_))
  (repeat' (first | exact trivial | refine And.intro ?_ ?_ | (intro hb; try simp at hb) | omega | exact rfl | refine aRegion_auto (by decide +kernel) ?_ | refine ⟨_, _, REnt.drop ⟨rfl, rfl⟩, ?_⟩ | fail))
  refine acall_conv [.dat SpT, .dat SpT, .dat SpT] _ _ _ rfl trivial (acall_frame0 rfl (onPiece_any _ r s q hr hs hq _ ?_))
  generalize eA : Shp.on p q r = fA at *
  generalize eB : Shp.on p q s = fB at *
  generalize eC : Shp.on r s p = fC at *
  generalize eD : Shp.on r s q = fD at *
  (repeat' (first | exact trivial | refine And.intro ?_ ?_ | (intro hb; try simp at hb) | omega | exact rfl | refine aRegion_auto (by decide +kernel) ?_ | refine ⟨_, _, REnt.drop ⟨rfl, rfl⟩, ?_⟩ | fail))
  have l0 : ([] : Pts).length ≤ 0 := Nat.le_refl _
  refine ⟨[(4, .ptr 0 0), (5, .ptr 1 0), (6, .ptr 2 0), (7, .ptr 3 0), (9, .ptr 4 0), (10, .ref 5 0 ([] : Pts).length), (11, .fz .bool fA), (12, .fz .bool fB), (13, .fz .bool fC), (14, .fz .bool fD)], [.box [.fz int p.1, .fz int p.2], .box [.fz int q.1, .fz int q.2], .box [.fz int r.1, .fz int r.2], .box [.fz int s.1, .fz int s.2], .box [.fz int 0, .fz int 0], .row SpT []], (Ent.nil 10 SpT rfl).trans (Ent.sub rfl ?_), ?_⟩
  · (repeat' (first | exact trivial | exact rfl | refine And.intro ?_ ?_))
  obtain ⟨L1, hL1⟩ : ∃ L1, L1 = Shp.wif fA ([] : Pts) r := ⟨_, rfl⟩
  have l1 : L1.length ≤ 1 := by rw [hL1]; have := wif_len fA ([] : Pts) r; omega
  apply merge
  · intro hc
    cases fA with
    | true =>
      (repeat' (first | exact trivial | refine And.intro ?_ ?_ | (intro hb; try simp at hb) | omega | exact rfl | refine aRegion_auto (by decide +kernel) ?_ | refine ⟨_, _, REnt.drop ⟨rfl, rfl⟩, ?_⟩ | fail))
      refine acall_conv [.keep, .dat SpT] _ _ _ rfl trivial (acall_frame [5] [.row SpT ([] : Pts)] [.ref 0 0 ([] : Pts).length, .fz SpT r] rfl ⟨⟨rfl, trivial⟩, trivial⟩ ⟨rfl, rfl⟩ rfl (with_any _ ([] : Pts) (by omega) r _ (fun hin => ?_) (fun hin => ?_)))
      · have e : L1 = ([] : Pts) := by rw [hL1]; unfold Shp.wif Shp.wth; rw [if_pos rfl, if_pos hin]
        (repeat' (first | exact trivial | refine And.intro ?_ ?_ | (intro hb; try simp at hb) | omega | exact rfl | refine aRegion_auto (by decide +kernel) ?_ | refine ⟨_, _, REnt.drop ⟨rfl, rfl⟩, ?_⟩ | fail))
        refine ⟨[(4, .ptr 0 0), (5, .ptr 1 0), (6, .ptr 2 0), (7, .ptr 3 0), (9, .ptr 4 0), (10, .ref 5 0 L1.length), (12, .fz .bool fB), (13, .fz .bool fC), (14, .fz .bool fD)], [.box [.fz int p.1, .fz int p.2], .box [.fz int q.1, .fz int q.2], .box [.fz int r.1, .fz int r.2], .box [.fz int s.1, .fz int s.2], .box [.fz int 0, .fz int 0], .row SpT L1], Ent.sub ?_ ?_, hc.out⟩
        · rw [e]
        · rw [e]; (repeat' (first | exact trivial | exact rfl | refine And.intro ?_ ?_))
      · have e : L1 = ([] : Pts) ++ [r] := by rw [hL1]; unfold Shp.wif Shp.wth; rw [if_pos rfl, if_neg hin]
        have e2 : L1.length = ([] : Pts).length + 1 := by rw [e]; simp
        (repeat' (first | exact trivial | refine And.intro ?_ ?_ | (intro hb; try simp at hb) | omega | exact rfl | refine aRegion_auto (by decide +kernel) ?_ | refine ⟨_, _, REnt.drop ⟨rfl, rfl⟩, ?_⟩ | fail))
        refine ⟨[(4, .ptr 0 0), (5, .ptr 1 0), (6, .ptr 2 0), (7, .ptr 3 0), (9, .ptr 4 0), (10, .ref 5 0 L1.length), (12, .fz .bool fB), (13, .fz .bool fC), (14, .fz .bool fD)], [.box [.fz int p.1, .fz int p.2], .box [.fz int q.1, .fz int q.2], .box [.fz int r.1, .fz int r.2], .box [.fz int s.1, .fz int s.2], .box [.fz int 0, .fz int 0], .row SpT L1], Ent.ren [0, 1, 2, 3, 4, 6] rfl ?_ ?_, hc.out⟩
        · rw [e]; (repeat' (first | exact trivial | exact rfl | refine And.intro ?_ ?_))
        · rw [e2]; (repeat' (first | exact trivial | exact rfl | refine And.intro ?_ ?_))
    | false =>
      have e : L1 = ([] : Pts) := by rw [hL1]; unfold Shp.wif; rw [if_neg (by simp)]
      (repeat' (first | exact trivial | refine And.intro ?_ ?_ | (intro hb; try simp at hb) | omega | exact rfl | refine aRegion_auto (by decide +kernel) ?_ | refine ⟨_, _, REnt.drop ⟨rfl, rfl⟩, ?_⟩ | fail))
      refine ⟨[(4, .ptr 0 0), (5, .ptr 1 0), (6, .ptr 2 0), (7, .ptr 3 0), (9, .ptr 4 0), (10, .ref 5 0 L1.length), (12, .fz .bool fB), (13, .fz .bool fC), (14, .fz .bool fD)], [.box [.fz int p.1, .fz int p.2], .box [.fz int q.1, .fz int q.2], .box [.fz int r.1, .fz int r.2], .box [.fz int s.1, .fz int s.2], .box [.fz int 0, .fz int 0], .row SpT L1], Ent.sub ?_ ?_, hc.out⟩
      · rw [e]
      · rw [e]; (repeat' (first | exact trivial | exact rfl | refine And.intro ?_ ?_))
  obtain ⟨L2, hL2⟩ : ∃ L2, L2 = Shp.wif fB L1 s := ⟨_, rfl⟩
  have l2 : L2.length ≤ 2 := by rw [hL2]; have := wif_len fB L1 s; omega
  apply merge
  · intro hc
    cases fB with
    | true =>
      (repeat' (first | exact trivial | refine And.intro ?_ ?_ | (intro hb; try simp at hb) | omega | exact rfl | refine aRegion_auto (by decide +kernel) ?_ | refine ⟨_, _, REnt.drop ⟨rfl, rfl⟩, ?_⟩ | fail))
      refine acall_conv [.keep, .dat SpT] _ _ _ rfl trivial (acall_frame [5] [.row SpT L1] [.ref 0 0 L1.length, .fz SpT s] rfl ⟨⟨rfl, trivial⟩, trivial⟩ ⟨rfl, rfl⟩ rfl (with_any _ L1 (by omega) s _ (fun hin => ?_) (fun hin => ?_)))
      · have e : L2 = L1 := by rw [hL2]; unfold Shp.wif Shp.wth; rw [if_pos rfl, if_pos hin]
        (repeat' (first | exact trivial | refine And.intro ?_ ?_ | (intro hb; try simp at hb) | omega | exact rfl | refine aRegion_auto (by decide +kernel) ?_ | refine ⟨_, _, REnt.drop ⟨rfl, rfl⟩, ?_⟩ | fail))
        refine ⟨[(4, .ptr 0 0), (5, .ptr 1 0), (6, .ptr 2 0), (7, .ptr 3 0), (9, .ptr 4 0), (10, .ref 5 0 L2.length), (13, .fz .bool fC), (14, .fz .bool fD)], [.box [.fz int p.1, .fz int p.2], .box [.fz int q.1, .fz int q.2], .box [.fz int r.1, .fz int r.2], .box [.fz int s.1, .fz int s.2], .box [.fz int 0, .fz int 0], .row SpT L2], Ent.sub ?_ ?_, hc.out⟩
        · rw [e]
        · rw [e]; (repeat' (first | exact trivial | exact rfl | refine And.intro ?_ ?_))
      · have e : L2 = L1 ++ [s] := by rw [hL2]; unfold Shp.wif Shp.wth; rw [if_pos rfl, if_neg hin]
        have e2 : L2.length = L1.length + 1 := by rw [e]; simp
        (repeat' (first | exact trivial | refine And.intro ?_ ?_ | (intro hb; try simp at hb) | omega | exact rfl | refine aRegion_auto (by decide +kernel) ?_ | refine ⟨_, _, REnt.drop ⟨rfl, rfl⟩, ?_⟩ | fail))
        refine ⟨[(4, .ptr 0 0), (5, .ptr 1 0), (6, .ptr 2 0), (7, .ptr 3 0), (9, .ptr 4 0), (10, .ref 5 0 L2.length), (13, .fz .bool fC), (14, .fz .bool fD)], [.box [.fz int p.1, .fz int p.2], .box [.fz int q.1, .fz int q.2], .box [.fz int r.1, .fz int r.2], .box [.fz int s.1, .fz int s.2], .box [.fz int 0, .fz int 0], .row SpT L2], Ent.ren [0, 1, 2, 3, 4, 6] rfl ?_ ?_, hc.out⟩
        · rw [e]; (repeat' (first | exact trivial | exact rfl | refine And.intro ?_ ?_))
        · rw [e2]; (repeat' (first | exact trivial | exact rfl | refine And.intro ?_ ?_))
    | false =>
      have e : L2 = L1 := by rw [hL2]; unfold Shp.wif; rw [if_neg (by simp)]
      (repeat' (first | exact trivial | refine And.intro ?_ ?_ | (intro hb; try simp at hb) | omega | exact rfl | refine aRegion_auto (by decide +kernel) ?_ | refine ⟨_, _, REnt.drop ⟨rfl, rfl⟩, ?_⟩ | fail))
      refine ⟨[(4, .ptr 0 0), (5, .ptr 1 0), (6, .ptr 2 0), (7, .ptr 3 0), (9, .ptr 4 0), (10, .ref 5 0 L2.length), (13, .fz .bool fC), (14, .fz .bool fD)], [.box [.fz int p.1, .fz int p.2], .box [.fz int q.1, .fz int q.2], .box [.fz int r.1, .fz int r.2], .box [.fz int s.1, .fz int s.2], .box [.fz int 0, .fz int 0], .row SpT L2], Ent.sub ?_ ?_, hc.out⟩
      · rw [e]
      · rw [e]; (repeat' (first | exact trivial | exact rfl | refine And.intro ?_ ?_))
  obtain ⟨L3, hL3⟩ : ∃ L3, L3 = Shp.wif fC L2 p := ⟨_, rfl⟩
  have l3 : L3.length ≤ 3 := by rw [hL3]; have := wif_len fC L2 p; omega
  apply merge
  · intro hc
    cases fC with
    | true =>
      (repeat' (first | exact trivial | refine And.intro ?_ ?_ | (intro hb; try simp at hb) | omega | exact rfl | refine aRegion_auto (by decide +kernel) ?_ | refine ⟨_, _, REnt.drop ⟨rfl, rfl⟩, ?_⟩ | fail))
      refine acall_conv [.keep, .dat SpT] _ _ _ rfl trivial (acall_frame [5] [.row SpT L2] [.ref 0 0 L2.length, .fz SpT p] rfl ⟨⟨rfl, trivial⟩, trivial⟩ ⟨rfl, rfl⟩ rfl (with_any _ L2 (by omega) p _ (fun hin => ?_) (fun hin => ?_)))
      · have e : L3 = L2 := by rw [hL3]; unfold Shp.wif Shp.wth; rw [if_pos rfl, if_pos hin]
        (repeat' (first | exact trivial | refine And.intro ?_ ?_ | (intro hb; try simp at hb) | omega | exact rfl | refine aRegion_auto (by decide +kernel) ?_ | refine ⟨_, _, REnt.drop ⟨rfl, rfl⟩, ?_⟩ | fail))
        refine ⟨[(4, .ptr 0 0), (5, .ptr 1 0), (6, .ptr 2 0), (7, .ptr 3 0), (9, .ptr 4 0), (10, .ref 5 0 L3.length), (14, .fz .bool fD)], [.box [.fz int p.1, .fz int p.2], .box [.fz int q.1, .fz int q.2], .box [.fz int r.1, .fz int r.2], .box [.fz int s.1, .fz int s.2], .box [.fz int 0, .fz int 0], .row SpT L3], Ent.sub ?_ ?_, hc.out⟩
        · rw [e]
        · rw [e]; (repeat' (first | exact trivial | exact rfl | refine And.intro ?_ ?_))
      · have e : L3 = L2 ++ [p] := by rw [hL3]; unfold Shp.wif Shp.wth; rw [if_pos rfl, if_neg hin]
        have e2 : L3.length = L2.length + 1 := by rw [e]; simp
        (repeat' (first | exact trivial | refine And.intro ?_ ?_ | (intro hb; try simp at hb) | omega | exact rfl | refine aRegion_auto (by decide +kernel) ?_ | refine ⟨_, _, REnt.drop ⟨rfl, rfl⟩, ?_⟩ | fail))
        refine ⟨[(4, .ptr 0 0), (5, .ptr 1 0), (6, .ptr 2 0), (7, .ptr 3 0), (9, .ptr 4 0), (10, .ref 5 0 L3.length), (14, .fz .bool fD)], [.box [.fz int p.1, .fz int p.2], .box [.fz int q.1, .fz int q.2], .box [.fz int r.1, .fz int r.2], .box [.fz int s.1, .fz int s.2], .box [.fz int 0, .fz int 0], .row SpT L3], Ent.ren [0, 1, 2, 3, 4, 6] rfl ?_ ?_, hc.out⟩
        · rw [e]; (repeat' (first | exact trivial | exact rfl | refine And.intro ?_ ?_))
        · rw [e2]; (repeat' (first | exact trivial | exact rfl | refine And.intro ?_ ?_))
    | false =>
      have e : L3 = L2 := by rw [hL3]; unfold Shp.wif; rw [if_neg (by simp)]
      (repeat' (first | exact trivial | refine And.intro ?_ ?_ | (intro hb; try simp at hb) | omega | exact rfl | refine aRegion_auto (by decide +kernel) ?_ | refine ⟨_, _, REnt.drop ⟨rfl, rfl⟩, ?_⟩ | fail))
      refine ⟨[(4, .ptr 0 0), (5, .ptr 1 0), (6, .ptr 2 0), (7, .ptr 3 0), (9, .ptr 4 0), (10, .ref 5 0 L3.length), (14, .fz .bool fD)], [.box [.fz int p.1, .fz int p.2], .box [.fz int q.1, .fz int q.2], .box [.fz int r.1, .fz int r.2], .box [.fz int s.1, .fz int s.2], .box [.fz int 0, .fz int 0], .row SpT L3], Ent.sub ?_ ?_, hc.out⟩
      · rw [e]
      · rw [e]; (repeat' (first | exact trivial | exact rfl | refine And.intro ?_ ?_))
  obtain ⟨L4, hL4⟩ : ∃ L4, L4 = Shp.wif fD L3 q := ⟨_, rfl⟩
  have l4 : L4.length ≤ 4 := by rw [hL4]; have := wif_len fD L3 q; omega
  apply merge
  · intro hc
    cases fD with
    | true =>
      (repeat' (first | exact trivial | refine And.intro ?_ ?_ | (intro hb; try simp at hb) | omega | exact rfl | refine aRegion_auto (by decide +kernel) ?_ | refine ⟨_, _, REnt.drop ⟨rfl, rfl⟩, ?_⟩ | fail))
      refine acall_conv [.keep, .dat SpT] _ _ _ rfl trivial (acall_frame [5] [.row SpT L3] [.ref 0 0 L3.length, .fz SpT q] rfl ⟨⟨rfl, trivial⟩, trivial⟩ ⟨rfl, rfl⟩ rfl (with_any _ L3 (by omega) q _ (fun hin => ?_) (fun hin => ?_)))
      · have e : L4 = L3 := by rw [hL4]; unfold Shp.wif Shp.wth; rw [if_pos rfl, if_pos hin]
        (repeat' (first | exact trivial | refine And.intro ?_ ?_ | (intro hb; try simp at hb) | omega | exact rfl | refine aRegion_auto (by decide +kernel) ?_ | refine ⟨_, _, REnt.drop ⟨rfl, rfl⟩, ?_⟩ | fail))
        refine ⟨[(4, .ptr 0 0), (5, .ptr 1 0), (6, .ptr 2 0), (7, .ptr 3 0), (9, .ptr 4 0), (10, .ref 5 0 L4.length)], [.box [.fz int p.1, .fz int p.2], .box [.fz int q.1, .fz int q.2], .box [.fz int r.1, .fz int r.2], .box [.fz int s.1, .fz int s.2], .box [.fz int 0, .fz int 0], .row SpT L4], Ent.sub ?_ ?_, hc.out⟩
        · rw [e]
        · rw [e]; (repeat' (first | exact trivial | exact rfl | refine And.intro ?_ ?_))
      · have e : L4 = L3 ++ [q] := by rw [hL4]; unfold Shp.wif Shp.wth; rw [if_pos rfl, if_neg hin]
        have e2 : L4.length = L3.length + 1 := by rw [e]; simp
        (repeat' (first | exact trivial | refine And.intro ?_ ?_ | (intro hb; try simp at hb) | omega | exact rfl | refine aRegion_auto (by decide +kernel) ?_ | refine ⟨_, _, REnt.drop ⟨rfl, rfl⟩, ?_⟩ | fail))
        refine ⟨[(4, .ptr 0 0), (5, .ptr 1 0), (6, .ptr 2 0), (7, .ptr 3 0), (9, .ptr 4 0), (10, .ref 5 0 L4.length)], [.box [.fz int p.1, .fz int p.2], .box [.fz int q.1, .fz int q.2], .box [.fz int r.1, .fz int r.2], .box [.fz int s.1, .fz int s.2], .box [.fz int 0, .fz int 0], .row SpT L4], Ent.ren [0, 1, 2, 3, 4, 6] rfl ?_ ?_, hc.out⟩
        · rw [e]; (repeat' (first | exact trivial | exact rfl | refine And.intro ?_ ?_))
        · rw [e2]; (repeat' (first | exact trivial | exact rfl | refine And.intro ?_ ?_))
    | false =>
      have e : L4 = L3 := by rw [hL4]; unfold Shp.wif; rw [if_neg (by simp)]
      (repeat' (first | exact trivial | refine And.intro ?_ ?_ | (intro hb; try simp at hb) | omega | exact rfl | refine aRegion_auto (by decide +kernel) ?_ | refine ⟨_, _, REnt.drop ⟨rfl, rfl⟩, ?_⟩ | fail))
      refine ⟨[(4, .ptr 0 0), (5, .ptr 1 0), (6, .ptr 2 0), (7, .ptr 3 0), (9, .ptr 4 0), (10, .ref 5 0 L4.length)], [.box [.fz int p.1, .fz int p.2], .box [.fz int q.1, .fz int q.2], .box [.fz int r.1, .fz int r.2], .box [.fz int s.1, .fz int s.2], .box [.fz int 0, .fz int 0], .row SpT L4], Ent.sub ?_ ?_, hc.out⟩
      · rw [e]
      · rw [e]; (repeat' (first | exact trivial | exact rfl | refine And.intro ?_ ?_))
  have eL : L4 = Shp.coml p q r s := by unfold Shp.coml; rw [eA, eB, eC, eD, hL4, hL3, hL2, hL1]
  clear hL1 hL2 hL3 hL4
  have z1 := sg_bd (Shp.side p q r)
  have z2 := sg_bd (Shp.side p q s)
  have z3 := sg_bd (Shp.side r s p)
  have z4 := sg_bd (Shp.side r s q)
  have m1 := sg_mul z1 z2
  have m2 := sg_mul z3 z4
  unfold Shp.com at hK
  rw [← eL] at hK
  by_cases c1 : 1 < L4.length
  · rw [if_pos c1] at hK
    (repeat' (first | exact trivial | refine And.intro ?_ ?_ | (intro hb; try simp at hb) | omega | exact rfl | refine aRegion_auto (by decide +kernel) ?_ | refine ⟨_, _, REnt.drop ⟨rfl, rfl⟩, ?_⟩ | fail))
    exact hK
  · rw [if_neg c1] at hK
    by_cases c2 : L4.length = 1
    · rw [if_pos c2] at hK
      (repeat' (first | exact trivial | refine And.intro ?_ ?_ | (intro hb; try simp at hb) | omega | exact rfl | refine aRegion_auto (by decide +kernel) ?_ | refine ⟨_, _, REnt.drop ⟨rfl, rfl⟩, ?_⟩ | fail))
      (apply exEff; focus (repeat' (first | exact ⟨rfl, rfl⟩ | exact trivial | refine And.intro ?_ ?_ | omega | exact Nat.le_refl _ | (show _ + 1 ≤ 4294967296; omega) | (show _ + 1 ≤ 5864062014634; omega))))
      (repeat' (first | exact trivial | refine And.intro ?_ ?_ | (intro hb; try simp at hb) | omega | exact rfl | refine aRegion_auto (by decide +kernel) ?_ | refine ⟨_, _, REnt.drop ⟨rfl, rfl⟩, ?_⟩ | fail))
      exact hK
    · rw [if_neg c2] at hK
      (repeat' (first | exact trivial | exact fun h => h | refine And.intro ?_ ?_ | (intro hb; try simp at hb) | omega | exact rfl | exact Nat.le_refl _ | (show _ + 1 ≤ 4294967296; omega) | (show _ + 1 ≤ 5864062014634; omega) | (dsimp only; omega) | (show (_ : Int) ≤ (_ : Int); omega) | (show _ < List.length _; simp only [List.length_set, List.length_append, List.length_take]; omega) | (show wantB _ _ = true; simp <;> omega) | (show (_ : Bool) = _; simp_all; done) | (exfalso; omega) | refine aRegion_auto (by decide +kernel) ?_ | refine ⟨_, _, REnt.drop ⟨rfl, rfl⟩, ?_⟩ | fail))
      apply exEff
      · refine acall_conv [.dat SpT, .dat SpT, .dat SpT] _ _ _ rfl trivial (acall_frame0 rfl (turn_any _ p q r hp hq hr _ ?_))
        exact ⟨rfl, rfl⟩
      (repeat' (first | exact trivial | refine And.intro ?_ ?_ | (intro hb; try simp at hb) | omega | exact rfl | refine aRegion_auto (by decide +kernel) ?_ | refine ⟨_, _, REnt.drop ⟨rfl, rfl⟩, ?_⟩ | fail))
      apply exEff
      · refine acall_frame0 rfl (signOf_any _ (Shp.side p q r) _ ?_)
        exact ⟨rfl, rfl⟩
      (repeat' (first | exact trivial | refine And.intro ?_ ?_ | (intro hb; try simp at hb) | omega | exact rfl | refine aRegion_auto (by decide +kernel) ?_ | refine ⟨_, _, REnt.drop ⟨rfl, rfl⟩, ?_⟩ | fail))
      apply exEff
      · refine acall_conv [.dat SpT, .dat SpT, .dat SpT] _ _ _ rfl trivial (acall_frame0 rfl (turn_any _ p q s hp hq hs _ ?_))
        exact ⟨rfl, rfl⟩
      (repeat' (first | exact trivial | refine And.intro ?_ ?_ | (intro hb; try simp at hb) | omega | exact rfl | refine aRegion_auto (by decide +kernel) ?_ | refine ⟨_, _, REnt.drop ⟨rfl, rfl⟩, ?_⟩ | fail))
      apply exEff
      · refine acall_frame0 rfl (signOf_any _ (Shp.side p q s) _ ?_)
        exact ⟨rfl, rfl⟩
      (repeat' (first | exact trivial | refine And.intro ?_ ?_ | (intro hb; try simp at hb) | omega | exact rfl | refine aRegion_auto (by decide +kernel) ?_ | refine ⟨_, _, REnt.drop ⟨rfl, rfl⟩, ?_⟩ | fail))
      apply exEff
      · refine acall_conv [.dat SpT, .dat SpT, .dat SpT] _ _ _ rfl trivial (acall_frame0 rfl (turn_any _ r s p hr hs hp _ ?_))
        exact ⟨rfl, rfl⟩
      (repeat' (first | exact trivial | exact fun h => h | refine And.intro ?_ ?_ | (intro hb; try simp at hb) | omega | exact rfl | exact Nat.le_refl _ | (show _ + 1 ≤ 4294967296; omega) | (show _ + 1 ≤ 5864062014634; omega) | (dsimp only; omega) | (show (_ : Int) ≤ (_ : Int); omega) | (show _ < List.length _; simp only [List.length_set, List.length_append, List.length_take]; omega) | (show wantB _ _ = true; simp <;> omega) | (show (_ : Bool) = _; simp_all; done) | (exfalso; omega) | refine aRegion_auto (by decide +kernel) ?_ | refine ⟨_, _, REnt.drop ⟨rfl, rfl⟩, ?_⟩ | fail))
      apply exEff
      · refine acall_frame0 rfl (signOf_any _ (Shp.side r s p) _ ?_)
        exact ⟨rfl, rfl⟩
      (repeat' (first | exact trivial | exact fun h => h | refine And.intro ?_ ?_ | (intro hb; try simp at hb) | omega | exact rfl | exact Nat.le_refl _ | (show _ + 1 ≤ 4294967296; omega) | (show _ + 1 ≤ 5864062014634; omega) | (dsimp only; omega) | (show (_ : Int) ≤ (_ : Int); omega) | (show _ < List.length _; simp only [List.length_set, List.length_append, List.length_take]; omega) | (show wantB _ _ = true; simp <;> omega) | (show (_ : Bool) = _; simp_all; done) | (exfalso; omega) | refine aRegion_auto (by decide +kernel) ?_ | refine ⟨_, _, REnt.drop ⟨rfl, rfl⟩, ?_⟩ | fail))
      apply exEff
      · refine acall_conv [.dat SpT, .dat SpT, .dat SpT] _ _ _ rfl trivial (acall_frame0 rfl (turn_any _ r s q hr hs hq _ ?_))
        exact ⟨rfl, rfl⟩
      (repeat' (first | exact trivial | exact fun h => h | refine And.intro ?_ ?_ | (intro hb; try simp at hb) | omega | exact rfl | exact Nat.le_refl _ | (show _ + 1 ≤ 4294967296; omega) | (show _ + 1 ≤ 5864062014634; omega) | (dsimp only; omega) | (show (_ : Int) ≤ (_ : Int); omega) | (show _ < List.length _; simp only [List.length_set, List.length_append, List.length_take]; omega) | (show wantB _ _ = true; simp <;> omega) | (show (_ : Bool) = _; simp_all; done) | (exfalso; omega) | refine aRegion_auto (by decide +kernel) ?_ | refine ⟨_, _, REnt.drop ⟨rfl, rfl⟩, ?_⟩ | fail))
      apply exEff
      · refine acall_frame0 rfl (signOf_any _ (Shp.side r s q) _ ?_)
        exact ⟨rfl, rfl⟩
      (repeat' (first | exact trivial | exact fun h => h | refine And.intro ?_ ?_ | (intro hb; try simp at hb) | omega | exact rfl | exact Nat.le_refl _ | (show _ + 1 ≤ 4294967296; omega) | (show _ + 1 ≤ 5864062014634; omega) | (dsimp only; omega) | (show (_ : Int) ≤ (_ : Int); omega) | (show _ < List.length _; simp only [List.length_set, List.length_append, List.length_take]; omega) | (show wantB _ _ = true; simp <;> omega) | (show (_ : Bool) = _; simp_all; done) | (exfalso; omega) | refine aRegion_auto (by decide +kernel) ?_ | refine ⟨_, _, REnt.drop ⟨rfl, rfl⟩, ?_⟩ | fail))
      · have hc : Shp.crs p q r s = true := by unfold Shp.crs; simp [hb]
        rw [if_pos hc] at hK
        exact hK
      · have hc : Shp.crs p q r s = false := by
          unfold Shp.crs
          by_cases h1 : Shp.sgZ (Shp.side p q r) * Shp.sgZ (Shp.side p q s) < 0
          · have := hb h1
            simp [h1]; omega
          · simp [h1]
        rw [if_neg (by rw [hc]; simp)] at hK
        exact hK
end Go.Proofs.YtcfalmdfohphoaaDoor
/-
  Which maps are right, told by the document: the pieces.
-/
namespace Go.Proofs.YtcfalmdfohphoaaDoor
open Go Go.Ab
set_option maxRecDepth 100000
theorem notB {b : Bool} (h : ¬ b = true) : b = false := Bool.eq_false_iff.2 h
set_option maxHeartbeats 4000000 in
theorem apart_any (G : List (Nat × Value)) (m : Shp.Arcs) (B : MB m) (K : AV → List AO → Prop) (hK : ∀ b : Bool, (b = true ↔ Shp.apR m) → K (.fz .bool b) []) : ACall Tryd.prog G 24 [.fptr MpT m] [] K := by
  have hat : ∀ i : Nat, List.getD m (Int.toNat (i : Int)) SpT.list.dft = Shp.arc m i := fun i => rfl
  have hfew := B.few
  have hfalse : (∃ i k j n, Shp.isP m i k ∧ Shp.isP m j n ∧ (j < i ∨ (j = i ∧ n < k)) ∧ Shp.okR m i k j n = false) → K (.fz .bool false) [] := fun ⟨i, k, j, n, h1, h2, h3, h4⟩ => hK false ⟨fun h => (by cases h), fun h => (by rw [h i k j n h1 h2 h3] at h4; cases h4)⟩
  let Ok (i k j n : Nat) : Prop := Shp.isP m i k → Shp.isP m j n → (j < i ∨ (j = i ∧ n < k)) → Shp.okR m i k j n = true
  refine acall_mk (E := envCut G 159 0 [17, 19, 21, 22, 23]) (envCutOk _ _ _ _) Tryd.func24 rfl rfl rfl rfl rfl ?_
  (repeat' (first | exact trivial | refine And.intro ?_ ?_ | (intro hb; try simp at hb) | omega | exact rfl | refine aRegion_auto (by decide +kernel) ?_ | fail))
  refine ⟨Nat, fun i => ⟨[(0, .fptr MpT m), (3, .fz int i)], []⟩, fun i => i ≤ m.length ∧ ∀ p k j n, p < i → Ok p k j n, fun i => m.length - i, 0, ⟨Nat.zero_le _, fun p k j n h => absurd h (Nat.not_lt_zero _)⟩, Ent.sub rfl ?_, ?_⟩
  · (repeat' (first | exact trivial | exact rfl | refine And.intro ?_ ?_))
  intro i ⟨hi, h1⟩
  have hi : i ≤ m.length := hi
  have h1 : ∀ p k j n, p < i → Ok p k j n := h1
  show awp _ _ _ ⟨[(0, .fptr MpT m), (3, .fz int i)], []⟩
  by_cases him : i < m.length
  · obtain ⟨a, ha⟩ : ∃ a, Shp.arc m i = a := ⟨_, rfl⟩
    have hga := hat i
    have hal := B.len i him
    have ha2 := B.two i him
    rw [ha] at hga hal ha2
    (repeat' (first | exact trivial | refine And.intro ?_ ?_ | (intro hb; try simp at hb) | omega | exact rfl | refine aRegion_auto (by decide +kernel) ?_ | fail))
    rw [hga]
    (repeat' (first | exact trivial | refine And.intro ?_ ?_ | (intro hb; try simp at hb) | omega | exact rfl | refine aRegion_auto (by decide +kernel) ?_ | fail))
    refine ⟨Nat, fun k => ⟨[(0, .fptr MpT m), (3, .fz int i), (4, .fz (.list SpT) a), (5, .fz int k)], []⟩, fun k => k + 1 ≤ a.length ∧ ∀ q j n, q < k → Ok i q j n, fun k => a.length - k, 0, ⟨by omega, fun q j n h => absurd h (Nat.not_lt_zero _)⟩, Ent.sub rfl ?_, ?_⟩
    · (repeat' (first | exact trivial | exact rfl | refine And.intro ?_ ?_))
    intro k ⟨hk, h2⟩
    have hk : k + 1 ≤ a.length := hk
    have h2 : ∀ q j n, q < k → Ok i q j n := h2
    show awp _ _ _ ⟨[(0, .fptr MpT m), (3, .fz int i), (4, .fz (.list SpT) a), (5, .fz int k)], []⟩
    by_cases hka : k + 1 < a.length
    · (repeat' (first | exact trivial | refine And.intro ?_ ?_ | (intro hb; try simp at hb) | omega | exact rfl | refine aRegion_auto (by decide +kernel) ?_ | fail))
      refine ⟨Nat, fun j => ⟨[(0, .fptr MpT m), (3, .fz int i), (4, .fz (.list SpT) a), (5, .fz int k), (6, .fz int j)], []⟩, fun j => j ≤ i + 1 ∧ ∀ p n, p < j → Ok i k p n, fun j => i + 1 - j, 0, ⟨Nat.zero_le _, fun p n h => absurd h (Nat.not_lt_zero _)⟩, Ent.sub rfl ?_, ?_⟩
      · (repeat' (first | exact trivial | exact rfl | refine And.intro ?_ ?_))
      intro j ⟨hj, h3⟩
      have hj : j ≤ i + 1 := hj
      have h3 : ∀ p n, p < j → Ok i k p n := h3
      show awp _ _ _ ⟨[(0, .fptr MpT m), (3, .fz int i), (4, .fz (.list SpT) a), (5, .fz int k), (6, .fz int j)], []⟩
      by_cases hji : j ≤ i
      · obtain ⟨b, hb0⟩ : ∃ b, Shp.arc m j = b := ⟨_, rfl⟩
        have hgb := hat j
        have hbl := B.len j (by omega)
        have hb2 := B.two j (by omega)
        rw [hb0] at hgb hbl hb2
        (repeat' (first | exact trivial | refine And.intro ?_ ?_ | (intro hb; try simp at hb) | omega | exact rfl | refine aRegion_auto (by decide +kernel) ?_ | fail))
        rw [hgb]
        (repeat' (first | exact trivial | exact fun h => h | refine And.intro ?_ ?_ | (intro hb; try simp at hb) | omega | exact rfl | exact Nat.le_refl _ | (show _ + 1 ≤ 4294967296; omega) | (show _ + 1 ≤ 5864062014634; omega) | (dsimp only; omega) | (show (_ : Int) ≤ (_ : Int); omega) | (show _ < List.length _; simp only [List.length_set, List.length_append, List.length_take]; omega) | (show wantB _ _ = true; simp <;> omega) | (show (_ : Bool) = _; simp_all; done) | (exfalso; omega) | refine aRegion_auto (by decide +kernel) ?_ | fail))
        refine ⟨Nat, fun n => ⟨[(0, .fptr MpT m), (3, .fz int i), (4, .fz (.list SpT) a), (5, .fz int k), (6, .fz int j), (7, .fz (.list SpT) b), (8, .fz int n)], []⟩, fun n => n + 1 ≤ b.length ∧ ∀ q, q < n → Ok i k j q, fun n => b.length - n, 0, ⟨by omega, fun q h => absurd h (Nat.not_lt_zero _)⟩, Ent.sub rfl ?_, ?_⟩
        · (repeat' (first | exact trivial | exact rfl | refine And.intro ?_ ?_))
        intro n ⟨hn, h4⟩
        have hn : n + 1 ≤ b.length := hn
        have h4 : ∀ q, q < n → Ok i k j q := h4
        show awp _ _ _ ⟨[(0, .fptr MpT m), (3, .fz int i), (4, .fz (.list SpT) a), (5, .fz int k), (6, .fz int j), (7, .fz (.list SpT) b), (8, .fz int n)], []⟩
        have hbrk : (∀ q, n ≤ q → Ok i k j q) → ∀ p q, p < j + 1 → Ok i k p q := fun h p q hp => by
          by_cases c : p = j
          · subst c
            by_cases c2 : q < n
            · exact h4 q c2
            · exact h q (by omega)
          · exact h3 p q (by omega)
        by_cases hnb : n + 1 < b.length
        · by_cases hst : j = i ∧ k ≤ n
          · have hd1 : decide ((j : Int) = (i : Int)) = true := decide_eq_true (by omega)
            (repeat' (first | exact trivial | exact fun h => h | refine And.intro ?_ ?_ | (intro hb; try simp at hb) | omega | exact rfl | exact Nat.le_refl _ | (show _ + 1 ≤ 4294967296; omega) | (show _ + 1 ≤ 5864062014634; omega) | (dsimp only; omega) | (show (_ : Int) ≤ (_ : Int); omega) | (show _ < List.length _; simp only [List.length_set, List.length_append, List.length_take]; omega) | (show wantB _ _ = true; simp <;> omega) | (show (_ : Bool) = _; simp_all; done) | (exfalso; omega) | refine aRegion_auto (by decide +kernel) ?_ | fail))
            refine ⟨j + 1, ⟨by show j + 1 ≤ i + 1; omega, hbrk fun q hq _ _ h => by omega⟩, by show i + 1 - (j + 1) < i + 1 - j; omega, Ent.sub rfl ?_⟩
            · (repeat' (first | exact trivial | exact rfl | refine And.intro ?_ ?_))
          · have hgo : Shp.okR m i k j n = true → ∀ q, q < n + 1 → Ok i k j q := fun h q hq => by
              by_cases c : q = n
              · subst c; exact fun _ _ _ => h
              · exact h4 q (by omega)
            have hip : Shp.isP m i k := ⟨him, by rw [ha]; exact hka⟩
            have hjn : Shp.isP m j n := ⟨by omega, by rw [hb0]; exact hnb⟩
            have hord : j < i ∨ (j = i ∧ n < k) := by omega
            have hno : Shp.okR m i k j n = false → K (.fz .bool false) [] := fun h => hfalse ⟨i, k, j, n, hip, hjn, hord, h⟩
            have hoR : Shp.okR m i k j n = (decide ((Shp.com (Shp.at_ a k) (Shp.at_ a (k + 1)) (Shp.at_ b n) (Shp.at_ b (n + 1))).1 = 0) || (!decide ((Shp.com (Shp.at_ a k) (Shp.at_ a (k + 1)) (Shp.at_ b n) (Shp.at_ b (n + 1))).1 = 2) && Shp.enB (Shp.at_ a k) (Shp.at_ a (k + 1)) (Shp.at_ b n) (Shp.at_ b (n + 1)) (Shp.com (Shp.at_ a k) (Shp.at_ a (k + 1)) (Shp.at_ b n) (Shp.at_ b (n + 1))).2 &&
                ((decide (j = i) && decide (n + 1 = k) && decide ((Shp.com (Shp.at_ a k) (Shp.at_ a (k + 1)) (Shp.at_ b n) (Shp.at_ b (n + 1))).2 = Shp.at_ a k)) || (Shp.ndB a k (Shp.com (Shp.at_ a k) (Shp.at_ a (k + 1)) (Shp.at_ b n) (Shp.at_ b (n + 1))).2 && Shp.ndB b n (Shp.com (Shp.at_ a k) (Shp.at_ a (k + 1)) (Shp.at_ b n) (Shp.at_ b (n + 1))).2)))) := by
              unfold Shp.okR Shp.pt
              rw [ha, hb0]
            have p1 : plB (Shp.at_ a k) = true := by have := B.pl i k ⟨him, by rw [ha]; omega⟩; unfold Shp.pt at this; rwa [ha] at this
            have p2 : plB (Shp.at_ a (k + 1)) = true := by have := B.pl i (k + 1) ⟨him, by rw [ha]; omega⟩; unfold Shp.pt at this; rwa [ha] at this
            have p3 : plB (Shp.at_ b n) = true := by have := B.pl j n ⟨by omega, by rw [hb0]; omega⟩; unfold Shp.pt at this; rwa [hb0] at this
            have p4 : plB (Shp.at_ b (n + 1)) = true := by have := B.pl j (n + 1) ⟨by omega, by rw [hb0]; omega⟩; unfold Shp.pt at this; rwa [hb0] at this
            have g1 : List.getD a (Int.toNat (k : Int)) SpT.dft = Shp.at_ a k := rfl
            have g2 : List.getD a (Int.toNat ((k : Int) + 1)) SpT.dft = Shp.at_ a (k + 1) := rfl
            have g3 : List.getD b (Int.toNat (n : Int)) SpT.dft = Shp.at_ b n := rfl
            have g4 : List.getD b (Int.toNat ((n : Int) + 1)) SpT.dft = Shp.at_ b (n + 1) := rfl
            have hca := common_any G (Shp.at_ a k) (Shp.at_ a (k + 1)) (Shp.at_ b n) (Shp.at_ b (n + 1)) p1 p2 p3 p4
            generalize Shp.com (Shp.at_ a k) (Shp.at_ a (k + 1)) (Shp.at_ b n) (Shp.at_ b (n + 1)) = cm at hoR hca
            obtain ⟨mn, x⟩ := cm
            dsimp only at hoR hca
            (repeat' (first | exact trivial | exact fun h => h | refine And.intro ?_ ?_ | (intro hb; try simp at hb) | omega | exact rfl | exact Nat.le_refl _ | (show _ + 1 ≤ 4294967296; omega) | (show _ + 1 ≤ 5864062014634; omega) | (dsimp only; omega) | (show (_ : Int) ≤ (_ : Int); omega) | (show _ < List.length _; simp only [List.length_set, List.length_append, List.length_take]; omega) | (show wantB _ _ = true; simp <;> omega) | (show (_ : Bool) = _; simp_all; done) | (exfalso; omega) | refine aRegion_auto (by decide +kernel) ?_ | fail))
            let rb : AO := .room
            let bz : AO := .box [.fz int 0, .fz int 0]
            let bo : AO := .box [.fz int x.1, .fz int x.2]
            refine aRegion_open 1 (by decide +kernel) ?_
            (repeat' (first | exact trivial | exact fun h => h | refine And.intro ?_ ?_ | (intro hb; try simp at hb) | omega | exact rfl | exact Nat.le_refl _ | (show _ + 1 ≤ 4294967296; omega) | (show _ + 1 ≤ 5864062014634; omega) | (dsimp only; omega) | (show (_ : Int) ≤ (_ : Int); omega) | (show _ < List.length _; simp only [List.length_set, List.length_append, List.length_take]; omega) | (show wantB _ _ = true; simp <;> omega) | (show (_ : Bool) = _; simp_all; done) | (exfalso; omega) | refine aRegion_auto (by decide +kernel) ?_ | fail))
            refine eff_is (.tup [.fz int mn, .agg [.fz int x.1, .fz int x.2]]) [rb] ?_
            (repeat' (first | exact trivial | refine And.intro ?_ ?_ | (intro hb; try simp at hb) | omega | exact rfl | refine aRegion_auto (by decide +kernel) ?_ | fail))
            refine eff_is (.ptr 0 0) [bz] ?_
            (repeat' (first | exact trivial | refine And.intro ?_ ?_ | (intro hb; try simp at hb) | omega | exact rfl | refine aRegion_auto (by decide +kernel) ?_ | fail))
            refine eff_is .unk [bo] ?_
            refine ⟨[(0, [rb]), (262144, [rb]), (4194304, [bz]), (4456448, [bz]), (21233664, [bo])], rfl, rfl, ?_, ?_⟩
            · (repeat' (first | refine And.intro ?_ ?_ | exact trivial | exact rfl | omega))
              · refine acall_conv [.dat SpT, .dat SpT, .dat SpT, .dat SpT] _ _ _ rfl trivial (acall_frame0 rfl (hca _ ?_))
                refine view_of [0] rfl ?_ rfl rfl
                (repeat' (first | exact trivial | exact rfl | refine And.intro ?_ ?_))
              · refine view_of [1] rfl ?_ rfl rfl
                (repeat' (first | exact trivial | exact rfl | refine And.intro ?_ ?_))
              · refine view_of [1] rfl ?_ rfl rfl
                (repeat' (first | exact trivial | exact rfl | refine And.intro ?_ ?_))
              · refine acall_conv [.dat SpT, .dat SpT, .dat SpT, .dat SpT] _ _ _ rfl trivial (acall_frame0 rfl (hca _ ?_))
                refine view_of [0] rfl ?_ rfl rfl
                (repeat' (first | exact trivial | exact rfl | refine And.intro ?_ ?_))
              · refine view_of [0] rfl ?_ rfl rfl
                (repeat' (first | exact trivial | exact rfl | refine And.intro ?_ ?_))
            · refine ⟨[(0, .fptr MpT m), (3, .fz int i), (4, .fz (.list SpT) a), (5, .fz int k), (6, .fz int j), (7, .fz (.list SpT) b), (8, .fz int n), (9, .fz int mn), (10, .ptr 0 0)], [.box [.fz int x.1, .fz int x.2]], Ent.sub rfl ?_, ?_⟩
              · (repeat' (first | exact trivial | exact rfl | refine And.intro ?_ ?_))
              by_cases h0 : mn = 0
              · have hy : Shp.okR m i k j n = true := by rw [hoR, decide_eq_true h0, Bool.true_or]
                (repeat' (first | exact trivial | refine And.intro ?_ ?_ | (intro hb; try simp at hb) | omega | exact rfl | refine aRegion_auto (by decide +kernel) ?_ | fail))
                refine ⟨n + 1, ⟨by show n + 1 + 1 ≤ b.length; omega, hgo hy⟩, by show b.length - (n + 1) < b.length - n; omega, Ent.ren [] rfl trivial ?_⟩
                · (repeat' (first | exact trivial | exact rfl | refine And.intro ?_ ?_))
              · have eP : eqL [x.1, x.2] ([(List.getD a (Int.toNat (k : Int)) SpT.dft).1] ++ [(List.getD a (Int.toNat (k : Int)) SpT.dft).2]) = decide (x = Shp.at_ a k) := eqS _ _
                have eQ : eqL [x.1, x.2] ([(List.getD a (Int.toNat ((k : Int) + 1)) SpT.dft).1] ++ [(List.getD a (Int.toNat ((k : Int) + 1)) SpT.dft).2]) = decide (x = Shp.at_ a (k + 1)) := eqS _ _
                have eR : eqL [x.1, x.2] ([(List.getD b (Int.toNat (n : Int)) SpT.dft).1] ++ [(List.getD b (Int.toNat (n : Int)) SpT.dft).2]) = decide (x = Shp.at_ b n) := eqS _ _
                have eS : eqL [x.1, x.2] ([(List.getD b (Int.toNat ((n : Int) + 1)) SpT.dft).1] ++ [(List.getD b (Int.toNat ((n : Int) + 1)) SpT.dft).2]) = decide (x = Shp.at_ b (n + 1)) := eqS _ _
                unfold Shp.enB at hoR
                rw [decide_eq_false h0, Bool.false_or] at hoR
                generalize decide (x = Shp.at_ a k) = q1 at hoR eP
                generalize decide (x = Shp.at_ a (k + 1)) = q2 at hoR eQ
                generalize decide (x = Shp.at_ b n) = q3 at hoR eR
                generalize decide (x = Shp.at_ b (n + 1)) = q4 at hoR eS
                generalize he : ((q1 || q2) && (q3 || q4)) = e at hoR
                generalize hf : (decide (j = i) && decide (n + 1 = k) && q1) = f at hoR
                generalize hN1 : Shp.ndB a k x = N1 at hoR
                generalize hN2 : Shp.ndB b n x = N2 at hoR
                generalize hgg : (N1 && N2) = g at hoR
                (repeat' (first | exact trivial | exact fun h => h | refine And.intro ?_ ?_ | (intro hb; try simp at hb) | omega | exact rfl | exact Nat.le_refl _ | (show _ + 1 ≤ 4294967296; omega) | (show _ + 1 ≤ 5864062014634; omega) | (dsimp only; omega) | (show (_ : Int) ≤ (_ : Int); omega) | (show _ < List.length _; simp only [List.length_set, List.length_append, List.length_take]; omega) | (show wantB _ _ = true; simp <;> omega) | (show (_ : Bool) = _; simp_all; done) | (exfalso; omega) | refine aRegion_auto (by decide +kernel) ?_ | fail))
                rw [eP, eQ, eR, eS]
                apply merge
                · intro hc
                  cases q1 <;> cases q2
                  all_goals
                    (repeat' (first | exact trivial | refine And.intro ?_ ?_ | (intro hb; try simp at hb) | omega | exact rfl | refine aRegion_auto (by decide +kernel) ?_ | fail))
                    refine ⟨[(0, .fptr MpT m), (3, .fz int i), (4, .fz (.list SpT) a), (5, .fz int k), (6, .fz int j), (7, .fz (.list SpT) b), (8, .fz int n), (9, .fz int mn), (10, .ptr 0 0), (11, .fz .bool e)], [.box [.fz int x.1, .fz int x.2]], Ent.sub rfl ?_, hc.out⟩
                    (repeat' (first | exact trivial | exact rfl | refine And.intro ?_ ?_))
                    rw [← he]
                    cases q3 <;> rfl
                by_cases h2 : mn = 2
                · have hn0 := hno (by rw [hoR, decide_eq_true h2]; rfl)
                  (repeat' (first | exact trivial | exact fun h => h | refine And.intro ?_ ?_ | (intro hb; try simp at hb) | omega | exact rfl | exact Nat.le_refl _ | (show _ + 1 ≤ 4294967296; omega) | (show _ + 1 ≤ 5864062014634; omega) | (dsimp only; omega) | (show (_ : Int) ≤ (_ : Int); omega) | (show _ < List.length _; simp only [List.length_set, List.length_append, List.length_take]; omega) | (show wantB _ _ = true; simp <;> omega) | (show (_ : Bool) = _; simp_all; done) | (exfalso; omega) | refine aRegion_auto (by decide +kernel) ?_ | refine ⟨_, _, REnt.drop ⟨rfl, rfl⟩, ?_⟩ | fail))
                  exact hn0
                · rw [decide_eq_false h2] at hoR
                  cases e with
                  | false =>
                    have hn0 := hno hoR
                    (repeat' (first | exact trivial | exact fun h => h | refine And.intro ?_ ?_ | (intro hb; try simp at hb) | omega | exact rfl | exact Nat.le_refl _ | (show _ + 1 ≤ 4294967296; omega) | (show _ + 1 ≤ 5864062014634; omega) | (dsimp only; omega) | (show (_ : Int) ≤ (_ : Int); omega) | (show _ < List.length _; simp only [List.length_set, List.length_append, List.length_take]; omega) | (show wantB _ _ = true; simp <;> omega) | (show (_ : Bool) = _; simp_all; done) | (exfalso; omega) | refine aRegion_auto (by decide +kernel) ?_ | refine ⟨_, _, REnt.drop ⟨rfl, rfl⟩, ?_⟩ | fail))
                    exact hn0
                  | true =>
                    (repeat' (first | exact trivial | exact fun h => h | refine And.intro ?_ ?_ | (intro hb; try simp at hb) | omega | exact rfl | exact Nat.le_refl _ | (show _ + 1 ≤ 4294967296; omega) | (show _ + 1 ≤ 5864062014634; omega) | (dsimp only; omega) | (show (_ : Int) ≤ (_ : Int); omega) | (show _ < List.length _; simp only [List.length_set, List.length_append, List.length_take]; omega) | (show wantB _ _ = true; simp <;> omega) | (show (_ : Bool) = _; simp_all; done) | (exfalso; omega) | refine aRegion_auto (by decide +kernel) ?_ | fail))
                    refine ⟨[(0, .fptr MpT m), (3, .fz int i), (4, .fz (.list SpT) a), (5, .fz int k), (6, .fz int j), (7, .fz (.list SpT) b), (8, .fz int n), (10, .ptr 0 0)], [.box [.fz int x.1, .fz int x.2]], Ent.sub rfl ?_, ?_⟩
                    · (repeat' (first | exact trivial | exact rfl | refine And.intro ?_ ?_))
                    have hfx : (bif bif ((j : Int) == (i : Int)) then ((n : Int) + 1 == (k : Int)) else false then q1 else false) = f := by
                      have b1 : ((j : Int) == (i : Int)) = decide (j = i) := by rw [Bool.eq_iff_iff]; simp; omega
                      have b2 : ((n : Int) + 1 == (k : Int)) = decide (n + 1 = k) := by rw [Bool.eq_iff_iff]; simp; omega
                      rw [← hf, b1, b2]
                      cases decide (j = i) <;> cases decide (n + 1 = k) <;> rfl
                    (repeat' (first | exact trivial | exact fun h => h | refine And.intro ?_ ?_ | (intro hb; try simp at hb) | omega | exact rfl | exact Nat.le_refl _ | (show _ + 1 ≤ 4294967296; omega) | (show _ + 1 ≤ 5864062014634; omega) | (dsimp only; omega) | (show (_ : Int) ≤ (_ : Int); omega) | (show _ < List.length _; simp only [List.length_set, List.length_append, List.length_take]; omega) | (show wantB _ _ = true; simp <;> omega) | (show (_ : Bool) = _; simp_all; done) | (exfalso; omega) | refine aRegion_auto (by decide +kernel) ?_ | fail))
                    rw [eP]
                    refine ⟨[(0, .fptr MpT m), (3, .fz int i), (4, .fz (.list SpT) a), (5, .fz int k), (6, .fz int j), (7, .fz (.list SpT) b), (8, .fz int n), (10, .ptr 0 0), (12, .fz .bool f)], [.box [.fz int x.1, .fz int x.2]], Ent.sub rfl ?_, ?_⟩
                    · (repeat' (first | exact trivial | exact rfl | refine And.intro ?_ ?_))
                      exact congrArg (fun z => AV.fz .bool z) hfx
                    apply merge
                    · intro hc
                      (repeat' (first | exact trivial | refine And.intro ?_ ?_ | (intro hb; try simp at hb) | omega | exact rfl | refine aRegion_auto (by decide +kernel) ?_ | fail))
                      refine acall_conv [.keep, .keep, .dat SpT] _ _ _ rfl trivial (acall_frame0 rfl (isNode_any _ a k x hka (by omega) _ ?_))
                      rw [hN1]
                      cases N1 with
                      | true =>
                        (repeat' (first | exact trivial | refine And.intro ?_ ?_ | (intro hb; try simp at hb) | omega | exact rfl | refine aRegion_auto (by decide +kernel) ?_ | fail))
                        refine acall_conv [.keep, .keep, .dat SpT] _ _ _ rfl trivial (acall_frame0 rfl (isNode_any _ b n x hnb (by omega) _ ?_))
                        rw [hN2]
                        (repeat' (first | exact trivial | refine And.intro ?_ ?_ | (intro hb; try simp at hb) | omega | exact rfl | refine aRegion_auto (by decide +kernel) ?_ | fail))
                        refine ⟨[(0, .fptr MpT m), (3, .fz int i), (4, .fz (.list SpT) a), (5, .fz int k), (6, .fz int j), (7, .fz (.list SpT) b), (8, .fz int n), (12, .fz .bool f), (13, .fz .bool g)], [], Ent.ren [] rfl trivial ?_, hc.out⟩
                        · (repeat' (first | exact trivial | exact rfl | refine And.intro ?_ ?_))
                          exact congrArg (fun z => AV.fz .bool z) hgg
                      | false =>
                        (repeat' (first | exact trivial | refine And.intro ?_ ?_ | (intro hb; try simp at hb) | omega | exact rfl | refine aRegion_auto (by decide +kernel) ?_ | fail))
                        refine ⟨[(0, .fptr MpT m), (3, .fz int i), (4, .fz (.list SpT) a), (5, .fz int k), (6, .fz int j), (7, .fz (.list SpT) b), (8, .fz int n), (12, .fz .bool f), (13, .fz .bool g)], [], Ent.ren [] rfl trivial ?_, hc.out⟩
                        · (repeat' (first | exact trivial | exact rfl | refine And.intro ?_ ?_))
                          exact congrArg (fun z => AV.fz .bool z) hgg
                    clear hgg hf hfx
                    cases f <;> cases g
                    · have hn0 := hno hoR
                      (repeat' (first | exact trivial | refine And.intro ?_ ?_ | (intro hb; try simp at hb) | omega | exact rfl | refine aRegion_auto (by decide +kernel) ?_ | refine ⟨_, _, REnt.drop ⟨rfl, rfl⟩, ?_⟩ | fail))
                      exact hn0
                    all_goals
                      have hgo2 := hgo hoR
                      (repeat' (first | exact trivial | refine And.intro ?_ ?_ | (intro hb; try simp at hb) | omega | exact rfl | refine aRegion_auto (by decide +kernel) ?_ | fail))
                      refine ⟨n + 1, ⟨by show n + 1 + 1 ≤ b.length; omega, hgo2⟩, by show b.length - (n + 1) < b.length - n; omega, Ent.sub rfl ?_⟩
                      · (repeat' (first | exact trivial | exact rfl | refine And.intro ?_ ?_))
        · have hall := hbrk fun q hq _ hp => by
            obtain ⟨_, hp2⟩ := hp
            rw [hb0] at hp2
            omega
          (repeat' (first | exact trivial | refine And.intro ?_ ?_ | (intro hb; try simp at hb) | omega | exact rfl | refine aRegion_auto (by decide +kernel) ?_ | fail))
          refine ⟨j + 1, ⟨by show j + 1 ≤ i + 1; omega, hall⟩, by show i + 1 - (j + 1) < i + 1 - j; omega, Ent.sub rfl ?_⟩
          · (repeat' (first | exact trivial | exact rfl | refine And.intro ?_ ?_))
      · have hji2 : j = i + 1 := by omega
        (repeat' (first | exact trivial | refine And.intro ?_ ?_ | (intro hb; try simp at hb) | omega | exact rfl | refine aRegion_auto (by decide +kernel) ?_ | fail))
        refine ⟨k + 1, ⟨by show k + 1 + 1 ≤ a.length; omega, fun q p n hq => ?_⟩, by show a.length - (k + 1) < a.length - k; omega, Ent.sub rfl ?_⟩
        · have hq : q < k + 1 := hq
          by_cases c : q = k
          · subst c
            by_cases c2 : p < j
            · exact h3 p n c2
            · intro _ _ h; omega
          · exact h2 q p n (by omega)
        · (repeat' (first | exact trivial | exact rfl | refine And.intro ?_ ?_))
    · have hall : ∀ q p n, Ok i q p n := fun q p n => by
        by_cases c : q < k
        · exact h2 q p n c
        · intro hp
          obtain ⟨_, hp2⟩ := hp
          rw [ha] at hp2
          omega
      (repeat' (first | exact trivial | refine And.intro ?_ ?_ | (intro hb; try simp at hb) | omega | exact rfl | refine aRegion_auto (by decide +kernel) ?_ | fail))
      refine ⟨i + 1, ⟨by show i + 1 ≤ m.length; omega, fun p q j n hp => ?_⟩, by show m.length - (i + 1) < m.length - i; omega, Ent.sub rfl ?_⟩
      · have hp : p < i + 1 := hp
        by_cases c : p = i
        · rw [c]; exact hall q j n
        · exact h1 p q j n (by omega)
      · (repeat' (first | exact trivial | exact rfl | refine And.intro ?_ ?_))
  · obtain rfl : i = m.length := by omega
    have hKt := hK true ⟨fun _ p k j n hp hn ho => h1 p k j n hp.1 hp hn ho, fun _ => rfl⟩
    (repeat' (first | exact trivial | refine And.intro ?_ ?_ | (intro hb; try simp at hb) | omega | exact rfl | refine aRegion_auto (by decide +kernel) ?_ | refine ⟨_, _, REnt.drop ⟨rfl, rfl⟩, ?_⟩ | fail))
    exact hKt
end Go.Proofs.YtcfalmdfohphoaaDoor
/-
  Which maps are right, told by the document.
-/
namespace Go.Proofs.YtcfalmdfohphoaaDoor
open Go Go.Ab
set_option maxRecDepth 100000
set_option maxHeartbeats 4000000 in
theorem mapError_any (G : List (Nat × Value)) (m : Shp.Arcs) (hl : m.length ≤ 1000000000000000) (hlen : ∀ i, i < m.length → (Shp.arc m i).length ≤ 8796093022208) (K : AV → List AO → Prop) (hK : K (.fz int (Shp.vE ngB m : Nat)) []) : ACall Tryd.prog G 9 [.fptr MpT m] [] K := by
  have hat : ∀ i : Nat, List.getD m (Int.toNat (i : Int)) SpT.list.dft = Shp.arc m i := fun i => rfl
  refine acall_mk (E := envAt G 108 0) (envOk _ _ _) Tryd.func9 rfl rfl rfl rfl rfl ?_
  (repeat' (first | exact trivial | refine And.intro ?_ ?_ | (intro hb; try simp at hb) | omega | exact rfl | refine aRegion_auto (by decide +kernel) ?_ | fail))
  refine ⟨Nat, fun i => ⟨[(0, .fptr MpT m), (3, .fz int (wr (Shp.tot m i))), (4, .fz int i), (1000003, .unk)], []⟩, fun i => i ≤ m.length, fun i => m.length - i, 0, Nat.zero_le _, Ent.sub rfl ?_, ?_⟩
  · (repeat' (first | exact trivial | exact rfl | refine And.intro ?_ ?_))
  intro i hi
  have hi : i ≤ m.length := hi
  have htf := Shp.tot_full hi
  obtain ⟨n, hn⟩ : ∃ n, Shp.tot m i = n := ⟨_, rfl⟩
  show awp _ _ _ ⟨[(0, .fptr MpT m), (3, .fz int (wr (Shp.tot m i))), (4, .fz int i), (1000003, .unk)], []⟩
  rw [hn] at htf ⊢
  by_cases hil : i < m.length
  · obtain ⟨a, ha⟩ : ∃ a, Shp.arc m i = a := ⟨_, rfl⟩
    have hg := hat i
    have hal := hlen i hil
    have hnx := Shp.tot_next hil
    rw [ha] at hg hal hnx
    rw [hn] at hnx
    (repeat' (first | exact trivial | refine And.intro ?_ ?_ | (intro hb; try simp at hb) | omega | exact rfl | refine aRegion_auto (by decide +kernel) ?_ | fail))
    rw [hg]
    (repeat' (first | exact trivial | refine And.intro ?_ ?_ | (intro hb; try simp at hb) | omega | exact rfl | refine aRegion_auto (by decide +kernel) ?_ | fail))
    refine aact_addW (a := wr n) (b := (a.length : Int)) rfl rfl ?_
    rw [wr_add, ← hnx]
    (repeat' (first | exact trivial | refine And.intro ?_ ?_ | (intro hb; try simp at hb) | omega | exact rfl | refine aRegion_auto (by decide +kernel) ?_ | fail))
    refine aact_addW (a := (i : Int)) (b := 1) rfl rfl ?_
    rw [show IntKind.i64.wrap ((i : Int) + 1) = (i : Int) + 1 from I64.wrap (by unfold I64; omega)]
    (repeat' (first | exact trivial | exact fun h => h | refine And.intro ?_ ?_ | (intro hb; try simp at hb) | omega | exact rfl | exact Nat.le_refl _ | (show _ + 1 ≤ 4294967296; omega) | (show _ + 1 ≤ 5864062014634; omega) | (dsimp only; omega) | (show (_ : Int) ≤ (_ : Int); omega) | (show _ < List.length _; simp only [List.length_set, List.length_append, List.length_take]; omega) | (show wantB _ _ = true; simp <;> omega) | (show (_ : Bool) = _; simp_all; done) | (exfalso; omega) | refine aRegion_auto (by decide +kernel) ?_ | fail))
    refine ⟨i + 1, by show i + 1 ≤ m.length; omega, by show m.length - (i + 1) < m.length - i; omega, Ent.sub rfl ?_⟩
    · (repeat' (first | exact trivial | exact rfl | refine And.intro ?_ ?_))
  · obtain rfl : i = m.length := by omega
    by_cases hB : 60 < m.length ∨ 4000 < Shp.tot m m.length
    · have e := Shp.vE_bound (g := ngB) hB
      rw [e] at hK
      by_cases h60 : 60 < m.length
      · (repeat' (first | exact trivial | exact fun h => h | refine And.intro ?_ ?_ | (intro hb; try simp at hb) | omega | exact rfl | exact Nat.le_refl _ | (show _ + 1 ≤ 4294967296; omega) | (show _ + 1 ≤ 5864062014634; omega) | (dsimp only; omega) | (show (_ : Int) ≤ (_ : Int); omega) | (show _ < List.length _; simp only [List.length_set, List.length_append, List.length_take]; omega) | (show wantB _ _ = true; simp <;> omega) | (show (_ : Bool) = _; simp_all; done) | (exfalso; omega) | refine aRegion_auto (by decide +kernel) ?_ | refine ⟨_, _, REnt.drop ⟨rfl, rfl⟩, ?_⟩ | fail))
        exact hK
      · have hs := Shp.tot_wr hlen (by omega)
        rw [hn] at hB hs
        have hB := hB.resolve_left h60
        rw [hs]
        (repeat' (first | exact trivial | exact fun h => h | refine And.intro ?_ ?_ | (intro hb; try simp at hb) | omega | exact rfl | exact Nat.le_refl _ | (show _ + 1 ≤ 4294967296; omega) | (show _ + 1 ≤ 5864062014634; omega) | (dsimp only; omega) | (show (_ : Int) ≤ (_ : Int); omega) | (show _ < List.length _; simp only [List.length_set, List.length_append, List.length_take]; omega) | (show wantB _ _ = true; simp <;> omega) | (show (_ : Bool) = _; simp_all; done) | (exfalso; omega) | refine aRegion_auto (by decide +kernel) ?_ | refine ⟨_, _, REnt.drop ⟨rfl, rfl⟩, ?_⟩ | fail))
        exact hK
    · have hfew : m.length ≤ 60 := by omega
      have htt : Shp.tot m m.length ≤ 4000 := by omega
      have hl4 : ∀ i, i < m.length → (Shp.arc m i).length ≤ 4000 := fun i hi => by have := Shp.len_tot hi; omega
      have hs := Shp.tot_wr hlen (by omega)
      rw [hn] at hs htt
      rw [hs]
      (repeat' (first | exact trivial | exact fun h => h | refine And.intro ?_ ?_ | (intro hb; try simp at hb) | omega | exact rfl | exact Nat.le_refl _ | (show _ + 1 ≤ 4294967296; omega) | (show _ + 1 ≤ 5864062014634; omega) | (dsimp only; omega) | (show (_ : Int) ≤ (_ : Int); omega) | (show _ < List.length _; simp only [List.length_set, List.length_append, List.length_take]; omega) | (show wantB _ _ = true; simp <;> omega) | (show (_ : Bool) = _; simp_all; done) | (exfalso; omega) | refine aRegion_auto (by decide +kernel) ?_ | fail))
      rw [← hn] at htt
      refine ⟨Nat, fun i => ⟨[(0, .fptr MpT m), (5, .fz int i)], []⟩, fun i => i ≤ m.length ∧ ∀ j, j < i → Shp.badA ngB (Shp.arc m j) = false, fun i => m.length - i, 0, ⟨Nat.zero_le _, fun j h => absurd h (Nat.not_lt_zero _)⟩, Ent.sub rfl ?_, ?_⟩
      · (repeat' (first | exact trivial | exact rfl | refine And.intro ?_ ?_))
      intro i ⟨hi, hbad⟩
      have hi : i ≤ m.length := hi
      have hbad : ∀ j, j < i → Shp.badA ngB (Shp.arc m j) = false := hbad
      show awp _ _ _ ⟨[(0, .fptr MpT m), (5, .fz int i)], []⟩
      by_cases hil : i < m.length
      · obtain ⟨a, ha⟩ : ∃ a, Shp.arc m i = a := ⟨_, rfl⟩
        have hg := hat i
        have hal := hl4 i hil
        rw [ha] at hg hal
        have hgo : Shp.badA ngB a = false → ∀ j, j < i + 1 → Shp.badA ngB (Shp.arc m j) = false := fun h j hj => by
          by_cases c : j = i
          · rw [c, ha]; exact h
          · exact hbad j (by omega)
        have hno : (Shp.badA ngB a = false → False) → K (.fz int 3) [] := fun h => by
          rw [Shp.vE_shape hB ⟨i, hil, by rw [ha]; cases c : Shp.badA ngB a with | true => rfl | false => exact (h c).elim⟩] at hK
          exact hK
        have hiff := Shp.badA_iff ngB a
        (repeat' (first | exact trivial | exact fun h => h | refine And.intro ?_ ?_ | (intro hb; try simp at hb) | omega | exact rfl | exact Nat.le_refl _ | (show _ + 1 ≤ 4294967296; omega) | (show _ + 1 ≤ 5864062014634; omega) | (dsimp only; omega) | (show (_ : Int) ≤ (_ : Int); omega) | (show _ < List.length _; simp only [List.length_set, List.length_append, List.length_take]; omega) | (show wantB _ _ = true; simp <;> omega) | (show (_ : Bool) = _; simp_all; done) | (exfalso; omega) | fail))
        rw [hg]
        (repeat' (first | exact trivial | exact fun h => h | refine And.intro ?_ ?_ | (intro hb; try simp at hb) | omega | exact rfl | exact Nat.le_refl _ | (show _ + 1 ≤ 4294967296; omega) | (show _ + 1 ≤ 5864062014634; omega) | (dsimp only; omega) | (show (_ : Int) ≤ (_ : Int); omega) | (show _ < List.length _; simp only [List.length_set, List.length_append, List.length_take]; omega) | (show wantB _ _ = true; simp <;> omega) | (show (_ : Bool) = _; simp_all; done) | (exfalso; omega) | fail))
        by_cases h2 : a.length < 2
        · have hK3 := hno fun h => by have := (hiff.1 h).1; omega
          (repeat' (first | exact trivial | exact fun h => h | refine And.intro ?_ ?_ | (intro hb; try simp at hb) | omega | exact rfl | exact Nat.le_refl _ | (show _ + 1 ≤ 4294967296; omega) | (show _ + 1 ≤ 5864062014634; omega) | (dsimp only; omega) | (show (_ : Int) ≤ (_ : Int); omega) | (show _ < List.length _; simp only [List.length_set, List.length_append, List.length_take]; omega) | (show wantB _ _ = true; simp <;> omega) | (show (_ : Bool) = _; simp_all; done) | (exfalso; omega) | refine aRegion_auto (by decide +kernel) ?_ | refine ⟨_, _, REnt.drop ⟨rfl, rfl⟩, ?_⟩ | fail))
          all_goals first | exact hK3 | trace_state
        · have hne : a ≠ [] := fun e => h2 (by rw [e]; exact (by decide : 0 < 2))
          have hq : eqL [(a[0]?.getD SpT.dft).1, (a[0]?.getD SpT.dft).2] [(a[a.length - 1]?.getD SpT.dft).1, (a[a.length - 1]?.getD SpT.dft).2] = decide (Shp.at_ a 0 = Shp.at_ a (a.length - 1)) := by
            rw [at_q, at_q]
            exact eqS _ _
          (repeat' (first | exact trivial | exact fun h => h | refine And.intro ?_ ?_ | (intro hb; try simp at hb) | omega | exact rfl | exact Nat.le_refl _ | (show _ + 1 ≤ 4294967296; omega) | (show _ + 1 ≤ 5864062014634; omega) | (dsimp only; omega) | (show (_ : Int) ≤ (_ : Int); omega) | (show _ < List.length _; simp only [List.length_set, List.length_append, List.length_take]; omega) | (show wantB _ _ = true; simp <;> omega) | (show (_ : Bool) = _; simp_all; done) | (exfalso; omega) | refine aRegion_auto (by decide +kernel) ?_ | fail))
          · have hK3 := hno fun h => by
              rcases hb with hb | ⟨hb, h4⟩
              · omega
              · rw [hq] at hb
                exact (hiff.1 h).2.2.1 ⟨of_decide_eq_true hb, by omega⟩
            (repeat' (first | exact trivial | exact fun h => h | refine And.intro ?_ ?_ | (intro hb; try simp at hb) | omega | exact rfl | exact Nat.le_refl _ | (show _ + 1 ≤ 4294967296; omega) | (show _ + 1 ≤ 5864062014634; omega) | (dsimp only; omega) | (show (_ : Int) ≤ (_ : Int); omega) | (show _ < List.length _; simp only [List.length_set, List.length_append, List.length_take]; omega) | (show wantB _ _ = true; simp <;> omega) | (show (_ : Bool) = _; simp_all; done) | (exfalso; omega) | refine aRegion_auto (by decide +kernel) ?_ | refine ⟨_, _, REnt.drop ⟨rfl, rfl⟩, ?_⟩ | fail))
            exact hK3
          · have hcl : ¬ (Shp.at_ a 0 = Shp.at_ a (a.length - 1) ∧ a.length < 4) := fun ⟨e1, e2⟩ => by
              rw [hq] at hb
              have := hb.2 (decide_eq_true e1)
              omega
            clear hb
            (repeat' (first | exact trivial | exact fun h => h | refine And.intro ?_ ?_ | (intro hb; try simp at hb) | omega | exact rfl | exact Nat.le_refl _ | (show _ + 1 ≤ 4294967296; omega) | (show _ + 1 ≤ 5864062014634; omega) | (dsimp only; omega) | (show (_ : Int) ≤ (_ : Int); omega) | (show _ < List.length _; simp only [List.length_set, List.length_append, List.length_take]; omega) | (show wantB _ _ = true; simp <;> omega) | (show (_ : Bool) = _; simp_all; done) | (exfalso; omega) | refine aRegion_auto (by decide +kernel) ?_ | fail))
            refine ⟨Nat, fun k => ⟨[(0, .fptr MpT m), (5, .fz int i), (6, .fz (.list SpT) a), (7, .fz int k)], []⟩, fun k => k ≤ a.length ∧ (∀ t, t < k → plB (Shp.at_ a t) = true) ∧ ∀ t, t + 1 < k → Shp.at_ a t ≠ Shp.at_ a (t + 1), fun k => a.length - k, 0, ⟨Nat.zero_le _, fun t h => absurd h (Nat.not_lt_zero _), fun t h => absurd h (Nat.not_lt_zero _)⟩, Ent.sub rfl ?_, ?_⟩
            · (repeat' (first | exact trivial | exact rfl | refine And.intro ?_ ?_))
            intro k ⟨hk, hp, hs⟩
            have hk : k ≤ a.length := hk
            have hp : ∀ t, t < k → plB (Shp.at_ a t) = true := hp
            have hs : ∀ t, t + 1 < k → Shp.at_ a t ≠ Shp.at_ a (t + 1) := hs
            show awp _ _ _ ⟨[(0, .fptr MpT m), (5, .fz int i), (6, .fz (.list SpT) a), (7, .fz int k)], []⟩
            by_cases hka : k < a.length
            · obtain ⟨x, hx⟩ : ∃ x, Shp.at_ a k = x := ⟨_, rfl⟩
              have hgx : List.getD a (Int.toNat (k : Int)) SpT.dft = x := hx
              obtain ⟨ok, hok⟩ : ∃ ok, plB x = ok := ⟨_, rfl⟩
              (repeat' (first | exact trivial | exact fun h => h | refine And.intro ?_ ?_ | (intro hb; try simp at hb) | omega | exact rfl | exact Nat.le_refl _ | (show _ + 1 ≤ 4294967296; omega) | (show _ + 1 ≤ 5864062014634; omega) | (dsimp only; omega) | (show (_ : Int) ≤ (_ : Int); omega) | (show _ < List.length _; simp only [List.length_set, List.length_append, List.length_take]; omega) | (show wantB _ _ = true; simp <;> omega) | (show (_ : Bool) = _; simp_all; done) | (exfalso; omega) | refine aRegion_auto (by decide +kernel) ?_ | fail))
              rw [hgx]
              refine acall_frame0 rfl (isPlace_any _ x _ ?_)
              rw [hok]
              cases ok with
              | false =>
                have hK3 := hno fun h => by
                  have := (hiff.1 h).2.1 k hka
                  unfold ngB at this
                  rw [hx, hok] at this; cases this
                (repeat' (first | exact trivial | exact fun h => h | refine And.intro ?_ ?_ | (intro hb; try simp at hb) | omega | exact rfl | exact Nat.le_refl _ | (show _ + 1 ≤ 4294967296; omega) | (show _ + 1 ≤ 5864062014634; omega) | (dsimp only; omega) | (show (_ : Int) ≤ (_ : Int); omega) | (show _ < List.length _; simp only [List.length_set, List.length_append, List.length_take]; omega) | (show wantB _ _ = true; simp <;> omega) | (show (_ : Bool) = _; simp_all; done) | (exfalso; omega) | refine aRegion_auto (by decide +kernel) ?_ | refine ⟨_, _, REnt.drop ⟨rfl, rfl⟩, ?_⟩ | fail))
                exact hK3
              | true =>
                by_cases hk0 : 0 < k
                · have hq2 : eqL [(a[k]?.getD SpT.dft).1, (a[k]?.getD SpT.dft).2] [(a[k - 1]?.getD SpT.dft).1, (a[k - 1]?.getD SpT.dft).2] = decide (Shp.at_ a k = Shp.at_ a (k - 1)) := by
                    rw [at_q, at_q]
                    exact eqS _ _
                  (repeat' (first | exact trivial | exact fun h => h | refine And.intro ?_ ?_ | (intro hb; try simp at hb) | omega | exact rfl | exact Nat.le_refl _ | (show _ + 1 ≤ 4294967296; omega) | (show _ + 1 ≤ 5864062014634; omega) | (dsimp only; omega) | (show (_ : Int) ≤ (_ : Int); omega) | (show _ < List.length _; simp only [List.length_set, List.length_append, List.length_take]; omega) | (show wantB _ _ = true; simp <;> omega) | (show (_ : Bool) = _; simp_all; done) | (exfalso; omega) | refine aRegion_auto (by decide +kernel) ?_ | fail))
                  · have hK3 := hno fun h => by
                      have h3 := hb.2
                      rw [hq2] at h3
                      have h4 := (hiff.1 h).2.2.2 (k - 1) (by omega)
                      rw [show k - 1 + 1 = k by omega] at h4
                      exact h4 (of_decide_eq_true h3).symm
                    (repeat' (first | exact trivial | exact fun h => h | refine And.intro ?_ ?_ | (intro hb; try simp at hb) | omega | exact rfl | exact Nat.le_refl _ | (show _ + 1 ≤ 4294967296; omega) | (show _ + 1 ≤ 5864062014634; omega) | (dsimp only; omega) | (show (_ : Int) ≤ (_ : Int); omega) | (show _ < List.length _; simp only [List.length_set, List.length_append, List.length_take]; omega) | (show wantB _ _ = true; simp <;> omega) | (show (_ : Bool) = _; simp_all; done) | (exfalso; omega) | refine aRegion_auto (by decide +kernel) ?_ | refine ⟨_, _, REnt.drop ⟨rfl, rfl⟩, ?_⟩ | fail))
                    exact hK3
                  · have h3 := hb hk0
                    rw [hq2] at h3
                    have h4 := of_decide_eq_false h3
                    clear hb
                    (repeat' (first | exact trivial | exact fun h => h | refine And.intro ?_ ?_ | (intro hb; try simp at hb) | omega | exact rfl | exact Nat.le_refl _ | (show _ + 1 ≤ 4294967296; omega) | (show _ + 1 ≤ 5864062014634; omega) | (dsimp only; omega) | (show (_ : Int) ≤ (_ : Int); omega) | (show _ < List.length _; simp only [List.length_set, List.length_append, List.length_take]; omega) | (show wantB _ _ = true; simp <;> omega) | (show (_ : Bool) = _; simp_all; done) | (exfalso; omega) | refine aRegion_auto (by decide +kernel) ?_ | fail))
                    refine ⟨k + 1, ⟨by show k + 1 ≤ a.length; omega, fun t h => ?_, fun t h => ?_⟩, by show a.length - (k + 1) < a.length - k; omega, Ent.sub rfl ?_⟩
                    · have h : t < k + 1 := h
                      by_cases c : t = k
                      · rw [c, hx]; exact hok
                      · exact hp t (by omega)
                    · have h : t + 1 < k + 1 := h
                      by_cases c : t + 1 = k
                      · have e : t = k - 1 := by omega
                        rw [c, e]
                        exact fun h => h4 h.symm
                      · exact hs t (by omega)
                    · (repeat' (first | exact trivial | exact rfl | refine And.intro ?_ ?_))
                · obtain rfl : k = 0 := by omega
                  (repeat' (first | exact trivial | refine And.intro ?_ ?_ | (intro hb; try simp at hb) | omega | exact rfl | refine aRegion_auto (by decide +kernel) ?_ | fail))
                  refine ⟨0 + 1, ⟨by show 0 + 1 ≤ a.length; omega, fun t h => ?_, fun t h => ?_⟩, by show a.length - (0 + 1) < a.length - 0; omega, Ent.sub rfl ?_⟩
                  · have h : t < 0 + 1 := h
                    have e : t = 0 := by omega
                    rw [e, hx]; exact hok
                  · have h : t + 1 < 0 + 1 := h
                    omega
                  · (repeat' (first | exact trivial | exact rfl | refine And.intro ?_ ?_))
            · have hgood := hgo (hiff.2 ⟨by omega, fun t ht => by unfold ngB; rw [hp t (by omega)]; rfl, hcl, fun t ht => hs t (by omega)⟩)
              (repeat' (first | exact trivial | refine And.intro ?_ ?_ | (intro hb; try simp at hb) | omega | exact rfl | refine aRegion_auto (by decide +kernel) ?_ | fail))
              refine ⟨i + 1, ⟨by show i + 1 ≤ m.length; omega, hgood⟩, by show m.length - (i + 1) < m.length - i; omega, Ent.sub rfl ?_⟩
              · (repeat' (first | exact trivial | exact rfl | refine And.intro ?_ ?_))
      · obtain rfl : i = m.length := by omega
        have B := MB_of hfew htt hbad
        have hap := Shp.apart_iff (m := m) (fun i k ⟨h1, h2⟩ => ((Shp.badA_iff _ _).1 (hbad i h1)).2.2.2 k h2) B.two
        (repeat' (first | exact trivial | refine And.intro ?_ ?_ | (intro hb; try simp at hb) | omega | exact rfl | refine aRegion_auto (by decide +kernel) ?_ | fail))
        refine acall_frame0 rfl (apart_any _ m B _ fun b hb0 => ?_)
        cases b with
        | true =>
          rw [Shp.vE_ok hB hbad (hap.1 (hb0.1 rfl))] at hK
          (repeat' (first | exact trivial | refine And.intro ?_ ?_ | (intro hb; try simp at hb) | omega | exact rfl | refine aRegion_auto (by decide +kernel) ?_ | refine ⟨_, _, REnt.drop ⟨rfl, rfl⟩, ?_⟩ | fail))
          exact hK
        | false =>
          rw [Shp.vE_order hB hbad fun h => by have := hb0.2 (hap.2 h); cases this] at hK
          (repeat' (first | exact trivial | refine And.intro ?_ ?_ | (intro hb; try simp at hb) | omega | exact rfl | refine aRegion_auto (by decide +kernel) ?_ | refine ⟨_, _, REnt.drop ⟨rfl, rfl⟩, ?_⟩ | fail))
          exact hK
end Go.Proofs.YtcfalmdfohphoaaDoor
/-
  Are two lists of lists the same: the walks.
-/
namespace Go.Proofs.YtcfalmdfohphoaaDoor
open Go Go.Ab
set_option maxRecDepth 100000
abbrev LI2 : Ty := .list int
theorem sameInts5_any (G : List (Nat × Value)) (xs ys : List Int) (hx : xs.length ≤ 1000000000000) (K : AV → List AO → Prop) (hK : K (.fz .bool (decide (xs = ys))) []) :
    ACall Tryd.prog G 33 [.fz LI2 xs, .fz LI2 ys] [] K := by
  refine acall_mk (E := envAt G 26 0) (envOk _ _ _) Tryd.func33 rfl rfl rfl rfl rfl ?_
  by_cases hl : xs.length = ys.length
  · (repeat' (first | exact trivial | exact fun h => h | refine And.intro ?_ ?_ | (intro hb; try simp at hb) | omega | exact rfl | exact Nat.le_refl _ | (show _ + 1 ≤ 4294967296; omega) | (show _ + 1 ≤ 5864062014634; omega) | (dsimp only; omega) | (show (_ : Int) ≤ (_ : Int); omega) | (show _ < List.length _; simp only [List.length_set, List.length_append, List.length_take]; omega) | (show wantB _ _ = true; simp <;> omega) | (show (_ : Bool) = _; simp_all; done) | (exfalso; omega) | refine aRegion_auto (by decide +kernel) ?_ | fail))
    refine ⟨Nat, fun k => ⟨[(0, .fz LI2 xs), (1, .fz LI2 ys), (5, .fz int k)], []⟩, fun k => k ≤ xs.length ∧ ∀ j, j < k → xs.getD j 0 = ys.getD j 0, fun k => xs.length - k, 0, ⟨Nat.zero_le _, fun j h => absurd h (Nat.not_lt_zero _)⟩, Ent.sub rfl ?_, ?_⟩
    · (repeat' (first | exact trivial | exact rfl | refine And.intro ?_ ?_))
    intro k ⟨hk, hp⟩
    have hk : k ≤ xs.length := hk
    by_cases hk2 : k < xs.length
    · (repeat' (first | exact trivial | exact fun h => h | refine And.intro ?_ ?_ | (intro hb; try simp at hb) | omega | exact rfl | exact Nat.le_refl _ | (show _ + 1 ≤ 4294967296; omega) | (show _ + 1 ≤ 5864062014634; omega) | (dsimp only; omega) | (show (_ : Int) ≤ (_ : Int); omega) | (show _ < List.length _; simp only [List.length_set, List.length_append, List.length_take]; omega) | (show wantB _ _ = true; simp <;> omega) | (show (_ : Bool) = _; simp_all; done) | (exfalso; omega) | refine aRegion_auto (by decide +kernel) ?_ | fail))
      · have hne : xs ≠ ys := fun e => hb (by rw [e])
        refine ⟨_, _, REnt.refl _ _ _, ?_⟩
        rw [decide_eq_false hne] at hK
        exact hK
      · refine ⟨k + 1, ⟨by omega, fun j hj => ?_⟩, by show _ - _ < _ - _; omega, Ent.sub rfl ?_⟩
        · by_cases e : j = k
          · subst e; exact hb
          · exact hp j (by omega)
        · (repeat' (first | exact trivial | exact rfl | refine And.intro ?_ ?_))
    · have e : xs = ys := by
        apply List.ext_getElem hl
        intro j h1 h2
        have := hp j (by omega)
        rwa [← List.getElem_eq_getD (h := h1), ← List.getElem_eq_getD (h := h2)] at this
      rw [decide_eq_true e] at hK
      (repeat' (first | exact trivial | exact fun h => h | refine And.intro ?_ ?_ | (intro hb; try simp at hb) | omega | exact rfl | exact Nat.le_refl _ | (show _ + 1 ≤ 4294967296; omega) | (show _ + 1 ≤ 5864062014634; omega) | (dsimp only; omega) | (show (_ : Int) ≤ (_ : Int); omega) | (show _ < List.length _; simp only [List.length_set, List.length_append, List.length_take]; omega) | (show wantB _ _ = true; simp <;> omega) | (show (_ : Bool) = _; simp_all; done) | (exfalso; omega) | refine aRegion_auto (by decide +kernel) ?_ | fail))
      exact ⟨_, _, REnt.refl _ _ _, hK⟩
  · have hne : xs ≠ ys := fun e => hl (by rw [e])
    rw [decide_eq_false hne] at hK
    (repeat' (first | exact trivial | exact fun h => h | refine And.intro ?_ ?_ | (intro hb; try simp at hb) | omega | exact rfl | exact Nat.le_refl _ | (show _ + 1 ≤ 4294967296; omega) | (show _ + 1 ≤ 5864062014634; omega) | (dsimp only; omega) | (show (_ : Int) ≤ (_ : Int); omega) | (show _ < List.length _; simp only [List.length_set, List.length_append, List.length_take]; omega) | (show wantB _ _ = true; simp <;> omega) | (show (_ : Bool) = _; simp_all; done) | (exfalso; omega) | refine aRegion_auto (by decide +kernel) ?_ | fail))
    exact ⟨_, _, REnt.refl _ _ _, hK⟩
/-- alike lists of lists (the law asks this of a thing and itself alone) -/
theorem sameLists_any (G : List (Nat × Value)) (xs : List (List Int)) (hx : xs.length ≤ 1000000000000) (hxl : ∀ l ∈ xs, l.length ≤ 1000000000000) (K : AV → List AO → Prop) (hK : K (.fz .bool true) []) :
    ACall Tryd.prog G 15 [.fz (.list LI2) xs, .fz (.list LI2) xs] [] K := by
  refine acall_mk (E := envAt G 29 0) (envOk _ _ _) Tryd.func15 rfl rfl rfl rfl rfl ?_
  (repeat' (first | exact trivial | exact fun h => h | refine And.intro ?_ ?_ | (intro hb; try simp at hb) | omega | exact rfl | exact Nat.le_refl _ | (show _ + 1 ≤ 4294967296; omega) | (show _ + 1 ≤ 5864062014634; omega) | (dsimp only; omega) | (show (_ : Int) ≤ (_ : Int); omega) | (show _ < List.length _; simp only [List.length_set, List.length_append, List.length_take]; omega) | (show wantB _ _ = true; simp <;> omega) | (show (_ : Bool) = _; simp_all; done) | (exfalso; omega) | refine aRegion_auto (by decide +kernel) ?_ | fail))
  refine ⟨Nat, fun k => ⟨[(0, .fz (.list LI2) xs), (1, .fz (.list LI2) xs), (5, .fz int k)], []⟩, fun k => k ≤ xs.length, fun k => xs.length - k, 0, Nat.zero_le _, Ent.sub rfl ?_, ?_⟩
  · (repeat' (first | exact trivial | exact rfl | refine And.intro ?_ ?_))
  intro k hk
  have hk : k ≤ xs.length := hk
  by_cases hk2 : k < xs.length
  · obtain ⟨l, hl⟩ : ∃ l, List.getD xs (Int.toNat (k : Int)) LI2.dft = l := ⟨_, rfl⟩
    have hlm : l ∈ xs := by
      rw [← hl, Int.toNat_natCast, List.getD_eq_getElem?_getD, List.getElem?_eq_getElem hk2]
      exact List.getElem_mem hk2
    have hll := hxl l hlm
    (repeat' (first | exact trivial | exact fun h => h | refine And.intro ?_ ?_ | (intro hb; try simp at hb) | omega | exact rfl | exact Nat.le_refl _ | (show _ + 1 ≤ 4294967296; omega) | (show _ + 1 ≤ 5864062014634; omega) | (dsimp only; omega) | (show (_ : Int) ≤ (_ : Int); omega) | (show _ < List.length _; simp only [List.length_set, List.length_append, List.length_take]; omega) | (show wantB _ _ = true; simp <;> omega) | (show (_ : Bool) = _; simp_all; done) | (exfalso; omega) | refine aRegion_auto (by decide +kernel) ?_ | fail))
    apply exEff
    · refine acall_frame0 rfl (acall_arg (sameInts5_any _ l l hll _ ?_) (congrArg (fun z => [AV.fz LI2 z, AV.fz LI2 z]) hl.symm))
      rw [decide_eq_true rfl]
      exact ⟨rfl, rfl⟩
    (repeat' (first | exact trivial | exact fun h => h | refine And.intro ?_ ?_ | (intro hb; try simp at hb) | omega | exact rfl | exact Nat.le_refl _ | (show _ + 1 ≤ 4294967296; omega) | (show _ + 1 ≤ 5864062014634; omega) | (dsimp only; omega) | (show (_ : Int) ≤ (_ : Int); omega) | (show _ < List.length _; simp only [List.length_set, List.length_append, List.length_take]; omega) | (show wantB _ _ = true; simp <;> omega) | (show (_ : Bool) = _; simp_all; done) | (exfalso; omega) | refine aRegion_auto (by decide +kernel) ?_ | fail))
    refine ⟨k + 1, by show k + 1 ≤ xs.length; omega, by show xs.length - (k + 1) < xs.length - k; omega, Ent.sub rfl ?_⟩
    · (repeat' (first | exact trivial | exact rfl | refine And.intro ?_ ?_))
  · (repeat' (first | exact trivial | exact fun h => h | refine And.intro ?_ ?_ | (intro hb; try simp at hb) | omega | exact rfl | exact Nat.le_refl _ | (show _ + 1 ≤ 4294967296; omega) | (show _ + 1 ≤ 5864062014634; omega) | (dsimp only; omega) | (show (_ : Int) ≤ (_ : Int); omega) | (show _ < List.length _; simp only [List.length_set, List.length_append, List.length_take]; omega) | (show wantB _ _ = true; simp <;> omega) | (show (_ : Bool) = _; simp_all; done) | (exfalso; omega) | refine aRegion_auto (by decide +kernel) ?_ | fail))
    exact ⟨_, _, REnt.refl _ _ _, hK⟩
end Go.Proofs.YtcfalmdfohphoaaDoor
/-
  What compares two ways at a place: the closure.
-/
namespace Go.Proofs.YtcfalmdfohphoaaDoor
open Go Go.Ab
set_option maxRecDepth 100000
abbrev bx2 (p : Int × Int) : AO := .box [.fz int p.1, .fz int p.2]
/-- the direction of a way at a place -/
def wdr (m : Shp.Arcs) (p : Shp.Sp) (w : Int) : Shp.Sp := Shp.sub (Shp.nxp m w) p
theorem nxp_pl {m : Shp.Arcs} (B : MB m) {w : Int} (hw : Shp.isWay m w) : plB (Shp.nxp m w) = true := by
  obtain ⟨h0, h1⟩ := hw
  have hi : w.natAbs - 1 < m.length := by omega
  have h2 := B.two _ hi
  have e : Shp.arcOf m w = Shp.arc m (w.natAbs - 1) := rfl
  unfold Shp.nxp
  split
  · exact B.pl (w.natAbs - 1) 1 ⟨hi, by omega⟩
  · rw [e]; exact B.pl (w.natAbs - 1) _ ⟨hi, by omega⟩
set_option maxHeartbeats 4000000 in
theorem nexts1_any (G : List (Nat × Value)) (m : Shp.Arcs) (B : MB m) (p : Int × Int) (hp : plB p = true) (v w : Int) (hv : Shp.isWay m v) (hw : Shp.isWay m w) (K : AV → List AO → Prop) (hK : K (.fz int (Shp.trn (wdr m p v) (wdr m p w))) []) :
    ACall Tryd.prog G 49 [.fz int v, .fz int w, .fptr MpT m, .fptr SpT p] [] K := by
  have pv := nxp_pl B hv
  have pw := nxp_pl B hw
  have cv := way_any G m v B hv
  have cw := way_any G m w B hw
  obtain ⟨f1, hf1⟩ : ∃ x, Shp.frm m v = x := ⟨_, rfl⟩
  obtain ⟨n1, hn1⟩ : ∃ x, Shp.nxp m v = x := ⟨_, rfl⟩
  obtain ⟨t1, ht1⟩ : ∃ x, tos m v = x := ⟨_, rfl⟩
  obtain ⟨f2, hf2⟩ : ∃ x, Shp.frm m w = x := ⟨_, rfl⟩
  obtain ⟨n2, hn2⟩ : ∃ x, Shp.nxp m w = x := ⟨_, rfl⟩
  obtain ⟨t2, ht2⟩ : ∃ x, tos m w = x := ⟨_, rfl⟩
  rw [hf1, hn1, ht1] at cv
  rw [hf2, hn2, ht2] at cw
  rw [hn1] at pv
  rw [hn2] at pw
  unfold wdr at hK
  rw [hn1, hn2] at hK
  refine acall_mk (E := envCut G 50 0 [2, 3]) (envCutOk _ _ _ _) Tryd.func49 rfl rfl rfl rfl rfl ?_
  refine acall_conv [.keep, .keep] _ _ _ rfl trivial (acall_frame0 rfl (cv _ ?_))
  (repeat' (first | exact trivial | exact fun h => h | refine And.intro ?_ ?_ | (intro hb; try simp at hb) | omega | exact rfl | exact Nat.le_refl _ | (show _ + 1 ≤ 4294967296; omega) | (show _ + 1 ≤ 5864062014634; omega) | (dsimp only; omega) | (show (_ : Int) ≤ (_ : Int); omega) | (show _ < List.length _; simp only [List.length_set, List.length_append, List.length_take]; omega) | (show wantB _ _ = true; simp <;> omega) | (show (_ : Bool) = _; simp_all; done) | (exfalso; omega) | refine aRegion_auto (by decide +kernel) ?_ | fail))
  (repeat' (first | exact trivial | exact fun h => h | refine And.intro ?_ ?_ | (intro hb; try simp at hb) | omega | exact rfl | exact Nat.le_refl _ | (show _ + 1 ≤ 4294967296; omega) | (show _ + 1 ≤ 5864062014634; omega) | (dsimp only; omega) | (show (_ : Int) ≤ (_ : Int); omega) | (show _ < List.length _; simp only [List.length_set, List.length_append, List.length_take]; omega) | (show wantB _ _ = true; simp <;> omega) | (show (_ : Bool) = _; simp_all; done) | (exfalso; omega) | refine aRegion_auto (by decide +kernel) ?_ | fail))
  refine ⟨[(1, .fz int w), (2, .fptr MpT m), (3, .fptr SpT p), (8, .ptr 0 0)], [bx2 n1], Ent.ren [1] rfl ?_ ?_, ?_⟩
  · (repeat' (first | exact trivial | exact rfl | refine And.intro ?_ ?_))
  · (repeat' (first | exact trivial | exact rfl | refine And.intro ?_ ?_))
  (repeat' (first | exact trivial | exact fun h => h | refine And.intro ?_ ?_ | (intro hb; try simp at hb) | omega | exact rfl | exact Nat.le_refl _ | (show _ + 1 ≤ 4294967296; omega) | (show _ + 1 ≤ 5864062014634; omega) | (dsimp only; omega) | (show (_ : Int) ≤ (_ : Int); omega) | (show _ < List.length _; simp only [List.length_set, List.length_append, List.length_take]; omega) | (show wantB _ _ = true; simp <;> omega) | (show (_ : Bool) = _; simp_all; done) | (exfalso; omega) | refine aRegion_auto (by decide +kernel) ?_ | fail))
  refine acall_conv [.keep, .keep] _ _ _ rfl trivial (acall_frame0 rfl (cw _ ?_))
  (repeat' (first | exact trivial | exact fun h => h | refine And.intro ?_ ?_ | (intro hb; try simp at hb) | omega | exact rfl | exact Nat.le_refl _ | (show _ + 1 ≤ 4294967296; omega) | (show _ + 1 ≤ 5864062014634; omega) | (dsimp only; omega) | (show (_ : Int) ≤ (_ : Int); omega) | (show _ < List.length _; simp only [List.length_set, List.length_append, List.length_take]; omega) | (show wantB _ _ = true; simp <;> omega) | (show (_ : Bool) = _; simp_all; done) | (exfalso; omega) | refine aRegion_auto (by decide +kernel) ?_ | fail))
  (repeat' (first | exact trivial | exact fun h => h | refine And.intro ?_ ?_ | (intro hb; try simp at hb) | omega | exact rfl | exact Nat.le_refl _ | (show _ + 1 ≤ 4294967296; omega) | (show _ + 1 ≤ 5864062014634; omega) | (dsimp only; omega) | (show (_ : Int) ≤ (_ : Int); omega) | (show _ < List.length _; simp only [List.length_set, List.length_append, List.length_take]; omega) | (show wantB _ _ = true; simp <;> omega) | (show (_ : Bool) = _; simp_all; done) | (exfalso; omega) | refine aRegion_auto (by decide +kernel) ?_ | fail))
  refine ⟨[(3, .fptr SpT p), (8, .ptr 0 0), (11, .ptr 1 0)], [bx2 n1, bx2 n2], Ent.ren [0, 2] rfl ?_ ?_, ?_⟩
  · (repeat' (first | exact trivial | exact rfl | refine And.intro ?_ ?_))
  · (repeat' (first | exact trivial | exact rfl | refine And.intro ?_ ?_))
  have d1 := dfB_sub pv hp
  have d2 := dfB_sub pw hp
  have hp2 := plB_iff.1 hp
  have pv2 := plB_iff.1 pv
  have pw2 := plB_iff.1 pw
  (repeat' (first | exact trivial | exact fun h => h | refine And.intro ?_ ?_ | (intro hb; try simp at hb) | omega | exact rfl | exact Nat.le_refl _ | (show _ + 1 ≤ 4294967296; omega) | (show _ + 1 ≤ 5864062014634; omega) | (dsimp only; omega) | (show (_ : Int) ≤ (_ : Int); omega) | (show _ < List.length _; simp only [List.length_set, List.length_append, List.length_take]; omega) | (show wantB _ _ = true; simp <;> omega) | (show (_ : Bool) = _; simp_all; done) | (exfalso; omega) | refine aRegion_auto (by decide +kernel) ?_ | fail))
  refine acall_conv [.dat SpT, .dat SpT] _ _ _ rfl trivial (acall_frame0 rfl (turned_any _ (Shp.sub n1 p) (Shp.sub n2 p) d1 d2 _ ?_))
  (repeat' (first | exact trivial | exact fun h => h | refine And.intro ?_ ?_ | (intro hb; try simp at hb) | omega | exact rfl | exact Nat.le_refl _ | (show _ + 1 ≤ 4294967296; omega) | (show _ + 1 ≤ 5864062014634; omega) | (dsimp only; omega) | (show (_ : Int) ≤ (_ : Int); omega) | (show _ < List.length _; simp only [List.length_set, List.length_append, List.length_take]; omega) | (show wantB _ _ = true; simp <;> omega) | (show (_ : Bool) = _; simp_all; done) | (exfalso; omega) | refine aRegion_auto (by decide +kernel) ?_ | refine ⟨_, _, REnt.drop ⟨rfl, rfl⟩, ?_⟩ | fail))
  exact hK
theorem frm_pl {m : Shp.Arcs} (B : MB m) {w : Int} (hw : Shp.isWay m w) : plB (Shp.frm m w) = true := by
  obtain ⟨h0, h1⟩ := hw
  have hi : w.natAbs - 1 < m.length := by omega
  have h2 := B.two _ hi
  have e : Shp.arcOf m w = Shp.arc m (w.natAbs - 1) := rfl
  unfold Shp.frm
  split
  · exact B.pl (w.natAbs - 1) 0 ⟨hi, by omega⟩
  · rw [e]; exact B.pl (w.natAbs - 1) _ ⟨hi, by omega⟩
theorem neg_way {m : Shp.Arcs} {w : Int} (hw : Shp.isWay m w) : Shp.isWay m (-w) := ⟨by have := hw.1; omega, by have := hw.2; omega⟩
end Go.Proofs.YtcfalmdfohphoaaDoor
/-
  slices.SortFunc at int: the library's contract laid here.
-/
namespace Go.Proofs
open Go.Shelf
def Tryd.sortInt_ren : Go.Shelf.Ren := ⟨fun | 6 => 48 | 14 => 63 | 15 => 64 | 20 => 76 | 21 => 77 | 22 => 78 | 23 => 79 | 24 => 80 | 25 => 81 | 26 => 82 | 27 => 83 | 28 => 84 | 29 => 85 | 46 => 89 | 47 => 90 | 48 => 91 | 49 => 92 | 50 => 93 | 57 => 94 | n => n, fun | 0 => 0 | 3 => 3 | 4 => 4 | 5 => 5 | 9 => 9 | 22 => 35 | 24 => 3 | 25 => 87 | 39 => 103 | 45 => 121 | 46 => 122 | 50 => 126 | 53 => 129 | 55 => 131 | 66 => 148 | 70 => 152 | 76 => 154 | 77 => 38 | n => n, fun | n => n⟩
theorem Tryd.sortInt : Go.Proofs.SlLaysF.n6 Tryd.prog Tryd.sortInt_ren := {
  mixed := by kernel_rfl
  f6 := .intro "slices.SortFunc[[]int,int]" ⟨by decide, Tryd.func48.trans (congrArg some (by kernel_rfl))⟩
  f14 := .intro "slices.pdqsortCmpFunc[int]" ⟨by decide, Tryd.func63.trans (congrArg some (by kernel_rfl))⟩
  f15 := Tryd.func64.trans (congrArg some (by kernel_rfl))
  f20 := .intro "slices.insertionSortCmpFunc[int]" ⟨by decide, Tryd.func76.trans (congrArg some (by kernel_rfl))⟩
  f21 := .intro "slices.heapSortCmpFunc[int]" ⟨by decide, Tryd.func77.trans (congrArg some (by kernel_rfl))⟩
  f22 := .intro "slices.breakPatternsCmpFunc[int]" ⟨by decide, Tryd.func78.trans (congrArg some (by kernel_rfl))⟩
  f23 := .intro "slices.choosePivotCmpFunc[int]" ⟨by decide, Tryd.func79.trans (congrArg some (by kernel_rfl))⟩
  f24 := .intro "slices.reverseRangeCmpFunc[int]" ⟨by decide, Tryd.func80.trans (congrArg some (by kernel_rfl))⟩
  f25 := .intro "slices.partialInsertionSortCmpFunc[int]" ⟨by decide, Tryd.func81.trans (congrArg some (by kernel_rfl))⟩
  f26 := .intro "slices.partitionEqualCmpFunc[int]" ⟨by decide, Tryd.func82.trans (congrArg some (by kernel_rfl))⟩
  f27 := .intro "slices.partitionCmpFunc[int]" ⟨by decide, Tryd.func83.trans (congrArg some (by kernel_rfl))⟩
  f28 := Tryd.func84.trans (congrArg some (by kernel_rfl))
  f29 := Tryd.func85.trans (congrArg some (by kernel_rfl))
  f46 := .intro "slices.siftDownCmpFunc[int]" ⟨by decide, Tryd.func89.trans (congrArg some (by kernel_rfl))⟩
  f47 := Tryd.func90.trans (congrArg some (by kernel_rfl))
  f48 := Tryd.func91.trans (congrArg some (by kernel_rfl))
  f49 := .intro "slices.medianAdjacentCmpFunc[int]" ⟨by decide, Tryd.func92.trans (congrArg some (by kernel_rfl))⟩
  f50 := .intro "slices.medianCmpFunc[int]" ⟨by decide, Tryd.func93.trans (congrArg some (by kernel_rfl))⟩
  f57 := .intro "slices.order2CmpFunc[int]" ⟨by decide, Tryd.func94.trans (congrArg some (by kernel_rfl))⟩
  t0 := Tryd.underlying0
  a0 := Tryd.isAgg0
  z0 := Tryd.sizeOf0
  v0 := Tryd.zeroValue0
  t3 := Tryd.underlying3
  a3 := Tryd.isAgg3
  z3 := Tryd.sizeOf3
  v3 := Tryd.zeroValue3
  t4 := Tryd.underlying4
  a4 := Tryd.isAgg4
  z4 := Tryd.sizeOf4
  v4 := Tryd.zeroValue4
  t5 := Tryd.underlying5
  a5 := Tryd.isAgg5
  z5 := Tryd.sizeOf5
  v5 := Tryd.zeroValue5
  t9 := Tryd.underlying9
  a9 := Tryd.isAgg9
  z9 := Tryd.sizeOf9
  v9 := Tryd.zeroValue9
  t22 := Tryd.underlying35
  a22 := Tryd.isAgg35
  z22 := Tryd.sizeOf35
  v22 := Tryd.zeroValue35
  a24 := Tryd.isAgg3
  z24 := Tryd.sizeOf3
  t25 := Tryd.underlying87
  a25 := Tryd.isAgg87
  z25 := Tryd.sizeOf87
  v25 := Tryd.zeroValue87
  t39 := Tryd.underlying103
  a39 := Tryd.isAgg103
  z39 := Tryd.sizeOf103
  v39 := Tryd.zeroValue103
  t45 := Tryd.underlying121
  a45 := Tryd.isAgg121
  z45 := Tryd.sizeOf121
  v45 := Tryd.zeroValue121
  t46 := Tryd.underlying122
  a46 := Tryd.isAgg122
  z46 := Tryd.sizeOf122
  v46 := Tryd.zeroValue122
  t50 := Tryd.underlying126
  a50 := Tryd.isAgg126
  z50 := Tryd.sizeOf126
  v50 := Tryd.zeroValue126
  t53 := Tryd.underlying129
  a53 := Tryd.isAgg129
  z53 := Tryd.sizeOf129
  v53 := Tryd.zeroValue129
  t55 := Tryd.underlying131
  a55 := Tryd.isAgg131
  z55 := Tryd.sizeOf131
  v55 := Tryd.zeroValue131
  t66 := Tryd.underlying148
  a66 := Tryd.isAgg148
  z66 := Tryd.sizeOf148
  v66 := Tryd.zeroValue148
  t70 := Tryd.underlying152
  a70 := Tryd.isAgg152
  z70 := Tryd.sizeOf152
  v70 := Tryd.zeroValue152
  t76 := Tryd.underlying154
  a76 := Tryd.isAgg154
  z76 := Tryd.sizeOf154
  v76 := Tryd.zeroValue154
  t77 := Tryd.underlying38
  a77 := Tryd.isAgg38
  z77 := Tryd.sizeOf38
  v77 := Tryd.zeroValue38 }
end Go.Proofs
