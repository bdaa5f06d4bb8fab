/-
  Is a raster right: in one piece; slices.Clone.
-/
import Derived.Test.YtepkknjncpbahaaDoorM5
import Derived.OrdersIn
import Derived.RangeFuncCalls
import Derived.RangeFuncBox
import Derived.RangeFuncLeaves
import Derived.Shelf.Abstract
import Derived.WalkKit
import Derived.OwnWalkIn
import Derived.TacticsInMore
import Derived.LoopNIn
import Derived.LoopIn
import Derived.Test.YtepkknjncpbahaaDoorProg
namespace Go.Proofs.YtepkknjncpbahaaDoor
open Go Go.Ab
set_option maxRecDepth 100000
theorem valid1 (E : Errs) (a : Ras) (hl : a.2.2.length ≤ 1000000000000) (K : AV → List AO → Prop) (hK : K (.fz .raw (er E (rerr a))) []) : ACall Tryd.prog (G8 E) 53 [.fz RasT a] [] K :=
  up8 (valid_any E a hl K (fun h => by rw [h] at hK; exact hK) (fun h => by rw [h] at hK; exact hK) (fun h => by rw [h] at hK; exact hK) (fun h => by rw [h] at hK; exact hK))
theorem clone_any (G : List (Nat × Value)) (xs : List Int) (hn : 0 < xs.length) (hl : xs.length ≤ 4294967296) (K : AV → List AO → Prop) (hK : K (.ref 0 0 xs.length) [.row int xs]) :
    ACall Tryd.prog G 54 [.fz (.list int) xs] [] K := by
  refine acall_mk (E := envAt G 8 0) (envOk _ _ _) Tryd.func54 rfl rfl rfl rfl rfl ?_
  (repeat' (first | exact trivial | exact fun h => h | refine And.intro ?_ ?_ | (intro hb; first | (simp at hb; done) | (simp at hb) | skip) | omega | exact rfl | exact Nat.le_refl _ | (show _ + 1 ≤ 4294967296; omega) | (dsimp only; omega) | (show (_ : Int) ≤ (_ : Int); omega) | (show _ < List.length _; simp only [List.length_set, List.length_append, List.length_take]; omega) | (show wantB _ _ = true; simp; done) | (show wantB _ _ = true; simp; omega) | (show (_ : Bool) = _; simp_all; done) | (exfalso; omega) | refine aRegion_auto (by decide +kernel) ?_ | fail))
  refine ⟨.ref 0 0 xs.length, [.row int xs], REnt.ren [1] rfl ?_ ?_, hK⟩
  · (repeat' (first | exact trivial | exact rfl | refine And.intro ?_ ?_))
  · (repeat' (first | exact trivial | exact rfl | refine And.intro ?_ ?_))
    exact congrArg (AV.ref 1 0) (Nat.zero_add xs.length)
end Go.Proofs.YtepkknjncpbahaaDoor
/-
  The program's flood: the walk.
-/
namespace Go.Proofs.YtepkknjncpbahaaDoor
open Go Go.Ab
set_option maxRecDepth 100000
def P1 (w h k i : Nat) : Int := if i < k then (if rimN w h i then 8 else -1) else 0
def fResP (w h : Nat) (a : Ras) : List Int × List Int × List Int := (lst (w * h) (flD w h (hts a)).fill, lst (w * h) (fun i => wayN w i ((flD w h (hts a)).to i)), natL (flD w h (hts a)).ord)
set_option maxHeartbeats 8000000 in
theorem flood_ok (E : Errs) (a : Ras) (hv : rerr a = 0) {w h : Nat} (R : RasN a w h) (K : AV → List AO → Prop) (hK : K (.tup [.fz FT (fResP w h a), .fz .raw .nilIface]) []) :
    ACall Tryd.prog (G8 E) 37 [.fz RasT a] [] K := by
  have hl := R.len
  have hwh := R.wh
  have hpos : 0 < w * h := Nat.mul_pos R.w0 R.h0
  obtain ⟨n, hn⟩ : ∃ n, n = w * h := ⟨_, rfl⟩
  rw [← hn] at hl hwh hpos
  let bA : AO := .box [.fz int a.1, .fz int a.2.1, .fz (.list int) a.2.2]
  let bR : AO := .box [.nilSl, .nilSl, .nilSl]
  let rm : AO := .room
  let Z : AO := .row int (List.replicate a.2.2.length 0)
  let C : AO := .row int a.2.2
  let B1 : AO := .box [.ref 4 0 a.2.2.length, .ref 2 0 a.2.2.length, .nilSl]
  refine acall_mk (E := envAt (G8 E) 119 0) (envOk _ _ _) Tryd.func37 rfl rfl rfl rfl rfl ?_
  (repeat' (first | exact trivial | exact fun h => h | refine And.intro ?_ ?_ | (intro hb; first | (simp at hb; done) | (simp at hb) | skip) | omega | exact rfl | exact Nat.le_refl _ | (show _ + 1 ≤ 4294967296; omega) | (dsimp only; omega) | (show (_ : Int) ≤ (_ : Int); omega) | (show _ < List.length _; simp only [List.length_set, List.length_append, List.length_take]; omega) | (show wantB _ _ = true; simp; done) | (show wantB _ _ = true; simp; omega) | (show (_ : Bool) = _; simp_all; done) | (exfalso; omega) | fail))
  refine acall_conv [.dat RasT] _ _ _ rfl trivial (acall_frame0 rfl (valid1 E a (by omega) _ ?_))
  rw [hv]
  (repeat' (first | exact trivial | exact fun h => h | refine And.intro ?_ ?_ | (intro hb; first | (simp at hb; done) | (simp at hb) | skip) | omega | exact rfl | exact Nat.le_refl _ | (show _ + 1 ≤ 4294967296; omega) | (dsimp only; omega) | (show (_ : Int) ≤ (_ : Int); omega) | (show _ < List.length _; simp only [List.length_set, List.length_append, List.length_take]; omega) | (show wantB _ _ = true; simp; done) | (show wantB _ _ = true; simp; omega) | (show (_ : Bool) = _; simp_all; done) | (exfalso; omega) | fail))
  refine aRegion_open 2 (by decide +kernel) ?_
  (repeat' (first | exact trivial | exact fun h => h | refine And.intro ?_ ?_ | (intro hb; first | (simp at hb; done) | (simp at hb) | skip) | omega | exact rfl | exact Nat.le_refl _ | (show _ + 1 ≤ 4294967296; omega) | (dsimp only; omega) | (show (_ : Int) ≤ (_ : Int); omega) | (show _ < List.length _; simp only [List.length_set, List.length_append, List.length_take]; omega) | (show wantB _ _ = true; simp; done) | (show wantB _ _ = true; simp; omega) | (show (_ : Bool) = _; simp_all; done) | (exfalso; omega) | refine aRegion_auto (by decide +kernel) ?_ | fail))
  refine eff_is (.ref 4 0 a.2.2.length) [bA, bR, rm, rm, C] ?_
  (repeat' (first | exact trivial | exact fun h => h | refine And.intro ?_ ?_ | (intro hb; first | (simp at hb; done) | (simp at hb) | skip) | omega | exact rfl | exact Nat.le_refl _ | (show _ + 1 ≤ 4294967296; omega) | (dsimp only; omega) | (show (_ : Int) ≤ (_ : Int); omega) | (show _ < List.length _; simp only [List.length_set, List.length_append, List.length_take]; omega) | (show wantB _ _ = true; simp; done) | (show wantB _ _ = true; simp; omega) | (show (_ : Bool) = _; simp_all; done) | (exfalso; omega) | refine aRegion_auto (by decide +kernel) ?_ | fail))
  refine eff_is (.ref 2 0 a.2.2.length) [bA, bR, Z, rm, C] ?_
  (repeat' (first | exact trivial | exact fun h => h | refine And.intro ?_ ?_ | (intro hb; first | (simp at hb; done) | (simp at hb) | skip) | omega | exact rfl | exact Nat.le_refl _ | (show _ + 1 ≤ 4294967296; omega) | (dsimp only; omega) | (show (_ : Int) ≤ (_ : Int); omega) | (show _ < List.length _; simp only [List.length_set, List.length_append, List.length_take]; omega) | (show wantB _ _ = true; simp; done) | (show wantB _ _ = true; simp; omega) | (show (_ : Bool) = _; simp_all; done) | (exfalso; omega) | refine aRegion_auto (by decide +kernel) ?_ | fail))
  refine eff_is (.ptr 3 0) [bA, bR, Z, bR, C] ?_
  (repeat' (first | exact trivial | exact fun h => h | refine And.intro ?_ ?_ | (intro hb; first | (simp at hb; done) | (simp at hb) | skip) | omega | exact rfl | exact Nat.le_refl _ | (show _ + 1 ≤ 4294967296; omega) | (dsimp only; omega) | (show (_ : Int) ≤ (_ : Int); omega) | (show _ < List.length _; simp only [List.length_set, List.length_append, List.length_take]; omega) | (show wantB _ _ = true; simp; done) | (show wantB _ _ = true; simp; omega) | (show (_ : Bool) = _; simp_all; done) | (exfalso; omega) | refine aRegion_auto (by decide +kernel) ?_ | fail))
  refine eff_is .unk [bA, bR, Z, B1, C] ?_
  refine ⟨[(0, [bA, bR, rm, rm]), (4, [bA, bR, rm, rm, C]), (64, [bA, bR, Z, rm]), (256, [bA, bR, rm, bR]), (68, [bA, bR, Z, rm, C]), (260, [bA, bR, rm, bR, C]), (320, [bA, bR, Z, bR]), (324, [bA, bR, Z, bR, C]), (836, [bA, bR, Z, B1, C])], rfl, rfl, ?_, ?_⟩
  · (repeat' (first | refine And.intro ?_ ?_ | exact trivial | exact rfl | omega))
    all_goals first
      | (refine view_of [0, 1, 4, 3] rfl ?_ rfl rfl; (repeat' (first | exact trivial | exact rfl | refine And.intro ?_ ?_)); done)
      | (refine view_of [0, 1, 2, 4] rfl ?_ rfl rfl; (repeat' (first | exact trivial | exact rfl | refine And.intro ?_ ?_)); done)
      | (refine view_of [0, 1, 5, 3, 4] rfl ?_ rfl rfl; (repeat' (first | exact trivial | exact rfl | refine And.intro ?_ ?_)); done)
      | (refine view_of [0, 1, 2, 5, 4] rfl ?_ rfl rfl; (repeat' (first | exact trivial | exact rfl | refine And.intro ?_ ?_)); done)
      | (refine view_of [0, 1, 2, 3, 4] rfl ?_ rfl rfl; (repeat' (first | exact trivial | exact rfl | refine And.intro ?_ ?_)); done)
      | (refine acall_frame0 rfl (clone_any _ a.2.2 (by omega) (by omega) _ ?_); refine view_of [0, 1, 2, 3, 4] rfl ?_ rfl rfl; (repeat' (first | exact trivial | exact rfl | refine And.intro ?_ ?_)); done)
  (repeat' (first | exact trivial | exact fun h => h | refine And.intro ?_ ?_ | (intro hb; first | (simp at hb; done) | (simp at hb) | skip) | omega | exact rfl | exact Nat.le_refl _ | (show _ + 1 ≤ 4294967296; omega) | (dsimp only; omega) | (show (_ : Int) ≤ (_ : Int); omega) | (show _ < List.length _; simp only [List.length_set, List.length_append, List.length_take]; omega) | (show wantB _ _ = true; simp; done) | (show wantB _ _ = true; simp; omega) | (show (_ : Bool) = _; simp_all; done) | (exfalso; omega) | refine aRegion_auto (by decide +kernel) ?_ | fail))
  refine ⟨Nat × List P2, fun x => ⟨[(1, .ptr 0 0), (2, .ptr 1 0), (5, .ptr 3 0), (6, .ptr 5 0), (28, .fz int n), (29, .fz int x.1)], [bA, bR, .row int (lst n (P1 w h x.1)), .box [.ref 4 0 n, .ref 2 0 n, .nilSl], .row int (lst n (hts a)), .box [.ref 6 0 x.2.length], .row WT x.2]⟩,
    fun x => x.1 ≤ n ∧ HeapB x.2.length x.2 ∧ AllW x.2 ∧ x.2.Perm (WL x.1 (fun i => decide (rimN w h i)) (hts a)), fun x => n - x.1, (0, []), ⟨Nat.zero_le _, (fun i _ hi => absurd hi (Nat.not_lt_zero _) : HeapB 0 []), (fun p hp => absurd hp (by simp) : AllW []), List.Perm.refl _⟩, (Ent.nilBox 5 0 WT rfl rfl).trans (Ent.sub ?_ ?_), ?_⟩
  · show [bA, bR, .row int (List.replicate a.2.2.length 0), .box [.ref 4 0 a.2.2.length, .ref 2 0 a.2.2.length, .nilSl], .row int a.2.2, .box [.ref 6 0 0], .row WT []] = _
    have e : a.2.2 = lst n (hts a) := by rw [← hl]; exact lst_eq _
    rw [hl, lst_zero]
    (repeat' (first | exact rfl | refine cons_eq ?_ ?_))
    exact congrArg (AO.row int) e
  · (repeat' (first | exact trivial | exact rfl | refine And.intro ?_ ?_))
    exact congrArg (fun z : Nat => AV.fz int (z : Int)) hl
  · rintro ⟨k, xs⟩ ⟨hk, hh, ha, hp⟩
    simp only at hk hh ha hp
    have hT := lst_len n (P1 w h k)
    have hLn := lst_len n (hts a)
    have hxl : xs.length ≤ k := by rw [hp.length_eq]; exact WL_len
    (repeat' (first | exact trivial | exact fun h => h | refine And.intro ?_ ?_ | (intro hb; first | (simp at hb; done) | (simp at hb) | skip) | omega | exact rfl | exact Nat.le_refl _ | (show _ + 1 ≤ 4294967296; omega) | (dsimp only; omega) | (show (_ : Int) ≤ (_ : Int); omega) | (show _ < List.length _; simp only [List.length_set, List.length_append, List.length_take]; omega) | (show wantB _ _ = true; simp; done) | (show wantB _ _ = true; simp; omega) | (show (_ : Bool) = _; simp_all; done) | (exfalso; omega) | refine aRegion_auto (by decide +kernel) ?_ | fail))
    · have hkn : k < n := by assumption
      refine acall_conv [.dat RasT, .keep] _ _ _ rfl trivial (acall_frame0 rfl (rim_any _ a R k (by omega) _ ?_))
      (repeat' (first | exact trivial | exact fun h => h | refine And.intro ?_ ?_ | (intro hb; first | (simp at hb; done) | (simp at hb) | skip) | omega | exact rfl | exact Nat.le_refl _ | (show _ + 1 ≤ 4294967296; omega) | (dsimp only; omega) | (show (_ : Int) ≤ (_ : Int); omega) | (show _ < List.length _; simp only [List.length_set, List.length_append, List.length_take]; omega) | (show wantB _ _ = true; simp; done) | (show wantB _ _ = true; simp; omega) | (show (_ : Bool) = _; simp_all; done) | (exfalso; omega) | refine aRegion_auto (by decide +kernel) ?_ | fail))
      · have hbd := R.at k
        refine acall_frame [5, 6] (hA xs.length xs) [hI, agW (hts a k, (k : Int))] rfl ⟨⟨rfl, rfl⟩, ⟨rfl, trivial⟩, trivial⟩ ⟨rfl, rfl⟩ rfl (heapPush_any _ xs xs.length (hts a k, (k : Int)) (by omega) (Nat.le_refl _) hh ha ?_ _ fun ys e1 e2 e3 e4 => ?_)
        · exact ⟨hbd.1, hbd.2, by show (0 : Int) ≤ k; omega, by show (k : Int) < 65536; omega⟩
        (repeat' (first | exact trivial | exact fun h => h | refine And.intro ?_ ?_ | (intro hb; first | (simp at hb; done) | (simp at hb) | skip) | omega | exact rfl | exact Nat.le_refl _ | (show _ + 1 ≤ 4294967296; omega) | (dsimp only; omega) | (show (_ : Int) ≤ (_ : Int); omega) | (show _ < List.length _; simp only [List.length_set, List.length_append, List.length_take]; omega) | (show wantB _ _ = true; simp; done) | (show wantB _ _ = true; simp; omega) | (show (_ : Bool) = _; simp_all; done) | (exfalso; omega) | refine aRegion_auto (by decide +kernel) ?_ | fail))
        refine ⟨(k + 1, ys), ⟨by show k + 1 ≤ n; omega, by show HeapB ys.length ys; rw [e1]; exact e3, e4, ?_⟩, by show n - (k + 1) < n - k; omega, Ent.ren [0, 1, 2, 3, 4, 5, 7] rfl ?_ ?_⟩
        · rw [List.take_length] at e2
          show ys.Perm (WL (k + 1) _ _)
          rw [WL_succ, if_pos (by simpa using hb)]
          exact e2.trans (hp.append_right _)
        · (repeat' (first | exact trivial | exact rfl | refine And.intro ?_ ?_))
          · refine congrArg some (row_set2 (k := k) (f := P1 w h k) (g := P1 w h (k + 1)) 8 rfl fun i hi => ?_)
            unfold P1
            by_cases e : i = k
            · subst e; rw [if_pos rfl, if_pos (show i < i + 1 by omega), if_pos hb]
            · rw [if_neg e]; by_cases e2 : i < k
              · rw [if_pos e2, if_pos (show i < k + 1 by omega)]
              · rw [if_neg e2, if_neg (show ¬ i < k + 1 by omega)]
          · exact congrArg (fun z => some (AO.box [AV.ref 7 0 z])) (show xs.length + 1 = ys.length from e1.symm)
        · (repeat' (first | exact trivial | exact rfl | refine And.intro ?_ ?_))
      · refine ⟨(k + 1, xs), ⟨by show k + 1 ≤ n; omega, hh, ha, ?_⟩, by show n - (k + 1) < n - k; omega, Ent.sub ?_ ?_⟩
        · show xs.Perm (WL (k + 1) _ _)
          rw [WL_succ, if_neg (by simpa using hb), List.append_nil]
          exact hp
        · (repeat' (first | exact rfl | refine cons_eq ?_ ?_))
          · refine row_set1 (k := k) (f := P1 w h k) (g := P1 w h (k + 1)) (-1) rfl fun i hi => ?_
            unfold P1
            by_cases e : i = k
            · subst e; rw [if_pos rfl, if_pos (show i < i + 1 by omega), if_neg hb]
            · rw [if_neg e]; by_cases e2 : i < k
              · rw [if_pos e2, if_pos (show i < k + 1 by omega)]
              · rw [if_neg e2, if_neg (show ¬ i < k + 1 by omega)]
        · (repeat' (first | exact trivial | exact rfl | refine And.intro ?_ ?_))
    · have hk2 : k = n := by omega
      subst hk2
      (repeat' (first | exact trivial | exact fun h => h | refine And.intro ?_ ?_ | (intro hb; first | (simp at hb; done) | (simp at hb) | skip) | omega | exact rfl | exact Nat.le_refl _ | (show _ + 1 ≤ 4294967296; omega) | (dsimp only; omega) | (show (_ : Int) ≤ (_ : Int); omega) | (show _ < List.length _; simp only [List.length_set, List.length_append, List.length_take]; omega) | (show wantB _ _ = true; simp; done) | (show wantB _ _ = true; simp; omega) | (show (_ : Bool) = _; simp_all; done) | (exfalso; omega) | refine aRegion_auto (by decide +kernel) ?_ | fail))
      refine ⟨Nat × Nat × List P2, fun x => ⟨[(1, .ptr 0 0), (2, .ptr 1 0), (5, .ptr 3 0), (6, .ptr 5 0)], [bA, bR, .row int (lst k (floI w (flN w h (hts a) x.1))), .box [.ref 4 0 k, .ref 2 0 k, .ref 7 0 x.1], .row int (lst k (filI (hts a) (flN w h (hts a) x.1))), .box [.ref 6 0 x.2.1], .row WT x.2.2, .row int (natL (flN w h (hts a) x.1).ord)]⟩,
        fun x => x.1 ≤ k ∧ x.2.1 ≤ x.2.2.length ∧ HeapB x.2.1 x.2.2 ∧ AllW x.2.2 ∧ (x.2.2.take x.2.1).Perm (wts k (flN w h (hts a) x.1)), fun x => k - x.1, (0, xs.length, xs), ⟨Nat.zero_le _, Nat.le_refl _, hh, ha, ?_⟩, (Ent.nilBox 3 2 int rfl rfl).trans (Ent.sub ?_ ?_), ?_⟩
      · show (xs.take xs.length).Perm _
        rw [List.take_length]
        refine hp.trans (List.Perm.of_eq (WL_congr (fun i hi => ?_) (fun i hi hr => ?_)))
        · show decide (rimN w h i) = decide ((if rimN w h i then 1 else 0) = 1)
          by_cases e : rimN w h i <;> simp [e]
        · show hts a i = if rimN w h i then hts a i else 0
          rw [if_pos (by simpa using hr)]
      · (repeat' (first | exact rfl | refine cons_eq ?_ ?_))
        · refine row_lst fun i hi => ?_
          have e0 : (flN w h (hts a) 0).st i = if rimN w h i then 1 else 0 := rfl
          have e1 : (flN w h (hts a) 0).to i = i := rfl
          simp only [P1, floI, e0, e1, if_pos hi, way_self]
          by_cases e : rimN w h i <;> simp [e]
        · refine row_lst fun i hi => ?_
          have e0 : (flN w h (hts a) 0).st i = if rimN w h i then 1 else 0 := rfl
          have e1 : (flN w h (hts a) 0).fill i = if rimN w h i then hts a i else 0 := rfl
          simp only [filI, e0, e1]
          by_cases e : rimN w h i <;> simp [e]
      · (repeat' (first | exact trivial | exact rfl | refine And.intro ?_ ?_))
      clear hh ha hp hxl hT
      rintro ⟨j, m, xs⟩ ⟨hj, hm, hh, ha, hp⟩
      simp only at hj hm hh ha hp
      obtain ⟨I, hol⟩ := flN_ok w h (hts a) R.w0 j (by omega)
      have hol' := natL_len (flN w h (hts a) j).ord
      have hml : m ≤ k := by
        have := hp.length_eq
        rw [List.length_take, Nat.min_eq_left hm] at this
        rw [this]; exact WL_len
      have hT := lst_len k (floI w (flN w h (hts a) j))
      have hF := lst_len k (filI (hts a) (flN w h (hts a) j))
      cases m with
      | zero =>
        have hjk : j = k := by
          apply Decidable.byContradiction
          intro hne
          obtain ⟨b, hb1, hb2, hb3⟩ := @flN_best w h (hts a) R.w0 j (by omega)
          have hmem : ((flN w h (hts a) j).fill b, ((b : Nat) : Int)) ∈ wts k (flN w h (hts a) j) := WL_mem.2 ⟨b, by have := hb2.1; omega, by rw [hb2.2.1]; rfl, rfl⟩
          have := hp.mem_iff.2 hmem
          simp at this
        subst hjk
        have hOl : (natL (flN w h (hts a) j).ord).length = j := by rw [hol', hol]
        (repeat' (first | exact trivial | exact fun h => h | refine And.intro ?_ ?_ | (intro hb; first | (simp at hb; done) | (simp at hb) | skip) | omega | exact rfl | exact Nat.le_refl _ | (show _ + 1 ≤ 4294967296; omega) | (dsimp only; omega) | (show (_ : Int) ≤ (_ : Int); omega) | (show _ < List.length _; simp only [List.length_set, List.length_append, List.length_take]; omega) | (show wantB _ _ = true; simp; done) | (show wantB _ _ = true; simp; omega) | (show (_ : Bool) = _; simp_all; done) | (exfalso; omega) | refine aRegion_auto (by decide +kernel) ?_ | fail))
        refine ⟨_, _, (REnt.conv [.dat FT, .keep] _ rfl ?_).trans (REnt.drop ⟨rfl, rfl⟩), ?_⟩
        · exact ⟨by show 0 + j ≤ _; rw [hF]; omega, by show 0 + j ≤ _; rw [hT]; omega, by show 0 + j ≤ _; rw [hOl]; omega⟩
        · have hall := flD_all w h (hts a) R.w0
          refine (congrArg (fun x => K (.tup [.fz FT x, .fz .raw .nilIface]) []) (?_ : fResP w h a = (List.take j (List.drop 0 (lst j (filI (hts a) (flN w h (hts a) j)))), List.take j (List.drop 0 (lst j (floI w (flN w h (hts a) j)))), List.take j (List.drop 0 (natL (flN w h (hts a) j).ord))))).mp hK
          rw [List.drop_zero, List.drop_zero, List.drop_zero, List.take_of_length_le (by omega), List.take_of_length_le (by omega), List.take_of_length_le (by omega)]
          unfold fResP flD
          unfold flD at hall
          rw [← hn] at hall ⊢
          have e1 : lst j (fun i => wayN w i ((flN w h (hts a) j).to i)) = lst j (floI w (flN w h (hts a) j)) := lst_congr fun i hi => by
            unfold floI; rw [if_neg (by rw [hall i hi]; omega)]
          have e2 : lst j (flN w h (hts a) j).fill = lst j (filI (hts a) (flN w h (hts a) j)) := lst_congr fun i hi => by
            unfold filI; rw [if_neg (by rw [hall i hi]; omega)]
          rw [e1, e2]
      | succ m =>
        have hjk : j < k := by
          apply Decidable.byContradiction
          intro hne
          have : j = k := by omega
          subst this
          have hall := flD_all w h (hts a) R.w0
          have hlen := hp.length_eq
          rw [List.length_take, Nat.min_eq_left hm] at hlen
          have : wts j (flN w h (hts a) j) = [] := by
            rw [List.eq_nil_iff_forall_not_mem]
            intro x hx
            obtain ⟨i, h1, h2, _⟩ := WL_mem.1 hx
            have h3 := hall i (by omega)
            unfold flD at h3
            rw [← hn] at h3
            rw [h3] at h2; simp at h2
          rw [this] at hlen; simp at hlen
        obtain ⟨b, hb1, hb2, hb3⟩ := @flN_best w h (hts a) R.w0 j (by omega)
        (repeat' (first | exact trivial | exact fun h => h | refine And.intro ?_ ?_ | (intro hb; first | (simp at hb; done) | (simp at hb) | skip) | omega | exact rfl | exact Nat.le_refl _ | (show _ + 1 ≤ 4294967296; omega) | (dsimp only; omega) | (show (_ : Int) ≤ (_ : Int); omega) | (show _ < List.length _; simp only [List.length_set, List.length_append, List.length_take]; omega) | (show wantB _ _ = true; simp; done) | (show wantB _ _ = true; simp; omega) | (show (_ : Bool) = _; simp_all; done) | (exfalso; omega) | refine aRegion_auto (by decide +kernel) ?_ | fail))
        refine acall_frame [5, 6] (hA (m + 1) xs) [hI] rfl ⟨⟨rfl, rfl⟩, ⟨rfl, trivial⟩, trivial⟩ ⟨rfl, rfl⟩ rfl (heapPop_any _ xs m (by omega) hm hh ha _ fun ys e1 e2 e3 e4 e5 => ?_)
        obtain ⟨hbk, hbs, _⟩ := id hb2
        rw [← hn] at hb2
        have hbn : b < k := by omega
        have tk : ys.take (m + 1) = ys.take m ++ [at2 ys m] := by
          rw [List.take_succ_eq_append_getElem (by omega)]
          simp [at2, List.getD, show m < ys.length by omega]
        have hpy : (ys.take m ++ [at2 ys m]).Perm (wts k (flN w h (hts a) j)) := by rw [← tk]; exact e2.trans hp
        have xm : at2 ys m = ((flN w h (hts a) j).fill b, ((b : Nat) : Int)) := by
          obtain ⟨i, h1, h2, h3⟩ := WL_mem.1 (hpy.mem_iff.1 (by simp : at2 ys m ∈ ys.take m ++ [at2 ys m]))
          have h2 : (flN w h (hts a) j).st i = 1 := by simpa using h2
          have hmem : ((flN w h (hts a) j).fill b, ((b : Nat) : Int)) ∈ ys.take m ++ [at2 ys m] := hpy.mem_iff.2 (WL_mem.2 ⟨b, hbn, by rw [hbs]; rfl, rfl⟩)
          have hkey : key (at2 ys m) ≤ key ((flN w h (hts a) j).fill b, ((b : Nat) : Int)) := by
            rcases List.mem_append.1 hmem with hmem | hmem
            · obtain ⟨k', hk', he⟩ := List.getElem_of_mem hmem
              have hk2 : k' < m := by simp at hk'; omega
              have hky : key (at2 ys m) ≤ key (at2 ys k') := e5 k' hk2
              have e : at2 ys k' = ((flN w h (hts a) j).fill b, ((b : Nat) : Int)) := by
                rw [← he]; simp [at2, List.getD, show k' < ys.length by omega]
              rw [e] at hky; exact hky
            · simp at hmem; rw [hmem]; exact Int.le_refl _
          rw [h3] at hkey ⊢
          have hib := best_key (w := w) (h := h) (by omega) (by rw [hn] at hb2; exact hb2) (by omega) h2 hkey
          rw [hib]
        have hp0 : (ys.take m).Perm (wts k (flQ w h (hts a) (flN w h (hts a) j) b 0)) := by
          have h1 := wts_take (w := w) (h := h) (L := hts a) (S := (flN w h (hts a) j)) (b := b) (by omega) hbs
          rw [← hn] at h1
          rw [xm] at hpy
          exact List.perm_append_right_iff _ |>.1 (hpy.trans h1)
        have hbW := e4.at m
        rw [xm] at hbW ⊢
        have hmy : m ≤ ys.length := by omega
        clear hp e2 e5 hpy tk ha hh hm
        have hOl : (natL (flN w h (hts a) j).ord).length = j := by rw [hol', hol]
        (repeat' (first | exact trivial | exact fun h => h | refine And.intro ?_ ?_ | (intro hb; first | (simp at hb; done) | (simp at hb) | skip) | omega | exact rfl | exact Nat.le_refl _ | (show _ + 1 ≤ 4294967296; omega) | (dsimp only; omega) | (show (_ : Int) ≤ (_ : Int); omega) | (show _ < List.length _; simp only [List.length_set, List.length_append, List.length_take]; omega) | (show wantB _ _ = true; simp; done) | (show wantB _ _ = true; simp; omega) | (show (_ : Bool) = _; simp_all; done) | (exfalso; omega) | refine aRegion_auto (by decide +kernel) ?_ | fail))
        refine ⟨Nat × Nat × List P2, fun x => ⟨[(1, .ptr 0 0), (2, .ptr 1 0), (5, .ptr 3 0), (6, .ptr 5 0), (8, .ptr 8 0), (67, .fz int x.1)], [bA, bR, .row int (lst k (floI w (flQ w h (hts a) (flN w h (hts a) j) b x.1))), .box [.ref 4 0 k, .ref 2 0 k, .ref 7 0 (j + 1)], .row int (lst k (filI (hts a) (flQ w h (hts a) (flN w h (hts a) j) b x.1))), .box [.ref 6 0 x.2.1], .row WT x.2.2, .row int (natL ((flN w h (hts a) j).ord ++ [b])), .box [.fz int ((flN w h (hts a) j).fill b), .fz int b]]⟩,
          fun x => x.1 ≤ 8 ∧ x.2.1 ≤ x.2.2.length ∧ HeapB x.2.1 x.2.2 ∧ AllW x.2.2 ∧ (x.2.2.take x.2.1).Perm (wts k (flQ w h (hts a) (flN w h (hts a) j) b x.1)), fun x => 8 - x.1, (0, m, ys), ⟨Nat.zero_le _, hmy, e3, e4, hp0⟩, Ent.ren [0, 1, 2, 3, 4, 5, 6, 10, 8] rfl ?_ ?_, ?_⟩
        · (repeat' (first | exact trivial | exact rfl | refine And.intro ?_ ?_))
          · refine congrArg some (row_lst fun i hi => ?_)
            unfold floI; rw [flQ_st, flQ_to, show visB w h b 0 i = false from rfl]
            by_cases hib : i = b
            · subst hib; simp [hbs]
            · simp [hib]
          · refine congrArg some (row_lst fun i hi => ?_)
            unfold filI; rw [flQ_st, flQ_fill, show visB w h b 0 i = false from rfl]
            by_cases hib : i = b
            · subst hib; simp [hbs]
            · simp [hib]
          · refine congrArg (fun l => some (AO.row int l)) (?_ : List.take j (natL (flN w h (hts a) j).ord) ++ [(b : Int)] = natL ((flN w h (hts a) j).ord ++ [b]))
            rw [List.take_of_length_le (by omega)]
            simp [natL]
        · (repeat' (first | exact trivial | exact rfl | refine And.intro ?_ ?_))
        clear xm e1 e3 e4 hp0 hmy ys
        rintro ⟨q, m, ys⟩ ⟨hq, hm, hh, ha, hp⟩
        simp only at hq hm hh ha hp
        have hT := lst_len k (floI w (flQ w h (hts a) (flN w h (hts a) j) b q))
        have hF := lst_len k (filI (hts a) (flQ w h (hts a) (flN w h (hts a) j) b q))
        have hml : m ≤ k := by
          have := hp.length_eq
          rw [List.length_take, Nat.min_eq_left hm] at this
          rw [this]; exact WL_len
        by_cases hq8 : q < 8
        · have skip : (∀ t, nbN w h b q = some t → (flQ w h (hts a) (flN w h (hts a) j) b q).st t ≠ 0) → lst k (floI w (flQ w h (hts a) (flN w h (hts a) j) b q)) = lst k (floI w (flQ w h (hts a) (flN w h (hts a) j) b (q + 1))) ∧ lst k (filI (hts a) (flQ w h (hts a) (flN w h (hts a) j) b q)) = lst k (filI (hts a) (flQ w h (hts a) (flN w h (hts a) j) b (q + 1))) ∧ wts k (flQ w h (hts a) (flN w h (hts a) j) b q) = wts k (flQ w h (hts a) (flN w h (hts a) j) b (q + 1)) := fun h0 =>
            rows_eq fun i hi => by obtain ⟨x1, x2, x3⟩ := flQ_skip (L := hts a) hbs h0 i; exact ⟨x1.symm, x2.symm, x3.symm⟩
          (repeat' (first | exact trivial | exact fun h => h | refine And.intro ?_ ?_ | (intro hb; first | (simp at hb; done) | (simp at hb) | skip) | omega | exact rfl | exact Nat.le_refl _ | (show _ + 1 ≤ 4294967296; omega) | (dsimp only; omega) | (show (_ : Int) ≤ (_ : Int); omega) | (show _ < List.length _; simp only [List.length_set, List.length_append, List.length_take]; omega) | (show wantB _ _ = true; simp; done) | (show wantB _ _ = true; simp; omega) | (show (_ : Bool) = _; simp_all; done) | (exfalso; omega) | refine aRegion_auto (by decide +kernel) ?_ | fail))
          refine acall_conv [.dat RasT, .keep, .keep] _ _ _ rfl trivial (acall_frame0 rfl (neighbour_any _ a R b q (by omega) hq8 _ (fun u hu => ?_) (fun hnone => ?_)))
          · have hun : u < k := by have := (nb_cell (by omega) hu).1; omega
            have g1 : (lst k (floI w (flQ w h (hts a) (flN w h (hts a) j) b q)))[u]?.getD int.dft = floI w (flQ w h (hts a) (flN w h (hts a) j) b q) u := lst_get _ hun
            have g2 := flo_nn (q := q) I (b := b) (by omega) hbs (by omega) (i := u) (by omega)
            have hLu : u < a.2.2.length := by omega
            have pv : ∀ v, List.getD (List.set (lst k (filI (hts a) (flQ w h (hts a) (flN w h (hts a) j) b q))) (0 + Int.toNat (u : Int)) v) (0 + Int.toNat (u : Int)) int.dft = v := fun v => by
              rw [Nat.zero_add, Int.toNat_natCast, List.getD_eq_getElem?_getD, List.getElem?_set_self (by omega)]; rfl
            (repeat' (first | exact trivial | exact fun h => h | refine And.intro ?_ ?_ | (intro hb; first | (simp at hb; done) | (simp at hb) | skip) | omega | exact rfl | exact Nat.le_refl _ | (show _ + 1 ≤ 4294967296; omega) | (dsimp only; omega) | (show (_ : Int) ≤ (_ : Int); omega) | (show _ < List.length _; simp only [List.length_set, List.length_append, List.length_take]; omega) | (show wantB _ _ = true; simp; done) | (show wantB _ _ = true; simp; omega) | (show (_ : Bool) = _; simp_all; done) | (exfalso; omega) | refine aRegion_auto (by decide +kernel) ?_ | fail))
            · obtain ⟨s1, s2, s3⟩ := skip (fun t ht => by rw [hu] at ht; cases ht; exact g2.1 (by omega))
              refine ⟨(q + 1, m, ys), ⟨by show q + 1 ≤ 8; omega, hm, hh, ha, by rw [← s3]; exact hp⟩, by show 8 - (q + 1) < 8 - q; omega, Ent.sub ?_ ?_⟩
              · show [bA, bR, .row int (lst k (floI w (flQ w h (hts a) (flN w h (hts a) j) b q))), .box [.ref 4 0 k, .ref 2 0 k, .ref 7 0 (j + 1)], .row int (lst k (filI (hts a) (flQ w h (hts a) (flN w h (hts a) j) b q))), _, _, _, _] = [bA, bR, .row int (lst k (floI w (flQ w h (hts a) (flN w h (hts a) j) b (q + 1)))), .box [.ref 4 0 k, .ref 2 0 k, .ref 7 0 (j + 1)], .row int (lst k (filI (hts a) (flQ w h (hts a) (flN w h (hts a) j) b (q + 1)))), _, _, _, _]
                rw [s1, s2]
              · (repeat' (first | exact trivial | exact rfl | refine And.intro ?_ ?_))
            · have hst0 : (flQ w h (hts a) (flN w h (hts a) j) b q).st u = 0 := by
                apply Decidable.byContradiction
                intro hne
                have := g2.2 hne
                omega
              have hrow := rows_new (w := w) (h := h) (L := hts a) (S := (flN w h (hts a) j)) (b := b) (q := q) (by omega) hbs hq8 hu hst0
              have hwn := wts_new (w := w) (h := h) (L := hts a) (S := (flN w h (hts a) j)) (b := b) (q := q) (by omega) hbs hq8 hu hst0
              rw [← hn] at hwn
              have hub := R.at u
              (apply exEff; focus (repeat' (first | exact ⟨rfl, rfl⟩ | exact trivial | refine And.intro ?_ ?_ | omega | exact Nat.le_refl _ | (show _ + 1 ≤ 4294967296; omega))))
              (repeat' (first | exact trivial | exact fun h => h | refine And.intro ?_ ?_ | (intro hb; first | (simp at hb; done) | (simp at hb) | skip) | omega | exact rfl | exact Nat.le_refl _ | (show _ + 1 ≤ 4294967296; omega) | (dsimp only; omega) | (show (_ : Int) ≤ (_ : Int); omega) | (show _ < List.length _; simp only [List.length_set, List.length_append, List.length_take]; omega) | (show wantB _ _ = true; simp; done) | (show wantB _ _ = true; simp; omega) | (show (_ : Bool) = _; simp_all; done) | (exfalso; omega) | refine aRegion_auto (by decide +kernel) ?_ | fail))
              refine acall_frame [5, 6] (hA m ys) [hI, agW (max (hts a u) ((flN w h (hts a) j).fill b), (u : Int))] rfl ⟨⟨rfl, rfl⟩, ⟨rfl, trivial⟩, trivial⟩ ⟨rfl, rfl⟩ ?_ (heapPush_any _ ys m (max (hts a u) ((flN w h (hts a) j).fill b), (u : Int)) (by omega) hm hh ha ?_ _ fun zs e1 e2 e3 e4 => ?_)
              · exact congrArg (fun z => [AV.ifc 94 (.ptr 5 0), .ifc 96 (.agg [.fz int z, .fz int u])]) (pv _)
              · unfold okW at hbW ⊢
                simp only at hbW ⊢
                have : hts a u = a.2.2.getD u 0 := rfl
                omega
              · (repeat' (first | exact trivial | exact fun h => h | refine And.intro ?_ ?_ | (intro hb; first | (simp at hb; done) | (simp at hb) | skip) | omega | exact rfl | exact Nat.le_refl _ | (show _ + 1 ≤ 4294967296; omega) | (dsimp only; omega) | (show (_ : Int) ≤ (_ : Int); omega) | (show _ < List.length _; simp only [List.length_set, List.length_append, List.length_take]; omega) | (show wantB _ _ = true; simp; done) | (show wantB _ _ = true; simp; omega) | (show (_ : Bool) = _; simp_all; done) | (exfalso; omega) | refine aRegion_auto (by decide +kernel) ?_ | fail))
                refine ⟨(q + 1, m + 1, zs), ⟨by show q + 1 ≤ 8; omega, by show m + 1 ≤ zs.length; omega, e3, e4, ?_⟩, by show 8 - (q + 1) < 8 - q; omega, Ent.ren [0, 1, 2, 3, 4, 5, 9, 7, 8] rfl ?_ ?_⟩
                · show (zs.take (m + 1)).Perm _
                  rw [List.take_of_length_le (by omega)]
                  exact (e2.trans (hp.append_right _)).trans hwn.symm
                · (repeat' (first | exact trivial | exact rfl | refine And.intro ?_ ?_))
                  · refine congrArg some (row_set1 (k := u) (f := floI w (flQ w h (hts a) (flN w h (hts a) j) b q)) (g := floI w (flQ w h (hts a) (flN w h (hts a) j) b (q + 1))) (((q : Int) + 4) % 8) ?_ fun i hi => (hrow i).1)
                    exact (show Int.tmod ((q : Int) + 4) 8 = ((q : Int) + 4) % 8 from Int.tmod_eq_emod_of_nonneg (by omega))
                  · exact congrArg some (row_set1 (k := u) (f := filI (hts a) (flQ w h (hts a) (flN w h (hts a) j) b q)) (g := filI (hts a) (flQ w h (hts a) (flN w h (hts a) j) b (q + 1))) (max (hts a u) ((flN w h (hts a) j).fill b)) rfl fun i hi => (hrow i).2)
                · (repeat' (first | exact trivial | exact rfl | refine And.intro ?_ ?_))
          · obtain ⟨s1, s2, s3⟩ := skip (fun t ht => by rw [hnone] at ht; cases ht)
            (repeat' (first | exact trivial | exact fun h => h | refine And.intro ?_ ?_ | (intro hb; first | (simp at hb; done) | (simp at hb) | skip) | omega | exact rfl | exact Nat.le_refl _ | (show _ + 1 ≤ 4294967296; omega) | (dsimp only; omega) | (show (_ : Int) ≤ (_ : Int); omega) | (show _ < List.length _; simp only [List.length_set, List.length_append, List.length_take]; omega) | (show wantB _ _ = true; simp; done) | (show wantB _ _ = true; simp; omega) | (show (_ : Bool) = _; simp_all; done) | (exfalso; omega) | refine aRegion_auto (by decide +kernel) ?_ | fail))
            refine ⟨(q + 1, m, ys), ⟨by show q + 1 ≤ 8; omega, hm, hh, ha, by rw [← s3]; exact hp⟩, by show 8 - (q + 1) < 8 - q; omega, Ent.sub ?_ ?_⟩
            · show [bA, bR, .row int (lst k (floI w (flQ w h (hts a) (flN w h (hts a) j) b q))), .box [.ref 4 0 k, .ref 2 0 k, .ref 7 0 (j + 1)], .row int (lst k (filI (hts a) (flQ w h (hts a) (flN w h (hts a) j) b q))), _, _, _, _] = [bA, bR, .row int (lst k (floI w (flQ w h (hts a) (flN w h (hts a) j) b (q + 1)))), .box [.ref 4 0 k, .ref 2 0 k, .ref 7 0 (j + 1)], .row int (lst k (filI (hts a) (flQ w h (hts a) (flN w h (hts a) j) b (q + 1)))), _, _, _, _]
              rw [s1, s2]
            · (repeat' (first | exact trivial | exact rfl | refine And.intro ?_ ?_))
        · have hq8 : q = 8 := by omega
          subst hq8
          (repeat' (first | exact trivial | exact fun h => h | refine And.intro ?_ ?_ | (intro hb; first | (simp at hb; done) | (simp at hb) | skip) | omega | exact rfl | exact Nat.le_refl _ | (show _ + 1 ≤ 4294967296; omega) | (dsimp only; omega) | (show (_ : Int) ≤ (_ : Int); omega) | (show _ < List.length _; simp only [List.length_set, List.length_append, List.length_take]; omega) | (show wantB _ _ = true; simp; done) | (show wantB _ _ = true; simp; omega) | (show (_ : Bool) = _; simp_all; done) | (exfalso; omega) | refine aRegion_auto (by decide +kernel) ?_ | fail))
          have hfin := fun i (hi : i < k) => flQ_end (w := w) (h := h) (L := hts a) (S := (flN w h (hts a) j)) (b := b) (by omega) (i := i) (by omega)
          obtain ⟨s1, s2, s3⟩ := rows_eq (w := w) (L := hts a) (n := k) hfin
          refine ⟨(j + 1, m, ys), ⟨by show j + 1 ≤ k; omega, hm, hh, ha, by show (ys.take m).Perm (wts k (flN w h (hts a) (j + 1))); rw [hb3, ← s3]; exact hp⟩, by show k - (j + 1) < k - j; omega, Ent.ren [0, 1, 2, 3, 4, 5, 6, 7] rfl ?_ ?_⟩
          · (repeat' (first | exact trivial | exact rfl | refine And.intro ?_ ?_))
            · refine congrArg (fun l => some (AO.row int l)) (?_ : lst k (floI w (flQ w h (hts a) (flN w h (hts a) j) b 8)) = lst k (floI w (flN w h (hts a) (j + 1))))
              rw [hb3]; exact s1
            · refine congrArg (fun l => some (AO.row int l)) (?_ : lst k (filI (hts a) (flQ w h (hts a) (flN w h (hts a) j) b 8)) = lst k (filI (hts a) (flN w h (hts a) (j + 1))))
              rw [hb3]; exact s2
            · refine congrArg (fun l => some (AO.row int l)) (?_ : natL ((flN w h (hts a) j).ord ++ [b]) = natL (flN w h (hts a) (j + 1)).ord)
              rw [hb3]; rfl
          · (repeat' (first | exact trivial | exact rfl | refine And.intro ?_ ?_))
end Go.Proofs.YtepkknjncpbahaaDoor
/-
  What the program says of a flood; the document's ways.
-/
namespace Go.Proofs.YtepkknjncpbahaaDoor
open Go Go.Ab
set_option maxRecDepth 100000
def flP (a : Ras) : List Int × List Int × List Int := if rerr a = 0 then fResP a.1.toNat a.2.1.toNat a else ([], [], [])
theorem flP_len (a : Ras) : (flP a).1.length ≤ 1000000000000 ∧ (flP a).2.1.length ≤ 1000000000000 ∧ (flP a).2.2.length ≤ 1000000000000 := by
  unfold flP
  by_cases hv : rerr a = 0
  · rw [if_pos hv]
    have R := RasN.mk' hv
    have := R.wh
    have ho := (flN_ok a.1.toNat a.2.1.toNat (hts a) R.w0 (a.1.toNat * a.2.1.toNat) (Nat.le_refl _)).2
    unfold fResP flD
    simp only [lst_len, natL_len, ho]
    omega
  · rw [if_neg hv]; simp
theorem flood_one (E : Errs) (a : Ras) (hl : a.2.2.length ≤ 1000000000000) (K : AV → List AO → Prop) (hK : K (.tup [.fz FT (flP a), .fz .raw (er E (rerr a))]) []) :
    ACall Tryd.prog (G8 E) 37 [.fz RasT a] [] K := by
  unfold flP at hK
  by_cases hv : rerr a = 0
  · rw [if_pos hv, hv] at hK
    exact flood_ok E a hv (RasN.mk' hv) K hK
  · rw [if_neg hv] at hK
    have h4 := rerr_in a
    refine acall_mk (E := envAt (G8 E) 119 0) (envOk _ _ _) Tryd.func37 rfl rfl rfl rfl rfl ?_
    (repeat' (first | exact trivial | exact fun h => h | refine And.intro ?_ ?_ | (intro hb; first | (simp at hb; done) | (simp at hb) | skip) | omega | exact rfl | exact Nat.le_refl _ | (show _ + 1 ≤ 4294967296; omega) | (dsimp only; omega) | (show (_ : Int) ≤ (_ : Int); omega) | (show _ < List.length _; simp only [List.length_set, List.length_append, List.length_take]; omega) | (show wantB _ _ = true; simp; done) | (show wantB _ _ = true; simp; omega) | (show (_ : Bool) = _; simp_all; done) | (exfalso; omega) | fail))
    refine acall_conv [.dat RasT] _ _ _ rfl trivial (acall_frame0 rfl (valid1 E a hl _ ?_))
    obtain h | h | h | h : rerr a = 1 ∨ rerr a = 2 ∨ rerr a = 3 ∨ rerr a = 4 := by omega
    all_goals
      rw [h] at hK ⊢
      (repeat' (first | exact trivial | exact fun h => h | refine And.intro ?_ ?_ | (intro hb; first | (simp at hb; done) | (simp at hb) | skip) | omega | exact rfl | exact Nat.le_refl _ | (show _ + 1 ≤ 4294967296; omega) | (dsimp only; omega) | (show (_ : Int) ≤ (_ : Int); omega) | (show _ < List.length _; simp only [List.length_set, List.length_append, List.length_take]; omega) | (show wantB _ _ = true; simp; done) | (show wantB _ _ = true; simp; omega) | (show (_ : Bool) = _; simp_all; done) | (exfalso; omega) | fail))
      refine ⟨_, _, (REnt.conv [.dat FT, .keep] _ rfl trivial).trans (REnt.drop ⟨rfl, rfl⟩), ?_⟩
      exact hK
def fillQ (a : Ras) : Ras := if rerr a = 0 then (a.1, a.2.1, (flP a).1) else (0, 0, [])
theorem fill_one (E : Errs) (a : Ras) (hl : a.2.2.length ≤ 1000000000000) (K : AV → List AO → Prop) (hK : K (.tup [.fz RasT (fillQ a), .fz .raw (er E (rerr a))]) []) :
    ACall Tryd.prog (G8 E) 12 [.fz RasT a] [] K := by
  unfold fillQ at hK
  have h4 := rerr_in a
  refine acall_mk (E := envAt (G8 E) 22 0) (envOk _ _ _) Tryd.func12 rfl rfl rfl rfl rfl ?_
  (repeat' (first | exact trivial | exact fun h => h | refine And.intro ?_ ?_ | (intro hb; first | (simp at hb; done) | (simp at hb) | skip) | omega | exact rfl | exact Nat.le_refl _ | (show _ + 1 ≤ 4294967296; omega) | (dsimp only; omega) | (show (_ : Int) ≤ (_ : Int); omega) | (show _ < List.length _; simp only [List.length_set, List.length_append, List.length_take]; omega) | (show wantB _ _ = true; simp; done) | (show wantB _ _ = true; simp; omega) | (show (_ : Bool) = _; simp_all; done) | (exfalso; omega) | fail))
  refine acall_conv [.dat RasT] _ _ _ rfl trivial (acall_frame0 rfl (flood_one E a hl _ ?_))
  obtain h | h | h | h | h : rerr a = 0 ∨ rerr a = 1 ∨ rerr a = 2 ∨ rerr a = 3 ∨ rerr a = 4 := by omega
  all_goals
    rw [h] at hK ⊢
    (repeat' (first | exact trivial | exact fun h => h | refine And.intro ?_ ?_ | (intro hb; first | (simp at hb; done) | (simp at hb) | skip) | omega | exact rfl | exact Nat.le_refl _ | (show _ + 1 ≤ 4294967296; omega) | (dsimp only; omega) | (show (_ : Int) ≤ (_ : Int); omega) | (show _ < List.length _; simp only [List.length_set, List.length_append, List.length_take]; omega) | (show wantB _ _ = true; simp; done) | (show wantB _ _ = true; simp; omega) | (show (_ : Bool) = _; simp_all; done) | (exfalso; omega) | fail))
    refine ⟨_, _, (REnt.conv [.dat RasT, .keep] _ rfl trivial).trans (REnt.drop ⟨rfl, rfl⟩), ?_⟩
    exact hK
theorem flow_one (E : Errs) (a : Ras) (hl : a.2.2.length ≤ 1000000000000) (K : AV → List AO → Prop) (hK : K (.tup [.fz (.list int) (flP a).2.1, .fz .raw (er E (rerr a))]) []) :
    ACall Tryd.prog (G8 E) 18 [.fz RasT a] [] K := by
  refine acall_mk (E := envAt (G8 E) 14 0) (envOk _ _ _) Tryd.func18 rfl rfl rfl rfl rfl ?_
  (repeat' (first | exact trivial | exact fun h => h | refine And.intro ?_ ?_ | (intro hb; first | (simp at hb; done) | (simp at hb) | skip) | omega | exact rfl | exact Nat.le_refl _ | (show _ + 1 ≤ 4294967296; omega) | (dsimp only; omega) | (show (_ : Int) ≤ (_ : Int); omega) | (show _ < List.length _; simp only [List.length_set, List.length_append, List.length_take]; omega) | (show wantB _ _ = true; simp; done) | (show wantB _ _ = true; simp; omega) | (show (_ : Bool) = _; simp_all; done) | (exfalso; omega) | fail))
  refine acall_conv [.dat RasT] _ _ _ rfl trivial (acall_frame0 rfl (flood_one E a hl _ ?_))
  (repeat' (first | exact trivial | exact fun h => h | refine And.intro ?_ ?_ | (intro hb; first | (simp at hb; done) | (simp at hb) | skip) | omega | exact rfl | exact Nat.le_refl _ | (show _ + 1 ≤ 4294967296; omega) | (dsimp only; omega) | (show (_ : Int) ≤ (_ : Int); omega) | (show _ < List.length _; simp only [List.length_set, List.length_append, List.length_take]; omega) | (show wantB _ _ = true; simp; done) | (show wantB _ _ = true; simp; omega) | (show (_ : Bool) = _; simp_all; done) | (exfalso; omega) | fail))
  refine ⟨_, _, REnt.drop ⟨rfl, rfl⟩, ?_⟩
  exact hK
theorem order_one (E : Errs) (a : Ras) (hl : a.2.2.length ≤ 1000000000000) (K : AV → List AO → Prop) (hK : K (.tup [.fz (.list int) (flP a).2.2, .fz .raw (er E (rerr a))]) []) :
    ACall Tryd.prog (G8 E) 19 [.fz RasT a] [] K := by
  refine acall_mk (E := envAt (G8 E) 14 0) (envOk _ _ _) Tryd.func19 rfl rfl rfl rfl rfl ?_
  (repeat' (first | exact trivial | exact fun h => h | refine And.intro ?_ ?_ | (intro hb; first | (simp at hb; done) | (simp at hb) | skip) | omega | exact rfl | exact Nat.le_refl _ | (show _ + 1 ≤ 4294967296; omega) | (dsimp only; omega) | (show (_ : Int) ≤ (_ : Int); omega) | (show _ < List.length _; simp only [List.length_set, List.length_append, List.length_take]; omega) | (show wantB _ _ = true; simp; done) | (show wantB _ _ = true; simp; omega) | (show (_ : Bool) = _; simp_all; done) | (exfalso; omega) | fail))
  refine acall_conv [.dat RasT] _ _ _ rfl trivial (acall_frame0 rfl (flood_one E a hl _ ?_))
  (repeat' (first | exact trivial | exact fun h => h | refine And.intro ?_ ?_ | (intro hb; first | (simp at hb; done) | (simp at hb) | skip) | omega | exact rfl | exact Nat.le_refl _ | (show _ + 1 ≤ 4294967296; omega) | (dsimp only; omega) | (show (_ : Int) ≤ (_ : Int); omega) | (show _ < List.length _; simp only [List.length_set, List.length_append, List.length_take]; omega) | (show wantB _ _ = true; simp; done) | (show wantB _ _ = true; simp; omega) | (show (_ : Bool) = _; simp_all; done) | (exfalso; omega) | fail))
  refine ⟨_, _, REnt.drop ⟨rfl, rfl⟩, ?_⟩
  exact hK
theorem wayOf_any (G : List (Nat × Value)) (a : Ras) {w h : Nat} (R : RasN a w h) (i t : Nat) (hi : i < w * h) (ht : t < w * h) (K : AV → List AO → Prop) (hK : K (.fz int (wayN w i t)) []) :
    ACall Tryd.prog G 23 [.fptr RasT a, .fz int i, .fz int t] [] K := by
  have w1 := R.w1
  have h1 := R.h1
  have wz := R.wide
  have w0 := R.w0
  obtain ⟨c, r, m1, d1, l1, l2, c1, r1, _⟩ := cell_at R hi
  obtain ⟨c', r', m2, d2, l3, l4, c2, r2, _⟩ := cell_at R ht
  unfold wayN wayXY at hK
  rw [c1, r1, c2, r2] at hK
  have hz : a.1 ≠ 0 := by omega
  have m3 : (i : Int) % a.1 = c := by rw [wz]; exact congrArg (fun n : Nat => (n : Int)) c1
  have d3 : (i : Int) / a.1 = r := by rw [wz]; exact congrArg (fun n : Nat => (n : Int)) r1
  have m4 : (t : Int) % a.1 = c' := by rw [wz]; exact congrArg (fun n : Nat => (n : Int)) c2
  have d4 : (t : Int) / a.1 = r' := by rw [wz]; exact congrArg (fun n : Nat => (n : Int)) r2
  have kI : ∀ {x y : Int}, K (.fz int x) [] → x = y → K (.fz int y) [] := fun h e => e ▸ h
  refine acall_mk (E := envAt G 49 0) (envOk _ _ _) Tryd.func23 rfl rfl rfl rfl rfl ?_
  (repeat' (first | exact trivial | exact fun h => h | refine And.intro ?_ ?_ | (intro hb; first | (simp at hb; done) | (simp at hb) | skip) | omega | exact rfl | exact Nat.le_refl _ | (show _ + 1 ≤ 4294967296; omega) | (dsimp only; omega) | (show (_ : Int) ≤ (_ : Int); omega) | (show _ < List.length _; simp only [List.length_set, List.length_append, List.length_take]; omega) | (show wantB _ _ = true; simp; done) | (show wantB _ _ = true; simp; omega) | (show (_ : Bool) = _; simp_all; done) | (exfalso; omega) | refine aRegion_auto (by decide +kernel) ?_ | fail))
  all_goals
    refine ⟨_, _, REnt.drop ⟨rfl, rfl⟩, ?_⟩
    refine kI hK ?_
    repeat' split
    all_goals first | omega | rfl | (show _ = (4 : Int) - (Int.tdiv (i : Int) a.1 - Int.tdiv (t : Int) a.1); omega)
end Go.Proofs.YtepkknjncpbahaaDoor
/-
  Where all water goes: the order of the flood, and the rim's cell to which each one goes.
-/
namespace Go.Proofs.YtepkknjncpbahaaDoor
open Go Go.Ab
set_option maxRecDepth 100000
/-- what one flows to was taken ahead of it -/
theorem flN_pos (w h : Nat) (L : Nat → Int) (hw : 0 < w) : ∀ k, k ≤ w * h → ∀ i, i < w * h → (flN w h L k).st i = 2 → (flN w h L k).to i ≠ i → (flN w h L k).ord.idxOf ((flN w h L k).to i) < (flN w h L k).ord.idxOf i
  | 0, _, i, _, h2, _ => by
    have e : (flN w h L 0).st i = if rimN w h i then 1 else 0 := rfl
    rw [e] at h2; split at h2 <;> omega
  | k + 1, hk, i, hi, h2, hne => by
    obtain ⟨I, hol⟩ := flN_ok w h L hw k (by omega)
    obtain ⟨b, _, hb2, hb3⟩ := @flN_best w h L hw k (by omega)
    obtain ⟨b1, b2, _⟩ := hb2
    rw [hb3] at h2 hne ⊢
    have s : (flS w L (flN w h L k) b).st i = if i = b then 2 else if touchN w b i ∧ (flN w h L k).st i = 0 then 1 else (flN w h L k).st i := rfl
    have t : (flS w L (flN w h L k) b).to i = if touchN w b i ∧ (flN w h L k).st i = 0 then b else (flN w h L k).to i := rfl
    have o : (flS w L (flN w h L k) b).ord = (flN w h L k).ord ++ [b] := rfl
    have hbm : b ∉ (flN w h L k).ord := fun hm => by have := (I.ordin b).1 hm; omega
    rw [s] at h2
    rw [t] at hne ⊢
    rw [o]
    by_cases hib : i = b
    · subst hib
      rw [if_neg (by omega)] at hne ⊢
      rcases I.src i hi (by omega) with ⟨_, h, _⟩ | ⟨_, _, h3, h4, _⟩
      · exact absurd h hne
      · have hm : (flN w h L k).to i ∈ (flN w h L k).ord := (I.ordin _).2 ⟨h3, h4⟩
        rw [List.idxOf_append, if_pos hm, List.idxOf_append, if_neg hbm]
        have := List.idxOf_lt_length_of_mem hm
        omega
    · rw [if_neg hib] at h2
      by_cases hc : touchN w b i ∧ (flN w h L k).st i = 0
      · rw [if_pos hc] at h2; omega
      · rw [if_neg hc] at h2 hne ⊢
        have hmi : i ∈ (flN w h L k).ord := (I.ordin i).2 ⟨hi, h2⟩
        rcases I.src i hi (by omega) with ⟨_, h, _⟩ | ⟨_, _, h3, h4, _⟩
        · exact absurd h hne
        · have hm : (flN w h L k).to i ∈ (flN w h L k).ord := (I.ordin _).2 ⟨h3, h4⟩
          rw [List.idxOf_append, if_pos hm, List.idxOf_append, if_pos hmi]
          exact flN_pos w h L hw k (by omega) i hi h2 hne
/-- all of a flood that is over -/
structure FlowN (w h : Nat) (to : Nat → Nat) (ord : List Nat) : Prop where
  len : ord.length = w * h
  nodup : ord.Nodup
  mem : ∀ i, i ∈ ord ↔ i < w * h
  lt : ∀ i, i < w * h → to i < w * h
  pos : ∀ i, i < w * h → to i ≠ i → ord.idxOf (to i) < ord.idxOf i
  touch : ∀ i, i < w * h → to i ≠ i → touchN w (to i) i
  rim : ∀ i, i < w * h → (to i = i ↔ rimN w h i)
theorem flowN (w h : Nat) (L : Nat → Int) (hw : 0 < w) : FlowN w h (flD w h L).to (flD w h L).ord := by
  obtain ⟨I, hl⟩ := flN_ok w h L hw (w * h) (Nat.le_refl _)
  have hall := flD_all w h L hw
  refine ⟨hl, I.nodup, fun i => ⟨fun hi => ((I.ordin i).1 hi).1, fun hi => (I.ordin i).2 ⟨hi, hall i hi⟩⟩, fun i hi => ?_, fun i hi hne => flN_pos w h L hw _ (Nat.le_refl _) i hi (hall i hi) hne, fun i hi hne => ?_, fun i hi => ?_⟩
  all_goals rcases I.src i hi (by have := hall i hi; unfold flD at this; omega) with ⟨h1, h2, _⟩ | ⟨h1, h2, h3, _⟩
  · unfold flD; omega
  · exact h3
  · exact absurd h2 hne
  · exact h2
  · exact ⟨fun _ => h1, fun _ => h2⟩
  · exact ⟨fun e => absurd e h2.1, fun h => absurd h h1⟩
/-- by so many steps -/
def homeF (to : Nat → Nat) : Nat → Nat → Nat
  | 0, i => i
  | f + 1, i => if to i = i then i else homeF to f (to i)
def homeN (w h : Nat) (to : Nat → Nat) (i : Nat) : Nat := homeF to (w * h) i
section
variable {w h : Nat} {to : Nat → Nat} {ord : List Nat}
theorem FlowN.idx (F : FlowN w h to ord) {i : Nat} (hi : i < w * h) : ord.idxOf i < w * h := by
  rw [← F.len]; exact List.idxOf_lt_length_of_mem ((F.mem i).2 hi)
theorem FlowN.fuel (F : FlowN w h to ord) : ∀ p i, i < w * h → ord.idxOf i ≤ p → ∀ f g, p < f → p < g → homeF to f i = homeF to g i := by
  intro p
  induction p with
  | zero =>
    intro i hi hp f g hf hg
    obtain ⟨f, rfl⟩ : ∃ f', f = f' + 1 := ⟨f - 1, by omega⟩
    obtain ⟨g, rfl⟩ : ∃ g', g = g' + 1 := ⟨g - 1, by omega⟩
    unfold homeF
    by_cases e : to i = i
    · rw [if_pos e, if_pos e]
    · have := F.pos i hi e; omega
  | succ p ih =>
    intro i hi hp f g hf hg
    obtain ⟨f, rfl⟩ : ∃ f', f = f' + 1 := ⟨f - 1, by omega⟩
    obtain ⟨g, rfl⟩ : ∃ g', g = g' + 1 := ⟨g - 1, by omega⟩
    unfold homeF
    by_cases e : to i = i
    · rw [if_pos e, if_pos e]
    · rw [if_neg e, if_neg e]
      have := F.pos i hi e
      exact ih (to i) (F.lt i hi) (by omega) f g (by omega) (by omega)
theorem FlowN.home_rim (_F : FlowN w h to ord) {i : Nat} (hi : i < w * h) (e : to i = i) : homeN w h to i = i := by
  unfold homeN
  obtain ⟨n, hn⟩ : ∃ n, w * h = n + 1 := ⟨w * h - 1, by omega⟩
  rw [hn]; unfold homeF; rw [if_pos e]
theorem FlowN.home_to (F : FlowN w h to ord) {i : Nat} (hi : i < w * h) : homeN w h to i = homeN w h to (to i) := by
  by_cases e : to i = i
  · rw [e]
  · have hp := F.pos i hi e
    have hx := F.idx hi
    unfold homeN
    obtain ⟨n, hn⟩ : ∃ n, w * h = n + 1 := ⟨w * h - 1, by omega⟩
    have h1 : homeF to (n + 1) i = homeF to n (to i) := by rw [homeF, if_neg e]
    rw [hn, h1]
    exact F.fuel (ord.idxOf (to i)) (to i) (F.lt i hi) (Nat.le_refl _) n (n + 1) (by omega) (by omega)
theorem FlowN.home_lt (F : FlowN w h to ord) : ∀ p i, i < w * h → ord.idxOf i ≤ p → homeN w h to i < w * h := by
  intro p
  induction p with
  | zero =>
    intro i hi hp
    by_cases e : to i = i
    · rw [F.home_rim hi e]; exact hi
    · have := F.pos i hi e; omega
  | succ p ih =>
    intro i hi hp
    by_cases e : to i = i
    · rw [F.home_rim hi e]; exact hi
    · rw [F.home_to hi]
      have := F.pos i hi e
      exact ih (to i) (F.lt i hi) (by omega)
end
end Go.Proofs.YtepkknjncpbahaaDoor
/-
  Basins: the walks.
-/
namespace Go.Proofs.YtepkknjncpbahaaDoor
open Go Go.Ab
set_option maxRecDepth 100000
def stepI (W : Int) : Nat → Int
  | 0 => 1 | 1 => 1 - W | 2 => 0 - W | 3 => -1 - W | 4 => -1 | 5 => W - 1 | 6 => W | 7 => W + 1 | _ => 0
theorem step_eq (W : Int) {v : Nat} (hv : v < 8) : stepI W v = dY v * W + dX v := by
  obtain rfl | rfl | rfl | rfl | rfl | rfl | rfl | rfl : v = 0 ∨ v = 1 ∨ v = 2 ∨ v = 3 ∨ v = 4 ∨ v = 5 ∨ v = 6 ∨ v = 7 := by omega
  all_goals (simp only [stepI, dX, dY]; omega)
theorem step_nb {w h i v n : Nat} (hi : i < w * h) (hv : v < 8) (hn : nbN w h i v = some n) : (i : Int) + stepI w v = n := by
  obtain ⟨h0, h1, h2⟩ := nb_cell hi hn
  have e1 : (i : Int) = ((i / w : Nat) : Int) * w + ((i % w : Nat) : Int) := by
    rw [← Int.natCast_mul, ← Int.natCast_add, Nat.mul_comm, Nat.div_add_mod]
  have e2 : (n : Int) = ((n / w : Nat) : Int) * w + ((n % w : Nat) : Int) := by
    rw [← Int.natCast_mul, ← Int.natCast_add, Nat.mul_comm, Nat.div_add_mod]
  rw [e2, h1, h2, step_eq _ hv, Int.add_mul]
  omega
theorem step_any (G : List (Nat × Value)) (a : Ras) (v : Nat) (hv : v < 8) (hW : 0 ≤ a.1 ∧ a.1 ≤ 128) (K : AV → List AO → Prop) (hK : K (.fz int (stepI a.1 v)) []) :
    ACall Tryd.prog G 44 [.fz RasT a, .fz int v] [] K := by
  obtain rfl | rfl | rfl | rfl | rfl | rfl | rfl | rfl : v = 0 ∨ v = 1 ∨ v = 2 ∨ v = 3 ∨ v = 4 ∨ v = 5 ∨ v = 6 ∨ v = 7 := by omega
  all_goals
    simp only [stepI] at hK
    refine acall_mk (E := envAt G 25 0) (envOk _ _ _) Tryd.func44 rfl rfl rfl rfl rfl ?_
    (repeat' (first | exact trivial | exact fun h => h | refine And.intro ?_ ?_ | (intro hb; first | (simp at hb; done) | (simp at hb) | skip) | omega | exact rfl | exact Nat.le_refl _ | (show _ + 1 ≤ 4294967296; omega) | (dsimp only; omega) | (show (_ : Int) ≤ (_ : Int); omega) | (show _ < List.length _; simp only [List.length_set, List.length_append, List.length_take]; omega) | (show wantB _ _ = true; simp; done) | (show wantB _ _ = true; simp; omega) | (show (_ : Bool) = _; simp_all; done) | (exfalso; omega) | refine aRegion_auto (by decide +kernel) ?_ | fail))
    refine ⟨_, _, REnt.drop ⟨rfl, rfl⟩, ?_⟩
    exact hK
def basO (n : Nat) (w h : Nat) (to : Nat → Nat) (ord : List Nat) (k : Nat) (i : Nat) : Int := if ord.idxOf i < k then (homeN w h to i : Nat) else 0
def basQ (a : Ras) : List Int := if rerr a = 0 then lst (a.1.toNat * a.2.1.toNat) (fun i => ((homeN a.1.toNat a.2.1.toNat (flD a.1.toNat a.2.1.toNat (hts a)).to i : Nat) : Int)) else []
theorem natL_get (l : List Nat) {k : Nat} (hk : k < l.length) : (natL l)[k]?.getD int.dft = (l[k] : Nat) := by simp [natL, hk]
set_option maxHeartbeats 4000000 in
theorem basins_ok (E : Errs) (a : Ras) (hv : rerr a = 0) {w h : Nat} (R : RasN a w h) (ew : a.1.toNat = w) (eh : a.2.1.toNat = h) (K : AV → List AO → Prop) (hK : K (.tup [.fz (.list int) (lst (w * h) (fun i => ((homeN w h (flD w h (hts a)).to i : Nat) : Int))), .fz .raw .nilIface]) []) :
    ACall Tryd.prog (G8 E) 25 [.fz RasT a] [] K := by
  have hl := R.len
  have hwh := R.wh
  have F := flowN w h (hts a) R.w0
  have wz := R.wide
  have w1 := R.w1
  obtain ⟨n, hn⟩ : ∃ n, n = w * h := ⟨_, rfl⟩
  have eF : flP a = (lst (w * h) (flD w h (hts a)).fill, lst (w * h) (fun i => wayN w i ((flD w h (hts a)).to i)), natL (flD w h (hts a)).ord) := by
    unfold flP; rw [if_pos hv, ew, eh]; rfl
  generalize (flD w h (hts a)).to = to at *
  generalize (flD w h (hts a)).ord = ord at *
  rw [← hn] at hl hwh eF hK
  have hol : (natL ord).length = n := by rw [natL_len, F.len, hn]
  have hFl := lst_len n (fun i => wayN w i (to i))
  let bA : AO := .box [.fz int a.1, .fz int a.2.1, .fz (.list int) a.2.2]
  refine acall_mk (E := envAt (G8 E) 58 0) (envOk _ _ _) Tryd.func25 rfl rfl rfl rfl rfl ?_
  (repeat' (first | exact trivial | exact fun h => h | refine And.intro ?_ ?_ | (intro hb; first | (simp at hb; done) | (simp at hb) | skip) | omega | exact rfl | exact Nat.le_refl _ | (show _ + 1 ≤ 4294967296; omega) | (dsimp only; omega) | (show (_ : Int) ≤ (_ : Int); omega) | (show _ < List.length _; simp only [List.length_set, List.length_append, List.length_take]; omega) | (show wantB _ _ = true; simp; done) | (show wantB _ _ = true; simp; omega) | (show (_ : Bool) = _; simp_all; done) | (exfalso; omega) | fail))
  refine acall_conv [.dat RasT] _ _ _ rfl trivial (acall_frame0 rfl (order_one E a (by omega) _ ?_))
  rw [hv, eF]
  (repeat' (first | exact trivial | exact fun h => h | refine And.intro ?_ ?_ | (intro hb; first | (simp at hb; done) | (simp at hb) | skip) | omega | exact rfl | exact Nat.le_refl _ | (show _ + 1 ≤ 4294967296; omega) | (dsimp only; omega) | (show (_ : Int) ≤ (_ : Int); omega) | (show _ < List.length _; simp only [List.length_set, List.length_append, List.length_take]; omega) | (show wantB _ _ = true; simp; done) | (show wantB _ _ = true; simp; omega) | (show (_ : Bool) = _; simp_all; done) | (exfalso; omega) | fail))
  refine acall_conv [.dat RasT] _ _ _ rfl trivial (acall_frame0 rfl (flow_one E a (by omega) _ ?_))
  rw [hv, eF]
  (repeat' (first | exact trivial | exact fun h => h | refine And.intro ?_ ?_ | (intro hb; first | (simp at hb; done) | (simp at hb) | skip) | omega | exact rfl | exact Nat.le_refl _ | (show _ + 1 ≤ 4294967296; omega) | (dsimp only; omega) | (show (_ : Int) ≤ (_ : Int); omega) | (show _ < List.length _; simp only [List.length_set, List.length_append, List.length_take]; omega) | (show wantB _ _ = true; simp; done) | (show wantB _ _ = true; simp; omega) | (show (_ : Bool) = _; simp_all; done) | (exfalso; omega) | fail))
  refine ⟨Nat, fun k => ⟨[(1, .ptr 0 0), (6, .fz (.list int) (lst n (fun i => wayN w i (to i)))), (8, .ref 1 0 n), (29, .fz (.list int) (natL ord)), (30, .fz int n), (31, .fz int k)], [bA, .row int (lst n (basO n w h to ord k))]⟩, fun k => k ≤ n, fun k => n - k, 0, Nat.zero_le _, Ent.sub ?_ ?_, ?_⟩
  · show [bA, .row int (List.replicate a.2.2.length 0)] = _
    rw [hl, lst_zero]
    (repeat' (first | exact rfl | refine cons_eq ?_ ?_))
  · (repeat' (first | exact trivial | exact rfl | refine And.intro ?_ ?_))
    · exact congrArg (AV.ref 1 0) hl
    · exact congrArg (fun z : Nat => AV.fz int (z : Int)) hol
  intro k hk
  have hB := lst_len n (basO n w h to ord k)
  by_cases hkn : k < n
  · have hko : k < ord.length := by rw [F.len]; omega
    obtain ⟨c, hc⟩ : ∃ c, c = ord[k] := ⟨_, rfl⟩
    have hcm : c ∈ ord := by rw [hc]; exact List.getElem_mem _
    have hcn : c < n := by have := (F.mem c).1 hcm; omega
    have hci : ord.idxOf c = k := by rw [hc]; exact F.nodup.idxOf_getElem k hko
    have g1 : List.getD (natL ord) (Int.toNat (k : Int)) int.dft = (c : Int) := by
      rw [Int.toNat_natCast, List.getD_eq_getElem?_getD, natL_get ord hko, ← hc]
    have g2 : List.getD (lst n (fun i => wayN w i (to i))) (Int.toNat (c : Int)) int.dft = wayN w c (to c) := lst_at _ hcn
    have g1' : (natL ord)[k]?.getD int.dft = (c : Int) := by rw [natL_get ord hko, ← hc]
    have g2' : (lst n (fun i => wayN w i (to i)))[c]?.getD int.dft = wayN w c (to c) := lst_get _ hcn
    have hlast : ∀ i, i < n → i ≠ c → basO n w h to ord (k + 1) i = basO n w h to ord k i := fun i hi hne => by
      unfold basO
      have : ord.idxOf i ≠ k := fun e => hne (by
        have hm : i ∈ ord := (F.mem i).2 (by omega)
        have := List.getElem_idxOf (List.idxOf_lt_length_of_mem hm)
        rw [hc, ← this]; congr 1)
      by_cases e : ord.idxOf i < k
      · rw [if_pos e, if_pos (by omega)]
      · rw [if_neg e, if_neg (by omega)]
    have hself : basO n w h to ord (k + 1) c = (homeN w h to c : Nat) := by unfold basO; rw [if_pos (by omega)]
    by_cases hto : to c = c
    · have hw8 : wayN w c (to c) = 8 := by rw [hto, way_self]
      (repeat' (first | exact trivial | exact fun h => h | refine And.intro ?_ ?_ | (intro hb; first | (simp at hb; done) | (simp at hb) | skip) | omega | exact rfl | exact Nat.le_refl _ | (show _ + 1 ≤ 4294967296; omega) | (dsimp only; omega) | (show (_ : Int) ≤ (_ : Int); omega) | (show _ < List.length _; simp only [List.length_set, List.length_append, List.length_take]; omega) | (show wantB _ _ = true; simp; done) | (show wantB _ _ = true; simp; omega) | (show (_ : Bool) = _; simp_all; done) | (exfalso; omega) | fail))
      · exfalso
        apply hb
        rw [g1', Int.toNat_natCast, g2', hw8]
      · refine ⟨k + 1, by show k + 1 ≤ n; omega, by show n - (k + 1) < n - k; omega, Ent.sub ?_ ?_⟩
        · (repeat' (first | exact rfl | refine cons_eq ?_ ?_))
          rw [g1]
          refine row_set1 (k := c) (f := basO n w h to ord k) (g := basO n w h to ord (k + 1)) (c : Int) rfl fun i hi => ?_
          by_cases e : i = c
          · subst e; rw [if_pos rfl, hself, F.home_rim (by omega) hto]
          · rw [if_neg e, hlast i hi e]
        · (repeat' (first | exact trivial | exact rfl | refine And.intro ?_ ?_))
    · obtain ⟨v, hv8, hwv, hnb⟩ := way_to (w := w) (h := h) (i := c) (t := to c) (by omega) (by have := F.lt c (by omega); omega) (touchN_symm (F.touch c (by omega) hto))
      have htn := F.lt c (by omega)
      have hs := step_nb (by omega) hv8 hnb
      rw [← wz] at hs
      (repeat' (first | exact trivial | exact fun h => h | refine And.intro ?_ ?_ | (intro hb; first | (simp at hb; done) | (simp at hb) | skip) | omega | exact rfl | exact Nat.le_refl _ | (show _ + 1 ≤ 4294967296; omega) | (dsimp only; omega) | (show (_ : Int) ≤ (_ : Int); omega) | (show _ < List.length _; simp only [List.length_set, List.length_append, List.length_take]; omega) | (show wantB _ _ = true; simp; done) | (show wantB _ _ = true; simp; omega) | (show (_ : Bool) = _; simp_all; done) | (exfalso; omega) | fail))
      · rw [g1, g2, hwv]
        refine acall_conv [.dat RasT, .keep] _ _ _ rfl trivial (acall_frame0 rfl (step_any _ a v hv8 (by omega) _ ?_))
        (repeat' (first | exact trivial | exact fun h => h | refine And.intro ?_ ?_ | (intro hb; first | (simp at hb; done) | (simp at hb) | skip) | omega | exact rfl | exact Nat.le_refl _ | (show _ + 1 ≤ 4294967296; omega) | (dsimp only; omega) | (show (_ : Int) ≤ (_ : Int); omega) | (show _ < List.length _; simp only [List.length_set, List.length_append, List.length_take]; omega) | (show wantB _ _ = true; simp; done) | (show wantB _ _ = true; simp; omega) | (show (_ : Bool) = _; simp_all; done) | (exfalso; omega) | fail))
        refine ⟨k + 1, by show k + 1 ≤ n; omega, by show n - (k + 1) < n - k; omega, Ent.sub ?_ ?_⟩
        · (repeat' (first | exact rfl | refine cons_eq ?_ ?_))
          refine row_set2 (k := c) (f := basO n w h to ord k) (g := basO n w h to ord (k + 1)) (homeN w h to c : Nat) ?_ fun i hi => ?_
          · show List.getD (List.set (lst n (basO n w h to ord k)) (0 + Int.toNat (c : Int)) _) (0 + Int.toNat ((c : Int) + stepI a.1 v)) int.dft = _
            rw [hs, Nat.zero_add, Nat.zero_add, Int.toNat_natCast, Int.toNat_natCast, List.getD_eq_getElem?_getD, List.getElem?_set_ne (Ne.symm hto), lst_get _ (by omega)]
            unfold basO
            have := F.pos c (by omega) hto
            rw [if_pos (by omega), F.home_to (i := c) (by omega)]
          · by_cases e : i = c
            · subst e; rw [if_pos rfl, hself]
            · rw [if_neg e, hlast i hi e]
        · (repeat' (first | exact trivial | exact rfl | refine And.intro ?_ ?_))
      · exfalso
        rw [g1', Int.toNat_natCast, g2', hwv] at hb
        omega
  · have hkn : k = n := by omega
    subst hkn
    (repeat' (first | exact trivial | exact fun h => h | refine And.intro ?_ ?_ | (intro hb; first | (simp at hb; done) | (simp at hb) | skip) | omega | exact rfl | exact Nat.le_refl _ | (show _ + 1 ≤ 4294967296; omega) | (dsimp only; omega) | (show (_ : Int) ≤ (_ : Int); omega) | (show _ < List.length _; simp only [List.length_set, List.length_append, List.length_take]; omega) | (show wantB _ _ = true; simp; done) | (show wantB _ _ = true; simp; omega) | (show (_ : Bool) = _; simp_all; done) | (exfalso; omega) | fail))
    refine ⟨_, _, (REnt.conv [.dat (.list int), .keep] _ rfl ?_).trans (REnt.drop ⟨rfl, rfl⟩), ?_⟩
    · show 0 + k ≤ _
      omega
    · refine (congrArg (fun l => K (.tup [.fz (.list int) l, .fz .raw .nilIface]) []) (?_ : lst k (fun i => ((homeN w h to i : Nat) : Int)) = List.take k (List.drop 0 (lst k (basO k w h to ord k))))).mp hK
      rw [List.drop_zero, List.take_of_length_le (by omega)]
      refine lst_congr fun i hi => ?_
      unfold basO
      rw [if_pos (by have := F.idx (i := i) (by omega); omega)]
theorem basins_one (E : Errs) (a : Ras) (hl : a.2.2.length ≤ 1000000000000) (K : AV → List AO → Prop) (hK : K (.tup [.fz (.list int) (basQ a), .fz .raw (er E (rerr a))]) []) :
    ACall Tryd.prog (G8 E) 25 [.fz RasT a] [] K := by
  unfold basQ at hK
  by_cases hv : rerr a = 0
  · rw [if_pos hv, hv] at hK
    exact basins_ok E a hv (RasN.mk' hv) rfl rfl K hK
  · rw [if_neg hv] at hK
    have h4 := rerr_in a
    refine acall_mk (E := envAt (G8 E) 58 0) (envOk _ _ _) Tryd.func25 rfl rfl rfl rfl rfl ?_
    (repeat' (first | exact trivial | exact fun h => h | refine And.intro ?_ ?_ | (intro hb; first | (simp at hb; done) | (simp at hb) | skip) | omega | exact rfl | exact Nat.le_refl _ | (show _ + 1 ≤ 4294967296; omega) | (dsimp only; omega) | (show (_ : Int) ≤ (_ : Int); omega) | (show _ < List.length _; simp only [List.length_set, List.length_append, List.length_take]; omega) | (show wantB _ _ = true; simp; done) | (show wantB _ _ = true; simp; omega) | (show (_ : Bool) = _; simp_all; done) | (exfalso; omega) | fail))
    refine acall_conv [.dat RasT] _ _ _ rfl trivial (acall_frame0 rfl (order_one E a hl _ ?_))
    obtain h | h | h | h : rerr a = 1 ∨ rerr a = 2 ∨ rerr a = 3 ∨ rerr a = 4 := by omega
    all_goals
      rw [h] at hK ⊢
      (repeat' (first | exact trivial | exact fun h => h | refine And.intro ?_ ?_ | (intro hb; first | (simp at hb; done) | (simp at hb) | skip) | omega | exact rfl | exact Nat.le_refl _ | (show _ + 1 ≤ 4294967296; omega) | (dsimp only; omega) | (show (_ : Int) ≤ (_ : Int); omega) | (show _ < List.length _; simp only [List.length_set, List.length_append, List.length_take]; omega) | (show wantB _ _ = true; simp; done) | (show wantB _ _ = true; simp; omega) | (show (_ : Bool) = _; simp_all; done) | (exfalso; omega) | fail))
      refine ⟨_, _, (REnt.conv [.dat (.list int), .keep] _ rfl trivial).trans (REnt.drop ⟨rfl, rfl⟩), ?_⟩
      exact hK
/-! ### the document's -/
theorem homeOf_any (G : List (Nat × Value)) (fl : List Int × List Int × List Int) {w h : Nat} {to : Nat → Nat} {ord : List Nat} (F : FlowN w h to ord) (_hwh : w * h ≤ 16384) (hf : fl.2.1 = lst (w * h) (fun i => ((to i : Nat) : Int))) (i : Nat) (hi : i < w * h) (K : AV → List AO → Prop) (hK : K (.fz int (homeN w h to i : Nat)) []) :
    ACall Tryd.prog G 45 [.fz FT fl, .fz int i] [] K := by
  have hlen : fl.2.1.length = w * h := by rw [hf]; exact lst_len _ _
  refine acall_mk (E := envAt G 18 0) (envOk _ _ _) Tryd.func45 rfl rfl rfl rfl rfl ?_
  (repeat' (first | exact trivial | exact fun h => h | refine And.intro ?_ ?_ | (intro hb; first | (simp at hb; done) | (simp at hb) | skip) | omega | exact rfl | exact Nat.le_refl _ | (show _ + 1 ≤ 4294967296; omega) | (dsimp only; omega) | (show (_ : Int) ≤ (_ : Int); omega) | (show _ < List.length _; simp only [List.length_set, List.length_append, List.length_take]; omega) | (show wantB _ _ = true; simp; done) | (show wantB _ _ = true; simp; omega) | (show (_ : Bool) = _; simp_all; done) | (exfalso; omega) | fail))
  refine ⟨Nat, fun c => ⟨[(1, .fz int c), (2, .ptr 0 0)], [.box [.fz (.list int) fl.1, .fz (.list int) fl.2.1, .fz (.list int) fl.2.2]]⟩, fun c => c < w * h ∧ homeN w h to c = homeN w h to i, fun c => ord.idxOf c, i, ⟨hi, rfl⟩, Ent.sub rfl ?_, ?_⟩
  · (repeat' (first | exact trivial | exact rfl | refine And.intro ?_ ?_))
  intro c ⟨hc, he⟩
  have g1 : List.getD fl.2.1 (Int.toNat (c : Int)) int.dft = ((to c : Nat) : Int) := by rw [hf]; exact lst_at (fun i => ((to i : Nat) : Int)) hc
  have g1' : fl.2.1[c]?.getD int.dft = ((to c : Nat) : Int) := by rw [hf]; exact lst_get (fun i => ((to i : Nat) : Int)) hc
  have ht := F.lt c hc
  (repeat' (first | exact trivial | exact fun h => h | refine And.intro ?_ ?_ | (intro hb; first | (simp at hb; done) | (simp at hb) | skip) | omega | exact rfl | exact Nat.le_refl _ | (show _ + 1 ≤ 4294967296; omega) | (dsimp only; omega) | (show (_ : Int) ≤ (_ : Int); omega) | (show _ < List.length _; simp only [List.length_set, List.length_append, List.length_take]; omega) | (show wantB _ _ = true; simp; done) | (show wantB _ _ = true; simp; omega) | (show (_ : Bool) = _; simp_all; done) | (exfalso; omega) | fail))
  · have hne : to c ≠ c := fun e => hb (by rw [g1', e])
    rw [g1]
    refine ⟨to c, ⟨ht, by rw [← F.home_to hc]; exact he⟩, F.pos c hc hne, Ent.sub rfl ?_⟩
    (repeat' (first | exact trivial | exact rfl | refine And.intro ?_ ?_))
  · have e : to c = c := by omega
    refine ⟨_, _, REnt.drop ⟨rfl, rfl⟩, ?_⟩
    rw [← he, F.home_rim hc e] at hK
    exact hK
theorem homes_any (G : List (Nat × Value)) (a : Ras) (fl : List Int × List Int × List Int) {w h : Nat} {to : Nat → Nat} {ord : List Nat} (F : FlowN w h to ord) (hwh : w * h ≤ 16384) (hl : a.2.2.length = w * h) (hf : fl.2.1 = lst (w * h) (fun i => ((to i : Nat) : Int))) (K : AV → List AO → Prop) (hK : K (.fz (.list int) (lst (w * h) (fun i => ((homeN w h to i : Nat) : Int)))) []) :
    ACall Tryd.prog G 27 [.fptr RasT a, .fz FT fl] [] K := by
  refine acall_mk (E := envAt G 23 0) (envOk _ _ _) Tryd.func27 rfl rfl rfl rfl rfl ?_
  (repeat' (first | exact trivial | exact fun h => h | refine And.intro ?_ ?_ | (intro hb; first | (simp at hb; done) | (simp at hb) | skip) | omega | exact rfl | exact Nat.le_refl _ | (show _ + 1 ≤ 4294967296; omega) | (dsimp only; omega) | (show (_ : Int) ≤ (_ : Int); omega) | (show _ < List.length _; simp only [List.length_set, List.length_append, List.length_take]; omega) | (show wantB _ _ = true; simp; done) | (show wantB _ _ = true; simp; omega) | (show (_ : Bool) = _; simp_all; done) | (exfalso; omega) | fail))
  refine ⟨Nat, fun k => ⟨[(0, .fptr RasT a), (3, .ptr 0 0), (5, .ref 1 0 k), (6, .fz int k)], [.box [.fz (.list int) fl.1, .fz (.list int) fl.2.1, .fz (.list int) fl.2.2], .row int (lst k (fun i => ((homeN w h to i : Nat) : Int)))]⟩, fun k => k ≤ w * h, fun k => w * h - k, 0, Nat.zero_le _, (Ent.nil 5 int rfl).trans (Ent.sub rfl ?_), ?_⟩
  · (repeat' (first | exact trivial | exact rfl | refine And.intro ?_ ?_))
  intro k hk
  have hB := lst_len k (fun i => ((homeN w h to i : Nat) : Int))
  (repeat' (first | exact trivial | exact fun h => h | refine And.intro ?_ ?_ | (intro hb; first | (simp at hb; done) | (simp at hb) | skip) | omega | exact rfl | exact Nat.le_refl _ | (show _ + 1 ≤ 4294967296; omega) | (dsimp only; omega) | (show (_ : Int) ≤ (_ : Int); omega) | (show _ < List.length _; simp only [List.length_set, List.length_append, List.length_take]; omega) | (show wantB _ _ = true; simp; done) | (show wantB _ _ = true; simp; omega) | (show (_ : Bool) = _; simp_all; done) | (exfalso; omega) | fail))
  · have hkn : k < w * h := by omega
    refine acall_conv [.dat FT, .keep] _ _ _ rfl trivial (acall_frame0 rfl (homeOf_any G fl F hwh hf k hkn _ ?_))
    (repeat' (first | exact trivial | exact fun h => h | refine And.intro ?_ ?_ | (intro hb; first | (simp at hb; done) | (simp at hb) | skip) | omega | exact rfl | exact Nat.le_refl _ | (show _ + 1 ≤ 4294967296; omega) | (dsimp only; omega) | (show (_ : Int) ≤ (_ : Int); omega) | (show _ < List.length _; simp only [List.length_set, List.length_append, List.length_take]; omega) | (show wantB _ _ = true; simp; done) | (show wantB _ _ = true; simp; omega) | (show (_ : Bool) = _; simp_all; done) | (exfalso; omega) | fail))
    refine ⟨k + 1, by show k + 1 ≤ w * h; omega, by show w * h - (k + 1) < w * h - k; omega, Ent.ren [0, 3] rfl ?_ ?_⟩
    · (repeat' (first | exact trivial | exact rfl | refine And.intro ?_ ?_))
      refine congrArg (fun l => some (AO.row int l)) (?_ : List.take k (lst k (fun i => ((homeN w h to i : Nat) : Int))) ++ [((homeN w h to k : Nat) : Int)] = lst (k + 1) (fun i => ((homeN w h to i : Nat) : Int)))
      rw [List.take_of_length_le (by omega)]
      unfold lst; rw [List.range_succ, List.map_append]; rfl
    · (repeat' (first | exact trivial | exact rfl | refine And.intro ?_ ?_))
  · have hkn : k = w * h := by omega
    subst hkn
    refine ⟨_, _, (REnt.conv1 (.dat (.list int)) _ rfl ?_).trans (REnt.drop ⟨rfl, rfl⟩), ?_⟩
    · show 0 + _ ≤ _
      omega
    · refine (congrArg (fun l => K (.fz (.list int) l) []) (?_ : _ = List.take (w * h) (List.drop 0 (lst (w * h) (fun i => ((homeN w h to i : Nat) : Int)))))).mp hK
      rw [List.drop_zero, List.take_of_length_le (by omega)]
end Go.Proofs.YtepkknjncpbahaaDoor
/-
  What holds of code holds of code within a round of a range over a function (no defer in it).
-/
namespace Go.Ab
open Go
/-- the wide fence, in a round or in none -/
def FR (r : Option Nat) : Fence := { Fence.wide with round := r }
theorem calls_in {r : Option Nat} {n : Nat} {P : Program} {f : FuncId} {args : Array Value} {w : World} {R : Ending → World → Prop} (h : Calls P f args w R) : CallsIn (FR r) n P f args w R :=
  ⟨trivial, (callsIn_wide (n := n) |>.2 h).2⟩
theorem rows_in {r : Option Nat} {n : Nat} {P : Program} {row : String} {args : Array Value} {w : World} {R : Value → World → Prop} (h : Rows P row args w R) : RowsIn (FR r) n P row args w R :=
  fun c cs _ => let ⟨v, w', q, s⟩ := h c cs; ⟨v, w', q, stepsIn_wide.2 s⟩
def noDef (o : Oper) : Bool := match o.op with
  | .defer _ => false
  | _ => true
theorem noDef_ne {o : Oper} (h : noDef o = true) : ∀ c, o.op ≠ .defer c := fun c e => by unfold noDef at h; rw [e] at h; cases h
theorem op_in {r : Option Nat} {n : Nat} {P : Program} {o : Oper} {a : Act} {w : World} {K : Act → World → Prop} {Q : Exit → Act → World → Prop} (hd : noDef o = true) (h : o.wp P a w K Q) : o.wpIn (FR r) n P a w K Q := by
  unfold Oper.wp at h
  unfold Oper.wpIn
  refine ⟨fun _ _ => trivial, ?_⟩
  rw [show (FR r).round = r from rfl, Oper.semAt_eq r _ _ (noDef_ne hd)]
  generalize (execOp a.eval o).run P w = x at *
  cases x with
  | ok nx w' =>
    cases nx <;> simp only [Oper.upon, Oper.uponIn] at h ⊢ <;> first | exact h | exact ⟨(fun hh => by cases hh), calls_in h⟩ | exact ⟨(fun hh => by cases hh), rows_in h⟩
  | halt x w' => cases x <;> simp only [Oper.upon, Oper.uponIn] at h ⊢ <;> exact h
theorem wpOp_in {r : Option Nat} {n : Nat} {P : Program} {ops : Array Oper} {Q : Exit → Act → World → Prop} {i : Nat} {K K' : Act → World → Prop} {a : Act} {w : World} (hd : ∀ o, ops[i]? = some o → noDef o = true) (hQ : ¬ LetsOut Q) (hK : ∀ a w, K a w → K' a w) (h : wpOp P ops Q i K a w) : wpOpIn (FR r) n P ops Q i K' a w := by
  unfold wpOp at h
  unfold wpOpIn
  cases ho : ops[i]? with
  | none => rw [ho] at h; exact hK _ _ h
  | some o =>
    rw [ho] at h
    simp only at h ⊢
    by_cases hw : Region.wanted o (yielded ops a.tmps) = true
    · rw [if_pos hw] at h ⊢
      rcases h with h | ⟨_, h⟩
      · exact op_in (hd o ho) (Oper.wp_mono hK h)
      · exact absurd h hQ
    · rw [if_neg hw] at h ⊢
      exact ⟨fun _ _ => trivial, hK _ _ h⟩
theorem wpOps_in {r : Option Nat} {n : Nat} {P : Program} {ops : Array Oper} {Q : Exit → Act → World → Prop} (hd : ∀ (i : Nat) (o : Oper), ops[i]? = some o → noDef o = true) (hQ : ¬ LetsOut Q) : ∀ (l : List Nat) (a : Act) (w : World), wpOps P ops Q l a w → wpOpsIn (FR r) n P ops Q l a w
  | [], _, _, h => h
  | i :: rest, a, w, h => by
    rw [wpOps_cons] at h
    rw [wpOpsIn_cons]
    exact wpOp_in (hd i) hQ (fun a w h => wpOps_in hd hQ rest a w h) h
theorem wpAny_in {r : Option Nat} {n : Nat} {P : Program} {md : Region.Mode} {ops : Array Oper} {Q : Exit → Act → World → Prop} (hd : ∀ (i : Nat) (o : Oper), ops[i]? = some o → noDef o = true) (hQ : ¬ LetsOut Q) : ∀ (fuel : Nat) (listed : Array Bool) (a : Act) (w : World), wpAny P md ops Q fuel listed a w → wpAnyIn (FR r) n P md ops Q fuel listed a w
  | 0, _, _, _, h => h
  | fuel + 1, _, _, _, h => ⟨h.1, fun i hi => wpOp_in (hd i) hQ (fun a w h => wpAny_in hd hQ fuel _ a w h) (h.2 i hi)⟩
/-- no deferred call stands in this code -/
def ndC : Code → Bool
  | .region _ ⟨L⟩ _ => L.all noDef
  | .seq x y => ndC x && ndC y
  | .cond _ x y => ndC x && ndC y
  | .block _ c => ndC c
  | .loop c => ndC c
  | _ => true
/-- how a region is left: ahead -/
def onlyN (Q : Exit → Act → World → Prop) : Exit → Act → World → Prop
  | .normal, a, w => Q .normal a w
  | _, _, _ => False
theorem onlyN_out (Q : Exit → Act → World → Prop) : ¬ LetsOut (onlyN Q) := fun ⟨_, _, h⟩ => h
theorem onlyN_to {Q : Exit → Act → World → Prop} : ∀ e a w, onlyN Q e a w → Q e a w
  | .normal, _, _, h => h
theorem awp_sound_in {E : Env} (ok : EnvOk E) (r : Option Nat) (n : Nat) (c0 : Cx) (hG : c0.G = E.G) : ∀ (c : Code), ndC c = true → ∀ (Q : Exit → St → Prop) (σ : St) (a : Act) (w : World), awp E c Q σ → Sim E.n0 c0 E.N σ a w → c.wpIn (FR r) n E.P (Post E c0 Q) a w := by
  intro c
  induction c with
  | skip => intro _ Q σ a w h hs; exact wpIn_skip ⟨σ, h, hs⟩
  | label l => intro _ Q σ a w h hs; exact wpIn_label ⟨σ, h, hs⟩
  | exit id => intro _ Q σ a w h hs; exact wpIn_exit ⟨σ, h, hs⟩
  | goto l => intro _ Q σ a w h hs; exact wpIn_goto ⟨σ, h, hs⟩
  | ret => intro _ Q σ a w h hs; exact wpIn_ret ⟨σ, h, hs⟩
  | refuse s => intro _ Q σ a w h hs; exact h.elim
  | scope c _ => intro _ Q σ a w h hs; exact h.elim
  | rangeFunc f ps x y _ _ => intro _ Q σ a w h hs; exact h.elim
  | region id ops draw =>
    intro hnd Q σ a w h hs
    obtain ⟨L⟩ := ops
    have hnd : L.all noDef = true := hnd
    have hd : ∀ i o, (⟨L⟩ : Array Oper)[i]? = some o → noDef o = true := fun i o ho => List.all_eq_true.1 hnd o (by
      have := Array.mem_of_getElem? ho
      simpa using this)
    obtain ⟨P, D, G, N, n0, cuts⟩ := E
    have main : ∀ (T : List (Nat × AV)) (A : List AO), aReg P D G N L draw T A (fun T A => Q .normal ⟨T, A⟩) → Sim n0 c0 N ⟨T, A⟩ a w → (Code.region id ⟨L⟩ draw).wpIn (FR r) n P (Post ⟨P, D, G, N, n0, cuts⟩ c0 Q) a w := by
      intro T A h hs
      refine wpIn_mono ?_ (onlyN_to (Q := Post ⟨P, D, G, N, n0, cuts⟩ c0 Q))
      cases draw with
      | false =>
        obtain ⟨c, rfl, hA, H, hT, hE, hd', hN⟩ := hs
        have h : aOps P D G N L L T A (fun T A => Q .normal ⟨T, A⟩) := h
        have hA : c.A = A := hA
        have hG : c0.G = G := hG
        rw [← hA, ← hG] at h
        have := aOps_sound (Qc := onlyN (Post ⟨P, D, G, N, n0, cuts⟩ c0 Q)) ok.tab L 0 T c a (fun j => by simp) H hT hE hd' hN h fun c' a' T' H' hT' hE' hd' hN' hQ => ⟨⟨T', c'.A⟩, hQ, c', rfl, rfl, H', hT', hE', hd', hN'⟩
        refine wpIn_region (wpOps_in hd (onlyN_out _) _ _ _ ?_)
        rw [List.range_eq_range']
        simpa using this
      | true =>
        refine wpIn_region_any ok.mix (wpAny_in hd (onlyN_out _) _ _ _ _ ?_)
        obtain ⟨c, hw, hA, H, hT, hE, hd', hN⟩ := sim_heap (E := ⟨P, D, G, N, n0, cuts⟩) (w' := { w with drawn := w.drawn + 1 }) hs rfl ⟨rfl, rfl, rfl⟩
        rw [← hw]
        have h : aRegion P D G N L T A (fun T A => Q .normal ⟨T, A⟩) := h
        have hA : c.A = A := hA
        have hG : c0.G = G := hG
        rw [← hA, ← hG] at h
        have := aRegion_sound (Qc := onlyN (Post ⟨P, D, G, N, n0, cuts⟩ c0 Q)) ok.tab H hT hE hd' hN h fun c' a' T' H' hT' hE' hd' hN' hQ => ⟨⟨T', c'.A⟩, hQ, c', rfl, rfl, H', hT', hE', hd', hN'⟩
        simpa using this
    obtain ⟨T, A⟩ := σ
    unfold awp at h
    simp only at h
    split at h
    · exact main T A h hs
    · obtain ⟨T', A', he, h⟩ := h
      refine main T' A' h ?_
      obtain ⟨cx, hw, hA, H, hT, hE, hd, hN⟩ := hs
      obtain ⟨c', k1, k2, k3, k4, k5⟩ := he cx H hA hE.le.len _ hT
      exact ⟨c', k1.trans hw, k4, k3, k5, hE.trans k2, hd, hN⟩
  | seq x y ihx ihy =>
    intro hnd Q σ a w h hs
    unfold ndC at hnd
    simp only [Bool.and_eq_true] at hnd
    refine wpIn_seq (wpIn_mono (ihx hnd.1 _ σ a w h hs) fun e a' w' ⟨σ', hq, hs'⟩ => ?_)
    cases e with
    | normal => exact ihy hnd.2 Q σ' a' w' hq hs'
    | _ => exact ⟨σ', hq, hs'⟩
  | cond c x y ihx ihy =>
    intro hnd Q σ a w h hs
    unfold ndC at hnd
    simp only [Bool.and_eq_true] at hnd
    unfold awp at h
    split at h
    · rename_i b hb
      obtain ⟨cx, rfl, hA, H, hT, hE, hd, hN⟩ := hs
      have hv := hT.ev (a := a) c
      rw [hb] at hv
      refine wpIn_cond_split (rel_bool.1 hv) (fun ht => ihx hnd.1 Q σ a _ (h.1 ht) ⟨cx, rfl, hA, H, hT, hE, hd, hN⟩) (fun hf => ihy hnd.2 Q σ a _ (h.2 hf) ⟨cx, rfl, hA, H, hT, hE, hd, hN⟩)
    · exact h.elim
  | block id c ih =>
    intro hnd Q σ a w h hs
    refine wpIn_block (wpIn_mono (ih hnd _ σ a w h hs) fun e a' w' ⟨σ', hq, hs'⟩ => ?_)
    cases e with
    | exit i =>
      show if i = id then _ else _
      have hq : (match Nat.beq i id with | true => Q .normal σ' | false => Q (.exit i) σ') := hq
      by_cases hi : i = id
      · rw [if_pos hi]
        have : Nat.beq i id = true := by rw [hi]; simp
        rw [this] at hq; exact ⟨σ', hq, hs'⟩
      · rw [if_neg hi]
        have : Nat.beq i id = false := by
          cases hb : Nat.beq i id with
          | false => rfl
          | true => exact absurd (beq_eq hb) hi
        rw [this] at hq; exact ⟨σ', hq, hs'⟩
    | _ => exact ⟨σ', hq, hs'⟩
  | loop c ih =>
    intro hnd Q σ a w h hs
    obtain ⟨ι, S, I, μ, i0, h0, he, hround⟩ := h
    have ent : ∀ {σ σ' : St} {a : Act} {w : World}, Ent E.n0 σ σ' → Sim E.n0 c0 E.N σ a w → Sim E.n0 c0 E.N σ' a w := by
      intro σ σ' a w he ⟨cx, hw, hA, H, hT, hE, hd, hN⟩
      obtain ⟨c', k1, k2, k3, k4, k5⟩ := he cx H hA hE.le.len _ hT
      exact ⟨c', k1.trans hw, k4, k3, k5, hE.trans k2, hd, hN⟩
    let M : Act → World → Nat := fun a w => Classical.epsilon fun n => (∃ i, I i ∧ Sim E.n0 c0 E.N (S i) a w ∧ μ i = n) ∧ ∀ i, I i → Sim E.n0 c0 E.N (S i) a w → n ≤ μ i
    have hM : ∀ a w, (∃ i, I i ∧ Sim E.n0 c0 E.N (S i) a w) → (∃ i, I i ∧ Sim E.n0 c0 E.N (S i) a w ∧ μ i = M a w) ∧ ∀ i, I i → Sim E.n0 c0 E.N (S i) a w → M a w ≤ μ i := by
      intro a w ⟨i, hi, hsi⟩
      have : ∃ n, (∃ i, I i ∧ Sim E.n0 c0 E.N (S i) a w ∧ μ i = n) ∧ ∀ i, I i → Sim E.n0 c0 E.N (S i) a w → n ≤ μ i := by
        obtain ⟨m, ⟨j, j1, j2, j3⟩, hm⟩ := least_of (p := fun n => ∃ i, I i ∧ Sim E.n0 c0 E.N (S i) a w ∧ μ i = n) (μ i) ⟨i, hi, hsi, rfl⟩
        refine ⟨m, ⟨j, j1, j2, j3⟩, fun i' hi' hs' => ?_⟩
        rcases Nat.lt_or_ge (μ i') m with h | h
        · exact absurd ⟨i', hi', hs', rfl⟩ (hm _ h)
        · exact h
      exact Classical.epsilon_spec this
    refine wpIn_loop (fun a w => ∃ i, I i ∧ Sim E.n0 c0 E.N (S i) a w) M ⟨i0, h0, ent he hs⟩ fun a w hI => ?_
    obtain ⟨⟨i, hi, hsi, hμ⟩, _⟩ := hM a w hI
    refine wpIn_mono (ih hnd _ (S i) a w (hround i hi) hsi) fun e a' w' ⟨σ', hq, hs'⟩ => ?_
    cases e with
    | normal =>
      obtain ⟨j, hj, hlt, hej⟩ := hq
      have hsj := ent hej hs'
      refine ⟨⟨j, hj, hsj⟩, ?_⟩
      have := (hM a' w' ⟨j, hj, hsj⟩).2 j hj hsj
      omega
    | _ => exact ⟨σ', hq, hs'⟩
end Go.Ab
/-
  Code that has marks beside it (behind a range over a function): loads and assignments alone.
-/
namespace Go.Ab
open Go
def wd (a : Act) (ds : List Deferred) : Act := { a with defers := ds }
theorem wd_put (a : Act) (ds : List Deferred) (d : Option Tmp) (v : Value) : (wd a ds).put d v = wd (a.put d v) ds := by cases d <;> rfl
theorem wd_eval (a : Act) (ds : List Deferred) : (wd a ds).eval = a.eval := by funext o; cases o <;> rfl
def calmO (o : Oper) : Bool := match o.op with
  | .move _ => true
  | .assign _ => true
  | .load _ _ => true
  | .fieldAddr _ _ _ => true
  | _ => false
theorem calm_run {o : Oper} (h : calmO o = true) (ρ : Operand → Value) : ∃ s : Sem Value, execOp ρ o = (do pure (.value (← s))) ∧ noDef o = true := by
  unfold calmO at h
  unfold execOp noDef
  cases ho : o.op <;> rw [ho] at h <;> first | cases h | skip
  case move x => exact ⟨pure (ρ x), by simp, rfl⟩
  case assign x => exact ⟨pure (ρ x), by simp, rfl⟩
  case load t x => exact ⟨_, rfl, rfl⟩
  case fieldAddr s x f => exact ⟨_, rfl, rfl⟩
theorem op_ds {n : Nat} {P : Program} {o : Oper} {a : Act} {w : World} {ds : List Deferred} {K K' : Act → World → Prop} {Q Q' : Exit → Act → World → Prop} (hd : calmO o = true) (hK : ∀ a w, K a w → K' (wd a ds) w) (hQ : ∀ e a w, ¬ e = .normal → ¬ Q e a w) (h : o.wp P a w K Q) : o.wpIn (FR none) n P (wd a ds) w K' Q' := by
  obtain ⟨s, hs, hnd⟩ := calm_run hd a.eval
  unfold Oper.wp at h
  unfold Oper.wpIn
  refine ⟨fun _ _ => trivial, ?_⟩
  rw [show (FR none).round = none from rfl, Oper.semAt_eq none _ _ (noDef_ne hnd), wd_eval, hs]
  rw [hs] at h
  simp only [Sem.run_bind, Sem.run_pure] at h ⊢
  cases hx : s.run P w with
  | ok v w' =>
    rw [hx] at h
    simp only [Result.andThen_ok, Oper.upon, Oper.uponIn] at h ⊢
    rw [wd_put]; exact hK _ _ h
  | halt x w' =>
    rw [hx] at h
    cases x <;> simp only [Result.andThen, Oper.upon, Oper.uponIn] at h ⊢
    exact absurd h (hQ _ _ _ (by simp))
theorem wpOps_ds {n : Nat} {P : Program} {ops : Array Oper} {Q Q' : Exit → Act → World → Prop} {ds : List Deferred} (hd : ∀ (i : Nat) (o : Oper), ops[i]? = some o → calmO o = true) (hQ : ∀ e a w, ¬ e = .normal → ¬ Q e a w) (hN : ∀ a w, Q .normal a w → Q' .normal (wd a ds) w) : ∀ (l : List Nat) (a : Act) (w : World), wpOps P ops Q l a w → wpOpsIn (FR none) n P ops Q' l (wd a ds) w
  | [], _, _, h => hN _ _ h
  | i :: rest, a, w, h => by
    rw [wpOps_cons] at h
    rw [wpOpsIn_cons]
    unfold wpOp at h
    unfold wpOpIn
    cases ho : ops[i]? with
    | none => rw [ho] at h; exact wpOps_ds hd hQ hN rest _ _ h
    | some o =>
      rw [ho] at h
      simp only at h ⊢
      by_cases hw : Region.wanted o (yielded ops a.tmps) = true
      · rw [if_pos hw] at h
        rw [if_pos (show Region.wanted o (yielded ops (wd a ds).tmps) = true from hw)]
        rcases h with h | ⟨_, a', w', h⟩
        · exact op_ds (hd i o ho) (fun a w h => wpOps_ds hd hQ hN rest a w h) hQ h
        · exact absurd h (hQ _ _ _ (by simp))
      · rw [if_neg hw] at h
        rw [if_neg (show ¬ Region.wanted o (yielded ops (wd a ds).tmps) = true from hw), wd_put]
        exact ⟨fun _ _ => trivial, wpOps_ds hd hQ hN rest _ _ h⟩
def calmC : Code → Bool
  | .skip => true
  | .ret => true
  | .region _ ⟨L⟩ false => L.all calmO
  | .seq x y => calmC x && calmC y
  | _ => false
def PostD (E : Env) (c0 : Cx) (Q : Exit → St → Prop) (ds : List Deferred) : Exit → Act → World → Prop := fun e a w => ∃ a0, a = wd a0 ds ∧ Post E c0 Q e a0 w
theorem awp_sound_ds {E : Env} (ok : EnvOk E) (ds : List Deferred) (n : Nat) (c0 : Cx) (hG : c0.G = E.G) : ∀ (c : Code), calmC c = true → ∀ (Q : Exit → St → Prop) (σ : St) (a : Act) (w : World), awp E c Q σ → Sim E.n0 c0 E.N σ a w → c.wpIn (FR none) n E.P (PostD E c0 Q ds) (wd a ds) w := by
  intro c
  induction c with
  | skip => intro _ Q σ a w h hs; exact wpIn_skip ⟨a, rfl, σ, h, hs⟩
  | ret => intro _ Q σ a w h hs; exact wpIn_ret ⟨a, rfl, σ, h, hs⟩
  | seq x y ihx ihy =>
    intro hnd Q σ a w h hs
    unfold calmC at hnd
    simp only [Bool.and_eq_true] at hnd
    refine wpIn_seq (wpIn_mono (ihx hnd.1 _ σ a w h hs) fun e a' w' ⟨a0, ha, σ', hq, hs'⟩ => ?_)
    cases e with
    | normal => subst ha; exact ihy hnd.2 Q σ' a0 w' hq hs'
    | _ => exact ⟨a0, ha, σ', hq, hs'⟩
  | region id ops draw =>
    intro hnd Q σ a w h hs
    obtain ⟨L⟩ := ops
    cases draw with
    | true => cases hnd
    | false =>
      have hnd : L.all calmO = true := hnd
      have hd : ∀ (i : Nat) (o : Oper), (⟨L⟩ : Array Oper)[i]? = some o → calmO o = true := fun i o ho => List.all_eq_true.1 hnd o (by
        have := Array.mem_of_getElem? ho
        simpa using this)
      obtain ⟨P, D, G, N, n0, cuts⟩ := E
      have main : ∀ (T : List (Nat × AV)) (A : List AO), aReg P D G N L false T A (fun T A => Q .normal ⟨T, A⟩) → Sim n0 c0 N ⟨T, A⟩ a w → (Code.region id ⟨L⟩ false).wpIn (FR none) n P (PostD ⟨P, D, G, N, n0, cuts⟩ c0 Q ds) (wd a ds) w := by
        intro T A h hs
        obtain ⟨c, rfl, hA, H, hT, hE, hd', hN⟩ := hs
        have h : aOps P D G N L L T A (fun T A => Q .normal ⟨T, A⟩) := h
        have hA : c.A = A := hA
        have hG : c0.G = G := hG
        rw [← hA, ← hG] at h
        have := aOps_sound (Qc := onlyN (Post ⟨P, D, G, N, n0, cuts⟩ c0 Q)) ok.tab L 0 T c a (fun j => by simp) H hT hE hd' hN h fun c' a' T' H' hT' hE' hd' hN' hQ => ⟨⟨T', c'.A⟩, hQ, c', rfl, rfl, H', hT', hE', hd', hN'⟩
        refine wpIn_region (wpOps_ds (Q := onlyN (Post ⟨P, D, G, N, n0, cuts⟩ c0 Q)) hd (fun e a w he hq => by cases e <;> first | exact he rfl | exact hq) (fun a w h => ⟨a, rfl, h⟩) _ _ _ ?_)
        rw [List.range_eq_range']
        simpa using this
      obtain ⟨T, A⟩ := σ
      unfold awp at h
      simp only at h
      split at h
      · exact main T A h hs
      · obtain ⟨T', A', he, h⟩ := h
        refine main T' A' h ?_
        obtain ⟨cx, hw, hA, H, hT, hE, hd, hN⟩ := hs
        obtain ⟨c', k1, k2, k3, k4, k5⟩ := he cx H hA hE.le.len _ hT
        exact ⟨c', k1.trans hw, k4, k3, k5, hE.trans k2, hd, hN⟩
  | _ => intro hnd; cases hnd
end Go.Ab
/-
  A range over slices.Backward of ints.
-/
namespace Go.Ab
open Go Go.RowKit Go.Shelf
/-! ### blocks that are another's, turned or added -/
structure Turn (c c' : Cx) : Prop where
  A : c'.A = c.A
  ρ : c'.ρ = c.ρ
  G : c'.G = c.G
  I : ∀ b, c.I b → b < c.w.heap.size → c'.I b ∧ c'.w.heap[b]? = c.w.heap[b]?
  tok : ∀ t b, c.live t → c.ρ t = some b → ¬ c'.X b ∧ c'.w.heap[b]? = c.w.heap[b]?
  old : ∀ b, c'.X b → b < c'.w.heap.size
theorem Turn.le {c c' : Cx} (h : Turn c c') : Le c.A.length c c' := by
  refine ⟨h.I, fun t ht => ?_, by rw [h.A]; exact Nat.le_refl _⟩
  unfold TokLe
  rw [h.A, List.getElem?_eq_getElem ht]
  cases hA : c.A[t] with
  | row e xs =>
    refine .inl ⟨⟨xs, rfl⟩, by rw [h.ρ], fun b cs et hb hh => ⟨cs, ?_, rfl⟩⟩
    have := (h.tok t b ⟨_, (List.getElem?_eq_getElem ht).trans (congrArg some hA), rfl⟩ hb).2
    rw [this]; exact hh
  | box vs => exact .inl ⟨⟨vs, rfl⟩, by rw [h.ρ]⟩
  | dead => trivial
  | room => rfl
theorem Turn.hr {c c' : Cx} (h : Turn c c') (H : HR c) : HR c' := by
  have lv : ∀ t, c'.live t → c.live t := fun t ⟨o, h1, h2⟩ => ⟨o, by rw [← h.A]; exact h1, h2⟩
  refine ⟨fun t b hl hb => (h.tok t b (lv t hl) (by rw [← h.ρ]; exact hb)).1, fun t u b h1 h2 h3 h4 => H.inj t u b (lv t h1) (lv u h2) (by rw [← h.ρ]; exact h3) (by rw [← h.ρ]; exact h4), fun t o ho => ?_, h.old, fun g v hg => (H.glo g v (by rw [← h.G]; exact hg)).mono h.I⟩
  have ho' : c.A[t]? = some o := by rw [← h.A]; exact ho
  have := H.obj t o ho'
  rw [h.ρ]
  cases o with
  | dead => trivial
  | room => trivial
  | row e xs =>
    rcases this with h1 | ⟨b, cs, et, h1, h2, h3⟩
    · exact .inl h1
    · refine .inr ⟨b, cs, et, h1, by rw [(h.tok t b ⟨_, ho', rfl⟩ h1).2]; exact h2, fun i hi => ?_⟩
      obtain ⟨ds, k1, k2⟩ := h3 i hi
      exact ⟨ds, k1.mono h.I, k2⟩
  | box vs =>
    obtain ⟨b, cs, et, h1, h2, h3⟩ := this
    exact ⟨b, cs, et, h1, by rw [(h.tok t b ⟨_, ho', rfl⟩ h1).2]; exact h2, RelL.mono h.le _ _ h3.ok h3⟩
theorem TR.le {c c' : Cx} (H : Le c.A.length c c') {T : List (Nat × AV)} {t : Array Value} (h : TR c T t) : TR c' T t := fun n => Rel.mono H _ _ (h n).ok (h n)
/-- a block of another's is written -/
theorem turn_put {c : Cx} (H : HR c) {r : Nat} (hr : c.X r) (o : Obj) : Turn c { c with w := c.w.putObj r o } where
  A := rfl
  ρ := rfl
  G := rfl
  I := fun _b h _ => ⟨h, World.putObj_heap_other (fun e => h.1 (e ▸ hr))⟩
  tok := fun t b hl hb => ⟨H.far t b hl hb, World.putObj_heap_other (fun e => H.far t b hl hb (e ▸ hr))⟩
  old := fun b hb => by
    have := H.old b hb
    show b < (c.w.putObj r o).heap.size
    simpa using this
theorem same_put (w : World) (r : Nat) (o : Obj) : WSame w (w.putObj r o) := ⟨rfl, rfl, rfl⟩
/-- what lies between the context that a function began in and the one behind its loop -/
structure Mid (n0 : Nat) (c0 c1 : Cx) (D : Nat) : Prop where
  le : Le n0 c0 c1
  G : c1.G = c0.G
  X : ∀ b, c0.X b → c1.X b
  XD : c1.X D
  dfr : c1.w.heap[D]? = some (.deferred (some []))
  notX : ¬ c0.X D
  notI : ∀ b, c0.I b → b < c0.w.heap.size → b ≠ D
  far : ∀ b, c0.X b → c1.w.heap[b]? = c0.w.heap[b]?
  st : WSame c0.w c1.w
def BackOk (P : Program) (f : Nat) : Prop := ∀ (n l Bs len : Nat) (zs : List Int), 1 ≤ n → 0 < len → len * 8 ≤ 140737488351232 → ∀ (J : Nat → World → Prop),
  (∀ k W, J k W → ∃ b off cap, W.cell? ⟨Bs, 0, none⟩ = some (.slice (some ⟨b, off, none⟩) len cap) ∧ ∀ j, j < len → W.cell? ⟨b, off + j, none⟩ = some (.int .i64 (zs[j]?.getD 0))) →
  (∀ k j W, J k W → k + j + 1 = len → YieldAt Fence.wide (n - 1) P l #[.int .i64 (j : Int), .int .i64 (zs[j]?.getD 0)] W fun e W' => e = .returned (.bool true) ∧ J (k + 1) W') →
  ∀ W, J 0 W → CallsIn Fence.wide n P f #[.func (.yield l) #[] #[], .pointer (some ⟨Bs, 0, none⟩)] W fun e W' => (∃ v, e = .returned v) ∧ J len W'
def rndQ (n : Nat) (A' : List AO) : Exit → St → Prop
  | .normal, σ => ∃ _u : Unit, Ent n σ ⟨[], A'⟩
  | _, _ => False
theorem fz_ints {c : Cx} {l : List Int} {v : Value} (h0 : 0 < l.length) (h : Rel c (.fz (.list (.int .i64)) l) v) : ∃ b off cap, v = .slice (some ⟨b, off, none⟩) l.length cap ∧ ∀ j, j < l.length → c.w.cell? ⟨b, off + j, none⟩ = some (.int .i64 (l[j]?.getD 0)) := by
  obtain ⟨p, cap, rfl, hf⟩ := rel_list h
  unfold FzC at hf
  obtain ⟨p', cap', e, hle, hall⟩ := hf
  cases e
  obtain ⟨b, off, cs, hp, _, _, _, _⟩ := hall 0 h0
  subst hp
  refine ⟨b, off, cap, rfl, fun j hj => ?_⟩
  obtain ⟨b', off', cs, hp, _, _, hc, hcell⟩ := hall j hj
  cases hp
  unfold FzC at hc
  subst hc
  have := hcell 0 (by simp)
  have hs : Ty.size (.int .i64) = 1 := rfl
  rw [hs] at this
  simpa [hj] using this
end Go.Ab
/-
  A range over slices.Backward of ints: the rule.
-/
namespace Go.Ab
open Go Go.RowKit Go.Shelf
theorem le_trans {n m : Nat} {c c' c'' : Cx} (h : Le n c c') (h' : Le m c' c'') (hn : n ≤ m) : Le n c c'' := by
  refine ⟨fun b hI hb => ?_, fun t ht => (h.tok t ht).trans (h'.tok t (by omega)), by have := h'.len; omega⟩
  obtain ⟨k1, k2⟩ := h.I b hI hb
  obtain ⟨k3, k4⟩ := h'.I b k1 (heap_lt hb k2)
  exact ⟨k3, k4.trans k2⟩
theorem Le.lower {n m : Nat} {c c' : Cx} (h : Le n c c') (hm : m ≤ n) : Le m c c' := ⟨h.I, fun t ht => h.tok t (by omega), by have := h.len; omega⟩
theorem box_tok {c c' : Cx} {t : Nat} (h : TokLe c c' t) {vs vs' : List AV} (h1 : c.A[t]? = some (.box vs)) (h2 : c'.A[t]? = some (.box vs')) : c'.ρ t = c.ρ t := by
  unfold TokLe at h
  rw [h1, h2] at h
  rcases h with ⟨_, h⟩ | ⟨e, xs, h⟩ | h
  · first | exact h | exact h.symm
  · cases h
  · cases h
theorem rf_wp {E : Env} (ok : EnvOk E) {f : Nat} (hback : BackOk E.P f) (hent : ∀ args w, (callFunc f args).run E.P w = .ok (.enter f args) w) {g : Operand} {p0 p1 : Nat} {assign body : Code} (nda : ndC assign = true) (ndb : ndC body = true)
    {c0 : Cx} (hG : c0.G = E.G) {T : List (Nat × AV)} {A : List AO} {tok : Nat} {l : List Int} (hp0 : p0 < E.N) (hp1 : p1 < E.N)
    (hg : ev T g = .fn f [.ptr tok 0]) (h0 : 0 < l.length) (h8 : l.length * 8 ≤ 140737488351232)
    (S : Nat → List AO) (hS0 : S 0 = A) (hSt : ∀ k, k ≤ l.length → (S k)[tok]? = some (.box [.fz (.list (.int .i64)) l])) (hSl : ∀ k, k ≤ l.length → (S k).length = A.length)
    (hround : ∀ k j, k + j + 1 = l.length → awp ⟨E.P, E.D, E.G, E.N, A.length, E.cuts⟩ assign (thenQ (awp ⟨E.P, E.D, E.G, E.N, A.length, E.cuts⟩ body (rndQ A.length (S (k + 1)))) fun _ _ => False) ⟨(p1, .fz (.int .i64) (l[j]?.getD 0)) :: (p0, .fz (.int .i64) (j : Int)) :: T, S k⟩)
    {a : Act} {w : World} (hs : Sim E.n0 c0 E.N ⟨T, A⟩ a w) {QQ : Exit → Act → World → Prop}
    (hQQ : ∀ (D : Nat) (c1 : Cx), Mid E.n0 c0 c1 D → HR c1 → c1.A = S l.length → TR c1 T a.tmps → a.tmps.size = E.N → QQ .normal (wd a [{ target := .collected D, args := #[] }]) c1.w) :
    (Code.rangeFunc g #[p0, p1] assign body).wpIn (FR none) 2 E.P QQ a w := by
  obtain ⟨c, rfl, hA, H, hT, hE, hd, hN⟩ := hs
  have hA : c.A = A := hA
  have hT : TR c T a.tmps := hT
  have ok1 : EnvOk ⟨E.P, E.D, E.G, E.N, A.length, E.cuts⟩ := ⟨ok.tab, ok.mix⟩
  -- the iterator's value
  have hv := hT.ev (a := a) g
  rw [hg] at hv
  unfold Rel at hv
  obtain ⟨vs, hgv, hvs⟩ := hv
  unfold RelL at hvs
  obtain ⟨v, r, rfl, hv, hr⟩ := hvs
  unfold RelL at hr
  subst hr
  have hAt : c.A[tok]? = some (.box [.fz (.list (.int .i64)) l]) := by rw [hA, ← hS0]; exact hSt 0 (Nat.zero_le _)
  unfold Rel at hv
  rw [hAt] at hv
  obtain ⟨B, hB, rfl⟩ := hv
  have hgv : a.eval g = .func (.func f) #[] #[.pointer (some ⟨B, 0, none⟩)] := hgv
  refine wpIn_rangeFunc fun fn _ => ?_
  rw [show (FR none).round = none from rfl]
  obtain ⟨D, hD⟩ : ∃ D, D = c.w.heap.size := ⟨_, rfl⟩
  obtain ⟨rec, hrec⟩ : ∃ rec : LoopState → Loop, rec = fun st => { state := st, pending := none, fn, tmps := a.tmps, params := #[p0, p1], assign, body, defers := c.w.heap.size } := ⟨_, rfl⟩
  obtain ⟨W1, hW1⟩ : ∃ W1, (c.w.alloc (.deferred (some []))).alloc (.loop (rec .ready)) = W1 := ⟨_, rfl⟩
  have hsz : W1.heap.size = D + 2 := by rw [← hW1, World.size_alloc, World.size_alloc, hD]
  have hold : ∀ b, b < c.w.heap.size → W1.heap[b]? = c.w.heap[b]? := fun b hb => by
    rw [← hW1]; exact (heap_alloc_old _ _ (by rw [World.size_alloc]; omega)).trans (heap_alloc_old _ _ hb)
  have hL1 : W1.heap[D + 1]? = some (.loop (rec .ready)) := by
    rw [← hW1, hD]; have := World.alloc_heap_new (c.w.alloc (.deferred (some []))) (.loop (rec .ready)); rwa [World.size_alloc] at this
  have hD1 : W1.heap[D]? = some (.deferred (some [])) := by
    rw [← hW1, hD]; exact (heap_alloc_old _ _ (by rw [World.size_alloc]; omega)).trans (World.alloc_heap_new c.w _)
  let cD : Cx := { c with w := W1, X := fun b => c.X b ∨ b = D ∨ b = D + 1 }
  have tD : Turn c cD := by
    refine ⟨rfl, rfl, rfl, fun b hI hb => ⟨⟨fun hx => ?_, hI.2⟩, hold b hb⟩, fun t b hl hb => ?_, fun b hb => ?_⟩
    · rcases hx with hx | hx | hx
      · exact hI.1 hx
      · omega
      · omega
    · have hlt : b < c.w.heap.size := by
        obtain ⟨o, h1, h2⟩ := hl
        have := H.obj t o h1
        rw [hb] at this
        exact this.lt h2
      refine ⟨fun hx => ?_, hold b hlt⟩
      rcases hx with hx | hx | hx
      · exact H.far t b hl hb hx
      · omega
      · omega
    · show b < W1.heap.size
      rcases hb with hb | hb | hb
      · have := H.old b hb; omega
      · omega
      · omega
  have HD : HR cD := tD.hr H
  have TD : TR cD T a.tmps := hT.le tD.le
  have sD : WSame c.w W1 := by rw [← hW1]; exact ⟨rfl, rfl, rfl⟩
  have hlen : cD.A.length = A.length := congrArg List.length hA
  obtain ⟨J, hJ⟩ : ∃ J : Nat → World → Prop, J = fun k W => k ≤ l.length ∧ ∃ c1 : Cx, c1.w = W ∧ HR c1 ∧ c1.A = S k ∧ Le A.length cD c1 ∧ c1.X = cD.X ∧ c1.G = cD.G ∧ WSame cD.w c1.w ∧ (∀ b, cD.X b → b ≠ D + 1 → c1.w.heap[b]? = cD.w.heap[b]?) ∧ W.heap[D + 1]? = some (.loop (rec .ready)) := ⟨_, rfl⟩
  have hJ0 : J 0 W1 := by
    rw [hJ]
    exact ⟨Nat.zero_le _, cD, rfl, HD, hA.trans hS0.symm, ⟨fun _ h _ => ⟨h, rfl⟩, fun t h => TokLe.refl (by rw [hlen]; exact h), by rw [hlen]; exact Nat.le_refl _⟩, rfl, rfl, WSame.refl _, fun _ _ _ => rfl, hL1⟩
  refine ⟨D + 1, [{ target := .collected D, args := #[] }], W1, { target := .fn (.func f) #[.pointer (some ⟨B, 0, none⟩)], args := #[.func (.yield (D + 1)) #[] #[]] }, W1, f,
    #[.func (.yield (D + 1)) #[] #[]] ++ #[.pointer (some ⟨B, 0, none⟩)], W1, ?_, ?_, fun _ _ => trivial, ?_, fun h => (by cases h), ?_⟩
  · rw [← hW1, hrec, hD]; exact run_enterLoop_outer _ _ _ _ _
  · simp only [resolve, hgv]
    simp [go_sem]
  · simp [invoke, go_sem, hent]
  · refine CallsIn.mono (hback (2 - 1) (D + 1) B l.length l (by omega) h0 h8 J ?_ ?_ W1 hJ0) ?_
    · -- the slice is read
      intro k W hk
      rw [hJ] at hk
      obtain ⟨hkl, c1, rfl, H1, hA1, le1, _⟩ := hk
      have hAt1 : c1.A[tok]? = some (.box [.fz (.list (.int .i64)) l]) := by rw [hA1]; exact hSt k hkl
      have htl : tok < A.length := by rw [← hA]; exact get_lt hAt
      have hρ : c1.ρ tok = cD.ρ tok := box_tok (le1.tok tok htl) (show cD.A[tok]? = _ from hAt) hAt1
      obtain ⟨b, cs, et, k1, k2, k3⟩ := H1.obj tok _ hAt1
      unfold RelL at k3
      obtain ⟨v, r, rfl, k3, k4⟩ := k3
      unfold RelL at k4
      subst k4
      rw [hρ, show cD.ρ tok = some B from hB] at k1
      cases k1
      obtain ⟨b', off, cap, rfl, hcell⟩ := fz_ints h0 k3
      exact ⟨b', off, cap, by unfold World.cell?; simp [k2], hcell⟩
    · -- one round
      intro k j W hk hkj
      rw [hJ] at hk
      obtain ⟨hkl, c1, rfl, H1, hA1, le1, X1, G1, st1, far1, hl1⟩ := hk
      have T1 : TR c1 T a.tmps := TD.le (by rw [hlen]; exact le1)
      have hG1 : c1.G = E.G := G1.trans (hE.G.trans hG)
      have x1 : c1.X (D + 1) := by rw [X1]; exact .inr (.inr rfl)
      have hy := run_yield (P := E.P) (args := #[.int .i64 (j : Int), .int .i64 (l[j]?.getD 0)]) hl1 (by rw [hrec]; rfl)
      rw [hrec] at hy
      let a1 : Act := ((wd a []).put (some p0) (.int .i64 (j : Int))).put (some p1) (.int .i64 (l[j]?.getD 0))
      obtain ⟨t1, n1, _⟩ := put_tr (a := wd a []) (d := some p0) (v := .fz (.int .i64) (j : Int)) (u := .int .i64 (j : Int)) (N := E.N) T1 hN (by show Nat.blt p0 E.N = true; simpa using hp0) (by unfold Rel; exact ⟨_, rfl, rfl⟩)
      obtain ⟨t2, n2, _⟩ := put_tr (d := some p1) (v := .fz (.int .i64) (l[j]?.getD 0)) (u := .int .i64 (l[j]?.getD 0)) (N := E.N) t1 n1 (by show Nat.blt p1 E.N = true; simpa using hp1) (by unfold Rel; exact ⟨_, rfl, rfl⟩)
      refine ⟨fn, a1.tmps, assign, body, ?_, roundIn_of_wpIn trivial ?_⟩
      · show _ = Result.ok (Next.round (D + 1) fn ((a.tmps.setIfInBounds p0 _).setIfInBounds p1 _) assign body) c1.w
        simpa using hy
      have hsim : Sim A.length c1 E.N ⟨(p1, .fz (.int .i64) (l[j]?.getD 0)) :: (p0, .fz (.int .i64) (j : Int)) :: T, S k⟩ a1 c1.w := ⟨c1, rfl, hA1, H1, t2, ExtN.refl (by rw [hA1, hSl k hkl]; exact Nat.le_refl _), rfl, n2⟩
      refine wpIn_mono (awp_sound_in ok1 (some (D + 1)) _ c1 hG1 assign nda _ _ _ _ (hround k j hkj) hsim) fun e a' w' ⟨σ1, hq, hs1⟩ => ?_
      cases e with
      | normal =>
        obtain ⟨c2, rfl, hA2, H2, hT2, hE2, hd2, hN2⟩ := hs1
        have x2 : c2.X (D + 1) := by rw [hE2.X]; exact x1
        have hl2 : c2.w.heap[D + 1]? = some (.loop (rec .ready)) := (hE2.far _ x1).trans hl1
        refine ⟨_, run_beginRound hl2 (by rw [hrec]), ?_⟩
        obtain ⟨o2, ho2⟩ : ∃ o2, o2 = Obj.loop { rec .ready with state := .busy } := ⟨_, rfl⟩
        rw [← ho2]
        have t2' := turn_put H2 x2 o2
        have H2' := t2'.hr H2
        have hl2' : (c2.w.putObj (D + 1) o2).heap[D + 1]? = some o2 := World.putObj_heap_same (some_lt hl2)
        refine wpIn_mono (awp_sound_in ok1 (some (D + 1)) _ { c2 with w := c2.w.putObj (D + 1) o2 } (hE2.G.trans hG1) body ndb _ σ1 a' _ hq ⟨{ c2 with w := c2.w.putObj (D + 1) o2 }, rfl, hA2, H2', hT2.le t2'.le, ExtN.refl hE2.le.len, hd2, hN2⟩) fun e a3 w3 ⟨σ3, hq3, hs3⟩ => ?_
        cases e with
        | normal =>
          obtain ⟨c3, rfl, hA3, H3, hT3, hE3, hd3, hN3⟩ := hs3
          obtain ⟨_, hq3⟩ : ∃ _u : Unit, Ent A.length σ3 ⟨[], S (k + 1)⟩ := hq3
          obtain ⟨c4, hw4, hE4, H4, hA4, _⟩ := hq3 c3 H3 hA3 hE3.le.len _ hT3
          have hl3 : c3.w.heap[D + 1]? = some o2 := (hE3.far _ x2).trans hl2'
          rw [ho2] at hl3
          have hr3 := run_endRound (P := E.P) none hl3
          have e3 : ({ { rec .ready with state := .busy } with state := if (none : Option Code).isNone then .ready else .done, pending := none } : Loop) = rec .ready := by rw [hrec]; rfl
          rw [e3] at hr3
          refine ⟨_, _, hr3, rfl, ?_⟩
          have x3 : c3.X (D + 1) := by rw [hE3.X]; exact x2
          have x4 : c4.X (D + 1) := by rw [hE4.X]; exact x3
          have t4 := turn_put H4 x4 (.loop (rec .ready))
          rw [hJ, ← hw4]
          refine ⟨by omega, { c4 with w := c4.w.putObj (D + 1) (.loop (rec .ready)) }, rfl, t4.hr H4, hA4, ?_, ?_, ?_, ?_, ?_, ?_⟩
          · have l3 := le_trans hE4.le t4.le hE4.le.len
            have l2 := le_trans hE3.le l3 (Nat.le_refl _)
            have l1 := le_trans (t2'.le.lower hE2.le.len) l2 (Nat.le_refl _)
            exact le_trans le1 (le_trans hE2.le l1 (Nat.le_refl _)) (Nat.le_refl _)
          · exact hE4.X.trans (hE3.X.trans (hE2.X.trans X1))
          · exact hE4.G.trans (hE3.G.trans (hE2.G.trans G1))
          · exact st1.trans (hE2.st.trans ((same_put _ _ _).trans (hE3.st.trans (hE4.st.trans (same_put _ _ _)))))
          · intro b hb hne
            have y1 : c1.X b := by rw [X1]; exact hb
            have y2 : c2.X b := by rw [hE2.X]; exact y1
            have y3 : c3.X b := by rw [hE3.X]; exact y2
            refine (World.putObj_heap_other hne).trans ((hE4.far b y3).trans ((hE3.far b y2).trans ?_))
            exact (World.putObj_heap_other hne).trans ((hE2.far b y1).trans (far1 b hb hne))
          · exact World.putObj_heap_same (by rw [hw4]; exact some_lt hl3)
        | _ => exact hq3.elim
      | _ => exact hq.elim
    · -- behind the iterator
      rintro e W' ⟨⟨v, rfl⟩, hk⟩
      rw [hJ] at hk
      obtain ⟨hkl, c1, rfl, H1, hA1, le1, X1, G1, st1, far1, hl1⟩ := hk
      have x1 : c1.X (D + 1) := by rw [X1]; exact .inr (.inr rfl)
      have hr := run_endLoop (P := E.P) hl1 (by rw [hrec]; simp)
      have pend : (rec .ready).pending = none := by rw [hrec]
      rw [pend] at hr
      refine ⟨none, _, hr, ?_⟩
      show QQ .normal _ (c1.w.putObj (D + 1) (.loop { rec .ready with state := .exhausted, pending := none }))
      generalize Obj.loop { rec .ready with state := .exhausted, pending := none } = o1
      have t1 := turn_put H1 x1 o1
      have T1 : TR c1 T a.tmps := TD.le (by rw [hlen]; exact le1)
      have hl1' : A.length ≤ c1.A.length := le1.len
      have := hQQ D { c1 with w := c1.w.putObj (D + 1) o1 } ⟨?_, ?_, ?_, ?_, ?_, ?_, ?_, ?_, ?_⟩ (t1.hr H1) hA1 (T1.le t1.le) hN
      · unfold wd at this
        show QQ .normal { a with defers := [{ target := .collected D, args := #[] }] ++ a.defers } _
        rw [hd]; exact this
      · have l1 := le_trans le1 t1.le hl1'
        have l2 := le_trans tD.le l1 (Nat.le_of_eq (congrArg List.length hA))
        exact le_trans hE.le l2 hE.le.len
      · exact G1.trans hE.G
      · intro b hb
        show c1.X b
        rw [X1]; exact .inl (by rw [hE.X]; exact hb)
      · show c1.X D
        rw [X1]; exact .inr (.inl rfl)
      · exact (World.putObj_heap_other (by omega)).trans ((far1 D (.inr (.inl rfl)) (by omega)).trans hD1)
      · intro hx
        have := H.old D (by rw [hE.X]; exact hx)
        omega
      · intro b hI hb
        obtain ⟨k1, k2⟩ := hE.le.I b hI hb
        have := heap_lt hb k2
        omega
      · intro b hb
        have hb' : c.X b := by rw [hE.X]; exact hb
        have := H.old b hb'
        exact (World.putObj_heap_other (by omega)).trans ((far1 b (.inl hb') (by omega)).trans ((hold b this).trans (hE.far b hb)))
      · exact hE.st.trans (sD.trans (st1.trans (same_put _ _ _)))
end Go.Ab
/-
  Functions in which a range over slices.Backward stands.
-/
namespace Go.Ab
open Go Go.RowKit Go.Shelf
def hasRF : Code → Bool
  | .rangeFunc _ _ _ _ => true
  | .seq x y => hasRF x || hasRF y
  | .block _ c => hasRF c
  | _ => false
/-- the loop stands where it may, and what follows it is calm -/
def okRF : Code → Bool
  | .rangeFunc _ ps x y => ndC x && ndC y && Nat.beq ps.size 2
  | .seq x y => match hasRF x with
    | true => okRF x && calmC y
    | false => okRF y
  | .block _ c => okRF c
  | _ => true
def RFc (E : Env) (f : Nat) (g : Operand) (p0 p1 : Nat) (assign body : Code) (M : St → Prop) (σ : St) : Prop :=
  ∃ (T : List (Nat × AV)) (A : List AO) (tok : Nat) (l : List Int) (S : Nat → List AO), Ent E.n0 σ ⟨T, A⟩ ∧ (Nat.blt p0 E.N = true ∧ Nat.blt p1 E.N = true) ∧ ev T g = .fn f [.ptr tok 0] ∧ 0 < l.length ∧ l.length * 8 ≤ 140737488351232 ∧ S 0 = A ∧
    (∀ k, k ≤ l.length → (S k)[tok]? = some (.box [.fz (.list (.int .i64)) l])) ∧ (∀ k, k ≤ l.length → (S k).length = A.length) ∧
    (∀ k j, k + j + 1 = l.length → awp ⟨E.P, E.D, E.G, E.N, A.length, E.cuts⟩ assign (thenQ (awp ⟨E.P, E.D, E.G, E.N, A.length, E.cuts⟩ body (rndQ A.length (S (k + 1)))) fun _ _ => False) ⟨(p1, .fz (.int .i64) (l[j]?.getD 0)) :: (p0, .fz (.int .i64) (j : Int)) :: T, S k⟩) ∧
    M ⟨T, S l.length⟩
def awpR (E : Env) (f : Nat) : Code → (Exit → St → Prop) → (Exit → St → Prop) → St → Prop
  | .seq x y, Q, M, σ => match hasRF x with
    | true => awpR E f x (thenQ (awp E y Q) Q) (thenQ (awp E y M) M) σ
    | false => awp E x (thenQ (awpR E f y Q M) Q) σ
  | .block id c, Q, M, σ => awpR E f c (blkQ id Q) (blkQ id M) σ
  | .rangeFunc g ⟨[p0, p1]⟩ x y, _, M, σ => RFc E f g p0 p1 x y (M .normal) σ
  | .rangeFunc _ _ _ _, _, _, _ => False
  | c, Q, _, σ => awp E c Q σ
def PostR (E : Env) (c0 : Cx) (Q M : Exit → St → Prop) : Exit → Act → World → Prop := fun e a w => Post E c0 Q e a w ∨ ∃ D c1, Mid E.n0 c0 c1 D ∧ PostD E c1 M [{ target := .collected D, args := #[] }] e a w
theorem post_blk {E : Env} {c0 : Cx} {Q : Exit → St → Prop} {id : Nat} {e : Exit} {a : Act} {w : World} (h : Post E c0 (blkQ id Q) e a w) : Exit.inBlock id (Post E c0 Q) e a w := by
  obtain ⟨σ', hq, hs'⟩ := h
  cases e with
  | exit i =>
    show if i = id then _ else _
    have hq : (match Nat.beq i id with | true => Q .normal σ' | false => Q (.exit i) σ') := hq
    by_cases hi : i = id
    · rw [if_pos hi]
      have : Nat.beq i id = true := by rw [hi]; simp
      rw [this] at hq; exact ⟨σ', hq, hs'⟩
    · rw [if_neg hi]
      have : Nat.beq i id = false := by
        cases hb : Nat.beq i id with
        | false => rfl
        | true => exact absurd (beq_eq hb) hi
      rw [this] at hq; exact ⟨σ', hq, hs'⟩
  | _ => exact ⟨σ', hq, hs'⟩
theorem inBlock_mono {id : Nat} {Q Q' : Exit → Act → World → Prop} (h : ∀ e a w, Q e a w → Q' e a w) : ∀ e a w, Exit.inBlock id Q e a w → Exit.inBlock id Q' e a w := fun e a w hq => by
  cases e with
  | exit i =>
    have hq : (if i = id then Q .normal a w else Q (.exit i) a w) := hq
    show if i = id then Q' .normal a w else Q' (.exit i) a w
    by_cases hi : i = id
    · rw [if_pos hi] at hq ⊢; exact h _ _ _ hq
    · rw [if_neg hi] at hq ⊢; exact h _ _ _ hq
  | _ => exact h _ _ _ hq
theorem awpR_sound {E : Env} (ok : EnvOk E) {f : Nat} (hback : BackOk E.P f) (hent : ∀ args w, (callFunc f args).run E.P w = .ok (.enter f args) w) (c0 : Cx) (hG : c0.G = E.G) : ∀ (c : Code), okRF c = true → ∀ (Q M : Exit → St → Prop) (σ : St) (a : Act) (w : World), awpR E f c Q M σ → Sim E.n0 c0 E.N σ a w → c.wpIn (FR none) 2 E.P (PostR E c0 Q M) a w := by
  have plain : ∀ (c : Code) (Q M : Exit → St → Prop) (σ : St) (a : Act) (w : World), awp E c Q σ → Sim E.n0 c0 E.N σ a w → c.wpIn (FR none) 2 E.P (PostR E c0 Q M) a w := fun c Q M σ a w h hs =>
    wpIn_mono (wpIn_wide (n := 2) |>.2 (awp_sound ok c0 hG c Q σ a w h hs)) fun _ _ _ h => .inl h
  intro c
  induction c with
  | seq x y ihx ihy =>
    intro hok Q M σ a w h hs
    unfold okRF at hok
    unfold awpR at h
    cases hx : hasRF x with
    | true =>
      rw [hx] at hok h
      simp only [Bool.and_eq_true] at hok h
      refine wpIn_seq (wpIn_mono (ihx hok.1 _ _ σ a w h hs) fun e a' w' hp => ?_)
      rcases hp with ⟨σ', hq, hs'⟩ | ⟨D, c1, hm, a0, rfl, σ', hq, hs'⟩
      · cases e with
        | normal => exact plain y Q M σ' a' w' hq hs'
        | _ => exact .inl ⟨σ', hq, hs'⟩
      · cases e with
        | normal => exact wpIn_mono (awp_sound_ds ok _ 2 c1 (hm.G.trans hG) y hok.2 M σ' a0 w' hq hs') fun e a w h => .inr ⟨D, c1, hm, h⟩
        | _ => exact .inr ⟨D, c1, hm, a0, rfl, σ', hq, hs'⟩
    | false =>
      rw [hx] at hok h
      simp only at hok h
      refine wpIn_seq (wpIn_mono (wpIn_wide (n := 2) |>.2 (awp_sound ok c0 hG x _ σ a w h hs)) fun e a' w' ⟨σ', hq, hs'⟩ => ?_)
      cases e with
      | normal => exact ihy hok Q M σ' a' w' hq hs'
      | _ => exact .inl ⟨σ', hq, hs'⟩
  | block id c ih =>
    intro hok Q M σ a w h hs
    refine wpIn_block (wpIn_mono (ih hok _ _ σ a w h hs) fun e a' w' hp => ?_)
    rcases hp with hp | ⟨D, c1, hm, a0, rfl, hp⟩
    · exact inBlock_mono (fun _ _ _ h => .inl h) _ _ _ (post_blk hp)
    · have := post_blk hp
      cases e with
      | exit i =>
        have this : (if i = id then Post E c1 M .normal a0 w' else Post E c1 M (.exit i) a0 w') := this
        show if i = id then _ else _
        by_cases hi : i = id
        · rw [if_pos hi] at this ⊢; exact .inr ⟨D, c1, hm, a0, rfl, this⟩
        · rw [if_neg hi] at this ⊢; exact .inr ⟨D, c1, hm, a0, rfl, this⟩
      | _ => exact .inr ⟨D, c1, hm, a0, rfl, this⟩
  | rangeFunc g ps x y _ _ =>
    intro hok Q M σ a w h hs
    obtain ⟨ps⟩ := ps
    match ps, hok, h with
    | [p0, p1], hok, h =>
      unfold okRF at hok
      simp only [Bool.and_eq_true] at hok
      obtain ⟨T, A, tok, l, S, he, ⟨h0, h1⟩, hg, hl, h8, hS0, hSt, hSl, hr, hM⟩ := h
      have hs' : Sim E.n0 c0 E.N ⟨T, A⟩ a w := by
        obtain ⟨cx, hw, hA, H, hT, hE, hd, hN⟩ := hs
        obtain ⟨c', k1, k2, k3, k4, k5⟩ := he cx H hA hE.le.len _ hT
        exact ⟨c', k1.trans hw, k4, k3, k5, hE.trans k2, hd, hN⟩
      have hd : a.defers = [] := by obtain ⟨_, _, _, _, _, _, hd, _⟩ := hs; exact hd
      refine rf_wp ok hback hent hok.1.1 hok.1.2 hG (by simpa using h0) (by simpa using h1) hg hl h8 S hS0 hSt hSl hr hs' fun D c1 hm H1 hA1 hT1 hN1 => ?_
      refine .inr ⟨D, c1, hm, a, rfl, ⟨T, S l.length⟩, hM, c1, rfl, hA1, H1, hT1, ExtN.refl hm.le.len, hd, hN1⟩
    | [], _, h => exact h.elim
    | [_], _, h => exact h.elim
    | _ :: _ :: _ :: _, _, h => exact h.elim
  | _ => intro _ Q M σ a w h hs; exact plain _ Q M σ a w h hs
/-! ### functions -/
theorem fin_ok {E : Env} (ok : EnvOk E) {cx : Cx} (hG : cx.G = E.G) (hn0 : E.n0 = cx.A.length) {fn : Func} {K : AV → List AO → Prop} {σ : St} {tmps : Array Value} {c1 : Cx} (hA1 : c1.A = σ.A) (H1 : HR c1) (hT1 : TR c1 σ.T tmps) (hE1 : ExtN E.n0 cx c1)
    (h : runL (resVs E.D E.G σ.A σ.T fn.results.toList) (fun r => Done E K r σ.A)) : ∃ v, (results fn tmps).run E.P c1.w = .ok v c1.w ∧ ∃ v_1 c' r, Ending.returned v = .returned v_1 ∧ c'.w = c1.w ∧ Ext cx c' ∧ HR c' ∧ Rel c' r v_1 ∧ K r c'.A := by
  obtain ⟨hC, hK⟩ := runL_of h
  have hG1 : c1.G = E.G := hE1.G.trans hG
  rw [← hA1, ← hG1] at hC hK
  obtain ⟨us, k1, k2⟩ := resVs_sound ok.tab H1 hT1 fn.results.toList hC
  obtain ⟨r', A', he, hk⟩ := hK
  have hrun : ∃ v, (results fn tmps).run E.P c1.w = .ok v c1.w ∧ Rel c1 (retV (resVs E.D c1.G c1.A σ.T fn.results.toList).2) v := by
    have hl := k2.length
    have hm : (fn.results.mapM (resOf tmps)).run E.P c1.w = .ok us.toArray c1.w := by
      rw [Array.mapM_eq_mapM_toList, Sem.run_map, k1]; rfl
    refine ⟨if h : us.toArray.size = 1 then us.toArray[0] else .tuple us.toArray, ?_, ?_⟩
    · rw [results_eq]
      simp only [Sem.run_bind, hm, Result.andThen_ok, Sem.run_pure]
    · generalize (resVs E.D c1.G c1.A σ.T fn.results.toList).2 = rs at *
      match rs, us, k2, hl with
      | [], [], _, _ => simp; unfold retV Rel; exact ⟨[], rfl, by unfold RelL; rfl⟩
      | [r], [u], h, _ => simp; unfold RelL at h; obtain ⟨v, l, e, h1, _⟩ := h; cases e; exact h1
      | r :: r2 :: rs, u :: u2 :: us, h, _ =>
        rw [dif_neg (by simp)]
        unfold retV Rel
        exact ⟨_, rfl, h⟩
  obtain ⟨v, hv1, hv2⟩ := hrun
  obtain ⟨c2, j1, j2, j3, j4, j5⟩ := he c1 H1 rfl hE1.le.len v hv2
  refine ⟨v, hv1, v, c2, r', rfl, j1, ?_, j3, j5, by rw [j4]; exact hk⟩
  have := hE1.trans j2
  rw [hn0] at this
  exact ⟨this.le, this.X, this.G, this.far, this.st⟩
theorem acall_mkR {E : Env} (ok : EnvOk E) {f : FuncId} {fn : Func} {c : Code} {args : List AV} {A : List AO} {K : AV → List AO → Prop} {bf : Nat} (hback : BackOk E.P bf) (hent : ∀ args w, (callFunc bf args).run E.P w = .ok (.enter bf args) w) (hf : E.P.funcs[f]? = some fn) (hb : fn.body = some c) (hnm : (fn.name == "runtime.NumGoroutine") = false) (hN : fn.ntmps = E.N) (hle : Nat.ble args.length E.N = true) (hn0 : A.length = E.n0) (hok : okRF c = true)
    (h : awpR E bf c (retQ E fn.results.toList K) (retQ E fn.results.toList K) ⟨zipT args 0, A⟩) : ACall E.P E.G f args A K := by
  refine ⟨⟨fn, hf, by rw [hb]; rfl, hnm⟩, fun cx H hA hG vs hv => ?_⟩
  have hvl := hv.length
  have hle := Nat.le_of_ble_eq_true hle
  refine callsIn_wide (n := 2) |>.1 (callsIn_of_wp_marks hf hb trivial ?_ rfl)
  have hs : Sim E.n0 cx E.N ⟨zipT args 0, A⟩ { tmps := vs.toArray ++ Array.replicate (fn.ntmps - vs.toArray.size) undef, defers := [] } cx.w := by
    refine ⟨cx, rfl, hA, H, fun n => ?_, ExtN.refl (by rw [hA]; omega), rfl, by simp [hN]; omega⟩
    show Rel cx (lk (zipT args 0) n) _
    rw [zipT_lk, if_pos (Nat.zero_le _), Nat.sub_zero]
    by_cases hlt : n < args.length
    · obtain ⟨v, k1, k2⟩ := hv.get _ _ n args[n] (List.getElem?_eq_getElem hlt)
      have e1 : args.getD n .unk = args[n] := getD_of_lt hlt
      rw [e1]
      have : (vs.toArray ++ Array.replicate (fn.ntmps - vs.toArray.size) undef).getD n undef = v := by
        rw [Array.getD_eq_getD_getElem?, Array.getElem?_append_left (by simp; omega)]
        simp [k1]
      rw [this]; exact k2
    · have e1 : args.getD n .unk = .unk := by rw [List.getD, List.getElem?_eq_none (by omega)]; rfl
      rw [e1]; exact rel_unk
  have hn : E.n0 = cx.A.length := by rw [hA]; exact hn0.symm
  refine wpIn_mono (awpR_sound ok hback hent cx hG c hok _ _ _ _ _ h hs) fun e a w hp => ?_
  rcases hp with ⟨σ, hq, c1, rfl, hA1, H1, hT1, hE1, hd1, _⟩ | ⟨D, c1, hm, a0, rfl, σ, hq, c2, rfl, hA2, H2, hT2, hE2, hd2, _⟩
  · have fin := fun h => fin_ok (K := K) (fn := fn) ok hG hn hA1 H1 hT1 hE1 h
    cases e with
    | normal => show LeavesInM _ _ _ _ _ _ a.defers _ _; rw [hd1]; exact fin hq
    | ret => show LeavesInM _ _ _ _ _ _ a.defers _ _; rw [hd1]; exact fin hq
    | _ => exact hq.elim
  · have x2 : c2.X D := by rw [hE2.X]; exact hm.XD
    have d2 : c2.w.heap[D]? = some (.deferred (some [])) := (hE2.far D hm.XD).trans hm.dfr
    have xs : ∀ b, cx.X b → c2.X b := fun b hb => by rw [hE2.X]; exact hm.X b hb
    have t : Turn c2 { c2 with X := cx.X, w := c2.w.putObj D (.deferred none) } := by
      refine ⟨rfl, rfl, rfl, fun b hI _ => ⟨⟨fun hx => hI.1 (xs b hx), hI.2⟩, World.putObj_heap_other (fun e => hI.1 (e ▸ x2))⟩, fun t b hl hb => ⟨fun hx => H2.far t b hl hb (xs b hx), World.putObj_heap_other (fun e => H2.far t b hl hb (e ▸ x2))⟩, fun b hb => ?_⟩
      have := H2.old b (xs b hb)
      show b < (c2.w.putObj D (.deferred none)).heap.size
      simpa using this
    have hE3 : ExtN E.n0 cx { c2 with X := cx.X, w := c2.w.putObj D (.deferred none) } := by
      refine ⟨le_trans hm.le (le_trans hE2.le t.le hE2.le.len) (Nat.le_refl _), rfl, hE2.G.trans hm.G, fun b hb => ?_, hm.st.trans (hE2.st.trans (same_put _ _ _))⟩
      exact (World.putObj_heap_other (show b ≠ D from fun e => hm.notX (by rw [← e]; exact hb))).trans ((hE2.far b (hm.X b hb)).trans (hm.far b hb))
    have fin := fun h => fin_ok (K := K) (fn := fn) ok hG hn (c1 := { c2 with X := cx.X, w := c2.w.putObj D (.deferred none) }) hA2 (t.hr H2) (hT2.le t.le) hE3 h
    cases e with
    | normal => exact ⟨by simp, .inl ⟨D, _, rfl, run_takeDeferred d2, fin hq⟩⟩
    | ret => exact ⟨by simp, .inl ⟨D, _, rfl, run_takeDeferred d2, fin hq⟩⟩
    | _ => exact hq.elim
end Go.Ab
/-
  slices.Backward's closure over ints: every round from the last one to the first one.
-/
namespace Go.Proofs.YtepkknjncpbahaaDoor
open Go Go.RowKit Go.Shelf
attribute [local go_sem] Oper.semAt_some
set_option maxRecDepth 100000 in
set_option maxHeartbeats 2000000 in
theorem backward1_in (F : Fence) (n : Nat) (h7 : F.fn 61) (hro : F.round = none) (hn : 1 ≤ n) (l Bs len : Nat) (zs : List Int) (h0l : 0 < len) (hreach : len * 8 ≤ 140737488351232) (J : Nat → World → Prop)
    (hcell : ∀ k W, J k W → ∃ b off cap, W.cell? ⟨Bs, 0, none⟩ = some (.slice (some ⟨b, off, none⟩) len cap) ∧ ∀ j, j < len → W.cell? ⟨b, off + j, none⟩ = some (.int .i64 (zs[j]?.getD 0)))
    (hY : ∀ k j W, J k W → k + j + 1 = len → YieldAt F (n - 1) Tryd.prog l #[.int .i64 (j : Int), .int .i64 (zs[j]?.getD 0)] W fun e W' => e = .returned (.bool true) ∧ J (k + 1) W')
    (W : World) (h0 : J 0 W) :
    CallsIn F n Tryd.prog 61 #[.func (.yield l) #[] #[], .pointer (some ⟨Bs, 0, none⟩)] W fun e W' => (∃ v, e = .returned v) ∧ J len W' := by
  refine callsIn_of_wp Tryd.func61 rfl h7 ?_ hro
  simp only [Tryd.ntmps61, List.size_toArray, List.length_cons, List.length_nil, Nat.reduceAdd, Nat.reduceSub, Array.replicate_succ, Array.replicate_zero, List.push_toArray, List.append_toArray, List.nil_append, List.cons_append]
  obtain ⟨b0, off0, cap0, hBs, _⟩ := hcell 0 W h0
  gi_wp2
  gi_loopw [3] (fun i wr => (∃ k j : Nat, k + j + 1 = len ∧ i = .int .i64 (j : Int) ∧ J k wr) ∨ (i = .int .i64 (-1) ∧ J len wr))
    (fun i _ => (intOf i + 1).toNat)
  case atStart => exact .inl ⟨0, len - 1, by omega, by simp; omega, h0⟩
  case round =>
    rcases hrel with ⟨k, j, hkj, rfl, hJs⟩ | ⟨rfl, hJs⟩
    · obtain ⟨b, off, cap, hBs', hcs⟩ := hcell k wr hJs
      have hcx := hcs j (by omega)
      have hjl : j < len := by omega
      obtain ⟨fn, tmps, assign, body, hy, hR⟩ := hY k j wr hJs hkj
      gi_wp2
      refine hR.mono ?_
      rintro e W3 ⟨rfl, hJ3⟩
      gi_wp2
      go_roundw
      case rel =>
        by_cases hj : j = 0
        · subst hj
          exact .inr ⟨by simp, by rw [← hkj]; exact hJ3⟩
        · exact .inl ⟨k + 1, j - 1, by omega, by simp; omega, hJ3⟩
      case measure => simp [intOf]
    · gi_wp2
      go_end0
      exact ⟨⟨_, rfl⟩, hJs⟩
theorem backOk : Go.Ab.BackOk Tryd.prog 61 := fun n l Bs len zs hn h0 h8 J hcell hY W hW =>
  backward1_in Fence.wide n trivial rfl hn l Bs len zs h0 h8 J hcell hY W hW
theorem backEnt : ∀ args w, (callFunc 61 args).run Tryd.prog w = .ok (.enter 61 args) w :=
  enters_of Tryd.func61 (by kernel_rfl) rfl
end Go.Proofs.YtepkknjncpbahaaDoor
/-
  What gathers: the walk of the program's.
-/
namespace Go.Proofs.YtepkknjncpbahaaDoor
open Go Go.Ab
set_option maxRecDepth 100000
theorem backward_any (G : List (Nat × Value)) (l : List Int) (K : AV → List AO → Prop) (hK : K (.fn 61 [.ptr 0 0]) [.box [.fz (.list int) l]]) :
    ACall Tryd.prog G 47 [.fz (.list int) l] [] K := by
  refine acall_mk (E := envAt G 4 0) (envOk _ _ _) Tryd.func47 rfl rfl rfl rfl rfl ?_
  (repeat' (first | exact trivial | exact fun h => h | refine And.intro ?_ ?_ | (intro hb; first | (simp at hb; done) | (simp at hb) | skip) | omega | exact rfl | exact Nat.le_refl _ | (show _ + 1 ≤ 4294967296; omega) | (dsimp only; omega) | (show (_ : Int) ≤ (_ : Int); omega) | (show _ < List.length _; simp only [List.length_set, List.length_append, List.length_take]; omega) | (show wantB _ _ = true; simp; done) | (show wantB _ _ = true; simp; omega) | (show (_ : Bool) = _; simp_all; done) | (exfalso; omega) | refine aRegion_auto (by decide +kernel) ?_ | fail))
  exact ⟨_, _, REnt.refl _ _ _, hK⟩
/-- water goes down, from the last one taken to the first one: what is in each cell when m are over -/
def gaN (to : Nat → Nat) (ord : List Nat) (rain : Nat → Int) : Nat → Nat → Int
  | 0, j => rain j
  | m + 1, j => if to (ord.getD (ord.length - 1 - m) 0) ≠ ord.getD (ord.length - 1 - m) 0 ∧ j = to (ord.getD (ord.length - 1 - m) 0) then gaN to ord rain m j + gaN to ord rain m (ord.getD (ord.length - 1 - m) 0) else gaN to ord rain m j
set_option maxHeartbeats 4000000 in
theorem gather_any (G : List (Nat × Value)) (a : Ras) {w h : Nat} (R : RasN a w h) {to : Nat → Nat} {ord : List Nat} (F : FlowN w h to ord) (fill : List Int) (rain : Nat → Int)
    (hbd : ∀ m j, m ≤ w * h → j < w * h → 0 ≤ gaN to ord rain m j ∧ gaN to ord rain m j ≤ 2305843009213693952)
    (K : AV → List AO → Prop) (hK : K (.ref 0 0 (w * h)) [.row int (lst (w * h) (gaN to ord rain (w * h)))]) :
    ACall Tryd.prog G 40 [.fz RasT a, .fz FT (fill, lst (w * h) (fun i => wayN w i (to i)), natL ord), .fz (.list int) (lst (w * h) rain)] [] K := by
  have hl := R.len
  have hwh := R.wh
  obtain ⟨n, hn⟩ : ∃ n, n = w * h := ⟨_, rfl⟩
  rw [← hn] at hl hwh hbd hK ⊢
  refine acall_mkR (E := envAt G 47 0) (envOk _ _ _) backOk backEnt Tryd.func40 rfl rfl rfl rfl rfl rfl ?_
  have hr := lst_len n rain
  have w0 := R.w0
  have h0 := R.h0
  have n0 : 0 < n := by rw [hn]; exact Nat.mul_pos w0 h0
  (repeat' (first | exact trivial | exact fun h => h | refine And.intro ?_ ?_ | (intro hb; first | (simp at hb; done) | (simp at hb) | skip) | omega | exact rfl | exact Nat.le_refl _ | (show _ + 1 ≤ 4294967296; omega) | (dsimp only; omega) | (show (_ : Int) ≤ (_ : Int); omega) | (show _ < List.length _; simp only [List.length_set, List.length_append, List.length_take]; omega) | (show wantB _ _ = true; simp; done) | (show wantB _ _ = true; simp; omega) | (show (_ : Bool) = _; simp_all; done) | (exfalso; omega) | fail))
  refine acall_conv [.keep] _ _ _ rfl trivial (acall_frame0 rfl (clone_any _ (lst n rain) (by omega) (by omega) _ ?_))
  (repeat' (first | exact trivial | exact fun h => h | refine And.intro ?_ ?_ | (intro hb; first | (simp at hb; done) | (simp at hb) | skip) | omega | exact rfl | exact Nat.le_refl _ | (show _ + 1 ≤ 4294967296; omega) | (dsimp only; omega) | (show (_ : Int) ≤ (_ : Int); omega) | (show _ < List.length _; simp only [List.length_set, List.length_append, List.length_take]; omega) | (show wantB _ _ = true; simp; done) | (show wantB _ _ = true; simp; omega) | (show (_ : Bool) = _; simp_all; done) | (exfalso; omega) | fail))
  refine acall_frame0 rfl (backward_any _ (natL ord) _ ?_)
  (repeat' (first | exact trivial | exact fun h => h | refine And.intro ?_ ?_ | (intro hb; first | (simp at hb; done) | (simp at hb) | skip) | omega | exact rfl | exact Nat.le_refl _ | (show _ + 1 ≤ 4294967296; omega) | (dsimp only; omega) | (show (_ : Int) ≤ (_ : Int); omega) | (show _ < List.length _; simp only [List.length_set, List.length_append, List.length_take]; omega) | (show wantB _ _ = true; simp; done) | (show wantB _ _ = true; simp; omega) | (show (_ : Bool) = _; simp_all; done) | (exfalso; omega) | fail))
  have hol : (natL ord).length = n := by rw [natL_len, F.len, hn]
  let S : Nat → List AO := fun m => [.box [.fz int a.1, .fz int a.2.1, .fz (.list int) a.2.2], .box [.fz (.list int) fill, .fz (.list int) (lst n (fun i => wayN w i (to i))), .fz (.list int) (natL ord)], .row int (lst n (gaN to ord rain m)), .box [.ref 2 0 n], .box [.fz (.list int) (natL ord)]]
  refine ⟨[(3, .ptr 0 0), (4, .ptr 1 0), (7, .ptr 3 0), (16, .fn 61 [.ptr 4 0])], S 0, 4, natL ord, S, Ent.sub ?_ ?_, ⟨rfl, rfl⟩, rfl, by omega, by omega, rfl, fun _ _ => rfl, fun _ _ => rfl, ?_, ?_⟩
  · (repeat' (first | exact rfl | refine cons_eq ?_ ?_))
    exact congrArg (fun z => AO.box [.ref 2 0 z]) hr
  · (repeat' (first | exact trivial | exact rfl | refine And.intro ?_ ?_))
  · intro m j hmj
    rw [hol] at hmj
    have hjo : j < ord.length := by rw [F.len]; omega
    obtain ⟨c, hc⟩ : ∃ c, c = ord[j] := ⟨_, rfl⟩
    have hcm : c ∈ ord := by rw [hc]; exact List.getElem_mem _
    have hcn : c < n := by have := (F.mem c).1 hcm; omega
    have hcv : (natL ord)[j]?.getD 0 = (c : Int) := by rw [hc]; exact natL_get ord hjo
    have hck : ord.getD (ord.length - 1 - m) 0 = c := by
      have : ord.length - 1 - m = j := by rw [F.len]; omega
      rw [this, hc, List.getD_eq_getElem?_getD, List.getElem?_eq_getElem hjo]; rfl
    have hG := lst_len n (gaN to ord rain m)
    have g2 : (lst n (fun i => wayN w i (to i)))[c]?.getD int.dft = wayN w c (to c) := lst_get _ hcn
    have hL := lst_len n (fun i => wayN w i (to i))
    rw [hcv]
    by_cases hto : to c = c
    · have hw8 : wayN w c (to c) = 8 := by rw [hto, way_self]
      have eS : gaN to ord rain (m + 1) = gaN to ord rain m := by
        funext i
        show (if to (ord.getD (ord.length - 1 - m) 0) ≠ ord.getD (ord.length - 1 - m) 0 ∧ i = to (ord.getD (ord.length - 1 - m) 0) then _ else _) = _
        rw [hck, if_neg (fun x => x.1 hto)]
      (repeat' (first | exact trivial | exact fun h => h | refine And.intro ?_ ?_ | (intro hb; first | (simp at hb; done) | (simp at hb) | skip) | omega | exact rfl | exact Nat.le_refl _ | (show _ + 1 ≤ 4294967296; omega) | (dsimp only; omega) | (show (_ : Int) ≤ (_ : Int); omega) | (show _ < List.length _; simp only [List.length_set, List.length_append, List.length_take]; omega) | (show wantB _ _ = true; simp; done) | (show wantB _ _ = true; simp; omega) | (show (_ : Bool) = _; simp_all; done) | (exfalso; omega) | refine aRegion_auto (by decide +kernel) ?_ | fail))
      refine ⟨(), Ent.sub ?_ trivial⟩
      show S m = S (m + 1)
      show [_, _, AO.row int (lst n (gaN to ord rain m)), _, _] = [_, _, AO.row int (lst n (gaN to ord rain (m + 1))), _, _]
      rw [eS]
    · obtain ⟨v, hv8, hwv, hnb⟩ := way_to (w := w) (h := h) (i := c) (t := to c) (by omega) (by have := F.lt c (by omega); omega) (touchN_symm (F.touch c (by omega) hto))
      have htn := F.lt c (by omega)
      have g2' : List.getD (lst n (fun i => wayN w i (to i))) (Int.toNat (c : Int)) int.dft = wayN w c (to c) := lst_at _ hcn
      (repeat' (first | exact trivial | exact fun h => h | refine And.intro ?_ ?_ | (intro hb; first | (simp at hb; done) | (simp at hb) | skip) | omega | exact rfl | exact Nat.le_refl _ | (show _ + 1 ≤ 4294967296; omega) | (dsimp only; omega) | (show (_ : Int) ≤ (_ : Int); omega) | (show _ < List.length _; simp only [List.length_set, List.length_append, List.length_take]; omega) | (show wantB _ _ = true; simp; done) | (show wantB _ _ = true; simp; omega) | (show (_ : Bool) = _; simp_all; done) | (exfalso; omega) | refine aRegion_auto (by decide +kernel) ?_ | fail))
      rw [g2', hwv]
      apply exEff
      · refine acall_conv [.dat RasT, .keep, .keep] _ _ _ rfl trivial (acall_frame0 rfl (neighbour_any _ a R c v (by omega) hv8 _ (fun u hu => ?_) (fun hnone => ?_)))
        · rw [hnb] at hu; cases hu; exact ⟨rfl, rfl⟩
        · rw [hnb] at hnone; cases hnone
      have q1 : List.getD (lst n (gaN to ord rain m)) (0 + Int.toNat ((to c : Nat) : Int)) int.dft = gaN to ord rain m (to c) := by rw [Nat.zero_add, Int.toNat_natCast]; exact lst_at _ (by omega)
      have q2 : List.getD (lst n (gaN to ord rain m)) (0 + Int.toNat (c : Int)) int.dft = gaN to ord rain m c := by rw [Nat.zero_add, Int.toNat_natCast]; exact lst_at _ hcn
      have b1 := hbd m (to c) (by omega) (by omega)
      have b2 := hbd m c (by omega) hcn
      (repeat' (first | exact trivial | exact fun h => h | refine And.intro ?_ ?_ | (intro hb; first | (simp at hb; done) | (simp at hb) | skip) | omega | exact rfl | exact Nat.le_refl _ | (show _ + 1 ≤ 4294967296; omega) | (dsimp only; omega) | (show (_ : Int) ≤ (_ : Int); omega) | (show _ < List.length _; simp only [List.length_set, List.length_append, List.length_take]; omega) | (show wantB _ _ = true; simp; done) | (show wantB _ _ = true; simp; omega) | (show (_ : Bool) = _; simp_all; done) | (exfalso; omega) | refine aRegion_auto (by decide +kernel) ?_ | fail))
      · (apply exEff; focus (repeat' (first | exact ⟨rfl, rfl⟩ | exact trivial | refine And.intro ?_ ?_ | omega | exact Nat.le_refl _ | (show _ + 1 ≤ 4294967296; omega))))
        (repeat' (first | exact trivial | exact fun h => h | refine And.intro ?_ ?_ | (intro hb; first | (simp at hb; done) | (simp at hb) | skip) | omega | exact rfl | exact Nat.le_refl _ | (show _ + 1 ≤ 4294967296; omega) | (dsimp only; omega) | (show (_ : Int) ≤ (_ : Int); omega) | (show _ < List.length _; simp only [List.length_set, List.length_append, List.length_take]; omega) | (show wantB _ _ = true; simp; done) | (show wantB _ _ = true; simp; omega) | (show (_ : Bool) = _; simp_all; done) | (exfalso; omega) | refine aRegion_auto (by decide +kernel) ?_ | fail))
        refine ⟨(), Ent.sub ?_ trivial⟩
        show [_, _, AO.row int _, _, _] = [_, _, AO.row int (lst n (gaN to ord rain (m + 1))), _, _]
        (repeat' (first | exact rfl | refine cons_eq ?_ ?_))
        refine row_set1 (k := to c) (f := gaN to ord rain m) (g := gaN to ord rain (m + 1)) (gaN to ord rain m (to c) + gaN to ord rain m c) ?_ fun i hi => ?_
        · show List.getD (lst n (gaN to ord rain m)) (0 + Int.toNat ((to c : Nat) : Int)) int.dft + List.getD (lst n (gaN to ord rain m)) (0 + Int.toNat (c : Int)) int.dft = _
          rw [q1, q2]
        · show _ = (if to (ord.getD (ord.length - 1 - m) 0) ≠ ord.getD (ord.length - 1 - m) 0 ∧ i = to (ord.getD (ord.length - 1 - m) 0) then gaN to ord rain m i + gaN to ord rain m (ord.getD (ord.length - 1 - m) 0) else gaN to ord rain m i)
          rw [hck]
          by_cases e : i = to c
          · rw [if_pos e, if_pos ⟨hto, e⟩, e]
          · rw [if_neg e, if_neg (fun x => e x.2)]
  · rw [hol]
    show awp _ _ _ _
    (repeat' (first | exact trivial | exact fun h => h | refine And.intro ?_ ?_ | (intro hb; first | (simp at hb; done) | (simp at hb) | skip) | omega | exact rfl | exact Nat.le_refl _ | (show _ + 1 ≤ 4294967296; omega) | (dsimp only; omega) | (show (_ : Int) ≤ (_ : Int); omega) | (show _ < List.length _; simp only [List.length_set, List.length_append, List.length_take]; omega) | (show wantB _ _ = true; simp; done) | (show wantB _ _ = true; simp; omega) | (show (_ : Bool) = _; simp_all; done) | (exfalso; omega) | refine aRegion_auto (by decide +kernel) ?_ | fail))
    refine ⟨_, _, REnt.ren [2] rfl ?_ ?_, hK⟩
    · (repeat' (first | exact trivial | exact rfl | refine And.intro ?_ ?_))
    · (repeat' (first | exact trivial | exact rfl | refine And.intro ?_ ?_))
end Go.Proofs.YtepkknjncpbahaaDoor
/-
  What gathers: the program's is the document's. Plain.
-/
namespace Go.Proofs.YtepkknjncpbahaaDoor
open Go Go.Ab
def sumN : Nat → (Nat → Int) → Int
  | 0, _ => 0
  | n + 1, f => sumN n f + f n
theorem sumN_congr {f g : Nat → Int} : ∀ n, (∀ i, i < n → f i = g i) → sumN n f = sumN n g
  | 0, _ => rfl
  | n + 1, h => by unfold sumN; rw [sumN_congr n fun i hi => h i (by omega), h n (by omega)]
theorem sumN_add (f g : Nat → Int) : ∀ n, sumN n (fun i => f i + g i) = sumN n f + sumN n g
  | 0 => rfl
  | n + 1 => by
    show sumN n (fun i => f i + g i) + (f n + g n) = (sumN n f + f n) + (sumN n g + g n)
    rw [sumN_add f g n]; omega
theorem sumN_bd {f : Nat → Int} {B : Nat} : ∀ n, (∀ i, i < n → 0 ≤ f i ∧ f i ≤ B) → 0 ≤ sumN n f ∧ sumN n f ≤ (n * B : Nat)
  | 0, _ => by unfold sumN; omega
  | n + 1, h => by
    unfold sumN
    have h1 := sumN_bd n fun i hi => h i (by omega)
    have h2 := h n (by omega)
    have : (n + 1) * B = n * B + B := Nat.succ_mul n B
    omega
theorem sumN_zero : ∀ n, sumN n (fun _ => 0) = 0
  | 0 => rfl
  | n + 1 => by unfold sumN; rw [sumN_zero n]; rfl
theorem sumN_one (f : Nat → Int) (j : Nat) : ∀ n, j < n → sumN n (fun i => if (i == j) = true then f i else 0) = f j
  | 0, h => by omega
  | n + 1, h => by
    unfold sumN
    by_cases e : j = n
    · subst e
      have : sumN j (fun i => if (i == j) = true then f i else 0) = 0 := by
        rw [sumN_congr (g := fun _ => 0) j fun i hi => by rw [if_neg (by simp; omega)], sumN_zero]
      rw [this]; simp
    · rw [sumN_one f j n (by omega)]
      show f j + (if (n == j) = true then f n else 0) = f j
      rw [if_neg (by simp; omega)]; omega
section
variable {w h : Nat} {to : Nat → Nat} {ord : List Nat}
def kAt (ord : List Nat) (m : Nat) : Nat := ord.getD (ord.length - 1 - m) 0
/-- the cells at which what rains on i has been when m cells are over -/
def memN (to : Nat → Nat) (ord : List Nat) : Nat → Nat → Nat → Bool
  | 0, i, j => i == j
  | m + 1, i, j => memN to ord m i j || (decide (to (kAt ord m) ≠ kAt ord m) && j == to (kAt ord m) && memN to ord m i (kAt ord m))
theorem memN_succ {m i j : Nat} : memN to ord (m + 1) i j = true ↔ memN to ord m i j = true ∨ (to (kAt ord m) ≠ kAt ord m ∧ j = to (kAt ord m) ∧ memN to ord m i (kAt ord m) = true) := by
  rw [memN]; simp [and_assoc]
theorem FlowN.kAt (F : FlowN w h to ord) {m : Nat} (hm : m < w * h) : kAt ord m < w * h ∧ ord.idxOf (kAt ord m) = w * h - 1 - m := by
  have hl : ord.length - 1 - m < ord.length := by rw [F.len]; omega
  have e : Go.Proofs.YtepkknjncpbahaaDoor.kAt ord m = ord[ord.length - 1 - m] := by unfold Go.Proofs.YtepkknjncpbahaaDoor.kAt; rw [List.getD_eq_getElem?_getD, List.getElem?_eq_getElem hl]; rfl
  rw [e]
  exact ⟨(F.mem _).1 (List.getElem_mem _), by rw [F.nodup.idxOf_getElem _ hl, F.len]⟩
theorem FlowN.kAt_idx (F : FlowN w h to ord) {j : Nat} (hj : j < w * h) : Go.Proofs.YtepkknjncpbahaaDoor.kAt ord (w * h - 1 - ord.idxOf j) = j := by
  have hx := F.idx hj
  unfold Go.Proofs.YtepkknjncpbahaaDoor.kAt
  have : ord.length - 1 - (w * h - 1 - ord.idxOf j) = ord.idxOf j := by rw [F.len]; omega
  rw [this, List.getD_eq_getElem?_getD, List.getElem?_eq_getElem (List.idxOf_lt_length_of_mem ((F.mem j).2 hj)), List.getElem_idxOf]
  rfl
theorem FlowN.mem_one (F : FlowN w h to ord) {i : Nat} : ∀ m, m ≤ w * h → ∀ j j', memN to ord m i j = true → memN to ord m i j' = true → ord.idxOf j < w * h - m → ord.idxOf j' < w * h - m → j = j'
  | 0, _, j, j', h1, h2, _, _ => by
    unfold memN at h1 h2
    simp at h1 h2; omega
  | m + 1, hm, j, j', h1, h2, h3, h4 => by
    obtain ⟨k1, k2⟩ := F.kAt (m := m) (by omega)
    rw [memN_succ] at h1 h2
    rcases h1 with h1 | ⟨a1, a2, a3⟩
    · rcases h2 with h2 | ⟨b1, b2, b3⟩
      · exact F.mem_one m (by omega) j j' h1 h2 (by omega) (by omega)
      · have := F.mem_one m (by omega) j _ h1 b3 (by omega) (by omega)
        rw [this] at h3; omega
    · rcases h2 with h2 | ⟨b1, b2, b3⟩
      · have := F.mem_one m (by omega) j' _ h2 a3 (by omega) (by omega)
        rw [this] at h4; omega
      · rw [a2, b2]
theorem FlowN.ga_sum (F : FlowN w h to ord) (rain : Nat → Int) : ∀ m, m ≤ w * h → ∀ j, j < w * h → gaN to ord rain m j = sumN (w * h) (fun i => if memN to ord m i j = true then rain i else 0)
  | 0, _, j, hj => by
    show rain j = _
    exact (sumN_one rain j (w * h) hj).symm
  | m + 1, hm, j, hj => by
    obtain ⟨k1, k2⟩ := F.kAt (m := m) (by omega)
    show (if to (Go.Proofs.YtepkknjncpbahaaDoor.kAt ord m) ≠ Go.Proofs.YtepkknjncpbahaaDoor.kAt ord m ∧ j = to (Go.Proofs.YtepkknjncpbahaaDoor.kAt ord m) then gaN to ord rain m j + gaN to ord rain m (Go.Proofs.YtepkknjncpbahaaDoor.kAt ord m) else gaN to ord rain m j) = _
    by_cases c : to (Go.Proofs.YtepkknjncpbahaaDoor.kAt ord m) ≠ Go.Proofs.YtepkknjncpbahaaDoor.kAt ord m ∧ j = to (Go.Proofs.YtepkknjncpbahaaDoor.kAt ord m)
    · rw [if_pos c, F.ga_sum rain m (by omega) j hj, F.ga_sum rain m (by omega) _ k1, ← sumN_add]
      have hp := F.pos _ k1 c.1
      refine sumN_congr _ fun i hi => ?_
      by_cases h1 : memN to ord m i j = true
      · by_cases h2 : memN to ord m i (Go.Proofs.YtepkknjncpbahaaDoor.kAt ord m) = true
        · have := F.mem_one m (by omega) j _ h1 h2 (by rw [c.2]; omega) (by omega)
          exact absurd (c.2.symm.trans this) c.1
        · rw [if_pos h1, if_neg h2, if_pos (memN_succ.2 (.inl h1))]; omega
      · by_cases h2 : memN to ord m i (Go.Proofs.YtepkknjncpbahaaDoor.kAt ord m) = true
        · rw [if_neg h1, if_pos h2, if_pos (memN_succ.2 (.inr ⟨c.1, c.2, h2⟩))]; omega
        · rw [if_neg h1, if_neg h2, if_neg (fun hs => (memN_succ.1 hs).elim h1 fun hs => h2 hs.2.2)]; omega
    · rw [if_neg c, F.ga_sum rain m (by omega) j hj]
      refine sumN_congr _ fun i hi => ?_
      by_cases h1 : memN to ord m i j = true
      · rw [if_pos h1, if_pos (memN_succ.2 (.inl h1))]
      · rw [if_neg h1, if_neg (fun hs => (memN_succ.1 hs).elim h1 fun hs => c ⟨hs.1, hs.2.1⟩)]
/-! ### the way of what rains on one cell -/
def itF (to : Nat → Nat) : Nat → Nat → Nat
  | 0, i => i
  | t + 1, i => to (itF to t i)
theorem memN_mono {m m' i j : Nat} (h : memN to ord m i j = true) : ∀ d, m' = m + d → memN to ord m' i j = true
  | 0, e => by subst e; exact h
  | d + 1, e => by subst e; exact memN_succ.2 (.inl (memN_mono h d rfl))
theorem FlowN.mem_in (F : FlowN w h to ord) {i j : Nat} (hj : j < w * h) : ∀ m, m ≤ w * h → memN to ord m i j = true → w * h - 1 - ord.idxOf j ≤ m → memN to ord (w * h - 1 - ord.idxOf j) i j = true
  | 0, _, hh, hx => by
    have : w * h - 1 - ord.idxOf j = 0 := by omega
    rw [this]; exact hh
  | m + 1, hm, hh, hx => by
    by_cases e : w * h - 1 - ord.idxOf j = m + 1
    · rw [e]; exact hh
    · obtain ⟨k1, k2⟩ := F.kAt (m := m) (by omega)
      rcases memN_succ.1 hh with hh | ⟨a1, a2, _⟩
      · exact F.mem_in hj m (by omega) hh (by omega)
      · have := F.pos _ k1 a1
        rw [← a2] at this
        omega
theorem FlowN.mem_to (F : FlowN w h to ord) {i j : Nat} (hj : j < w * h) (hm : memN to ord (w * h) i j = true) (ht : to j ≠ j) : memN to ord (w * h) i (to j) = true := by
  have h1 := F.mem_in hj _ (Nat.le_refl _) hm (by omega)
  have hk := F.kAt_idx hj
  have hx := F.idx hj
  have h2 : memN to ord (w * h - 1 - ord.idxOf j + 1) i (to j) = true := memN_succ.2 (.inr (by rw [hk]; exact ⟨ht, rfl, h1⟩))
  exact memN_mono h2 (ord.idxOf j) (by omega)
theorem itF_mem {i t : Nat} (hstop : to (itF to t i) = itF to t i) : ∀ m j, memN to ord m i j = true → ∃ s, s ≤ t ∧ itF to s i = j
  | 0, j, h => ⟨0, by omega, by unfold memN at h; show i = j; simpa using h⟩
  | m + 1, j, h => by
    rcases memN_succ.1 h with h | ⟨a1, a2, a3⟩
    · exact itF_mem hstop m j h
    · obtain ⟨s, h1, h2⟩ := itF_mem hstop m _ a3
      have : s ≠ t := fun e => by subst e; rw [h2] at hstop; exact a1 hstop
      exact ⟨s + 1, by omega, by show to (itF to s i) = j; rw [h2, a2]⟩
theorem FlowN.it_lt (F : FlowN w h to ord) {i : Nat} (hi : i < w * h) : ∀ t, itF to t i < w * h
  | 0 => hi
  | t + 1 => F.lt _ (F.it_lt hi t)
theorem FlowN.mem_it (F : FlowN w h to ord) {i : Nat} (hi : i < w * h) : ∀ t, (∀ s, s < t → to (itF to s i) ≠ itF to s i) → memN to ord (w * h) i (itF to t i) = true
  | 0, _ => memN_mono (m := 0) (by unfold memN; simp [itF]) (w * h) (by omega)
  | t + 1, hs => F.mem_to (F.it_lt hi t) (F.mem_it hi t fun s h => hs s (by omega)) (hs t (by omega))
theorem FlowN.it_down (F : FlowN w h to ord) {i : Nat} (hi : i < w * h) {t : Nat} (hs : ∀ s, s < t → to (itF to s i) ≠ itF to s i) : ∀ s, s < t → ord.idxOf (itF to t i) < ord.idxOf (itF to s i) := by
  induction t with
  | zero => intro s h; omega
  | succ t ih =>
    intro s h
    have h1 := F.pos _ (F.it_lt hi t) (hs t (by omega))
    show ord.idxOf (to (itF to t i)) < _
    by_cases e : s = t
    · subst e; exact h1
    · have := ih (fun s h => hs s (by omega)) s (by omega)
      omega
end
end Go.Proofs.YtepkknjncpbahaaDoor
