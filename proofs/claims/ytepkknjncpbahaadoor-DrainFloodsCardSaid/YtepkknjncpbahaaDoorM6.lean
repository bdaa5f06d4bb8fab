/-
  Is a raster right: in one piece; slices.Clone.
-/
import Derived.Test.YtepkknjncpbahaaDoorM5
import Derived.LaidHandle
import Derived.LaidSub
import Derived.Test.YtepkknjncpbahaaDoorChecked
import Derived.WalkKit
import Derived.ProofKit
import Derived.OpenShut
import Derived.Carry
import Derived.Test.YtepkknjncpbahaaDoorTie
import Derived.Test.YtepkknjncpbahaaDoorCards
import Derived.SevenTiedAt
import Derived.LaidMore
import Derived.Lay
import Derived.Deep.Slices
import Derived.Lib.SmallJoins
import Derived.Stop.Joined
namespace Go.Proofs.YtepkknjncpbahaaDoor
open Go Go.Ab
set_option maxRecDepth 100000
theorem valid1 (E : Errs) (a : Ras) (hl : a.2.2.length ≤ 1000000000000) (K : AV → List AO → Prop) (hK : K (.fz .raw (er E (rerr a))) []) : ACall Tryd.prog (G8 E) 53 [.fz RasT a] [] K :=
  up8 (valid_any E a hl K (fun h => by rw [h] at hK; exact hK) (fun h => by rw [h] at hK; exact hK) (fun h => by rw [h] at hK; exact hK) (fun h => by rw [h] at hK; exact hK))
theorem clone_any (G : List (Nat × Value)) (xs : List Int) (hn : 0 < xs.length) (hl : xs.length ≤ 4294967296) (K : AV → List AO → Prop) (hK : K (.ref 0 0 xs.length) [.row int xs]) :
    ACall Tryd.prog G 54 [.fz (.list int) xs] [] K := by
  refine acall_mk (E := envAt G 8 0) (envOk _ _ _) Tryd.func54 rfl rfl rfl rfl rfl ?_
  (repeat' (first | exact trivial | exact fun h => h | refine And.intro ?_ ?_ | (intro hb; first | (simp at hb; done) | (simp at hb) | skip) | omega | exact rfl | exact Nat.le_refl _ | (show _ + 1 ≤ 4294967296; omega) | (dsimp only; omega) | (show (_ : Int) ≤ (_ : Int); omega) | (show _ < List.length _; simp only [List.length_set, List.length_append, List.length_take]; omega) | (show wantB _ _ = true; simp; done) | (show wantB _ _ = true; simp; omega) | (show (_ : Bool) = _; simp_all; done) | (exfalso; omega) | refine aRegion_auto (by decide +kernel) ?_ | fail))
  refine ⟨.ref 0 0 xs.length, [.row int xs], REnt.ren [1] rfl ?_ ?_, hK⟩
  · (repeat' (first | exact trivial | exact rfl | refine And.intro ?_ ?_))
  · (repeat' (first | exact trivial | exact rfl | refine And.intro ?_ ?_))
    exact congrArg (AV.ref 1 0) (Nat.zero_add xs.length)
end Go.Proofs.YtepkknjncpbahaaDoor
/-
  The program's flood: the walk.
-/
namespace Go.Proofs.YtepkknjncpbahaaDoor
open Go Go.Ab
set_option maxRecDepth 100000
def P1 (w h k i : Nat) : Int := if i < k then (if rimN w h i then 8 else -1) else 0
def fResP (w h : Nat) (a : Ras) : List Int × List Int × List Int := (lst (w * h) (flD w h (hts a)).fill, lst (w * h) (fun i => wayN w i ((flD w h (hts a)).to i)), natL (flD w h (hts a)).ord)
set_option maxHeartbeats 8000000 in
theorem flood_ok (E : Errs) (a : Ras) (hv : rerr a = 0) {w h : Nat} (R : RasN a w h) (K : AV → List AO → Prop) (hK : K (.tup [.fz FT (fResP w h a), .fz .raw .nilIface]) []) :
    ACall Tryd.prog (G8 E) 37 [.fz RasT a] [] K := by
  have hl := R.len
  have hwh := R.wh
  have hpos : 0 < w * h := Nat.mul_pos R.w0 R.h0
  obtain ⟨n, hn⟩ : ∃ n, n = w * h := ⟨_, rfl⟩
  rw [← hn] at hl hwh hpos
  let bA : AO := .box [.fz int a.1, .fz int a.2.1, .fz (.list int) a.2.2]
  let bR : AO := .box [.nilSl, .nilSl, .nilSl]
  let rm : AO := .room
  let Z : AO := .row int (List.replicate a.2.2.length 0)
  let C : AO := .row int a.2.2
  let B1 : AO := .box [.ref 4 0 a.2.2.length, .ref 2 0 a.2.2.length, .nilSl]
  refine acall_mk (E := envAt (G8 E) 119 0) (envOk _ _ _) Tryd.func37 rfl rfl rfl rfl rfl ?_
  (repeat' (first | exact trivial | exact fun h => h | refine And.intro ?_ ?_ | (intro hb; first | (simp at hb; done) | (simp at hb) | skip) | omega | exact rfl | exact Nat.le_refl _ | (show _ + 1 ≤ 4294967296; omega) | (dsimp only; omega) | (show (_ : Int) ≤ (_ : Int); omega) | (show _ < List.length _; simp only [List.length_set, List.length_append, List.length_take]; omega) | (show wantB _ _ = true; simp; done) | (show wantB _ _ = true; simp; omega) | (show (_ : Bool) = _; simp_all; done) | (exfalso; omega) | fail))
  refine acall_conv [.dat RasT] _ _ _ rfl trivial (acall_frame0 rfl (valid1 E a (by omega) _ ?_))
  rw [hv]
  (repeat' (first | exact trivial | exact fun h => h | refine And.intro ?_ ?_ | (intro hb; first | (simp at hb; done) | (simp at hb) | skip) | omega | exact rfl | exact Nat.le_refl _ | (show _ + 1 ≤ 4294967296; omega) | (dsimp only; omega) | (show (_ : Int) ≤ (_ : Int); omega) | (show _ < List.length _; simp only [List.length_set, List.length_append, List.length_take]; omega) | (show wantB _ _ = true; simp; done) | (show wantB _ _ = true; simp; omega) | (show (_ : Bool) = _; simp_all; done) | (exfalso; omega) | fail))
  refine aRegion_open 2 (by decide +kernel) ?_
  (repeat' (first | exact trivial | exact fun h => h | refine And.intro ?_ ?_ | (intro hb; first | (simp at hb; done) | (simp at hb) | skip) | omega | exact rfl | exact Nat.le_refl _ | (show _ + 1 ≤ 4294967296; omega) | (dsimp only; omega) | (show (_ : Int) ≤ (_ : Int); omega) | (show _ < List.length _; simp only [List.length_set, List.length_append, List.length_take]; omega) | (show wantB _ _ = true; simp; done) | (show wantB _ _ = true; simp; omega) | (show (_ : Bool) = _; simp_all; done) | (exfalso; omega) | refine aRegion_auto (by decide +kernel) ?_ | fail))
  refine eff_is (.ref 4 0 a.2.2.length) [bA, bR, rm, rm, C] ?_
  (repeat' (first | exact trivial | exact fun h => h | refine And.intro ?_ ?_ | (intro hb; first | (simp at hb; done) | (simp at hb) | skip) | omega | exact rfl | exact Nat.le_refl _ | (show _ + 1 ≤ 4294967296; omega) | (dsimp only; omega) | (show (_ : Int) ≤ (_ : Int); omega) | (show _ < List.length _; simp only [List.length_set, List.length_append, List.length_take]; omega) | (show wantB _ _ = true; simp; done) | (show wantB _ _ = true; simp; omega) | (show (_ : Bool) = _; simp_all; done) | (exfalso; omega) | refine aRegion_auto (by decide +kernel) ?_ | fail))
  refine eff_is (.ref 2 0 a.2.2.length) [bA, bR, Z, rm, C] ?_
  (repeat' (first | exact trivial | exact fun h => h | refine And.intro ?_ ?_ | (intro hb; first | (simp at hb; done) | (simp at hb) | skip) | omega | exact rfl | exact Nat.le_refl _ | (show _ + 1 ≤ 4294967296; omega) | (dsimp only; omega) | (show (_ : Int) ≤ (_ : Int); omega) | (show _ < List.length _; simp only [List.length_set, List.length_append, List.length_take]; omega) | (show wantB _ _ = true; simp; done) | (show wantB _ _ = true; simp; omega) | (show (_ : Bool) = _; simp_all; done) | (exfalso; omega) | refine aRegion_auto (by decide +kernel) ?_ | fail))
  refine eff_is (.ptr 3 0) [bA, bR, Z, bR, C] ?_
  (repeat' (first | exact trivial | exact fun h => h | refine And.intro ?_ ?_ | (intro hb; first | (simp at hb; done) | (simp at hb) | skip) | omega | exact rfl | exact Nat.le_refl _ | (show _ + 1 ≤ 4294967296; omega) | (dsimp only; omega) | (show (_ : Int) ≤ (_ : Int); omega) | (show _ < List.length _; simp only [List.length_set, List.length_append, List.length_take]; omega) | (show wantB _ _ = true; simp; done) | (show wantB _ _ = true; simp; omega) | (show (_ : Bool) = _; simp_all; done) | (exfalso; omega) | refine aRegion_auto (by decide +kernel) ?_ | fail))
  refine eff_is .unk [bA, bR, Z, B1, C] ?_
  refine ⟨[(0, [bA, bR, rm, rm]), (4, [bA, bR, rm, rm, C]), (64, [bA, bR, Z, rm]), (256, [bA, bR, rm, bR]), (68, [bA, bR, Z, rm, C]), (260, [bA, bR, rm, bR, C]), (320, [bA, bR, Z, bR]), (324, [bA, bR, Z, bR, C]), (836, [bA, bR, Z, B1, C])], rfl, rfl, ?_, ?_⟩
  · (repeat' (first | refine And.intro ?_ ?_ | exact trivial | exact rfl | omega))
    all_goals first
      | (refine view_of [0, 1, 4, 3] rfl ?_ rfl rfl; (repeat' (first | exact trivial | exact rfl | refine And.intro ?_ ?_)); done)
      | (refine view_of [0, 1, 2, 4] rfl ?_ rfl rfl; (repeat' (first | exact trivial | exact rfl | refine And.intro ?_ ?_)); done)
      | (refine view_of [0, 1, 5, 3, 4] rfl ?_ rfl rfl; (repeat' (first | exact trivial | exact rfl | refine And.intro ?_ ?_)); done)
      | (refine view_of [0, 1, 2, 5, 4] rfl ?_ rfl rfl; (repeat' (first | exact trivial | exact rfl | refine And.intro ?_ ?_)); done)
      | (refine view_of [0, 1, 2, 3, 4] rfl ?_ rfl rfl; (repeat' (first | exact trivial | exact rfl | refine And.intro ?_ ?_)); done)
      | (refine acall_frame0 rfl (clone_any _ a.2.2 (by omega) (by omega) _ ?_); refine view_of [0, 1, 2, 3, 4] rfl ?_ rfl rfl; (repeat' (first | exact trivial | exact rfl | refine And.intro ?_ ?_)); done)
  (repeat' (first | exact trivial | exact fun h => h | refine And.intro ?_ ?_ | (intro hb; first | (simp at hb; done) | (simp at hb) | skip) | omega | exact rfl | exact Nat.le_refl _ | (show _ + 1 ≤ 4294967296; omega) | (dsimp only; omega) | (show (_ : Int) ≤ (_ : Int); omega) | (show _ < List.length _; simp only [List.length_set, List.length_append, List.length_take]; omega) | (show wantB _ _ = true; simp; done) | (show wantB _ _ = true; simp; omega) | (show (_ : Bool) = _; simp_all; done) | (exfalso; omega) | refine aRegion_auto (by decide +kernel) ?_ | fail))
  refine ⟨Nat × List P2, fun x => ⟨[(1, .ptr 0 0), (2, .ptr 1 0), (5, .ptr 3 0), (6, .ptr 5 0), (28, .fz int n), (29, .fz int x.1)], [bA, bR, .row int (lst n (P1 w h x.1)), .box [.ref 4 0 n, .ref 2 0 n, .nilSl], .row int (lst n (hts a)), .box [.ref 6 0 x.2.length], .row WT x.2]⟩,
    fun x => x.1 ≤ n ∧ HeapB x.2.length x.2 ∧ AllW x.2 ∧ x.2.Perm (WL x.1 (fun i => decide (rimN w h i)) (hts a)), fun x => n - x.1, (0, []), ⟨Nat.zero_le _, (fun i _ hi => absurd hi (Nat.not_lt_zero _) : HeapB 0 []), (fun p hp => absurd hp (by simp) : AllW []), List.Perm.refl _⟩, (Ent.nilBox 5 0 WT rfl rfl).trans (Ent.sub ?_ ?_), ?_⟩
  · show [bA, bR, .row int (List.replicate a.2.2.length 0), .box [.ref 4 0 a.2.2.length, .ref 2 0 a.2.2.length, .nilSl], .row int a.2.2, .box [.ref 6 0 0], .row WT []] = _
    have e : a.2.2 = lst n (hts a) := by rw [← hl]; exact lst_eq _
    rw [hl, lst_zero]
    (repeat' (first | exact rfl | refine cons_eq ?_ ?_))
    exact congrArg (AO.row int) e
  · (repeat' (first | exact trivial | exact rfl | refine And.intro ?_ ?_))
    exact congrArg (fun z : Nat => AV.fz int (z : Int)) hl
  · rintro ⟨k, xs⟩ ⟨hk, hh, ha, hp⟩
    simp only at hk hh ha hp
    have hT := lst_len n (P1 w h k)
    have hLn := lst_len n (hts a)
    have hxl : xs.length ≤ k := by rw [hp.length_eq]; exact WL_len
    (repeat' (first | exact trivial | exact fun h => h | refine And.intro ?_ ?_ | (intro hb; first | (simp at hb; done) | (simp at hb) | skip) | omega | exact rfl | exact Nat.le_refl _ | (show _ + 1 ≤ 4294967296; omega) | (dsimp only; omega) | (show (_ : Int) ≤ (_ : Int); omega) | (show _ < List.length _; simp only [List.length_set, List.length_append, List.length_take]; omega) | (show wantB _ _ = true; simp; done) | (show wantB _ _ = true; simp; omega) | (show (_ : Bool) = _; simp_all; done) | (exfalso; omega) | refine aRegion_auto (by decide +kernel) ?_ | fail))
    · have hkn : k < n := by assumption
      refine acall_conv [.dat RasT, .keep] _ _ _ rfl trivial (acall_frame0 rfl (rim_any _ a R k (by omega) _ ?_))
      (repeat' (first | exact trivial | exact fun h => h | refine And.intro ?_ ?_ | (intro hb; first | (simp at hb; done) | (simp at hb) | skip) | omega | exact rfl | exact Nat.le_refl _ | (show _ + 1 ≤ 4294967296; omega) | (dsimp only; omega) | (show (_ : Int) ≤ (_ : Int); omega) | (show _ < List.length _; simp only [List.length_set, List.length_append, List.length_take]; omega) | (show wantB _ _ = true; simp; done) | (show wantB _ _ = true; simp; omega) | (show (_ : Bool) = _; simp_all; done) | (exfalso; omega) | refine aRegion_auto (by decide +kernel) ?_ | fail))
      · have hbd := R.at k
        refine acall_frame [5, 6] (hA xs.length xs) [hI, agW (hts a k, (k : Int))] rfl ⟨⟨rfl, rfl⟩, ⟨rfl, trivial⟩, trivial⟩ ⟨rfl, rfl⟩ rfl (heapPush_any _ xs xs.length (hts a k, (k : Int)) (by omega) (Nat.le_refl _) hh ha ?_ _ fun ys e1 e2 e3 e4 => ?_)
        · exact ⟨hbd.1, hbd.2, by show (0 : Int) ≤ k; omega, by show (k : Int) < 65536; omega⟩
        (repeat' (first | exact trivial | exact fun h => h | refine And.intro ?_ ?_ | (intro hb; first | (simp at hb; done) | (simp at hb) | skip) | omega | exact rfl | exact Nat.le_refl _ | (show _ + 1 ≤ 4294967296; omega) | (dsimp only; omega) | (show (_ : Int) ≤ (_ : Int); omega) | (show _ < List.length _; simp only [List.length_set, List.length_append, List.length_take]; omega) | (show wantB _ _ = true; simp; done) | (show wantB _ _ = true; simp; omega) | (show (_ : Bool) = _; simp_all; done) | (exfalso; omega) | refine aRegion_auto (by decide +kernel) ?_ | fail))
        refine ⟨(k + 1, ys), ⟨by show k + 1 ≤ n; omega, by show HeapB ys.length ys; rw [e1]; exact e3, e4, ?_⟩, by show n - (k + 1) < n - k; omega, Ent.ren [0, 1, 2, 3, 4, 5, 7] rfl ?_ ?_⟩
        · rw [List.take_length] at e2
          show ys.Perm (WL (k + 1) _ _)
          rw [WL_succ, if_pos (by simpa using hb)]
          exact e2.trans (hp.append_right _)
        · (repeat' (first | exact trivial | exact rfl | refine And.intro ?_ ?_))
          · refine congrArg some (row_set2 (k := k) (f := P1 w h k) (g := P1 w h (k + 1)) 8 rfl fun i hi => ?_)
            unfold P1
            by_cases e : i = k
            · subst e; rw [if_pos rfl, if_pos (show i < i + 1 by omega), if_pos hb]
            · rw [if_neg e]; by_cases e2 : i < k
              · rw [if_pos e2, if_pos (show i < k + 1 by omega)]
              · rw [if_neg e2, if_neg (show ¬ i < k + 1 by omega)]
          · exact congrArg (fun z => some (AO.box [AV.ref 7 0 z])) (show xs.length + 1 = ys.length from e1.symm)
        · (repeat' (first | exact trivial | exact rfl | refine And.intro ?_ ?_))
      · refine ⟨(k + 1, xs), ⟨by show k + 1 ≤ n; omega, hh, ha, ?_⟩, by show n - (k + 1) < n - k; omega, Ent.sub ?_ ?_⟩
        · show xs.Perm (WL (k + 1) _ _)
          rw [WL_succ, if_neg (by simpa using hb), List.append_nil]
          exact hp
        · (repeat' (first | exact rfl | refine cons_eq ?_ ?_))
          · refine row_set1 (k := k) (f := P1 w h k) (g := P1 w h (k + 1)) (-1) rfl fun i hi => ?_
            unfold P1
            by_cases e : i = k
            · subst e; rw [if_pos rfl, if_pos (show i < i + 1 by omega), if_neg hb]
            · rw [if_neg e]; by_cases e2 : i < k
              · rw [if_pos e2, if_pos (show i < k + 1 by omega)]
              · rw [if_neg e2, if_neg (show ¬ i < k + 1 by omega)]
        · (repeat' (first | exact trivial | exact rfl | refine And.intro ?_ ?_))
    · have hk2 : k = n := by omega
      subst hk2
      (repeat' (first | exact trivial | exact fun h => h | refine And.intro ?_ ?_ | (intro hb; first | (simp at hb; done) | (simp at hb) | skip) | omega | exact rfl | exact Nat.le_refl _ | (show _ + 1 ≤ 4294967296; omega) | (dsimp only; omega) | (show (_ : Int) ≤ (_ : Int); omega) | (show _ < List.length _; simp only [List.length_set, List.length_append, List.length_take]; omega) | (show wantB _ _ = true; simp; done) | (show wantB _ _ = true; simp; omega) | (show (_ : Bool) = _; simp_all; done) | (exfalso; omega) | refine aRegion_auto (by decide +kernel) ?_ | fail))
      refine ⟨Nat × Nat × List P2, fun x => ⟨[(1, .ptr 0 0), (2, .ptr 1 0), (5, .ptr 3 0), (6, .ptr 5 0)], [bA, bR, .row int (lst k (floI w (flN w h (hts a) x.1))), .box [.ref 4 0 k, .ref 2 0 k, .ref 7 0 x.1], .row int (lst k (filI (hts a) (flN w h (hts a) x.1))), .box [.ref 6 0 x.2.1], .row WT x.2.2, .row int (natL (flN w h (hts a) x.1).ord)]⟩,
        fun x => x.1 ≤ k ∧ x.2.1 ≤ x.2.2.length ∧ HeapB x.2.1 x.2.2 ∧ AllW x.2.2 ∧ (x.2.2.take x.2.1).Perm (wts k (flN w h (hts a) x.1)), fun x => k - x.1, (0, xs.length, xs), ⟨Nat.zero_le _, Nat.le_refl _, hh, ha, ?_⟩, (Ent.nilBox 3 2 int rfl rfl).trans (Ent.sub ?_ ?_), ?_⟩
      · show (xs.take xs.length).Perm _
        rw [List.take_length]
        refine hp.trans (List.Perm.of_eq (WL_congr (fun i hi => ?_) (fun i hi hr => ?_)))
        · show decide (rimN w h i) = decide ((if rimN w h i then 1 else 0) = 1)
          by_cases e : rimN w h i <;> simp [e]
        · show hts a i = if rimN w h i then hts a i else 0
          rw [if_pos (by simpa using hr)]
      · (repeat' (first | exact rfl | refine cons_eq ?_ ?_))
        · refine row_lst fun i hi => ?_
          have e0 : (flN w h (hts a) 0).st i = if rimN w h i then 1 else 0 := rfl
          have e1 : (flN w h (hts a) 0).to i = i := rfl
          simp only [P1, floI, e0, e1, if_pos hi, way_self]
          by_cases e : rimN w h i <;> simp [e]
        · refine row_lst fun i hi => ?_
          have e0 : (flN w h (hts a) 0).st i = if rimN w h i then 1 else 0 := rfl
          have e1 : (flN w h (hts a) 0).fill i = if rimN w h i then hts a i else 0 := rfl
          simp only [filI, e0, e1]
          by_cases e : rimN w h i <;> simp [e]
      · (repeat' (first | exact trivial | exact rfl | refine And.intro ?_ ?_))
      clear hh ha hp hxl hT
      rintro ⟨j, m, xs⟩ ⟨hj, hm, hh, ha, hp⟩
      simp only at hj hm hh ha hp
      obtain ⟨I, hol⟩ := flN_ok w h (hts a) R.w0 j (by omega)
      have hol' := natL_len (flN w h (hts a) j).ord
      have hml : m ≤ k := by
        have := hp.length_eq
        rw [List.length_take, Nat.min_eq_left hm] at this
        rw [this]; exact WL_len
      have hT := lst_len k (floI w (flN w h (hts a) j))
      have hF := lst_len k (filI (hts a) (flN w h (hts a) j))
      cases m with
      | zero =>
        have hjk : j = k := by
          apply Decidable.byContradiction
          intro hne
          obtain ⟨b, hb1, hb2, hb3⟩ := @flN_best w h (hts a) R.w0 j (by omega)
          have hmem : ((flN w h (hts a) j).fill b, ((b : Nat) : Int)) ∈ wts k (flN w h (hts a) j) := WL_mem.2 ⟨b, by have := hb2.1; omega, by rw [hb2.2.1]; rfl, rfl⟩
          have := hp.mem_iff.2 hmem
          simp at this
        subst hjk
        have hOl : (natL (flN w h (hts a) j).ord).length = j := by rw [hol', hol]
        (repeat' (first | exact trivial | exact fun h => h | refine And.intro ?_ ?_ | (intro hb; first | (simp at hb; done) | (simp at hb) | skip) | omega | exact rfl | exact Nat.le_refl _ | (show _ + 1 ≤ 4294967296; omega) | (dsimp only; omega) | (show (_ : Int) ≤ (_ : Int); omega) | (show _ < List.length _; simp only [List.length_set, List.length_append, List.length_take]; omega) | (show wantB _ _ = true; simp; done) | (show wantB _ _ = true; simp; omega) | (show (_ : Bool) = _; simp_all; done) | (exfalso; omega) | refine aRegion_auto (by decide +kernel) ?_ | fail))
        refine ⟨_, _, (REnt.conv [.dat FT, .keep] _ rfl ?_).trans (REnt.drop ⟨rfl, rfl⟩), ?_⟩
        · exact ⟨by show 0 + j ≤ _; rw [hF]; omega, by show 0 + j ≤ _; rw [hT]; omega, by show 0 + j ≤ _; rw [hOl]; omega⟩
        · have hall := flD_all w h (hts a) R.w0
          refine (congrArg (fun x => K (.tup [.fz FT x, .fz .raw .nilIface]) []) (?_ : fResP w h a = (List.take j (List.drop 0 (lst j (filI (hts a) (flN w h (hts a) j)))), List.take j (List.drop 0 (lst j (floI w (flN w h (hts a) j)))), List.take j (List.drop 0 (natL (flN w h (hts a) j).ord))))).mp hK
          rw [List.drop_zero, List.drop_zero, List.drop_zero, List.take_of_length_le (by omega), List.take_of_length_le (by omega), List.take_of_length_le (by omega)]
          unfold fResP flD
          unfold flD at hall
          rw [← hn] at hall ⊢
          have e1 : lst j (fun i => wayN w i ((flN w h (hts a) j).to i)) = lst j (floI w (flN w h (hts a) j)) := lst_congr fun i hi => by
            unfold floI; rw [if_neg (by rw [hall i hi]; omega)]
          have e2 : lst j (flN w h (hts a) j).fill = lst j (filI (hts a) (flN w h (hts a) j)) := lst_congr fun i hi => by
            unfold filI; rw [if_neg (by rw [hall i hi]; omega)]
          rw [e1, e2]
      | succ m =>
        have hjk : j < k := by
          apply Decidable.byContradiction
          intro hne
          have : j = k := by omega
          subst this
          have hall := flD_all w h (hts a) R.w0
          have hlen := hp.length_eq
          rw [List.length_take, Nat.min_eq_left hm] at hlen
          have : wts j (flN w h (hts a) j) = [] := by
            rw [List.eq_nil_iff_forall_not_mem]
            intro x hx
            obtain ⟨i, h1, h2, _⟩ := WL_mem.1 hx
            have h3 := hall i (by omega)
            unfold flD at h3
            rw [← hn] at h3
            rw [h3] at h2; simp at h2
          rw [this] at hlen; simp at hlen
        obtain ⟨b, hb1, hb2, hb3⟩ := @flN_best w h (hts a) R.w0 j (by omega)
        (repeat' (first | exact trivial | exact fun h => h | refine And.intro ?_ ?_ | (intro hb; first | (simp at hb; done) | (simp at hb) | skip) | omega | exact rfl | exact Nat.le_refl _ | (show _ + 1 ≤ 4294967296; omega) | (dsimp only; omega) | (show (_ : Int) ≤ (_ : Int); omega) | (show _ < List.length _; simp only [List.length_set, List.length_append, List.length_take]; omega) | (show wantB _ _ = true; simp; done) | (show wantB _ _ = true; simp; omega) | (show (_ : Bool) = _; simp_all; done) | (exfalso; omega) | refine aRegion_auto (by decide +kernel) ?_ | fail))
        refine acall_frame [5, 6] (hA (m + 1) xs) [hI] rfl ⟨⟨rfl, rfl⟩, ⟨rfl, trivial⟩, trivial⟩ ⟨rfl, rfl⟩ rfl (heapPop_any _ xs m (by omega) hm hh ha _ fun ys e1 e2 e3 e4 e5 => ?_)
        obtain ⟨hbk, hbs, _⟩ := id hb2
        rw [← hn] at hb2
        have hbn : b < k := by omega
        have tk : ys.take (m + 1) = ys.take m ++ [at2 ys m] := by
          rw [List.take_succ_eq_append_getElem (by omega)]
          simp [at2, List.getD, show m < ys.length by omega]
        have hpy : (ys.take m ++ [at2 ys m]).Perm (wts k (flN w h (hts a) j)) := by rw [← tk]; exact e2.trans hp
        have xm : at2 ys m = ((flN w h (hts a) j).fill b, ((b : Nat) : Int)) := by
          obtain ⟨i, h1, h2, h3⟩ := WL_mem.1 (hpy.mem_iff.1 (by simp : at2 ys m ∈ ys.take m ++ [at2 ys m]))
          have h2 : (flN w h (hts a) j).st i = 1 := by simpa using h2
          have hmem : ((flN w h (hts a) j).fill b, ((b : Nat) : Int)) ∈ ys.take m ++ [at2 ys m] := hpy.mem_iff.2 (WL_mem.2 ⟨b, hbn, by rw [hbs]; rfl, rfl⟩)
          have hkey : key (at2 ys m) ≤ key ((flN w h (hts a) j).fill b, ((b : Nat) : Int)) := by
            rcases List.mem_append.1 hmem with hmem | hmem
            · obtain ⟨k', hk', he⟩ := List.getElem_of_mem hmem
              have hk2 : k' < m := by simp at hk'; omega
              have hky : key (at2 ys m) ≤ key (at2 ys k') := e5 k' hk2
              have e : at2 ys k' = ((flN w h (hts a) j).fill b, ((b : Nat) : Int)) := by
                rw [← he]; simp [at2, List.getD, show k' < ys.length by omega]
              rw [e] at hky; exact hky
            · simp at hmem; rw [hmem]; exact Int.le_refl _
          rw [h3] at hkey ⊢
          have hib := best_key (w := w) (h := h) (by omega) (by rw [hn] at hb2; exact hb2) (by omega) h2 hkey
          rw [hib]
        have hp0 : (ys.take m).Perm (wts k (flQ w h (hts a) (flN w h (hts a) j) b 0)) := by
          have h1 := wts_take (w := w) (h := h) (L := hts a) (S := (flN w h (hts a) j)) (b := b) (by omega) hbs
          rw [← hn] at h1
          rw [xm] at hpy
          exact List.perm_append_right_iff _ |>.1 (hpy.trans h1)
        have hbW := e4.at m
        rw [xm] at hbW ⊢
        have hmy : m ≤ ys.length := by omega
        clear hp e2 e5 hpy tk ha hh hm
        have hOl : (natL (flN w h (hts a) j).ord).length = j := by rw [hol', hol]
        (repeat' (first | exact trivial | exact fun h => h | refine And.intro ?_ ?_ | (intro hb; first | (simp at hb; done) | (simp at hb) | skip) | omega | exact rfl | exact Nat.le_refl _ | (show _ + 1 ≤ 4294967296; omega) | (dsimp only; omega) | (show (_ : Int) ≤ (_ : Int); omega) | (show _ < List.length _; simp only [List.length_set, List.length_append, List.length_take]; omega) | (show wantB _ _ = true; simp; done) | (show wantB _ _ = true; simp; omega) | (show (_ : Bool) = _; simp_all; done) | (exfalso; omega) | refine aRegion_auto (by decide +kernel) ?_ | fail))
        refine ⟨Nat × Nat × List P2, fun x => ⟨[(1, .ptr 0 0), (2, .ptr 1 0), (5, .ptr 3 0), (6, .ptr 5 0), (8, .ptr 8 0), (67, .fz int x.1)], [bA, bR, .row int (lst k (floI w (flQ w h (hts a) (flN w h (hts a) j) b x.1))), .box [.ref 4 0 k, .ref 2 0 k, .ref 7 0 (j + 1)], .row int (lst k (filI (hts a) (flQ w h (hts a) (flN w h (hts a) j) b x.1))), .box [.ref 6 0 x.2.1], .row WT x.2.2, .row int (natL ((flN w h (hts a) j).ord ++ [b])), .box [.fz int ((flN w h (hts a) j).fill b), .fz int b]]⟩,
          fun x => x.1 ≤ 8 ∧ x.2.1 ≤ x.2.2.length ∧ HeapB x.2.1 x.2.2 ∧ AllW x.2.2 ∧ (x.2.2.take x.2.1).Perm (wts k (flQ w h (hts a) (flN w h (hts a) j) b x.1)), fun x => 8 - x.1, (0, m, ys), ⟨Nat.zero_le _, hmy, e3, e4, hp0⟩, Ent.ren [0, 1, 2, 3, 4, 5, 6, 10, 8] rfl ?_ ?_, ?_⟩
        · (repeat' (first | exact trivial | exact rfl | refine And.intro ?_ ?_))
          · refine congrArg some (row_lst fun i hi => ?_)
            unfold floI; rw [flQ_st, flQ_to, show visB w h b 0 i = false from rfl]
            by_cases hib : i = b
            · subst hib; simp [hbs]
            · simp [hib]
          · refine congrArg some (row_lst fun i hi => ?_)
            unfold filI; rw [flQ_st, flQ_fill, show visB w h b 0 i = false from rfl]
            by_cases hib : i = b
            · subst hib; simp [hbs]
            · simp [hib]
          · refine congrArg (fun l => some (AO.row int l)) (?_ : List.take j (natL (flN w h (hts a) j).ord) ++ [(b : Int)] = natL ((flN w h (hts a) j).ord ++ [b]))
            rw [List.take_of_length_le (by omega)]
            simp [natL]
        · (repeat' (first | exact trivial | exact rfl | refine And.intro ?_ ?_))
        clear xm e1 e3 e4 hp0 hmy ys
        rintro ⟨q, m, ys⟩ ⟨hq, hm, hh, ha, hp⟩
        simp only at hq hm hh ha hp
        have hT := lst_len k (floI w (flQ w h (hts a) (flN w h (hts a) j) b q))
        have hF := lst_len k (filI (hts a) (flQ w h (hts a) (flN w h (hts a) j) b q))
        have hml : m ≤ k := by
          have := hp.length_eq
          rw [List.length_take, Nat.min_eq_left hm] at this
          rw [this]; exact WL_len
        by_cases hq8 : q < 8
        · have skip : (∀ t, nbN w h b q = some t → (flQ w h (hts a) (flN w h (hts a) j) b q).st t ≠ 0) → lst k (floI w (flQ w h (hts a) (flN w h (hts a) j) b q)) = lst k (floI w (flQ w h (hts a) (flN w h (hts a) j) b (q + 1))) ∧ lst k (filI (hts a) (flQ w h (hts a) (flN w h (hts a) j) b q)) = lst k (filI (hts a) (flQ w h (hts a) (flN w h (hts a) j) b (q + 1))) ∧ wts k (flQ w h (hts a) (flN w h (hts a) j) b q) = wts k (flQ w h (hts a) (flN w h (hts a) j) b (q + 1)) := fun h0 =>
            rows_eq fun i hi => by obtain ⟨x1, x2, x3⟩ := flQ_skip (L := hts a) hbs h0 i; exact ⟨x1.symm, x2.symm, x3.symm⟩
          (repeat' (first | exact trivial | exact fun h => h | refine And.intro ?_ ?_ | (intro hb; first | (simp at hb; done) | (simp at hb) | skip) | omega | exact rfl | exact Nat.le_refl _ | (show _ + 1 ≤ 4294967296; omega) | (dsimp only; omega) | (show (_ : Int) ≤ (_ : Int); omega) | (show _ < List.length _; simp only [List.length_set, List.length_append, List.length_take]; omega) | (show wantB _ _ = true; simp; done) | (show wantB _ _ = true; simp; omega) | (show (_ : Bool) = _; simp_all; done) | (exfalso; omega) | refine aRegion_auto (by decide +kernel) ?_ | fail))
          refine acall_conv [.dat RasT, .keep, .keep] _ _ _ rfl trivial (acall_frame0 rfl (neighbour_any _ a R b q (by omega) hq8 _ (fun u hu => ?_) (fun hnone => ?_)))
          · have hun : u < k := by have := (nb_cell (by omega) hu).1; omega
            have g1 : (lst k (floI w (flQ w h (hts a) (flN w h (hts a) j) b q)))[u]?.getD int.dft = floI w (flQ w h (hts a) (flN w h (hts a) j) b q) u := lst_get _ hun
            have g2 := flo_nn (q := q) I (b := b) (by omega) hbs (by omega) (i := u) (by omega)
            have hLu : u < a.2.2.length := by omega
            have pv : ∀ v, List.getD (List.set (lst k (filI (hts a) (flQ w h (hts a) (flN w h (hts a) j) b q))) (0 + Int.toNat (u : Int)) v) (0 + Int.toNat (u : Int)) int.dft = v := fun v => by
              rw [Nat.zero_add, Int.toNat_natCast, List.getD_eq_getElem?_getD, List.getElem?_set_self (by omega)]; rfl
            (repeat' (first | exact trivial | exact fun h => h | refine And.intro ?_ ?_ | (intro hb; first | (simp at hb; done) | (simp at hb) | skip) | omega | exact rfl | exact Nat.le_refl _ | (show _ + 1 ≤ 4294967296; omega) | (dsimp only; omega) | (show (_ : Int) ≤ (_ : Int); omega) | (show _ < List.length _; simp only [List.length_set, List.length_append, List.length_take]; omega) | (show wantB _ _ = true; simp; done) | (show wantB _ _ = true; simp; omega) | (show (_ : Bool) = _; simp_all; done) | (exfalso; omega) | refine aRegion_auto (by decide +kernel) ?_ | fail))
            · obtain ⟨s1, s2, s3⟩ := skip (fun t ht => by rw [hu] at ht; cases ht; exact g2.1 (by omega))
              refine ⟨(q + 1, m, ys), ⟨by show q + 1 ≤ 8; omega, hm, hh, ha, by rw [← s3]; exact hp⟩, by show 8 - (q + 1) < 8 - q; omega, Ent.sub ?_ ?_⟩
              · show [bA, bR, .row int (lst k (floI w (flQ w h (hts a) (flN w h (hts a) j) b q))), .box [.ref 4 0 k, .ref 2 0 k, .ref 7 0 (j + 1)], .row int (lst k (filI (hts a) (flQ w h (hts a) (flN w h (hts a) j) b q))), _, _, _, _] = [bA, bR, .row int (lst k (floI w (flQ w h (hts a) (flN w h (hts a) j) b (q + 1)))), .box [.ref 4 0 k, .ref 2 0 k, .ref 7 0 (j + 1)], .row int (lst k (filI (hts a) (flQ w h (hts a) (flN w h (hts a) j) b (q + 1)))), _, _, _, _]
                rw [s1, s2]
              · (repeat' (first | exact trivial | exact rfl | refine And.intro ?_ ?_))
            · have hst0 : (flQ w h (hts a) (flN w h (hts a) j) b q).st u = 0 := by
                apply Decidable.byContradiction
                intro hne
                have := g2.2 hne
                omega
              have hrow := rows_new (w := w) (h := h) (L := hts a) (S := (flN w h (hts a) j)) (b := b) (q := q) (by omega) hbs hq8 hu hst0
              have hwn := wts_new (w := w) (h := h) (L := hts a) (S := (flN w h (hts a) j)) (b := b) (q := q) (by omega) hbs hq8 hu hst0
              rw [← hn] at hwn
              have hub := R.at u
              (apply exEff; focus (repeat' (first | exact ⟨rfl, rfl⟩ | exact trivial | refine And.intro ?_ ?_ | omega | exact Nat.le_refl _ | (show _ + 1 ≤ 4294967296; omega))))
              (repeat' (first | exact trivial | exact fun h => h | refine And.intro ?_ ?_ | (intro hb; first | (simp at hb; done) | (simp at hb) | skip) | omega | exact rfl | exact Nat.le_refl _ | (show _ + 1 ≤ 4294967296; omega) | (dsimp only; omega) | (show (_ : Int) ≤ (_ : Int); omega) | (show _ < List.length _; simp only [List.length_set, List.length_append, List.length_take]; omega) | (show wantB _ _ = true; simp; done) | (show wantB _ _ = true; simp; omega) | (show (_ : Bool) = _; simp_all; done) | (exfalso; omega) | refine aRegion_auto (by decide +kernel) ?_ | fail))
              refine acall_frame [5, 6] (hA m ys) [hI, agW (max (hts a u) ((flN w h (hts a) j).fill b), (u : Int))] rfl ⟨⟨rfl, rfl⟩, ⟨rfl, trivial⟩, trivial⟩ ⟨rfl, rfl⟩ ?_ (heapPush_any _ ys m (max (hts a u) ((flN w h (hts a) j).fill b), (u : Int)) (by omega) hm hh ha ?_ _ fun zs e1 e2 e3 e4 => ?_)
              · exact congrArg (fun z => [AV.ifc 94 (.ptr 5 0), .ifc 96 (.agg [.fz int z, .fz int u])]) (pv _)
              · unfold okW at hbW ⊢
                simp only at hbW ⊢
                have : hts a u = a.2.2.getD u 0 := rfl
                omega
              · (repeat' (first | exact trivial | exact fun h => h | refine And.intro ?_ ?_ | (intro hb; first | (simp at hb; done) | (simp at hb) | skip) | omega | exact rfl | exact Nat.le_refl _ | (show _ + 1 ≤ 4294967296; omega) | (dsimp only; omega) | (show (_ : Int) ≤ (_ : Int); omega) | (show _ < List.length _; simp only [List.length_set, List.length_append, List.length_take]; omega) | (show wantB _ _ = true; simp; done) | (show wantB _ _ = true; simp; omega) | (show (_ : Bool) = _; simp_all; done) | (exfalso; omega) | refine aRegion_auto (by decide +kernel) ?_ | fail))
                refine ⟨(q + 1, m + 1, zs), ⟨by show q + 1 ≤ 8; omega, by show m + 1 ≤ zs.length; omega, e3, e4, ?_⟩, by show 8 - (q + 1) < 8 - q; omega, Ent.ren [0, 1, 2, 3, 4, 5, 9, 7, 8] rfl ?_ ?_⟩
                · show (zs.take (m + 1)).Perm _
                  rw [List.take_of_length_le (by omega)]
                  exact (e2.trans (hp.append_right _)).trans hwn.symm
                · (repeat' (first | exact trivial | exact rfl | refine And.intro ?_ ?_))
                  · refine congrArg some (row_set1 (k := u) (f := floI w (flQ w h (hts a) (flN w h (hts a) j) b q)) (g := floI w (flQ w h (hts a) (flN w h (hts a) j) b (q + 1))) (((q : Int) + 4) % 8) ?_ fun i hi => (hrow i).1)
                    exact (show Int.tmod ((q : Int) + 4) 8 = ((q : Int) + 4) % 8 from Int.tmod_eq_emod_of_nonneg (by omega))
                  · exact congrArg some (row_set1 (k := u) (f := filI (hts a) (flQ w h (hts a) (flN w h (hts a) j) b q)) (g := filI (hts a) (flQ w h (hts a) (flN w h (hts a) j) b (q + 1))) (max (hts a u) ((flN w h (hts a) j).fill b)) rfl fun i hi => (hrow i).2)
                · (repeat' (first | exact trivial | exact rfl | refine And.intro ?_ ?_))
          · obtain ⟨s1, s2, s3⟩ := skip (fun t ht => by rw [hnone] at ht; cases ht)
            (repeat' (first | exact trivial | exact fun h => h | refine And.intro ?_ ?_ | (intro hb; first | (simp at hb; done) | (simp at hb) | skip) | omega | exact rfl | exact Nat.le_refl _ | (show _ + 1 ≤ 4294967296; omega) | (dsimp only; omega) | (show (_ : Int) ≤ (_ : Int); omega) | (show _ < List.length _; simp only [List.length_set, List.length_append, List.length_take]; omega) | (show wantB _ _ = true; simp; done) | (show wantB _ _ = true; simp; omega) | (show (_ : Bool) = _; simp_all; done) | (exfalso; omega) | refine aRegion_auto (by decide +kernel) ?_ | fail))
            refine ⟨(q + 1, m, ys), ⟨by show q + 1 ≤ 8; omega, hm, hh, ha, by rw [← s3]; exact hp⟩, by show 8 - (q + 1) < 8 - q; omega, Ent.sub ?_ ?_⟩
            · show [bA, bR, .row int (lst k (floI w (flQ w h (hts a) (flN w h (hts a) j) b q))), .box [.ref 4 0 k, .ref 2 0 k, .ref 7 0 (j + 1)], .row int (lst k (filI (hts a) (flQ w h (hts a) (flN w h (hts a) j) b q))), _, _, _, _] = [bA, bR, .row int (lst k (floI w (flQ w h (hts a) (flN w h (hts a) j) b (q + 1)))), .box [.ref 4 0 k, .ref 2 0 k, .ref 7 0 (j + 1)], .row int (lst k (filI (hts a) (flQ w h (hts a) (flN w h (hts a) j) b (q + 1)))), _, _, _, _]
              rw [s1, s2]
            · (repeat' (first | exact trivial | exact rfl | refine And.intro ?_ ?_))
        · have hq8 : q = 8 := by omega
          subst hq8
          (repeat' (first | exact trivial | exact fun h => h | refine And.intro ?_ ?_ | (intro hb; first | (simp at hb; done) | (simp at hb) | skip) | omega | exact rfl | exact Nat.le_refl _ | (show _ + 1 ≤ 4294967296; omega) | (dsimp only; omega) | (show (_ : Int) ≤ (_ : Int); omega) | (show _ < List.length _; simp only [List.length_set, List.length_append, List.length_take]; omega) | (show wantB _ _ = true; simp; done) | (show wantB _ _ = true; simp; omega) | (show (_ : Bool) = _; simp_all; done) | (exfalso; omega) | refine aRegion_auto (by decide +kernel) ?_ | fail))
          have hfin := fun i (hi : i < k) => flQ_end (w := w) (h := h) (L := hts a) (S := (flN w h (hts a) j)) (b := b) (by omega) (i := i) (by omega)
          obtain ⟨s1, s2, s3⟩ := rows_eq (w := w) (L := hts a) (n := k) hfin
          refine ⟨(j + 1, m, ys), ⟨by show j + 1 ≤ k; omega, hm, hh, ha, by show (ys.take m).Perm (wts k (flN w h (hts a) (j + 1))); rw [hb3, ← s3]; exact hp⟩, by show k - (j + 1) < k - j; omega, Ent.ren [0, 1, 2, 3, 4, 5, 6, 7] rfl ?_ ?_⟩
          · (repeat' (first | exact trivial | exact rfl | refine And.intro ?_ ?_))
            · refine congrArg (fun l => some (AO.row int l)) (?_ : lst k (floI w (flQ w h (hts a) (flN w h (hts a) j) b 8)) = lst k (floI w (flN w h (hts a) (j + 1))))
              rw [hb3]; exact s1
            · refine congrArg (fun l => some (AO.row int l)) (?_ : lst k (filI (hts a) (flQ w h (hts a) (flN w h (hts a) j) b 8)) = lst k (filI (hts a) (flN w h (hts a) (j + 1))))
              rw [hb3]; exact s2
            · refine congrArg (fun l => some (AO.row int l)) (?_ : natL ((flN w h (hts a) j).ord ++ [b]) = natL (flN w h (hts a) (j + 1)).ord)
              rw [hb3]; rfl
          · (repeat' (first | exact trivial | exact rfl | refine And.intro ?_ ?_))
end Go.Proofs.YtepkknjncpbahaaDoor
/-
  What the program says of a flood; the document's ways.
-/
namespace Go.Proofs.YtepkknjncpbahaaDoor
open Go Go.Ab
set_option maxRecDepth 100000
def flP (a : Ras) : List Int × List Int × List Int := if rerr a = 0 then fResP a.1.toNat a.2.1.toNat a else ([], [], [])
theorem flP_len (a : Ras) : (flP a).1.length ≤ 1000000000000 ∧ (flP a).2.1.length ≤ 1000000000000 ∧ (flP a).2.2.length ≤ 1000000000000 := by
  unfold flP
  by_cases hv : rerr a = 0
  · rw [if_pos hv]
    have R := RasN.mk' hv
    have := R.wh
    have ho := (flN_ok a.1.toNat a.2.1.toNat (hts a) R.w0 (a.1.toNat * a.2.1.toNat) (Nat.le_refl _)).2
    unfold fResP flD
    simp only [lst_len, natL_len, ho]
    omega
  · rw [if_neg hv]; simp
theorem flood_one (E : Errs) (a : Ras) (hl : a.2.2.length ≤ 1000000000000) (K : AV → List AO → Prop) (hK : K (.tup [.fz FT (flP a), .fz .raw (er E (rerr a))]) []) :
    ACall Tryd.prog (G8 E) 37 [.fz RasT a] [] K := by
  unfold flP at hK
  by_cases hv : rerr a = 0
  · rw [if_pos hv, hv] at hK
    exact flood_ok E a hv (RasN.mk' hv) K hK
  · rw [if_neg hv] at hK
    have h4 := rerr_in a
    refine acall_mk (E := envAt (G8 E) 119 0) (envOk _ _ _) Tryd.func37 rfl rfl rfl rfl rfl ?_
    (repeat' (first | exact trivial | exact fun h => h | refine And.intro ?_ ?_ | (intro hb; first | (simp at hb; done) | (simp at hb) | skip) | omega | exact rfl | exact Nat.le_refl _ | (show _ + 1 ≤ 4294967296; omega) | (dsimp only; omega) | (show (_ : Int) ≤ (_ : Int); omega) | (show _ < List.length _; simp only [List.length_set, List.length_append, List.length_take]; omega) | (show wantB _ _ = true; simp; done) | (show wantB _ _ = true; simp; omega) | (show (_ : Bool) = _; simp_all; done) | (exfalso; omega) | fail))
    refine acall_conv [.dat RasT] _ _ _ rfl trivial (acall_frame0 rfl (valid1 E a hl _ ?_))
    obtain h | h | h | h : rerr a = 1 ∨ rerr a = 2 ∨ rerr a = 3 ∨ rerr a = 4 := by omega
    all_goals
      rw [h] at hK ⊢
      (repeat' (first | exact trivial | exact fun h => h | refine And.intro ?_ ?_ | (intro hb; first | (simp at hb; done) | (simp at hb) | skip) | omega | exact rfl | exact Nat.le_refl _ | (show _ + 1 ≤ 4294967296; omega) | (dsimp only; omega) | (show (_ : Int) ≤ (_ : Int); omega) | (show _ < List.length _; simp only [List.length_set, List.length_append, List.length_take]; omega) | (show wantB _ _ = true; simp; done) | (show wantB _ _ = true; simp; omega) | (show (_ : Bool) = _; simp_all; done) | (exfalso; omega) | fail))
      refine ⟨_, _, (REnt.conv [.dat FT, .keep] _ rfl trivial).trans (REnt.drop ⟨rfl, rfl⟩), ?_⟩
      exact hK
def fillQ (a : Ras) : Ras := if rerr a = 0 then (a.1, a.2.1, (flP a).1) else (0, 0, [])
theorem fill_one (E : Errs) (a : Ras) (hl : a.2.2.length ≤ 1000000000000) (K : AV → List AO → Prop) (hK : K (.tup [.fz RasT (fillQ a), .fz .raw (er E (rerr a))]) []) :
    ACall Tryd.prog (G8 E) 12 [.fz RasT a] [] K := by
  unfold fillQ at hK
  have h4 := rerr_in a
  refine acall_mk (E := envAt (G8 E) 22 0) (envOk _ _ _) Tryd.func12 rfl rfl rfl rfl rfl ?_
  (repeat' (first | exact trivial | exact fun h => h | refine And.intro ?_ ?_ | (intro hb; first | (simp at hb; done) | (simp at hb) | skip) | omega | exact rfl | exact Nat.le_refl _ | (show _ + 1 ≤ 4294967296; omega) | (dsimp only; omega) | (show (_ : Int) ≤ (_ : Int); omega) | (show _ < List.length _; simp only [List.length_set, List.length_append, List.length_take]; omega) | (show wantB _ _ = true; simp; done) | (show wantB _ _ = true; simp; omega) | (show (_ : Bool) = _; simp_all; done) | (exfalso; omega) | fail))
  refine acall_conv [.dat RasT] _ _ _ rfl trivial (acall_frame0 rfl (flood_one E a hl _ ?_))
  obtain h | h | h | h | h : rerr a = 0 ∨ rerr a = 1 ∨ rerr a = 2 ∨ rerr a = 3 ∨ rerr a = 4 := by omega
  all_goals
    rw [h] at hK ⊢
    (repeat' (first | exact trivial | exact fun h => h | refine And.intro ?_ ?_ | (intro hb; first | (simp at hb; done) | (simp at hb) | skip) | omega | exact rfl | exact Nat.le_refl _ | (show _ + 1 ≤ 4294967296; omega) | (dsimp only; omega) | (show (_ : Int) ≤ (_ : Int); omega) | (show _ < List.length _; simp only [List.length_set, List.length_append, List.length_take]; omega) | (show wantB _ _ = true; simp; done) | (show wantB _ _ = true; simp; omega) | (show (_ : Bool) = _; simp_all; done) | (exfalso; omega) | fail))
    refine ⟨_, _, (REnt.conv [.dat RasT, .keep] _ rfl trivial).trans (REnt.drop ⟨rfl, rfl⟩), ?_⟩
    exact hK
theorem flow_one (E : Errs) (a : Ras) (hl : a.2.2.length ≤ 1000000000000) (K : AV → List AO → Prop) (hK : K (.tup [.fz (.list int) (flP a).2.1, .fz .raw (er E (rerr a))]) []) :
    ACall Tryd.prog (G8 E) 18 [.fz RasT a] [] K := by
  refine acall_mk (E := envAt (G8 E) 14 0) (envOk _ _ _) Tryd.func18 rfl rfl rfl rfl rfl ?_
  (repeat' (first | exact trivial | exact fun h => h | refine And.intro ?_ ?_ | (intro hb; first | (simp at hb; done) | (simp at hb) | skip) | omega | exact rfl | exact Nat.le_refl _ | (show _ + 1 ≤ 4294967296; omega) | (dsimp only; omega) | (show (_ : Int) ≤ (_ : Int); omega) | (show _ < List.length _; simp only [List.length_set, List.length_append, List.length_take]; omega) | (show wantB _ _ = true; simp; done) | (show wantB _ _ = true; simp; omega) | (show (_ : Bool) = _; simp_all; done) | (exfalso; omega) | fail))
  refine acall_conv [.dat RasT] _ _ _ rfl trivial (acall_frame0 rfl (flood_one E a hl _ ?_))
  (repeat' (first | exact trivial | exact fun h => h | refine And.intro ?_ ?_ | (intro hb; first | (simp at hb; done) | (simp at hb) | skip) | omega | exact rfl | exact Nat.le_refl _ | (show _ + 1 ≤ 4294967296; omega) | (dsimp only; omega) | (show (_ : Int) ≤ (_ : Int); omega) | (show _ < List.length _; simp only [List.length_set, List.length_append, List.length_take]; omega) | (show wantB _ _ = true; simp; done) | (show wantB _ _ = true; simp; omega) | (show (_ : Bool) = _; simp_all; done) | (exfalso; omega) | fail))
  refine ⟨_, _, REnt.drop ⟨rfl, rfl⟩, ?_⟩
  exact hK
theorem order_one (E : Errs) (a : Ras) (hl : a.2.2.length ≤ 1000000000000) (K : AV → List AO → Prop) (hK : K (.tup [.fz (.list int) (flP a).2.2, .fz .raw (er E (rerr a))]) []) :
    ACall Tryd.prog (G8 E) 19 [.fz RasT a] [] K := by
  refine acall_mk (E := envAt (G8 E) 14 0) (envOk _ _ _) Tryd.func19 rfl rfl rfl rfl rfl ?_
  (repeat' (first | exact trivial | exact fun h => h | refine And.intro ?_ ?_ | (intro hb; first | (simp at hb; done) | (simp at hb) | skip) | omega | exact rfl | exact Nat.le_refl _ | (show _ + 1 ≤ 4294967296; omega) | (dsimp only; omega) | (show (_ : Int) ≤ (_ : Int); omega) | (show _ < List.length _; simp only [List.length_set, List.length_append, List.length_take]; omega) | (show wantB _ _ = true; simp; done) | (show wantB _ _ = true; simp; omega) | (show (_ : Bool) = _; simp_all; done) | (exfalso; omega) | fail))
  refine acall_conv [.dat RasT] _ _ _ rfl trivial (acall_frame0 rfl (flood_one E a hl _ ?_))
  (repeat' (first | exact trivial | exact fun h => h | refine And.intro ?_ ?_ | (intro hb; first | (simp at hb; done) | (simp at hb) | skip) | omega | exact rfl | exact Nat.le_refl _ | (show _ + 1 ≤ 4294967296; omega) | (dsimp only; omega) | (show (_ : Int) ≤ (_ : Int); omega) | (show _ < List.length _; simp only [List.length_set, List.length_append, List.length_take]; omega) | (show wantB _ _ = true; simp; done) | (show wantB _ _ = true; simp; omega) | (show (_ : Bool) = _; simp_all; done) | (exfalso; omega) | fail))
  refine ⟨_, _, REnt.drop ⟨rfl, rfl⟩, ?_⟩
  exact hK
theorem wayOf_any (G : List (Nat × Value)) (a : Ras) {w h : Nat} (R : RasN a w h) (i t : Nat) (hi : i < w * h) (ht : t < w * h) (K : AV → List AO → Prop) (hK : K (.fz int (wayN w i t)) []) :
    ACall Tryd.prog G 23 [.fptr RasT a, .fz int i, .fz int t] [] K := by
  have w1 := R.w1
  have h1 := R.h1
  have wz := R.wide
  have w0 := R.w0
  obtain ⟨c, r, m1, d1, l1, l2, c1, r1, _⟩ := cell_at R hi
  obtain ⟨c', r', m2, d2, l3, l4, c2, r2, _⟩ := cell_at R ht
  unfold wayN wayXY at hK
  rw [c1, r1, c2, r2] at hK
  have hz : a.1 ≠ 0 := by omega
  have m3 : (i : Int) % a.1 = c := by rw [wz]; exact congrArg (fun n : Nat => (n : Int)) c1
  have d3 : (i : Int) / a.1 = r := by rw [wz]; exact congrArg (fun n : Nat => (n : Int)) r1
  have m4 : (t : Int) % a.1 = c' := by rw [wz]; exact congrArg (fun n : Nat => (n : Int)) c2
  have d4 : (t : Int) / a.1 = r' := by rw [wz]; exact congrArg (fun n : Nat => (n : Int)) r2
  have kI : ∀ {x y : Int}, K (.fz int x) [] → x = y → K (.fz int y) [] := fun h e => e ▸ h
  refine acall_mk (E := envAt G 49 0) (envOk _ _ _) Tryd.func23 rfl rfl rfl rfl rfl ?_
  (repeat' (first | exact trivial | exact fun h => h | refine And.intro ?_ ?_ | (intro hb; first | (simp at hb; done) | (simp at hb) | skip) | omega | exact rfl | exact Nat.le_refl _ | (show _ + 1 ≤ 4294967296; omega) | (dsimp only; omega) | (show (_ : Int) ≤ (_ : Int); omega) | (show _ < List.length _; simp only [List.length_set, List.length_append, List.length_take]; omega) | (show wantB _ _ = true; simp; done) | (show wantB _ _ = true; simp; omega) | (show (_ : Bool) = _; simp_all; done) | (exfalso; omega) | refine aRegion_auto (by decide +kernel) ?_ | fail))
  all_goals
    refine ⟨_, _, REnt.drop ⟨rfl, rfl⟩, ?_⟩
    refine kI hK ?_
    repeat' split
    all_goals first | omega | rfl | (show _ = (4 : Int) - (Int.tdiv (i : Int) a.1 - Int.tdiv (t : Int) a.1); omega)
end Go.Proofs.YtepkknjncpbahaaDoor
/-
  DrainFloods: the walk.
-/
namespace Go.Proofs.YtepkknjncpbahaaDoor
open Go Go.Ab
set_option maxRecDepth 100000
theorem small80_any (G : List (Nat × Value)) (a : Ras) (K : AV → List AO → Prop) (hK : K (.fz .bool (decide (a.2.2.length ≤ 80))) []) : ACall Tryd.prog G 10 [.fptr RasT a] [] K := by
  refine acall_mk (E := envAt G 13 0) (envOk _ _ _) Tryd.func10 rfl rfl rfl rfl rfl ?_
  (repeat' (first | exact trivial | exact fun h => h | refine And.intro ?_ ?_ | (intro hb; first | (simp at hb; done) | (simp at hb) | skip) | omega | exact rfl | exact Nat.le_refl _ | (show _ + 1 ≤ 4294967296; omega) | (dsimp only; omega) | (show (_ : Int) ≤ (_ : Int); omega) | (show _ < List.length _; simp only [List.length_set, List.length_append, List.length_take]; omega) | (show wantB _ _ = true; simp; done) | (show wantB _ _ = true; simp; omega) | (show (_ : Bool) = _; simp_all; done) | (exfalso; omega) | refine aRegion_auto (by decide +kernel) ?_ | refine ⟨_, _, REnt.drop ⟨rfl, rfl⟩, ?_⟩ | fail))
  exact kbl hK (by simp; omega)
theorem small80_nil (G : List (Nat × Value)) (K : AV → List AO → Prop) (hK : K (.fz .bool false) []) : ACall Tryd.prog G 10 [.fz .raw (.pointer none)] [] K := by
  refine acall_mk (E := envAt G 13 0) (envOk _ _ _) Tryd.func10 rfl rfl rfl rfl rfl ?_
  (repeat' (first | exact trivial | exact fun h => h | refine And.intro ?_ ?_ | (intro hb; first | (simp at hb; done) | (simp at hb) | skip) | omega | exact rfl | exact Nat.le_refl _ | (show _ + 1 ≤ 4294967296; omega) | (dsimp only; omega) | (show (_ : Int) ≤ (_ : Int); omega) | (show _ < List.length _; simp only [List.length_set, List.length_append, List.length_take]; omega) | (show wantB _ _ = true; simp; done) | (show wantB _ _ = true; simp; omega) | (show (_ : Bool) = _; simp_all; done) | (exfalso; omega) | refine aRegion_auto (by decide +kernel) ?_ | refine ⟨_, _, REnt.drop ⟨rfl, rfl⟩, ?_⟩ | fail))
  exact hK
/-- once reached, where it flows stays -/
theorem to_stays {w h : Nat} {L : Nat → Int} (hw : 0 < w) {i t : Nat} : ∀ k, k ≤ w * h → ∀ j, j ≤ k → (flN w h L j).st i ≠ 0 → (flN w h L j).to i = t → (flN w h L k).st i ≠ 0 ∧ (flN w h L k).to i = t
  | 0, _, j, hj, h1, h2 => by
    obtain rfl : j = 0 := by omega
    exact ⟨h1, h2⟩
  | k + 1, hk, j, hj, h1, h2 => by
    by_cases e : j = k + 1
    · subst e; exact ⟨h1, h2⟩
    · obtain ⟨i1, i2⟩ := to_stays hw k (by omega) j (by omega) h1 h2
      obtain ⟨b, _, _, hb⟩ := @flN_best w h L hw k (by omega)
      rw [hb]
      constructor
      · show (if i = b then 2 else if touchN w b i ∧ (flN w h L k).st i = 0 then 1 else (flN w h L k).st i) ≠ 0
        split
        · omega
        · rw [if_neg (fun h => i1 h.2)]; exact i1
      · show (if touchN w b i ∧ (flN w h L k).st i = 0 then b else (flN w h L k).to i) = t
        rw [if_neg (fun h => i1 h.2)]; exact i2
def a9 : Ras := (3, 3, [9, 9, 9, 9, 5, 1, 9, 9, 9])
theorem a9_ok : rerr a9 = 0 := by decide
theorem a9_4 : (flP a9).2.1.getD 4 0 = 0 ∧ (flP a9).2.1.getD 0 0 = 8 ∧ (flP a9).2.1.length = 9 := by
  have e : flP a9 = fResP 3 3 a9 := by unfold flP; rw [if_pos a9_ok]; rfl
  rw [e]
  have h4 : (flD 3 3 (hts a9)).to 4 = 5 := (to_stays (w := 3) (h := 3) (L := hts a9) (by omega) (i := 4) (t := 5) 9 (by omega) 1 (by omega) (by decide +kernel) (by decide +kernel)).2
  have h0 : (flD 3 3 (hts a9)).to 0 = 0 := (to_stays (w := 3) (h := 3) (L := hts a9) (by omega) (i := 0) (t := 0) 9 (by omega) 0 (by omega) (by decide +kernel) (by decide +kernel)).2
  unfold fResP
  refine ⟨?_, ?_, ?_⟩
  · show (lst 9 _).getD 4 0 = 0
    rw [lst_at _ (by omega), h4]; decide
  · show (lst 9 _).getD 0 0 = 8
    rw [lst_at _ (by omega)]; first | (rw [h0]; decide) | decide
  · show (lst 9 _).length = 9
    rw [lst_len]
theorem drains_any (E : Errs) (K : AV → List AO → Prop) (hK : K (.fz .bool true) []) : ACall Tryd.prog (G8 E) 9 [] [] K := by
  obtain ⟨h4, h0, hl⟩ := a9_4
  refine acall_mk (E := envAt (G8 E) 28 0) (envOk _ _ _) Tryd.func9 rfl rfl rfl rfl rfl ?_
  (repeat' (first | exact trivial | exact fun h => h | refine And.intro ?_ ?_ | (intro hb; first | (simp at hb; done) | (simp at hb) | skip) | omega | exact rfl | exact Nat.le_refl _ | (show _ + 1 ≤ 4294967296; omega) | (dsimp only; omega) | (show (_ : Int) ≤ (_ : Int); omega) | (show _ < List.length _; simp only [List.length_set, List.length_append, List.length_take]; omega) | (show wantB _ _ = true; simp; done) | (show wantB _ _ = true; simp; omega) | (show (_ : Bool) = _; simp_all; done) | (exfalso; omega) | fail))
  refine acall_conv [.dat RasT] _ _ _ rfl ?_ (acall_frame0 rfl (flow_one E a9 (by decide) _ ?_))
  · (repeat' (first | exact trivial | refine And.intro ?_ ?_ | (show _ ≤ _; omega) | (show _ ≤ _; simp; done)))
  rw [a9_ok]
  have h4' : List.getD (flP a9).2.1 (Int.toNat 4) int.dft = 0 := h4
  have h0' : List.getD (flP a9).2.1 (Int.toNat 0) int.dft = 8 := h0
  generalize (flP a9).2.1 = l at *
  (repeat' (first | exact trivial | exact fun h => h | refine And.intro ?_ ?_ | (intro hb; first | (simp at hb; done) | (simp at hb) | skip) | omega | exact rfl | exact Nat.le_refl _ | (show _ + 1 ≤ 4294967296; omega) | (dsimp only; omega) | (show (_ : Int) ≤ (_ : Int); omega) | (show _ < List.length _; simp only [List.length_set, List.length_append, List.length_take]; omega) | (show wantB _ _ = true; simp; done) | (show wantB _ _ = true; simp; omega) | (show (_ : Bool) = _; simp_all; done) | (exfalso; omega) | fail))
  refine ⟨_, _, REnt.drop ⟨rfl, rfl⟩, ?_⟩
  refine kbl hK ?_
  rw [h4', h0', hl]
  rfl
set_option maxHeartbeats 4000000 in
theorem drainFloods_some {E : Errs} (hE : (EL E).Nodup) (a : Ras) (hla : a.2.2.length ≤ 9223372036854775807) (K : AV → List AO → Prop) (hK : K (.fz .bool true) []) :
    ACall Tryd.prog (G8 E) 4 [.fptr RasT a] [] K := by
  refine acall_mk (E := envAt (G8 E) 147 0) (envOk _ _ _) Tryd.func4 rfl rfl rfl rfl rfl ?_
  (repeat' (first | exact trivial | exact fun h => h | refine And.intro ?_ ?_ | (intro hb; first | (simp at hb; done) | (simp at hb) | skip) | omega | exact rfl | exact Nat.le_refl _ | (show _ + 1 ≤ 4294967296; omega) | (dsimp only; omega) | (show (_ : Int) ≤ (_ : Int); omega) | (show _ < List.length _; simp only [List.length_set, List.length_append, List.length_take]; omega) | (show wantB _ _ = true; simp; done) | (show wantB _ _ = true; simp; omega) | (show (_ : Bool) = _; simp_all; done) | (exfalso; omega) | refine aRegion_auto (by decide +kernel) ?_ | refine ⟨_, _, REnt.drop ⟨rfl, rfl⟩, ?_⟩ | fail))
  refine acall_frame0 rfl (drains_any E _ ?_)
  (repeat' (first | exact trivial | exact fun h => h | refine And.intro ?_ ?_ | (intro hb; first | (simp at hb; done) | (simp at hb) | skip) | omega | exact rfl | exact Nat.le_refl _ | (show _ + 1 ≤ 4294967296; omega) | (dsimp only; omega) | (show (_ : Int) ≤ (_ : Int); omega) | (show _ < List.length _; simp only [List.length_set, List.length_append, List.length_take]; omega) | (show wantB _ _ = true; simp; done) | (show wantB _ _ = true; simp; omega) | (show (_ : Bool) = _; simp_all; done) | (exfalso; omega) | refine aRegion_auto (by decide +kernel) ?_ | refine ⟨_, _, REnt.drop ⟨rfl, rfl⟩, ?_⟩ | fail))
  refine acall_frame0 rfl (small80_any _ a _ ?_)
  (repeat' (first | exact trivial | exact fun h => h | refine And.intro ?_ ?_ | (intro hb; first | (simp at hb; done) | (simp at hb) | skip) | omega | exact rfl | exact Nat.le_refl _ | (show _ + 1 ≤ 4294967296; omega) | (dsimp only; omega) | (show (_ : Int) ≤ (_ : Int); omega) | (show _ < List.length _; simp only [List.length_set, List.length_append, List.length_take]; omega) | (show wantB _ _ = true; simp; done) | (show wantB _ _ = true; simp; omega) | (show (_ : Bool) = _; simp_all; done) | (exfalso; omega) | refine aRegion_auto (by decide +kernel) ?_ | refine ⟨_, _, REnt.drop ⟨rfl, rfl⟩, ?_⟩ | fail))
  · exact hK
  have hl : a.2.2.length ≤ 80 := by omega
  refine acall_conv [.dat RasT] _ _ _ rfl trivial (acall_frame0 rfl (fill_one E a (by omega) _ ?_))
  (repeat' (first | exact trivial | exact fun h => h | refine And.intro ?_ ?_ | (intro hb; first | (simp at hb; done) | (simp at hb) | skip) | omega | exact rfl | exact Nat.le_refl _ | (show _ + 1 ≤ 4294967296; omega) | (dsimp only; omega) | (show (_ : Int) ≤ (_ : Int); omega) | (show _ < List.length _; simp only [List.length_set, List.length_append, List.length_take]; omega) | (show wantB _ _ = true; simp; done) | (show wantB _ _ = true; simp; omega) | (show (_ : Bool) = _; simp_all; done) | (exfalso; omega) | refine aRegion_auto (by decide +kernel) ?_ | refine ⟨_, _, REnt.drop ⟨rfl, rfl⟩, ?_⟩ | fail))
  refine acall_frame0 rfl (flow_one E a (by omega) _ ?_)
  (repeat' (first | exact trivial | exact fun h => h | refine And.intro ?_ ?_ | (intro hb; first | (simp at hb; done) | (simp at hb) | skip) | omega | exact rfl | exact Nat.le_refl _ | (show _ + 1 ≤ 4294967296; omega) | (dsimp only; omega) | (show (_ : Int) ≤ (_ : Int); omega) | (show _ < List.length _; simp only [List.length_set, List.length_append, List.length_take]; omega) | (show wantB _ _ = true; simp; done) | (show wantB _ _ = true; simp; omega) | (show (_ : Bool) = _; simp_all; done) | (exfalso; omega) | refine aRegion_auto (by decide +kernel) ?_ | refine ⟨_, _, REnt.drop ⟨rfl, rfl⟩, ?_⟩ | fail))
  refine acall_frame0 rfl (order_one E a (by omega) _ ?_)
  (repeat' (first | exact trivial | exact fun h => h | refine And.intro ?_ ?_ | (intro hb; first | (simp at hb; done) | (simp at hb) | skip) | omega | exact rfl | exact Nat.le_refl _ | (show _ + 1 ≤ 4294967296; omega) | (dsimp only; omega) | (show (_ : Int) ≤ (_ : Int); omega) | (show _ < List.length _; simp only [List.length_set, List.length_append, List.length_take]; omega) | (show wantB _ _ = true; simp; done) | (show wantB _ _ = true; simp; omega) | (show (_ : Bool) = _; simp_all; done) | (exfalso; omega) | refine aRegion_auto (by decide +kernel) ?_ | refine ⟨_, _, REnt.drop ⟨rfl, rfl⟩, ?_⟩ | fail))
  refine acall_frame0 rfl (rasterError_any _ a (by omega) _ ?_)
  (repeat' (first | exact trivial | exact fun h => h | refine And.intro ?_ ?_ | (intro hb; first | (simp at hb; done) | (simp at hb) | skip) | omega | exact rfl | exact Nat.le_refl _ | (show _ + 1 ≤ 4294967296; omega) | (dsimp only; omega) | (show (_ : Int) ≤ (_ : Int); omega) | (show _ < List.length _; simp only [List.length_set, List.length_append, List.length_take]; omega) | (show wantB _ _ = true; simp; done) | (show wantB _ _ = true; simp; omega) | (show (_ : Bool) = _; simp_all; done) | (exfalso; omega) | refine aRegion_auto (by decide +kernel) ?_ | refine ⟨_, _, REnt.drop ⟨rfl, rfl⟩, ?_⟩ | fail))
  · have h4 := rerr_in a
    have hne : rerr a ≠ 0 := by omega
    have e1 : fillQ a = (0, 0, []) := by unfold fillQ; rw [if_neg hne]
    have e2 : flP a = ([], [], []) := by unfold flP; rw [if_neg hne]
    refine acall_frame0 rfl (coded_mercatorlaw4 hE (by omega) (rerr a) _ ?_)
    rw [decide_eq_true rfl, e1, e2]
    (repeat' (first | exact trivial | exact fun h => h | refine And.intro ?_ ?_ | (intro hb; first | (simp at hb; done) | (simp at hb) | skip) | omega | exact rfl | exact Nat.le_refl _ | (show _ + 1 ≤ 4294967296; omega) | (dsimp only; omega) | (show (_ : Int) ≤ (_ : Int); omega) | (show _ < List.length _; simp only [List.length_set, List.length_append, List.length_take]; omega) | (show wantB _ _ = true; simp; done) | (show wantB _ _ = true; simp; omega) | (show (_ : Bool) = _; simp_all; done) | (exfalso; omega) | refine aRegion_auto (by decide +kernel) ?_ | refine ⟨_, _, REnt.drop ⟨rfl, rfl⟩, ?_⟩ | fail))
    refine acall_frame0 rfl (coded_mercatorlaw4 hE (by omega) (rerr a) _ ?_)
    rw [decide_eq_true rfl]
    (repeat' (first | exact trivial | exact fun h => h | refine And.intro ?_ ?_ | (intro hb; first | (simp at hb; done) | (simp at hb) | skip) | omega | exact rfl | exact Nat.le_refl _ | (show _ + 1 ≤ 4294967296; omega) | (dsimp only; omega) | (show (_ : Int) ≤ (_ : Int); omega) | (show _ < List.length _; simp only [List.length_set, List.length_append, List.length_take]; omega) | (show wantB _ _ = true; simp; done) | (show wantB _ _ = true; simp; omega) | (show (_ : Bool) = _; simp_all; done) | (exfalso; omega) | refine aRegion_auto (by decide +kernel) ?_ | refine ⟨_, _, REnt.drop ⟨rfl, rfl⟩, ?_⟩ | fail))
    refine acall_frame0 rfl (coded_mercatorlaw4 hE (by omega) (rerr a) _ ?_)
    rw [decide_eq_true rfl]
    (repeat' (first | exact trivial | exact fun h => h | refine And.intro ?_ ?_ | (intro hb; first | (simp at hb; done) | (simp at hb) | skip) | omega | exact rfl | exact Nat.le_refl _ | (show _ + 1 ≤ 4294967296; omega) | (dsimp only; omega) | (show (_ : Int) ≤ (_ : Int); omega) | (show _ < List.length _; simp only [List.length_set, List.length_append, List.length_take]; omega) | (show wantB _ _ = true; simp; done) | (show wantB _ _ = true; simp; omega) | (show (_ : Bool) = _; simp_all; done) | (exfalso; omega) | refine aRegion_auto (by decide +kernel) ?_ | refine ⟨_, _, REnt.drop ⟨rfl, rfl⟩, ?_⟩ | fail))
    exact hK
  · have hv : rerr a = 0 := by omega
    have R := RasN.mk' hv
    rw [hv]
    (repeat' (first | exact trivial | exact fun h => h | refine And.intro ?_ ?_ | (intro hb; first | (simp at hb; done) | (simp at hb) | skip) | omega | exact rfl | exact Nat.le_refl _ | (show _ + 1 ≤ 4294967296; omega) | (dsimp only; omega) | (show (_ : Int) ≤ (_ : Int); omega) | (show _ < List.length _; simp only [List.length_set, List.length_append, List.length_take]; omega) | (show wantB _ _ = true; simp; done) | (show wantB _ _ = true; simp; omega) | (show (_ : Bool) = _; simp_all; done) | (exfalso; omega) | refine aRegion_auto (by decide +kernel) ?_ | refine ⟨_, _, REnt.drop ⟨rfl, rfl⟩, ?_⟩ | fail))
    refine acall_frame0 rfl (floodOf_any _ a R _ ?_)
    have e2 : flP a = fResP a.1.toNat a.2.1.toNat a := by unfold flP; rw [if_pos hv]
    have e1 : fillQ a = (a.1, a.2.1, (fRes a.1.toNat a.2.1.toNat a).1) := by unfold fillQ; rw [if_pos hv, e2]; rfl
    have e3 : (fResP a.1.toNat a.2.1.toNat a).2.2 = (fRes a.1.toNat a.2.1.toNat a).2.2 := rfl
    obtain ⟨n, hn⟩ : ∃ n, n = a.1.toNat * a.2.1.toNat := ⟨_, rfl⟩
    have hln := R.len
    rw [← hn] at hln
    have l1 : (fRes a.1.toNat a.2.1.toNat a).1.length = n := by rw [hn]; exact lst_len _ _
    have l2 : (fRes a.1.toNat a.2.1.toNat a).2.2.length = n := by
      rw [hn]; show (natL _).length = _
      rw [natL_len]; exact (flN_ok _ _ _ R.w0 _ (Nat.le_refl _)).2
    have l3 : (fResP a.1.toNat a.2.1.toNat a).2.1.length = n := by rw [hn]; exact lst_len _ _
    have l4 : (fRes a.1.toNat a.2.1.toNat a).2.1.length = n := by rw [hn]; exact lst_len _ _
    have g1 : ∀ i, i < n → List.getD (fResP a.1.toNat a.2.1.toNat a).2.1 i 0 = wayN a.1.toNat i ((flD a.1.toNat a.2.1.toNat (hts a)).to i) := fun i hi => lst_at _ (by omega)
    have g2 : ∀ i, i < n → List.getD (fRes a.1.toNat a.2.1.toNat a).2.1 i 0 = (((flD a.1.toNat a.2.1.toNat (hts a)).to i : Nat) : Int) := fun i hi => lst_at (fun i => (((flD a.1.toNat a.2.1.toNat (hts a)).to i : Nat) : Int)) (by omega)
    have g3 : ∀ i, i < n → (flD a.1.toNat a.2.1.toNat (hts a)).to i < n := fun i hi => by
      obtain ⟨I, _⟩ := flN_ok a.1.toNat a.2.1.toNat (hts a) R.w0 _ (Nat.le_refl _)
      have h2 := flD_all a.1.toNat a.2.1.toNat (hts a) R.w0 i (by omega)
      rcases I.src i (by omega) (by unfold flD at h2; omega) with ⟨_, h, _⟩ | ⟨_, _, h, _⟩
      · unfold flD; omega
      · unfold flD; omega
    rw [e1, e2, e3]
    generalize hFR : fRes a.1.toNat a.2.1.toNat a = FR at *
    generalize hFP : (fResP a.1.toNat a.2.1.toNat a).2.1 = FP at *
    (repeat' (first | exact trivial | exact fun h => h | refine And.intro ?_ ?_ | (intro hb; first | (simp at hb; done) | (simp at hb) | skip) | omega | exact rfl | exact Nat.le_refl _ | (show _ + 1 ≤ 4294967296; omega) | (dsimp only; omega) | (show (_ : Int) ≤ (_ : Int); omega) | (show _ < List.length _; simp only [List.length_set, List.length_append, List.length_take]; omega) | (show wantB _ _ = true; simp; done) | (show wantB _ _ = true; simp; omega) | (show (_ : Bool) = _; simp_all; done) | (exfalso; omega) | refine aRegion_auto (by decide +kernel) ?_ | refine ⟨_, _, REnt.drop ⟨rfl, rfl⟩, ?_⟩ | fail))
    refine acall_frame0 rfl (sameInts_mercatorlaw4 _ FR.1 FR.1 (by omega) _ ?_)
    rw [decide_eq_true rfl]
    (repeat' (first | exact trivial | exact fun h => h | refine And.intro ?_ ?_ | (intro hb; first | (simp at hb; done) | (simp at hb) | skip) | omega | exact rfl | exact Nat.le_refl _ | (show _ + 1 ≤ 4294967296; omega) | (dsimp only; omega) | (show (_ : Int) ≤ (_ : Int); omega) | (show _ < List.length _; simp only [List.length_set, List.length_append, List.length_take]; omega) | (show wantB _ _ = true; simp; done) | (show wantB _ _ = true; simp; omega) | (show (_ : Bool) = _; simp_all; done) | (exfalso; omega) | refine aRegion_auto (by decide +kernel) ?_ | refine ⟨_, _, REnt.drop ⟨rfl, rfl⟩, ?_⟩ | fail))
    refine acall_frame0 rfl (sameInts_mercatorlaw4 _ FR.2.2 FR.2.2 (by omega) _ ?_)
    rw [decide_eq_true rfl]
    (repeat' (first | exact trivial | exact fun h => h | refine And.intro ?_ ?_ | (intro hb; first | (simp at hb; done) | (simp at hb) | skip) | omega | exact rfl | exact Nat.le_refl _ | (show _ + 1 ≤ 4294967296; omega) | (dsimp only; omega) | (show (_ : Int) ≤ (_ : Int); omega) | (show _ < List.length _; simp only [List.length_set, List.length_append, List.length_take]; omega) | (show wantB _ _ = true; simp; done) | (show wantB _ _ = true; simp; omega) | (show (_ : Bool) = _; simp_all; done) | (exfalso; omega) | refine aRegion_auto (by decide +kernel) ?_ | refine ⟨_, _, REnt.drop ⟨rfl, rfl⟩, ?_⟩ | fail))
    refine ⟨Nat, fun k => ⟨[(0, .fptr RasT a), (7, .fz (.list int) FP), (12, .ptr 1 0), (15, .fz int k)], [.box [.fz int a.1, .fz int a.2.1, .fz (.list int) FR.1], .box [.fz (.list int) FR.1, .fz (.list int) FR.2.1, .fz (.list int) FR.2.2]]⟩, fun k => k ≤ n, fun k => n - k, 0, Nat.zero_le _, Ent.sub rfl ?_, ?_⟩
    · (repeat' (first | exact trivial | exact rfl | refine And.intro ?_ ?_))
    intro k hk
    by_cases hkn : k < n
    · have q1 : List.getD FR.2.1 (Int.toNat (k : Int)) int.dft = (((flD a.1.toNat a.2.1.toNat (hts a)).to k : Nat) : Int) := g2 k hkn
      have q2 : List.getD FP (Int.toNat (k : Int)) int.dft = wayN a.1.toNat k ((flD a.1.toNat a.2.1.toNat (hts a)).to k) := g1 k hkn
      (repeat' (first | exact trivial | exact fun h => h | refine And.intro ?_ ?_ | (intro hb; first | (simp at hb; done) | (simp at hb) | skip) | omega | exact rfl | exact Nat.le_refl _ | (show _ + 1 ≤ 4294967296; omega) | (dsimp only; omega) | (show (_ : Int) ≤ (_ : Int); omega) | (show _ < List.length _; simp only [List.length_set, List.length_append, List.length_take]; omega) | (show wantB _ _ = true; simp; done) | (show wantB _ _ = true; simp; omega) | (show (_ : Bool) = _; simp_all; done) | (exfalso; omega) | refine aRegion_auto (by decide +kernel) ?_ | refine ⟨_, _, REnt.drop ⟨rfl, rfl⟩, ?_⟩ | fail))
      apply exEff
      · refine acall_frame0 rfl (acall_arg (wayOf_any _ a R k ((flD a.1.toNat a.2.1.toNat (hts a)).to k) (by omega) (by have := g3 k hkn; omega) _ ?_) (by rw [← q1]; rfl))
        exact ⟨rfl, rfl⟩
      (repeat' (first | exact trivial | exact fun h => h | refine And.intro ?_ ?_ | (intro hb; first | (simp at hb; done) | (simp at hb) | skip) | omega | exact rfl | exact Nat.le_refl _ | (show _ + 1 ≤ 4294967296; omega) | (dsimp only; omega) | (show (_ : Int) ≤ (_ : Int); omega) | (show _ < List.length _; simp only [List.length_set, List.length_append, List.length_take]; omega) | (show wantB _ _ = true; simp; done) | (show wantB _ _ = true; simp; omega) | (show (_ : Bool) = _; simp_all; done) | (exfalso; omega) | refine aRegion_auto (by decide +kernel) ?_ | refine ⟨_, _, REnt.drop ⟨rfl, rfl⟩, ?_⟩ | fail))
      · exfalso
        apply hb
        have := q2
        simpa using this
      · refine ⟨k + 1, by show k + 1 ≤ n; omega, by show n - (k + 1) < n - k; omega, Ent.sub rfl ?_⟩
        (repeat' (first | exact trivial | exact rfl | refine And.intro ?_ ?_))
    · have hkn : k = n := by omega
      subst hkn
      (repeat' (first | exact trivial | exact fun h => h | refine And.intro ?_ ?_ | (intro hb; first | (simp at hb; done) | (simp at hb) | skip) | omega | exact rfl | exact Nat.le_refl _ | (show _ + 1 ≤ 4294967296; omega) | (dsimp only; omega) | (show (_ : Int) ≤ (_ : Int); omega) | (show _ < List.length _; simp only [List.length_set, List.length_append, List.length_take]; omega) | (show wantB _ _ = true; simp; done) | (show wantB _ _ = true; simp; omega) | (show (_ : Bool) = _; simp_all; done) | (exfalso; omega) | refine aRegion_auto (by decide +kernel) ?_ | refine ⟨_, _, REnt.drop ⟨rfl, rfl⟩, ?_⟩ | fail))
      exact hK
theorem drainFloods_nil {E : Errs} (K : AV → List AO → Prop) (hK : K (.fz .bool true) []) :
    ACall Tryd.prog (G8 E) 4 [.fz .raw (.pointer none)] [] K := by
  refine acall_mk (E := envAt (G8 E) 147 0) (envOk _ _ _) Tryd.func4 rfl rfl rfl rfl rfl ?_
  (repeat' (first | exact trivial | exact fun h => h | refine And.intro ?_ ?_ | (intro hb; first | (simp at hb; done) | (simp at hb) | skip) | omega | exact rfl | exact Nat.le_refl _ | (show _ + 1 ≤ 4294967296; omega) | (dsimp only; omega) | (show (_ : Int) ≤ (_ : Int); omega) | (show _ < List.length _; simp only [List.length_set, List.length_append, List.length_take]; omega) | (show wantB _ _ = true; simp; done) | (show wantB _ _ = true; simp; omega) | (show (_ : Bool) = _; simp_all; done) | (exfalso; omega) | refine aRegion_auto (by decide +kernel) ?_ | refine ⟨_, _, REnt.drop ⟨rfl, rfl⟩, ?_⟩ | fail))
  refine acall_frame0 rfl (drains_any E _ ?_)
  (repeat' (first | exact trivial | exact fun h => h | refine And.intro ?_ ?_ | (intro hb; first | (simp at hb; done) | (simp at hb) | skip) | omega | exact rfl | exact Nat.le_refl _ | (show _ + 1 ≤ 4294967296; omega) | (dsimp only; omega) | (show (_ : Int) ≤ (_ : Int); omega) | (show _ < List.length _; simp only [List.length_set, List.length_append, List.length_take]; omega) | (show wantB _ _ = true; simp; done) | (show wantB _ _ = true; simp; omega) | (show (_ : Bool) = _; simp_all; done) | (exfalso; omega) | refine aRegion_auto (by decide +kernel) ?_ | refine ⟨_, _, REnt.drop ⟨rfl, rfl⟩, ?_⟩ | fail))
  refine acall_frame0 rfl (small80_nil _ _ ?_)
  (repeat' (first | exact trivial | exact fun h => h | refine And.intro ?_ ?_ | (intro hb; first | (simp at hb; done) | (simp at hb) | skip) | omega | exact rfl | exact Nat.le_refl _ | (show _ + 1 ≤ 4294967296; omega) | (dsimp only; omega) | (show (_ : Int) ≤ (_ : Int); omega) | (show _ < List.length _; simp only [List.length_set, List.length_append, List.length_take]; omega) | (show wantB _ _ = true; simp; done) | (show wantB _ _ = true; simp; omega) | (show (_ : Bool) = _; simp_all; done) | (exfalso; omega) | refine aRegion_auto (by decide +kernel) ?_ | refine ⟨_, _, REnt.drop ⟨rfl, rfl⟩, ?_⟩ | fail))
  exact hK
end Go.Proofs.YtepkknjncpbahaaDoor
/-
  What the laid variables give: eight errors, all different, and the handle of type error.
-/
namespace Go.Proofs.YtepkknjncpbahaaDoor
open Go Go.Ab Go.RowKit Go.ChangeShapes
set_option maxRecDepth 100000
theorem star : "*" ++ "errors.errorString" = "*errors.errorString" := by decide
theorem names_at (u : TypeId) (h : Tryd.prog.typeName? 3 u = some "*errors.errorString") : u = 171 :=
  typeName_ptr_named (nm := "errors.errorString") (by rw [star]; kernel_rfl) (by kernel_rfl) (by decide) u (by rw [star]; exact h)
theorem cells_es : Tryd.prog.cellsOf 194 = 1 := by kernel_rfl
theorem cells_str : Tryd.prog.cellsOf 9 = 1 := by kernel_rfl
theorem glob_ty (g : Nat) (hg : g ∈ [2, 3, 0, 1, 4, 5, 6, 7]) :
    ∃ ti ms, (Tryd.prog.globals[g]?).map (·.type) = some ti ∧ Tryd.prog.underlying ti = some (.interface ms) := by
  have : ([2, 3, 0, 1, 4, 5, 6, 7].all fun g => (Tryd.prog.globals[g]?).map (·.type) == some 30) = true := by kernel_rfl
  exact ⟨30, _, by simpa using List.all_eq_true.1 this g hg, Tryd.underlying30⟩
theorem et_at : Tryd.prog.globalNamed "errors.errorType" = some 8 := by kernel_rfl
theorem rt_at : (Tryd.prog.cutTypes.find? (·.1 == "internal/reflectlite.rtype")).map (·.2) = some 138 := by kernel_rfl
theorem one_row : ((List.range Tryd.prog.types.size).filter fun t => Tryd.prog.rowNamed t [101, 114, 114, 111, 114]) = [30] := by kernel_rfl
/-- of a list of the eight errors and the handle -/
theorem globs8 {W : World} {l : List (String × DataW Unit)} {x1 x2 x3 x4 x5 x6 x7 x8 : List UInt8} (h : laidMetH Tryd.prog l W)
    (hl : (l.filter fun x => x.2.handleName?.isNone) = [("mercator/api.ErrText", errD x1), ("mercator/api.ErrBound", errD x2), ("mercator/api.ErrShape", errD x3), ("mercator/api.ErrRange", errD x4), ("mercator/api.ErrName", errD x5), ("mercator/api.ErrNone", errD x6), ("mercator/api.ErrOrder", errD x7), ("mercator/api.ErrFile", errD x8)])
    (hh : (l.filter fun x => x.2.handleName?.isSome) = [("errors.errorType", .iface "internal/reflectlite.rtype" (.agg [.ptr (.lit (.string [101, 114, 114, 111, 114]))]))]) :
    ∃ E : Errs, (EL E).Nodup ∧ ∀ g v, gk (G8 E) g = some v → Glo0 W g v := by
  obtain ⟨h1, h2⟩ := laidMetH_iff.1 h
  rw [hl] at h1
  rw [hh] at h2
  obtain ⟨ps, hv, hn, hall⟩ := h1
  obtain ⟨al, k1, k2, k3, _⟩ := laid_errs names_at Tryd.underlying171 Tryd.underlying194 rfl rfl Tryd.underlying9 cells_es cells_str
    [("mercator/api.ErrText", x1), ("mercator/api.ErrBound", x2), ("mercator/api.ErrShape", x3), ("mercator/api.ErrRange", x4), ("mercator/api.ErrName", x5), ("mercator/api.ErrNone", x6), ("mercator/api.ErrOrder", x7), ("mercator/api.ErrFile", x8)]
    [2, 3, 0, 1, 4, 5, 6, 7] ps hv hn hall (by kernel_rfl) glob_ty
  obtain ⟨a1, a2, a3, a4, a5, a6, a7, a8, rfl⟩ : ∃ a1 a2 a3 a4 a5 a6 a7 a8, al = [a1, a2, a3, a4, a5, a6, a7, a8] := by
    match al, k1 with
    | [a1, a2, a3, a4, a5, a6, a7, a8], _ => exact ⟨a1, a2, a3, a4, a5, a6, a7, a8, rfl⟩
  have hE : Glo0 W 8 asK.errType := by
    obtain ⟨name, u, ty, e1, e2, e3, e4, e5⟩ := h2 _ (List.mem_singleton.2 rfl)
    have en : name = [101, 114, 114, 111, 114] := (Option.some.inj e1).symm
    subst en
    obtain rfl := Option.some.inj (rt_at.symm.trans e2)
    have hm : ty ∈ (List.range Tryd.prog.types.size).filter fun t => Tryd.prog.rowNamed t [101, 114, 114, 111, 114] := List.mem_filter.2 ⟨List.mem_range.2 e3, e4⟩
    rw [one_row] at hm
    obtain rfl := List.mem_singleton.1 hm
    have hh : typeHandle Tryd.prog 30 = .pointer (some ⟨9, 30, none⟩) := by kernel_rfl
    rw [hh] at e5
    exact ⟨by simpa [asK.errType] using World.var?_cell et_at e5 0, rfl, fun T a e => by cases e⟩
  refine ⟨⟨a1, a2, a3, a4, a5, a6, a7, a8⟩, k2, fun g v hg => ?_⟩
  unfold G8 gk at hg
  split at hg
  · rename_i e; subst e; cases hg; exact k3 2 _ _ rfl rfl
  unfold gk at hg
  split at hg
  · rename_i e; subst e; cases hg; exact k3 3 _ _ rfl rfl
  unfold gk at hg
  split at hg
  · rename_i e; subst e; cases hg; exact k3 1 _ _ rfl rfl
  unfold gk at hg
  split at hg
  · rename_i e; subst e; cases hg; exact k3 0 _ _ rfl rfl
  unfold gk at hg
  split at hg
  · rename_i e; subst e; cases hg; exact k3 4 _ _ rfl rfl
  unfold gk at hg
  split at hg
  · rename_i e; subst e; cases hg; exact k3 5 _ _ rfl rfl
  unfold gk at hg
  split at hg
  · rename_i e; subst e; cases hg; exact k3 6 _ _ rfl rfl
  unfold gk at hg
  split at hg
  · rename_i e; subst e; cases hg; exact k3 7 _ _ rfl rfl
  unfold gk at hg
  split at hg
  · rename_i e; subst e; cases hg; exact hE
  · cases hg
end Go.Proofs.YtepkknjncpbahaaDoor
/-
  Arguments read again behind a call that leaves old memory alone; a slice of points opened.
-/
namespace Go.Proofs.YtepkknjncpbahaaDoor
open Go Go.ChangeShapes Go.WideShapes Go.ChangeAt Go.RowKit
theorem trodAll_below {H : Type} {enc : TypeId × Value → H} {P : Program} (hl : laidOutB P = true) {W W' : World} (hb : Below W.heap.size W W') :
    ∀ (ts : List TypeId) (vs : List Value) (ds : List (DataW H)) (ps : List MemPlace), (∀ t ∈ ts, P.readableRec t = true ∧ t < P.types.size) →
      DataW.TrodAll enc P W 0 (fun _ => true) true ts vs ds ps → (∀ x ∈ ps, x.block < W.heap.size) →
      DataW.TrodAll enc P W' 0 (fun b => decide (b < W.heap.size)) true ts vs ds ps
  | [], [], [], ps, _, h, _ => h
  | [], [], _ :: _, _, _, h, _ => h.elim
  | [], _ :: _, _, _, _, h, _ => h.elim
  | _ :: _, [], _, _, _, h, _ => h.elim
  | _ :: _, _ :: _, [], _, _, h, _ => h.elim
  | t :: ts, v :: vs, d :: ds, ps, hr, h, hlt => by
    obtain ⟨p, q, h1, h2, rfl⟩ := h
    refine ⟨p, q, Below.trod hl (hr t (List.mem_cons_self ..)).1 (hr t (List.mem_cons_self ..)).2 h1 hb (fun x hx => hlt x (List.mem_append.2 (.inl hx))), ?_, rfl⟩
    exact trodAll_below hl hb ts vs ds q (fun t ht => hr t (List.mem_cons_of_mem _ ht)) h2 (fun x hx => hlt x (List.mem_append.2 (.inr hx)))
end Go.Proofs.YtepkknjncpbahaaDoor
/-
  DrainFloods answers true, whatever it is asked (no condition).
-/
namespace Go.Proofs.YtepkknjncpbahaaDoor.drainFloods
open Go Go.ChangeShapes Go.WideShapes Go.ChangeAt Go.RowKit Go.Ab
set_option maxRecDepth 100000
theorem own : ownKnob Tryd.prog.godebug = none := by kernel_rfl
theorem laidOut : laidOutB Tryd.prog = true := by kernel_rfl
theorem lifted (os : Os) (started : os.Started) (H : Type) (enc : TypeId × Value → H) :
    ReturnsInHanded {} Tryd.checked os 4 .any (fun w args => (Rows.drainFloodsSpec.pre enc Tryd.prog Tryd.f4 [] false w args ∧ laidMetH Tryd.prog Rows.drainFloodsRow.laid w) ∧ sizedMet enc Tryd.prog Tryd.f4 (OpenSpec.ofChange Rows.drainFloodsSpec) false w args)
      (Rows.drainFloodsSpec.post enc Tryd.prog Tryd.f4 false true false false) := by
  refine returnsInHanded_of_change_and (C := Tryd.checked) (X := fun w _ => laidMetH Tryd.prog Rows.drainFloodsRow.laid w) (fun _ _ _ hh h => h.of_heap hh) own started (by kernel_rfl) Tryd.func4
    (ChangeSpec.witness_shaped (enc := enc) (C := Tryd.checked) (os := os) (X := fun w _ => laidMetH Tryd.prog Rows.drainFloodsRow.laid w) false (World.doorLaid Tryd.prog 400 os) #[.pointer none] 8 rfl (World.shaped_of_RefB (by kernel_rfl) (by kernel_rfl)) (by kernel_rfl) (by kernel_rfl) (by kernel_rfl)
      (laidMetH_of_parts3 (fuel := 8) (laidMet_of_run' 8 (by kernel_rfl) (by kernel_rfl)) (by kernel_rfl) (by kernel_rfl))) ?_
  intro W base args ds gs before hval0 hW _ _ hL _
  have hval : ∀ (j : Nat) t v, Tryd.f4.params[j]? = some t → args[j]? = some v → Value.okWide Tryd.prog W .any base t v := hval0
  have hW' := hW
  obtain ⟨p, q, hA0, hV, rfl, hfz, hnd⟩ := hW
  have hA : DataW.TrodAll enc Tryd.prog W 0 (fun _ => true) true Tryd.f4.params.toList args.toList ds p := hA0
  obtain ⟨rfl, rfl⟩ := trodVars_none hV
  simp only [List.append_nil] at hW'
  have hAll : ∀ W', Below W.heap.size W W' → DataW.TrodAll enc Tryd.prog W' 0 (fun b => decide (b < W.heap.size)) true Tryd.f4.params.toList args.toList ds p :=
    fun W' hb => trodAll_below laidOut hb _ _ _ _ (by rw [Tryd.params4]; exact of_decide_eq_true (by kernel_rfl)) hA (fun x hx => hW'.lt x hx)
  rw [Tryd.params4] at hA hval
  obtain ⟨v0, vs0, d0, ds0, p0, q0, hargs, rfl, rfl, h0, t0⟩ := trodAll_cons hA
  obtain ⟨rfl, rfl, rfl⟩ := trodAll_nil t0
  obtain rfl : args = #[v0] := by cases args; simp_all
  clear hA0 hval0
  obtain ⟨E, hN, hE⟩ := globs8 hL rfl rfl
  have o0 := open_ptr (n := 4) (ty := RasT) tabOk (show tptrTo tab 22 = some 28 by kernel_rfl) (by kernel_rfl) (G8 E) (hval 0 _ v0 rfl rfl) h0
  have fin : Calls Tryd.prog 4 #[v0] W fun e w' => e = .returned (.bool true) ∧ Below W.heap.size W w' := by
    rcases o0 with rfl | ⟨y0, r0, b0⟩
    · exact acall_true (vs := [.pointer none]) (drainFloods_nil _ rfl) hE ⟨_, _, rfl, (rel_raw rfl).2 rfl, rfl⟩
    · have hl0 : y0.2.2.length ≤ 9223372036854775807 := by have := b0.2.2.1; unfold maxLen at this; omega
      exact acall_true (vs := [v0]) (drainFloods_some hN y0 hl0 _ rfl) hE ⟨_, _, rfl, r0, rfl⟩
  refine fin.mono fun e W' ⟨he, hg⟩ => ?_
  subst he
  exact ⟨_, rfl, _, _, _, [], _, [], hW', trodAll_mk1 (shut_bool Tryd.underlying4 _), hAll W' hg, rfl, hg.frame _, fun h => by cases h⟩
theorem row : Rows.DrainFloodsSaid :=
  OpenClaim.holds_of_wide 4 Tryd.f4 rfl rfl rfl rfl rfl rfl rfl ⟨rfl, rfl, rfl, rfl, rfl⟩ rfl rfl rfl rfl rfl (by kernel_rfl) Tryd.func4 (by kernel_rfl)
    (of_decide_eq_true (by kernel_rfl)) (by unfold Func.isWrapper; first | (rw [if_pos (by decide +kernel)]; kernel_rfl) | (rw [if_neg (by decide +kernel)]; exact ⟨rfl, rfl⟩))
    (fun os started H enc _ => lifted os started H enc)
theorem proved : Rows.DrainFloodsCardSaid :=
  Claim7.holds_tied_plain_at .later [] [.handle, .sentinel, .sentinel, .sentinel, .sentinel, .sentinel, .sentinel, .sentinel, .sentinel] true (true, "2c6a993363151e49d24002e89860878e7966fcc3637518dfcc0da44657d94591") true
    row (fun _ h => by cases h) (by kernel_rfl) (fun _ h => by cases h) drainFloods_row_tie rfl ⟨rfl, rfl⟩ (by kernel_rfl) rfl
    (fun f fn hf hfn => by
      obtain rfl : f = 4 := Option.some.inj ((show Tryd.prog.funcNamed "mercator/mercatorlaw4.DrainFloods" = some 4 by kernel_rfl).symm.trans hf) |>.symm
      obtain rfl : fn = Tryd.f4 := (Option.some.inj (Tryd.func4.symm.trans hfn)).symm
      exact ⟨by kernel_rfl, fun j t ht => by
        rw [Tryd.params4] at ht
        have hm : t ∈ [22] := by simpa using Array.mem_of_getElem? ht
        have hall : ([22].all fun u => !Tryd.prog.wantsStandIn u) = true := by kernel_rfl
        exact (show Tryd.prog.wantsStandIn t = false by simpa using List.all_eq_true.1 hall t hm)⟩)
    (by kernel_rfl)
end Go.Proofs.YtepkknjncpbahaaDoor.drainFloods
