/-
  Is a raster right: in one piece; slices.Clone.
-/
import Derived.Test.YtepkknjncpbahaaDoorM5
import Derived.LaidHandle
import Derived.LaidSub
import Derived.Test.YtepkknjncpbahaaDoorChecked
import Derived.WalkKit
import Derived.ProofKit
import Derived.OpenShut
import Derived.Carry
namespace Go.Proofs.YtepkknjncpbahaaDoor
open Go Go.Ab
set_option maxRecDepth 100000
theorem valid1 (E : Errs) (a : Ras) (hl : a.2.2.length ≤ 1000000000000) (K : AV → List AO → Prop) (hK : K (.fz .raw (er E (rerr a))) []) : ACall Tryd.prog (G8 E) 53 [.fz RasT a] [] K :=
  up8 (valid_any E a hl K (fun h => by rw [h] at hK; exact hK) (fun h => by rw [h] at hK; exact hK) (fun h => by rw [h] at hK; exact hK) (fun h => by rw [h] at hK; exact hK))
theorem clone_any (G : List (Nat × Value)) (xs : List Int) (hn : 0 < xs.length) (hl : xs.length ≤ 4294967296) (K : AV → List AO → Prop) (hK : K (.ref 0 0 xs.length) [.row int xs]) :
    ACall Tryd.prog G 54 [.fz (.list int) xs] [] K := by
  refine acall_mk (E := envAt G 8 0) (envOk _ _ _) Tryd.func54 rfl rfl rfl rfl rfl ?_
  (repeat' (first | exact trivial | exact fun h => h | refine And.intro ?_ ?_ | (intro hb; first | (simp at hb; done) | (simp at hb) | skip) | omega | exact rfl | exact Nat.le_refl _ | (show _ + 1 ≤ 4294967296; omega) | (dsimp only; omega) | (show (_ : Int) ≤ (_ : Int); omega) | (show _ < List.length _; simp only [List.length_set, List.length_append, List.length_take]; omega) | (show wantB _ _ = true; simp; done) | (show wantB _ _ = true; simp; omega) | (show (_ : Bool) = _; simp_all; done) | (exfalso; omega) | refine aRegion_auto (by decide +kernel) ?_ | fail))
  refine ⟨.ref 0 0 xs.length, [.row int xs], REnt.ren [1] rfl ?_ ?_, hK⟩
  · (repeat' (first | exact trivial | exact rfl | refine And.intro ?_ ?_))
  · (repeat' (first | exact trivial | exact rfl | refine And.intro ?_ ?_))
    exact congrArg (AV.ref 1 0) (Nat.zero_add xs.length)
end Go.Proofs.YtepkknjncpbahaaDoor
/-
  The program's flood: the walk.
-/
namespace Go.Proofs.YtepkknjncpbahaaDoor
open Go Go.Ab
set_option maxRecDepth 100000
def P1 (w h k i : Nat) : Int := if i < k then (if rimN w h i then 8 else -1) else 0
def fResP (w h : Nat) (a : Ras) : List Int × List Int × List Int := (lst (w * h) (flD w h (hts a)).fill, lst (w * h) (fun i => wayN w i ((flD w h (hts a)).to i)), natL (flD w h (hts a)).ord)
set_option maxHeartbeats 8000000 in
theorem flood_ok (E : Errs) (a : Ras) (hv : rerr a = 0) {w h : Nat} (R : RasN a w h) (K : AV → List AO → Prop) (hK : K (.tup [.fz FT (fResP w h a), .fz .raw .nilIface]) []) :
    ACall Tryd.prog (G8 E) 37 [.fz RasT a] [] K := by
  have hl := R.len
  have hwh := R.wh
  have hpos : 0 < w * h := Nat.mul_pos R.w0 R.h0
  obtain ⟨n, hn⟩ : ∃ n, n = w * h := ⟨_, rfl⟩
  rw [← hn] at hl hwh hpos
  let bA : AO := .box [.fz int a.1, .fz int a.2.1, .fz (.list int) a.2.2]
  let bR : AO := .box [.nilSl, .nilSl, .nilSl]
  let rm : AO := .room
  let Z : AO := .row int (List.replicate a.2.2.length 0)
  let C : AO := .row int a.2.2
  let B1 : AO := .box [.ref 4 0 a.2.2.length, .ref 2 0 a.2.2.length, .nilSl]
  refine acall_mk (E := envAt (G8 E) 119 0) (envOk _ _ _) Tryd.func37 rfl rfl rfl rfl rfl ?_
  (repeat' (first | exact trivial | exact fun h => h | refine And.intro ?_ ?_ | (intro hb; first | (simp at hb; done) | (simp at hb) | skip) | omega | exact rfl | exact Nat.le_refl _ | (show _ + 1 ≤ 4294967296; omega) | (dsimp only; omega) | (show (_ : Int) ≤ (_ : Int); omega) | (show _ < List.length _; simp only [List.length_set, List.length_append, List.length_take]; omega) | (show wantB _ _ = true; simp; done) | (show wantB _ _ = true; simp; omega) | (show (_ : Bool) = _; simp_all; done) | (exfalso; omega) | fail))
  refine acall_conv [.dat RasT] _ _ _ rfl trivial (acall_frame0 rfl (valid1 E a (by omega) _ ?_))
  rw [hv]
  (repeat' (first | exact trivial | exact fun h => h | refine And.intro ?_ ?_ | (intro hb; first | (simp at hb; done) | (simp at hb) | skip) | omega | exact rfl | exact Nat.le_refl _ | (show _ + 1 ≤ 4294967296; omega) | (dsimp only; omega) | (show (_ : Int) ≤ (_ : Int); omega) | (show _ < List.length _; simp only [List.length_set, List.length_append, List.length_take]; omega) | (show wantB _ _ = true; simp; done) | (show wantB _ _ = true; simp; omega) | (show (_ : Bool) = _; simp_all; done) | (exfalso; omega) | fail))
  refine aRegion_open 2 (by decide +kernel) ?_
  (repeat' (first | exact trivial | exact fun h => h | refine And.intro ?_ ?_ | (intro hb; first | (simp at hb; done) | (simp at hb) | skip) | omega | exact rfl | exact Nat.le_refl _ | (show _ + 1 ≤ 4294967296; omega) | (dsimp only; omega) | (show (_ : Int) ≤ (_ : Int); omega) | (show _ < List.length _; simp only [List.length_set, List.length_append, List.length_take]; omega) | (show wantB _ _ = true; simp; done) | (show wantB _ _ = true; simp; omega) | (show (_ : Bool) = _; simp_all; done) | (exfalso; omega) | refine aRegion_auto (by decide +kernel) ?_ | fail))
  refine eff_is (.ref 4 0 a.2.2.length) [bA, bR, rm, rm, C] ?_
  (repeat' (first | exact trivial | exact fun h => h | refine And.intro ?_ ?_ | (intro hb; first | (simp at hb; done) | (simp at hb) | skip) | omega | exact rfl | exact Nat.le_refl _ | (show _ + 1 ≤ 4294967296; omega) | (dsimp only; omega) | (show (_ : Int) ≤ (_ : Int); omega) | (show _ < List.length _; simp only [List.length_set, List.length_append, List.length_take]; omega) | (show wantB _ _ = true; simp; done) | (show wantB _ _ = true; simp; omega) | (show (_ : Bool) = _; simp_all; done) | (exfalso; omega) | refine aRegion_auto (by decide +kernel) ?_ | fail))
  refine eff_is (.ref 2 0 a.2.2.length) [bA, bR, Z, rm, C] ?_
  (repeat' (first | exact trivial | exact fun h => h | refine And.intro ?_ ?_ | (intro hb; first | (simp at hb; done) | (simp at hb) | skip) | omega | exact rfl | exact Nat.le_refl _ | (show _ + 1 ≤ 4294967296; omega) | (dsimp only; omega) | (show (_ : Int) ≤ (_ : Int); omega) | (show _ < List.length _; simp only [List.length_set, List.length_append, List.length_take]; omega) | (show wantB _ _ = true; simp; done) | (show wantB _ _ = true; simp; omega) | (show (_ : Bool) = _; simp_all; done) | (exfalso; omega) | refine aRegion_auto (by decide +kernel) ?_ | fail))
  refine eff_is (.ptr 3 0) [bA, bR, Z, bR, C] ?_
  (repeat' (first | exact trivial | exact fun h => h | refine And.intro ?_ ?_ | (intro hb; first | (simp at hb; done) | (simp at hb) | skip) | omega | exact rfl | exact Nat.le_refl _ | (show _ + 1 ≤ 4294967296; omega) | (dsimp only; omega) | (show (_ : Int) ≤ (_ : Int); omega) | (show _ < List.length _; simp only [List.length_set, List.length_append, List.length_take]; omega) | (show wantB _ _ = true; simp; done) | (show wantB _ _ = true; simp; omega) | (show (_ : Bool) = _; simp_all; done) | (exfalso; omega) | refine aRegion_auto (by decide +kernel) ?_ | fail))
  refine eff_is .unk [bA, bR, Z, B1, C] ?_
  refine ⟨[(0, [bA, bR, rm, rm]), (4, [bA, bR, rm, rm, C]), (64, [bA, bR, Z, rm]), (256, [bA, bR, rm, bR]), (68, [bA, bR, Z, rm, C]), (260, [bA, bR, rm, bR, C]), (320, [bA, bR, Z, bR]), (324, [bA, bR, Z, bR, C]), (836, [bA, bR, Z, B1, C])], rfl, rfl, ?_, ?_⟩
  · (repeat' (first | refine And.intro ?_ ?_ | exact trivial | exact rfl | omega))
    all_goals first
      | (refine view_of [0, 1, 4, 3] rfl ?_ rfl rfl; (repeat' (first | exact trivial | exact rfl | refine And.intro ?_ ?_)); done)
      | (refine view_of [0, 1, 2, 4] rfl ?_ rfl rfl; (repeat' (first | exact trivial | exact rfl | refine And.intro ?_ ?_)); done)
      | (refine view_of [0, 1, 5, 3, 4] rfl ?_ rfl rfl; (repeat' (first | exact trivial | exact rfl | refine And.intro ?_ ?_)); done)
      | (refine view_of [0, 1, 2, 5, 4] rfl ?_ rfl rfl; (repeat' (first | exact trivial | exact rfl | refine And.intro ?_ ?_)); done)
      | (refine view_of [0, 1, 2, 3, 4] rfl ?_ rfl rfl; (repeat' (first | exact trivial | exact rfl | refine And.intro ?_ ?_)); done)
      | (refine acall_frame0 rfl (clone_any _ a.2.2 (by omega) (by omega) _ ?_); refine view_of [0, 1, 2, 3, 4] rfl ?_ rfl rfl; (repeat' (first | exact trivial | exact rfl | refine And.intro ?_ ?_)); done)
  (repeat' (first | exact trivial | exact fun h => h | refine And.intro ?_ ?_ | (intro hb; first | (simp at hb; done) | (simp at hb) | skip) | omega | exact rfl | exact Nat.le_refl _ | (show _ + 1 ≤ 4294967296; omega) | (dsimp only; omega) | (show (_ : Int) ≤ (_ : Int); omega) | (show _ < List.length _; simp only [List.length_set, List.length_append, List.length_take]; omega) | (show wantB _ _ = true; simp; done) | (show wantB _ _ = true; simp; omega) | (show (_ : Bool) = _; simp_all; done) | (exfalso; omega) | refine aRegion_auto (by decide +kernel) ?_ | fail))
  refine ⟨Nat × List P2, fun x => ⟨[(1, .ptr 0 0), (2, .ptr 1 0), (5, .ptr 3 0), (6, .ptr 5 0), (28, .fz int n), (29, .fz int x.1)], [bA, bR, .row int (lst n (P1 w h x.1)), .box [.ref 4 0 n, .ref 2 0 n, .nilSl], .row int (lst n (hts a)), .box [.ref 6 0 x.2.length], .row WT x.2]⟩,
    fun x => x.1 ≤ n ∧ HeapB x.2.length x.2 ∧ AllW x.2 ∧ x.2.Perm (WL x.1 (fun i => decide (rimN w h i)) (hts a)), fun x => n - x.1, (0, []), ⟨Nat.zero_le _, (fun i _ hi => absurd hi (Nat.not_lt_zero _) : HeapB 0 []), (fun p hp => absurd hp (by simp) : AllW []), List.Perm.refl _⟩, (Ent.nilBox 5 0 WT rfl rfl).trans (Ent.sub ?_ ?_), ?_⟩
  · show [bA, bR, .row int (List.replicate a.2.2.length 0), .box [.ref 4 0 a.2.2.length, .ref 2 0 a.2.2.length, .nilSl], .row int a.2.2, .box [.ref 6 0 0], .row WT []] = _
    have e : a.2.2 = lst n (hts a) := by rw [← hl]; exact lst_eq _
    rw [hl, lst_zero]
    (repeat' (first | exact rfl | refine cons_eq ?_ ?_))
    exact congrArg (AO.row int) e
  · (repeat' (first | exact trivial | exact rfl | refine And.intro ?_ ?_))
    exact congrArg (fun z : Nat => AV.fz int (z : Int)) hl
  · rintro ⟨k, xs⟩ ⟨hk, hh, ha, hp⟩
    simp only at hk hh ha hp
    have hT := lst_len n (P1 w h k)
    have hLn := lst_len n (hts a)
    have hxl : xs.length ≤ k := by rw [hp.length_eq]; exact WL_len
    (repeat' (first | exact trivial | exact fun h => h | refine And.intro ?_ ?_ | (intro hb; first | (simp at hb; done) | (simp at hb) | skip) | omega | exact rfl | exact Nat.le_refl _ | (show _ + 1 ≤ 4294967296; omega) | (dsimp only; omega) | (show (_ : Int) ≤ (_ : Int); omega) | (show _ < List.length _; simp only [List.length_set, List.length_append, List.length_take]; omega) | (show wantB _ _ = true; simp; done) | (show wantB _ _ = true; simp; omega) | (show (_ : Bool) = _; simp_all; done) | (exfalso; omega) | refine aRegion_auto (by decide +kernel) ?_ | fail))
    · have hkn : k < n := by assumption
      refine acall_conv [.dat RasT, .keep] _ _ _ rfl trivial (acall_frame0 rfl (rim_any _ a R k (by omega) _ ?_))
      (repeat' (first | exact trivial | exact fun h => h | refine And.intro ?_ ?_ | (intro hb; first | (simp at hb; done) | (simp at hb) | skip) | omega | exact rfl | exact Nat.le_refl _ | (show _ + 1 ≤ 4294967296; omega) | (dsimp only; omega) | (show (_ : Int) ≤ (_ : Int); omega) | (show _ < List.length _; simp only [List.length_set, List.length_append, List.length_take]; omega) | (show wantB _ _ = true; simp; done) | (show wantB _ _ = true; simp; omega) | (show (_ : Bool) = _; simp_all; done) | (exfalso; omega) | refine aRegion_auto (by decide +kernel) ?_ | fail))
      · have hbd := R.at k
        refine acall_frame [5, 6] (hA xs.length xs) [hI, agW (hts a k, (k : Int))] rfl ⟨⟨rfl, rfl⟩, ⟨rfl, trivial⟩, trivial⟩ ⟨rfl, rfl⟩ rfl (heapPush_any _ xs xs.length (hts a k, (k : Int)) (by omega) (Nat.le_refl _) hh ha ?_ _ fun ys e1 e2 e3 e4 => ?_)
        · exact ⟨hbd.1, hbd.2, by show (0 : Int) ≤ k; omega, by show (k : Int) < 65536; omega⟩
        (repeat' (first | exact trivial | exact fun h => h | refine And.intro ?_ ?_ | (intro hb; first | (simp at hb; done) | (simp at hb) | skip) | omega | exact rfl | exact Nat.le_refl _ | (show _ + 1 ≤ 4294967296; omega) | (dsimp only; omega) | (show (_ : Int) ≤ (_ : Int); omega) | (show _ < List.length _; simp only [List.length_set, List.length_append, List.length_take]; omega) | (show wantB _ _ = true; simp; done) | (show wantB _ _ = true; simp; omega) | (show (_ : Bool) = _; simp_all; done) | (exfalso; omega) | refine aRegion_auto (by decide +kernel) ?_ | fail))
        refine ⟨(k + 1, ys), ⟨by show k + 1 ≤ n; omega, by show HeapB ys.length ys; rw [e1]; exact e3, e4, ?_⟩, by show n - (k + 1) < n - k; omega, Ent.ren [0, 1, 2, 3, 4, 5, 7] rfl ?_ ?_⟩
        · rw [List.take_length] at e2
          show ys.Perm (WL (k + 1) _ _)
          rw [WL_succ, if_pos (by simpa using hb)]
          exact e2.trans (hp.append_right _)
        · (repeat' (first | exact trivial | exact rfl | refine And.intro ?_ ?_))
          · refine congrArg some (row_set2 (k := k) (f := P1 w h k) (g := P1 w h (k + 1)) 8 rfl fun i hi => ?_)
            unfold P1
            by_cases e : i = k
            · subst e; rw [if_pos rfl, if_pos (show i < i + 1 by omega), if_pos hb]
            · rw [if_neg e]; by_cases e2 : i < k
              · rw [if_pos e2, if_pos (show i < k + 1 by omega)]
              · rw [if_neg e2, if_neg (show ¬ i < k + 1 by omega)]
          · exact congrArg (fun z => some (AO.box [AV.ref 7 0 z])) (show xs.length + 1 = ys.length from e1.symm)
        · (repeat' (first | exact trivial | exact rfl | refine And.intro ?_ ?_))
      · refine ⟨(k + 1, xs), ⟨by show k + 1 ≤ n; omega, hh, ha, ?_⟩, by show n - (k + 1) < n - k; omega, Ent.sub ?_ ?_⟩
        · show xs.Perm (WL (k + 1) _ _)
          rw [WL_succ, if_neg (by simpa using hb), List.append_nil]
          exact hp
        · (repeat' (first | exact rfl | refine cons_eq ?_ ?_))
          · refine row_set1 (k := k) (f := P1 w h k) (g := P1 w h (k + 1)) (-1) rfl fun i hi => ?_
            unfold P1
            by_cases e : i = k
            · subst e; rw [if_pos rfl, if_pos (show i < i + 1 by omega), if_neg hb]
            · rw [if_neg e]; by_cases e2 : i < k
              · rw [if_pos e2, if_pos (show i < k + 1 by omega)]
              · rw [if_neg e2, if_neg (show ¬ i < k + 1 by omega)]
        · (repeat' (first | exact trivial | exact rfl | refine And.intro ?_ ?_))
    · have hk2 : k = n := by omega
      subst hk2
      (repeat' (first | exact trivial | exact fun h => h | refine And.intro ?_ ?_ | (intro hb; first | (simp at hb; done) | (simp at hb) | skip) | omega | exact rfl | exact Nat.le_refl _ | (show _ + 1 ≤ 4294967296; omega) | (dsimp only; omega) | (show (_ : Int) ≤ (_ : Int); omega) | (show _ < List.length _; simp only [List.length_set, List.length_append, List.length_take]; omega) | (show wantB _ _ = true; simp; done) | (show wantB _ _ = true; simp; omega) | (show (_ : Bool) = _; simp_all; done) | (exfalso; omega) | refine aRegion_auto (by decide +kernel) ?_ | fail))
      refine ⟨Nat × Nat × List P2, fun x => ⟨[(1, .ptr 0 0), (2, .ptr 1 0), (5, .ptr 3 0), (6, .ptr 5 0)], [bA, bR, .row int (lst k (floI w (flN w h (hts a) x.1))), .box [.ref 4 0 k, .ref 2 0 k, .ref 7 0 x.1], .row int (lst k (filI (hts a) (flN w h (hts a) x.1))), .box [.ref 6 0 x.2.1], .row WT x.2.2, .row int (natL (flN w h (hts a) x.1).ord)]⟩,
        fun x => x.1 ≤ k ∧ x.2.1 ≤ x.2.2.length ∧ HeapB x.2.1 x.2.2 ∧ AllW x.2.2 ∧ (x.2.2.take x.2.1).Perm (wts k (flN w h (hts a) x.1)), fun x => k - x.1, (0, xs.length, xs), ⟨Nat.zero_le _, Nat.le_refl _, hh, ha, ?_⟩, (Ent.nilBox 3 2 int rfl rfl).trans (Ent.sub ?_ ?_), ?_⟩
      · show (xs.take xs.length).Perm _
        rw [List.take_length]
        refine hp.trans (List.Perm.of_eq (WL_congr (fun i hi => ?_) (fun i hi hr => ?_)))
        · show decide (rimN w h i) = decide ((if rimN w h i then 1 else 0) = 1)
          by_cases e : rimN w h i <;> simp [e]
        · show hts a i = if rimN w h i then hts a i else 0
          rw [if_pos (by simpa using hr)]
      · (repeat' (first | exact rfl | refine cons_eq ?_ ?_))
        · refine row_lst fun i hi => ?_
          have e0 : (flN w h (hts a) 0).st i = if rimN w h i then 1 else 0 := rfl
          have e1 : (flN w h (hts a) 0).to i = i := rfl
          simp only [P1, floI, e0, e1, if_pos hi, way_self]
          by_cases e : rimN w h i <;> simp [e]
        · refine row_lst fun i hi => ?_
          have e0 : (flN w h (hts a) 0).st i = if rimN w h i then 1 else 0 := rfl
          have e1 : (flN w h (hts a) 0).fill i = if rimN w h i then hts a i else 0 := rfl
          simp only [filI, e0, e1]
          by_cases e : rimN w h i <;> simp [e]
      · (repeat' (first | exact trivial | exact rfl | refine And.intro ?_ ?_))
      clear hh ha hp hxl hT
      rintro ⟨j, m, xs⟩ ⟨hj, hm, hh, ha, hp⟩
      simp only at hj hm hh ha hp
      obtain ⟨I, hol⟩ := flN_ok w h (hts a) R.w0 j (by omega)
      have hol' := natL_len (flN w h (hts a) j).ord
      have hml : m ≤ k := by
        have := hp.length_eq
        rw [List.length_take, Nat.min_eq_left hm] at this
        rw [this]; exact WL_len
      have hT := lst_len k (floI w (flN w h (hts a) j))
      have hF := lst_len k (filI (hts a) (flN w h (hts a) j))
      cases m with
      | zero =>
        have hjk : j = k := by
          apply Decidable.byContradiction
          intro hne
          obtain ⟨b, hb1, hb2, hb3⟩ := @flN_best w h (hts a) R.w0 j (by omega)
          have hmem : ((flN w h (hts a) j).fill b, ((b : Nat) : Int)) ∈ wts k (flN w h (hts a) j) := WL_mem.2 ⟨b, by have := hb2.1; omega, by rw [hb2.2.1]; rfl, rfl⟩
          have := hp.mem_iff.2 hmem
          simp at this
        subst hjk
        have hOl : (natL (flN w h (hts a) j).ord).length = j := by rw [hol', hol]
        (repeat' (first | exact trivial | exact fun h => h | refine And.intro ?_ ?_ | (intro hb; first | (simp at hb; done) | (simp at hb) | skip) | omega | exact rfl | exact Nat.le_refl _ | (show _ + 1 ≤ 4294967296; omega) | (dsimp only; omega) | (show (_ : Int) ≤ (_ : Int); omega) | (show _ < List.length _; simp only [List.length_set, List.length_append, List.length_take]; omega) | (show wantB _ _ = true; simp; done) | (show wantB _ _ = true; simp; omega) | (show (_ : Bool) = _; simp_all; done) | (exfalso; omega) | refine aRegion_auto (by decide +kernel) ?_ | fail))
        refine ⟨_, _, (REnt.conv [.dat FT, .keep] _ rfl ?_).trans (REnt.drop ⟨rfl, rfl⟩), ?_⟩
        · exact ⟨by show 0 + j ≤ _; rw [hF]; omega, by show 0 + j ≤ _; rw [hT]; omega, by show 0 + j ≤ _; rw [hOl]; omega⟩
        · have hall := flD_all w h (hts a) R.w0
          refine (congrArg (fun x => K (.tup [.fz FT x, .fz .raw .nilIface]) []) (?_ : fResP w h a = (List.take j (List.drop 0 (lst j (filI (hts a) (flN w h (hts a) j)))), List.take j (List.drop 0 (lst j (floI w (flN w h (hts a) j)))), List.take j (List.drop 0 (natL (flN w h (hts a) j).ord))))).mp hK
          rw [List.drop_zero, List.drop_zero, List.drop_zero, List.take_of_length_le (by omega), List.take_of_length_le (by omega), List.take_of_length_le (by omega)]
          unfold fResP flD
          unfold flD at hall
          rw [← hn] at hall ⊢
          have e1 : lst j (fun i => wayN w i ((flN w h (hts a) j).to i)) = lst j (floI w (flN w h (hts a) j)) := lst_congr fun i hi => by
            unfold floI; rw [if_neg (by rw [hall i hi]; omega)]
          have e2 : lst j (flN w h (hts a) j).fill = lst j (filI (hts a) (flN w h (hts a) j)) := lst_congr fun i hi => by
            unfold filI; rw [if_neg (by rw [hall i hi]; omega)]
          rw [e1, e2]
      | succ m =>
        have hjk : j < k := by
          apply Decidable.byContradiction
          intro hne
          have : j = k := by omega
          subst this
          have hall := flD_all w h (hts a) R.w0
          have hlen := hp.length_eq
          rw [List.length_take, Nat.min_eq_left hm] at hlen
          have : wts j (flN w h (hts a) j) = [] := by
            rw [List.eq_nil_iff_forall_not_mem]
            intro x hx
            obtain ⟨i, h1, h2, _⟩ := WL_mem.1 hx
            have h3 := hall i (by omega)
            unfold flD at h3
            rw [← hn] at h3
            rw [h3] at h2; simp at h2
          rw [this] at hlen; simp at hlen
        obtain ⟨b, hb1, hb2, hb3⟩ := @flN_best w h (hts a) R.w0 j (by omega)
        (repeat' (first | exact trivial | exact fun h => h | refine And.intro ?_ ?_ | (intro hb; first | (simp at hb; done) | (simp at hb) | skip) | omega | exact rfl | exact Nat.le_refl _ | (show _ + 1 ≤ 4294967296; omega) | (dsimp only; omega) | (show (_ : Int) ≤ (_ : Int); omega) | (show _ < List.length _; simp only [List.length_set, List.length_append, List.length_take]; omega) | (show wantB _ _ = true; simp; done) | (show wantB _ _ = true; simp; omega) | (show (_ : Bool) = _; simp_all; done) | (exfalso; omega) | refine aRegion_auto (by decide +kernel) ?_ | fail))
        refine acall_frame [5, 6] (hA (m + 1) xs) [hI] rfl ⟨⟨rfl, rfl⟩, ⟨rfl, trivial⟩, trivial⟩ ⟨rfl, rfl⟩ rfl (heapPop_any _ xs m (by omega) hm hh ha _ fun ys e1 e2 e3 e4 e5 => ?_)
        obtain ⟨hbk, hbs, _⟩ := id hb2
        rw [← hn] at hb2
        have hbn : b < k := by omega
        have tk : ys.take (m + 1) = ys.take m ++ [at2 ys m] := by
          rw [List.take_succ_eq_append_getElem (by omega)]
          simp [at2, List.getD, show m < ys.length by omega]
        have hpy : (ys.take m ++ [at2 ys m]).Perm (wts k (flN w h (hts a) j)) := by rw [← tk]; exact e2.trans hp
        have xm : at2 ys m = ((flN w h (hts a) j).fill b, ((b : Nat) : Int)) := by
          obtain ⟨i, h1, h2, h3⟩ := WL_mem.1 (hpy.mem_iff.1 (by simp : at2 ys m ∈ ys.take m ++ [at2 ys m]))
          have h2 : (flN w h (hts a) j).st i = 1 := by simpa using h2
          have hmem : ((flN w h (hts a) j).fill b, ((b : Nat) : Int)) ∈ ys.take m ++ [at2 ys m] := hpy.mem_iff.2 (WL_mem.2 ⟨b, hbn, by rw [hbs]; rfl, rfl⟩)
          have hkey : key (at2 ys m) ≤ key ((flN w h (hts a) j).fill b, ((b : Nat) : Int)) := by
            rcases List.mem_append.1 hmem with hmem | hmem
            · obtain ⟨k', hk', he⟩ := List.getElem_of_mem hmem
              have hk2 : k' < m := by simp at hk'; omega
              have hky : key (at2 ys m) ≤ key (at2 ys k') := e5 k' hk2
              have e : at2 ys k' = ((flN w h (hts a) j).fill b, ((b : Nat) : Int)) := by
                rw [← he]; simp [at2, List.getD, show k' < ys.length by omega]
              rw [e] at hky; exact hky
            · simp at hmem; rw [hmem]; exact Int.le_refl _
          rw [h3] at hkey ⊢
          have hib := best_key (w := w) (h := h) (by omega) (by rw [hn] at hb2; exact hb2) (by omega) h2 hkey
          rw [hib]
        have hp0 : (ys.take m).Perm (wts k (flQ w h (hts a) (flN w h (hts a) j) b 0)) := by
          have h1 := wts_take (w := w) (h := h) (L := hts a) (S := (flN w h (hts a) j)) (b := b) (by omega) hbs
          rw [← hn] at h1
          rw [xm] at hpy
          exact List.perm_append_right_iff _ |>.1 (hpy.trans h1)
        have hbW := e4.at m
        rw [xm] at hbW ⊢
        have hmy : m ≤ ys.length := by omega
        clear hp e2 e5 hpy tk ha hh hm
        have hOl : (natL (flN w h (hts a) j).ord).length = j := by rw [hol', hol]
        (repeat' (first | exact trivial | exact fun h => h | refine And.intro ?_ ?_ | (intro hb; first | (simp at hb; done) | (simp at hb) | skip) | omega | exact rfl | exact Nat.le_refl _ | (show _ + 1 ≤ 4294967296; omega) | (dsimp only; omega) | (show (_ : Int) ≤ (_ : Int); omega) | (show _ < List.length _; simp only [List.length_set, List.length_append, List.length_take]; omega) | (show wantB _ _ = true; simp; done) | (show wantB _ _ = true; simp; omega) | (show (_ : Bool) = _; simp_all; done) | (exfalso; omega) | refine aRegion_auto (by decide +kernel) ?_ | fail))
        refine ⟨Nat × Nat × List P2, fun x => ⟨[(1, .ptr 0 0), (2, .ptr 1 0), (5, .ptr 3 0), (6, .ptr 5 0), (8, .ptr 8 0), (67, .fz int x.1)], [bA, bR, .row int (lst k (floI w (flQ w h (hts a) (flN w h (hts a) j) b x.1))), .box [.ref 4 0 k, .ref 2 0 k, .ref 7 0 (j + 1)], .row int (lst k (filI (hts a) (flQ w h (hts a) (flN w h (hts a) j) b x.1))), .box [.ref 6 0 x.2.1], .row WT x.2.2, .row int (natL ((flN w h (hts a) j).ord ++ [b])), .box [.fz int ((flN w h (hts a) j).fill b), .fz int b]]⟩,
          fun x => x.1 ≤ 8 ∧ x.2.1 ≤ x.2.2.length ∧ HeapB x.2.1 x.2.2 ∧ AllW x.2.2 ∧ (x.2.2.take x.2.1).Perm (wts k (flQ w h (hts a) (flN w h (hts a) j) b x.1)), fun x => 8 - x.1, (0, m, ys), ⟨Nat.zero_le _, hmy, e3, e4, hp0⟩, Ent.ren [0, 1, 2, 3, 4, 5, 6, 10, 8] rfl ?_ ?_, ?_⟩
        · (repeat' (first | exact trivial | exact rfl | refine And.intro ?_ ?_))
          · refine congrArg some (row_lst fun i hi => ?_)
            unfold floI; rw [flQ_st, flQ_to, show visB w h b 0 i = false from rfl]
            by_cases hib : i = b
            · subst hib; simp [hbs]
            · simp [hib]
          · refine congrArg some (row_lst fun i hi => ?_)
            unfold filI; rw [flQ_st, flQ_fill, show visB w h b 0 i = false from rfl]
            by_cases hib : i = b
            · subst hib; simp [hbs]
            · simp [hib]
          · refine congrArg (fun l => some (AO.row int l)) (?_ : List.take j (natL (flN w h (hts a) j).ord) ++ [(b : Int)] = natL ((flN w h (hts a) j).ord ++ [b]))
            rw [List.take_of_length_le (by omega)]
            simp [natL]
        · (repeat' (first | exact trivial | exact rfl | refine And.intro ?_ ?_))
        clear xm e1 e3 e4 hp0 hmy ys
        rintro ⟨q, m, ys⟩ ⟨hq, hm, hh, ha, hp⟩
        simp only at hq hm hh ha hp
        have hT := lst_len k (floI w (flQ w h (hts a) (flN w h (hts a) j) b q))
        have hF := lst_len k (filI (hts a) (flQ w h (hts a) (flN w h (hts a) j) b q))
        have hml : m ≤ k := by
          have := hp.length_eq
          rw [List.length_take, Nat.min_eq_left hm] at this
          rw [this]; exact WL_len
        by_cases hq8 : q < 8
        · have skip : (∀ t, nbN w h b q = some t → (flQ w h (hts a) (flN w h (hts a) j) b q).st t ≠ 0) → lst k (floI w (flQ w h (hts a) (flN w h (hts a) j) b q)) = lst k (floI w (flQ w h (hts a) (flN w h (hts a) j) b (q + 1))) ∧ lst k (filI (hts a) (flQ w h (hts a) (flN w h (hts a) j) b q)) = lst k (filI (hts a) (flQ w h (hts a) (flN w h (hts a) j) b (q + 1))) ∧ wts k (flQ w h (hts a) (flN w h (hts a) j) b q) = wts k (flQ w h (hts a) (flN w h (hts a) j) b (q + 1)) := fun h0 =>
            rows_eq fun i hi => by obtain ⟨x1, x2, x3⟩ := flQ_skip (L := hts a) hbs h0 i; exact ⟨x1.symm, x2.symm, x3.symm⟩
          (repeat' (first | exact trivial | exact fun h => h | refine And.intro ?_ ?_ | (intro hb; first | (simp at hb; done) | (simp at hb) | skip) | omega | exact rfl | exact Nat.le_refl _ | (show _ + 1 ≤ 4294967296; omega) | (dsimp only; omega) | (show (_ : Int) ≤ (_ : Int); omega) | (show _ < List.length _; simp only [List.length_set, List.length_append, List.length_take]; omega) | (show wantB _ _ = true; simp; done) | (show wantB _ _ = true; simp; omega) | (show (_ : Bool) = _; simp_all; done) | (exfalso; omega) | refine aRegion_auto (by decide +kernel) ?_ | fail))
          refine acall_conv [.dat RasT, .keep, .keep] _ _ _ rfl trivial (acall_frame0 rfl (neighbour_any _ a R b q (by omega) hq8 _ (fun u hu => ?_) (fun hnone => ?_)))
          · have hun : u < k := by have := (nb_cell (by omega) hu).1; omega
            have g1 : (lst k (floI w (flQ w h (hts a) (flN w h (hts a) j) b q)))[u]?.getD int.dft = floI w (flQ w h (hts a) (flN w h (hts a) j) b q) u := lst_get _ hun
            have g2 := flo_nn (q := q) I (b := b) (by omega) hbs (by omega) (i := u) (by omega)
            have hLu : u < a.2.2.length := by omega
            have pv : ∀ v, List.getD (List.set (lst k (filI (hts a) (flQ w h (hts a) (flN w h (hts a) j) b q))) (0 + Int.toNat (u : Int)) v) (0 + Int.toNat (u : Int)) int.dft = v := fun v => by
              rw [Nat.zero_add, Int.toNat_natCast, List.getD_eq_getElem?_getD, List.getElem?_set_self (by omega)]; rfl
            (repeat' (first | exact trivial | exact fun h => h | refine And.intro ?_ ?_ | (intro hb; first | (simp at hb; done) | (simp at hb) | skip) | omega | exact rfl | exact Nat.le_refl _ | (show _ + 1 ≤ 4294967296; omega) | (dsimp only; omega) | (show (_ : Int) ≤ (_ : Int); omega) | (show _ < List.length _; simp only [List.length_set, List.length_append, List.length_take]; omega) | (show wantB _ _ = true; simp; done) | (show wantB _ _ = true; simp; omega) | (show (_ : Bool) = _; simp_all; done) | (exfalso; omega) | refine aRegion_auto (by decide +kernel) ?_ | fail))
            · obtain ⟨s1, s2, s3⟩ := skip (fun t ht => by rw [hu] at ht; cases ht; exact g2.1 (by omega))
              refine ⟨(q + 1, m, ys), ⟨by show q + 1 ≤ 8; omega, hm, hh, ha, by rw [← s3]; exact hp⟩, by show 8 - (q + 1) < 8 - q; omega, Ent.sub ?_ ?_⟩
              · show [bA, bR, .row int (lst k (floI w (flQ w h (hts a) (flN w h (hts a) j) b q))), .box [.ref 4 0 k, .ref 2 0 k, .ref 7 0 (j + 1)], .row int (lst k (filI (hts a) (flQ w h (hts a) (flN w h (hts a) j) b q))), _, _, _, _] = [bA, bR, .row int (lst k (floI w (flQ w h (hts a) (flN w h (hts a) j) b (q + 1)))), .box [.ref 4 0 k, .ref 2 0 k, .ref 7 0 (j + 1)], .row int (lst k (filI (hts a) (flQ w h (hts a) (flN w h (hts a) j) b (q + 1)))), _, _, _, _]
                rw [s1, s2]
              · (repeat' (first | exact trivial | exact rfl | refine And.intro ?_ ?_))
            · have hst0 : (flQ w h (hts a) (flN w h (hts a) j) b q).st u = 0 := by
                apply Decidable.byContradiction
                intro hne
                have := g2.2 hne
                omega
              have hrow := rows_new (w := w) (h := h) (L := hts a) (S := (flN w h (hts a) j)) (b := b) (q := q) (by omega) hbs hq8 hu hst0
              have hwn := wts_new (w := w) (h := h) (L := hts a) (S := (flN w h (hts a) j)) (b := b) (q := q) (by omega) hbs hq8 hu hst0
              rw [← hn] at hwn
              have hub := R.at u
              (apply exEff; focus (repeat' (first | exact ⟨rfl, rfl⟩ | exact trivial | refine And.intro ?_ ?_ | omega | exact Nat.le_refl _ | (show _ + 1 ≤ 4294967296; omega))))
              (repeat' (first | exact trivial | exact fun h => h | refine And.intro ?_ ?_ | (intro hb; first | (simp at hb; done) | (simp at hb) | skip) | omega | exact rfl | exact Nat.le_refl _ | (show _ + 1 ≤ 4294967296; omega) | (dsimp only; omega) | (show (_ : Int) ≤ (_ : Int); omega) | (show _ < List.length _; simp only [List.length_set, List.length_append, List.length_take]; omega) | (show wantB _ _ = true; simp; done) | (show wantB _ _ = true; simp; omega) | (show (_ : Bool) = _; simp_all; done) | (exfalso; omega) | refine aRegion_auto (by decide +kernel) ?_ | fail))
              refine acall_frame [5, 6] (hA m ys) [hI, agW (max (hts a u) ((flN w h (hts a) j).fill b), (u : Int))] rfl ⟨⟨rfl, rfl⟩, ⟨rfl, trivial⟩, trivial⟩ ⟨rfl, rfl⟩ ?_ (heapPush_any _ ys m (max (hts a u) ((flN w h (hts a) j).fill b), (u : Int)) (by omega) hm hh ha ?_ _ fun zs e1 e2 e3 e4 => ?_)
              · exact congrArg (fun z => [AV.ifc 94 (.ptr 5 0), .ifc 96 (.agg [.fz int z, .fz int u])]) (pv _)
              · unfold okW at hbW ⊢
                simp only at hbW ⊢
                have : hts a u = a.2.2.getD u 0 := rfl
                omega
              · (repeat' (first | exact trivial | exact fun h => h | refine And.intro ?_ ?_ | (intro hb; first | (simp at hb; done) | (simp at hb) | skip) | omega | exact rfl | exact Nat.le_refl _ | (show _ + 1 ≤ 4294967296; omega) | (dsimp only; omega) | (show (_ : Int) ≤ (_ : Int); omega) | (show _ < List.length _; simp only [List.length_set, List.length_append, List.length_take]; omega) | (show wantB _ _ = true; simp; done) | (show wantB _ _ = true; simp; omega) | (show (_ : Bool) = _; simp_all; done) | (exfalso; omega) | refine aRegion_auto (by decide +kernel) ?_ | fail))
                refine ⟨(q + 1, m + 1, zs), ⟨by show q + 1 ≤ 8; omega, by show m + 1 ≤ zs.length; omega, e3, e4, ?_⟩, by show 8 - (q + 1) < 8 - q; omega, Ent.ren [0, 1, 2, 3, 4, 5, 9, 7, 8] rfl ?_ ?_⟩
                · show (zs.take (m + 1)).Perm _
                  rw [List.take_of_length_le (by omega)]
                  exact (e2.trans (hp.append_right _)).trans hwn.symm
                · (repeat' (first | exact trivial | exact rfl | refine And.intro ?_ ?_))
                  · refine congrArg some (row_set1 (k := u) (f := floI w (flQ w h (hts a) (flN w h (hts a) j) b q)) (g := floI w (flQ w h (hts a) (flN w h (hts a) j) b (q + 1))) (((q : Int) + 4) % 8) ?_ fun i hi => (hrow i).1)
                    exact (show Int.tmod ((q : Int) + 4) 8 = ((q : Int) + 4) % 8 from Int.tmod_eq_emod_of_nonneg (by omega))
                  · exact congrArg some (row_set1 (k := u) (f := filI (hts a) (flQ w h (hts a) (flN w h (hts a) j) b q)) (g := filI (hts a) (flQ w h (hts a) (flN w h (hts a) j) b (q + 1))) (max (hts a u) ((flN w h (hts a) j).fill b)) rfl fun i hi => (hrow i).2)
                · (repeat' (first | exact trivial | exact rfl | refine And.intro ?_ ?_))
          · obtain ⟨s1, s2, s3⟩ := skip (fun t ht => by rw [hnone] at ht; cases ht)
            (repeat' (first | exact trivial | exact fun h => h | refine And.intro ?_ ?_ | (intro hb; first | (simp at hb; done) | (simp at hb) | skip) | omega | exact rfl | exact Nat.le_refl _ | (show _ + 1 ≤ 4294967296; omega) | (dsimp only; omega) | (show (_ : Int) ≤ (_ : Int); omega) | (show _ < List.length _; simp only [List.length_set, List.length_append, List.length_take]; omega) | (show wantB _ _ = true; simp; done) | (show wantB _ _ = true; simp; omega) | (show (_ : Bool) = _; simp_all; done) | (exfalso; omega) | refine aRegion_auto (by decide +kernel) ?_ | fail))
            refine ⟨(q + 1, m, ys), ⟨by show q + 1 ≤ 8; omega, hm, hh, ha, by rw [← s3]; exact hp⟩, by show 8 - (q + 1) < 8 - q; omega, Ent.sub ?_ ?_⟩
            · show [bA, bR, .row int (lst k (floI w (flQ w h (hts a) (flN w h (hts a) j) b q))), .box [.ref 4 0 k, .ref 2 0 k, .ref 7 0 (j + 1)], .row int (lst k (filI (hts a) (flQ w h (hts a) (flN w h (hts a) j) b q))), _, _, _, _] = [bA, bR, .row int (lst k (floI w (flQ w h (hts a) (flN w h (hts a) j) b (q + 1)))), .box [.ref 4 0 k, .ref 2 0 k, .ref 7 0 (j + 1)], .row int (lst k (filI (hts a) (flQ w h (hts a) (flN w h (hts a) j) b (q + 1)))), _, _, _, _]
              rw [s1, s2]
            · (repeat' (first | exact trivial | exact rfl | refine And.intro ?_ ?_))
        · have hq8 : q = 8 := by omega
          subst hq8
          (repeat' (first | exact trivial | exact fun h => h | refine And.intro ?_ ?_ | (intro hb; first | (simp at hb; done) | (simp at hb) | skip) | omega | exact rfl | exact Nat.le_refl _ | (show _ + 1 ≤ 4294967296; omega) | (dsimp only; omega) | (show (_ : Int) ≤ (_ : Int); omega) | (show _ < List.length _; simp only [List.length_set, List.length_append, List.length_take]; omega) | (show wantB _ _ = true; simp; done) | (show wantB _ _ = true; simp; omega) | (show (_ : Bool) = _; simp_all; done) | (exfalso; omega) | refine aRegion_auto (by decide +kernel) ?_ | fail))
          have hfin := fun i (hi : i < k) => flQ_end (w := w) (h := h) (L := hts a) (S := (flN w h (hts a) j)) (b := b) (by omega) (i := i) (by omega)
          obtain ⟨s1, s2, s3⟩ := rows_eq (w := w) (L := hts a) (n := k) hfin
          refine ⟨(j + 1, m, ys), ⟨by show j + 1 ≤ k; omega, hm, hh, ha, by show (ys.take m).Perm (wts k (flN w h (hts a) (j + 1))); rw [hb3, ← s3]; exact hp⟩, by show k - (j + 1) < k - j; omega, Ent.ren [0, 1, 2, 3, 4, 5, 6, 7] rfl ?_ ?_⟩
          · (repeat' (first | exact trivial | exact rfl | refine And.intro ?_ ?_))
            · refine congrArg (fun l => some (AO.row int l)) (?_ : lst k (floI w (flQ w h (hts a) (flN w h (hts a) j) b 8)) = lst k (floI w (flN w h (hts a) (j + 1))))
              rw [hb3]; exact s1
            · refine congrArg (fun l => some (AO.row int l)) (?_ : lst k (filI (hts a) (flQ w h (hts a) (flN w h (hts a) j) b 8)) = lst k (filI (hts a) (flN w h (hts a) (j + 1))))
              rw [hb3]; exact s2
            · refine congrArg (fun l => some (AO.row int l)) (?_ : natL ((flN w h (hts a) j).ord ++ [b]) = natL (flN w h (hts a) (j + 1)).ord)
              rw [hb3]; rfl
          · (repeat' (first | exact trivial | exact rfl | refine And.intro ?_ ?_))
end Go.Proofs.YtepkknjncpbahaaDoor
/-
  What the program says of a flood; the document's ways.
-/
namespace Go.Proofs.YtepkknjncpbahaaDoor
open Go Go.Ab
set_option maxRecDepth 100000
def flP (a : Ras) : List Int × List Int × List Int := if rerr a = 0 then fResP a.1.toNat a.2.1.toNat a else ([], [], [])
theorem flP_len (a : Ras) : (flP a).1.length ≤ 1000000000000 ∧ (flP a).2.1.length ≤ 1000000000000 ∧ (flP a).2.2.length ≤ 1000000000000 := by
  unfold flP
  by_cases hv : rerr a = 0
  · rw [if_pos hv]
    have R := RasN.mk' hv
    have := R.wh
    have ho := (flN_ok a.1.toNat a.2.1.toNat (hts a) R.w0 (a.1.toNat * a.2.1.toNat) (Nat.le_refl _)).2
    unfold fResP flD
    simp only [lst_len, natL_len, ho]
    omega
  · rw [if_neg hv]; simp
theorem flood_one (E : Errs) (a : Ras) (hl : a.2.2.length ≤ 1000000000000) (K : AV → List AO → Prop) (hK : K (.tup [.fz FT (flP a), .fz .raw (er E (rerr a))]) []) :
    ACall Tryd.prog (G8 E) 37 [.fz RasT a] [] K := by
  unfold flP at hK
  by_cases hv : rerr a = 0
  · rw [if_pos hv, hv] at hK
    exact flood_ok E a hv (RasN.mk' hv) K hK
  · rw [if_neg hv] at hK
    have h4 := rerr_in a
    refine acall_mk (E := envAt (G8 E) 119 0) (envOk _ _ _) Tryd.func37 rfl rfl rfl rfl rfl ?_
    (repeat' (first | exact trivial | exact fun h => h | refine And.intro ?_ ?_ | (intro hb; first | (simp at hb; done) | (simp at hb) | skip) | omega | exact rfl | exact Nat.le_refl _ | (show _ + 1 ≤ 4294967296; omega) | (dsimp only; omega) | (show (_ : Int) ≤ (_ : Int); omega) | (show _ < List.length _; simp only [List.length_set, List.length_append, List.length_take]; omega) | (show wantB _ _ = true; simp; done) | (show wantB _ _ = true; simp; omega) | (show (_ : Bool) = _; simp_all; done) | (exfalso; omega) | fail))
    refine acall_conv [.dat RasT] _ _ _ rfl trivial (acall_frame0 rfl (valid1 E a hl _ ?_))
    obtain h | h | h | h : rerr a = 1 ∨ rerr a = 2 ∨ rerr a = 3 ∨ rerr a = 4 := by omega
    all_goals
      rw [h] at hK ⊢
      (repeat' (first | exact trivial | exact fun h => h | refine And.intro ?_ ?_ | (intro hb; first | (simp at hb; done) | (simp at hb) | skip) | omega | exact rfl | exact Nat.le_refl _ | (show _ + 1 ≤ 4294967296; omega) | (dsimp only; omega) | (show (_ : Int) ≤ (_ : Int); omega) | (show _ < List.length _; simp only [List.length_set, List.length_append, List.length_take]; omega) | (show wantB _ _ = true; simp; done) | (show wantB _ _ = true; simp; omega) | (show (_ : Bool) = _; simp_all; done) | (exfalso; omega) | fail))
      refine ⟨_, _, (REnt.conv [.dat FT, .keep] _ rfl trivial).trans (REnt.drop ⟨rfl, rfl⟩), ?_⟩
      exact hK
def fillQ (a : Ras) : Ras := if rerr a = 0 then (a.1, a.2.1, (flP a).1) else (0, 0, [])
theorem fill_one (E : Errs) (a : Ras) (hl : a.2.2.length ≤ 1000000000000) (K : AV → List AO → Prop) (hK : K (.tup [.fz RasT (fillQ a), .fz .raw (er E (rerr a))]) []) :
    ACall Tryd.prog (G8 E) 12 [.fz RasT a] [] K := by
  unfold fillQ at hK
  have h4 := rerr_in a
  refine acall_mk (E := envAt (G8 E) 22 0) (envOk _ _ _) Tryd.func12 rfl rfl rfl rfl rfl ?_
  (repeat' (first | exact trivial | exact fun h => h | refine And.intro ?_ ?_ | (intro hb; first | (simp at hb; done) | (simp at hb) | skip) | omega | exact rfl | exact Nat.le_refl _ | (show _ + 1 ≤ 4294967296; omega) | (dsimp only; omega) | (show (_ : Int) ≤ (_ : Int); omega) | (show _ < List.length _; simp only [List.length_set, List.length_append, List.length_take]; omega) | (show wantB _ _ = true; simp; done) | (show wantB _ _ = true; simp; omega) | (show (_ : Bool) = _; simp_all; done) | (exfalso; omega) | fail))
  refine acall_conv [.dat RasT] _ _ _ rfl trivial (acall_frame0 rfl (flood_one E a hl _ ?_))
  obtain h | h | h | h | h : rerr a = 0 ∨ rerr a = 1 ∨ rerr a = 2 ∨ rerr a = 3 ∨ rerr a = 4 := by omega
  all_goals
    rw [h] at hK ⊢
    (repeat' (first | exact trivial | exact fun h => h | refine And.intro ?_ ?_ | (intro hb; first | (simp at hb; done) | (simp at hb) | skip) | omega | exact rfl | exact Nat.le_refl _ | (show _ + 1 ≤ 4294967296; omega) | (dsimp only; omega) | (show (_ : Int) ≤ (_ : Int); omega) | (show _ < List.length _; simp only [List.length_set, List.length_append, List.length_take]; omega) | (show wantB _ _ = true; simp; done) | (show wantB _ _ = true; simp; omega) | (show (_ : Bool) = _; simp_all; done) | (exfalso; omega) | fail))
    refine ⟨_, _, (REnt.conv [.dat RasT, .keep] _ rfl trivial).trans (REnt.drop ⟨rfl, rfl⟩), ?_⟩
    exact hK
theorem flow_one (E : Errs) (a : Ras) (hl : a.2.2.length ≤ 1000000000000) (K : AV → List AO → Prop) (hK : K (.tup [.fz (.list int) (flP a).2.1, .fz .raw (er E (rerr a))]) []) :
    ACall Tryd.prog (G8 E) 18 [.fz RasT a] [] K := by
  refine acall_mk (E := envAt (G8 E) 14 0) (envOk _ _ _) Tryd.func18 rfl rfl rfl rfl rfl ?_
  (repeat' (first | exact trivial | exact fun h => h | refine And.intro ?_ ?_ | (intro hb; first | (simp at hb; done) | (simp at hb) | skip) | omega | exact rfl | exact Nat.le_refl _ | (show _ + 1 ≤ 4294967296; omega) | (dsimp only; omega) | (show (_ : Int) ≤ (_ : Int); omega) | (show _ < List.length _; simp only [List.length_set, List.length_append, List.length_take]; omega) | (show wantB _ _ = true; simp; done) | (show wantB _ _ = true; simp; omega) | (show (_ : Bool) = _; simp_all; done) | (exfalso; omega) | fail))
  refine acall_conv [.dat RasT] _ _ _ rfl trivial (acall_frame0 rfl (flood_one E a hl _ ?_))
  (repeat' (first | exact trivial | exact fun h => h | refine And.intro ?_ ?_ | (intro hb; first | (simp at hb; done) | (simp at hb) | skip) | omega | exact rfl | exact Nat.le_refl _ | (show _ + 1 ≤ 4294967296; omega) | (dsimp only; omega) | (show (_ : Int) ≤ (_ : Int); omega) | (show _ < List.length _; simp only [List.length_set, List.length_append, List.length_take]; omega) | (show wantB _ _ = true; simp; done) | (show wantB _ _ = true; simp; omega) | (show (_ : Bool) = _; simp_all; done) | (exfalso; omega) | fail))
  refine ⟨_, _, REnt.drop ⟨rfl, rfl⟩, ?_⟩
  exact hK
theorem order_one (E : Errs) (a : Ras) (hl : a.2.2.length ≤ 1000000000000) (K : AV → List AO → Prop) (hK : K (.tup [.fz (.list int) (flP a).2.2, .fz .raw (er E (rerr a))]) []) :
    ACall Tryd.prog (G8 E) 19 [.fz RasT a] [] K := by
  refine acall_mk (E := envAt (G8 E) 14 0) (envOk _ _ _) Tryd.func19 rfl rfl rfl rfl rfl ?_
  (repeat' (first | exact trivial | exact fun h => h | refine And.intro ?_ ?_ | (intro hb; first | (simp at hb; done) | (simp at hb) | skip) | omega | exact rfl | exact Nat.le_refl _ | (show _ + 1 ≤ 4294967296; omega) | (dsimp only; omega) | (show (_ : Int) ≤ (_ : Int); omega) | (show _ < List.length _; simp only [List.length_set, List.length_append, List.length_take]; omega) | (show wantB _ _ = true; simp; done) | (show wantB _ _ = true; simp; omega) | (show (_ : Bool) = _; simp_all; done) | (exfalso; omega) | fail))
  refine acall_conv [.dat RasT] _ _ _ rfl trivial (acall_frame0 rfl (flood_one E a hl _ ?_))
  (repeat' (first | exact trivial | exact fun h => h | refine And.intro ?_ ?_ | (intro hb; first | (simp at hb; done) | (simp at hb) | skip) | omega | exact rfl | exact Nat.le_refl _ | (show _ + 1 ≤ 4294967296; omega) | (dsimp only; omega) | (show (_ : Int) ≤ (_ : Int); omega) | (show _ < List.length _; simp only [List.length_set, List.length_append, List.length_take]; omega) | (show wantB _ _ = true; simp; done) | (show wantB _ _ = true; simp; omega) | (show (_ : Bool) = _; simp_all; done) | (exfalso; omega) | fail))
  refine ⟨_, _, REnt.drop ⟨rfl, rfl⟩, ?_⟩
  exact hK
theorem wayOf_any (G : List (Nat × Value)) (a : Ras) {w h : Nat} (R : RasN a w h) (i t : Nat) (hi : i < w * h) (ht : t < w * h) (K : AV → List AO → Prop) (hK : K (.fz int (wayN w i t)) []) :
    ACall Tryd.prog G 23 [.fptr RasT a, .fz int i, .fz int t] [] K := by
  have w1 := R.w1
  have h1 := R.h1
  have wz := R.wide
  have w0 := R.w0
  obtain ⟨c, r, m1, d1, l1, l2, c1, r1, _⟩ := cell_at R hi
  obtain ⟨c', r', m2, d2, l3, l4, c2, r2, _⟩ := cell_at R ht
  unfold wayN wayXY at hK
  rw [c1, r1, c2, r2] at hK
  have hz : a.1 ≠ 0 := by omega
  have m3 : (i : Int) % a.1 = c := by rw [wz]; exact congrArg (fun n : Nat => (n : Int)) c1
  have d3 : (i : Int) / a.1 = r := by rw [wz]; exact congrArg (fun n : Nat => (n : Int)) r1
  have m4 : (t : Int) % a.1 = c' := by rw [wz]; exact congrArg (fun n : Nat => (n : Int)) c2
  have d4 : (t : Int) / a.1 = r' := by rw [wz]; exact congrArg (fun n : Nat => (n : Int)) r2
  have kI : ∀ {x y : Int}, K (.fz int x) [] → x = y → K (.fz int y) [] := fun h e => e ▸ h
  refine acall_mk (E := envAt G 49 0) (envOk _ _ _) Tryd.func23 rfl rfl rfl rfl rfl ?_
  (repeat' (first | exact trivial | exact fun h => h | refine And.intro ?_ ?_ | (intro hb; first | (simp at hb; done) | (simp at hb) | skip) | omega | exact rfl | exact Nat.le_refl _ | (show _ + 1 ≤ 4294967296; omega) | (dsimp only; omega) | (show (_ : Int) ≤ (_ : Int); omega) | (show _ < List.length _; simp only [List.length_set, List.length_append, List.length_take]; omega) | (show wantB _ _ = true; simp; done) | (show wantB _ _ = true; simp; omega) | (show (_ : Bool) = _; simp_all; done) | (exfalso; omega) | refine aRegion_auto (by decide +kernel) ?_ | fail))
  all_goals
    refine ⟨_, _, REnt.drop ⟨rfl, rfl⟩, ?_⟩
    refine kI hK ?_
    repeat' split
    all_goals first | omega | rfl | (show _ = (4 : Int) - (Int.tdiv (i : Int) a.1 - Int.tdiv (t : Int) a.1); omega)
end Go.Proofs.YtepkknjncpbahaaDoor
/-
  Where all water goes: the order of the flood, and the rim's cell to which each one goes.
-/
namespace Go.Proofs.YtepkknjncpbahaaDoor
open Go Go.Ab
set_option maxRecDepth 100000
/-- what one flows to was taken ahead of it -/
theorem flN_pos (w h : Nat) (L : Nat → Int) (hw : 0 < w) : ∀ k, k ≤ w * h → ∀ i, i < w * h → (flN w h L k).st i = 2 → (flN w h L k).to i ≠ i → (flN w h L k).ord.idxOf ((flN w h L k).to i) < (flN w h L k).ord.idxOf i
  | 0, _, i, _, h2, _ => by
    have e : (flN w h L 0).st i = if rimN w h i then 1 else 0 := rfl
    rw [e] at h2; split at h2 <;> omega
  | k + 1, hk, i, hi, h2, hne => by
    obtain ⟨I, hol⟩ := flN_ok w h L hw k (by omega)
    obtain ⟨b, _, hb2, hb3⟩ := @flN_best w h L hw k (by omega)
    obtain ⟨b1, b2, _⟩ := hb2
    rw [hb3] at h2 hne ⊢
    have s : (flS w L (flN w h L k) b).st i = if i = b then 2 else if touchN w b i ∧ (flN w h L k).st i = 0 then 1 else (flN w h L k).st i := rfl
    have t : (flS w L (flN w h L k) b).to i = if touchN w b i ∧ (flN w h L k).st i = 0 then b else (flN w h L k).to i := rfl
    have o : (flS w L (flN w h L k) b).ord = (flN w h L k).ord ++ [b] := rfl
    have hbm : b ∉ (flN w h L k).ord := fun hm => by have := (I.ordin b).1 hm; omega
    rw [s] at h2
    rw [t] at hne ⊢
    rw [o]
    by_cases hib : i = b
    · subst hib
      rw [if_neg (by omega)] at hne ⊢
      rcases I.src i hi (by omega) with ⟨_, h, _⟩ | ⟨_, _, h3, h4, _⟩
      · exact absurd h hne
      · have hm : (flN w h L k).to i ∈ (flN w h L k).ord := (I.ordin _).2 ⟨h3, h4⟩
        rw [List.idxOf_append, if_pos hm, List.idxOf_append, if_neg hbm]
        have := List.idxOf_lt_length_of_mem hm
        omega
    · rw [if_neg hib] at h2
      by_cases hc : touchN w b i ∧ (flN w h L k).st i = 0
      · rw [if_pos hc] at h2; omega
      · rw [if_neg hc] at h2 hne ⊢
        have hmi : i ∈ (flN w h L k).ord := (I.ordin i).2 ⟨hi, h2⟩
        rcases I.src i hi (by omega) with ⟨_, h, _⟩ | ⟨_, _, h3, h4, _⟩
        · exact absurd h hne
        · have hm : (flN w h L k).to i ∈ (flN w h L k).ord := (I.ordin _).2 ⟨h3, h4⟩
          rw [List.idxOf_append, if_pos hm, List.idxOf_append, if_pos hmi]
          exact flN_pos w h L hw k (by omega) i hi h2 hne
/-- all of a flood that is over -/
structure FlowN (w h : Nat) (to : Nat → Nat) (ord : List Nat) : Prop where
  len : ord.length = w * h
  nodup : ord.Nodup
  mem : ∀ i, i ∈ ord ↔ i < w * h
  lt : ∀ i, i < w * h → to i < w * h
  pos : ∀ i, i < w * h → to i ≠ i → ord.idxOf (to i) < ord.idxOf i
  touch : ∀ i, i < w * h → to i ≠ i → touchN w (to i) i
  rim : ∀ i, i < w * h → (to i = i ↔ rimN w h i)
theorem flowN (w h : Nat) (L : Nat → Int) (hw : 0 < w) : FlowN w h (flD w h L).to (flD w h L).ord := by
  obtain ⟨I, hl⟩ := flN_ok w h L hw (w * h) (Nat.le_refl _)
  have hall := flD_all w h L hw
  refine ⟨hl, I.nodup, fun i => ⟨fun hi => ((I.ordin i).1 hi).1, fun hi => (I.ordin i).2 ⟨hi, hall i hi⟩⟩, fun i hi => ?_, fun i hi hne => flN_pos w h L hw _ (Nat.le_refl _) i hi (hall i hi) hne, fun i hi hne => ?_, fun i hi => ?_⟩
  all_goals rcases I.src i hi (by have := hall i hi; unfold flD at this; omega) with ⟨h1, h2, _⟩ | ⟨h1, h2, h3, _⟩
  · unfold flD; omega
  · exact h3
  · exact absurd h2 hne
  · exact h2
  · exact ⟨fun _ => h1, fun _ => h2⟩
  · exact ⟨fun e => absurd e h2.1, fun h => absurd h h1⟩
/-- by so many steps -/
def homeF (to : Nat → Nat) : Nat → Nat → Nat
  | 0, i => i
  | f + 1, i => if to i = i then i else homeF to f (to i)
def homeN (w h : Nat) (to : Nat → Nat) (i : Nat) : Nat := homeF to (w * h) i
section
variable {w h : Nat} {to : Nat → Nat} {ord : List Nat}
theorem FlowN.idx (F : FlowN w h to ord) {i : Nat} (hi : i < w * h) : ord.idxOf i < w * h := by
  rw [← F.len]; exact List.idxOf_lt_length_of_mem ((F.mem i).2 hi)
theorem FlowN.fuel (F : FlowN w h to ord) : ∀ p i, i < w * h → ord.idxOf i ≤ p → ∀ f g, p < f → p < g → homeF to f i = homeF to g i := by
  intro p
  induction p with
  | zero =>
    intro i hi hp f g hf hg
    obtain ⟨f, rfl⟩ : ∃ f', f = f' + 1 := ⟨f - 1, by omega⟩
    obtain ⟨g, rfl⟩ : ∃ g', g = g' + 1 := ⟨g - 1, by omega⟩
    unfold homeF
    by_cases e : to i = i
    · rw [if_pos e, if_pos e]
    · have := F.pos i hi e; omega
  | succ p ih =>
    intro i hi hp f g hf hg
    obtain ⟨f, rfl⟩ : ∃ f', f = f' + 1 := ⟨f - 1, by omega⟩
    obtain ⟨g, rfl⟩ : ∃ g', g = g' + 1 := ⟨g - 1, by omega⟩
    unfold homeF
    by_cases e : to i = i
    · rw [if_pos e, if_pos e]
    · rw [if_neg e, if_neg e]
      have := F.pos i hi e
      exact ih (to i) (F.lt i hi) (by omega) f g (by omega) (by omega)
theorem FlowN.home_rim (_F : FlowN w h to ord) {i : Nat} (hi : i < w * h) (e : to i = i) : homeN w h to i = i := by
  unfold homeN
  obtain ⟨n, hn⟩ : ∃ n, w * h = n + 1 := ⟨w * h - 1, by omega⟩
  rw [hn]; unfold homeF; rw [if_pos e]
theorem FlowN.home_to (F : FlowN w h to ord) {i : Nat} (hi : i < w * h) : homeN w h to i = homeN w h to (to i) := by
  by_cases e : to i = i
  · rw [e]
  · have hp := F.pos i hi e
    have hx := F.idx hi
    unfold homeN
    obtain ⟨n, hn⟩ : ∃ n, w * h = n + 1 := ⟨w * h - 1, by omega⟩
    have h1 : homeF to (n + 1) i = homeF to n (to i) := by rw [homeF, if_neg e]
    rw [hn, h1]
    exact F.fuel (ord.idxOf (to i)) (to i) (F.lt i hi) (Nat.le_refl _) n (n + 1) (by omega) (by omega)
theorem FlowN.home_lt (F : FlowN w h to ord) : ∀ p i, i < w * h → ord.idxOf i ≤ p → homeN w h to i < w * h := by
  intro p
  induction p with
  | zero =>
    intro i hi hp
    by_cases e : to i = i
    · rw [F.home_rim hi e]; exact hi
    · have := F.pos i hi e; omega
  | succ p ih =>
    intro i hi hp
    by_cases e : to i = i
    · rw [F.home_rim hi e]; exact hi
    · rw [F.home_to hi]
      have := F.pos i hi e
      exact ih (to i) (F.lt i hi) (by omega)
end
end Go.Proofs.YtepkknjncpbahaaDoor
/-
  Basins: the walks.
-/
namespace Go.Proofs.YtepkknjncpbahaaDoor
open Go Go.Ab
set_option maxRecDepth 100000
def stepI (W : Int) : Nat → Int
  | 0 => 1 | 1 => 1 - W | 2 => 0 - W | 3 => -1 - W | 4 => -1 | 5 => W - 1 | 6 => W | 7 => W + 1 | _ => 0
theorem step_eq (W : Int) {v : Nat} (hv : v < 8) : stepI W v = dY v * W + dX v := by
  obtain rfl | rfl | rfl | rfl | rfl | rfl | rfl | rfl : v = 0 ∨ v = 1 ∨ v = 2 ∨ v = 3 ∨ v = 4 ∨ v = 5 ∨ v = 6 ∨ v = 7 := by omega
  all_goals (simp only [stepI, dX, dY]; omega)
theorem step_nb {w h i v n : Nat} (hi : i < w * h) (hv : v < 8) (hn : nbN w h i v = some n) : (i : Int) + stepI w v = n := by
  obtain ⟨h0, h1, h2⟩ := nb_cell hi hn
  have e1 : (i : Int) = ((i / w : Nat) : Int) * w + ((i % w : Nat) : Int) := by
    rw [← Int.natCast_mul, ← Int.natCast_add, Nat.mul_comm, Nat.div_add_mod]
  have e2 : (n : Int) = ((n / w : Nat) : Int) * w + ((n % w : Nat) : Int) := by
    rw [← Int.natCast_mul, ← Int.natCast_add, Nat.mul_comm, Nat.div_add_mod]
  rw [e2, h1, h2, step_eq _ hv, Int.add_mul]
  omega
theorem step_any (G : List (Nat × Value)) (a : Ras) (v : Nat) (hv : v < 8) (hW : 0 ≤ a.1 ∧ a.1 ≤ 128) (K : AV → List AO → Prop) (hK : K (.fz int (stepI a.1 v)) []) :
    ACall Tryd.prog G 44 [.fz RasT a, .fz int v] [] K := by
  obtain rfl | rfl | rfl | rfl | rfl | rfl | rfl | rfl : v = 0 ∨ v = 1 ∨ v = 2 ∨ v = 3 ∨ v = 4 ∨ v = 5 ∨ v = 6 ∨ v = 7 := by omega
  all_goals
    simp only [stepI] at hK
    refine acall_mk (E := envAt G 25 0) (envOk _ _ _) Tryd.func44 rfl rfl rfl rfl rfl ?_
    (repeat' (first | exact trivial | exact fun h => h | refine And.intro ?_ ?_ | (intro hb; first | (simp at hb; done) | (simp at hb) | skip) | omega | exact rfl | exact Nat.le_refl _ | (show _ + 1 ≤ 4294967296; omega) | (dsimp only; omega) | (show (_ : Int) ≤ (_ : Int); omega) | (show _ < List.length _; simp only [List.length_set, List.length_append, List.length_take]; omega) | (show wantB _ _ = true; simp; done) | (show wantB _ _ = true; simp; omega) | (show (_ : Bool) = _; simp_all; done) | (exfalso; omega) | refine aRegion_auto (by decide +kernel) ?_ | fail))
    refine ⟨_, _, REnt.drop ⟨rfl, rfl⟩, ?_⟩
    exact hK
def basO (n : Nat) (w h : Nat) (to : Nat → Nat) (ord : List Nat) (k : Nat) (i : Nat) : Int := if ord.idxOf i < k then (homeN w h to i : Nat) else 0
def basQ (a : Ras) : List Int := if rerr a = 0 then lst (a.1.toNat * a.2.1.toNat) (fun i => ((homeN a.1.toNat a.2.1.toNat (flD a.1.toNat a.2.1.toNat (hts a)).to i : Nat) : Int)) else []
theorem natL_get (l : List Nat) {k : Nat} (hk : k < l.length) : (natL l)[k]?.getD int.dft = (l[k] : Nat) := by simp [natL, hk]
set_option maxHeartbeats 4000000 in
theorem basins_ok (E : Errs) (a : Ras) (hv : rerr a = 0) {w h : Nat} (R : RasN a w h) (ew : a.1.toNat = w) (eh : a.2.1.toNat = h) (K : AV → List AO → Prop) (hK : K (.tup [.fz (.list int) (lst (w * h) (fun i => ((homeN w h (flD w h (hts a)).to i : Nat) : Int))), .fz .raw .nilIface]) []) :
    ACall Tryd.prog (G8 E) 25 [.fz RasT a] [] K := by
  have hl := R.len
  have hwh := R.wh
  have F := flowN w h (hts a) R.w0
  have wz := R.wide
  have w1 := R.w1
  obtain ⟨n, hn⟩ : ∃ n, n = w * h := ⟨_, rfl⟩
  have eF : flP a = (lst (w * h) (flD w h (hts a)).fill, lst (w * h) (fun i => wayN w i ((flD w h (hts a)).to i)), natL (flD w h (hts a)).ord) := by
    unfold flP; rw [if_pos hv, ew, eh]; rfl
  generalize (flD w h (hts a)).to = to at *
  generalize (flD w h (hts a)).ord = ord at *
  rw [← hn] at hl hwh eF hK
  have hol : (natL ord).length = n := by rw [natL_len, F.len, hn]
  have hFl := lst_len n (fun i => wayN w i (to i))
  let bA : AO := .box [.fz int a.1, .fz int a.2.1, .fz (.list int) a.2.2]
  refine acall_mk (E := envAt (G8 E) 58 0) (envOk _ _ _) Tryd.func25 rfl rfl rfl rfl rfl ?_
  (repeat' (first | exact trivial | exact fun h => h | refine And.intro ?_ ?_ | (intro hb; first | (simp at hb; done) | (simp at hb) | skip) | omega | exact rfl | exact Nat.le_refl _ | (show _ + 1 ≤ 4294967296; omega) | (dsimp only; omega) | (show (_ : Int) ≤ (_ : Int); omega) | (show _ < List.length _; simp only [List.length_set, List.length_append, List.length_take]; omega) | (show wantB _ _ = true; simp; done) | (show wantB _ _ = true; simp; omega) | (show (_ : Bool) = _; simp_all; done) | (exfalso; omega) | fail))
  refine acall_conv [.dat RasT] _ _ _ rfl trivial (acall_frame0 rfl (order_one E a (by omega) _ ?_))
  rw [hv, eF]
  (repeat' (first | exact trivial | exact fun h => h | refine And.intro ?_ ?_ | (intro hb; first | (simp at hb; done) | (simp at hb) | skip) | omega | exact rfl | exact Nat.le_refl _ | (show _ + 1 ≤ 4294967296; omega) | (dsimp only; omega) | (show (_ : Int) ≤ (_ : Int); omega) | (show _ < List.length _; simp only [List.length_set, List.length_append, List.length_take]; omega) | (show wantB _ _ = true; simp; done) | (show wantB _ _ = true; simp; omega) | (show (_ : Bool) = _; simp_all; done) | (exfalso; omega) | fail))
  refine acall_conv [.dat RasT] _ _ _ rfl trivial (acall_frame0 rfl (flow_one E a (by omega) _ ?_))
  rw [hv, eF]
  (repeat' (first | exact trivial | exact fun h => h | refine And.intro ?_ ?_ | (intro hb; first | (simp at hb; done) | (simp at hb) | skip) | omega | exact rfl | exact Nat.le_refl _ | (show _ + 1 ≤ 4294967296; omega) | (dsimp only; omega) | (show (_ : Int) ≤ (_ : Int); omega) | (show _ < List.length _; simp only [List.length_set, List.length_append, List.length_take]; omega) | (show wantB _ _ = true; simp; done) | (show wantB _ _ = true; simp; omega) | (show (_ : Bool) = _; simp_all; done) | (exfalso; omega) | fail))
  refine ⟨Nat, fun k => ⟨[(1, .ptr 0 0), (6, .fz (.list int) (lst n (fun i => wayN w i (to i)))), (8, .ref 1 0 n), (29, .fz (.list int) (natL ord)), (30, .fz int n), (31, .fz int k)], [bA, .row int (lst n (basO n w h to ord k))]⟩, fun k => k ≤ n, fun k => n - k, 0, Nat.zero_le _, Ent.sub ?_ ?_, ?_⟩
  · show [bA, .row int (List.replicate a.2.2.length 0)] = _
    rw [hl, lst_zero]
    (repeat' (first | exact rfl | refine cons_eq ?_ ?_))
  · (repeat' (first | exact trivial | exact rfl | refine And.intro ?_ ?_))
    · exact congrArg (AV.ref 1 0) hl
    · exact congrArg (fun z : Nat => AV.fz int (z : Int)) hol
  intro k hk
  have hB := lst_len n (basO n w h to ord k)
  by_cases hkn : k < n
  · have hko : k < ord.length := by rw [F.len]; omega
    obtain ⟨c, hc⟩ : ∃ c, c = ord[k] := ⟨_, rfl⟩
    have hcm : c ∈ ord := by rw [hc]; exact List.getElem_mem _
    have hcn : c < n := by have := (F.mem c).1 hcm; omega
    have hci : ord.idxOf c = k := by rw [hc]; exact F.nodup.idxOf_getElem k hko
    have g1 : List.getD (natL ord) (Int.toNat (k : Int)) int.dft = (c : Int) := by
      rw [Int.toNat_natCast, List.getD_eq_getElem?_getD, natL_get ord hko, ← hc]
    have g2 : List.getD (lst n (fun i => wayN w i (to i))) (Int.toNat (c : Int)) int.dft = wayN w c (to c) := lst_at _ hcn
    have g1' : (natL ord)[k]?.getD int.dft = (c : Int) := by rw [natL_get ord hko, ← hc]
    have g2' : (lst n (fun i => wayN w i (to i)))[c]?.getD int.dft = wayN w c (to c) := lst_get _ hcn
    have hlast : ∀ i, i < n → i ≠ c → basO n w h to ord (k + 1) i = basO n w h to ord k i := fun i hi hne => by
      unfold basO
      have : ord.idxOf i ≠ k := fun e => hne (by
        have hm : i ∈ ord := (F.mem i).2 (by omega)
        have := List.getElem_idxOf (List.idxOf_lt_length_of_mem hm)
        rw [hc, ← this]; congr 1)
      by_cases e : ord.idxOf i < k
      · rw [if_pos e, if_pos (by omega)]
      · rw [if_neg e, if_neg (by omega)]
    have hself : basO n w h to ord (k + 1) c = (homeN w h to c : Nat) := by unfold basO; rw [if_pos (by omega)]
    by_cases hto : to c = c
    · have hw8 : wayN w c (to c) = 8 := by rw [hto, way_self]
      (repeat' (first | exact trivial | exact fun h => h | refine And.intro ?_ ?_ | (intro hb; first | (simp at hb; done) | (simp at hb) | skip) | omega | exact rfl | exact Nat.le_refl _ | (show _ + 1 ≤ 4294967296; omega) | (dsimp only; omega) | (show (_ : Int) ≤ (_ : Int); omega) | (show _ < List.length _; simp only [List.length_set, List.length_append, List.length_take]; omega) | (show wantB _ _ = true; simp; done) | (show wantB _ _ = true; simp; omega) | (show (_ : Bool) = _; simp_all; done) | (exfalso; omega) | fail))
      · exfalso
        apply hb
        rw [g1', Int.toNat_natCast, g2', hw8]
      · refine ⟨k + 1, by show k + 1 ≤ n; omega, by show n - (k + 1) < n - k; omega, Ent.sub ?_ ?_⟩
        · (repeat' (first | exact rfl | refine cons_eq ?_ ?_))
          rw [g1]
          refine row_set1 (k := c) (f := basO n w h to ord k) (g := basO n w h to ord (k + 1)) (c : Int) rfl fun i hi => ?_
          by_cases e : i = c
          · subst e; rw [if_pos rfl, hself, F.home_rim (by omega) hto]
          · rw [if_neg e, hlast i hi e]
        · (repeat' (first | exact trivial | exact rfl | refine And.intro ?_ ?_))
    · obtain ⟨v, hv8, hwv, hnb⟩ := way_to (w := w) (h := h) (i := c) (t := to c) (by omega) (by have := F.lt c (by omega); omega) (touchN_symm (F.touch c (by omega) hto))
      have htn := F.lt c (by omega)
      have hs := step_nb (by omega) hv8 hnb
      rw [← wz] at hs
      (repeat' (first | exact trivial | exact fun h => h | refine And.intro ?_ ?_ | (intro hb; first | (simp at hb; done) | (simp at hb) | skip) | omega | exact rfl | exact Nat.le_refl _ | (show _ + 1 ≤ 4294967296; omega) | (dsimp only; omega) | (show (_ : Int) ≤ (_ : Int); omega) | (show _ < List.length _; simp only [List.length_set, List.length_append, List.length_take]; omega) | (show wantB _ _ = true; simp; done) | (show wantB _ _ = true; simp; omega) | (show (_ : Bool) = _; simp_all; done) | (exfalso; omega) | fail))
      · rw [g1, g2, hwv]
        refine acall_conv [.dat RasT, .keep] _ _ _ rfl trivial (acall_frame0 rfl (step_any _ a v hv8 (by omega) _ ?_))
        (repeat' (first | exact trivial | exact fun h => h | refine And.intro ?_ ?_ | (intro hb; first | (simp at hb; done) | (simp at hb) | skip) | omega | exact rfl | exact Nat.le_refl _ | (show _ + 1 ≤ 4294967296; omega) | (dsimp only; omega) | (show (_ : Int) ≤ (_ : Int); omega) | (show _ < List.length _; simp only [List.length_set, List.length_append, List.length_take]; omega) | (show wantB _ _ = true; simp; done) | (show wantB _ _ = true; simp; omega) | (show (_ : Bool) = _; simp_all; done) | (exfalso; omega) | fail))
        refine ⟨k + 1, by show k + 1 ≤ n; omega, by show n - (k + 1) < n - k; omega, Ent.sub ?_ ?_⟩
        · (repeat' (first | exact rfl | refine cons_eq ?_ ?_))
          refine row_set2 (k := c) (f := basO n w h to ord k) (g := basO n w h to ord (k + 1)) (homeN w h to c : Nat) ?_ fun i hi => ?_
          · show List.getD (List.set (lst n (basO n w h to ord k)) (0 + Int.toNat (c : Int)) _) (0 + Int.toNat ((c : Int) + stepI a.1 v)) int.dft = _
            rw [hs, Nat.zero_add, Nat.zero_add, Int.toNat_natCast, Int.toNat_natCast, List.getD_eq_getElem?_getD, List.getElem?_set_ne (Ne.symm hto), lst_get _ (by omega)]
            unfold basO
            have := F.pos c (by omega) hto
            rw [if_pos (by omega), F.home_to (i := c) (by omega)]
          · by_cases e : i = c
            · subst e; rw [if_pos rfl, hself]
            · rw [if_neg e, hlast i hi e]
        · (repeat' (first | exact trivial | exact rfl | refine And.intro ?_ ?_))
      · exfalso
        rw [g1', Int.toNat_natCast, g2', hwv] at hb
        omega
  · have hkn : k = n := by omega
    subst hkn
    (repeat' (first | exact trivial | exact fun h => h | refine And.intro ?_ ?_ | (intro hb; first | (simp at hb; done) | (simp at hb) | skip) | omega | exact rfl | exact Nat.le_refl _ | (show _ + 1 ≤ 4294967296; omega) | (dsimp only; omega) | (show (_ : Int) ≤ (_ : Int); omega) | (show _ < List.length _; simp only [List.length_set, List.length_append, List.length_take]; omega) | (show wantB _ _ = true; simp; done) | (show wantB _ _ = true; simp; omega) | (show (_ : Bool) = _; simp_all; done) | (exfalso; omega) | fail))
    refine ⟨_, _, (REnt.conv [.dat (.list int), .keep] _ rfl ?_).trans (REnt.drop ⟨rfl, rfl⟩), ?_⟩
    · show 0 + k ≤ _
      omega
    · refine (congrArg (fun l => K (.tup [.fz (.list int) l, .fz .raw .nilIface]) []) (?_ : lst k (fun i => ((homeN w h to i : Nat) : Int)) = List.take k (List.drop 0 (lst k (basO k w h to ord k))))).mp hK
      rw [List.drop_zero, List.take_of_length_le (by omega)]
      refine lst_congr fun i hi => ?_
      unfold basO
      rw [if_pos (by have := F.idx (i := i) (by omega); omega)]
theorem basins_one (E : Errs) (a : Ras) (hl : a.2.2.length ≤ 1000000000000) (K : AV → List AO → Prop) (hK : K (.tup [.fz (.list int) (basQ a), .fz .raw (er E (rerr a))]) []) :
    ACall Tryd.prog (G8 E) 25 [.fz RasT a] [] K := by
  unfold basQ at hK
  by_cases hv : rerr a = 0
  · rw [if_pos hv, hv] at hK
    exact basins_ok E a hv (RasN.mk' hv) rfl rfl K hK
  · rw [if_neg hv] at hK
    have h4 := rerr_in a
    refine acall_mk (E := envAt (G8 E) 58 0) (envOk _ _ _) Tryd.func25 rfl rfl rfl rfl rfl ?_
    (repeat' (first | exact trivial | exact fun h => h | refine And.intro ?_ ?_ | (intro hb; first | (simp at hb; done) | (simp at hb) | skip) | omega | exact rfl | exact Nat.le_refl _ | (show _ + 1 ≤ 4294967296; omega) | (dsimp only; omega) | (show (_ : Int) ≤ (_ : Int); omega) | (show _ < List.length _; simp only [List.length_set, List.length_append, List.length_take]; omega) | (show wantB _ _ = true; simp; done) | (show wantB _ _ = true; simp; omega) | (show (_ : Bool) = _; simp_all; done) | (exfalso; omega) | fail))
    refine acall_conv [.dat RasT] _ _ _ rfl trivial (acall_frame0 rfl (order_one E a hl _ ?_))
    obtain h | h | h | h : rerr a = 1 ∨ rerr a = 2 ∨ rerr a = 3 ∨ rerr a = 4 := by omega
    all_goals
      rw [h] at hK ⊢
      (repeat' (first | exact trivial | exact fun h => h | refine And.intro ?_ ?_ | (intro hb; first | (simp at hb; done) | (simp at hb) | skip) | omega | exact rfl | exact Nat.le_refl _ | (show _ + 1 ≤ 4294967296; omega) | (dsimp only; omega) | (show (_ : Int) ≤ (_ : Int); omega) | (show _ < List.length _; simp only [List.length_set, List.length_append, List.length_take]; omega) | (show wantB _ _ = true; simp; done) | (show wantB _ _ = true; simp; omega) | (show (_ : Bool) = _; simp_all; done) | (exfalso; omega) | fail))
      refine ⟨_, _, (REnt.conv [.dat (.list int), .keep] _ rfl trivial).trans (REnt.drop ⟨rfl, rfl⟩), ?_⟩
      exact hK
/-! ### the document's -/
theorem homeOf_any (G : List (Nat × Value)) (fl : List Int × List Int × List Int) {w h : Nat} {to : Nat → Nat} {ord : List Nat} (F : FlowN w h to ord) (_hwh : w * h ≤ 16384) (hf : fl.2.1 = lst (w * h) (fun i => ((to i : Nat) : Int))) (i : Nat) (hi : i < w * h) (K : AV → List AO → Prop) (hK : K (.fz int (homeN w h to i : Nat)) []) :
    ACall Tryd.prog G 45 [.fz FT fl, .fz int i] [] K := by
  have hlen : fl.2.1.length = w * h := by rw [hf]; exact lst_len _ _
  refine acall_mk (E := envAt G 18 0) (envOk _ _ _) Tryd.func45 rfl rfl rfl rfl rfl ?_
  (repeat' (first | exact trivial | exact fun h => h | refine And.intro ?_ ?_ | (intro hb; first | (simp at hb; done) | (simp at hb) | skip) | omega | exact rfl | exact Nat.le_refl _ | (show _ + 1 ≤ 4294967296; omega) | (dsimp only; omega) | (show (_ : Int) ≤ (_ : Int); omega) | (show _ < List.length _; simp only [List.length_set, List.length_append, List.length_take]; omega) | (show wantB _ _ = true; simp; done) | (show wantB _ _ = true; simp; omega) | (show (_ : Bool) = _; simp_all; done) | (exfalso; omega) | fail))
  refine ⟨Nat, fun c => ⟨[(1, .fz int c), (2, .ptr 0 0)], [.box [.fz (.list int) fl.1, .fz (.list int) fl.2.1, .fz (.list int) fl.2.2]]⟩, fun c => c < w * h ∧ homeN w h to c = homeN w h to i, fun c => ord.idxOf c, i, ⟨hi, rfl⟩, Ent.sub rfl ?_, ?_⟩
  · (repeat' (first | exact trivial | exact rfl | refine And.intro ?_ ?_))
  intro c ⟨hc, he⟩
  have g1 : List.getD fl.2.1 (Int.toNat (c : Int)) int.dft = ((to c : Nat) : Int) := by rw [hf]; exact lst_at (fun i => ((to i : Nat) : Int)) hc
  have g1' : fl.2.1[c]?.getD int.dft = ((to c : Nat) : Int) := by rw [hf]; exact lst_get (fun i => ((to i : Nat) : Int)) hc
  have ht := F.lt c hc
  (repeat' (first | exact trivial | exact fun h => h | refine And.intro ?_ ?_ | (intro hb; first | (simp at hb; done) | (simp at hb) | skip) | omega | exact rfl | exact Nat.le_refl _ | (show _ + 1 ≤ 4294967296; omega) | (dsimp only; omega) | (show (_ : Int) ≤ (_ : Int); omega) | (show _ < List.length _; simp only [List.length_set, List.length_append, List.length_take]; omega) | (show wantB _ _ = true; simp; done) | (show wantB _ _ = true; simp; omega) | (show (_ : Bool) = _; simp_all; done) | (exfalso; omega) | fail))
  · have hne : to c ≠ c := fun e => hb (by rw [g1', e])
    rw [g1]
    refine ⟨to c, ⟨ht, by rw [← F.home_to hc]; exact he⟩, F.pos c hc hne, Ent.sub rfl ?_⟩
    (repeat' (first | exact trivial | exact rfl | refine And.intro ?_ ?_))
  · have e : to c = c := by omega
    refine ⟨_, _, REnt.drop ⟨rfl, rfl⟩, ?_⟩
    rw [← he, F.home_rim hc e] at hK
    exact hK
theorem homes_any (G : List (Nat × Value)) (a : Ras) (fl : List Int × List Int × List Int) {w h : Nat} {to : Nat → Nat} {ord : List Nat} (F : FlowN w h to ord) (hwh : w * h ≤ 16384) (hl : a.2.2.length = w * h) (hf : fl.2.1 = lst (w * h) (fun i => ((to i : Nat) : Int))) (K : AV → List AO → Prop) (hK : K (.fz (.list int) (lst (w * h) (fun i => ((homeN w h to i : Nat) : Int)))) []) :
    ACall Tryd.prog G 27 [.fptr RasT a, .fz FT fl] [] K := by
  refine acall_mk (E := envAt G 23 0) (envOk _ _ _) Tryd.func27 rfl rfl rfl rfl rfl ?_
  (repeat' (first | exact trivial | exact fun h => h | refine And.intro ?_ ?_ | (intro hb; first | (simp at hb; done) | (simp at hb) | skip) | omega | exact rfl | exact Nat.le_refl _ | (show _ + 1 ≤ 4294967296; omega) | (dsimp only; omega) | (show (_ : Int) ≤ (_ : Int); omega) | (show _ < List.length _; simp only [List.length_set, List.length_append, List.length_take]; omega) | (show wantB _ _ = true; simp; done) | (show wantB _ _ = true; simp; omega) | (show (_ : Bool) = _; simp_all; done) | (exfalso; omega) | fail))
  refine ⟨Nat, fun k => ⟨[(0, .fptr RasT a), (3, .ptr 0 0), (5, .ref 1 0 k), (6, .fz int k)], [.box [.fz (.list int) fl.1, .fz (.list int) fl.2.1, .fz (.list int) fl.2.2], .row int (lst k (fun i => ((homeN w h to i : Nat) : Int)))]⟩, fun k => k ≤ w * h, fun k => w * h - k, 0, Nat.zero_le _, (Ent.nil 5 int rfl).trans (Ent.sub rfl ?_), ?_⟩
  · (repeat' (first | exact trivial | exact rfl | refine And.intro ?_ ?_))
  intro k hk
  have hB := lst_len k (fun i => ((homeN w h to i : Nat) : Int))
  (repeat' (first | exact trivial | exact fun h => h | refine And.intro ?_ ?_ | (intro hb; first | (simp at hb; done) | (simp at hb) | skip) | omega | exact rfl | exact Nat.le_refl _ | (show _ + 1 ≤ 4294967296; omega) | (dsimp only; omega) | (show (_ : Int) ≤ (_ : Int); omega) | (show _ < List.length _; simp only [List.length_set, List.length_append, List.length_take]; omega) | (show wantB _ _ = true; simp; done) | (show wantB _ _ = true; simp; omega) | (show (_ : Bool) = _; simp_all; done) | (exfalso; omega) | fail))
  · have hkn : k < w * h := by omega
    refine acall_conv [.dat FT, .keep] _ _ _ rfl trivial (acall_frame0 rfl (homeOf_any G fl F hwh hf k hkn _ ?_))
    (repeat' (first | exact trivial | exact fun h => h | refine And.intro ?_ ?_ | (intro hb; first | (simp at hb; done) | (simp at hb) | skip) | omega | exact rfl | exact Nat.le_refl _ | (show _ + 1 ≤ 4294967296; omega) | (dsimp only; omega) | (show (_ : Int) ≤ (_ : Int); omega) | (show _ < List.length _; simp only [List.length_set, List.length_append, List.length_take]; omega) | (show wantB _ _ = true; simp; done) | (show wantB _ _ = true; simp; omega) | (show (_ : Bool) = _; simp_all; done) | (exfalso; omega) | fail))
    refine ⟨k + 1, by show k + 1 ≤ w * h; omega, by show w * h - (k + 1) < w * h - k; omega, Ent.ren [0, 3] rfl ?_ ?_⟩
    · (repeat' (first | exact trivial | exact rfl | refine And.intro ?_ ?_))
      refine congrArg (fun l => some (AO.row int l)) (?_ : List.take k (lst k (fun i => ((homeN w h to i : Nat) : Int))) ++ [((homeN w h to k : Nat) : Int)] = lst (k + 1) (fun i => ((homeN w h to i : Nat) : Int)))
      rw [List.take_of_length_le (by omega)]
      unfold lst; rw [List.range_succ, List.map_append]; rfl
    · (repeat' (first | exact trivial | exact rfl | refine And.intro ?_ ?_))
  · have hkn : k = w * h := by omega
    subst hkn
    refine ⟨_, _, (REnt.conv1 (.dat (.list int)) _ rfl ?_).trans (REnt.drop ⟨rfl, rfl⟩), ?_⟩
    · show 0 + _ ≤ _
      omega
    · refine (congrArg (fun l => K (.fz (.list int) l) []) (?_ : _ = List.take (w * h) (List.drop 0 (lst (w * h) (fun i => ((homeN w h to i : Nat) : Int)))))).mp hK
      rw [List.drop_zero, List.take_of_length_le (by omega)]
end Go.Proofs.YtepkknjncpbahaaDoor
/-
  DrainFloods: the walk.
-/
namespace Go.Proofs.YtepkknjncpbahaaDoor
open Go Go.Ab
set_option maxRecDepth 100000
theorem small80_any (G : List (Nat × Value)) (a : Ras) (K : AV → List AO → Prop) (hK : K (.fz .bool (decide (a.2.2.length ≤ 80))) []) : ACall Tryd.prog G 10 [.fptr RasT a] [] K := by
  refine acall_mk (E := envAt G 13 0) (envOk _ _ _) Tryd.func10 rfl rfl rfl rfl rfl ?_
  (repeat' (first | exact trivial | exact fun h => h | refine And.intro ?_ ?_ | (intro hb; first | (simp at hb; done) | (simp at hb) | skip) | omega | exact rfl | exact Nat.le_refl _ | (show _ + 1 ≤ 4294967296; omega) | (dsimp only; omega) | (show (_ : Int) ≤ (_ : Int); omega) | (show _ < List.length _; simp only [List.length_set, List.length_append, List.length_take]; omega) | (show wantB _ _ = true; simp; done) | (show wantB _ _ = true; simp; omega) | (show (_ : Bool) = _; simp_all; done) | (exfalso; omega) | refine aRegion_auto (by decide +kernel) ?_ | refine ⟨_, _, REnt.drop ⟨rfl, rfl⟩, ?_⟩ | fail))
  exact kbl hK (by simp; omega)
theorem small80_nil (G : List (Nat × Value)) (K : AV → List AO → Prop) (hK : K (.fz .bool false) []) : ACall Tryd.prog G 10 [.fz .raw (.pointer none)] [] K := by
  refine acall_mk (E := envAt G 13 0) (envOk _ _ _) Tryd.func10 rfl rfl rfl rfl rfl ?_
  (repeat' (first | exact trivial | exact fun h => h | refine And.intro ?_ ?_ | (intro hb; first | (simp at hb; done) | (simp at hb) | skip) | omega | exact rfl | exact Nat.le_refl _ | (show _ + 1 ≤ 4294967296; omega) | (dsimp only; omega) | (show (_ : Int) ≤ (_ : Int); omega) | (show _ < List.length _; simp only [List.length_set, List.length_append, List.length_take]; omega) | (show wantB _ _ = true; simp; done) | (show wantB _ _ = true; simp; omega) | (show (_ : Bool) = _; simp_all; done) | (exfalso; omega) | refine aRegion_auto (by decide +kernel) ?_ | refine ⟨_, _, REnt.drop ⟨rfl, rfl⟩, ?_⟩ | fail))
  exact hK
/-- once reached, where it flows stays -/
theorem to_stays {w h : Nat} {L : Nat → Int} (hw : 0 < w) {i t : Nat} : ∀ k, k ≤ w * h → ∀ j, j ≤ k → (flN w h L j).st i ≠ 0 → (flN w h L j).to i = t → (flN w h L k).st i ≠ 0 ∧ (flN w h L k).to i = t
  | 0, _, j, hj, h1, h2 => by
    obtain rfl : j = 0 := by omega
    exact ⟨h1, h2⟩
  | k + 1, hk, j, hj, h1, h2 => by
    by_cases e : j = k + 1
    · subst e; exact ⟨h1, h2⟩
    · obtain ⟨i1, i2⟩ := to_stays hw k (by omega) j (by omega) h1 h2
      obtain ⟨b, _, _, hb⟩ := @flN_best w h L hw k (by omega)
      rw [hb]
      constructor
      · show (if i = b then 2 else if touchN w b i ∧ (flN w h L k).st i = 0 then 1 else (flN w h L k).st i) ≠ 0
        split
        · omega
        · rw [if_neg (fun h => i1 h.2)]; exact i1
      · show (if touchN w b i ∧ (flN w h L k).st i = 0 then b else (flN w h L k).to i) = t
        rw [if_neg (fun h => i1 h.2)]; exact i2
def a9 : Ras := (3, 3, [9, 9, 9, 9, 5, 1, 9, 9, 9])
theorem a9_ok : rerr a9 = 0 := by decide
theorem a9_4 : (flP a9).2.1.getD 4 0 = 0 ∧ (flP a9).2.1.getD 0 0 = 8 ∧ (flP a9).2.1.length = 9 := by
  have e : flP a9 = fResP 3 3 a9 := by unfold flP; rw [if_pos a9_ok]; rfl
  rw [e]
  have h4 : (flD 3 3 (hts a9)).to 4 = 5 := (to_stays (w := 3) (h := 3) (L := hts a9) (by omega) (i := 4) (t := 5) 9 (by omega) 1 (by omega) (by decide +kernel) (by decide +kernel)).2
  have h0 : (flD 3 3 (hts a9)).to 0 = 0 := (to_stays (w := 3) (h := 3) (L := hts a9) (by omega) (i := 0) (t := 0) 9 (by omega) 0 (by omega) (by decide +kernel) (by decide +kernel)).2
  unfold fResP
  refine ⟨?_, ?_, ?_⟩
  · show (lst 9 _).getD 4 0 = 0
    rw [lst_at _ (by omega), h4]; decide
  · show (lst 9 _).getD 0 0 = 8
    rw [lst_at _ (by omega)]; first | (rw [h0]; decide) | decide
  · show (lst 9 _).length = 9
    rw [lst_len]
theorem drains_any (E : Errs) (K : AV → List AO → Prop) (hK : K (.fz .bool true) []) : ACall Tryd.prog (G8 E) 9 [] [] K := by
  obtain ⟨h4, h0, hl⟩ := a9_4
  refine acall_mk (E := envAt (G8 E) 28 0) (envOk _ _ _) Tryd.func9 rfl rfl rfl rfl rfl ?_
  (repeat' (first | exact trivial | exact fun h => h | refine And.intro ?_ ?_ | (intro hb; first | (simp at hb; done) | (simp at hb) | skip) | omega | exact rfl | exact Nat.le_refl _ | (show _ + 1 ≤ 4294967296; omega) | (dsimp only; omega) | (show (_ : Int) ≤ (_ : Int); omega) | (show _ < List.length _; simp only [List.length_set, List.length_append, List.length_take]; omega) | (show wantB _ _ = true; simp; done) | (show wantB _ _ = true; simp; omega) | (show (_ : Bool) = _; simp_all; done) | (exfalso; omega) | fail))
  refine acall_conv [.dat RasT] _ _ _ rfl ?_ (acall_frame0 rfl (flow_one E a9 (by decide) _ ?_))
  · (repeat' (first | exact trivial | refine And.intro ?_ ?_ | (show _ ≤ _; omega) | (show _ ≤ _; simp; done)))
  rw [a9_ok]
  have h4' : List.getD (flP a9).2.1 (Int.toNat 4) int.dft = 0 := h4
  have h0' : List.getD (flP a9).2.1 (Int.toNat 0) int.dft = 8 := h0
  generalize (flP a9).2.1 = l at *
  (repeat' (first | exact trivial | exact fun h => h | refine And.intro ?_ ?_ | (intro hb; first | (simp at hb; done) | (simp at hb) | skip) | omega | exact rfl | exact Nat.le_refl _ | (show _ + 1 ≤ 4294967296; omega) | (dsimp only; omega) | (show (_ : Int) ≤ (_ : Int); omega) | (show _ < List.length _; simp only [List.length_set, List.length_append, List.length_take]; omega) | (show wantB _ _ = true; simp; done) | (show wantB _ _ = true; simp; omega) | (show (_ : Bool) = _; simp_all; done) | (exfalso; omega) | fail))
  refine ⟨_, _, REnt.drop ⟨rfl, rfl⟩, ?_⟩
  refine kbl hK ?_
  rw [h4', h0', hl]
  rfl
set_option maxHeartbeats 4000000 in
theorem drainFloods_some {E : Errs} (hE : (EL E).Nodup) (a : Ras) (hla : a.2.2.length ≤ 9223372036854775807) (K : AV → List AO → Prop) (hK : K (.fz .bool true) []) :
    ACall Tryd.prog (G8 E) 4 [.fptr RasT a] [] K := by
  refine acall_mk (E := envAt (G8 E) 147 0) (envOk _ _ _) Tryd.func4 rfl rfl rfl rfl rfl ?_
  (repeat' (first | exact trivial | exact fun h => h | refine And.intro ?_ ?_ | (intro hb; first | (simp at hb; done) | (simp at hb) | skip) | omega | exact rfl | exact Nat.le_refl _ | (show _ + 1 ≤ 4294967296; omega) | (dsimp only; omega) | (show (_ : Int) ≤ (_ : Int); omega) | (show _ < List.length _; simp only [List.length_set, List.length_append, List.length_take]; omega) | (show wantB _ _ = true; simp; done) | (show wantB _ _ = true; simp; omega) | (show (_ : Bool) = _; simp_all; done) | (exfalso; omega) | refine aRegion_auto (by decide +kernel) ?_ | refine ⟨_, _, REnt.drop ⟨rfl, rfl⟩, ?_⟩ | fail))
  refine acall_frame0 rfl (drains_any E _ ?_)
  (repeat' (first | exact trivial | exact fun h => h | refine And.intro ?_ ?_ | (intro hb; first | (simp at hb; done) | (simp at hb) | skip) | omega | exact rfl | exact Nat.le_refl _ | (show _ + 1 ≤ 4294967296; omega) | (dsimp only; omega) | (show (_ : Int) ≤ (_ : Int); omega) | (show _ < List.length _; simp only [List.length_set, List.length_append, List.length_take]; omega) | (show wantB _ _ = true; simp; done) | (show wantB _ _ = true; simp; omega) | (show (_ : Bool) = _; simp_all; done) | (exfalso; omega) | refine aRegion_auto (by decide +kernel) ?_ | refine ⟨_, _, REnt.drop ⟨rfl, rfl⟩, ?_⟩ | fail))
  refine acall_frame0 rfl (small80_any _ a _ ?_)
  (repeat' (first | exact trivial | exact fun h => h | refine And.intro ?_ ?_ | (intro hb; first | (simp at hb; done) | (simp at hb) | skip) | omega | exact rfl | exact Nat.le_refl _ | (show _ + 1 ≤ 4294967296; omega) | (dsimp only; omega) | (show (_ : Int) ≤ (_ : Int); omega) | (show _ < List.length _; simp only [List.length_set, List.length_append, List.length_take]; omega) | (show wantB _ _ = true; simp; done) | (show wantB _ _ = true; simp; omega) | (show (_ : Bool) = _; simp_all; done) | (exfalso; omega) | refine aRegion_auto (by decide +kernel) ?_ | refine ⟨_, _, REnt.drop ⟨rfl, rfl⟩, ?_⟩ | fail))
  · exact hK
  have hl : a.2.2.length ≤ 80 := by omega
  refine acall_conv [.dat RasT] _ _ _ rfl trivial (acall_frame0 rfl (fill_one E a (by omega) _ ?_))
  (repeat' (first | exact trivial | exact fun h => h | refine And.intro ?_ ?_ | (intro hb; first | (simp at hb; done) | (simp at hb) | skip) | omega | exact rfl | exact Nat.le_refl _ | (show _ + 1 ≤ 4294967296; omega) | (dsimp only; omega) | (show (_ : Int) ≤ (_ : Int); omega) | (show _ < List.length _; simp only [List.length_set, List.length_append, List.length_take]; omega) | (show wantB _ _ = true; simp; done) | (show wantB _ _ = true; simp; omega) | (show (_ : Bool) = _; simp_all; done) | (exfalso; omega) | refine aRegion_auto (by decide +kernel) ?_ | refine ⟨_, _, REnt.drop ⟨rfl, rfl⟩, ?_⟩ | fail))
  refine acall_frame0 rfl (flow_one E a (by omega) _ ?_)
  (repeat' (first | exact trivial | exact fun h => h | refine And.intro ?_ ?_ | (intro hb; first | (simp at hb; done) | (simp at hb) | skip) | omega | exact rfl | exact Nat.le_refl _ | (show _ + 1 ≤ 4294967296; omega) | (dsimp only; omega) | (show (_ : Int) ≤ (_ : Int); omega) | (show _ < List.length _; simp only [List.length_set, List.length_append, List.length_take]; omega) | (show wantB _ _ = true; simp; done) | (show wantB _ _ = true; simp; omega) | (show (_ : Bool) = _; simp_all; done) | (exfalso; omega) | refine aRegion_auto (by decide +kernel) ?_ | refine ⟨_, _, REnt.drop ⟨rfl, rfl⟩, ?_⟩ | fail))
  refine acall_frame0 rfl (order_one E a (by omega) _ ?_)
  (repeat' (first | exact trivial | exact fun h => h | refine And.intro ?_ ?_ | (intro hb; first | (simp at hb; done) | (simp at hb) | skip) | omega | exact rfl | exact Nat.le_refl _ | (show _ + 1 ≤ 4294967296; omega) | (dsimp only; omega) | (show (_ : Int) ≤ (_ : Int); omega) | (show _ < List.length _; simp only [List.length_set, List.length_append, List.length_take]; omega) | (show wantB _ _ = true; simp; done) | (show wantB _ _ = true; simp; omega) | (show (_ : Bool) = _; simp_all; done) | (exfalso; omega) | refine aRegion_auto (by decide +kernel) ?_ | refine ⟨_, _, REnt.drop ⟨rfl, rfl⟩, ?_⟩ | fail))
  refine acall_frame0 rfl (rasterError_any _ a (by omega) _ ?_)
  (repeat' (first | exact trivial | exact fun h => h | refine And.intro ?_ ?_ | (intro hb; first | (simp at hb; done) | (simp at hb) | skip) | omega | exact rfl | exact Nat.le_refl _ | (show _ + 1 ≤ 4294967296; omega) | (dsimp only; omega) | (show (_ : Int) ≤ (_ : Int); omega) | (show _ < List.length _; simp only [List.length_set, List.length_append, List.length_take]; omega) | (show wantB _ _ = true; simp; done) | (show wantB _ _ = true; simp; omega) | (show (_ : Bool) = _; simp_all; done) | (exfalso; omega) | refine aRegion_auto (by decide +kernel) ?_ | refine ⟨_, _, REnt.drop ⟨rfl, rfl⟩, ?_⟩ | fail))
  · have h4 := rerr_in a
    have hne : rerr a ≠ 0 := by omega
    have e1 : fillQ a = (0, 0, []) := by unfold fillQ; rw [if_neg hne]
    have e2 : flP a = ([], [], []) := by unfold flP; rw [if_neg hne]
    refine acall_frame0 rfl (coded_mercatorlaw4 hE (by omega) (rerr a) _ ?_)
    rw [decide_eq_true rfl, e1, e2]
    (repeat' (first | exact trivial | exact fun h => h | refine And.intro ?_ ?_ | (intro hb; first | (simp at hb; done) | (simp at hb) | skip) | omega | exact rfl | exact Nat.le_refl _ | (show _ + 1 ≤ 4294967296; omega) | (dsimp only; omega) | (show (_ : Int) ≤ (_ : Int); omega) | (show _ < List.length _; simp only [List.length_set, List.length_append, List.length_take]; omega) | (show wantB _ _ = true; simp; done) | (show wantB _ _ = true; simp; omega) | (show (_ : Bool) = _; simp_all; done) | (exfalso; omega) | refine aRegion_auto (by decide +kernel) ?_ | refine ⟨_, _, REnt.drop ⟨rfl, rfl⟩, ?_⟩ | fail))
    refine acall_frame0 rfl (coded_mercatorlaw4 hE (by omega) (rerr a) _ ?_)
    rw [decide_eq_true rfl]
    (repeat' (first | exact trivial | exact fun h => h | refine And.intro ?_ ?_ | (intro hb; first | (simp at hb; done) | (simp at hb) | skip) | omega | exact rfl | exact Nat.le_refl _ | (show _ + 1 ≤ 4294967296; omega) | (dsimp only; omega) | (show (_ : Int) ≤ (_ : Int); omega) | (show _ < List.length _; simp only [List.length_set, List.length_append, List.length_take]; omega) | (show wantB _ _ = true; simp; done) | (show wantB _ _ = true; simp; omega) | (show (_ : Bool) = _; simp_all; done) | (exfalso; omega) | refine aRegion_auto (by decide +kernel) ?_ | refine ⟨_, _, REnt.drop ⟨rfl, rfl⟩, ?_⟩ | fail))
    refine acall_frame0 rfl (coded_mercatorlaw4 hE (by omega) (rerr a) _ ?_)
    rw [decide_eq_true rfl]
    (repeat' (first | exact trivial | exact fun h => h | refine And.intro ?_ ?_ | (intro hb; first | (simp at hb; done) | (simp at hb) | skip) | omega | exact rfl | exact Nat.le_refl _ | (show _ + 1 ≤ 4294967296; omega) | (dsimp only; omega) | (show (_ : Int) ≤ (_ : Int); omega) | (show _ < List.length _; simp only [List.length_set, List.length_append, List.length_take]; omega) | (show wantB _ _ = true; simp; done) | (show wantB _ _ = true; simp; omega) | (show (_ : Bool) = _; simp_all; done) | (exfalso; omega) | refine aRegion_auto (by decide +kernel) ?_ | refine ⟨_, _, REnt.drop ⟨rfl, rfl⟩, ?_⟩ | fail))
    exact hK
  · have hv : rerr a = 0 := by omega
    have R := RasN.mk' hv
    rw [hv]
    (repeat' (first | exact trivial | exact fun h => h | refine And.intro ?_ ?_ | (intro hb; first | (simp at hb; done) | (simp at hb) | skip) | omega | exact rfl | exact Nat.le_refl _ | (show _ + 1 ≤ 4294967296; omega) | (dsimp only; omega) | (show (_ : Int) ≤ (_ : Int); omega) | (show _ < List.length _; simp only [List.length_set, List.length_append, List.length_take]; omega) | (show wantB _ _ = true; simp; done) | (show wantB _ _ = true; simp; omega) | (show (_ : Bool) = _; simp_all; done) | (exfalso; omega) | refine aRegion_auto (by decide +kernel) ?_ | refine ⟨_, _, REnt.drop ⟨rfl, rfl⟩, ?_⟩ | fail))
    refine acall_frame0 rfl (floodOf_any _ a R _ ?_)
    have e2 : flP a = fResP a.1.toNat a.2.1.toNat a := by unfold flP; rw [if_pos hv]
    have e1 : fillQ a = (a.1, a.2.1, (fRes a.1.toNat a.2.1.toNat a).1) := by unfold fillQ; rw [if_pos hv, e2]; rfl
    have e3 : (fResP a.1.toNat a.2.1.toNat a).2.2 = (fRes a.1.toNat a.2.1.toNat a).2.2 := rfl
    obtain ⟨n, hn⟩ : ∃ n, n = a.1.toNat * a.2.1.toNat := ⟨_, rfl⟩
    have hln := R.len
    rw [← hn] at hln
    have l1 : (fRes a.1.toNat a.2.1.toNat a).1.length = n := by rw [hn]; exact lst_len _ _
    have l2 : (fRes a.1.toNat a.2.1.toNat a).2.2.length = n := by
      rw [hn]; show (natL _).length = _
      rw [natL_len]; exact (flN_ok _ _ _ R.w0 _ (Nat.le_refl _)).2
    have l3 : (fResP a.1.toNat a.2.1.toNat a).2.1.length = n := by rw [hn]; exact lst_len _ _
    have l4 : (fRes a.1.toNat a.2.1.toNat a).2.1.length = n := by rw [hn]; exact lst_len _ _
    have g1 : ∀ i, i < n → List.getD (fResP a.1.toNat a.2.1.toNat a).2.1 i 0 = wayN a.1.toNat i ((flD a.1.toNat a.2.1.toNat (hts a)).to i) := fun i hi => lst_at _ (by omega)
    have g2 : ∀ i, i < n → List.getD (fRes a.1.toNat a.2.1.toNat a).2.1 i 0 = (((flD a.1.toNat a.2.1.toNat (hts a)).to i : Nat) : Int) := fun i hi => lst_at (fun i => (((flD a.1.toNat a.2.1.toNat (hts a)).to i : Nat) : Int)) (by omega)
    have g3 : ∀ i, i < n → (flD a.1.toNat a.2.1.toNat (hts a)).to i < n := fun i hi => by
      obtain ⟨I, _⟩ := flN_ok a.1.toNat a.2.1.toNat (hts a) R.w0 _ (Nat.le_refl _)
      have h2 := flD_all a.1.toNat a.2.1.toNat (hts a) R.w0 i (by omega)
      rcases I.src i (by omega) (by unfold flD at h2; omega) with ⟨_, h, _⟩ | ⟨_, _, h, _⟩
      · unfold flD; omega
      · unfold flD; omega
    rw [e1, e2, e3]
    generalize hFR : fRes a.1.toNat a.2.1.toNat a = FR at *
    generalize hFP : (fResP a.1.toNat a.2.1.toNat a).2.1 = FP at *
    (repeat' (first | exact trivial | exact fun h => h | refine And.intro ?_ ?_ | (intro hb; first | (simp at hb; done) | (simp at hb) | skip) | omega | exact rfl | exact Nat.le_refl _ | (show _ + 1 ≤ 4294967296; omega) | (dsimp only; omega) | (show (_ : Int) ≤ (_ : Int); omega) | (show _ < List.length _; simp only [List.length_set, List.length_append, List.length_take]; omega) | (show wantB _ _ = true; simp; done) | (show wantB _ _ = true; simp; omega) | (show (_ : Bool) = _; simp_all; done) | (exfalso; omega) | refine aRegion_auto (by decide +kernel) ?_ | refine ⟨_, _, REnt.drop ⟨rfl, rfl⟩, ?_⟩ | fail))
    refine acall_frame0 rfl (sameInts_mercatorlaw4 _ FR.1 FR.1 (by omega) _ ?_)
    rw [decide_eq_true rfl]
    (repeat' (first | exact trivial | exact fun h => h | refine And.intro ?_ ?_ | (intro hb; first | (simp at hb; done) | (simp at hb) | skip) | omega | exact rfl | exact Nat.le_refl _ | (show _ + 1 ≤ 4294967296; omega) | (dsimp only; omega) | (show (_ : Int) ≤ (_ : Int); omega) | (show _ < List.length _; simp only [List.length_set, List.length_append, List.length_take]; omega) | (show wantB _ _ = true; simp; done) | (show wantB _ _ = true; simp; omega) | (show (_ : Bool) = _; simp_all; done) | (exfalso; omega) | refine aRegion_auto (by decide +kernel) ?_ | refine ⟨_, _, REnt.drop ⟨rfl, rfl⟩, ?_⟩ | fail))
    refine acall_frame0 rfl (sameInts_mercatorlaw4 _ FR.2.2 FR.2.2 (by omega) _ ?_)
    rw [decide_eq_true rfl]
    (repeat' (first | exact trivial | exact fun h => h | refine And.intro ?_ ?_ | (intro hb; first | (simp at hb; done) | (simp at hb) | skip) | omega | exact rfl | exact Nat.le_refl _ | (show _ + 1 ≤ 4294967296; omega) | (dsimp only; omega) | (show (_ : Int) ≤ (_ : Int); omega) | (show _ < List.length _; simp only [List.length_set, List.length_append, List.length_take]; omega) | (show wantB _ _ = true; simp; done) | (show wantB _ _ = true; simp; omega) | (show (_ : Bool) = _; simp_all; done) | (exfalso; omega) | refine aRegion_auto (by decide +kernel) ?_ | refine ⟨_, _, REnt.drop ⟨rfl, rfl⟩, ?_⟩ | fail))
    refine ⟨Nat, fun k => ⟨[(0, .fptr RasT a), (7, .fz (.list int) FP), (12, .ptr 1 0), (15, .fz int k)], [.box [.fz int a.1, .fz int a.2.1, .fz (.list int) FR.1], .box [.fz (.list int) FR.1, .fz (.list int) FR.2.1, .fz (.list int) FR.2.2]]⟩, fun k => k ≤ n, fun k => n - k, 0, Nat.zero_le _, Ent.sub rfl ?_, ?_⟩
    · (repeat' (first | exact trivial | exact rfl | refine And.intro ?_ ?_))
    intro k hk
    by_cases hkn : k < n
    · have q1 : List.getD FR.2.1 (Int.toNat (k : Int)) int.dft = (((flD a.1.toNat a.2.1.toNat (hts a)).to k : Nat) : Int) := g2 k hkn
      have q2 : List.getD FP (Int.toNat (k : Int)) int.dft = wayN a.1.toNat k ((flD a.1.toNat a.2.1.toNat (hts a)).to k) := g1 k hkn
      (repeat' (first | exact trivial | exact fun h => h | refine And.intro ?_ ?_ | (intro hb; first | (simp at hb; done) | (simp at hb) | skip) | omega | exact rfl | exact Nat.le_refl _ | (show _ + 1 ≤ 4294967296; omega) | (dsimp only; omega) | (show (_ : Int) ≤ (_ : Int); omega) | (show _ < List.length _; simp only [List.length_set, List.length_append, List.length_take]; omega) | (show wantB _ _ = true; simp; done) | (show wantB _ _ = true; simp; omega) | (show (_ : Bool) = _; simp_all; done) | (exfalso; omega) | refine aRegion_auto (by decide +kernel) ?_ | refine ⟨_, _, REnt.drop ⟨rfl, rfl⟩, ?_⟩ | fail))
      apply exEff
      · refine acall_frame0 rfl (acall_arg (wayOf_any _ a R k ((flD a.1.toNat a.2.1.toNat (hts a)).to k) (by omega) (by have := g3 k hkn; omega) _ ?_) (by rw [← q1]; rfl))
        exact ⟨rfl, rfl⟩
      (repeat' (first | exact trivial | exact fun h => h | refine And.intro ?_ ?_ | (intro hb; first | (simp at hb; done) | (simp at hb) | skip) | omega | exact rfl | exact Nat.le_refl _ | (show _ + 1 ≤ 4294967296; omega) | (dsimp only; omega) | (show (_ : Int) ≤ (_ : Int); omega) | (show _ < List.length _; simp only [List.length_set, List.length_append, List.length_take]; omega) | (show wantB _ _ = true; simp; done) | (show wantB _ _ = true; simp; omega) | (show (_ : Bool) = _; simp_all; done) | (exfalso; omega) | refine aRegion_auto (by decide +kernel) ?_ | refine ⟨_, _, REnt.drop ⟨rfl, rfl⟩, ?_⟩ | fail))
      · exfalso
        apply hb
        have := q2
        simpa using this
      · refine ⟨k + 1, by show k + 1 ≤ n; omega, by show n - (k + 1) < n - k; omega, Ent.sub rfl ?_⟩
        (repeat' (first | exact trivial | exact rfl | refine And.intro ?_ ?_))
    · have hkn : k = n := by omega
      subst hkn
      (repeat' (first | exact trivial | exact fun h => h | refine And.intro ?_ ?_ | (intro hb; first | (simp at hb; done) | (simp at hb) | skip) | omega | exact rfl | exact Nat.le_refl _ | (show _ + 1 ≤ 4294967296; omega) | (dsimp only; omega) | (show (_ : Int) ≤ (_ : Int); omega) | (show _ < List.length _; simp only [List.length_set, List.length_append, List.length_take]; omega) | (show wantB _ _ = true; simp; done) | (show wantB _ _ = true; simp; omega) | (show (_ : Bool) = _; simp_all; done) | (exfalso; omega) | refine aRegion_auto (by decide +kernel) ?_ | refine ⟨_, _, REnt.drop ⟨rfl, rfl⟩, ?_⟩ | fail))
      exact hK
theorem drainFloods_nil {E : Errs} (K : AV → List AO → Prop) (hK : K (.fz .bool true) []) :
    ACall Tryd.prog (G8 E) 4 [.fz .raw (.pointer none)] [] K := by
  refine acall_mk (E := envAt (G8 E) 147 0) (envOk _ _ _) Tryd.func4 rfl rfl rfl rfl rfl ?_
  (repeat' (first | exact trivial | exact fun h => h | refine And.intro ?_ ?_ | (intro hb; first | (simp at hb; done) | (simp at hb) | skip) | omega | exact rfl | exact Nat.le_refl _ | (show _ + 1 ≤ 4294967296; omega) | (dsimp only; omega) | (show (_ : Int) ≤ (_ : Int); omega) | (show _ < List.length _; simp only [List.length_set, List.length_append, List.length_take]; omega) | (show wantB _ _ = true; simp; done) | (show wantB _ _ = true; simp; omega) | (show (_ : Bool) = _; simp_all; done) | (exfalso; omega) | refine aRegion_auto (by decide +kernel) ?_ | refine ⟨_, _, REnt.drop ⟨rfl, rfl⟩, ?_⟩ | fail))
  refine acall_frame0 rfl (drains_any E _ ?_)
  (repeat' (first | exact trivial | exact fun h => h | refine And.intro ?_ ?_ | (intro hb; first | (simp at hb; done) | (simp at hb) | skip) | omega | exact rfl | exact Nat.le_refl _ | (show _ + 1 ≤ 4294967296; omega) | (dsimp only; omega) | (show (_ : Int) ≤ (_ : Int); omega) | (show _ < List.length _; simp only [List.length_set, List.length_append, List.length_take]; omega) | (show wantB _ _ = true; simp; done) | (show wantB _ _ = true; simp; omega) | (show (_ : Bool) = _; simp_all; done) | (exfalso; omega) | refine aRegion_auto (by decide +kernel) ?_ | refine ⟨_, _, REnt.drop ⟨rfl, rfl⟩, ?_⟩ | fail))
  refine acall_frame0 rfl (small80_nil _ _ ?_)
  (repeat' (first | exact trivial | exact fun h => h | refine And.intro ?_ ?_ | (intro hb; first | (simp at hb; done) | (simp at hb) | skip) | omega | exact rfl | exact Nat.le_refl _ | (show _ + 1 ≤ 4294967296; omega) | (dsimp only; omega) | (show (_ : Int) ≤ (_ : Int); omega) | (show _ < List.length _; simp only [List.length_set, List.length_append, List.length_take]; omega) | (show wantB _ _ = true; simp; done) | (show wantB _ _ = true; simp; omega) | (show (_ : Bool) = _; simp_all; done) | (exfalso; omega) | refine aRegion_auto (by decide +kernel) ?_ | refine ⟨_, _, REnt.drop ⟨rfl, rfl⟩, ?_⟩ | fail))
  exact hK
end Go.Proofs.YtepkknjncpbahaaDoor
/-
  BasinParts: divides, and the walk.
-/
namespace Go.Proofs.YtepkknjncpbahaaDoor
open Go Go.Ab
set_option maxRecDepth 100000
abbrev D2 : Ty := .arr 2 int
def pr (i k : Nat) : List Int := [(i : Int), (k : Int)]
/-- the divides of one cell: to the east, to the south -/
def dv1 (w : Nat) (b : Nat → Int) (i : Nat) : List (List Int) := if (i + 1) % w ≠ 0 ∧ b i ≠ b (i + 1) then [pr i (i + 1)] else []
def dv2 (w n : Nat) (b : Nat → Int) (i : Nat) : List (List Int) := if i + w < n ∧ b i ≠ b (i + w) then [pr i (i + w)] else []
def dvs (w n : Nat) (b : Nat → Int) : Nat → List (List Int)
  | 0 => []
  | k + 1 => dvs w n b k ++ (dv1 w b k ++ dv2 w n b k)
theorem dv_le (w n : Nat) (b : Nat → Int) (i : Nat) : (dv1 w b i).length ≤ 1 ∧ (dv2 w n b i).length ≤ 1 := by
  unfold dv1 dv2
  constructor <;> split <;> simp
theorem dvs_le (w n : Nat) (b : Nat → Int) : ∀ k, (dvs w n b k).length ≤ 2 * k
  | 0 => Nat.le_refl _
  | k + 1 => by
    have := dvs_le w n b k
    have := dv_le w n b k
    unfold dvs; simp; omega
set_option maxHeartbeats 4000000 in
theorem divides_ok (E : Errs) (a : Ras) (hv : rerr a = 0) {w h : Nat} (R : RasN a w h) (b : Nat → Int) (hb : basQ a = lst (w * h) b) (K : AV → List AO → Prop) (hK : K (.tup [.fz (.list D2) (dvs w (w * h) b (w * h)), .fz .raw .nilIface]) []) :
    ACall Tryd.prog (G8 E) 26 [.fz RasT a] [] K := by
  have hl := R.len
  have hwh := R.wh
  have wz := R.wide
  have w1 := R.w1
  have w0 := R.w0
  obtain ⟨n, hn⟩ : ∃ n, n = w * h := ⟨_, rfl⟩
  rw [← hn] at hl hwh hb hK
  have hbl := lst_len n b
  let bA : AO := .box [.fz int a.1, .fz int a.2.1, .fz (.list int) a.2.2]
  refine acall_mk (E := envAt (G8 E) 74 0) (envOk _ _ _) Tryd.func26 rfl rfl rfl rfl rfl ?_
  (repeat' (first | exact trivial | exact fun h => h | refine And.intro ?_ ?_ | (intro hb; first | (simp at hb; done) | (simp at hb) | skip) | omega | exact rfl | exact Nat.le_refl _ | (show _ + 1 ≤ 4294967296; omega) | (dsimp only; omega) | (show (_ : Int) ≤ (_ : Int); omega) | (show _ < List.length _; simp only [List.length_set, List.length_append, List.length_take]; omega) | (show wantB _ _ = true; simp; done) | (show wantB _ _ = true; simp; omega) | (show (_ : Bool) = _; simp_all; done) | (exfalso; omega) | fail))
  refine acall_conv [.dat RasT] _ _ _ rfl trivial (acall_frame0 rfl (basins_one E a (by omega) _ ?_))
  rw [hv, hb]
  (repeat' (first | exact trivial | exact fun h => h | refine And.intro ?_ ?_ | (intro hb; first | (simp at hb; done) | (simp at hb) | skip) | omega | exact rfl | exact Nat.le_refl _ | (show _ + 1 ≤ 4294967296; omega) | (dsimp only; omega) | (show (_ : Int) ≤ (_ : Int); omega) | (show _ < List.length _; simp only [List.length_set, List.length_append, List.length_take]; omega) | (show wantB _ _ = true; simp; done) | (show wantB _ _ = true; simp; omega) | (show (_ : Bool) = _; simp_all; done) | (exfalso; omega) | fail))
  refine ⟨Nat, fun k => ⟨[(1, .ptr 0 0), (4, .fz (.list int) (lst n b)), (6, .ref 1 0 (dvs w n b k).length), (18, .fz int n), (19, .fz int k)], [bA, .row D2 (dvs w n b k)]⟩, fun k => k ≤ n, fun k => n - k, 0, Nat.zero_le _, (Ent.nil 6 D2 rfl).trans (Ent.sub rfl ?_), ?_⟩
  · (repeat' (first | exact trivial | exact rfl | refine And.intro ?_ ?_))
    exact congrArg (fun z : Nat => AV.fz int (z : Int)) hbl
  intro k hk
  have hdl := dvs_le w n b k
  by_cases hkn : k < n
  · have g0 : (lst n b)[k]?.getD int.dft = b k := lst_get _ hkn
    have g1 : k + 1 < n → (lst n b)[k + 1]?.getD int.dft = b (k + 1) := fun h => lst_get _ h
    have g2 : k + w < n → (lst n b)[k + w]?.getD int.dft = b (k + w) := fun h => lst_get _ h
    have m1 : Int.tmod ((k : Int) + 1) a.1 = (((k + 1) % w : Nat) : Int) := by rw [wz]; rfl
    have hz : a.1 ≠ 0 := by omega
    have ek : ((k : Int) + a.1).toNat = k + w := by omega
    have epr : [(k : Int), (k : Int) + a.1] = pr k (k + w) := by unfold pr; rw [wz]; rfl
    have epr1 : [(k : Int), (k : Int) + 1] = pr k (k + 1) := rfl
    have sth : ∀ L, dv2 w n b k = L → ∀ M, dv1 w b k = M → dvs w n b (k + 1) = dvs w n b k ++ (M ++ L) := fun L e1 M e2 => by rw [dvs, e1, e2]
    -- a cell that is not the last one of its row has one to its east
    have heast : (k + 1) % w ≠ 0 → k + 1 < n := fun he => by
      rcases Nat.lt_or_ge (k + 1) n with h' | h'
      · exact h'
      · exfalso; apply he
        have : k + 1 = w * h := by omega
        rw [this]; simp
    by_cases he : (k + 1) % w = 0
    · have hm0 : Int.tmod ((k : Int) + 1) a.1 = 0 := by rw [m1, he]; rfl
      have e1 : dv1 w b k = [] := by unfold dv1; rw [if_neg (fun x => x.1 he)]
      (repeat' (first | exact trivial | exact fun h => h | refine And.intro ?_ ?_ | (intro hb; first | (simp at hb; done) | (simp at hb) | skip) | omega | exact rfl | exact Nat.le_refl _ | (show _ + 1 ≤ 4294967296; omega) | (dsimp only; omega) | (show (_ : Int) ≤ (_ : Int); omega) | (show _ < List.length _; simp only [List.length_set, List.length_append, List.length_take]; omega) | (show wantB _ _ = true; simp; done) | (show wantB _ _ = true; simp; omega) | (show (_ : Bool) = _; simp_all; done) | (exfalso; omega) | refine aRegion_auto (by decide +kernel) ?_ | fail))
      · have e2 := sth _ (by unfold dv2; rw [if_pos ⟨by omega, fun e => hb.2 (by rw [g0, ek, g2 (by omega), e])⟩] : dv2 w n b k = [pr k (k + w)]) _ e1
        refine ⟨k + 1, by show k + 1 ≤ n; omega, by show n - (k + 1) < n - k; omega, Ent.ren [0, 3] rfl ?_ ?_⟩
        · (repeat' (first | exact trivial | exact rfl | refine And.intro ?_ ?_))
          refine congrArg (fun l => some (AO.row D2 l)) (?_ : List.take (dvs w n b k).length (dvs w n b k) ++ [[(k : Int), (k : Int) + a.1]] = dvs w n b (k + 1))
          rw [List.take_length, epr, e2]; rfl
        · (repeat' (first | exact trivial | exact rfl | refine And.intro ?_ ?_))
          refine congrArg (AV.ref 3 0) (?_ : (dvs w n b k).length + 1 = (dvs w n b (k + 1)).length)
          rw [e2]; simp
      · have e2 := sth [] (by unfold dv2; rw [if_neg (fun x => x.2 (by have := hb (by omega); rw [g0, ek, g2 (by omega)] at this; exact this))]) _ e1
        rw [List.append_nil, List.append_nil] at e2
        refine ⟨k + 1, by show k + 1 ≤ n; omega, by show n - (k + 1) < n - k; omega, Ent.sub ?_ ?_⟩
        · show [bA, AO.row D2 (dvs w n b k)] = [bA, AO.row D2 (dvs w n b (k + 1))]
          rw [e2]
        · (repeat' (first | exact trivial | exact rfl | refine And.intro ?_ ?_))
          exact congrArg (AV.ref 1 0) (by rw [e2])
    · have hm0 : Int.tmod ((k : Int) + 1) a.1 ≠ 0 := by rw [m1]; omega
      have hk1 := heast he
      have g1 := g1 hk1
      by_cases hbe : b k = b (k + 1)
      · have e1 : dv1 w b k = [] := by unfold dv1; rw [if_neg (fun x => x.2 hbe)]
        (repeat' (first | exact trivial | exact fun h => h | refine And.intro ?_ ?_ | (intro hb; first | (simp at hb; done) | (simp at hb) | skip) | omega | exact rfl | exact Nat.le_refl _ | (show _ + 1 ≤ 4294967296; omega) | (dsimp only; omega) | (show (_ : Int) ≤ (_ : Int); omega) | (show _ < List.length _; simp only [List.length_set, List.length_append, List.length_take]; omega) | (show wantB _ _ = true; simp; done) | (show wantB _ _ = true; simp; omega) | (show (_ : Bool) = _; simp_all; done) | (exfalso; omega) | refine aRegion_auto (by decide +kernel) ?_ | fail))
        · have e2 := sth _ (by unfold dv2; rw [if_pos ⟨by omega, fun e => hb.2 (by rw [g0, ek, g2 (by omega), e])⟩] : dv2 w n b k = [pr k (k + w)]) _ e1
          refine ⟨k + 1, by show k + 1 ≤ n; omega, by show n - (k + 1) < n - k; omega, Ent.ren [0, 3] rfl ?_ ?_⟩
          · (repeat' (first | exact trivial | exact rfl | refine And.intro ?_ ?_))
            refine congrArg (fun l => some (AO.row D2 l)) (?_ : List.take (dvs w n b k).length (dvs w n b k) ++ [[(k : Int), (k : Int) + a.1]] = dvs w n b (k + 1))
            rw [List.take_length, epr, e2]; rfl
          · (repeat' (first | exact trivial | exact rfl | refine And.intro ?_ ?_))
            refine congrArg (AV.ref 3 0) (?_ : (dvs w n b k).length + 1 = (dvs w n b (k + 1)).length)
            rw [e2]; simp
        · have e2 := sth [] (by unfold dv2; rw [if_neg (fun x => x.2 (by have := hb (by omega); rw [g0, ek, g2 (by omega)] at this; exact this))]) _ e1
          rw [List.append_nil, List.append_nil] at e2
          refine ⟨k + 1, by show k + 1 ≤ n; omega, by show n - (k + 1) < n - k; omega, Ent.sub ?_ ?_⟩
          · show [bA, AO.row D2 (dvs w n b k)] = [bA, AO.row D2 (dvs w n b (k + 1))]
            rw [e2]
          · (repeat' (first | exact trivial | exact rfl | refine And.intro ?_ ?_))
            exact congrArg (AV.ref 1 0) (by rw [e2])
      · have e1 : dv1 w b k = [pr k (k + 1)] := by unfold dv1; rw [if_pos ⟨he, hbe⟩]
        (repeat' (first | exact trivial | exact fun h => h | refine And.intro ?_ ?_ | (intro hb; first | (simp at hb; done) | (simp at hb) | skip) | omega | exact rfl | exact Nat.le_refl _ | (show _ + 1 ≤ 4294967296; omega) | (dsimp only; omega) | (show (_ : Int) ≤ (_ : Int); omega) | (show _ < List.length _; simp only [List.length_set, List.length_append, List.length_take]; omega) | (show wantB _ _ = true; simp; done) | (show wantB _ _ = true; simp; omega) | (show (_ : Bool) = _; simp_all; done) | (exfalso; omega) | refine aRegion_auto (by decide +kernel) ?_ | fail))
        · show (dvs w n b k).length + 1 ≤ List.length (List.take (dvs w n b k).length (dvs w n b k) ++ [_])
          simp
        · show (dvs w n b k).length + 1 + 1 ≤ 4294967296
          omega
        · have e2 := sth _ (by unfold dv2; rw [if_pos ⟨by omega, fun e => hb.2 (by rw [g0, ek, g2 (by omega), e])⟩] : dv2 w n b k = [pr k (k + w)]) _ e1
          refine ⟨k + 1, by show k + 1 ≤ n; omega, by show n - (k + 1) < n - k; omega, Ent.ren [0, 5] rfl ?_ ?_⟩
          · (repeat' (first | exact trivial | exact rfl | refine And.intro ?_ ?_))
            refine congrArg (fun l => some (AO.row D2 l)) (?_ : List.take ((dvs w n b k).length + 1) (List.take (dvs w n b k).length (dvs w n b k) ++ [[(k : Int), (k : Int) + 1]]) ++ [[(k : Int), (k : Int) + a.1]] = dvs w n b (k + 1))
            rw [List.take_length, List.take_of_length_le (by simp), epr, epr1, e2]; simp
          · (repeat' (first | exact trivial | exact rfl | refine And.intro ?_ ?_))
            refine congrArg (AV.ref 5 0) (?_ : (dvs w n b k).length + 1 + 1 = (dvs w n b (k + 1)).length)
            rw [e2]; simp
        · have e2 := sth [] (by unfold dv2; rw [if_neg (fun x => x.2 (by have := hb (by omega); rw [g0, ek, g2 (by omega)] at this; exact this))]) _ e1
          rw [List.append_nil] at e2
          refine ⟨k + 1, by show k + 1 ≤ n; omega, by show n - (k + 1) < n - k; omega, Ent.ren [0, 3] rfl ?_ ?_⟩
          · (repeat' (first | exact trivial | exact rfl | refine And.intro ?_ ?_))
            refine congrArg (fun l => some (AO.row D2 l)) (?_ : List.take (dvs w n b k).length (dvs w n b k) ++ [[(k : Int), (k : Int) + 1]] = dvs w n b (k + 1))
            rw [List.take_length, epr1, e2]
          · (repeat' (first | exact trivial | exact rfl | refine And.intro ?_ ?_))
            refine congrArg (AV.ref 3 0) (?_ : (dvs w n b k).length + 1 = (dvs w n b (k + 1)).length)
            rw [e2]; simp
  · have hkn : k = n := by omega
    subst hkn
    (repeat' (first | exact trivial | exact fun h => h | refine And.intro ?_ ?_ | (intro hb; first | (simp at hb; done) | (simp at hb) | skip) | omega | exact rfl | exact Nat.le_refl _ | (show _ + 1 ≤ 4294967296; omega) | (dsimp only; omega) | (show (_ : Int) ≤ (_ : Int); omega) | (show _ < List.length _; simp only [List.length_set, List.length_append, List.length_take]; omega) | (show wantB _ _ = true; simp; done) | (show wantB _ _ = true; simp; omega) | (show (_ : Bool) = _; simp_all; done) | (exfalso; omega) | fail))
    refine ⟨_, _, (REnt.conv [.dat (.list D2), .keep] _ rfl ?_).trans (REnt.drop ⟨rfl, rfl⟩), ?_⟩
    · show 0 + _ ≤ _
      omega
    · refine (congrArg (fun l => K (.tup [.fz (.list D2) l, .fz .raw .nilIface]) []) (?_ : _ = List.take (dvs w k b k).length (List.drop 0 (dvs w k b k)))).mp hK
      rw [List.drop_zero, List.take_length]
end Go.Proofs.YtepkknjncpbahaaDoor
/-
  BasinParts: the walk.
-/
namespace Go.Proofs.YtepkknjncpbahaaDoor
open Go Go.Ab
set_option maxRecDepth 100000
abbrev hmI (a : Ras) (i : Nat) : Int := ((homeN a.1.toNat a.2.1.toNat (flD a.1.toNat a.2.1.toNat (hts a)).to i : Nat) : Int)
def divQ (a : Ras) : List (List Int) := if rerr a = 0 then dvs a.1.toNat (a.1.toNat * a.2.1.toNat) (hmI a) (a.1.toNat * a.2.1.toNat) else []
theorem divides_one (E : Errs) (a : Ras) (hl : a.2.2.length ≤ 1000000000000) (K : AV → List AO → Prop) (hK : K (.tup [.fz (.list D2) (divQ a), .fz .raw (er E (rerr a))]) []) :
    ACall Tryd.prog (G8 E) 26 [.fz RasT a] [] K := by
  unfold divQ at hK
  by_cases hv : rerr a = 0
  · rw [if_pos hv, hv] at hK
    exact divides_ok E a hv (RasN.mk' hv) (hmI a) (by unfold basQ; rw [if_pos hv]) K hK
  · rw [if_neg hv] at hK
    have h4 := rerr_in a
    refine acall_mk (E := envAt (G8 E) 74 0) (envOk _ _ _) Tryd.func26 rfl rfl rfl rfl rfl ?_
    (repeat' (first | exact trivial | exact fun h => h | refine And.intro ?_ ?_ | (intro hb; first | (simp at hb; done) | (simp at hb) | skip) | omega | exact rfl | exact Nat.le_refl _ | (show _ + 1 ≤ 4294967296; omega) | (dsimp only; omega) | (show (_ : Int) ≤ (_ : Int); omega) | (show _ < List.length _; simp only [List.length_set, List.length_append, List.length_take]; omega) | (show wantB _ _ = true; simp; done) | (show wantB _ _ = true; simp; omega) | (show (_ : Bool) = _; simp_all; done) | (exfalso; omega) | fail))
    refine acall_conv [.dat RasT] _ _ _ rfl trivial (acall_frame0 rfl (basins_one E a hl _ ?_))
    obtain h | h | h | h : rerr a = 1 ∨ rerr a = 2 ∨ rerr a = 3 ∨ rerr a = 4 := by omega
    all_goals
      rw [h] at hK ⊢
      (repeat' (first | exact trivial | exact fun h => h | refine And.intro ?_ ?_ | (intro hb; first | (simp at hb; done) | (simp at hb) | skip) | omega | exact rfl | exact Nat.le_refl _ | (show _ + 1 ≤ 4294967296; omega) | (dsimp only; omega) | (show (_ : Int) ≤ (_ : Int); omega) | (show _ < List.length _; simp only [List.length_set, List.length_append, List.length_take]; omega) | (show wantB _ _ = true; simp; done) | (show wantB _ _ = true; simp; omega) | (show (_ : Bool) = _; simp_all; done) | (exfalso; omega) | fail))
      refine ⟨_, _, (REnt.conv [.dat (.list D2), .keep] _ rfl trivial).trans (REnt.drop ⟨rfl, rfl⟩), ?_⟩
      exact hK
def a21 : Ras := (2, 1, [1, 2])
theorem a21_ok : rerr a21 = 0 := by decide
theorem a21_b : basQ a21 = [0, 1] := by
  unfold basQ
  rw [if_pos a21_ok]
  have F := flowN 2 1 (hts a21) (by omega)
  have h0 : homeN 2 1 (flD 2 1 (hts a21)).to 0 = 0 := F.home_rim (by omega) ((F.rim 0 (by omega)).2 (by decide))
  have h1 : homeN 2 1 (flD 2 1 (hts a21)).to 1 = 1 := F.home_rim (by omega) ((F.rim 1 (by omega)).2 (by decide))
  show [((homeN 2 1 (flD 2 1 (hts a21)).to 0 : Nat) : Int), ((homeN 2 1 (flD 2 1 (hts a21)).to 1 : Nat) : Int)] = [0, 1]
  rw [h0, h1]; rfl
theorem based_any (E : Errs) (K : AV → List AO → Prop) (hK : K (.fz .bool true) []) : ACall Tryd.prog (G8 E) 24 [] [] K := by
  have h0 : List.getD (basQ a21) (Int.toNat 0) int.dft = 0 := by rw [a21_b]; rfl
  have h1 : List.getD (basQ a21) (Int.toNat 1) int.dft = 1 := by rw [a21_b]; rfl
  have hl : (basQ a21).length = 2 := by rw [a21_b]; rfl
  refine acall_mk (E := envAt (G8 E) 28 0) (envOk _ _ _) Tryd.func24 rfl rfl rfl rfl rfl ?_
  (repeat' (first | exact trivial | exact fun h => h | refine And.intro ?_ ?_ | (intro hb; first | (simp at hb; done) | (simp at hb) | skip) | omega | exact rfl | exact Nat.le_refl _ | (show _ + 1 ≤ 4294967296; omega) | (dsimp only; omega) | (show (_ : Int) ≤ (_ : Int); omega) | (show _ < List.length _; simp only [List.length_set, List.length_append, List.length_take]; omega) | (show wantB _ _ = true; simp; done) | (show wantB _ _ = true; simp; omega) | (show (_ : Bool) = _; simp_all; done) | (exfalso; omega) | fail))
  refine acall_conv [.dat RasT] _ _ _ rfl ?_ (acall_frame0 rfl (basins_one E a21 (by decide) _ ?_))
  · (repeat' (first | exact trivial | refine And.intro ?_ ?_ | (show _ ≤ _; omega) | (show _ ≤ _; simp; done)))
  rw [a21_ok]
  generalize basQ a21 = l at *
  (repeat' (first | exact trivial | exact fun h => h | refine And.intro ?_ ?_ | (intro hb; first | (simp at hb; done) | (simp at hb) | skip) | omega | exact rfl | exact Nat.le_refl _ | (show _ + 1 ≤ 4294967296; omega) | (dsimp only; omega) | (show (_ : Int) ≤ (_ : Int); omega) | (show _ < List.length _; simp only [List.length_set, List.length_append, List.length_take]; omega) | (show wantB _ _ = true; simp; done) | (show wantB _ _ = true; simp; omega) | (show (_ : Bool) = _; simp_all; done) | (exfalso; omega) | fail))
  refine ⟨_, _, REnt.drop ⟨rfl, rfl⟩, ?_⟩
  refine kbl hK ?_
  rw [h0, h1, hl]
  rfl
theorem dvs_split (w n : Nat) (b : Nat → Int) (i : Nat) : ∀ m : Nat, i < m → ∃ R, dvs w n b m = dvs w n b i ++ (dv1 w b i ++ (dv2 w n b i ++ R))
  | 0, h => by omega
  | m + 1, h => by
    by_cases e : i = m
    · subst e; exact ⟨[], by rw [dvs, List.append_nil]⟩
    · obtain ⟨R, hR⟩ := dvs_split w n b i m (by omega)
      exact ⟨R ++ (dv1 w b m ++ dv2 w n b m), by rw [dvs, hR]; simp only [List.append_assoc]⟩
theorem get_after {α : Type} (d x : α) (l r : List α) : (l ++ (x :: r))[l.length]?.getD d = x := by simp
set_option maxHeartbeats 8000000 in
theorem basinParts_some {E : Errs} (hE : (EL E).Nodup) (a : Ras) (hla : a.2.2.length ≤ 9223372036854775807) (K : AV → List AO → Prop) (hK : K (.fz .bool true) []) :
    ACall Tryd.prog (G8 E) 5 [.fptr RasT a] [] K := by
  refine acall_mk (E := envAt (G8 E) 164 0) (envOk _ _ _) Tryd.func5 rfl rfl rfl rfl rfl ?_
  (repeat' (first | exact trivial | exact fun h => h | refine And.intro ?_ ?_ | (intro hb; first | (simp at hb; done) | (simp at hb) | skip) | omega | exact rfl | exact Nat.le_refl _ | (show _ + 1 ≤ 4294967296; omega) | (dsimp only; omega) | (show (_ : Int) ≤ (_ : Int); omega) | (show _ < List.length _; simp only [List.length_set, List.length_append, List.length_take]; omega) | (show wantB _ _ = true; simp; done) | (show wantB _ _ = true; simp; omega) | (show (_ : Bool) = _; simp_all; done) | (exfalso; omega) | refine aRegion_auto (by decide +kernel) ?_ | refine ⟨_, _, REnt.drop ⟨rfl, rfl⟩, ?_⟩ | fail))
  refine acall_frame0 rfl (based_any E _ ?_)
  (repeat' (first | exact trivial | exact fun h => h | refine And.intro ?_ ?_ | (intro hb; first | (simp at hb; done) | (simp at hb) | skip) | omega | exact rfl | exact Nat.le_refl _ | (show _ + 1 ≤ 4294967296; omega) | (dsimp only; omega) | (show (_ : Int) ≤ (_ : Int); omega) | (show _ < List.length _; simp only [List.length_set, List.length_append, List.length_take]; omega) | (show wantB _ _ = true; simp; done) | (show wantB _ _ = true; simp; omega) | (show (_ : Bool) = _; simp_all; done) | (exfalso; omega) | refine aRegion_auto (by decide +kernel) ?_ | refine ⟨_, _, REnt.drop ⟨rfl, rfl⟩, ?_⟩ | fail))
  refine acall_frame0 rfl (small80_any _ a _ ?_)
  (repeat' (first | exact trivial | exact fun h => h | refine And.intro ?_ ?_ | (intro hb; first | (simp at hb; done) | (simp at hb) | skip) | omega | exact rfl | exact Nat.le_refl _ | (show _ + 1 ≤ 4294967296; omega) | (dsimp only; omega) | (show (_ : Int) ≤ (_ : Int); omega) | (show _ < List.length _; simp only [List.length_set, List.length_append, List.length_take]; omega) | (show wantB _ _ = true; simp; done) | (show wantB _ _ = true; simp; omega) | (show (_ : Bool) = _; simp_all; done) | (exfalso; omega) | refine aRegion_auto (by decide +kernel) ?_ | refine ⟨_, _, REnt.drop ⟨rfl, rfl⟩, ?_⟩ | fail))
  · exact hK
  have hl : a.2.2.length ≤ 80 := by omega
  refine acall_frame0 rfl (basins_one E a (by omega) _ ?_)
  (repeat' (first | exact trivial | exact fun h => h | refine And.intro ?_ ?_ | (intro hb; first | (simp at hb; done) | (simp at hb) | skip) | omega | exact rfl | exact Nat.le_refl _ | (show _ + 1 ≤ 4294967296; omega) | (dsimp only; omega) | (show (_ : Int) ≤ (_ : Int); omega) | (show _ < List.length _; simp only [List.length_set, List.length_append, List.length_take]; omega) | (show wantB _ _ = true; simp; done) | (show wantB _ _ = true; simp; omega) | (show (_ : Bool) = _; simp_all; done) | (exfalso; omega) | refine aRegion_auto (by decide +kernel) ?_ | refine ⟨_, _, REnt.drop ⟨rfl, rfl⟩, ?_⟩ | fail))
  refine acall_frame0 rfl (divides_one E a (by omega) _ ?_)
  (repeat' (first | exact trivial | exact fun h => h | refine And.intro ?_ ?_ | (intro hb; first | (simp at hb; done) | (simp at hb) | skip) | omega | exact rfl | exact Nat.le_refl _ | (show _ + 1 ≤ 4294967296; omega) | (dsimp only; omega) | (show (_ : Int) ≤ (_ : Int); omega) | (show _ < List.length _; simp only [List.length_set, List.length_append, List.length_take]; omega) | (show wantB _ _ = true; simp; done) | (show wantB _ _ = true; simp; omega) | (show (_ : Bool) = _; simp_all; done) | (exfalso; omega) | refine aRegion_auto (by decide +kernel) ?_ | refine ⟨_, _, REnt.drop ⟨rfl, rfl⟩, ?_⟩ | fail))
  refine acall_frame0 rfl (rasterError_any _ a (by omega) _ ?_)
  (repeat' (first | exact trivial | exact fun h => h | refine And.intro ?_ ?_ | (intro hb; first | (simp at hb; done) | (simp at hb) | skip) | omega | exact rfl | exact Nat.le_refl _ | (show _ + 1 ≤ 4294967296; omega) | (dsimp only; omega) | (show (_ : Int) ≤ (_ : Int); omega) | (show _ < List.length _; simp only [List.length_set, List.length_append, List.length_take]; omega) | (show wantB _ _ = true; simp; done) | (show wantB _ _ = true; simp; omega) | (show (_ : Bool) = _; simp_all; done) | (exfalso; omega) | refine aRegion_auto (by decide +kernel) ?_ | refine ⟨_, _, REnt.drop ⟨rfl, rfl⟩, ?_⟩ | fail))
  · have h4 := rerr_in a
    have hne : rerr a ≠ 0 := by omega
    have e1 : basQ a = [] := by unfold basQ; rw [if_neg hne]
    have e2 : divQ a = [] := by unfold divQ; rw [if_neg hne]
    refine acall_frame0 rfl (coded_mercatorlaw4 hE (by omega) (rerr a) _ ?_)
    rw [decide_eq_true rfl, e1, e2]
    (repeat' (first | exact trivial | exact fun h => h | refine And.intro ?_ ?_ | (intro hb; first | (simp at hb; done) | (simp at hb) | skip) | omega | exact rfl | exact Nat.le_refl _ | (show _ + 1 ≤ 4294967296; omega) | (dsimp only; omega) | (show (_ : Int) ≤ (_ : Int); omega) | (show _ < List.length _; simp only [List.length_set, List.length_append, List.length_take]; omega) | (show wantB _ _ = true; simp; done) | (show wantB _ _ = true; simp; omega) | (show (_ : Bool) = _; simp_all; done) | (exfalso; omega) | refine aRegion_auto (by decide +kernel) ?_ | refine ⟨_, _, REnt.drop ⟨rfl, rfl⟩, ?_⟩ | fail))
    refine acall_frame0 rfl (coded_mercatorlaw4 hE (by omega) (rerr a) _ ?_)
    rw [decide_eq_true rfl]
    (repeat' (first | exact trivial | exact fun h => h | refine And.intro ?_ ?_ | (intro hb; first | (simp at hb; done) | (simp at hb) | skip) | omega | exact rfl | exact Nat.le_refl _ | (show _ + 1 ≤ 4294967296; omega) | (dsimp only; omega) | (show (_ : Int) ≤ (_ : Int); omega) | (show _ < List.length _; simp only [List.length_set, List.length_append, List.length_take]; omega) | (show wantB _ _ = true; simp; done) | (show wantB _ _ = true; simp; omega) | (show (_ : Bool) = _; simp_all; done) | (exfalso; omega) | refine aRegion_auto (by decide +kernel) ?_ | refine ⟨_, _, REnt.drop ⟨rfl, rfl⟩, ?_⟩ | fail))
    exact hK
  · have hv : rerr a = 0 := by omega
    have R := RasN.mk' hv
    rw [hv]
    (repeat' (first | exact trivial | exact fun h => h | refine And.intro ?_ ?_ | (intro hb; first | (simp at hb; done) | (simp at hb) | skip) | omega | exact rfl | exact Nat.le_refl _ | (show _ + 1 ≤ 4294967296; omega) | (dsimp only; omega) | (show (_ : Int) ≤ (_ : Int); omega) | (show _ < List.length _; simp only [List.length_set, List.length_append, List.length_take]; omega) | (show wantB _ _ = true; simp; done) | (show wantB _ _ = true; simp; omega) | (show (_ : Bool) = _; simp_all; done) | (exfalso; omega) | refine aRegion_auto (by decide +kernel) ?_ | refine ⟨_, _, REnt.drop ⟨rfl, rfl⟩, ?_⟩ | fail))
    refine acall_frame0 rfl (floodOf_any _ a R _ ?_)
    have F := flowN a.1.toNat a.2.1.toNat (hts a) R.w0
    have hln := R.len
    have hwh := R.wh
    have hw1 := R.w1
    have hw0 := R.w0
    have wz := R.wide
    (repeat' (first | exact trivial | exact fun h => h | refine And.intro ?_ ?_ | (intro hb; first | (simp at hb; done) | (simp at hb) | skip) | omega | exact rfl | exact Nat.le_refl _ | (show _ + 1 ≤ 4294967296; omega) | (dsimp only; omega) | (show (_ : Int) ≤ (_ : Int); omega) | (show _ < List.length _; simp only [List.length_set, List.length_append, List.length_take]; omega) | (show wantB _ _ = true; simp; done) | (show wantB _ _ = true; simp; omega) | (show (_ : Bool) = _; simp_all; done) | (exfalso; omega) | refine aRegion_auto (by decide +kernel) ?_ | refine ⟨_, _, REnt.drop ⟨rfl, rfl⟩, ?_⟩ | fail))
    refine acall_frame0 rfl (homes_any _ a (fRes a.1.toNat a.2.1.toNat a) F hwh hln rfl _ ?_)
    have e1 : basQ a = lst (a.1.toNat * a.2.1.toNat) (hmI a) := by unfold basQ; rw [if_pos hv]
    have e2 : divQ a = dvs a.1.toNat (a.1.toNat * a.2.1.toNat) (hmI a) (a.1.toNat * a.2.1.toNat) := by unfold divQ; rw [if_pos hv]
    have eH : (lst (a.1.toNat * a.2.1.toNat) (fun i => ((homeN a.1.toNat a.2.1.toNat (flD a.1.toNat a.2.1.toNat (hts a)).to i : Nat) : Int))) = lst (a.1.toNat * a.2.1.toNat) (hmI a) := rfl
    rw [eH, e1, e2]
    obtain ⟨n, hn⟩ : ∃ n, n = a.1.toNat * a.2.1.toNat := ⟨_, rfl⟩
    rw [← hn] at hln hwh ⊢
    have hB : (lst n (hmI a)).length = n := lst_len _ _
    have hbv : ∀ i, i < n → (lst n (hmI a))[i]?.getD int.dft = hmI a i := fun i hi => lst_get _ hi
    have hD := dvs_le a.1.toNat n (hmI a) n
    have hsp := fun (i : Nat) (hi : i < n) => dvs_split a.1.toNat n (hmI a) i n hi
    generalize hDD : dvs a.1.toNat n (hmI a) n = D at *
    generalize hmI a = b at *
    (repeat' (first | exact trivial | exact fun h => h | refine And.intro ?_ ?_ | (intro hb; first | (simp at hb; done) | (simp at hb) | skip) | omega | exact rfl | exact Nat.le_refl _ | (show _ + 1 ≤ 4294967296; omega) | (dsimp only; omega) | (show (_ : Int) ≤ (_ : Int); omega) | (show _ < List.length _; simp only [List.length_set, List.length_append, List.length_take]; omega) | (show wantB _ _ = true; simp; done) | (show wantB _ _ = true; simp; omega) | (show (_ : Bool) = _; simp_all; done) | (exfalso; omega) | refine aRegion_auto (by decide +kernel) ?_ | refine ⟨_, _, REnt.drop ⟨rfl, rfl⟩, ?_⟩ | fail))
    refine acall_frame0 rfl (sameInts_mercatorlaw4 _ (lst n b) (lst n b) (by omega) _ ?_)
    rw [decide_eq_true rfl]
    (repeat' (first | exact trivial | exact fun h => h | refine And.intro ?_ ?_ | (intro hb; first | (simp at hb; done) | (simp at hb) | skip) | omega | exact rfl | exact Nat.le_refl _ | (show _ + 1 ≤ 4294967296; omega) | (dsimp only; omega) | (show (_ : Int) ≤ (_ : Int); omega) | (show _ < List.length _; simp only [List.length_set, List.length_append, List.length_take]; omega) | (show wantB _ _ = true; simp; done) | (show wantB _ _ = true; simp; omega) | (show (_ : Bool) = _; simp_all; done) | (exfalso; omega) | refine aRegion_auto (by decide +kernel) ?_ | refine ⟨_, _, REnt.drop ⟨rfl, rfl⟩, ?_⟩ | fail))
    refine ⟨Nat, fun i => ⟨[(0, .fptr RasT a), (7, .fz (.list D2) D), (10, .fz (.list int) (lst n b)), (12, .fz int (dvs a.1.toNat n b i).length), (13, .fz int i)], []⟩, fun i => i ≤ n, fun i => n - i, 0, Nat.zero_le _, Ent.sub rfl ?_, ?_⟩
    · (repeat' (first | exact trivial | exact rfl | refine And.intro ?_ ?_))
    intro i hi
    have hdi := dvs_le a.1.toNat n b i
    by_cases hin : i < n
    · obtain ⟨Rs, hRs⟩ := hsp i hin
      have m1 : Int.tmod ((i : Int) + 1) a.1 = (((i + 1) % a.1.toNat : Nat) : Int) := by
        have : a.1 = (a.1.toNat : Int) := wz
        rw [this]; rfl
      have hz : a.1 ≠ 0 := by omega
      have ek : ((i : Int) + a.1).toNat = i + a.1.toNat := by omega
      have heast : (i + 1) % a.1.toNat ≠ 0 → i + 1 < n := fun he => by
        rcases Nat.lt_or_ge (i + 1) n with h' | h'
        · exact h'
        · exfalso; apply he
          have : i + 1 = a.1.toNat * a.2.1.toNat := by omega
          rw [this]; simp
      have hdv := dv_le a.1.toNat n b i
      (repeat' (first | exact trivial | exact fun h => h | refine And.intro ?_ ?_ | (intro hb; first | (simp at hb; done) | (simp at hb) | skip) | omega | exact rfl | exact Nat.le_refl _ | (show _ + 1 ≤ 4294967296; omega) | (dsimp only; omega) | (show (_ : Int) ≤ (_ : Int); omega) | (show _ < List.length _; simp only [List.length_set, List.length_append, List.length_take]; omega) | (show wantB _ _ = true; simp; done) | (show wantB _ _ = true; simp; omega) | (show (_ : Bool) = _; simp_all; done) | (exfalso; omega) | refine aRegion_auto (by decide +kernel) ?_ | refine ⟨_, _, REnt.drop ⟨rfl, rfl⟩, ?_⟩ | fail))
      refine ⟨Nat × Nat, fun x => ⟨[(0, .fptr RasT a), (7, .fz (.list D2) D), (10, .fz (.list int) (lst n b)), (12, .fz int x.2), (13, .fz int i), (14, .ref 0 0 2), (15, .fz int x.1)], [.row int [(i : Int) + 1, (i : Int) + a.1]]⟩, fun x => x.1 ≤ 2 ∧ (x.1 = 0 → x.2 = (dvs a.1.toNat n b i).length) ∧ (x.1 = 1 → x.2 = (dvs a.1.toNat n b i).length + (dv1 a.1.toNat b i).length) ∧ (x.1 = 2 → x.2 = (dvs a.1.toNat n b (i + 1)).length), fun x => 2 - x.1, (0, (dvs a.1.toNat n b i).length), ⟨Nat.zero_le _, (fun _ => rfl), (fun h => absurd h (show ¬ (0 : Nat) = 1 by omega)), (fun h => absurd h (show ¬ (0 : Nat) = 2 by omega))⟩, Ent.sub rfl ?_, ?_⟩
      · (repeat' (first | exact trivial | exact rfl | refine And.intro ?_ ?_))
      rintro ⟨j, k⟩ ⟨hj, hk0, hk1, hk2⟩
      simp only at hj hk0 hk1 hk2
      obtain rfl | rfl | rfl : j = 0 ∨ j = 1 ∨ j = 2 := by omega
      · have ek0 := hk0 rfl
        clear hk0 hk1 hk2
        show awp _ _ _ ⟨[(0, .fptr RasT a), (7, .fz (.list D2) D), (10, .fz (.list int) (lst n b)), (12, .fz int k), (13, .fz int i), (14, .ref 0 0 2), (15, .fz int ((0 : Nat) : Int))], [.row int [(i : Int) + 1, (i : Int) + a.1]]⟩
        have g0 := hbv i hin
        by_cases he : (i + 1) % a.1.toNat = 0
        · have hm0 : Int.tmod ((i : Int) + 1) a.1 = 0 := by rw [m1, he]; rfl
          have f1 : dv1 a.1.toNat b i = [] := by unfold dv1; rw [if_neg (fun x => x.1 he)]
          (repeat' (first | exact trivial | exact fun h => h | refine And.intro ?_ ?_ | (intro hb; first | (simp at hb; done) | (simp at hb) | skip) | omega | exact rfl | exact Nat.le_refl _ | (show _ + 1 ≤ 4294967296; omega) | (dsimp only; omega) | (show (_ : Int) ≤ (_ : Int); omega) | (show _ < List.length _; simp only [List.length_set, List.length_append, List.length_take]; omega) | (show wantB _ _ = true; simp; done) | (show wantB _ _ = true; simp; omega) | (show (_ : Bool) = _; simp_all; done) | (exfalso; omega) | refine aRegion_auto (by decide +kernel) ?_ | refine ⟨_, _, REnt.drop ⟨rfl, rfl⟩, ?_⟩ | fail))
          all_goals first | (show 0 + Int.toNat _ < List.length _; exact Nat.le_of_ble_eq_true rfl) | (show (0 : Int) ≤ (i : Int) + 1; omega) | (show (i : Int) + 1 < _; omega) | skip
          · refine ⟨(1, k), ⟨Nat.le_of_ble_eq_true rfl, (fun h => absurd h (show ¬ (1 : Nat) = 0 by omega)), (fun _ => by show k = _ + (dv1 a.1.toNat b i).length; rw [f1, ek0]; rfl), (fun h => absurd h (show ¬ (1 : Nat) = 2 by omega))⟩, Nat.le_of_ble_eq_true rfl, Ent.sub rfl ?_⟩
            (repeat' (first | exact trivial | exact rfl | refine And.intro ?_ ?_))
        · have hm0 : Int.tmod ((i : Int) + 1) a.1 ≠ 0 := by rw [m1]; omega
          have hk1 := heast he
          have g1 := hbv (i + 1) hk1
          by_cases hbe : b i = b (i + 1)
          · have f1 : dv1 a.1.toNat b i = [] := by unfold dv1; rw [if_neg (fun x => x.2 hbe)]
            (repeat' (first | exact trivial | exact fun h => h | refine And.intro ?_ ?_ | (intro hb; first | (simp at hb; done) | (simp at hb) | skip) | omega | exact rfl | exact Nat.le_refl _ | (show _ + 1 ≤ 4294967296; omega) | (dsimp only; omega) | (show (_ : Int) ≤ (_ : Int); omega) | (show _ < List.length _; simp only [List.length_set, List.length_append, List.length_take]; omega) | (show wantB _ _ = true; simp; done) | (show wantB _ _ = true; simp; omega) | (show (_ : Bool) = _; simp_all; done) | (exfalso; omega) | refine aRegion_auto (by decide +kernel) ?_ | refine ⟨_, _, REnt.drop ⟨rfl, rfl⟩, ?_⟩ | fail))
            all_goals first | (show 0 + Int.toNat _ < List.length _; exact Nat.le_of_ble_eq_true rfl) | (show (0 : Int) ≤ (i : Int) + 1; omega) | (show (i : Int) + 1 < _; omega) | skip
            · refine ⟨(1, k), ⟨Nat.le_of_ble_eq_true rfl, (fun h => absurd h (show ¬ (1 : Nat) = 0 by omega)), (fun _ => by show k = _ + (dv1 a.1.toNat b i).length; rw [f1, ek0]; rfl), (fun h => absurd h (show ¬ (1 : Nat) = 2 by omega))⟩, Nat.le_of_ble_eq_true rfl, Ent.sub rfl ?_⟩
              (repeat' (first | exact trivial | exact rfl | refine And.intro ?_ ?_))
          · have f1 : dv1 a.1.toNat b i = [pr i (i + 1)] := by unfold dv1; rw [if_pos ⟨he, hbe⟩]
            rw [f1] at hRs hdv
            have hDl : k < D.length := by rw [hRs, ek0]; simp
            have q0 : D[k]?.getD D2.dft = pr i (i + 1) := by rw [hRs, ek0]; exact get_after _ _ _ _
            have c0 : (D[k]?.getD D2.dft)[0]?.getD int.dft = (i : Int) := by rw [q0]; rfl
            have c1 : (D[k]?.getD D2.dft)[1]?.getD int.dft = (i : Int) + 1 := by rw [q0]; rfl
            (repeat' (first | exact trivial | exact fun h => h | refine And.intro ?_ ?_ | (intro hb; first | (simp at hb; done) | (simp at hb) | skip) | omega | exact rfl | exact Nat.le_refl _ | (show _ + 1 ≤ 4294967296; omega) | (dsimp only; omega) | (show (_ : Int) ≤ (_ : Int); omega) | (show _ < List.length _; simp only [List.length_set, List.length_append, List.length_take]; omega) | (show wantB _ _ = true; simp; done) | (show wantB _ _ = true; simp; omega) | (show (_ : Bool) = _; simp_all; done) | (exfalso; omega) | refine aRegion_auto (by decide +kernel) ?_ | refine ⟨_, _, REnt.drop ⟨rfl, rfl⟩, ?_⟩ | fail))
            · exact Nat.le_of_ble_eq_true rfl
            · exact Nat.le_of_ble_eq_true rfl
            · show (0 : Int) ≤ (i : Int) + 1; omega
            · show (i : Int) + 1 < _; omega
            · exact Nat.le_of_ble_eq_true rfl
            · exfalso
              rcases hb with (h | h) | h
              · omega
              · exact h c0
              · exact h c1
            · (repeat' (first | exact trivial | exact fun h => h | refine And.intro ?_ ?_ | (intro hb; first | (simp at hb; done) | (simp at hb) | skip) | omega | exact rfl | exact Nat.le_refl _ | (show _ + 1 ≤ 4294967296; omega) | (dsimp only; omega) | (show (_ : Int) ≤ (_ : Int); omega) | (show _ < List.length _; simp only [List.length_set, List.length_append, List.length_take]; omega) | (show wantB _ _ = true; simp; done) | (show wantB _ _ = true; simp; omega) | (show (_ : Bool) = _; simp_all; done) | (exfalso; omega) | refine aRegion_auto (by decide +kernel) ?_ | refine ⟨_, _, REnt.drop ⟨rfl, rfl⟩, ?_⟩ | fail))
              refine ⟨(1, k + 1), ⟨Nat.le_of_ble_eq_true rfl, (fun h => absurd h (show ¬ (1 : Nat) = 0 by omega)), (fun _ => by show k + 1 = _ + (dv1 a.1.toNat b i).length; rw [f1, ek0]; rfl), (fun h => absurd h (show ¬ (1 : Nat) = 2 by omega))⟩, Nat.le_of_ble_eq_true rfl, Ent.sub rfl ?_⟩
              (repeat' (first | exact trivial | exact rfl | refine And.intro ?_ ?_))
      · have ek0 := hk1 rfl
        clear hk0 hk1 hk2
        show awp _ _ _ ⟨[(0, .fptr RasT a), (7, .fz (.list D2) D), (10, .fz (.list int) (lst n b)), (12, .fz int k), (13, .fz int i), (14, .ref 0 0 2), (15, .fz int ((1 : Nat) : Int))], [.row int [(i : Int) + 1, (i : Int) + a.1]]⟩
        have g0 := hbv i hin
        by_cases hs : i + a.1.toNat < n ∧ b i ≠ b (i + a.1.toNat)
        · have f2 : dv2 a.1.toNat n b i = [pr i (i + a.1.toNat)] := by unfold dv2; rw [if_pos hs]
          rw [f2] at hRs hdv
          have g1 : (lst n b)[((i : Int) + a.1).toNat]?.getD int.dft = b (i + a.1.toNat) := by rw [ek]; exact hbv _ hs.1
          have hss := hs.1
          have hsn := hs.2
          have hDs : D = (dvs a.1.toNat n b i ++ dv1 a.1.toNat b i) ++ (pr i (i + a.1.toNat) :: Rs) := by rw [hRs]; simp
          have ek1 : k = (dvs a.1.toNat n b i ++ dv1 a.1.toNat b i).length := by rw [ek0, List.length_append]
          have hDl : k < D.length := by rw [hDs, ek1]; simp
          have q0 : D[k]?.getD D2.dft = pr i (i + a.1.toNat) := by rw [hDs, ek1]; exact get_after _ _ _ _
          have c0 : (D[k]?.getD D2.dft)[0]?.getD int.dft = (i : Int) := by rw [q0]; rfl
          have c1 : (D[k]?.getD D2.dft)[1]?.getD int.dft = (i : Int) + a.1 := by rw [q0]; show ((i + a.1.toNat : Nat) : Int) = _; omega
          (repeat' (first | exact trivial | exact fun h => h | refine And.intro ?_ ?_ | (intro hb; first | (simp at hb; done) | (simp at hb) | skip) | omega | exact rfl | exact Nat.le_refl _ | (show _ + 1 ≤ 4294967296; omega) | (dsimp only; omega) | (show (_ : Int) ≤ (_ : Int); omega) | (show _ < List.length _; simp only [List.length_set, List.length_append, List.length_take]; omega) | (show wantB _ _ = true; simp; done) | (show wantB _ _ = true; simp; omega) | (show (_ : Bool) = _; simp_all; done) | (exfalso; omega) | refine aRegion_auto (by decide +kernel) ?_ | refine ⟨_, _, REnt.drop ⟨rfl, rfl⟩, ?_⟩ | fail))
          · show (0 : Int) ≤ (i : Int) + a.1; omega
          · show (i : Int) + a.1 < _; omega
          · exfalso
            rcases hb with (h | h) | h
            · omega
            · exact h c0
            · exact h c1
          · (repeat' (first | exact trivial | exact fun h => h | refine And.intro ?_ ?_ | (intro hb; first | (simp at hb; done) | (simp at hb) | skip) | omega | exact rfl | exact Nat.le_refl _ | (show _ + 1 ≤ 4294967296; omega) | (dsimp only; omega) | (show (_ : Int) ≤ (_ : Int); omega) | (show _ < List.length _; simp only [List.length_set, List.length_append, List.length_take]; omega) | (show wantB _ _ = true; simp; done) | (show wantB _ _ = true; simp; omega) | (show (_ : Bool) = _; simp_all; done) | (exfalso; omega) | refine aRegion_auto (by decide +kernel) ?_ | refine ⟨_, _, REnt.drop ⟨rfl, rfl⟩, ?_⟩ | fail))
            refine ⟨(2, k + 1), ⟨Nat.le_of_ble_eq_true rfl, (fun h => absurd h (show ¬ (2 : Nat) = 0 by omega)), (fun h => absurd h (show ¬ (2 : Nat) = 1 by omega)), (fun _ => by show k + 1 = (dvs a.1.toNat n b i ++ (dv1 a.1.toNat b i ++ dv2 a.1.toNat n b i)).length; rw [f2, ek0]; simp; omega)⟩, Nat.le_of_ble_eq_true rfl, Ent.sub rfl ?_⟩
            (repeat' (first | exact trivial | exact rfl | refine And.intro ?_ ?_))
        · have f2 : dv2 a.1.toNat n b i = [] := by unfold dv2; rw [if_neg hs]
          by_cases hss : i + a.1.toNat < n
          · have g1 : (lst n b)[((i : Int) + a.1).toNat]?.getD int.dft = b (i + a.1.toNat) := by rw [ek]; exact hbv _ hss
            have hsn : b i = b (i + a.1.toNat) := Classical.byContradiction fun h => hs ⟨hss, h⟩
            (repeat' (first | exact trivial | exact fun h => h | refine And.intro ?_ ?_ | (intro hb; first | (simp at hb; done) | (simp at hb) | skip) | omega | exact rfl | exact Nat.le_refl _ | (show _ + 1 ≤ 4294967296; omega) | (dsimp only; omega) | (show (_ : Int) ≤ (_ : Int); omega) | (show _ < List.length _; simp only [List.length_set, List.length_append, List.length_take]; omega) | (show wantB _ _ = true; simp; done) | (show wantB _ _ = true; simp; omega) | (show (_ : Bool) = _; simp_all; done) | (exfalso; omega) | refine aRegion_auto (by decide +kernel) ?_ | refine ⟨_, _, REnt.drop ⟨rfl, rfl⟩, ?_⟩ | fail))
            · show (0 : Int) ≤ (i : Int) + a.1; omega
            · show (i : Int) + a.1 < _; omega
            · (repeat' (first | exact trivial | exact fun h => h | refine And.intro ?_ ?_ | (intro hb; first | (simp at hb; done) | (simp at hb) | skip) | omega | exact rfl | exact Nat.le_refl _ | (show _ + 1 ≤ 4294967296; omega) | (dsimp only; omega) | (show (_ : Int) ≤ (_ : Int); omega) | (show _ < List.length _; simp only [List.length_set, List.length_append, List.length_take]; omega) | (show wantB _ _ = true; simp; done) | (show wantB _ _ = true; simp; omega) | (show (_ : Bool) = _; simp_all; done) | (exfalso; omega) | refine aRegion_auto (by decide +kernel) ?_ | refine ⟨_, _, REnt.drop ⟨rfl, rfl⟩, ?_⟩ | fail))
              refine ⟨(2, k), ⟨Nat.le_of_ble_eq_true rfl, (fun h => absurd h (show ¬ (2 : Nat) = 0 by omega)), (fun h => absurd h (show ¬ (2 : Nat) = 1 by omega)), (fun _ => by show k = (dvs a.1.toNat n b i ++ (dv1 a.1.toNat b i ++ dv2 a.1.toNat n b i)).length; rw [f2, ek0]; simp)⟩, Nat.le_of_ble_eq_true rfl, Ent.sub rfl ?_⟩
              (repeat' (first | exact trivial | exact rfl | refine And.intro ?_ ?_))
          · (repeat' (first | exact trivial | exact fun h => h | refine And.intro ?_ ?_ | (intro hb; first | (simp at hb; done) | (simp at hb) | skip) | omega | exact rfl | exact Nat.le_refl _ | (show _ + 1 ≤ 4294967296; omega) | (dsimp only; omega) | (show (_ : Int) ≤ (_ : Int); omega) | (show _ < List.length _; simp only [List.length_set, List.length_append, List.length_take]; omega) | (show wantB _ _ = true; simp; done) | (show wantB _ _ = true; simp; omega) | (show (_ : Bool) = _; simp_all; done) | (exfalso; omega) | refine aRegion_auto (by decide +kernel) ?_ | refine ⟨_, _, REnt.drop ⟨rfl, rfl⟩, ?_⟩ | fail))
            (repeat' (first | exact trivial | exact fun h => h | refine And.intro ?_ ?_ | (intro hb; first | (simp at hb; done) | (simp at hb) | skip) | omega | exact rfl | exact Nat.le_refl _ | (show _ + 1 ≤ 4294967296; omega) | (dsimp only; omega) | (show (_ : Int) ≤ (_ : Int); omega) | (show _ < List.length _; simp only [List.length_set, List.length_append, List.length_take]; omega) | (show wantB _ _ = true; simp; done) | (show wantB _ _ = true; simp; omega) | (show (_ : Bool) = _; simp_all; done) | (exfalso; omega) | refine aRegion_auto (by decide +kernel) ?_ | refine ⟨_, _, REnt.drop ⟨rfl, rfl⟩, ?_⟩ | fail))
            refine ⟨(2, k), ⟨Nat.le_of_ble_eq_true rfl, (fun h => absurd h (show ¬ (2 : Nat) = 0 by omega)), (fun h => absurd h (show ¬ (2 : Nat) = 1 by omega)), (fun _ => by show k = (dvs a.1.toNat n b i ++ (dv1 a.1.toNat b i ++ dv2 a.1.toNat n b i)).length; rw [f2, ek0]; simp)⟩, Nat.le_of_ble_eq_true rfl, Ent.sub rfl ?_⟩
            (repeat' (first | exact trivial | exact rfl | refine And.intro ?_ ?_))
      · obtain rfl := hk2 rfl
        clear hk0 hk1 hk2
        (repeat' (first | exact trivial | exact fun h => h | refine And.intro ?_ ?_ | (intro hb; first | (simp at hb; done) | (simp at hb) | skip) | omega | exact rfl | exact Nat.le_refl _ | (show _ + 1 ≤ 4294967296; omega) | (dsimp only; omega) | (show (_ : Int) ≤ (_ : Int); omega) | (show _ < List.length _; simp only [List.length_set, List.length_append, List.length_take]; omega) | (show wantB _ _ = true; simp; done) | (show wantB _ _ = true; simp; omega) | (show (_ : Bool) = _; simp_all; done) | (exfalso; omega) | refine aRegion_auto (by decide +kernel) ?_ | refine ⟨_, _, REnt.drop ⟨rfl, rfl⟩, ?_⟩ | fail))
        refine ⟨i + 1, by show i + 1 ≤ n; omega, by show n - (i + 1) < n - i; omega, Ent.ren [] rfl trivial ?_⟩
        (repeat' (first | exact trivial | exact rfl | refine And.intro ?_ ?_))
    · have hin : i = n := by omega
      subst hin
      (repeat' (first | exact trivial | exact fun h => h | refine And.intro ?_ ?_ | (intro hb; first | (simp at hb; done) | (simp at hb) | skip) | omega | exact rfl | exact Nat.le_refl _ | (show _ + 1 ≤ 4294967296; omega) | (dsimp only; omega) | (show (_ : Int) ≤ (_ : Int); omega) | (show _ < List.length _; simp only [List.length_set, List.length_append, List.length_take]; omega) | (show wantB _ _ = true; simp; done) | (show wantB _ _ = true; simp; omega) | (show (_ : Bool) = _; simp_all; done) | (exfalso; omega) | refine aRegion_auto (by decide +kernel) ?_ | refine ⟨_, _, REnt.drop ⟨rfl, rfl⟩, ?_⟩ | fail))
      rw [hDD]
      exact kbl hK (by simp)
theorem basinParts_nil {E : Errs} (K : AV → List AO → Prop) (hK : K (.fz .bool true) []) :
    ACall Tryd.prog (G8 E) 5 [.fz .raw (.pointer none)] [] K := by
  refine acall_mk (E := envAt (G8 E) 164 0) (envOk _ _ _) Tryd.func5 rfl rfl rfl rfl rfl ?_
  (repeat' (first | exact trivial | exact fun h => h | refine And.intro ?_ ?_ | (intro hb; first | (simp at hb; done) | (simp at hb) | skip) | omega | exact rfl | exact Nat.le_refl _ | (show _ + 1 ≤ 4294967296; omega) | (dsimp only; omega) | (show (_ : Int) ≤ (_ : Int); omega) | (show _ < List.length _; simp only [List.length_set, List.length_append, List.length_take]; omega) | (show wantB _ _ = true; simp; done) | (show wantB _ _ = true; simp; omega) | (show (_ : Bool) = _; simp_all; done) | (exfalso; omega) | refine aRegion_auto (by decide +kernel) ?_ | refine ⟨_, _, REnt.drop ⟨rfl, rfl⟩, ?_⟩ | fail))
  refine acall_frame0 rfl (based_any E _ ?_)
  (repeat' (first | exact trivial | exact fun h => h | refine And.intro ?_ ?_ | (intro hb; first | (simp at hb; done) | (simp at hb) | skip) | omega | exact rfl | exact Nat.le_refl _ | (show _ + 1 ≤ 4294967296; omega) | (dsimp only; omega) | (show (_ : Int) ≤ (_ : Int); omega) | (show _ < List.length _; simp only [List.length_set, List.length_append, List.length_take]; omega) | (show wantB _ _ = true; simp; done) | (show wantB _ _ = true; simp; omega) | (show (_ : Bool) = _; simp_all; done) | (exfalso; omega) | refine aRegion_auto (by decide +kernel) ?_ | refine ⟨_, _, REnt.drop ⟨rfl, rfl⟩, ?_⟩ | fail))
  refine acall_frame0 rfl (small80_nil _ _ ?_)
  (repeat' (first | exact trivial | exact fun h => h | refine And.intro ?_ ?_ | (intro hb; first | (simp at hb; done) | (simp at hb) | skip) | omega | exact rfl | exact Nat.le_refl _ | (show _ + 1 ≤ 4294967296; omega) | (dsimp only; omega) | (show (_ : Int) ≤ (_ : Int); omega) | (show _ < List.length _; simp only [List.length_set, List.length_append, List.length_take]; omega) | (show wantB _ _ = true; simp; done) | (show wantB _ _ = true; simp; omega) | (show (_ : Bool) = _; simp_all; done) | (exfalso; omega) | refine aRegion_auto (by decide +kernel) ?_ | refine ⟨_, _, REnt.drop ⟨rfl, rfl⟩, ?_⟩ | fail))
  exact hK
end Go.Proofs.YtepkknjncpbahaaDoor
/-
  What the laid variables give: eight errors, all different, and the handle of type error.
-/
namespace Go.Proofs.YtepkknjncpbahaaDoor
open Go Go.Ab Go.RowKit Go.ChangeShapes
set_option maxRecDepth 100000
theorem star : "*" ++ "errors.errorString" = "*errors.errorString" := by decide
theorem names_at (u : TypeId) (h : Tryd.prog.typeName? 3 u = some "*errors.errorString") : u = 171 :=
  typeName_ptr_named (nm := "errors.errorString") (by rw [star]; kernel_rfl) (by kernel_rfl) (by decide) u (by rw [star]; exact h)
theorem cells_es : Tryd.prog.cellsOf 194 = 1 := by kernel_rfl
theorem cells_str : Tryd.prog.cellsOf 9 = 1 := by kernel_rfl
theorem glob_ty (g : Nat) (hg : g ∈ [2, 3, 0, 1, 4, 5, 6, 7]) :
    ∃ ti ms, (Tryd.prog.globals[g]?).map (·.type) = some ti ∧ Tryd.prog.underlying ti = some (.interface ms) := by
  have : ([2, 3, 0, 1, 4, 5, 6, 7].all fun g => (Tryd.prog.globals[g]?).map (·.type) == some 30) = true := by kernel_rfl
  exact ⟨30, _, by simpa using List.all_eq_true.1 this g hg, Tryd.underlying30⟩
theorem et_at : Tryd.prog.globalNamed "errors.errorType" = some 8 := by kernel_rfl
theorem rt_at : (Tryd.prog.cutTypes.find? (·.1 == "internal/reflectlite.rtype")).map (·.2) = some 138 := by kernel_rfl
theorem one_row : ((List.range Tryd.prog.types.size).filter fun t => Tryd.prog.rowNamed t [101, 114, 114, 111, 114]) = [30] := by kernel_rfl
/-- of a list of the eight errors and the handle -/
theorem globs8 {W : World} {l : List (String × DataW Unit)} {x1 x2 x3 x4 x5 x6 x7 x8 : List UInt8} (h : laidMetH Tryd.prog l W)
    (hl : (l.filter fun x => x.2.handleName?.isNone) = [("mercator/api.ErrText", errD x1), ("mercator/api.ErrBound", errD x2), ("mercator/api.ErrShape", errD x3), ("mercator/api.ErrRange", errD x4), ("mercator/api.ErrName", errD x5), ("mercator/api.ErrNone", errD x6), ("mercator/api.ErrOrder", errD x7), ("mercator/api.ErrFile", errD x8)])
    (hh : (l.filter fun x => x.2.handleName?.isSome) = [("errors.errorType", .iface "internal/reflectlite.rtype" (.agg [.ptr (.lit (.string [101, 114, 114, 111, 114]))]))]) :
    ∃ E : Errs, (EL E).Nodup ∧ ∀ g v, gk (G8 E) g = some v → Glo0 W g v := by
  obtain ⟨h1, h2⟩ := laidMetH_iff.1 h
  rw [hl] at h1
  rw [hh] at h2
  obtain ⟨ps, hv, hn, hall⟩ := h1
  obtain ⟨al, k1, k2, k3, _⟩ := laid_errs names_at Tryd.underlying171 Tryd.underlying194 rfl rfl Tryd.underlying9 cells_es cells_str
    [("mercator/api.ErrText", x1), ("mercator/api.ErrBound", x2), ("mercator/api.ErrShape", x3), ("mercator/api.ErrRange", x4), ("mercator/api.ErrName", x5), ("mercator/api.ErrNone", x6), ("mercator/api.ErrOrder", x7), ("mercator/api.ErrFile", x8)]
    [2, 3, 0, 1, 4, 5, 6, 7] ps hv hn hall (by kernel_rfl) glob_ty
  obtain ⟨a1, a2, a3, a4, a5, a6, a7, a8, rfl⟩ : ∃ a1 a2 a3 a4 a5 a6 a7 a8, al = [a1, a2, a3, a4, a5, a6, a7, a8] := by
    match al, k1 with
    | [a1, a2, a3, a4, a5, a6, a7, a8], _ => exact ⟨a1, a2, a3, a4, a5, a6, a7, a8, rfl⟩
  have hE : Glo0 W 8 asK.errType := by
    obtain ⟨name, u, ty, e1, e2, e3, e4, e5⟩ := h2 _ (List.mem_singleton.2 rfl)
    have en : name = [101, 114, 114, 111, 114] := (Option.some.inj e1).symm
    subst en
    obtain rfl := Option.some.inj (rt_at.symm.trans e2)
    have hm : ty ∈ (List.range Tryd.prog.types.size).filter fun t => Tryd.prog.rowNamed t [101, 114, 114, 111, 114] := List.mem_filter.2 ⟨List.mem_range.2 e3, e4⟩
    rw [one_row] at hm
    obtain rfl := List.mem_singleton.1 hm
    have hh : typeHandle Tryd.prog 30 = .pointer (some ⟨9, 30, none⟩) := by kernel_rfl
    rw [hh] at e5
    exact ⟨by simpa [asK.errType] using World.var?_cell et_at e5 0, rfl, fun T a e => by cases e⟩
  refine ⟨⟨a1, a2, a3, a4, a5, a6, a7, a8⟩, k2, fun g v hg => ?_⟩
  unfold G8 gk at hg
  split at hg
  · rename_i e; subst e; cases hg; exact k3 2 _ _ rfl rfl
  unfold gk at hg
  split at hg
  · rename_i e; subst e; cases hg; exact k3 3 _ _ rfl rfl
  unfold gk at hg
  split at hg
  · rename_i e; subst e; cases hg; exact k3 1 _ _ rfl rfl
  unfold gk at hg
  split at hg
  · rename_i e; subst e; cases hg; exact k3 0 _ _ rfl rfl
  unfold gk at hg
  split at hg
  · rename_i e; subst e; cases hg; exact k3 4 _ _ rfl rfl
  unfold gk at hg
  split at hg
  · rename_i e; subst e; cases hg; exact k3 5 _ _ rfl rfl
  unfold gk at hg
  split at hg
  · rename_i e; subst e; cases hg; exact k3 6 _ _ rfl rfl
  unfold gk at hg
  split at hg
  · rename_i e; subst e; cases hg; exact k3 7 _ _ rfl rfl
  unfold gk at hg
  split at hg
  · rename_i e; subst e; cases hg; exact hE
  · cases hg
end Go.Proofs.YtepkknjncpbahaaDoor
/-
  Arguments read again behind a call that leaves old memory alone; a slice of points opened.
-/
namespace Go.Proofs.YtepkknjncpbahaaDoor
open Go Go.ChangeShapes Go.WideShapes Go.ChangeAt Go.RowKit
theorem trodAll_below {H : Type} {enc : TypeId × Value → H} {P : Program} (hl : laidOutB P = true) {W W' : World} (hb : Below W.heap.size W W') :
    ∀ (ts : List TypeId) (vs : List Value) (ds : List (DataW H)) (ps : List MemPlace), (∀ t ∈ ts, P.readableRec t = true ∧ t < P.types.size) →
      DataW.TrodAll enc P W 0 (fun _ => true) true ts vs ds ps → (∀ x ∈ ps, x.block < W.heap.size) →
      DataW.TrodAll enc P W' 0 (fun b => decide (b < W.heap.size)) true ts vs ds ps
  | [], [], [], ps, _, h, _ => h
  | [], [], _ :: _, _, _, h, _ => h.elim
  | [], _ :: _, _, _, _, h, _ => h.elim
  | _ :: _, [], _, _, _, h, _ => h.elim
  | _ :: _, _ :: _, [], _, _, h, _ => h.elim
  | t :: ts, v :: vs, d :: ds, ps, hr, h, hlt => by
    obtain ⟨p, q, h1, h2, rfl⟩ := h
    refine ⟨p, q, Below.trod hl (hr t (List.mem_cons_self ..)).1 (hr t (List.mem_cons_self ..)).2 h1 hb (fun x hx => hlt x (List.mem_append.2 (.inl hx))), ?_, rfl⟩
    exact trodAll_below hl hb ts vs ds q (fun t ht => hr t (List.mem_cons_of_mem _ ht)) h2 (fun x hx => hlt x (List.mem_append.2 (.inr hx)))
end Go.Proofs.YtepkknjncpbahaaDoor
