/-
  Logs: both.
-/
import Derived.Test.YtiflieijbmaocaaDoorM6
import Derived.LaidHandle
import Derived.LaidSub
namespace Go.Proofs.YtiflieijbmaocaaDoor
open Go Go.Ab Go.RowKit
set_option maxRecDepth 100000
open Dk
theorem lgL_len (l : List E) (k : Nat) (hk : k ≤ l.length) (hb : ∀ x ∈ l, x.2.2.2.size ≤ 20) : (lgL (l.take k)).1.length ≤ 46 * k := by
  induction k with
  | zero => simp [lgL]
  | succ k ih =>
    rw [lgL_next l k hk]
    unfold lgS
    have := ih (by omega)
    have h2 := hb l[k] (List.getElem_mem _)
    simp only [List.length_append, edB_len, List.length_singleton]
    omega
set_option maxHeartbeats 16000000 in
theorem log_any (G : List (Nat × Value)) (W H : Nat) (f now : List Int) (tl : List Tl) (L ad : List E) (cnt : Int) (ha : ad.length ≤ 10000) (hb : ∀ x ∈ ad, x.2.2.2.size ≤ 20) (K : AV → List AO → Prop) (hK : K (.ref 5 0 (lgL ad).1.length) (dkA W H f now tl L ad cnt ++ [.row U8 (lgL ad).1])) :
    ACall Tryd.prog G 9 [.ptr 0 0] (dkA W H f now tl L ad cnt) K := by
  refine acall_mk (E := envCut G 47 5 [8]) (envCutOk _ _ _ _) Tryd.func9 rfl rfl rfl rfl rfl ?_
  (repeat' (first | exact trivial | exact fun h => h | refine And.intro ?_ ?_ | (intro hb; first | (simp at hb; done) | (simp at hb) | skip) | omega | exact rfl | exact Nat.le_refl _ | (show _ + 1 ≤ 4294967296; omega) | (dsimp only; omega) | (show (_ : Int) ≤ (_ : Int); omega) | (show _ < List.length _; simp only [List.length_set, List.length_append, List.length_take]; omega) | (show wantB _ _ = true; simp; done) | (show wantB _ _ = true; simp; omega) | (show (_ : Bool) = _; simp_all; done) | (exfalso; omega) | refine aRegion_auto (by decide +kernel) ?_ | fail))
  refine ⟨Nat, fun k => ⟨[(3, .ref 5 0 (lgL (ad.take k)).1.length), (4, .fz U8 (lgL (ad.take k)).2), (11, .ref 4 0 ad.length), (12, .fz int ad.length), (13, .fz int k)], dkA W H f now tl L ad cnt ++ [.row U8 (lgL (ad.take k)).1]⟩, fun k => k ≤ ad.length, fun k => ad.length - k, 0, Nat.zero_le _, (Ent.nil 3 U8 rfl).trans (Ent.sub rfl ?_), ?_⟩
  · (repeat' (first | exact trivial | exact rfl | refine And.intro ?_ ?_))
  intro k hk
  have hk : k ≤ ad.length := hk
  have hol := lgL_len ad k hk hb
  have hlr := lgL_in (ad.take k)
  obtain ⟨t, et⟩ : ∃ t, t = lgL (ad.take k) := ⟨_, rfl⟩
  show awp _ _ _ ⟨[(3, .ref 5 0 (lgL (ad.take k)).1.length), (4, .fz U8 (lgL (ad.take k)).2), (11, .ref 4 0 ad.length), (12, .fz int ad.length), (13, .fz int k)], dkA W H f now tl L ad cnt ++ [.row U8 (lgL (ad.take k)).1]⟩
  rw [← et] at hol hlr
  rw [← et]
  obtain ⟨o, s⟩ := t
  have hol : o.length ≤ 46 * k := hol
  show awp _ _ _ ⟨[(3, .ref 5 0 o.length), (4, .fz U8 s), (11, .ref 4 0 ad.length), (12, .fz int ad.length), (13, .fz int k)], dkA W H f now tl L ad cnt ++ [.row U8 o]⟩
  by_cases hk2 : k < ad.length
  · have ge : ad.getD (0 + Int.toNat (k : Int)) EdT.dft = ad[k] := by simp [List.getD, hk2]
    have hbs := hb ad[k] (List.getElem_mem _)
    obtain ⟨e, ee⟩ : ∃ e, e = ad[k] := ⟨_, rfl⟩
    have hnx := lgL_next ad k hk2
    rw [← et, ← ee] at hnx
    rw [← ee] at ge hbs
    (repeat' (first | exact trivial | exact fun h => h | refine And.intro ?_ ?_ | (intro hb; first | (simp at hb; done) | (simp at hb) | skip) | omega | exact rfl | exact Nat.le_refl _ | (show _ + 1 ≤ 4294967296; omega) | (dsimp only; omega) | (show (_ : Int) ≤ (_ : Int); omega) | (show _ < List.length _; simp only [List.length_set, List.length_append, List.length_take]; omega) | (show wantB _ _ = true; simp; done) | (show wantB _ _ = true; simp; omega) | (show (_ : Bool) = _; simp_all; done) | (exfalso; omega) | refine aRegion_auto (by decide +kernel) ?_ | fail))
    rw [ge]
    (repeat' (first | exact trivial | exact fun h => h | refine And.intro ?_ ?_ | (intro hb; first | (simp at hb; done) | (simp at hb) | skip) | omega | exact rfl | exact Nat.le_refl _ | (show _ + 1 ≤ 4294967296; omega) | (dsimp only; omega) | (show (_ : Int) ≤ (_ : Int); omega) | (show _ < List.length _; simp only [List.length_set, List.length_append, List.length_take]; omega) | (show wantB _ _ = true; simp; done) | (show wantB _ _ = true; simp; omega) | (show (_ : Bool) = _; simp_all; done) | (exfalso; omega) | refine aRegion_auto (by decide +kernel) ?_ | fail))
    obtain ⟨c1, ec1⟩ : ∃ c, c = le8 (u64 e.1) 8 := ⟨_, rfl⟩
    obtain ⟨c2, ec2⟩ : ∃ c, c = c1 ++ le8 (u64 e.2.1) 8 := ⟨_, rfl⟩
    obtain ⟨c3, ec3⟩ : ∃ c, c = c2 ++ le8 (u64 e.2.2.1) 8 := ⟨_, rfl⟩
    have l1 : c1.length = 8 := by rw [ec1, le8_len]
    have l2 : c2.length = 16 := by rw [ec2, List.length_append, le8_len, l1]
    have l3 : c3.length = 24 := by rw [ec3, List.length_append, le8_len, l2]
    obtain ⟨w, ew⟩ : ∃ w, w = IntKind.u8.wrap ((e.2.2.2.size : Nat) : Int) := ⟨_, rfl⟩
    let be : AO := .box [.fz int e.1, .fz int e.2.1, .fz int e.2.2.1, .fz .str e.2.2.2]
    let B : List AO := dkA W H f now tl L ad cnt ++ [.row U8 o, be]
    let R1 : AO := .row U8 c1
    let R2 : AO := .row U8 c2
    let R3 : AO := .row U8 c3
    let RB : AO := .row U8 [w]
    let RA : AO := .row U8 (c3 ++ [w])
    refine aRegion_open 1 (by decide +kernel) ?_
    (repeat' (first | exact trivial | exact fun h => h | refine And.intro ?_ ?_ | (intro hb; first | (simp at hb; done) | (simp at hb) | skip) | omega | exact rfl | exact Nat.le_refl _ | (show _ + 1 ≤ 4294967296; omega) | (dsimp only; omega) | (show (_ : Int) ≤ (_ : Int); omega) | (show _ < List.length _; simp only [List.length_set, List.length_append, List.length_take]; omega) | (show wantB _ _ = true; simp; done) | (show wantB _ _ = true; simp; omega) | (show (_ : Bool) = _; simp_all; done) | (exfalso; omega) | refine aRegion_auto (by decide +kernel) ?_ | fail))
    refine eff_is (.ref 8 0 8) (B ++ [.room, R1]) ?_
    (repeat' (first | exact trivial | exact fun h => h | refine And.intro ?_ ?_ | (intro hb; first | (simp at hb; done) | (simp at hb) | skip) | omega | exact rfl | exact Nat.le_refl _ | (show _ + 1 ≤ 4294967296; omega) | (dsimp only; omega) | (show (_ : Int) ≤ (_ : Int); omega) | (show _ < List.length _; simp only [List.length_set, List.length_append, List.length_take]; omega) | (show wantB _ _ = true; simp; done) | (show wantB _ _ = true; simp; omega) | (show (_ : Bool) = _; simp_all; done) | (exfalso; omega) | refine aRegion_auto (by decide +kernel) ?_ | fail))
    refine eff_is (.ref 9 0 16) (B ++ [.room, .dead, R2]) ?_
    (repeat' (first | exact trivial | exact fun h => h | refine And.intro ?_ ?_ | (intro hb; first | (simp at hb; done) | (simp at hb) | skip) | omega | exact rfl | exact Nat.le_refl _ | (show _ + 1 ≤ 4294967296; omega) | (dsimp only; omega) | (show (_ : Int) ≤ (_ : Int); omega) | (show _ < List.length _; simp only [List.length_set, List.length_append, List.length_take]; omega) | (show wantB _ _ = true; simp; done) | (show wantB _ _ = true; simp; omega) | (show (_ : Bool) = _; simp_all; done) | (exfalso; omega) | refine aRegion_auto (by decide +kernel) ?_ | fail))
    refine eff_is (.ref 10 0 24) (B ++ [.room, .dead, .dead, R3]) ?_
    (repeat' (first | exact trivial | exact fun h => h | refine And.intro ?_ ?_ | (intro hb; first | (simp at hb; done) | (simp at hb) | skip) | omega | exact rfl | exact Nat.le_refl _ | (show _ + 1 ≤ 4294967296; omega) | (dsimp only; omega) | (show (_ : Int) ≤ (_ : Int); omega) | (show _ < List.length _; simp only [List.length_set, List.length_append, List.length_take]; omega) | (show wantB _ _ = true; simp; done) | (show wantB _ _ = true; simp; omega) | (show (_ : Bool) = _; simp_all; done) | (exfalso; omega) | refine aRegion_auto (by decide +kernel) ?_ | fail))
    refine eff_is (.ref 7 0 1) (B ++ [RB, .dead, .dead, R3]) ?_
    (repeat' (first | exact trivial | exact fun h => h | refine And.intro ?_ ?_ | (intro hb; first | (simp at hb; done) | (simp at hb) | skip) | omega | exact rfl | exact Nat.le_refl _ | (show _ + 1 ≤ 4294967296; omega) | (dsimp only; omega) | (show (_ : Int) ≤ (_ : Int); omega) | (show _ < List.length _; simp only [List.length_set, List.length_append, List.length_take]; omega) | (show wantB _ _ = true; simp; done) | (show wantB _ _ = true; simp; omega) | (show (_ : Bool) = _; simp_all; done) | (exfalso; omega) | refine aRegion_auto (by decide +kernel) ?_ | fail))
    refine eff_is (.ref 11 0 25) (B ++ [RB, .dead, .dead, .dead, RA]) ?_
    refine ⟨[(0, B ++ [.room]), (4, B ++ [.room, R1]), (8192, B ++ [RB]), (36, B ++ [.room, .dead, R2]), (8196, B ++ [RB, R1]), (292, B ++ [.room, .dead, .dead, R3]), (8228, B ++ [RB, .dead, R2]), (8484, B ++ [RB, .dead, .dead, R3]), (24868, B ++ [RB, .dead, .dead, .dead, RA])], rfl, rfl, ?_, ?_⟩
    · (repeat' (first | refine And.intro ?_ ?_ | exact trivial | exact rfl | omega))
      · refine acall_frame0 rfl (put8_nil _ e.1 _ ?_)
        rw [← ec1]
        refine view_of [0, 1, 2, 3, 4, 5, 6, 7, 8] rfl ?_ rfl rfl
        (repeat' (first | exact trivial | exact rfl | refine And.intro ?_ ?_))
      · refine view_of [0, 1, 2, 3, 4, 5, 6, 8] rfl ?_ rfl rfl
        (repeat' (first | exact trivial | exact rfl | refine And.intro ?_ ?_))
        exact congrArg (fun z => some (AO.row U8 [z])) ew.symm
      · refine acall_frame [8] [.row U8 c1] [.ref 0 0 8, .fz int e.2.1] rfl ⟨⟨rfl, trivial⟩, trivial⟩ ⟨rfl, rfl⟩ rfl (put8_ref _ c1 8 l1 (by omega) e.2.1 _ ?_)
        rw [← ec2]
        refine view_of [0, 1, 2, 3, 4, 5, 6, 7, 8, 9] rfl ?_ rfl rfl
        (repeat' (first | exact trivial | exact rfl | refine And.intro ?_ ?_))
      · refine view_of [0, 1, 2, 3, 4, 5, 6, 9, 8] rfl ?_ rfl rfl
        (repeat' (first | exact trivial | exact rfl | refine And.intro ?_ ?_))
        exact congrArg (fun z => some (AO.row U8 [z])) ew.symm
      · refine acall_frame0 rfl (put8_nil _ e.1 _ ?_)
        rw [← ec1]
        refine view_of [0, 1, 2, 3, 4, 5, 6, 7, 8] rfl ?_ rfl rfl
        (repeat' (first | exact trivial | exact rfl | refine And.intro ?_ ?_))
      · refine acall_frame [9] [.row U8 c2] [.ref 0 0 16, .fz int e.2.2.1] rfl ⟨⟨rfl, trivial⟩, trivial⟩ ⟨rfl, rfl⟩ rfl (put8_ref _ c2 16 l2 (by omega) e.2.2.1 _ ?_)
        rw [← ec3]
        refine view_of [0, 1, 2, 3, 4, 5, 6, 7, 8, 9, 10] rfl ?_ rfl rfl
        (repeat' (first | exact trivial | exact rfl | refine And.intro ?_ ?_))
      · refine view_of [0, 1, 2, 3, 4, 5, 6, 10, 8, 9] rfl ?_ rfl rfl
        (repeat' (first | exact trivial | exact rfl | refine And.intro ?_ ?_))
        exact congrArg (fun z => some (AO.row U8 [z])) ew.symm
      · refine acall_frame [8] [.row U8 c1] [.ref 0 0 8, .fz int e.2.1] rfl ⟨⟨rfl, trivial⟩, trivial⟩ ⟨rfl, rfl⟩ rfl (put8_ref _ c1 8 l1 (by omega) e.2.1 _ ?_)
        rw [← ec2]
        refine view_of [0, 1, 2, 3, 4, 5, 6, 7, 8, 9] rfl ?_ rfl rfl
        (repeat' (first | exact trivial | exact rfl | refine And.intro ?_ ?_))
      · refine view_of [0, 1, 2, 3, 4, 5, 6, 11, 8, 9, 10] rfl ?_ rfl rfl
        (repeat' (first | exact trivial | exact rfl | refine And.intro ?_ ?_))
        exact congrArg (fun z => some (AO.row U8 [z])) ew.symm
      · refine acall_frame [9] [.row U8 c2] [.ref 0 0 16, .fz int e.2.2.1] rfl ⟨⟨rfl, trivial⟩, trivial⟩ ⟨rfl, rfl⟩ rfl (put8_ref _ c2 16 l2 (by omega) e.2.2.1 _ ?_)
        rw [← ec3]
        refine view_of [0, 1, 2, 3, 4, 5, 6, 7, 8, 9, 10] rfl ?_ rfl rfl
        (repeat' (first | exact trivial | exact rfl | refine And.intro ?_ ?_))
      · exact (show 0 + 1 ≤ [w].length from Nat.le_refl _)
      · exact (show 24 + 1 ≤ 4294967296 by decide)
      · refine view_of [0, 1, 2, 3, 4, 5, 6, 7, 8, 9, 10, 11] rfl ?_ rfl rfl
        (repeat' (first | exact trivial | exact rfl | refine And.intro ?_ ?_))
        exact congrArg (fun z => some (AO.row U8 (z ++ [w]))) (List.take_of_length_le (by omega))
    have lA : (c3 ++ [w]).length = 25 := by rw [List.length_append, l3]; rfl
    have tA : List.take 25 (c3 ++ [w]) = c3 ++ [w] := List.take_of_length_le (by omega)
    have lb := bytesI_len e.2.2.2
    have eb : List.take 25 (c3 ++ [w]) ++ bytesI e.2.2.2 = edB e := by
      rw [tA, ec3, ec2, ec1, ew, u8_eq]; rfl
    have leb := edB_len e
    obtain ⟨m, em⟩ : ∃ m, m = (edB e).length := ⟨_, rfl⟩
    have hm : 25 + (bytesI e.2.2.2).length = m := by omega
    have tm : List.take m (List.drop 0 (edB e)) = edB e := List.take_of_length_le (by show (edB e).length ≤ m; omega)
    have ltm : (List.take m (List.drop 0 (edB e))).length = m := by rw [tm]; exact em.symm
    (repeat' (first | exact trivial | exact fun h => h | refine And.intro ?_ ?_ | (intro hb; first | (simp at hb; done) | (simp at hb) | skip) | omega | exact rfl | exact Nat.le_refl _ | (show _ + 1 ≤ 4294967296; omega) | (dsimp only; omega) | (show (_ : Int) ≤ (_ : Int); omega) | (show _ < List.length _; simp only [List.length_set, List.length_append, List.length_take]; omega) | (show wantB _ _ = true; simp; done) | (show wantB _ _ = true; simp; omega) | (show (_ : Bool) = _; simp_all; done) | (exfalso; omega) | refine aRegion_auto (by decide +kernel) ?_ | fail))
    refine ⟨[(3, .ref 5 0 o.length), (4, .fz U8 s), (7, .ref 6 0 m), (11, .ref 4 0 ad.length), (12, .fz int ad.length), (13, .fz int k)], dkA W H f now tl L ad cnt ++ [.row U8 o, .row U8 (edB e)], Ent.ren [0, 1, 2, 3, 4, 5, 12] rfl ?_ ?_, ?_⟩
    · (repeat' (first | exact trivial | exact rfl | refine And.intro ?_ ?_))
      exact congrArg (fun z => some (AO.row U8 z)) eb
    · (repeat' (first | exact trivial | exact rfl | refine And.intro ?_ ?_))
      exact congrArg (AV.ref 12 0) hm
    (repeat' (first | exact trivial | exact fun h => h | refine And.intro ?_ ?_ | (intro hb; first | (simp at hb; done) | (simp at hb) | skip) | omega | exact rfl | exact Nat.le_refl _ | (show _ + 1 ≤ 4294967296; omega) | (dsimp only; omega) | (show (_ : Int) ≤ (_ : Int); omega) | (show _ < List.length _; simp only [List.length_set, List.length_append, List.length_take]; omega) | (show wantB _ _ = true; simp; done) | (show wantB _ _ = true; simp; omega) | (show (_ : Bool) = _; simp_all; done) | (exfalso; omega) | refine aRegion_auto (by decide +kernel) ?_ | fail))
    refine acall_lend [.keep, .dat LB] _ _ _ rfl ?_ rfl ?_
    · (repeat' (first | exact trivial | refine And.intro ?_ ?_ | (show _ ≤ _; omega) | (show _ ≤ _; simp; done)))
    refine acall_arg (summed_any G s (edB e) (by omega) _ ?_) (congrArg (fun z => [AV.fz U8 s, AV.fz LB z]) tm.symm)
    refine And.intro rfl ?_
    obtain ⟨s2, es2⟩ : ∃ z, z = sumB s (edB e) := ⟨_, rfl⟩
    rw [← es2]
    have lo : (List.take o.length o ++ List.take m (List.drop 0 (edB e))).length = o.length + m := by rw [List.length_append, ltm, List.take_length]
    (repeat' (first | exact trivial | exact fun h => h | refine And.intro ?_ ?_ | (intro hb; first | (simp at hb; done) | (simp at hb) | skip) | omega | exact rfl | exact Nat.le_refl _ | (show _ + 1 ≤ 4294967296; omega) | (dsimp only; omega) | (show (_ : Int) ≤ (_ : Int); omega) | (show _ < List.length _; simp only [List.length_set, List.length_append, List.length_take]; omega) | (show wantB _ _ = true; simp; done) | (show wantB _ _ = true; simp; omega) | (show (_ : Bool) = _; simp_all; done) | (exfalso; omega) | refine aRegion_auto (by decide +kernel) ?_ | fail))
    · show o.length + (List.take m (List.drop 0 (edB e))).length + 1 ≤ 4294967296
      rw [ltm]; omega
    refine ⟨k + 1, by show k + 1 ≤ ad.length; omega, by show ad.length - (k + 1) < ad.length - k; omega, ?_⟩
    show Ent _ _ ⟨[(3, .ref 5 0 (lgL (ad.take (k + 1))).1.length), (4, .fz U8 (lgL (ad.take (k + 1))).2), (11, .ref 4 0 ad.length), (12, .fz int ad.length), (13, .fz int ((k : Int) + 1))], dkA W H f now tl L ad cnt ++ [.row U8 (lgL (ad.take (k + 1))).1]⟩
    have hn1 : (lgL (ad.take (k + 1))).1 = o ++ edB e ++ [s2] := by rw [hnx, es2]; rfl
    have hn2 : (lgL (ad.take (k + 1))).2 = s2 := by rw [hnx, es2]; rfl
    rw [hn1, hn2]
    refine Ent.ren [0, 1, 2, 3, 4, 9] rfl ?_ ?_
    · (repeat' (first | exact trivial | exact rfl | refine And.intro ?_ ?_))
      refine congrArg (fun z => some (AO.row U8 z)) (?_ : List.take (o.length + (List.take m (List.drop 0 (edB e))).length) (List.take o.length o ++ List.take m (List.drop 0 (edB e))) ++ [s2] = o ++ edB e ++ [s2])
      rw [List.take_of_length_le (by rw [lo, ltm]; exact Nat.le_refl _), tm, List.take_length]
    · (repeat' (first | exact trivial | exact rfl | refine And.intro ?_ ?_))
      refine congrArg (AV.ref 9 0) (?_ : o.length + (List.take m (List.drop 0 (edB e))).length + 1 = (o ++ edB e ++ [s2]).length)
      rw [tm, List.length_append, List.length_append]; rfl
  · have hk3 : k = ad.length := by omega
    subst hk3
    rw [List.take_length] at et
    rw [← et] at hK
    (repeat' (first | exact trivial | exact fun h => h | refine And.intro ?_ ?_ | (intro hb; first | (simp at hb; done) | (simp at hb) | skip) | omega | exact rfl | exact Nat.le_refl _ | (show _ + 1 ≤ 4294967296; omega) | (dsimp only; omega) | (show (_ : Int) ≤ (_ : Int); omega) | (show _ < List.length _; simp only [List.length_set, List.length_append, List.length_take]; omega) | (show wantB _ _ = true; simp; done) | (show wantB _ _ = true; simp; omega) | (show (_ : Bool) = _; simp_all; done) | (exfalso; omega) | refine aRegion_auto (by decide +kernel) ?_ | fail))
    exact ⟨_, _, REnt.refl _ _ _, hK⟩
end Go.Proofs.YtiflieijbmaocaaDoor
/-
  Logs: the document's.
-/
namespace Go.Proofs.YtiflieijbmaocaaDoor
open Go Go.Ab Go.RowKit
set_option maxRecDepth 100000
open Dk
set_option maxHeartbeats 16000000 in
theorem logOf_any (G : List (Nat × Value)) (l : List E) (ha : l.length ≤ 10000) (hb : ∀ x ∈ l, x.2.2.2.size ≤ 20) (K : AV → List AO → Prop) (hK : K (.ref 0 0 (lgL l).1.length) [.row U8 (lgL l).1]) :
    ACall Tryd.prog G 10 [.fz (.list EdT) l] [] K := by
  refine acall_mk (E := envCut G 80 0 [12]) (envCutOk _ _ _ _) Tryd.func10 rfl rfl rfl rfl rfl ?_
  (repeat' (first | exact trivial | exact fun h => h | refine And.intro ?_ ?_ | (intro hb; first | (simp at hb; done) | (simp at hb) | skip) | omega | exact rfl | exact Nat.le_refl _ | (show _ + 1 ≤ 4294967296; omega) | (dsimp only; omega) | (show (_ : Int) ≤ (_ : Int); omega) | (show _ < List.length _; simp only [List.length_set, List.length_append, List.length_take]; omega) | (show wantB _ _ = true; simp; done) | (show wantB _ _ = true; simp; omega) | (show (_ : Bool) = _; simp_all; done) | (exfalso; omega) | refine aRegion_auto (by decide +kernel) ?_ | fail))
  refine ⟨Nat, fun k => ⟨[(0, .fz (.list EdT) l), (3, .ref 0 0 (lgL (l.take k)).1.length), (4, .fz int (lgL (l.take k)).2), (5, .fz int k)], [.row U8 (lgL (l.take k)).1]⟩, fun k => k ≤ l.length, fun k => l.length - k, 0, Nat.zero_le _, (Ent.nil 3 U8 rfl).trans (Ent.sub rfl ?_), ?_⟩
  · (repeat' (first | exact trivial | exact rfl | refine And.intro ?_ ?_))
  intro k hk
  have hk : k ≤ l.length := hk
  have hol := lgL_len l k hk hb
  have hlr := lgL_in (l.take k)
  obtain ⟨t, et⟩ : ∃ t, t = lgL (l.take k) := ⟨_, rfl⟩
  show awp _ _ _ ⟨[(0, .fz (.list EdT) l), (3, .ref 0 0 (lgL (l.take k)).1.length), (4, .fz int (lgL (l.take k)).2), (5, .fz int k)], [.row U8 (lgL (l.take k)).1]⟩
  rw [← et] at hol hlr
  rw [← et]
  obtain ⟨o, s⟩ := t
  have hol : o.length ≤ 46 * k := hol
  have hlr : 0 ≤ s ∧ s < 256 := hlr
  show awp _ _ _ ⟨[(0, .fz (.list EdT) l), (3, .ref 0 0 o.length), (4, .fz int s), (5, .fz int k)], [.row U8 o]⟩
  by_cases hk2 : k < l.length
  · have ge : l.getD (Int.toNat (k : Int)) EdT.dft = l[k] := by simp [List.getD, hk2]
    have hbs := hb l[k] (List.getElem_mem _)
    obtain ⟨e, ee⟩ : ∃ e, e = l[k] := ⟨_, rfl⟩
    have hnx := lgL_next l k hk2
    rw [← et, ← ee] at hnx
    rw [← ee] at ge hbs
    obtain ⟨c1, ec1⟩ : ∃ c, c = le8 (u64 e.1) 8 := ⟨_, rfl⟩
    obtain ⟨c2, ec2⟩ : ∃ c, c = c1 ++ le8 (u64 e.2.1) 8 := ⟨_, rfl⟩
    obtain ⟨c3, ec3⟩ : ∃ c, c = c2 ++ le8 (u64 e.2.2.1) 8 := ⟨_, rfl⟩
    have l1 : c1.length = 8 := by rw [ec1, le8_len]
    have l2 : c2.length = 16 := by rw [ec2, List.length_append, le8_len, l1]
    have l3 : c3.length = 24 := by rw [ec3, List.length_append, le8_len, l2]
    obtain ⟨w, ew⟩ : ∃ w, w = IntKind.u8.wrap ((e.2.2.2.size : Nat) : Int) := ⟨_, rfl⟩
    have lA : (c3 ++ [w]).length = 25 := by rw [List.length_append, l3]; rfl
    have tA : List.take 25 (c3 ++ [w]) = c3 ++ [w] := List.take_of_length_le (by omega)
    have lz : ∀ z, (List.take (16 + 8) c3 ++ [z]).length = 16 + 8 + 1 := fun z => by
      rw [List.length_append, List.take_of_length_le (by omega), l3]; rfl
    have t3 : List.take 24 c3 = c3 := List.take_of_length_le (by omega)
    have lb := bytesI_len e.2.2.2
    have eb : List.take 25 (List.take 24 c3 ++ [IntKind.u8.wrap ((e.2.2.2.size : Nat) : Int)]) ++ bytesI e.2.2.2 = edB e := by
      rw [← ew, t3, tA, ec3, ec2, ec1, ew, u8_eq]; rfl
    have leb := edB_len e
    obtain ⟨m, em⟩ : ∃ m, m = (edB e).length := ⟨_, rfl⟩
    have hm : 25 + (bytesI e.2.2.2).length = m := by omega
    have tm : List.take m (List.drop 0 (edB e)) = edB e := List.take_of_length_le (by show (edB e).length ≤ m; omega)
    have ltm : (List.take m (List.drop 0 (edB e))).length = m := by rw [tm]; exact em.symm
    have lo : (List.take o.length o ++ List.take m (List.drop 0 (edB e))).length = o.length + m := by rw [List.length_append, ltm, List.take_length]
    (repeat' (first | exact trivial | exact fun h => h | refine And.intro ?_ ?_ | (intro hb; first | (simp at hb; done) | (simp at hb) | skip) | omega | exact rfl | exact Nat.le_refl _ | (show _ + 1 ≤ 4294967296; omega) | (dsimp only; omega) | (show (_ : Int) ≤ (_ : Int); omega) | (show _ < List.length _; simp only [List.length_set, List.length_append, List.length_take]; omega) | (show wantB _ _ = true; simp; done) | (show wantB _ _ = true; simp; omega) | (show (_ : Bool) = _; simp_all; done) | (exfalso; omega) | refine aRegion_auto (by decide +kernel) ?_ | fail))
    rw [ge]
    refine acall_frame0 rfl (eight_nil _ (u64 e.1) (u64_in _) _ ?_)
    rw [← ec1]
    (repeat' (first | exact trivial | exact fun h => h | refine And.intro ?_ ?_ | (intro hb; first | (simp at hb; done) | (simp at hb) | skip) | omega | exact rfl | exact Nat.le_refl _ | (show _ + 1 ≤ 4294967296; omega) | (dsimp only; omega) | (show (_ : Int) ≤ (_ : Int); omega) | (show _ < List.length _; simp only [List.length_set, List.length_append, List.length_take]; omega) | (show wantB _ _ = true; simp; done) | (show wantB _ _ = true; simp; omega) | (show (_ : Bool) = _; simp_all; done) | (exfalso; omega) | refine aRegion_auto (by decide +kernel) ?_ | fail))
    rw [ge]
    refine acall_frame [1] [.row U8 c1] [.ref 0 0 8, .fz (.int .u64) (u64 e.2.1)] rfl ⟨⟨rfl, trivial⟩, trivial⟩ ⟨rfl, rfl⟩ rfl (eight_ref _ c1 8 l1 (by omega) (u64 e.2.1) (u64_in _) _ ?_)
    rw [← ec2]
    (repeat' (first | exact trivial | exact fun h => h | refine And.intro ?_ ?_ | (intro hb; first | (simp at hb; done) | (simp at hb) | skip) | omega | exact rfl | exact Nat.le_refl _ | (show _ + 1 ≤ 4294967296; omega) | (dsimp only; omega) | (show (_ : Int) ≤ (_ : Int); omega) | (show _ < List.length _; simp only [List.length_set, List.length_append, List.length_take]; omega) | (show wantB _ _ = true; simp; done) | (show wantB _ _ = true; simp; omega) | (show (_ : Bool) = _; simp_all; done) | (exfalso; omega) | refine aRegion_auto (by decide +kernel) ?_ | fail))
    rw [ge]
    refine acall_frame [2] [.row U8 c2] [.ref 0 0 16, .fz (.int .u64) (u64 e.2.2.1)] rfl ⟨⟨rfl, trivial⟩, trivial⟩ ⟨rfl, rfl⟩ rfl (eight_ref _ c2 16 l2 (by omega) (u64 e.2.2.1) (u64_in _) _ ?_)
    rw [← ec3]
    (repeat' (first | exact trivial | exact fun h => h | refine And.intro ?_ ?_ | (intro hb; first | (simp at hb; done) | (simp at hb) | skip) | omega | exact rfl | exact Nat.le_refl _ | (show _ + 1 ≤ 4294967296; omega) | (dsimp only; omega) | (show (_ : Int) ≤ (_ : Int); omega) | (show _ < List.length _; simp only [List.length_append, List.length_take]; omega) | (show wantB _ _ = true; simp; done) | (show wantB _ _ = true; simp; omega) | (show (_ : Bool) = _; simp_all; done) | (exfalso; omega) | refine aRegion_auto (by decide +kernel) ?_ | fail))
    · exact Nat.le_of_eq (lz _).symm
    · show 16 + 8 + 1 + (bytesI (l.getD (Int.toNat (k : Int)) EdT.dft).2.2.2).length ≤ 4294967296
      rw [ge]; omega
    rw [ge]
    refine ⟨[(0, .fz (.list EdT) l), (3, .ref 0 0 o.length), (4, .fz int s), (5, .fz int k), (6, .ref 1 0 m)], [.row U8 o, .row U8 (edB e)], Ent.ren [0, 6] rfl ?_ ?_, ?_⟩
    · (repeat' (first | exact trivial | exact rfl | refine And.intro ?_ ?_))
      exact congrArg (fun z => some (AO.row U8 z)) eb
    · (repeat' (first | exact trivial | exact rfl | refine And.intro ?_ ?_))
      exact congrArg (AV.ref 6 0) hm
    have hby := byt_edB e
    obtain ⟨B, eB⟩ : ∃ B, B = edB e := ⟨_, rfl⟩
    rw [← eB] at tm ltm lo hby em
    rw [← eB]
    have hBl : B.length ≤ 45 := by rw [eB]; omega
    (repeat' (first | exact trivial | exact fun h => h | refine And.intro ?_ ?_ | (intro hb; first | (simp at hb; done) | (simp at hb) | skip) | omega | exact rfl | exact Nat.le_refl _ | (show _ + 1 ≤ 4294967296; omega) | (dsimp only; omega) | (show (_ : Int) ≤ (_ : Int); omega) | (show _ < List.length _; simp only [List.length_set, List.length_append, List.length_take]; omega) | (show wantB _ _ = true; simp; done) | (show wantB _ _ = true; simp; omega) | (show (_ : Bool) = _; simp_all; done) | (exfalso; omega) | refine aRegion_auto (by decide +kernel) ?_ | fail))
    refine ⟨Nat, fun j => ⟨[(0, .fz (.list EdT) l), (3, .ref 0 0 o.length), (4, .fz int (sumB s (B.take j))), (5, .fz int k), (6, .ref 1 0 m), (7, .fz int j)], [.row U8 o, .row U8 B]⟩, fun j => j ≤ B.length, fun j => B.length - j, 0, Nat.zero_le _, Ent.sub rfl ?_, ?_⟩
    · (repeat' (first | exact trivial | exact rfl | refine And.intro ?_ ?_))
    intro j hj
    have hj : j ≤ B.length := hj
    show awp _ _ _ ⟨[(0, .fz (.list EdT) l), (3, .ref 0 0 o.length), (4, .fz int (sumB s (B.take j))), (5, .fz int k), (6, .ref 1 0 m), (7, .fz int j)], [.row U8 o, .row U8 B]⟩
    have hsr := sumB_in (b := B.take j) hlr
    obtain ⟨q, eq⟩ : ∃ q, q = sumB s (B.take j) := ⟨_, rfl⟩
    rw [← eq] at hsr
    rw [← eq]
    by_cases hj2 : j < B.length
    · have gb : B.getD (0 + Int.toNat (j : Int)) U8.dft = B[j] := by simp [List.getD, hj2]
      have hbj := hby B[j] (List.getElem_mem hj2)
      have hsn := sumB_next s B j hj2
      rw [← eq] at hsn
      obtain ⟨c, ec⟩ : ∃ c, c = B[j] := ⟨_, rfl⟩
      rw [← ec] at gb hbj hsn
      have g2 : B[j]?.getD U8.dft = c := by rw [ec]; simp [hj2]
      (repeat' (first | exact trivial | exact fun h => h | refine And.intro ?_ ?_ | (intro hb; first | (simp at hb; done) | (simp at hb) | skip) | omega | exact rfl | exact Nat.le_refl _ | (show _ + 1 ≤ 4294967296; omega) | (dsimp only; omega) | (show (_ : Int) ≤ (_ : Int); omega) | (show _ < List.length _; simp only [List.length_set, List.length_append, List.length_take]; omega) | (show wantB _ _ = true; simp; done) | (show wantB _ _ = true; simp; omega) | (show (_ : Bool) = _; simp_all; done) | (exfalso; omega) | refine aRegion_auto (by decide +kernel) ?_ | fail))
      refine ⟨j + 1, by show j + 1 ≤ B.length; omega, by show B.length - (j + 1) < B.length - j; omega, Ent.sub rfl ?_⟩
      (repeat' (first | exact trivial | exact rfl | refine And.intro ?_ ?_))
      refine congrArg (AV.fz int) (?_ : Int.tmod (q * 31 + B.getD (0 + Int.toNat (j : Int)) U8.dft + 7) 256 = sumB s (B.take (j + 1)))
      rw [gb, hsn, Int.tmod_eq_emod_of_nonneg (by omega)]
    · have hj3 : j = B.length := by omega
      subst hj3
      rw [List.take_length] at eq
      have hn1 : (lgL (l.take (k + 1))).1 = o ++ B ++ [q] := by rw [hnx, eq, eB]; rfl
      have hn2 : (lgL (l.take (k + 1))).2 = q := by rw [hnx, eq, eB]; rfl
      (repeat' (first | exact trivial | exact fun h => h | refine And.intro ?_ ?_ | (intro hb; first | (simp at hb; done) | (simp at hb) | skip) | omega | exact rfl | exact Nat.le_refl _ | (show _ + 1 ≤ 4294967296; omega) | (dsimp only; omega) | (show (_ : Int) ≤ (_ : Int); omega) | (show _ < List.length _; simp only [List.length_set, List.length_append, List.length_take]; omega) | (show wantB _ _ = true; simp; done) | (show wantB _ _ = true; simp; omega) | (show (_ : Bool) = _; simp_all; done) | (exfalso; omega) | refine aRegion_auto (by decide +kernel) ?_ | fail))
      · show o.length + (List.take m (List.drop 0 B)).length + 1 ≤ 4294967296
        rw [ltm]; omega
      refine ⟨k + 1, by show k + 1 ≤ l.length; omega, by show l.length - (k + 1) < l.length - k; omega, ?_⟩
      show Ent _ _ ⟨[(0, .fz (.list EdT) l), (3, .ref 0 0 (lgL (l.take (k + 1))).1.length), (4, .fz int (lgL (l.take (k + 1))).2), (5, .fz int ((k : Int) + 1))], [.row U8 (lgL (l.take (k + 1))).1]⟩
      rw [hn1, hn2]
      have eq8 : IntKind.u8.wrap q = q := by rw [u8_eq]; omega
      refine Ent.ren [4] rfl ?_ ?_
      · (repeat' (first | exact trivial | exact rfl | refine And.intro ?_ ?_))
        refine congrArg (fun z => some (AO.row U8 z)) (?_ : List.take (o.length + (List.take m (List.drop 0 B)).length) (List.take o.length o ++ List.take m (List.drop 0 B)) ++ [IntKind.u8.wrap q] = o ++ B ++ [q])
        rw [List.take_of_length_le (by rw [lo, ltm]; exact Nat.le_refl _), tm, List.take_length, eq8]
      · (repeat' (first | exact trivial | exact rfl | refine And.intro ?_ ?_))
        refine congrArg (AV.ref 4 0) (?_ : o.length + (List.take m (List.drop 0 B)).length + 1 = (o ++ B ++ [q]).length)
        rw [tm, List.length_append, List.length_append]; rfl
  · have hk3 : k = l.length := by omega
    subst hk3
    rw [List.take_length] at et
    rw [← et] at hK
    (repeat' (first | exact trivial | exact fun h => h | refine And.intro ?_ ?_ | (intro hb; first | (simp at hb; done) | (simp at hb) | skip) | omega | exact rfl | exact Nat.le_refl _ | (show _ + 1 ≤ 4294967296; omega) | (dsimp only; omega) | (show (_ : Int) ≤ (_ : Int); omega) | (show _ < List.length _; simp only [List.length_set, List.length_append, List.length_take]; omega) | (show wantB _ _ = true; simp; done) | (show wantB _ _ = true; simp; omega) | (show (_ : Bool) = _; simp_all; done) | (exfalso; omega) | refine aRegion_auto (by decide +kernel) ?_ | fail))
    exact ⟨_, _, REnt.refl _ _ _, hK⟩
end Go.Proofs.YtiflieijbmaocaaDoor
/-
  DeskPlays: the law walked.
-/
namespace Go.Proofs.YtiflieijbmaocaaDoor
open Go Go.Ab Go.RowKit
set_option maxRecDepth 100000
open Dk
/-- a contract's answer seen otherwise -/
theorem _root_.Go.Ab.acall_ent {P : Program} {G : List (Nat × Value)} {f : FuncId} {args : List AV} {A : List AO} {K' K : AV → List AO → Prop} (h : ACall P G f args A K') (hk : ∀ r A', K' r A' → ∃ r' A'', REnt A.length r A' r' A'' ∧ K r' A'') : ACall P G f args A K := by
  refine ⟨h.body, fun c H hcA hG vs hv => (h.run c H hcA hG vs hv).mono fun e w' ⟨v, c', r, h1, h2, h3, h4, h5, h6⟩ => ?_⟩
  obtain ⟨r', A'', k1, k2⟩ := hk r c'.A h6
  obtain ⟨c2, j1, j2, j3, j4, j5⟩ := k1 c' h4 rfl (by rw [← hcA]; exact h3.le.len) v h5
  have E := (h3.toN).trans (by rw [← hcA] at j2; exact j2)
  exact ⟨v, c2, r', h1, j1.trans h2, ⟨E.le, E.X, E.G, E.far, E.st⟩, j3, j5, by rw [j4]; exact k2⟩
theorem logOf_dat (G : List (Nat × Value)) (l : List E) (ha : l.length ≤ 10000) (hb : ∀ x ∈ l, x.2.2.2.size ≤ 20) (K : AV → List AO → Prop) (hK : K (.fz LB (lgL l).1) []) :
    ACall Tryd.prog G 10 [.fz (.list EdT) l] [] K :=
  acall_ent (K' := fun r A => r = .ref 0 0 (lgL l).1.length ∧ A = [.row U8 (lgL l).1]) (logOf_any G l ha hb _ ⟨rfl, rfl⟩) fun r A ⟨e1, e2⟩ => by
    subst e1; subst e2
    refine ⟨.fz LB ((lgL l).1.take (lgL l).1.length), [], (REnt.conv1 (.dat LB) _ rfl ?_).trans (REnt.drop ⟨rfl, rfl⟩), by rw [List.take_length]; exact hK⟩
    (repeat' (first | exact trivial | refine And.intro ?_ ?_ | (show _ ≤ _; omega) | (show _ ≤ _; simp; done)))
theorem log_dat (G : List (Nat × Value)) (W H : Nat) (f now : List Int) (tl : List Tl) (L ad : List E) (cnt : Int) (ha : ad.length ≤ 10000) (hb : ∀ x ∈ ad, x.2.2.2.size ≤ 20) (K : AV → List AO → Prop) (hK : K (.fz LB (lgL ad).1) (dkA W H f now tl L ad cnt)) :
    ACall Tryd.prog G 9 [.ptr 0 0] (dkA W H f now tl L ad cnt) K :=
  acall_ent (K' := fun r A => r = .ref 5 0 (lgL ad).1.length ∧ A = dkA W H f now tl L ad cnt ++ [.row U8 (lgL ad).1]) (log_any G W H f now tl L ad cnt ha hb _ ⟨rfl, rfl⟩) fun r A ⟨e1, e2⟩ => by
    subst e1; subst e2
    refine ⟨.fz LB ((lgL ad).1.take (lgL ad).1.length), dkA W H f now tl L ad cnt, (REnt.conv1 (.dat LB) _ rfl ?_).trans (REnt.ren [0, 1, 2, 3, 4] rfl ?_ ?_), by rw [List.take_length]; exact hK⟩
    · (repeat' (first | exact trivial | refine And.intro ?_ ?_ | (show _ ≤ _; omega) | (show _ ≤ _; simp; done)))
    · (repeat' (first | exact trivial | exact rfl | refine And.intro ?_ ?_))
    · (repeat' (first | exact trivial | exact rfl | refine And.intro ?_ ?_))
theorem stp_by {n : Nat} {s : Dd} {e : E} (h : ∀ x ∈ s.2, x.2.2.2.size ≤ 20) : ∀ x ∈ (stp n s e).2, x.2.2.2.size ≤ 20 := by
  unfold stp
  split
  · rename_i c
    obtain ⟨_, _, _, _, _, _, c7⟩ := chk_ok (eerr_chk0 c.1)
    intro x hx
    rcases List.mem_append.1 hx with hx | hx
    · exact h x hx
    · rw [List.mem_singleton] at hx; rw [hx]; exact c7
  · exact h
theorem runD_by (n : Nat) (l : List E) : ∀ x ∈ (runD n l).2, x.2.2.2.size ≤ 20 := by
  have : ∀ (l : List E) (s : Dd), (∀ x ∈ s.2, x.2.2.2.size ≤ 20) → ∀ x ∈ (l.foldl (stp n) s).2, x.2.2.2.size ≤ 20 := by
    intro l
    induction l with
    | nil => intro s h; exact h
    | cons e l ih => intro s h; rw [List.foldl_cons]; exact ih _ (stp_by h)
  exact this l ([], []) (fun _ h => nomatch h)
theorem smB_of {n : Nat} {l : List E} (h : smB n l = true) : n ≤ 1700 ∧ l.length ≤ 40 := by
  unfold smB at h
  simp only [Bool.and_eq_true, decide_eq_true_eq] at h
  exact h.2
set_option maxHeartbeats 16000000 in
theorem plays_some {E : Errs} (hE : (EL E).Nodup) (a : Ras) (l : List Dk.E) (ha : a.2.2.length ≤ 9223372036854775807) (hl : l.length ≤ 9223372036854775807) (K : AV → List AO → Prop) (hK : K (.fz .bool true) []) :
    ACall Tryd.prog (G8 E) 3 [.fptr RasT a, .fz (.list EdT) l] [] K := by
  refine acall_mk (E := envAt (G8 E) 49 0) (envOk _ _ _) Tryd.func3 rfl rfl rfl rfl rfl ?_
  (repeat' (first | exact trivial | exact fun h => h | refine And.intro ?_ ?_ | (intro hb; first | (simp at hb; done) | (simp at hb) | skip) | omega | exact rfl | exact Nat.le_refl _ | (show _ + 1 ≤ 4294967296; omega) | (dsimp only; omega) | (show (_ : Int) ≤ (_ : Int); omega) | (show _ < List.length _; simp only [List.length_set, List.length_append, List.length_take]; omega) | (show wantB _ _ = true; simp; done) | (show wantB _ _ = true; simp; omega) | (show (_ : Bool) = _; simp_all; done) | (exfalso; omega) | refine aRegion_auto (by decide +kernel) ?_ | fail))
  refine acall_frame0 rfl (desked_any E _ ?_)
  (repeat' (first | exact trivial | exact fun h => h | refine And.intro ?_ ?_ | (intro hb; first | (simp at hb; done) | (simp at hb) | skip) | omega | exact rfl | exact Nat.le_refl _ | (show _ + 1 ≤ 4294967296; omega) | (dsimp only; omega) | (show (_ : Int) ≤ (_ : Int); omega) | (show _ < List.length _; simp only [List.length_set, List.length_append, List.length_take]; omega) | (show wantB _ _ = true; simp; done) | (show wantB _ _ = true; simp; omega) | (show (_ : Bool) = _; simp_all; done) | (exfalso; omega) | refine aRegion_auto (by decide +kernel) ?_ | fail))
  refine acall_frame0 rfl (small_some _ a l hl ha _ ?_)
  cases hs : smB a.2.2.length l
  · (repeat' (first | exact trivial | exact fun h => h | refine And.intro ?_ ?_ | (intro hb; first | (simp at hb; done) | (simp at hb) | skip) | omega | exact rfl | exact Nat.le_refl _ | (show _ + 1 ≤ 4294967296; omega) | (dsimp only; omega) | (show (_ : Int) ≤ (_ : Int); omega) | (show _ < List.length _; simp only [List.length_set, List.length_append, List.length_take]; omega) | (show wantB _ _ = true; simp; done) | (show wantB _ _ = true; simp; omega) | (show (_ : Bool) = _; simp_all; done) | (exfalso; omega) | refine aRegion_auto (by decide +kernel) ?_ | fail))
    exact ⟨_, _, REnt.drop ⟨rfl, rfl⟩, hK⟩
  · obtain ⟨s1, s2⟩ := smB_of hs
    (repeat' (first | exact trivial | exact fun h => h | refine And.intro ?_ ?_ | (intro hb; first | (simp at hb; done) | (simp at hb) | skip) | omega | exact rfl | exact Nat.le_refl _ | (show _ + 1 ≤ 4294967296; omega) | (dsimp only; omega) | (show (_ : Int) ≤ (_ : Int); omega) | (show _ < List.length _; simp only [List.length_set, List.length_append, List.length_take]; omega) | (show wantB _ _ = true; simp; done) | (show wantB _ _ = true; simp; omega) | (show (_ : Bool) = _; simp_all; done) | (exfalso; omega) | refine aRegion_auto (by decide +kernel) ?_ | fail))
    refine acall_frame0 rfl (played_any hE a l (by omega) (by omega) _ (fun hr => ?_) (fun W H hr hW hH => ?_))
    · (repeat' (first | exact trivial | exact fun h => h | refine And.intro ?_ ?_ | (intro hb; first | (simp at hb; done) | (simp at hb) | skip) | omega | exact rfl | exact Nat.le_refl _ | (show _ + 1 ≤ 4294967296; omega) | (dsimp only; omega) | (show (_ : Int) ≤ (_ : Int); omega) | (show _ < List.length _; simp only [List.length_set, List.length_append, List.length_take]; omega) | (show wantB _ _ = true; simp; done) | (show wantB _ _ = true; simp; omega) | (show (_ : Bool) = _; simp_all; done) | (exfalso; omega) | refine aRegion_auto (by decide +kernel) ?_ | fail))
      exact ⟨_, _, REnt.drop ⟨rfl, rfl⟩, hK⟩
    · have hby := runD_by a.2.2.length l
      have hok := runD_ok a.2.2.length l l.length (Nat.le_refl _)
      rw [List.take_length] at hok
      obtain ⟨s, es⟩ : ∃ s, s = runD a.2.2.length l := ⟨_, rfl⟩
      rw [← es] at hby hok
      rw [← es]
      obtain ⟨L, ad⟩ := s
      have hal : ad.length ≤ l.length := hok.ad
      (repeat' (first | exact trivial | exact fun h => h | refine And.intro ?_ ?_ | (intro hb; first | (simp at hb; done) | (simp at hb) | skip) | omega | exact rfl | exact Nat.le_refl _ | (show _ + 1 ≤ 4294967296; omega) | (dsimp only; omega) | (show (_ : Int) ≤ (_ : Int); omega) | (show _ < List.length _; simp only [List.length_set, List.length_append, List.length_take]; omega) | (show wantB _ _ = true; simp; done) | (show wantB _ _ = true; simp; omega) | (show (_ : Bool) = _; simp_all; done) | (exfalso; omega) | refine aRegion_auto (by decide +kernel) ?_ | fail))
      refine acall_frame [0, 1, 2, 3, 4] (dkA W H a.2.2 (nw a.2.2 L) (tl0 W H) L ad 0) [.ptr 0 0] rfl ?_ ⟨rfl, rfl⟩ rfl (log_dat _ W H a.2.2 (nw a.2.2 L) (tl0 W H) L ad 0 (by omega) hby _ ?_)
      · (repeat' (first | exact trivial | exact rfl | refine And.intro ?_ ?_))
      (repeat' (first | exact trivial | exact fun h => h | refine And.intro ?_ ?_ | (intro hb; first | (simp at hb; done) | (simp at hb) | skip) | omega | exact rfl | exact Nat.le_refl _ | (show _ + 1 ≤ 4294967296; omega) | (dsimp only; omega) | (show (_ : Int) ≤ (_ : Int); omega) | (show _ < List.length _; simp only [List.length_set, List.length_append, List.length_take]; omega) | (show wantB _ _ = true; simp; done) | (show wantB _ _ = true; simp; omega) | (show (_ : Bool) = _; simp_all; done) | (exfalso; omega) | refine aRegion_auto (by decide +kernel) ?_ | fail))
      apply exEff
      · refine ⟨fun _ => ?_, fun h => absurd h (by simp)⟩
        (repeat' (first | refine And.intro ?_ ?_ | (show wantB _ _ = true; simp; done)))
        refine acall_conv [.dat (.list EdT)] _ _ _ rfl ?_ (acall_frame0 rfl (acall_arg (logOf_dat _ ad (by omega) hby _ ?_) (congrArg (fun z => [AV.fz (.list EdT) z]) List.take_length.symm)))
        · (repeat' (first | exact trivial | refine And.intro ?_ ?_ | (show _ ≤ _; omega) | (show _ ≤ _; simp; done)))
        exact ⟨rfl, rfl⟩
      (repeat' (first | exact trivial | exact fun h => h | refine And.intro ?_ ?_ | (intro hb; first | (simp at hb; done) | (simp at hb) | skip) | omega | exact rfl | exact Nat.le_refl _ | (show _ + 1 ≤ 4294967296; omega) | (dsimp only; omega) | (show (_ : Int) ≤ (_ : Int); omega) | (show _ < List.length _; simp only [List.length_set, List.length_append, List.length_take]; omega) | (show wantB _ _ = true; simp; done) | (show wantB _ _ = true; simp; omega) | (show (_ : Bool) = _; simp_all; done) | (exfalso; omega) | refine aRegion_auto (by decide +kernel) ?_ | fail))
      refine ⟨.fz .bool true, [], REnt.ren [] rfl ?_ ?_, hK⟩
      · (repeat' (first | exact trivial | exact rfl | refine And.intro ?_ ?_))
      · refine And.intro (congrArg (AV.fz .bool) (?_ : (bif true then ((byN (lgL ad).1).toList == (byN (lgL ad).1).toList) else false) = true)) rfl
        simp
theorem plays_nil (E : Errs) (l : List Dk.E) (hl : l.length ≤ 9223372036854775807) (K : AV → List AO → Prop) (hK : K (.fz .bool true) []) :
    ACall Tryd.prog (G8 E) 3 [.fz .raw (.pointer none), .fz (.list EdT) l] [] K := by
  refine acall_mk (E := envAt (G8 E) 49 0) (envOk _ _ _) Tryd.func3 rfl rfl rfl rfl rfl ?_
  (repeat' (first | exact trivial | exact fun h => h | refine And.intro ?_ ?_ | (intro hb; first | (simp at hb; done) | (simp at hb) | skip) | omega | exact rfl | exact Nat.le_refl _ | (show _ + 1 ≤ 4294967296; omega) | (dsimp only; omega) | (show (_ : Int) ≤ (_ : Int); omega) | (show _ < List.length _; simp only [List.length_set, List.length_append, List.length_take]; omega) | (show wantB _ _ = true; simp; done) | (show wantB _ _ = true; simp; omega) | (show (_ : Bool) = _; simp_all; done) | (exfalso; omega) | refine aRegion_auto (by decide +kernel) ?_ | fail))
  refine acall_frame0 rfl (desked_any E _ ?_)
  (repeat' (first | exact trivial | exact fun h => h | refine And.intro ?_ ?_ | (intro hb; first | (simp at hb; done) | (simp at hb) | skip) | omega | exact rfl | exact Nat.le_refl _ | (show _ + 1 ≤ 4294967296; omega) | (dsimp only; omega) | (show (_ : Int) ≤ (_ : Int); omega) | (show _ < List.length _; simp only [List.length_set, List.length_append, List.length_take]; omega) | (show wantB _ _ = true; simp; done) | (show wantB _ _ = true; simp; omega) | (show (_ : Bool) = _; simp_all; done) | (exfalso; omega) | refine aRegion_auto (by decide +kernel) ?_ | fail))
  refine acall_frame0 rfl (small_nil _ l hl _ ?_)
  (repeat' (first | exact trivial | exact fun h => h | refine And.intro ?_ ?_ | (intro hb; first | (simp at hb; done) | (simp at hb) | skip) | omega | exact rfl | exact Nat.le_refl _ | (show _ + 1 ≤ 4294967296; omega) | (dsimp only; omega) | (show (_ : Int) ≤ (_ : Int); omega) | (show _ < List.length _; simp only [List.length_set, List.length_append, List.length_take]; omega) | (show wantB _ _ = true; simp; done) | (show wantB _ _ = true; simp; omega) | (show (_ : Bool) = _; simp_all; done) | (exfalso; omega) | refine aRegion_auto (by decide +kernel) ?_ | fail))
  exact ⟨_, _, REnt.drop ⟨rfl, rfl⟩, hK⟩
end Go.Proofs.YtiflieijbmaocaaDoor
/-
  Logs opened, plainly.
-/
namespace Go.Proofs.YtiflieijbmaocaaDoor
open Go Go.Ab Go.RowKit
set_option maxRecDepth 100000
open Dk
namespace Dk
/-- a number out of its bytes -/
def gt : List Int → Int
  | [] => 0
  | b :: l => b + 256 * gt l
theorem gt_in : ∀ {l : List Int}, byt l → 0 ≤ gt l ∧ gt l < 256 ^ l.length
  | [], _ => ⟨Int.le_refl _, (by decide : (0 : Int) < 1)⟩
  | b :: l, h => by
    have h1 := h b (List.mem_cons_self ..)
    have h2 := gt_in (l := l) fun c hc => h c (List.mem_cons_of_mem _ hc)
    rw [gt, List.length_cons, Int.pow_succ]
    omega
theorem gt_le8 : ∀ (l : List Int), byt l → le8 (gt l) l.length = l
  | [], _ => rfl
  | b :: l, h => by
    have h1 := h b (List.mem_cons_self ..)
    have hl : byt l := fun c hc => h c (List.mem_cons_of_mem _ hc)
    have ih := gt_le8 l hl
    unfold le8 at ih ⊢
    rw [List.length_cons, List.range_succ_eq_map, List.map_cons, List.map_map]
    congr 1
    · rw [gt]; simp; omega
    · refine Eq.trans ?_ ih
      apply List.map_congr_left
      intro i hi
      show (gt (b :: l) / 256 ^ (i + 1)) % 256 = (gt l / 256 ^ i) % 256
      have : gt (b :: l) / 256 ^ (i + 1) = gt l / 256 ^ i := by
        rw [Int.pow_succ, Int.mul_comm, ← Int.ediv_ediv_of_nonneg (by decide), gt]
        congr 1
        omega
      rw [this]
/-- .. as an int -/
def gI (l : List Int) : Int := IntKind.i64.wrap (gt l)
theorem u64_gI {l : List Int} (h : byt l) (h8 : l.length = 8) : u64 (gI l) = gt l := by
  have := gt_in h
  rw [h8] at this
  have h2 : (256 : Int) ^ 8 = 18446744073709551616 := by decide
  unfold gI
  rw [u64_eq, IntKind.wrap_i64]
  omega
/-- an edit out of its bytes -/
def prs (b : List Int) : E := (gI (b.take 8), gI ((b.drop 8).take 8), gI ((b.drop 16).take 8), byN (b.drop 25))
theorem byN_bytes : ∀ (l : List Int), byt l → bytesI (byN l) = l := by
  have key : ∀ (l : List Int) (r : ByteArray), byt l → bytesI (l.foldl (fun r n => r.push (UInt8.ofNat n.toNat)) r) = bytesI r ++ l := by
    intro l
    induction l with
    | nil => intro r _; simp
    | cons b l ih =>
      intro r h
      have h1 := h b (List.mem_cons_self ..)
      rw [List.foldl_cons, ih _ fun c hc => h c (List.mem_cons_of_mem _ hc)]
      have : bytesI (r.push (UInt8.ofNat b.toNat)) = bytesI r ++ [b] := by
        unfold bytesI
        simp [ByteArray.push]
        omega
      rw [this]; simp
  intro l h
  have := key l ByteArray.empty h
  simpa [byN, bytesI] using this
theorem byN_size {l : List Int} (h : byt l) : (byN l).size = l.length := by
  rw [← bytesI_len, byN_bytes l h]
/-- the bytes of an edit that was read are those that were read -/
theorem edB_prs {b : List Int} (h : byt b) {k : Nat} (hk : b.length = 25 + k) (h24 : b[24]? = some (k : Int)) : edB (prs b) = b := by
  have bt : ∀ n, byt (b.take n) := fun n c hc => h c (List.mem_of_mem_take hc)
  have bd : ∀ n, byt (b.drop n) := fun n c hc => h c (List.mem_of_mem_drop hc)
  have bdt : ∀ n m, byt ((b.drop n).take m) := fun n m c hc => h c (List.mem_of_mem_drop (List.mem_of_mem_take hc))
  have e1 : le8 (gt (b.take 8)) 8 = b.take 8 := by
    have := gt_le8 _ (bt 8)
    rwa [List.length_take, Nat.min_eq_left (by omega)] at this
  have e2 : le8 (gt ((b.drop 8).take 8)) 8 = (b.drop 8).take 8 := by
    have := gt_le8 _ (bdt 8 8)
    rwa [List.length_take, List.length_drop, Nat.min_eq_left (by omega)] at this
  have e3 : le8 (gt ((b.drop 16).take 8)) 8 = (b.drop 16).take 8 := by
    have := gt_le8 _ (bdt 16 8)
    rwa [List.length_take, List.length_drop, Nat.min_eq_left (by omega)] at this
  unfold edB prs
  dsimp only
  rw [u64_gI (bt 8) (by rw [List.length_take]; omega), u64_gI (bdt 8 8) (by rw [List.length_take, List.length_drop]; omega), u64_gI (bdt 16 8) (by rw [List.length_take, List.length_drop]; omega), e1, e2, e3, byN_bytes _ (bd 25)]
  have hk2 := h (k : Int) (List.mem_of_getElem? h24)
  have e4 : lenB (byN (b.drop 25)) = k := by
    unfold lenB
    rw [byN_size (bd 25), List.length_drop, hk]
    omega
  have e5 : [lenB (byN (b.drop 25))] ++ b.drop 25 = b.drop 24 := by
    have hlt : 24 < b.length := by omega
    rw [e4, List.drop_eq_getElem_cons hlt]
    rw [List.getElem?_eq_getElem hlt] at h24
    rw [Option.some.inj h24]; rfl
  rw [List.append_assoc _ _ (b.drop 25), e5]
  have a1 : b.take 8 ++ (b.drop 8).take 8 = b.take 16 := by rw [← List.take_add]
  have a2 : b.take 16 ++ (b.drop 16).take 8 = b.take 24 := by rw [← List.take_add]
  rw [a1, a2, List.take_append_drop]
/-- how long what is read next is: without the byte of the sum -/
def rl (bs : List Int) : Nat := 25 + (bs.getD 24 0).toNat
/-- is what comes next whole and right? -/
def okN (n : Nat) (bs : List Int) (s : Int) (d : Dd) : Bool :=
  decide (26 ≤ bs.length) && (decide (rl bs + 1 ≤ bs.length) && (decide (bs.getD (rl bs) 0 = sumB s (bs.take (rl bs))) && decide (eerr n d.1 (prs (bs.take (rl bs))) = 0)))
def opR (n : Nat) : Nat → List Int → Int → Dd → Nat → Dd × Nat
  | 0, _, _, d, c => (d, c)
  | f + 1, bs, s, d, c => if okN n bs s d = true then opR n f (bs.drop (rl bs + 1)) (sumB s (bs.take (rl bs))) (stp n d (prs (bs.take (rl bs)))) (c + 1) else (d, c)
theorem okN_len {n : Nat} {bs : List Int} {s : Int} {d : Dd} (h : okN n bs s d = true) : 26 ≤ bs.length ∧ rl bs + 1 ≤ bs.length ∧ bs.getD (rl bs) 0 = sumB s (bs.take (rl bs)) ∧ eerr n d.1 (prs (bs.take (rl bs))) = 0 := by
  unfold okN at h
  simp only [Bool.and_eq_true, decide_eq_true_eq] at h
  exact ⟨h.1, h.2.1, h.2.2.1, h.2.2.2⟩
theorem opR_more (n : Nat) : ∀ (f g : Nat) (bs : List Int) (s : Int) (d : Dd) (c : Nat), bs.length ≤ f → bs.length ≤ g → opR n f bs s d c = opR n g bs s d c
  | 0, 0, _, _, _, _, _, _ => rfl
  | 0, g + 1, bs, s, d, c, hf, _ => by
    have : okN n bs s d = false := Bool.eq_false_iff.2 fun h => by have := (okN_len h).1; omega
    rw [opR, opR, this]; simp
  | f + 1, 0, bs, s, d, c, _, hg => by
    have : okN n bs s d = false := Bool.eq_false_iff.2 fun h => by have := (okN_len h).1; omega
    rw [opR, opR, this]; simp
  | f + 1, g + 1, bs, s, d, c, hf, hg => by
    rw [opR, opR]
    by_cases h : okN n bs s d = true
    · rw [if_pos h, if_pos h]
      have := okN_len h
      exact opR_more n f g _ _ _ _ (by rw [List.length_drop]; omega) (by rw [List.length_drop]; omega)
    · rw [if_neg h, if_neg h]
/-- what a log gives back: a desk's edits, and how many there were -/
def opn (n : Nat) (bs : List Int) (s : Int) (d : Dd) (c : Nat) : Dd × Nat := opR n bs.length bs s d c
theorem opn_stop {n : Nat} {bs : List Int} {s : Int} {d : Dd} (h : okN n bs s d = false) (c : Nat) : opn n bs s d c = (d, c) := by
  unfold opn
  cases hl : bs.length with
  | zero => rfl
  | succ m => rw [opR, h]; simp
theorem opn_step {n : Nat} {bs : List Int} {s : Int} {d : Dd} (h : okN n bs s d = true) (c : Nat) : opn n bs s d c = opn n (bs.drop (rl bs + 1)) (sumB s (bs.take (rl bs))) (stp n d (prs (bs.take (rl bs)))) (c + 1) := by
  have hl := okN_len h
  unfold opn
  cases hm : bs.length with
  | zero => omega
  | succ m =>
    rw [opR, if_pos h]
    exact opR_more n m _ _ _ _ _ (by rw [List.length_drop]; omega) (Nat.le_refl _)
end Dk
end Go.Proofs.YtiflieijbmaocaaDoor
/-
  Numbers out of their bytes.
-/
namespace Go.Proofs.YtiflieijbmaocaaDoor
open Go Go.Ab Go.RowKit
set_option maxRecDepth 100000
open Dk
namespace Dk
theorem gt_app (l : List Int) (c : Int) : gt (l ++ [c]) = gt l + 256 ^ l.length * c := by
  induction l with
  | nil => simp [gt]
  | cons b l ih =>
    rw [List.cons_append, gt, ih, gt, List.length_cons, Int.pow_succ, Int.mul_add]
    have : (256 : Int) * (256 ^ l.length * c) = 256 ^ l.length * 256 * c := by
      rw [← Int.mul_assoc, Int.mul_comm 256]
    omega
theorem or_nat {X c k : Nat} (hX : X < 2 ^ (8 * k)) : X ||| (c * 2 ^ (8 * k)) = X + c * 2 ^ (8 * k) := by
  have := Nat.shiftLeft_add_eq_or_of_lt hX c
  rw [Nat.shiftLeft_eq] at this
  rw [Nat.or_comm, ← this, Nat.add_comm]
theorem pow256 (k : Nat) : (2 : Nat) ^ (8 * k) = 256 ^ k := by rw [Nat.pow_mul]
theorem or_step (x c : Int) (k : Nat) (hk : k < 8) (hx : 0 ≤ x ∧ x < 256 ^ k) (hc : 0 ≤ c ∧ c < 256) :
    bitI .or .u64 x (IntKind.u64.wrap (IntKind.u64.wrap c * 2 ^ (min (Int.toNat (8 * (k : Int))) IntKind.u64.bits))) = x + 256 ^ k * c := by
  obtain ⟨X, rfl⟩ := Int.eq_ofNat_of_zero_le hx.1
  obtain ⟨C, rfl⟩ := Int.eq_ofNat_of_zero_le hc.1
  have hC : C < 256 := by omega
  have e1 : Int.toNat (8 * (k : Int)) = 8 * k := by omega
  have e2 : min (8 * k) IntKind.u64.bits = 8 * k := by show min (8 * k) 64 = 8 * k; omega
  have hX : X < 2 ^ (8 * k) := by
    rw [pow256]
    have := hx.2
    have h2 : ((256 ^ k : Nat) : Int) = (256 : Int) ^ k := by simp
    rw [← h2] at this
    omega
  have hp : C * 2 ^ (8 * k) + 2 ^ (8 * k) ≤ 2 ^ 64 := by
    have h1 : C * 2 ^ (8 * k) + 2 ^ (8 * k) = (C + 1) * 2 ^ (8 * k) := (Nat.succ_mul C (2 ^ (8 * k))).symm
    rw [h1]
    have h2 : (2 : Nat) ^ 64 = 2 ^ 8 * 2 ^ 56 := rfl
    have h3 : (2 : Nat) ^ (8 * k) ≤ 2 ^ 56 := Nat.pow_le_pow_right (by decide) (by omega)
    rw [h2]
    exact Nat.mul_le_mul (by omega) h3
  have e3 : IntKind.u64.wrap (C : Int) = (C : Int) := by
    show u64 C = C
    rw [u64_eq]; omega
  have e4 : IntKind.u64.wrap ((C : Int) * 2 ^ (8 * k)) = ((C * 2 ^ (8 * k) : Nat) : Int) := by
    show u64 _ = _
    have : (C : Int) * 2 ^ (8 * k) = ((C * 2 ^ (8 * k) : Nat) : Int) := by simp
    rw [this, u64_eq]
    have h64 : (2 : Nat) ^ 64 = 18446744073709551616 := rfl
    have h0 : 0 < 2 ^ (8 * k) := Nat.pow_pos (by decide)
    omega
  rw [e1, e2, e3, e4]
  show IntKind.u64.wrap ((BitVec.ofInt 64 (X : Int) ||| BitVec.ofInt 64 ((C * 2 ^ (8 * k) : Nat) : Int)).toNat : Int) = _
  have h64 : (2 : Nat) ^ 64 = 18446744073709551616 := rfl
  rw [BitVec.ofInt_natCast, BitVec.ofInt_natCast, BitVec.toNat_or, BitVec.toNat_ofNat, BitVec.toNat_ofNat, Nat.mod_eq_of_lt (by omega), Nat.mod_eq_of_lt (by omega), or_nat hX]
  show u64 _ = _
  rw [u64_eq]
  have h5 : ((256 : Int) ^ k) * (C : Int) = ((C * 2 ^ (8 * k) : Nat) : Int) := by rw [pow256, Int.mul_comm]; simp
  have h6 : (X : Int) + 256 ^ k * (C : Int) = ((X + C * 2 ^ (8 * k) : Nat) : Int) := by
    rw [h5]; simp
  rw [h6]
  omega
theorem gt_take {b : List Int} {k : Nat} (hk : k < b.length) : gt (b.take (k + 1)) = gt (b.take k) + 256 ^ k * b[k] := by
  rw [List.take_succ_eq_append_getElem hk, gt_app, List.length_take, Nat.min_eq_left (by omega)]
theorem byt_take {b : List Int} (h : byt b) (n : Nat) : byt (b.take n) := fun c hc => h c (List.mem_of_mem_take hc)
theorem byt_drop {b : List Int} (h : byt b) (n : Nat) : byt (b.drop n) := fun c hc => h c (List.mem_of_mem_drop hc)
end Dk
theorem get_any (G : List (Nat × Value)) (b : List Int) (h8 : 8 ≤ b.length) (hb : byt b) (K : AV → List AO → Prop) (hK : K (.fz int (gI (b.take 8))) []) :
    ACall Tryd.prog G 27 [.fz LB b] [] K := by
  refine acall_mk (E := envAt G 21 0) (envOk _ _ _) Tryd.func27 rfl rfl rfl rfl rfl ?_
  (repeat' (first | exact trivial | exact fun h => h | refine And.intro ?_ ?_ | (intro hb; first | (simp at hb; done) | (simp at hb) | skip) | omega | exact rfl | exact Nat.le_refl _ | (show _ + 1 ≤ 4294967296; omega) | (dsimp only; omega) | (show (_ : Int) ≤ (_ : Int); omega) | (show _ < List.length _; simp only [List.length_set, List.length_append, List.length_take]; omega) | (show wantB _ _ = true; simp; done) | (show wantB _ _ = true; simp; omega) | (show (_ : Bool) = _; simp_all; done) | (exfalso; omega) | refine aRegion_auto (by decide +kernel) ?_ | fail))
  refine ⟨Nat, fun k => ⟨[(0, .fz LB b), (3, .fz (.int .u64) (gt (b.take k))), (5, .fz int k)], []⟩, fun k => k ≤ 8, fun k => 8 - k, 0, Nat.zero_le _, Ent.sub rfl ?_, ?_⟩
  · (repeat' (first | exact trivial | exact rfl | refine And.intro ?_ ?_))
  intro k hk
  have hk : k ≤ 8 := hk
  have hx := gt_in (byt_take hb k)
  rw [List.length_take, Nat.min_eq_left (by omega)] at hx
  obtain ⟨x, ex⟩ : ∃ x, x = gt (b.take k) := ⟨_, rfl⟩
  show awp _ _ _ ⟨[(0, .fz LB b), (3, .fz (.int .u64) (gt (b.take k))), (5, .fz int k)], []⟩
  rw [← ex] at hx
  rw [← ex]
  by_cases hk2 : k < 8
  · have ge : b.getD (Int.toNat (k : Int)) U8.dft = b[k]'(by omega) := by simp [List.getD, show k < b.length by omega]
    have hc := hb (b[k]'(by omega)) (List.getElem_mem _)
    have hst := or_step x (b[k]'(by omega)) k hk2 hx hc
    have hgt := gt_take (b := b) (k := k) (by omega)
    rw [← ex] at hgt
    (repeat' (first | exact trivial | exact fun h => h | refine And.intro ?_ ?_ | (intro hb; first | (simp at hb; done) | (simp at hb) | skip) | omega | exact rfl | exact Nat.le_refl _ | (show _ + 1 ≤ 4294967296; omega) | (dsimp only; omega) | (show (_ : Int) ≤ (_ : Int); omega) | (show _ < List.length _; simp only [List.length_set, List.length_append, List.length_take]; omega) | (show wantB _ _ = true; simp; done) | (show wantB _ _ = true; simp; omega) | (show (_ : Bool) = _; simp_all; done) | (exfalso; omega) | refine aRegion_auto (by decide +kernel) ?_ | fail))
    refine ⟨k + 1, by show k + 1 ≤ 8; omega, by show 8 - (k + 1) < 8 - k; omega, Ent.sub rfl ?_⟩
    (repeat' (first | exact trivial | exact rfl | refine And.intro ?_ ?_))
    refine congrArg (AV.fz (.int .u64)) (?_ : bitI .or .u64 x (IntKind.u64.wrap (IntKind.u64.wrap (b.getD (Int.toNat (k : Int)) U8.dft) * 2 ^ (min (Int.toNat (8 * (k : Int))) IntKind.u64.bits))) = gt (b.take (k + 1)))
    rw [ge, hst, hgt]
  · have hk3 : k = 8 := by omega
    subst hk3
    (repeat' (first | exact trivial | exact fun h => h | refine And.intro ?_ ?_ | (intro hb; first | (simp at hb; done) | (simp at hb) | skip) | omega | exact rfl | exact Nat.le_refl _ | (show _ + 1 ≤ 4294967296; omega) | (dsimp only; omega) | (show (_ : Int) ≤ (_ : Int); omega) | (show _ < List.length _; simp only [List.length_set, List.length_append, List.length_take]; omega) | (show wantB _ _ = true; simp; done) | (show wantB _ _ = true; simp; omega) | (show (_ : Bool) = _; simp_all; done) | (exfalso; omega) | refine aRegion_auto (by decide +kernel) ?_ | fail))
    refine ⟨_, _, REnt.drop ⟨rfl, rfl⟩, ?_⟩
    rw [ex]; exact hK
theorem mul_st {x c : Int} (hx : 0 ≤ x ∧ x < 72057594037927936) (hc : 0 ≤ c ∧ c < 256) : IntKind.u64.wrap (IntKind.u64.wrap (x * 256) + IntKind.u64.wrap c) = c + 256 * x := by
  show u64 (u64 (x * 256) + u64 c) = _
  rw [u64_eq, u64_eq, u64_eq]; omega
theorem numberIn_any (G : List (Nat × Value)) (b : List Int) (h8 : b.length = 8) (hb : byt b) (K : AV → List AO → Prop) (hK : K (.fz int (gI b)) []) :
    ACall Tryd.prog G 30 [.fz LB b] [] K := by
  refine acall_mk (E := envAt G 19 0) (envOk _ _ _) Tryd.func30 rfl rfl rfl rfl rfl ?_
  (repeat' (first | exact trivial | exact fun h => h | refine And.intro ?_ ?_ | (intro hb; first | (simp at hb; done) | (simp at hb) | skip) | omega | exact rfl | exact Nat.le_refl _ | (show _ + 1 ≤ 4294967296; omega) | (dsimp only; omega) | (show (_ : Int) ≤ (_ : Int); omega) | (show _ < List.length _; simp only [List.length_set, List.length_append, List.length_take]; omega) | (show wantB _ _ = true; simp; done) | (show wantB _ _ = true; simp; omega) | (show (_ : Bool) = _; simp_all; done) | (exfalso; omega) | refine aRegion_auto (by decide +kernel) ?_ | fail))
  refine ⟨Nat, fun j => ⟨[(0, .fz LB b), (3, .fz (.int .u64) (gt (b.drop (8 - j)))), (4, .fz int (7 - (j : Int)))], []⟩, fun j => j ≤ 8, fun j => 8 - j, 0, Nat.zero_le _, Ent.sub rfl ?_, ?_⟩
  · (repeat' (first | exact trivial | exact rfl | refine And.intro ?_ ?_))
    refine congrArg (AV.fz (.int .u64)) (?_ : (0 : Int) = gt (b.drop (8 - 0)))
    rw [List.drop_eq_nil_of_le (by omega)]; rfl
  intro j hj
  have hj : j ≤ 8 := hj
  have hx := gt_in (byt_drop hb (8 - j))
  rw [List.length_drop, h8] at hx
  obtain ⟨x, ex⟩ : ∃ x, x = gt (b.drop (8 - j)) := ⟨_, rfl⟩
  show awp _ _ _ ⟨[(0, .fz LB b), (3, .fz (.int .u64) (gt (b.drop (8 - j)))), (4, .fz int (7 - (j : Int)))], []⟩
  rw [← ex] at hx
  rw [← ex]
  by_cases hj2 : j < 8
  · obtain ⟨i, ei⟩ : ∃ i, i = 7 - j := ⟨_, rfl⟩
    have ei2 : Int.toNat (7 - (j : Int)) = i := by omega
    have ge : b.getD (Int.toNat (7 - (j : Int))) U8.dft = b[i]'(by omega) := by rw [ei2]; simp [List.getD, show i < b.length by omega]
    have hc := hb (b[i]'(by omega)) (List.getElem_mem _)
    have hx2 : 0 ≤ x ∧ x < 72057594037927936 := by
      refine ⟨hx.1, Int.lt_of_lt_of_le hx.2 ?_⟩
      rw [show 8 - (8 - j) = j by omega]
      have h0 : (256 : Nat) ^ j ≤ 256 ^ 7 := Nat.pow_le_pow_right (by decide) (by omega)
      have : (256 : Int) ^ j ≤ 256 ^ 7 := by have := Int.ofNat_le.2 h0; simpa using this
      exact Int.le_trans this (by decide)
    have hst := mul_st hx2 hc
    have hgt : gt (b.drop (8 - (j + 1))) = b[i]'(by omega) + 256 * x := by
      rw [show 8 - (j + 1) = i by omega, List.drop_eq_getElem_cons (by omega), gt, ex, show i + 1 = 8 - j by omega]
    (repeat' (first | exact trivial | exact fun h => h | refine And.intro ?_ ?_ | (intro hb; first | (simp at hb; done) | (simp at hb) | skip) | omega | exact rfl | exact Nat.le_refl _ | (show _ + 1 ≤ 4294967296; omega) | (dsimp only; omega) | (show (_ : Int) ≤ (_ : Int); omega) | (show _ < List.length _; simp only [List.length_set, List.length_append, List.length_take]; omega) | (show wantB _ _ = true; simp; done) | (show wantB _ _ = true; simp; omega) | (show (_ : Bool) = _; simp_all; done) | (exfalso; omega) | refine aRegion_auto (by decide +kernel) ?_ | fail))
    refine ⟨j + 1, by show j + 1 ≤ 8; omega, by show 8 - (j + 1) < 8 - j; omega, Ent.sub rfl ?_⟩
    (repeat' (first | exact trivial | exact rfl | refine And.intro ?_ ?_))
    · refine congrArg (AV.fz (.int .u64)) (?_ : IntKind.u64.wrap (IntKind.u64.wrap (x * 256) + IntKind.u64.wrap (b.getD (Int.toNat (7 - (j : Int))) U8.dft)) = gt (b.drop (8 - (j + 1))))
      rw [ge, hst, hgt]
    · exact congrArg (AV.fz int) (show (7 - (j : Int)) - 1 = 7 - ((j : Int) + 1) by omega)
  · have hj3 : j = 8 := by omega
    subst hj3
    (repeat' (first | exact trivial | exact fun h => h | refine And.intro ?_ ?_ | (intro hb; first | (simp at hb; done) | (simp at hb) | skip) | omega | exact rfl | exact Nat.le_refl _ | (show _ + 1 ≤ 4294967296; omega) | (dsimp only; omega) | (show (_ : Int) ≤ (_ : Int); omega) | (show _ < List.length _; simp only [List.length_set, List.length_append, List.length_take]; omega) | (show wantB _ _ = true; simp; done) | (show wantB _ _ = true; simp; omega) | (show (_ : Bool) = _; simp_all; done) | (exfalso; omega) | refine aRegion_auto (by decide +kernel) ?_ | fail))
    refine ⟨_, _, REnt.drop ⟨rfl, rfl⟩, ?_⟩
    rw [ex]; exact hK
end Go.Proofs.YtiflieijbmaocaaDoor
/-
  A log opened: the walk.
-/
namespace Go.Proofs.YtiflieijbmaocaaDoor
open Go Go.Ab Go.RowKit
set_option maxRecDepth 100000
open Dk
theorem rl_in {bs : List Int} (hb : byt bs) (h : 25 ≤ bs.length) : ∃ k : Nat, bs[24]? = some (k : Int) ∧ k < 256 ∧ rl bs = 25 + k ∧ bs.getD 24 0 = (k : Int) := by
  have h1 := hb bs[24] (List.getElem_mem _)
  have e : bs.getD 24 0 = bs[24] := by simp [List.getD, show 24 < bs.length by omega]
  refine ⟨bs[24].toNat, ?_, by omega, ?_, by rw [e]; omega⟩
  · rw [List.getElem?_eq_getElem (by omega)]; congr 1; omega
  · unfold rl; rw [e]
theorem okN_not1 {n : Nat} {bs : List Int} {s : Int} {d : Dd} (h : ¬ (26 ≤ bs.length ∧ rl bs + 1 ≤ bs.length)) : okN n bs s d = false := Bool.eq_false_iff.2 fun c => h ⟨(okN_len c).1, (okN_len c).2.1⟩
abbrev Ops := List Int × Int × Dd × Nat
set_option maxHeartbeats 16000000 in
theorem open_any (E : Errs) (a : Ras) (bs0 : List Int) (ha : a.2.2.length ≤ 1000000) (hb0 : byt bs0) (hl0 : bs0.length ≤ 5000) (K : AV → List AO → Prop)
    (h0 : 0 < rerr a → K (.tup [.fz .raw (.pointer none), .fz int 0, .fz .raw (er E (rerr a))]) [])
    (h1 : ∀ (W H : Nat) (L ad : List Dk.E) (c : Nat), rerr a = 0 → a.1 = W → a.2.1 = H → opn a.2.2.length bs0 0 ([], []) 0 = ((L, ad), c) → K (.tup [.ptr 0 0, .fz int c, .fz .raw .nilIface]) (dkA W H a.2.2 (nw a.2.2 L) (tl0 W H) L ad 0)) :
    ACall Tryd.prog (G8 E) 11 [.fz RasT a, .fz LB bs0] [] K := by
  refine acall_mk (E := envCut (G8 E) 78 0 [7]) (envCutOk _ _ _ _) Tryd.func11 rfl rfl rfl rfl rfl ?_
  (repeat' (first | exact trivial | exact fun h => h | refine And.intro ?_ ?_ | (intro hb; first | (simp at hb; done) | (simp at hb) | skip) | omega | exact rfl | exact Nat.le_refl _ | (show _ + 1 ≤ 4294967296; omega) | (dsimp only; omega) | (show (_ : Int) ≤ (_ : Int); omega) | (show _ < List.length _; simp only [List.length_set, List.length_append, List.length_take]; omega) | (show wantB _ _ = true; simp; done) | (show wantB _ _ = true; simp; omega) | (show (_ : Bool) = _; simp_all; done) | (exfalso; omega) | refine aRegion_auto (by decide +kernel) ?_ | fail))
  refine acall_conv [.dat RasT] _ _ _ rfl trivial (acall_frame0 rfl (new_any E a ha _ (fun hr => ?_) (fun W H hr hW hH => ?_)))
  · have h0 := h0 hr
    rw [er_ea E hr] at h0
    rw [er_ea E hr]
    (repeat' (first | exact trivial | exact fun h => h | refine And.intro ?_ ?_ | (intro hb; first | (simp at hb; done) | (simp at hb) | skip) | omega | exact rfl | exact Nat.le_refl _ | (show _ + 1 ≤ 4294967296; omega) | (dsimp only; omega) | (show (_ : Int) ≤ (_ : Int); omega) | (show _ < List.length _; simp only [List.length_set, List.length_append, List.length_take]; omega) | (show wantB _ _ = true; simp; done) | (show wantB _ _ = true; simp; omega) | (show (_ : Bool) = _; simp_all; done) | (exfalso; omega) | refine aRegion_auto (by decide +kernel) ?_ | fail))
    exact ⟨_, _, REnt.drop ⟨rfl, rfl⟩, h0⟩
  · obtain ⟨g1, g2⟩ := rerr_len hr
    obtain ⟨g3, g4, g5, g6, g7⟩ := rerr_ok hr
    have h1 := fun L ad c => h1 W H L ad c hr hW hH
    obtain ⟨f, ef⟩ : ∃ f, f = a.2.2 := ⟨_, rfl⟩
    rw [← ef] at h1 g1 g2
    rw [← ef]
    obtain ⟨n, en⟩ : ∃ n, n = f.length := ⟨_, rfl⟩
    rw [← en] at h1 g1 g2
    have htl : (tl0 W H).length ≤ 64 := by
      have tW : til W ≤ 8 := by unfold til; omega
      have tH : til H ≤ 8 := by unfold til; omega
      have hm : til W * til H ≤ 64 := Nat.mul_le_mul tW tH
      unfold tl0; rw [List.length_replicate]; exact hm
    (repeat' (first | exact trivial | exact fun h => h | refine And.intro ?_ ?_ | (intro hb; first | (simp at hb; done) | (simp at hb) | skip) | omega | exact rfl | exact Nat.le_refl _ | (show _ + 1 ≤ 4294967296; omega) | (dsimp only; omega) | (show (_ : Int) ≤ (_ : Int); omega) | (show _ < List.length _; simp only [List.length_set, List.length_append, List.length_take]; omega) | (show wantB _ _ = true; simp; done) | (show wantB _ _ = true; simp; omega) | (show (_ : Bool) = _; simp_all; done) | (exfalso; omega) | refine aRegion_auto (by decide +kernel) ?_ | fail))
    refine ⟨Ops, fun x => ⟨[(1, .fz LB x.1), (7, .ptr 0 0), (9, .fz int x.2.2.2), (10, .fz U8 x.2.1)], dkA W H f (nw f x.2.2.1.1) (tl0 W H) x.2.2.1.1 x.2.2.1.2 0⟩, fun x => byt x.1 ∧ DOk n x.2.2.2 x.2.2.1 ∧ 26 * x.2.2.2 + x.1.length ≤ bs0.length ∧ opn n x.1 x.2.1 x.2.2.1 x.2.2.2 = opn n bs0 0 ([], []) 0, fun x => x.1.length, (bs0, 0, ([], []), 0), ⟨hb0, DOk.nil n, by show 26 * 0 + bs0.length ≤ _; omega, rfl⟩, Ent.ren [1, 2, 3, 4, 5] rfl ?_ ?_, ?_⟩
    · (repeat' (first | exact trivial | exact rfl | refine And.intro ?_ ?_))
    · (repeat' (first | exact trivial | exact rfl | refine And.intro ?_ ?_))
    rintro ⟨bs, s, ⟨L, ad⟩, c⟩ ⟨hb, hok, hlen, hop⟩
    have hb : byt bs := hb
    have hlen : 26 * c + bs.length ≤ bs0.length := hlen
    have hop : opn n bs s (L, ad) c = opn n bs0 0 ([], []) 0 := hop
    obtain ⟨o1, o2, o3, o4⟩ := hok
    have o1 : Srt L := o1
    have o2 : ∀ x ∈ L, 0 ≤ x.1 ∧ x.1 < (n : Int) := o2
    have o3 : L.length ≤ c := o3
    have o4 : ad.length ≤ c := o4
    have hok : DOk n c (L, ad) := ⟨o1, o2, o3, o4⟩
    have hnl := nw_len f L
    have stop : okN n bs s (L, ad) = false → K (.tup [.ptr 0 0, .fz int c, .fz .raw .nilIface]) (dkA W H f (nw f L) (tl0 W H) L ad 0) := fun h => by
      rw [opn_stop h] at hop
      exact h1 L ad c hop.symm
    show awp _ _ _ ⟨[(1, .fz LB bs), (7, .ptr 0 0), (9, .fz int c), (10, .fz U8 s)], dkA W H f (nw f L) (tl0 W H) L ad 0⟩
    by_cases h26 : 26 ≤ bs.length
    · obtain ⟨k, k1, k2, k3, k4⟩ := rl_in hb (by omega)
      have g24 : bs.getD (Int.toNat 24) U8.dft = (k : Int) := k4
      have g24b : bs[24]?.getD U8.dft = (k : Int) := by rw [k1]; rfl
      (repeat' (first | exact trivial | exact fun h => h | refine And.intro ?_ ?_ | (intro hb; first | (simp at hb; done) | (simp at hb) | skip) | omega | exact rfl | exact Nat.le_refl _ | (show _ + 1 ≤ 4294967296; omega) | (dsimp only; omega) | (show (_ : Int) ≤ (_ : Int); omega) | (show _ < List.length _; simp only [List.length_set, List.length_append, List.length_take]; omega) | (show wantB _ _ = true; simp; done) | (show wantB _ _ = true; simp; omega) | (show (_ : Bool) = _; simp_all; done) | (exfalso; omega) | refine aRegion_auto (by decide +kernel) ?_ | fail))
      · have hb : 25 < (bs.length : Int) ∧ 25 + bs[24]?.getD U8.dft < (bs.length : Int) := by assumption
        rw [g24b] at hb
        have hb2 : 25 + (k : Int) < (bs.length : Int) := hb.2
        rw [g24]
        show 25 + (k : Int) ≤ (bs.length : Int)
        omega
      · have hb : 25 < (bs.length : Int) ∧ 25 + bs[24]?.getD U8.dft < (bs.length : Int) := by assumption
        rw [g24b] at hb
        have hb2 : 25 + (k : Int) < (bs.length : Int) := hb.2
        have hrl : rl bs + 1 ≤ bs.length := by omega
        have hrn : (25 + bs.getD (Int.toNat 24) U8.dft) = ((rl bs : Nat) : Int) := by rw [g24, k3]; omega
        obtain ⟨b, eb⟩ : ∃ b, b = bs.take (rl bs) := ⟨_, rfl⟩
        have hbb : byt b := by rw [eb]; exact byt_take ‹byt bs› _
        have hbl : b.length = 25 + k := by rw [eb, List.length_take]; omega
        rw [hrn]
        refine ⟨[(1, .fz LB bs), (7, .ptr 0 0), (9, .fz int c), (10, .fz U8 s), (11, .fz LB b)], dkA W H f (nw f L) (tl0 W H) L ad 0, Ent.sub rfl ?_, ?_⟩
        · (repeat' (first | exact trivial | exact rfl | refine And.intro ?_ ?_))
          exact congrArg (AV.fz LB) eb.symm
        (repeat' (first | exact trivial | exact fun h => h | refine And.intro ?_ ?_ | (intro hb; first | (simp at hb; done) | (simp at hb) | skip) | omega | exact rfl | exact Nat.le_refl _ | (show _ + 1 ≤ 4294967296; omega) | (dsimp only; omega) | (show (_ : Int) ≤ (_ : Int); omega) | (show _ < List.length _; simp only [List.length_set, List.length_append, List.length_take]; omega) | (show wantB _ _ = true; simp; done) | (show wantB _ _ = true; simp; omega) | (show (_ : Bool) = _; simp_all; done) | (exfalso; omega) | refine aRegion_auto (by decide +kernel) ?_ | fail))
        refine acall_frame0 rfl (summed_any _ s b (by omega) _ ?_)
        obtain ⟨s2, es2⟩ : ∃ z, z = sumB s b := ⟨_, rfl⟩
        rw [← es2]
        have hsl : ∀ m : Nat, List.take (Int.toNat (b.length : Int) - Int.toNat (m : Int)) (List.drop (Int.toNat (m : Int)) b) = b.drop m := fun m => by
          rw [Int.toNat_natCast, Int.toNat_natCast, List.take_of_length_le (by rw [List.length_drop]; exact Nat.le_refl _)]
        obtain ⟨x1, ex1⟩ : ∃ z, z = gI (b.take 8) := ⟨_, rfl⟩
        obtain ⟨x2, ex2⟩ : ∃ z, z = gI ((b.drop 8).take 8) := ⟨_, rfl⟩
        obtain ⟨x3, ex3⟩ : ∃ z, z = gI ((b.drop 16).take 8) := ⟨_, rfl⟩
        obtain ⟨x4, ex4⟩ : ∃ z, z = byN (List.take (Int.toNat (b.length : Int) - Int.toNat ((25 : Nat) : Int)) (List.drop (Int.toNat ((25 : Nat) : Int)) b)) := ⟨_, rfl⟩
        have hprs : prs b = (x1, x2, x3, x4) := by rw [ex1, ex2, ex3, ex4, hsl 25]; rfl
        have q8 : (8 : Int) ≤ (b.length : Int) := by omega
        have q16 : (16 : Int) ≤ (b.length : Int) := by omega
        have q25 : (25 : Int) ≤ (b.length : Int) := by omega
        let B : List AO := dkA W H f (nw f L) (tl0 W H) L ad 0
        let Z : AO := .box [.fz int 0, .fz int 0, .fz int 0, .fz .str ByteArray.empty]
        let Y : AO := .box [.fz int x1, .fz int x2, .fz int x3, .fz .str x4]
        (repeat' (first | exact trivial | exact fun h => h | refine And.intro ?_ ?_ | (intro hb; first | (simp at hb; done) | (simp at hb) | skip) | omega | exact rfl | exact Nat.le_refl _ | (show _ + 1 ≤ 4294967296; omega) | (dsimp only; omega) | (show (_ : Int) ≤ (_ : Int); omega) | (show _ < List.length _; simp only [List.length_set, List.length_append, List.length_take]; omega) | (show wantB _ _ = true; simp; done) | (show wantB _ _ = true; simp; omega) | (show (_ : Bool) = _; simp_all; done) | (exfalso; omega) | refine aRegion_auto (by decide +kernel) ?_ | fail))
        refine aRegion_open 0 (by decide +kernel) ?_
        (repeat' (first | exact trivial | exact fun h => h | refine And.intro ?_ ?_ | (intro hb; first | (simp at hb; done) | (simp at hb) | skip) | omega | exact rfl | exact Nat.le_refl _ | (show _ + 1 ≤ 4294967296; omega) | (dsimp only; omega) | (show (_ : Int) ≤ (_ : Int); omega) | (show _ < List.length _; simp only [List.length_set, List.length_append, List.length_take]; omega) | (show wantB _ _ = true; simp; done) | (show wantB _ _ = true; simp; omega) | (show (_ : Bool) = _; simp_all; done) | (exfalso; omega) | refine aRegion_auto (by decide +kernel) ?_ | fail))
        refine eff_is (.fz int x1) B ?_
        (repeat' (first | exact trivial | exact fun h => h | refine And.intro ?_ ?_ | (intro hb; first | (simp at hb; done) | (simp at hb) | skip) | omega | exact rfl | exact Nat.le_refl _ | (show _ + 1 ≤ 4294967296; omega) | (dsimp only; omega) | (show (_ : Int) ≤ (_ : Int); omega) | (show _ < List.length _; simp only [List.length_set, List.length_append, List.length_take]; omega) | (show wantB _ _ = true; simp; done) | (show wantB _ _ = true; simp; omega) | (show (_ : Bool) = _; simp_all; done) | (exfalso; omega) | refine aRegion_auto (by decide +kernel) ?_ | fail))
        · exact q8
        · exact Int.le_refl _
        refine eff_is (.fz int x2) B ?_
        (repeat' (first | exact trivial | exact fun h => h | refine And.intro ?_ ?_ | (intro hb; first | (simp at hb; done) | (simp at hb) | skip) | omega | exact rfl | exact Nat.le_refl _ | (show _ + 1 ≤ 4294967296; omega) | (dsimp only; omega) | (show (_ : Int) ≤ (_ : Int); omega) | (show _ < List.length _; simp only [List.length_set, List.length_append, List.length_take]; omega) | (show wantB _ _ = true; simp; done) | (show wantB _ _ = true; simp; omega) | (show (_ : Bool) = _; simp_all; done) | (exfalso; omega) | refine aRegion_auto (by decide +kernel) ?_ | fail))
        · exact q16
        · exact Int.le_refl _
        refine eff_is (.fz int x3) B ?_
        (repeat' (first | exact trivial | exact fun h => h | refine And.intro ?_ ?_ | (intro hb; first | (simp at hb; done) | (simp at hb) | skip) | omega | exact rfl | exact Nat.le_refl _ | (show _ + 1 ≤ 4294967296; omega) | (dsimp only; omega) | (show (_ : Int) ≤ (_ : Int); omega) | (show _ < List.length _; simp only [List.length_set, List.length_append, List.length_take]; omega) | (show wantB _ _ = true; simp; done) | (show wantB _ _ = true; simp; omega) | (show (_ : Bool) = _; simp_all; done) | (exfalso; omega) | refine aRegion_auto (by decide +kernel) ?_ | fail))
        · exact q25
        · exact Int.le_refl _
        refine eff_is (.ptr 5 0) (B ++ [Z]) ?_
        (repeat' (first | exact trivial | exact fun h => h | refine And.intro ?_ ?_ | (intro hb; first | (simp at hb; done) | (simp at hb) | skip) | omega | exact rfl | exact Nat.le_refl _ | (show _ + 1 ≤ 4294967296; omega) | (dsimp only; omega) | (show (_ : Int) ≤ (_ : Int); omega) | (show _ < List.length _; simp only [List.length_set, List.length_append, List.length_take]; omega) | (show wantB _ _ = true; simp; done) | (show wantB _ _ = true; simp; omega) | (show (_ : Bool) = _; simp_all; done) | (exfalso; omega) | refine aRegion_auto (by decide +kernel) ?_ | fail))
        refine eff_is .unk (B ++ [Y]) ?_
        refine ⟨[(0, B), (2, B), (4096, B ++ [Z]), (18, B), (4098, B ++ [Z]), (146, B), (4114, B ++ [Z]), (4242, B ++ [Z]), (12434, B ++ [Y])], rfl, rfl, ?_, ?_⟩
        · (repeat' (first | refine And.intro ?_ ?_ | exact trivial | exact rfl | omega))
          all_goals (first | exact q8 | exact q16 | exact q25 | exact Int.le_refl _ | skip)
          · refine acall_frame0 rfl ((get_any _ (b) (by omega) (hbb) _ ?_))
            rw [← ex1]
            refine view_of [0, 1, 2, 3, 4] rfl ?_ rfl rfl
            (repeat' (first | exact trivial | exact rfl | refine And.intro ?_ ?_))
          · refine view_of [0, 1, 2, 3, 4, 5] rfl ?_ rfl rfl
            (repeat' (first | exact trivial | exact rfl | refine And.intro ?_ ?_))
          · refine acall_frame0 rfl (acall_arg (get_any _ (b.drop 8) (by rw [List.length_drop]; omega) (byt_drop hbb 8) _ ?_) (congrArg (fun z => [AV.fz LB z]) (hsl 8).symm))
            rw [← ex2]
            refine view_of [0, 1, 2, 3, 4] rfl ?_ rfl rfl
            (repeat' (first | exact trivial | exact rfl | refine And.intro ?_ ?_))
          · refine view_of [0, 1, 2, 3, 4, 5] rfl ?_ rfl rfl
            (repeat' (first | exact trivial | exact rfl | refine And.intro ?_ ?_))
          · refine acall_frame0 rfl ((get_any _ (b) (by omega) (hbb) _ ?_))
            rw [← ex1]
            refine view_of [0, 1, 2, 3, 4, 5] rfl ?_ rfl rfl
            (repeat' (first | exact trivial | exact rfl | refine And.intro ?_ ?_))
          · refine acall_frame0 rfl (acall_arg (get_any _ (b.drop 16) (by rw [List.length_drop]; omega) (byt_drop hbb 16) _ ?_) (congrArg (fun z => [AV.fz LB z]) (hsl 16).symm))
            rw [← ex3]
            refine view_of [0, 1, 2, 3, 4] rfl ?_ rfl rfl
            (repeat' (first | exact trivial | exact rfl | refine And.intro ?_ ?_))
          · refine view_of [0, 1, 2, 3, 4, 5] rfl ?_ rfl rfl
            (repeat' (first | exact trivial | exact rfl | refine And.intro ?_ ?_))
          · refine acall_frame0 rfl (acall_arg (get_any _ (b.drop 8) (by rw [List.length_drop]; omega) (byt_drop hbb 8) _ ?_) (congrArg (fun z => [AV.fz LB z]) (hsl 8).symm))
            rw [← ex2]
            refine view_of [0, 1, 2, 3, 4, 5] rfl ?_ rfl rfl
            (repeat' (first | exact trivial | exact rfl | refine And.intro ?_ ?_))
          · refine view_of [0, 1, 2, 3, 4, 5] rfl ?_ rfl rfl
            (repeat' (first | exact trivial | exact rfl | refine And.intro ?_ ?_))
          · refine acall_frame0 rfl (acall_arg (get_any _ (b.drop 16) (by rw [List.length_drop]; omega) (byt_drop hbb 16) _ ?_) (congrArg (fun z => [AV.fz LB z]) (hsl 16).symm))
            rw [← ex3]
            refine view_of [0, 1, 2, 3, 4, 5] rfl ?_ rfl rfl
            (repeat' (first | exact trivial | exact rfl | refine And.intro ?_ ?_))
          · refine view_of [0, 1, 2, 3, 4, 5] rfl ?_ rfl rfl
            (repeat' (first | exact trivial | exact rfl | refine And.intro ?_ ?_))
            exact congrArg (fun z => some (AO.box [.fz int x1, .fz int x2, .fz int x3, .fz .str z])) ex4.symm
        have hbr : b.length = rl bs := by rw [hbl, k3]
        have hgs : ∀ v : Int, bs.getD (Int.toNat (b.length : Int)) U8.dft = v ↔ bs.getD (rl bs) 0 = v := fun v => by rw [Int.toNat_natCast, hbr]; rfl
        have stop2 : (bs.getD (rl bs) 0 ≠ s2 ∨ eerr n L (x1, x2, x3, x4) ≠ 0) → K (.tup [.ptr 0 0, .fz int c, .fz .raw .nilIface]) (dkA W H f (nw f L) (tl0 W H) L ad 0) := fun h => stop (Bool.eq_false_iff.2 fun h2 => by
          obtain ⟨_, _, j1, j2⟩ := okN_len h2
          rw [← eb, ← es2] at j1
          rw [← eb, hprs] at j2
          rcases h with h | h
          · exact h j1
          · exact h j2)
        have step : bs.getD (rl bs) 0 = s2 → eerr n L (x1, x2, x3, x4) = 0 → opn n bs s (L, ad) c = opn n (bs.drop (rl bs + 1)) s2 (stp n (L, ad) (x1, x2, x3, x4)) (c + 1) := fun j1 j2 => by
          have : okN n bs s (L, ad) = true := by
            unfold okN
            rw [← eb, hprs, ← es2, decide_eq_true h26, decide_eq_true hrl, decide_eq_true j1, decide_eq_true j2]; rfl
          rw [opn_step this, ← eb, hprs, ← es2]
        (repeat' (first | exact trivial | exact fun h => h | refine And.intro ?_ ?_ | (intro hb; first | (simp at hb; done) | (simp at hb) | skip) | omega | exact rfl | exact Nat.le_refl _ | (show _ + 1 ≤ 4294967296; omega) | (dsimp only; omega) | (show (_ : Int) ≤ (_ : Int); omega) | (show _ < List.length _; simp only [List.length_set, List.length_append, List.length_take]; omega) | (show wantB _ _ = true; simp; done) | (show wantB _ _ = true; simp; omega) | (show (_ : Bool) = _; simp_all; done) | (exfalso; omega) | refine aRegion_auto (by decide +kernel) ?_ | fail))
        · have hb3 : bs.getD (rl bs) 0 = s2 := by
            have h : bs[b.length]?.getD U8.dft = s2 := by assumption
            rw [hbr] at h; exact h
          have nxt : ∀ L2 ad2, stp n (L, ad) (x1, x2, x3, x4) = (L2, ad2) → eerr n L (x1, x2, x3, x4) = 0 → byt (bs.drop (rl bs + 1)) ∧ DOk n (c + 1) (L2, ad2) ∧ 26 * (c + 1) + (bs.drop (rl bs + 1)).length ≤ bs0.length ∧ opn n (bs.drop (rl bs + 1)) s2 (L2, ad2) (c + 1) = opn n bs0 0 ([], []) 0 := fun L2 ad2 h1 h2 => by
            have hok2 := hok.step (x1, x2, x3, x4)
            rw [h1] at hok2
            refine ⟨byt_drop ‹byt bs› _, hok2, by rw [List.length_drop]; omega, ?_⟩
            rw [← h1, ← step hb3 h2]; exact hop
          have hsd : List.take (Int.toNat (bs.length : Int) - Int.toNat ((b.length : Int) + 1)) (List.drop (Int.toNat ((b.length : Int) + 1)) bs) = bs.drop (rl bs + 1) := by
            rw [show Int.toNat ((b.length : Int) + 1) = rl bs + 1 by omega, Int.toNat_natCast, List.take_of_length_le (by rw [List.length_drop]; exact Nat.le_refl _)]
          refine acall_conv [.keep, .dat EdT] _ _ _ rfl trivial (acall_frame [0, 1, 2, 3, 4] (dkA W H f (nw f L) (tl0 W H) L ad 0) [.ptr 0 0, .fz EdT (x1, x2, x3, x4)] rfl ?_ ⟨rfl, rfl⟩ rfl (do_any E W H f (nw f L) (tl0 W H) L ad 0 (x1, x2, x3, x4) (by omega) (by omega) (by omega) (by omega) (by omega) o1 (by omega) (by omega) _ (fun q hq he => ?_) (fun he hh => ?_) (fun he hh => ?_)))
          · (repeat' (first | exact trivial | exact rfl | refine And.intro ?_ ?_))
          · rw [hnl, ← en] at he
            have hK := stop2 (.inr (by omega))
            rw [er_ea E hq]
            (repeat' (first | exact trivial | exact fun h => h | refine And.intro ?_ ?_ | (intro hb; first | (simp at hb; done) | (simp at hb) | skip) | omega | exact rfl | exact Nat.le_refl _ | (show _ + 1 ≤ 4294967296; omega) | (dsimp only; omega) | (show (_ : Int) ≤ (_ : Int); omega) | (show _ < List.length _; simp only [List.length_set, List.length_append, List.length_take]; omega) | (show wantB _ _ = true; simp; done) | (show wantB _ _ = true; simp; omega) | (show (_ : Bool) = _; simp_all; done) | (exfalso; omega) | refine aRegion_auto (by decide +kernel) ?_ | fail))
            refine ⟨_, _, REnt.ren [0, 1, 2, 3, 4] rfl ?_ ?_, hK⟩
            · (repeat' (first | exact trivial | exact rfl | refine And.intro ?_ ?_))
            · (repeat' (first | exact trivial | exact rfl | refine And.intro ?_ ?_))
          · rw [hnl, ← en] at he
            have hst : stp n (L, ad) (x1, x2, x3, x4) = (L, ad) := if_neg fun c => by have c2 : hasE L (x1, x2, x3, x4) = false := c.2; rw [hh] at c2; cases c2
            (repeat' (first | exact trivial | exact fun h => h | refine And.intro ?_ ?_ | (intro hb; first | (simp at hb; done) | (simp at hb) | skip) | omega | exact rfl | exact Nat.le_refl _ | (show _ + 1 ≤ 4294967296; omega) | (dsimp only; omega) | (show (_ : Int) ≤ (_ : Int); omega) | (show _ < List.length _; simp only [List.length_set, List.length_append, List.length_take]; omega) | (show wantB _ _ = true; simp; done) | (show wantB _ _ = true; simp; omega) | (show (_ : Bool) = _; simp_all; done) | (exfalso; omega) | refine aRegion_auto (by decide +kernel) ?_ | fail))
            · exact (show (b.length : Int) + 1 ≤ (bs.length : Int) by omega)
            · exact Int.le_refl _
            refine ⟨(bs.drop (rl bs + 1), s2, (L, ad), c + 1), nxt _ _ hst he, by show (bs.drop (rl bs + 1)).length < bs.length; rw [List.length_drop]; omega, Ent.ren [0, 1, 2, 3, 4] rfl ?_ ?_⟩
            · (repeat' (first | exact trivial | exact rfl | refine And.intro ?_ ?_))
            · (repeat' (first | exact trivial | exact rfl | refine And.intro ?_ ?_))
              exact congrArg (AV.fz LB) hsd
          · rw [hnl, ← en] at he
            have hst : stp n (L, ad) (x1, x2, x3, x4) = (ins L (x1, x2, x3, x4), ad ++ [(x1, x2, x3, x4)]) := if_pos ⟨he, hh⟩
            obtain ⟨c1, c2, _⟩ := chk_ok (eerr_chk0 he)
            rw [nowP_nw o1 (fun x hx => (o2 x hx).1) c1 (by rw [← en]; exact c2), tlP_tl0]
            (repeat' (first | exact trivial | exact fun h => h | refine And.intro ?_ ?_ | (intro hb; first | (simp at hb; done) | (simp at hb) | skip) | omega | exact rfl | exact Nat.le_refl _ | (show _ + 1 ≤ 4294967296; omega) | (dsimp only; omega) | (show (_ : Int) ≤ (_ : Int); omega) | (show _ < List.length _; simp only [List.length_set, List.length_append, List.length_take]; omega) | (show wantB _ _ = true; simp; done) | (show wantB _ _ = true; simp; omega) | (show (_ : Bool) = _; simp_all; done) | (exfalso; omega) | refine aRegion_auto (by decide +kernel) ?_ | fail))
            · exact (show (b.length : Int) + 1 ≤ (bs.length : Int) by omega)
            · exact Int.le_refl _
            refine ⟨(bs.drop (rl bs + 1), s2, (ins L (x1, x2, x3, x4), ad ++ [(x1, x2, x3, x4)]), c + 1), nxt _ _ hst he, by show (bs.drop (rl bs + 1)).length < bs.length; rw [List.length_drop]; omega, Ent.ren [0, 1, 2, 6, 7] rfl ?_ ?_⟩
            · (repeat' (first | exact trivial | exact rfl | refine And.intro ?_ ?_))
            · (repeat' (first | exact trivial | exact rfl | refine And.intro ?_ ?_))
              exact congrArg (AV.fz LB) hsd
        · have h : ¬ bs[b.length]?.getD U8.dft = s2 := by assumption
          rw [bne_iff_ne]
          exact h
        · have h : ¬ bs[b.length]?.getD U8.dft = s2 := by assumption
          rw [hbr] at h
          have hK := stop2 (.inl h)
          (repeat' (first | exact trivial | exact fun h => h | refine And.intro ?_ ?_ | (intro hb; first | (simp at hb; done) | (simp at hb) | skip) | omega | exact rfl | exact Nat.le_refl _ | (show _ + 1 ≤ 4294967296; omega) | (dsimp only; omega) | (show (_ : Int) ≤ (_ : Int); omega) | (show _ < List.length _; simp only [List.length_set, List.length_append, List.length_take]; omega) | (show wantB _ _ = true; simp; done) | (show wantB _ _ = true; simp; omega) | (show (_ : Bool) = _; simp_all; done) | (exfalso; omega) | refine aRegion_auto (by decide +kernel) ?_ | fail))
          refine ⟨_, _, REnt.ren [0, 1, 2, 3, 4] rfl ?_ ?_, hK⟩
          · (repeat' (first | exact trivial | exact rfl | refine And.intro ?_ ?_))
          · (repeat' (first | exact trivial | exact rfl | refine And.intro ?_ ?_))
      · have hb : 25 < (bs.length : Int) → (bs.length : Int) ≤ 25 + bs[24]?.getD U8.dft := by assumption
        rw [g24b] at hb
        have hb2 : (bs.length : Int) ≤ 25 + (k : Int) := hb (by omega)
        have hK := stop (okN_not1 (fun h => by omega))
        (repeat' (first | exact trivial | exact fun h => h | refine And.intro ?_ ?_ | (intro hb; first | (simp at hb; done) | (simp at hb) | skip) | omega | exact rfl | exact Nat.le_refl _ | (show _ + 1 ≤ 4294967296; omega) | (dsimp only; omega) | (show (_ : Int) ≤ (_ : Int); omega) | (show _ < List.length _; simp only [List.length_set, List.length_append, List.length_take]; omega) | (show wantB _ _ = true; simp; done) | (show wantB _ _ = true; simp; omega) | (show (_ : Bool) = _; simp_all; done) | (exfalso; omega) | refine aRegion_auto (by decide +kernel) ?_ | fail))
        exact ⟨_, _, REnt.refl _ _ _, hK⟩
    · have hK := stop (okN_not1 (fun h => h26 h.1))
      (repeat' (first | exact trivial | exact fun h => h | refine And.intro ?_ ?_ | (intro hb; first | (simp at hb; done) | (simp at hb) | skip) | omega | exact rfl | exact Nat.le_refl _ | (show _ + 1 ≤ 4294967296; omega) | (dsimp only; omega) | (show (_ : Int) ≤ (_ : Int); omega) | (show _ < List.length _; simp only [List.length_set, List.length_append, List.length_take]; omega) | (show wantB _ _ = true; simp; done) | (show wantB _ _ = true; simp; omega) | (show (_ : Bool) = _; simp_all; done) | (exfalso; omega) | refine aRegion_auto (by decide +kernel) ?_ | fail))
      exact ⟨_, _, REnt.refl _ _ _, hK⟩
end Go.Proofs.YtiflieijbmaocaaDoor
/-
  A log opened: the document's walk.
-/
namespace Go.Proofs.YtiflieijbmaocaaDoor
open Go Go.Ab Go.RowKit
set_option maxRecDepth 100000
open Dk
theorem seg_of {bs0 : List Int} {t k : Nat} (i m : Nat) (h : i + m ≤ 25 + k) : List.take (Int.toNat (((t + i + m : Nat) : Int)) - Int.toNat (((t + i : Nat) : Int))) (List.drop (Int.toNat (((t + i : Nat) : Int))) bs0) = ((((bs0.drop t).take (25 + k)).drop i).take m) := by
  rw [Int.toNat_natCast, Int.toNat_natCast, List.drop_take, List.take_take, List.drop_drop, show t + i + m - (t + i) = m by omega, Nat.min_eq_left (by omega)]
theorem lg_app (l : List E) (e : E) : lgL (l ++ [e]) = lgS (lgL l) e := by unfold lgL; rw [List.foldl_append]; rfl
/-- what the document compares -/
theorem pre_of {bs0 : List Int} {t r : Nat} (ht : t + r + 1 ≤ bs0.length) : bs0.take (t + r + 1) = bs0.take t ++ (bs0.drop t).take r ++ [(bs0.drop t).getD r 0] := by
  rw [List.append_assoc, show t + r + 1 = t + (r + 1) by omega, List.take_add, List.take_succ_eq_append_getElem (i := r) (by rw [List.length_drop]; omega)]
  congr 3
  simp [List.getD, List.getElem?_drop, show t + r < bs0.length by omega]
theorem byN_inj {x y : List Int} (hx : byt x) (hy : byt y) : ((byN x).toList == (byN y).toList) = decide (x = y) := by
  rw [Bool.eq_iff_iff, beq_iff_eq, decide_eq_true_iff]
  constructor
  · intro h
    have := toList_inj h
    rw [← byN_bytes x hx, ← byN_bytes y hy, this]
  · intro h; rw [h]
theorem byt_lgS {t : List Int × Int} (e : E) (h : byt t.1 ∧ 0 ≤ t.2 ∧ t.2 < 256) : byt (lgS t e).1 ∧ 0 ≤ (lgS t e).2 ∧ (lgS t e).2 < 256 := by
  have h2 := lgS_in e h.2
  refine ⟨?_, h2⟩
  have h3 := sumB_in (b := edB e) h.2
  unfold lgS
  generalize hs : sumB t.2 (edB e) = z at *
  have hb := byt_edB e
  generalize edB e = b at *
  dsimp only
  refine byt_app (byt_app h.1 hb) fun c hc => ?_
  rw [List.mem_singleton] at hc
  rw [hc]; exact h3
theorem byt_lgL (l : List E) : byt (lgL l).1 ∧ 0 ≤ (lgL l).2 ∧ (lgL l).2 < 256 := by
  have key : ∀ (l : List E) (t : List Int × Int), (byt t.1 ∧ 0 ≤ t.2 ∧ t.2 < 256) → byt (l.foldl lgS t).1 ∧ 0 ≤ (l.foldl lgS t).2 ∧ (l.foldl lgS t).2 < 256 := by
    intro l
    induction l with
    | nil => intro t h; exact h
    | cons e l ih =>
      intro t h
      rw [List.foldl_cons]
      have h2 := byt_lgS e h
      revert h2
      generalize lgS t e = u
      exact ih u
  exact key l ([], 0) ⟨(fun _ h => nomatch h), Int.le_refl _, (by decide : (0 : Int) < 256)⟩
abbrev Dof := Nat × List E × Dd × Nat
set_option maxHeartbeats 32000000 in
theorem deskOf_any (G : List (Nat × Value)) (a : Ras) (bs0 : List Int) (hb0 : byt bs0) (hl0 : bs0.length ≤ 5000) (hf : a.2.2.length ≤ 1000000) (K : AV → List AO → Prop)
    (h1 : ∀ (L ad : List E) (c : Nat), opn a.2.2.length bs0 0 ([], []) 0 = ((L, ad), c) → K (.tup [.ptr 0 0, .fz int c]) (rfA a.1 a.2.1 a.2.2 L ad)) :
    ACall Tryd.prog G 14 [.fz RasT a, .fz LB bs0] [] K := by
  obtain ⟨W, H, f⟩ := a
  have hf : f.length ≤ 1000000 := hf
  obtain ⟨n, en⟩ : ∃ n, n = f.length := ⟨_, rfl⟩
  have h1 : ∀ (L ad : List E) (c : Nat), opn n bs0 0 ([], []) 0 = ((L, ad), c) → K (.tup [.ptr 0 0, .fz int c]) (rfA W H f L ad) := by rw [en]; exact h1
  refine acall_mk (E := envCut G 104 0 [8, 9, 13, 14]) (envCutOk _ _ _ _) Tryd.func14 rfl rfl rfl rfl rfl ?_
  (repeat' (first | exact trivial | exact fun h => h | refine And.intro ?_ ?_ | (intro hb; first | (simp at hb; done) | (simp at hb) | skip) | omega | exact rfl | exact Nat.le_refl _ | (show _ + 1 ≤ 4294967296; omega) | (dsimp only; omega) | (show (_ : Int) ≤ (_ : Int); omega) | (show _ < List.length _; simp only [List.length_set, List.length_append, List.length_take]; omega) | (show wantB _ _ = true; simp; done) | (show wantB _ _ = true; simp; omega) | (show (_ : Bool) = _; simp_all; done) | (exfalso; omega) | refine aRegion_auto (by decide +kernel) ?_ | fail))
  have n1 := Ent.nilBox (n0 := 0) (T := [(1, .fz LB bs0), (6, .ptr 0 0), (7, .fz int 0), (8, .fz int 0), (9, .nilSl)]) (A := [.box [.fz int W, .fz int H, .fz LI f, .nilSl, .nilSl]]) 0 3 EdT rfl rfl
  have n2 := n1.trans (Ent.nilBox 0 4 EdT rfl rfl)
  have n3 := n2.trans (Ent.nil 9 EdT rfl)
  refine ⟨Dof, fun x => ⟨[(1, .fz LB bs0), (6, .ptr 0 0), (7, .fz int x.2.2.2), (8, .fz int x.1), (9, .ref 3 0 x.2.1.length)], rfA W H f x.2.2.1.1 x.2.2.1.2 ++ [.row EdT x.2.1]⟩, fun x => x.1 ≤ bs0.length ∧ (lgL x.2.1).1 = bs0.take x.1 ∧ opn n (bs0.drop x.1) (lgL x.2.1).2 x.2.2.1 x.2.2.2 = opn n bs0 0 ([], []) 0 ∧ DOk n x.2.2.2 x.2.2.1 ∧ x.2.1.length = x.2.2.2 ∧ (∀ y ∈ x.2.1, y.2.2.2.size ≤ 20) ∧ 26 * x.2.2.2 ≤ x.1, fun x => bs0.length - x.1, (0, [], ([], []), 0), ⟨Nat.zero_le _, rfl, rfl, DOk.nil n, rfl, (fun _ h => nomatch h), Nat.le_refl _⟩, ((Ent.ren [1] rfl ?_ ?_).trans n3).trans (Ent.sub rfl ?_), ?_⟩
  · (repeat' (first | exact trivial | exact rfl | refine And.intro ?_ ?_))
  · (repeat' (first | exact trivial | exact rfl | refine And.intro ?_ ?_))
  · (repeat' (first | exact trivial | exact rfl | refine And.intro ?_ ?_))
  rintro ⟨t, cm, ⟨L, ad⟩, c⟩ ⟨ht, hlg, hop, hok, hcl, hby, h26c⟩
  have ht : t ≤ bs0.length := ht
  have hlg : (lgL cm).1 = bs0.take t := hlg
  have hop : opn n (bs0.drop t) (lgL cm).2 (L, ad) c = opn n bs0 0 ([], []) 0 := hop
  have hcl : cm.length = c := hcl
  have hby : ∀ y ∈ cm, y.2.2.2.size ≤ 20 := hby
  have h26c : 26 * c ≤ t := h26c
  have o1 : Srt L := hok.srt
  have o2 : ∀ x ∈ L, 0 ≤ x.1 ∧ x.1 < (n : Int) := hok.inn
  have o3 : L.length ≤ c := hok.len
  have o4 : ad.length ≤ c := hok.ad
  have hok : DOk n c (L, ad) := hok
  obtain ⟨s, es⟩ : ∃ s, s = (lgL cm).2 := ⟨_, rfl⟩
  rw [← es] at hop
  obtain ⟨bs, ebs⟩ : ∃ bs, bs = bs0.drop t := ⟨_, rfl⟩
  have hbl0 : bs.length = bs0.length - t := by rw [ebs, List.length_drop]
  have hbb : byt bs := by rw [ebs]; exact byt_drop hb0 _
  rw [← ebs] at hop
  have stop : okN n bs s (L, ad) = false → K (.tup [.ptr 0 0, .fz int c]) (rfA W H f L ad) := fun h => by
    rw [opn_stop h] at hop
    exact h1 L ad c hop.symm
  show awp _ _ _ ⟨[(1, .fz LB bs0), (6, .ptr 0 0), (7, .fz int c), (8, .fz int t), (9, .ref 3 0 cm.length)], rfA W H f L ad ++ [.row EdT cm]⟩
  by_cases h26 : 26 ≤ bs.length
  · obtain ⟨k, k1, k2, k3, k4⟩ := rl_in hbb (by omega)
    have e24 : bs0[t + 24]? = some (k : Int) := by rw [ebs, List.getElem?_drop] at k1; exact k1
    have g24 : bs0.getD (Int.toNat ((t : Int) + 24)) U8.dft = (k : Int) := by
      rw [show Int.toNat ((t : Int) + 24) = t + 24 by omega, List.getD_eq_getElem?_getD, e24]; rfl
    have g24b : bs0[Int.toNat ((t : Int) + 24)]?.getD U8.dft = (k : Int) := by
      rw [show Int.toNat ((t : Int) + 24) = t + 24 by omega, e24]; rfl
    (repeat' (first | exact trivial | exact fun h => h | refine And.intro ?_ ?_ | (intro hb; first | (simp at hb; done) | (simp at hb) | skip) | omega | exact rfl | exact Nat.le_refl _ | (show _ + 1 ≤ 4294967296; omega) | (dsimp only; omega) | (show (_ : Int) ≤ (_ : Int); omega) | (show _ < List.length _; simp only [List.length_set, List.length_append, List.length_take]; omega) | (show wantB _ _ = true; simp; done) | (show wantB _ _ = true; simp; omega) | (show (_ : Bool) = _; simp_all; done) | (exfalso; omega) | refine aRegion_auto (by decide +kernel) ?_ | fail))
    · have hbx : (bs0.length : Int) < (t : Int) + 26 + bs0[Int.toNat ((t : Int) + 24)]?.getD U8.dft := by assumption
      rw [g24b] at hbx
      have hbx : (bs0.length : Int) < (t : Int) + 26 + (k : Int) := hbx
      have hK := stop (okN_not1 fun h => by have := h.2; omega)
      (repeat' (first | exact trivial | exact fun h => h | refine And.intro ?_ ?_ | (intro hb; first | (simp at hb; done) | (simp at hb) | skip) | omega | exact rfl | exact Nat.le_refl _ | (show _ + 1 ≤ 4294967296; omega) | (dsimp only; omega) | (show (_ : Int) ≤ (_ : Int); omega) | (show _ < List.length _; simp only [List.length_set, List.length_append, List.length_take]; omega) | (show wantB _ _ = true; simp; done) | (show wantB _ _ = true; simp; omega) | (show (_ : Bool) = _; simp_all; done) | (exfalso; omega) | refine aRegion_auto (by decide +kernel) ?_ | fail))
      refine ⟨_, _, REnt.ren [0, 1, 2] rfl ?_ ?_, hK⟩
      · (repeat' (first | exact trivial | exact rfl | refine And.intro ?_ ?_))
      · (repeat' (first | exact trivial | exact rfl | refine And.intro ?_ ?_))
    · have hbx : ¬ (bs0.length : Int) < (t : Int) + 26 + bs0[Int.toNat ((t : Int) + 24)]?.getD U8.dft := by first | assumption | exact Int.not_lt.2 (by assumption)
      rw [g24b] at hbx
      have hbx : ¬ (bs0.length : Int) < (t : Int) + 26 + (k : Int) := hbx
      have hrl : rl bs + 1 ≤ bs.length := by omega
      obtain ⟨b, eb⟩ : ∃ b, b = bs.take (rl bs) := ⟨_, rfl⟩
      have hb1 : byt b := by rw [eb]; exact byt_take hbb _
      have hbl : b.length = 25 + k := by rw [eb, List.length_take]; omega
      have eb2 : b = (bs0.drop t).take (25 + k) := by rw [eb, k3, ebs]
      have seg : ∀ i m, i + m ≤ 25 + k → List.take (t + (i + m) - (t + i)) (List.drop (t + i) bs0) = (b.drop i).take m := fun i m h => by
        rw [eb2, List.drop_take, List.take_take, List.drop_drop, show t + (i + m) - (t + i) = m by omega, Nat.min_eq_left (by omega)]
      have sA : List.take (Int.toNat ((t : Int) + 8) - Int.toNat (t : Int)) (List.drop (Int.toNat (t : Int)) bs0) = b.take 8 := by
        have := seg 0 8 (by omega)
        rw [show Int.toNat ((t : Int) + 8) = t + (0 + 8) by omega, show Int.toNat (t : Int) = t + 0 by omega]
        exact this
      have sB : List.take (Int.toNat ((t : Int) + 16) - Int.toNat ((t : Int) + 8)) (List.drop (Int.toNat ((t : Int) + 8)) bs0) = (b.drop 8).take 8 := by
        rw [show Int.toNat ((t : Int) + 16) = t + (8 + 8) by omega, show Int.toNat ((t : Int) + 8) = t + 8 by omega]
        exact seg 8 8 (by omega)
      have sC : List.take (Int.toNat ((t : Int) + 24) - Int.toNat ((t : Int) + 16)) (List.drop (Int.toNat ((t : Int) + 16)) bs0) = (b.drop 16).take 8 := by
        rw [show Int.toNat ((t : Int) + 24) = t + (16 + 8) by omega, show Int.toNat ((t : Int) + 16) = t + 16 by omega]
        exact seg 16 8 (by omega)
      have sD : List.take (Int.toNat ((t : Int) + 25 + (k : Int)) - Int.toNat ((t : Int) + 25)) (List.drop (Int.toNat ((t : Int) + 25)) bs0) = b.drop 25 := by
        rw [show Int.toNat ((t : Int) + 25 + (k : Int)) = t + (25 + k) by omega, show Int.toNat ((t : Int) + 25) = t + 25 by omega, seg 25 k (by omega), List.take_of_length_le (by rw [List.length_drop]; omega)]
      obtain ⟨x1, ex1⟩ : ∃ z, z = gI (b.take 8) := ⟨_, rfl⟩
      obtain ⟨x2, ex2⟩ : ∃ z, z = gI ((b.drop 8).take 8) := ⟨_, rfl⟩
      obtain ⟨x3, ex3⟩ : ∃ z, z = gI ((b.drop 16).take 8) := ⟨_, rfl⟩
      obtain ⟨x4, ex4⟩ : ∃ z, z = byN (b.drop 25) := ⟨_, rfl⟩
      have hprs : prs b = (x1, x2, x3, x4) := by rw [ex1, ex2, ex3, ex4]; rfl
      let B : List AO := rfA W H f L ad ++ [.row EdT cm]
      let Z : AO := .box [.fz int 0, .fz int 0, .fz int 0, .fz .str ByteArray.empty]
      let Y : AO := .box [.fz int x1, .fz int x2, .fz int x3, .fz .str (byN (b.drop 25))]
      refine ⟨[(1, .fz LB bs0), (6, .ptr 0 0), (7, .fz int c), (8, .fz int t), (9, .ref 3 0 cm.length), (10, .fz int k)], B, Ent.sub rfl ?_, ?_⟩
      · (repeat' (first | exact trivial | exact rfl | refine And.intro ?_ ?_))
        exact congrArg (AV.fz int) g24
      have q1 : (0 : Int) ≤ (t : Int) := Int.natCast_nonneg _
      have q8 : (t : Int) + 8 ≤ (bs0.length : Int) := by omega
      have q16 : (t : Int) + 16 ≤ (bs0.length : Int) := by omega
      have q24 : (t : Int) + 24 ≤ (bs0.length : Int) := by omega
      have q25 : (t : Int) + 25 + (k : Int) ≤ (bs0.length : Int) := by omega
      refine aRegion_open 0 (by decide +kernel) ?_
      (repeat' (first | exact trivial | exact fun h => h | refine And.intro ?_ ?_ | (intro hb; first | (simp at hb; done) | (simp at hb) | skip) | omega | exact rfl | exact Nat.le_refl _ | (show _ + 1 ≤ 4294967296; omega) | (dsimp only; omega) | (show (_ : Int) ≤ (_ : Int); omega) | (show _ < List.length _; simp only [List.length_set, List.length_append, List.length_take]; omega) | (show wantB _ _ = true; simp; done) | (show wantB _ _ = true; simp; omega) | (show (_ : Bool) = _; simp_all; done) | (exfalso; omega) | refine aRegion_auto (by decide +kernel) ?_ | fail))
      refine eff_is (.fz int x1) B ?_
      (repeat' (first | exact trivial | exact fun h => h | refine And.intro ?_ ?_ | (intro hb; first | (simp at hb; done) | (simp at hb) | skip) | omega | exact rfl | exact Nat.le_refl _ | (show _ + 1 ≤ 4294967296; omega) | (dsimp only; omega) | (show (_ : Int) ≤ (_ : Int); omega) | (show _ < List.length _; simp only [List.length_set, List.length_append, List.length_take]; omega) | (show wantB _ _ = true; simp; done) | (show wantB _ _ = true; simp; omega) | (show (_ : Bool) = _; simp_all; done) | (exfalso; omega) | refine aRegion_auto (by decide +kernel) ?_ | fail))
      refine eff_is (.fz int x2) B ?_
      (repeat' (first | exact trivial | exact fun h => h | refine And.intro ?_ ?_ | (intro hb; first | (simp at hb; done) | (simp at hb) | skip) | omega | exact rfl | exact Nat.le_refl _ | (show _ + 1 ≤ 4294967296; omega) | (dsimp only; omega) | (show (_ : Int) ≤ (_ : Int); omega) | (show _ < List.length _; simp only [List.length_set, List.length_append, List.length_take]; omega) | (show wantB _ _ = true; simp; done) | (show wantB _ _ = true; simp; omega) | (show (_ : Bool) = _; simp_all; done) | (exfalso; omega) | refine aRegion_auto (by decide +kernel) ?_ | fail))
      refine eff_is (.fz int x3) B ?_
      (repeat' (first | exact trivial | exact fun h => h | refine And.intro ?_ ?_ | (intro hb; first | (simp at hb; done) | (simp at hb) | skip) | omega | exact rfl | exact Nat.le_refl _ | (show _ + 1 ≤ 4294967296; omega) | (dsimp only; omega) | (show (_ : Int) ≤ (_ : Int); omega) | (show _ < List.length _; simp only [List.length_set, List.length_append, List.length_take]; omega) | (show wantB _ _ = true; simp; done) | (show wantB _ _ = true; simp; omega) | (show (_ : Bool) = _; simp_all; done) | (exfalso; omega) | refine aRegion_auto (by decide +kernel) ?_ | fail))
      refine eff_is (.ptr 4 0) (B ++ [Z]) ?_
      (repeat' (first | exact trivial | exact fun h => h | refine And.intro ?_ ?_ | (intro hb; first | (simp at hb; done) | (simp at hb) | skip) | omega | exact rfl | exact Nat.le_refl _ | (show _ + 1 ≤ 4294967296; omega) | (dsimp only; omega) | (show (_ : Int) ≤ (_ : Int); omega) | (show _ < List.length _; simp only [List.length_set, List.length_append, List.length_take]; omega) | (show wantB _ _ = true; simp; done) | (show wantB _ _ = true; simp; omega) | (show (_ : Bool) = _; simp_all; done) | (exfalso; omega) | refine aRegion_auto (by decide +kernel) ?_ | fail))
      refine eff_is .unk (B ++ [Y]) ?_
      refine ⟨[(0, B), (32, B), (1073741824, B ++ [Z]), (4128, B), (1073741856, B ++ [Z]), (528416, B), (1073745952, B ++ [Z]), (1074270240, B ++ [Z]), (3221753888, B ++ [Y])], rfl, rfl, ?_, ?_⟩
      · (repeat' (first | refine And.intro ?_ ?_ | exact trivial | exact rfl | omega))
        · refine acall_frame0 rfl (acall_arg (numberIn_any _ (b.take 8) (by rw [List.length_take]; omega) (byt_take hb1 8) _ ?_) (congrArg (fun z => [AV.fz LB z]) sA.symm))
          rw [← ex1]
          refine view_of [0, 1, 2, 3] rfl ?_ rfl rfl
          (repeat' (first | exact trivial | exact rfl | refine And.intro ?_ ?_))
        · refine view_of [0, 1, 2, 3, 4] rfl ?_ rfl rfl
          (repeat' (first | exact trivial | exact rfl | refine And.intro ?_ ?_))
        · refine acall_frame0 rfl (acall_arg (numberIn_any _ ((b.drop 8).take 8) (by simp only [List.length_take, List.length_drop]; omega) (byt_take (byt_drop hb1 8) 8) _ ?_) (congrArg (fun z => [AV.fz LB z]) sB.symm))
          rw [← ex2]
          refine view_of [0, 1, 2, 3] rfl ?_ rfl rfl
          (repeat' (first | exact trivial | exact rfl | refine And.intro ?_ ?_))
        · refine view_of [0, 1, 2, 3, 4] rfl ?_ rfl rfl
          (repeat' (first | exact trivial | exact rfl | refine And.intro ?_ ?_))
        · refine acall_frame0 rfl (acall_arg (numberIn_any _ (b.take 8) (by rw [List.length_take]; omega) (byt_take hb1 8) _ ?_) (congrArg (fun z => [AV.fz LB z]) sA.symm))
          rw [← ex1]
          refine view_of [0, 1, 2, 3, 4] rfl ?_ rfl rfl
          (repeat' (first | exact trivial | exact rfl | refine And.intro ?_ ?_))
        · refine acall_frame0 rfl (acall_arg (numberIn_any _ ((b.drop 16).take 8) (by simp only [List.length_take, List.length_drop]; omega) (byt_take (byt_drop hb1 16) 8) _ ?_) (congrArg (fun z => [AV.fz LB z]) sC.symm))
          rw [← ex3]
          refine view_of [0, 1, 2, 3] rfl ?_ rfl rfl
          (repeat' (first | exact trivial | exact rfl | refine And.intro ?_ ?_))
        · refine view_of [0, 1, 2, 3, 4] rfl ?_ rfl rfl
          (repeat' (first | exact trivial | exact rfl | refine And.intro ?_ ?_))
        · refine acall_frame0 rfl (acall_arg (numberIn_any _ ((b.drop 8).take 8) (by simp only [List.length_take, List.length_drop]; omega) (byt_take (byt_drop hb1 8) 8) _ ?_) (congrArg (fun z => [AV.fz LB z]) sB.symm))
          rw [← ex2]
          refine view_of [0, 1, 2, 3, 4] rfl ?_ rfl rfl
          (repeat' (first | exact trivial | exact rfl | refine And.intro ?_ ?_))
        · refine view_of [0, 1, 2, 3, 4] rfl ?_ rfl rfl
          (repeat' (first | exact trivial | exact rfl | refine And.intro ?_ ?_))
        · refine acall_frame0 rfl (acall_arg (numberIn_any _ ((b.drop 16).take 8) (by simp only [List.length_take, List.length_drop]; omega) (byt_take (byt_drop hb1 16) 8) _ ?_) (congrArg (fun z => [AV.fz LB z]) sC.symm))
          rw [← ex3]
          refine view_of [0, 1, 2, 3, 4] rfl ?_ rfl rfl
          (repeat' (first | exact trivial | exact rfl | refine And.intro ?_ ?_))
        · refine view_of [0, 1, 2, 3, 4] rfl ?_ rfl rfl
          (repeat' (first | exact trivial | exact rfl | refine And.intro ?_ ?_))
          exact congrArg (fun z => some (AO.box [.fz int x1, .fz int x2, .fz int x3, .fz .str (byN z)])) sD
      obtain ⟨e, ee⟩ : ∃ e : E, e = (x1, x2, x3, x4) := ⟨_, rfl⟩
      have hprs : prs b = e := hprs.trans ee.symm
      have y1 : x1 = e.1 := by rw [ee]
      have y2 : x2 = e.2.1 := by rw [ee]
      have y3 : x3 = e.2.2.1 := by rw [ee]
      have y4 : byN (b.drop 25) = e.2.2.2 := by rw [ee, ex4]
      let Ye : AO := .box [.fz int e.1, .fz int e.2.1, .fz int e.2.2.1, .fz .str e.2.2.2]
      have hYe : Y = Ye := by show AO.box [.fz int x1, .fz int x2, .fz int x3, .fz .str (byN (b.drop 25))] = _; rw [y1, y2, y3, y4]
      rw [hYe]
      clear_value Y
      have heb : edB e = b := by
        rw [← hprs]
        refine edB_prs hb1 hbl ?_
        rw [eb, List.getElem?_take, if_pos (by omega)]; exact k1
      obtain ⟨s2, es2⟩ : ∃ z, z = sumB s b := ⟨_, rfl⟩
      have hs2 : 0 ≤ s2 ∧ s2 < 256 := by rw [es2, es]; exact sumB_in (lgL_in cm)
      have hln : (lgL (cm ++ [e])).1 = bs0.take t ++ b ++ [s2] ∧ (lgL (cm ++ [e])).2 = s2 := by
        rw [lg_app]
        unfold lgS
        rw [heb, hlg, ← es, ← es2]
        exact ⟨rfl, rfl⟩
      have hpre : bs0.take (t + rl bs + 1) = bs0.take t ++ b ++ [bs.getD (rl bs) 0] := by
        rw [pre_of (by omega), ← ebs, ← eb]
      have stop2 : (bs.getD (rl bs) 0 ≠ s2 ∨ eerr n L e ≠ 0) → K (.tup [.ptr 0 0, .fz int c]) (rfA W H f L ad) := fun h => stop (Bool.eq_false_iff.2 fun h2 => by
        obtain ⟨_, _, j1, j2⟩ := okN_len h2
        rw [← eb, ← es2] at j1
        rw [← eb, hprs] at j2
        rcases h with h | h
        · exact h j1
        · exact h j2)
      have step : bs.getD (rl bs) 0 = s2 → eerr n L e = 0 → opn n bs s (L, ad) c = opn n (bs.drop (rl bs + 1)) s2 (stp n (L, ad) e) (c + 1) := fun j1 j2 => by
        have : okN n bs s (L, ad) = true := by
          unfold okN
          rw [← eb, hprs, ← es2, decide_eq_true h26, decide_eq_true hrl, decide_eq_true j1, decide_eq_true j2]; rfl
        rw [opn_step this, ← eb, hprs, ← es2]
      have tcm : List.take cm.length (List.drop 0 cm) = cm := List.take_length
      have htc : 26 * c + 26 ≤ bs0.length := by omega
      refine ⟨[(1, .fz LB bs0), (6, .ptr 0 0), (7, .fz int c), (8, .fz int t), (9, .ref 3 0 cm.length), (10, .fz int k), (11, .ptr 4 0)], B ++ [Ye], Ent.sub rfl ?_, ?_⟩
      · (repeat' (first | exact trivial | exact rfl | refine And.intro ?_ ?_))
      have hkk : ¬ (255 : Int) < (k : Int) := by omega
      have lcm : (List.take cm.length (List.drop 0 cm)).length = cm.length := by rw [tcm]
      have lc1 : (cm ++ [e]).length = c + 1 := by rw [List.length_append, hcl]; rfl
      have tc1 : List.take (c + 1) (List.drop 0 (cm ++ [e])) = cm ++ [e] := List.take_of_length_le (by show (cm ++ [e]).length ≤ c + 1; omega)
      have tkk : Int.toNat ((t : Int) + 26 + (k : Int)) = t + rl bs + 1 := by omega
      have q26 : (t : Int) + 26 + (k : Int) ≤ (bs0.length : Int) := by omega
      have q26b : (0 : Int) ≤ (t : Int) + 26 + (k : Int) := by omega
      (repeat' (first | exact trivial | exact fun h => h | refine And.intro ?_ ?_ | (intro hb; first | (simp at hb; done) | (simp at hb) | skip) | omega | exact rfl | exact Nat.le_refl _ | (show _ + 1 ≤ 4294967296; omega) | (dsimp only; omega) | (show (_ : Int) ≤ (_ : Int); omega) | (show _ < List.length _; simp only [List.length_set, List.length_append, List.length_take]; omega) | (show wantB _ _ = true; simp; done) | (show wantB _ _ = true; simp; omega) | (show (_ : Bool) = _; simp_all; done) | (exfalso; omega) | refine aRegion_auto (by decide +kernel) ?_ | fail))
      · show (List.take cm.length (List.drop 0 cm)).length + 1 ≤ 4294967296
        rw [lcm]; omega
      refine acall_conv [.keep, .dat EdT] _ _ _ rfl trivial (acall_frame [0, 1, 2] (rfA W H f L ad) [.ptr 0 0, .fz EdT e] rfl ?_ ⟨rfl, rfl⟩ rfl (editError_any _ W H f L ad e (by omega) _ ?_))
      · (repeat' (first | exact trivial | exact rfl | refine And.intro ?_ ?_))
      rw [← en]
      by_cases he : eerr n L e = 0
      · rw [he]
        have hby2 : ∀ y ∈ cm ++ [e], y.2.2.2.size ≤ 20 := fun y hy => by
          rcases List.mem_append.1 hy with hy | hy
          · exact hby y hy
          · rw [List.mem_singleton] at hy
            rw [hy]
            obtain ⟨_, _, _, _, _, _, c7⟩ := chk_ok (eerr_chk0 he)
            exact c7
        (repeat' (first | exact trivial | exact fun h => h | refine And.intro ?_ ?_ | (intro hb; first | (simp at hb; done) | (simp at hb) | skip) | omega | exact rfl | exact Nat.le_refl _ | (show _ + 1 ≤ 4294967296; omega) | (dsimp only; omega) | (show (_ : Int) ≤ (_ : Int); omega) | (show _ < List.length _; simp only [List.length_set, List.length_append, List.length_take]; omega) | (show wantB _ _ = true; simp; done) | (show wantB _ _ = true; simp; omega) | (show (_ : Bool) = _; simp_all; done) | (exfalso; omega) | refine aRegion_auto (by decide +kernel) ?_ | fail))
        refine ⟨[(1, .fz LB bs0), (6, .ptr 0 0), (7, .fz int c), (8, .fz int t), (9, .ref 3 0 cm.length), (10, .fz int k), (11, .ptr 4 0), (12, .ref 5 0 (c + 1))], B ++ [Ye, .row EdT (cm ++ [e])], Ent.ren [0, 1, 2, 3, 4, 7] rfl ?_ ?_, ?_⟩
        · (repeat' (first | exact trivial | exact rfl | refine And.intro ?_ ?_))
          refine congrArg (fun z => some (AO.row EdT z)) (?_ : List.take (List.take cm.length (List.drop 0 cm)).length (List.take cm.length (List.drop 0 cm)) ++ [e] = cm ++ [e])
          rw [tcm, List.take_length]
        · (repeat' (first | exact trivial | exact rfl | refine And.intro ?_ ?_))
          refine congrArg (AV.ref 7 0) (?_ : (List.take cm.length (List.drop 0 cm)).length + 1 = c + 1)
          rw [lcm, hcl]
        (repeat' (first | exact trivial | exact fun h => h | refine And.intro ?_ ?_ | (intro hb; first | (simp at hb; done) | (simp at hb) | skip) | omega | exact rfl | exact Nat.le_refl _ | (show _ + 1 ≤ 4294967296; omega) | (dsimp only; omega) | (show (_ : Int) ≤ (_ : Int); omega) | (show _ < List.length _; simp only [List.length_set, List.length_append, List.length_take]; omega) | (show wantB _ _ = true; simp; done) | (show wantB _ _ = true; simp; omega) | (show (_ : Bool) = _; simp_all; done) | (exfalso; omega) | refine aRegion_auto (by decide +kernel) ?_ | fail))
        refine acall_lend [.dat (.list EdT)] _ _ _ rfl ?_ rfl ?_
        · (repeat' (first | exact trivial | refine And.intro ?_ ?_ | (show _ ≤ _; omega) | (show _ ≤ _; simp; done)))
        refine acall_arg (logOf_any G (cm ++ [e]) (by omega) hby2 _ ?_) (congrArg (fun z => [AV.fz (.list EdT) z]) tc1.symm)
        refine And.intro rfl ?_
        obtain ⟨lg, elg⟩ : ∃ z, z = (lgL (cm ++ [e])).1 := ⟨_, rfl⟩
        have hlgb : byt lg := by rw [elg]; exact (byt_lgL _).1
        rw [← elg]
        (repeat' (first | exact trivial | exact fun h => h | refine And.intro ?_ ?_ | (intro hb; first | (simp at hb; done) | (simp at hb) | skip) | omega | exact rfl | exact Nat.le_refl _ | (show _ + 1 ≤ 4294967296; omega) | (dsimp only; omega) | (show (_ : Int) ≤ (_ : Int); omega) | (show _ < List.length _; simp only [List.length_set, List.length_append, List.length_take]; omega) | (show wantB _ _ = true; simp; done) | (show wantB _ _ = true; simp; omega) | (show (_ : Bool) = _; simp_all; done) | (exfalso; omega) | refine aRegion_auto (by decide +kernel) ?_ | fail))
        refine ⟨[(1, .fz LB bs0), (6, .ptr 0 0), (7, .fz int c), (8, .fz int t), (9, .ref 3 0 cm.length), (10, .fz int k), (11, .ptr 4 0), (12, .ref 5 0 (c + 1)), (13, .fz LB lg)], B ++ [Ye, .row EdT (cm ++ [e])], (Ent.conv 13 (.dat LB) _ rfl ?_).trans (Ent.ren [0, 1, 2, 3, 4, 5] rfl ?_ ?_), ?_⟩
        · (repeat' (first | exact trivial | refine And.intro ?_ ?_ | (show _ ≤ _; omega) | (show _ ≤ _; simp; done)))
        · (repeat' (first | exact trivial | exact rfl | refine And.intro ?_ ?_))
        · (repeat' (first | exact trivial | exact rfl | refine And.intro ?_ ?_))
          exact congrArg (AV.fz LB) List.take_length
        (repeat' (first | exact trivial | exact fun h => h | refine And.intro ?_ ?_ | (intro hb; first | (simp at hb; done) | (simp at hb) | skip) | omega | exact rfl | exact Nat.le_refl _ | (show _ + 1 ≤ 4294967296; omega) | (dsimp only; omega) | (show (_ : Int) ≤ (_ : Int); omega) | (show _ < List.length _; simp only [List.length_set, List.length_append, List.length_take]; omega) | (show wantB _ _ = true; simp; done) | (show wantB _ _ = true; simp; omega) | (show (_ : Bool) = _; simp_all; done) | (exfalso; omega) | refine aRegion_auto (by decide +kernel) ?_ | fail))
        · have hK := stop2 (.inl fun h => by
            have hb : ¬ (byN lg).toList = (byN (List.take (Int.toNat ((t : Int) + 26 + (k : Int))) bs0)).toList := by assumption
            rw [tkk, elg, hln.1, hpre, h] at hb
            exact hb rfl)
          (repeat' (first | exact trivial | exact fun h => h | refine And.intro ?_ ?_ | (intro hb; first | (simp at hb; done) | (simp at hb) | skip) | omega | exact rfl | exact Nat.le_refl _ | (show _ + 1 ≤ 4294967296; omega) | (dsimp only; omega) | (show (_ : Int) ≤ (_ : Int); omega) | (show _ < List.length _; simp only [List.length_set, List.length_append, List.length_take]; omega) | (show wantB _ _ = true; simp; done) | (show wantB _ _ = true; simp; omega) | (show (_ : Bool) = _; simp_all; done) | (exfalso; omega) | refine aRegion_auto (by decide +kernel) ?_ | fail))
          refine ⟨_, _, REnt.ren [0, 1, 2] rfl ?_ ?_, hK⟩
          · (repeat' (first | exact trivial | exact rfl | refine And.intro ?_ ?_))
          · (repeat' (first | exact trivial | exact rfl | refine And.intro ?_ ?_))
        · have hb3 : bs.getD (rl bs) 0 = s2 := by
            have hb : (byN lg).toList = (byN (List.take (Int.toNat ((t : Int) + 26 + (k : Int))) bs0)).toList := by assumption
            have h2 := congrArg bytesI (toList_inj hb)
            rw [byN_bytes _ hlgb, byN_bytes _ (byt_take hb0 _), tkk, elg, hln.1, hpre] at h2
            have h3 := List.append_cancel_left h2
            exact (List.cons.inj h3).1.symm
          have nxt : ∀ L2 ad2, stp n (L, ad) e = (L2, ad2) → t + rl bs + 1 ≤ bs0.length ∧ (lgL (cm ++ [e])).1 = bs0.take (t + rl bs + 1) ∧ opn n (bs0.drop (t + rl bs + 1)) (lgL (cm ++ [e])).2 (L2, ad2) (c + 1) = opn n bs0 0 ([], []) 0 ∧ DOk n (c + 1) (L2, ad2) ∧ (cm ++ [e]).length = c + 1 ∧ (∀ y ∈ cm ++ [e], y.2.2.2.size ≤ 20) ∧ 26 * (c + 1) ≤ t + rl bs + 1 := fun L2 ad2 j => by
            have hok2 := hok.step e
            rw [j] at hok2
            refine ⟨by omega, by rw [hln.1, hpre, hb3], ?_, hok2, lc1, hby2, by omega⟩
            rw [hln.2, ← j, show bs0.drop (t + rl bs + 1) = bs.drop (rl bs + 1) by rw [ebs, List.drop_drop]; congr 1, ← step hb3 he]
            exact hop
          have hat : (t : Int) + 26 + (k : Int) = ((t + rl bs + 1 : Nat) : Int) := by omega
          (repeat' (first | exact trivial | exact fun h => h | refine And.intro ?_ ?_ | (intro hb; first | (simp at hb; done) | (simp at hb) | skip) | omega | exact rfl | exact Nat.le_refl _ | (show _ + 1 ≤ 4294967296; omega) | (dsimp only; omega) | (show (_ : Int) ≤ (_ : Int); omega) | (show _ < List.length _; simp only [List.length_set, List.length_append, List.length_take]; omega) | (show wantB _ _ = true; simp; done) | (show wantB _ _ = true; simp; omega) | (show (_ : Bool) = _; simp_all; done) | (exfalso; omega) | refine aRegion_auto (by decide +kernel) ?_ | fail))
          refine acall_conv [.keep, .dat EdT] _ _ _ rfl trivial (acall_frame [0, 1, 2] (rfA W H f L ad) [.ptr 0 0, .fz EdT e] rfl ?_ ⟨rfl, rfl⟩ rfl (rput_any G W H f L ad e (by omega) (by omega) o1 _ (fun hh => ?_) (fun hh => ?_)))
          · (repeat' (first | exact trivial | exact rfl | refine And.intro ?_ ?_))
          · have hst : stp n (L, ad) e = (L, ad) := if_neg fun c => by have c2 : hasE L e = false := c.2; rw [hh] at c2; cases c2
            (repeat' (first | exact trivial | exact fun h => h | refine And.intro ?_ ?_ | (intro hb; first | (simp at hb; done) | (simp at hb) | skip) | omega | exact rfl | exact Nat.le_refl _ | (show _ + 1 ≤ 4294967296; omega) | (dsimp only; omega) | (show (_ : Int) ≤ (_ : Int); omega) | (show _ < List.length _; simp only [List.length_set, List.length_append, List.length_take]; omega) | (show wantB _ _ = true; simp; done) | (show wantB _ _ = true; simp; omega) | (show (_ : Bool) = _; simp_all; done) | (exfalso; omega) | refine aRegion_auto (by decide +kernel) ?_ | fail))
            refine ⟨(t + rl bs + 1, cm ++ [e], (L, ad), c + 1), nxt _ _ hst, by show bs0.length - (t + rl bs + 1) < bs0.length - t; omega, Ent.ren [0, 1, 2, 5] rfl ?_ ?_⟩
            · (repeat' (first | exact trivial | exact rfl | refine And.intro ?_ ?_))
            · (repeat' (first | exact trivial | exact rfl | refine And.intro ?_ ?_))
              · exact congrArg (AV.fz int) hat
              · exact congrArg (AV.ref 5 0) lc1.symm
          · have hst : stp n (L, ad) e = (ins L e, ad ++ [e]) := if_pos ⟨he, hh⟩
            (repeat' (first | exact trivial | exact fun h => h | refine And.intro ?_ ?_ | (intro hb; first | (simp at hb; done) | (simp at hb) | skip) | omega | exact rfl | exact Nat.le_refl _ | (show _ + 1 ≤ 4294967296; omega) | (dsimp only; omega) | (show (_ : Int) ≤ (_ : Int); omega) | (show _ < List.length _; simp only [List.length_set, List.length_append, List.length_take]; omega) | (show wantB _ _ = true; simp; done) | (show wantB _ _ = true; simp; omega) | (show (_ : Bool) = _; simp_all; done) | (exfalso; omega) | refine aRegion_auto (by decide +kernel) ?_ | fail))
            refine ⟨(t + rl bs + 1, cm ++ [e], (ins L e, ad ++ [e]), c + 1), nxt _ _ hst, by show bs0.length - (t + rl bs + 1) < bs0.length - t; omega, Ent.ren [0, 6, 7, 5] rfl ?_ ?_⟩
            · (repeat' (first | exact trivial | exact rfl | refine And.intro ?_ ?_))
            · (repeat' (first | exact trivial | exact rfl | refine And.intro ?_ ?_))
              · exact congrArg (AV.fz int) hat
              · exact congrArg (AV.ref 5 0) lc1.symm
      · have hK := stop2 (.inr he)
        obtain ⟨q, eq⟩ : ∃ q, q = eerr n L e := ⟨_, rfl⟩
        rw [← eq]
        rw [← eq] at he
        (repeat' (first | exact trivial | exact fun h => h | refine And.intro ?_ ?_ | (intro hb; first | (simp at hb; done) | (simp at hb) | skip) | omega | exact rfl | exact Nat.le_refl _ | (show _ + 1 ≤ 4294967296; omega) | (dsimp only; omega) | (show (_ : Int) ≤ (_ : Int); omega) | (show _ < List.length _; simp only [List.length_set, List.length_append, List.length_take]; omega) | (show wantB _ _ = true; simp; done) | (show wantB _ _ = true; simp; omega) | (show (_ : Bool) = _; simp_all; done) | (exfalso; omega) | refine aRegion_auto (by decide +kernel) ?_ | fail))
        refine ⟨_, _, REnt.ren [0, 1, 2] rfl ?_ ?_, hK⟩
        · (repeat' (first | exact trivial | exact rfl | refine And.intro ?_ ?_))
        · (repeat' (first | exact trivial | exact rfl | refine And.intro ?_ ?_))
  · have hK := stop (okN_not1 fun h => h26 h.1)
    (repeat' (first | exact trivial | exact fun h => h | refine And.intro ?_ ?_ | (intro hb; first | (simp at hb; done) | (simp at hb) | skip) | omega | exact rfl | exact Nat.le_refl _ | (show _ + 1 ≤ 4294967296; omega) | (dsimp only; omega) | (show (_ : Int) ≤ (_ : Int); omega) | (show _ < List.length _; simp only [List.length_set, List.length_append, List.length_take]; omega) | (show wantB _ _ = true; simp; done) | (show wantB _ _ = true; simp; omega) | (show (_ : Bool) = _; simp_all; done) | (exfalso; omega) | refine aRegion_auto (by decide +kernel) ?_ | fail))
    refine ⟨_, _, REnt.ren [0, 1, 2] rfl ?_ ?_, hK⟩
    · (repeat' (first | exact trivial | exact rfl | refine And.intro ?_ ?_))
    · (repeat' (first | exact trivial | exact rfl | refine And.intro ?_ ?_))
end Go.Proofs.YtiflieijbmaocaaDoor
/-
  DeskLogs: the law walked.
-/
namespace Go.Proofs.YtiflieijbmaocaaDoor
open Go Go.Ab Go.RowKit
set_option maxRecDepth 100000
open Dk
namespace Dk
theorem opR_ok (n : Nat) : ∀ (f : Nat) (bs : List Int) (s : Int) (d : Dd) (c : Nat), DOk n c d → (∀ x ∈ d.2, x.2.2.2.size ≤ 20) →
    DOk n (opR n f bs s d c).2 (opR n f bs s d c).1 ∧ (∀ x ∈ (opR n f bs s d c).1.2, x.2.2.2.size ≤ 20) ∧ (opR n f bs s d c).2 ≤ c + f
  | 0, _, _, _, _, h, hb => ⟨h, hb, Nat.le_refl _⟩
  | f + 1, bs, s, d, c, h, hb => by
    rw [opR]
    split
    · obtain ⟨k1, k2, k3⟩ := opR_ok n f (bs.drop (rl bs + 1)) (sumB s (bs.take (rl bs))) (stp n d (prs (bs.take (rl bs)))) (c + 1) (h.step _) (stp_by hb)
      exact ⟨k1, k2, by omega⟩
    · exact ⟨h, hb, Nat.le_add_right _ _⟩
theorem opn_ok {n : Nat} {bs : List Int} {L ad : List E} {c : Nat} (h : opn n bs 0 ([], []) 0 = ((L, ad), c)) : DOk n c (L, ad) ∧ (∀ x ∈ ad, x.2.2.2.size ≤ 20) ∧ c ≤ bs.length := by
  have := opR_ok n bs.length bs 0 ([], []) 0 (DOk.nil n) (fun _ h => nomatch h)
  have e : opR n bs.length bs 0 ([], []) 0 = ((L, ad), c) := h
  rw [e] at this
  exact ⟨this.1, this.2.1, by have := this.2.2; omega⟩
end Dk
set_option maxHeartbeats 64000000 in
theorem logs_some {E : Errs} (hE : (EL E).Nodup) (a : Ras) (l : List Dk.E) (b : List Int) (cut : Int) (ha : a.2.2.length ≤ 9223372036854775807) (hl : l.length ≤ 9223372036854775807) (hyt : byt b) (K : AV → List AO → Prop) (hK : K (.fz .bool true) []) :
    ACall Tryd.prog (G8 E) 4 [.fptr RasT a, .fz (.list EdT) l, .fz LB b, .fz int cut] [] K := by
  refine acall_mk (E := envAt (G8 E) 160 0) (envOk _ _ _) Tryd.func4 rfl rfl rfl rfl rfl ?_
  (repeat' (first | exact trivial | exact fun h => h | refine And.intro ?_ ?_ | (intro hb; first | (simp at hb; done) | (simp at hb) | skip) | omega | exact rfl | exact Nat.le_refl _ | (show _ + 1 ≤ 4294967296; omega) | (dsimp only; omega) | (show (_ : Int) ≤ (_ : Int); omega) | (show _ < List.length _; simp only [List.length_set, List.length_append, List.length_take]; omega) | (show wantB _ _ = true; simp; done) | (show wantB _ _ = true; simp; omega) | (show (_ : Bool) = _; simp_all; done) | (exfalso; omega) | refine aRegion_auto (by decide +kernel) ?_ | fail))
  refine acall_frame0 rfl (desked_any E _ ?_)
  (repeat' (first | exact trivial | exact fun h => h | refine And.intro ?_ ?_ | (intro hb; first | (simp at hb; done) | (simp at hb) | skip) | omega | exact rfl | exact Nat.le_refl _ | (show _ + 1 ≤ 4294967296; omega) | (dsimp only; omega) | (show (_ : Int) ≤ (_ : Int); omega) | (show _ < List.length _; simp only [List.length_set, List.length_append, List.length_take]; omega) | (show wantB _ _ = true; simp; done) | (show wantB _ _ = true; simp; omega) | (show (_ : Bool) = _; simp_all; done) | (exfalso; omega) | refine aRegion_auto (by decide +kernel) ?_ | fail))
  refine acall_frame0 rfl (small_some _ a l hl ha _ ?_)
  cases hs : smB a.2.2.length l
  · (repeat' (first | exact trivial | exact fun h => h | refine And.intro ?_ ?_ | (intro hb; first | (simp at hb; done) | (simp at hb) | skip) | omega | exact rfl | exact Nat.le_refl _ | (show _ + 1 ≤ 4294967296; omega) | (dsimp only; omega) | (show (_ : Int) ≤ (_ : Int); omega) | (show _ < List.length _; simp only [List.length_set, List.length_append, List.length_take]; omega) | (show wantB _ _ = true; simp; done) | (show wantB _ _ = true; simp; omega) | (show (_ : Bool) = _; simp_all; done) | (exfalso; omega) | refine aRegion_auto (by decide +kernel) ?_ | fail))
    exact ⟨_, _, REnt.drop ⟨rfl, rfl⟩, hK⟩
  · obtain ⟨s1, s2⟩ := smB_of hs
    by_cases hbl : b.length ≤ 1500
    · (repeat' (first | exact trivial | exact fun h => h | refine And.intro ?_ ?_ | (intro hb; first | (simp at hb; done) | (simp at hb) | skip) | omega | exact rfl | exact Nat.le_refl _ | (show _ + 1 ≤ 4294967296; omega) | (dsimp only; omega) | (show (_ : Int) ≤ (_ : Int); omega) | (show _ < List.length _; simp only [List.length_set, List.length_append, List.length_take]; omega) | (show wantB _ _ = true; simp; done) | (show wantB _ _ = true; simp; omega) | (show (_ : Bool) = _; simp_all; done) | (exfalso; omega) | refine aRegion_auto (by decide +kernel) ?_ | fail))
      have bigf := ha
      refine acall_frame0 rfl (open_any E a b (by omega) hyt (by omega) _ (fun hr => ?_) (fun W H L ad c hr hW hH hop => ?_))
      · rw [er_ea E hr]
        (repeat' (first | exact trivial | exact fun h => h | refine And.intro ?_ ?_ | (intro hb; first | (simp at hb; done) | (simp at hb) | skip) | omega | exact rfl | exact Nat.le_refl _ | (show _ + 1 ≤ 4294967296; omega) | (dsimp only; omega) | (show (_ : Int) ≤ (_ : Int); omega) | (show _ < List.length _; simp only [List.length_set, List.length_append, List.length_take]; omega) | (show wantB _ _ = true; simp; done) | (show wantB _ _ = true; simp; omega) | (show (_ : Bool) = _; simp_all; done) | (exfalso; omega) | refine aRegion_auto (by decide +kernel) ?_ | fail))
        refine acall_frame0 rfl (rasterError_any _ a (by omega) _ ?_)
        (repeat' (first | exact trivial | exact fun h => h | refine And.intro ?_ ?_ | (intro hb; first | (simp at hb; done) | (simp at hb) | skip) | omega | exact rfl | exact Nat.le_refl _ | (show _ + 1 ≤ 4294967296; omega) | (dsimp only; omega) | (show (_ : Int) ≤ (_ : Int); omega) | (show _ < List.length _; simp only [List.length_set, List.length_append, List.length_take]; omega) | (show wantB _ _ = true; simp; done) | (show wantB _ _ = true; simp; omega) | (show (_ : Bool) = _; simp_all; done) | (exfalso; omega) | refine aRegion_auto (by decide +kernel) ?_ | fail))
        have hle := rerr_in a
        refine acall_frame0 rfl (acall_arg (coded_mercatorlaw5 hE (e := rerr a) (by omega) (rerr a : Nat) _ ?_) (congrArg (fun z => [AV.fz .raw z, AV.fz int ((rerr a : Nat) : Int)]) (er_ea E hr)))
        rw [decide_eq_true rfl]
        (repeat' (first | exact trivial | exact fun h => h | refine And.intro ?_ ?_ | (intro hb; first | (simp at hb; done) | (simp at hb) | skip) | omega | exact rfl | exact Nat.le_refl _ | (show _ + 1 ≤ 4294967296; omega) | (dsimp only; omega) | (show (_ : Int) ≤ (_ : Int); omega) | (show _ < List.length _; simp only [List.length_set, List.length_append, List.length_take]; omega) | (show wantB _ _ = true; simp; done) | (show wantB _ _ = true; simp; omega) | (show (_ : Bool) = _; simp_all; done) | (exfalso; omega) | refine aRegion_auto (by decide +kernel) ?_ | fail))
        refine ⟨.fz .bool true, _, REnt.ren [] rfl ?_ ?_, hK⟩
        · (repeat' (first | exact trivial | exact rfl | refine And.intro ?_ ?_))
        · (repeat' (first | exact trivial | exact rfl | refine And.intro ?_ ?_))
      · obtain ⟨j1, j2, j3⟩ := opn_ok hop
        obtain ⟨g3, g4, g5, g6, g7⟩ := rerr_ok hr
        (repeat' (first | exact trivial | exact fun h => h | refine And.intro ?_ ?_ | (intro hb; first | (simp at hb; done) | (simp at hb) | skip) | omega | exact rfl | exact Nat.le_refl _ | (show _ + 1 ≤ 4294967296; omega) | (dsimp only; omega) | (show (_ : Int) ≤ (_ : Int); omega) | (show _ < List.length _; simp only [List.length_set, List.length_append, List.length_take]; omega) | (show wantB _ _ = true; simp; done) | (show wantB _ _ = true; simp; omega) | (show (_ : Bool) = _; simp_all; done) | (exfalso; omega) | refine aRegion_auto (by decide +kernel) ?_ | fail))
        refine acall_frame0 rfl (rasterError_any _ a (by omega) _ ?_)
        rw [hr]
        (repeat' (first | exact trivial | exact fun h => h | refine And.intro ?_ ?_ | (intro hb; first | (simp at hb; done) | (simp at hb) | skip) | omega | exact rfl | exact Nat.le_refl _ | (show _ + 1 ≤ 4294967296; omega) | (dsimp only; omega) | (show (_ : Int) ≤ (_ : Int); omega) | (show _ < List.length _; simp only [List.length_set, List.length_append, List.length_take]; omega) | (show wantB _ _ = true; simp; done) | (show wantB _ _ = true; simp; omega) | (show (_ : Bool) = _; simp_all; done) | (exfalso; omega) | refine aRegion_auto (by decide +kernel) ?_ | fail))
        refine acall_frame0 rfl (deskOf_any _ a b hyt (by omega) (by omega) _ (fun L2 ad2 c2 hop2 => ?_))
        rw [hop] at hop2
        cases hop2
        rw [hW, hH]
        have cc : ((c : Int) != (c : Int)) = false := by simp
        have hfl := rerr_len hr
        have jin := j1.inn
        have jl := j1.len
        have jad : ad.length ≤ c := j1.ad
        have jL : L.length ≤ c := j1.len
        (repeat' (first | exact trivial | exact fun h => h | refine And.intro ?_ ?_ | (intro hb; first | (simp at hb; done) | (simp at hb) | skip) | omega | exact rfl | exact Nat.le_refl _ | (show _ + 1 ≤ 4294967296; omega) | (dsimp only; omega) | (show (_ : Int) ≤ (_ : Int); omega) | (show _ < List.length _; simp only [List.length_set, List.length_append, List.length_take]; omega) | (show wantB _ _ = true; simp; done) | (show wantB _ _ = true; simp; omega) | (show (_ : Bool) = _; simp_all; done) | (exfalso; omega) | refine aRegion_auto (by decide +kernel) ?_ | fail))
        refine acall_frame [0, 5, 6, 7, 1, 2, 3, 4] (bo2 W H a.2.2 (nw a.2.2 L) (tl0 W H) L ad 0 L ad) [.ptr 0 0, .ptr 1 0] rfl ?_ ⟨rfl, rfl⟩ rfl (is_any _ W H a.2.2 (tl0 W H) L ad 0 ad (by omega) (by omega) jin _ ?_)
        · (repeat' (first | exact trivial | exact rfl | refine And.intro ?_ ?_))
        (repeat' (first | exact trivial | exact fun h => h | refine And.intro ?_ ?_ | (intro hb; first | (simp at hb; done) | (simp at hb) | skip) | omega | exact rfl | exact Nat.le_refl _ | (show _ + 1 ≤ 4294967296; omega) | (dsimp only; omega) | (show (_ : Int) ≤ (_ : Int); omega) | (show _ < List.length _; simp only [List.length_set, List.length_append, List.length_take]; omega) | (show wantB _ _ = true; simp; done) | (show wantB _ _ = true; simp; omega) | (show (_ : Bool) = _; simp_all; done) | (exfalso; omega) | refine aRegion_auto (by decide +kernel) ?_ | fail))
        refine acall_frame0 rfl (played_any hE a l (by omega) (by omega) _ (fun hr2 => by omega) (fun W2 H2 hr2 hW2 hH2 => ?_))
        obtain rfl : W2 = W := by omega
        obtain rfl : H2 = H := by omega
        have hby := runD_by a.2.2.length l
        have hok := runD_ok a.2.2.length l l.length (Nat.le_refl _)
        rw [List.take_length] at hok
        obtain ⟨s, es⟩ : ∃ s, s = runD a.2.2.length l := ⟨_, rfl⟩
        rw [← es] at hby hok
        rw [← es]
        obtain ⟨Lp, adp⟩ := s
        have hal : adp.length ≤ l.length := hok.ad
        (repeat' (first | exact trivial | exact fun h => h | refine And.intro ?_ ?_ | (intro hb; first | (simp at hb; done) | (simp at hb) | skip) | omega | exact rfl | exact Nat.le_refl _ | (show _ + 1 ≤ 4294967296; omega) | (dsimp only; omega) | (show (_ : Int) ≤ (_ : Int); omega) | (show _ < List.length _; simp only [List.length_set, List.length_append, List.length_take]; omega) | (show wantB _ _ = true; simp; done) | (show wantB _ _ = true; simp; omega) | (show (_ : Bool) = _; simp_all; done) | (exfalso; omega) | refine aRegion_auto (by decide +kernel) ?_ | fail))
        refine acall_frame [8, 9, 10, 11, 12] (dkA W2 H2 a.2.2 (nw a.2.2 Lp) (tl0 W2 H2) Lp adp 0) [.ptr 0 0] rfl ?_ ⟨rfl, rfl⟩ rfl (log_dat _ W2 H2 a.2.2 (nw a.2.2 Lp) (tl0 W2 H2) Lp adp 0 (by omega) hby _ ?_)
        · (repeat' (first | exact trivial | exact rfl | refine And.intro ?_ ?_))
        have hlb := (byt_lgL adp).1
        have hll := lgL_len adp adp.length (Nat.le_refl _) hby
        rw [List.take_length] at hll
        obtain ⟨lg, elg⟩ : ∃ z, z = (lgL adp).1 := ⟨_, rfl⟩
        rw [← elg] at hlb hll
        rw [← elg]
        by_cases hcut : 0 ≤ cut ∧ cut ≤ (lg.length : Int)
        · obtain ⟨u1, u2⟩ := hcut
          obtain ⟨lc, elc⟩ : ∃ z, z = lg.take cut.toNat := ⟨_, rfl⟩
          have hcb : byt lc := by rw [elc]; exact byt_take hlb _
          have hcl : lc.length ≤ 5000 := by rw [elc, List.length_take]; omega
          have hsl : List.take (Int.toNat cut - Int.toNat 0) (List.drop (Int.toNat 0) lg) = lc := by rw [elc]; rfl
          obtain ⟨r, er'⟩ : ∃ r, r = opn a.2.2.length lc 0 ([], []) 0 := ⟨_, rfl⟩
          obtain ⟨⟨L3, ad3⟩, c3⟩ := r
          obtain ⟨i1, i2, i3⟩ := opn_ok er'.symm
          have iin := i1.inn
          have iL : L3.length ≤ c3 := i1.len
          have iad : ad3.length ≤ c3 := i1.ad
          have cc3 : ((c3 : Int) != (c3 : Int)) = false := by simp
          (repeat' (first | exact trivial | exact fun h => h | refine And.intro ?_ ?_ | (intro hb; first | (simp at hb; done) | (simp at hb) | skip) | omega | exact rfl | exact Nat.le_refl _ | (show _ + 1 ≤ 4294967296; omega) | (dsimp only; omega) | (show (_ : Int) ≤ (_ : Int); omega) | (show _ < List.length _; simp only [List.length_set, List.length_append, List.length_take]; omega) | (show wantB _ _ = true; simp; done) | (show wantB _ _ = true; simp; omega) | (show (_ : Bool) = _; simp_all; done) | (exfalso; omega) | refine aRegion_auto (by decide +kernel) ?_ | fail))
          apply exEff
          · refine acall_frame0 rfl (acall_arg (open_any E a lc (by omega) hcb hcl _ (fun h => by omega) (fun W3 H3 L4 ad4 c4 _ hW3 hH3 hop3 => ?_)) (congrArg (fun z => [AV.fz RasT a, AV.fz LB z]) hsl.symm))
            obtain rfl : W2 = W3 := by omega
            obtain rfl : H2 = H3 := by omega
            rw [← er'] at hop3
            cases hop3
            exact ⟨rfl, rfl⟩
          (repeat' (first | exact trivial | exact fun h => h | refine And.intro ?_ ?_ | (intro hb; first | (simp at hb; done) | (simp at hb) | skip) | omega | exact rfl | exact Nat.le_refl _ | (show _ + 1 ≤ 4294967296; omega) | (dsimp only; omega) | (show (_ : Int) ≤ (_ : Int); omega) | (show _ < List.length _; simp only [List.length_set, List.length_append, List.length_take]; omega) | (show wantB _ _ = true; simp; done) | (show wantB _ _ = true; simp; omega) | (show (_ : Bool) = _; simp_all; done) | (exfalso; omega) | refine aRegion_auto (by decide +kernel) ?_ | fail))
          apply exEff
          · refine acall_frame0 rfl (acall_arg (deskOf_any _ a lc hcb hcl (by omega) _ (fun L4 ad4 c4 hop4 => ?_)) (congrArg (fun z => [AV.fz RasT a, AV.fz LB z]) hsl.symm))
            rw [← er'] at hop4
            cases hop4
            exact ⟨rfl, rfl⟩
          rw [hW, hH]
          (repeat' (first | exact trivial | exact fun h => h | refine And.intro ?_ ?_ | (intro hb; first | (simp at hb; done) | (simp at hb) | skip) | omega | exact rfl | exact Nat.le_refl _ | (show _ + 1 ≤ 4294967296; omega) | (dsimp only; omega) | (show (_ : Int) ≤ (_ : Int); omega) | (show _ < List.length _; simp only [List.length_set, List.length_append, List.length_take]; omega) | (show wantB _ _ = true; simp; done) | (show wantB _ _ = true; simp; omega) | (show (_ : Bool) = _; simp_all; done) | (exfalso; omega) | refine aRegion_auto (by decide +kernel) ?_ | fail))
          refine acall_frame [16, 21, 22, 23, 17, 18, 19, 20] (bo2 W2 H2 a.2.2 (nw a.2.2 L3) (tl0 W2 H2) L3 ad3 0 L3 ad3) [.ptr 0 0, .ptr 1 0] rfl ?_ ⟨rfl, rfl⟩ rfl (is_any _ W2 H2 a.2.2 (tl0 W2 H2) L3 ad3 0 ad3 (by omega) (by omega) iin _ ?_)
          · (repeat' (first | exact trivial | exact rfl | refine And.intro ?_ ?_))
          (repeat' (first | exact trivial | exact fun h => h | refine And.intro ?_ ?_ | (intro hb; first | (simp at hb; done) | (simp at hb) | skip) | omega | exact rfl | exact Nat.le_refl _ | (show _ + 1 ≤ 4294967296; omega) | (dsimp only; omega) | (show (_ : Int) ≤ (_ : Int); omega) | (show _ < List.length _; simp only [List.length_set, List.length_append, List.length_take]; omega) | (show wantB _ _ = true; simp; done) | (show wantB _ _ = true; simp; omega) | (show (_ : Bool) = _; simp_all; done) | (exfalso; omega) | refine aRegion_auto (by decide +kernel) ?_ | fail))
          apply exEff
          · refine ⟨fun _ => ?_, fun h => absurd h (by simp)⟩
            (repeat' (first | refine And.intro ?_ ?_ | (show wantB _ _ = true; simp; done)))
            refine acall_frame [16, 17, 18, 19, 20] (dkA W2 H2 a.2.2 (nw a.2.2 L3) (tl0 W2 H2) L3 ad3 0) [.ptr 0 0] rfl ?_ ⟨rfl, rfl⟩ rfl (log_dat _ W2 H2 a.2.2 (nw a.2.2 L3) (tl0 W2 H2) L3 ad3 0 (by omega) i2 _ ?_)
            · (repeat' (first | exact trivial | exact rfl | refine And.intro ?_ ?_))
            exact ⟨rfl, rfl⟩
          (repeat' (first | exact trivial | exact fun h => h | refine And.intro ?_ ?_ | (intro hb; first | (simp at hb; done) | (simp at hb) | skip) | omega | exact rfl | exact Nat.le_refl _ | (show _ + 1 ≤ 4294967296; omega) | (dsimp only; omega) | (show (_ : Int) ≤ (_ : Int); omega) | (show _ < List.length _; simp only [List.length_set, List.length_append, List.length_take]; omega) | (show wantB _ _ = true; simp; done) | (show wantB _ _ = true; simp; omega) | (show (_ : Bool) = _; simp_all; done) | (exfalso; omega) | refine aRegion_auto (by decide +kernel) ?_ | fail))
          apply exEff
          · refine ⟨fun _ => ?_, fun h => absurd h (by simp)⟩
            (repeat' (first | refine And.intro ?_ ?_ | (show wantB _ _ = true; simp; done)))
            refine acall_conv [.dat (.list EdT)] _ _ _ rfl ?_ (acall_frame0 rfl (acall_arg (logOf_dat _ ad3 (by omega) i2 _ ?_) (congrArg (fun z => [AV.fz (.list EdT) z]) List.take_length.symm)))
            · (repeat' (first | exact trivial | refine And.intro ?_ ?_ | (show _ ≤ _; omega) | (show _ ≤ _; simp; done)))
            exact ⟨rfl, rfl⟩
          (repeat' (first | exact trivial | exact fun h => h | refine And.intro ?_ ?_ | (intro hb; first | (simp at hb; done) | (simp at hb) | skip) | omega | exact rfl | exact Nat.le_refl _ | (show _ + 1 ≤ 4294967296; omega) | (dsimp only; omega) | (show (_ : Int) ≤ (_ : Int); omega) | (show _ < List.length _; simp only [List.length_set, List.length_append, List.length_take]; omega) | (show wantB _ _ = true; simp; done) | (show wantB _ _ = true; simp; omega) | (show (_ : Bool) = _; simp_all; done) | (exfalso; omega) | refine aRegion_auto (by decide +kernel) ?_ | fail))
          refine ⟨.fz .bool true, [], REnt.ren [] rfl ?_ ?_, hK⟩
          · (repeat' (first | exact trivial | exact rfl | refine And.intro ?_ ?_))
          · refine And.intro (congrArg (AV.fz .bool) (?_ : (bif true then ((byN (lgL ad3).1).toList == (byN (lgL ad3).1).toList) else false) = true)) rfl
            simp
        · (repeat' (first | exact trivial | exact fun h => h | refine And.intro ?_ ?_ | (intro hb; first | (simp at hb; done) | (simp at hb) | skip) | omega | exact rfl | exact Nat.le_refl _ | (show _ + 1 ≤ 4294967296; omega) | (dsimp only; omega) | (show (_ : Int) ≤ (_ : Int); omega) | (show _ < List.length _; simp only [List.length_set, List.length_append, List.length_take]; omega) | (show wantB _ _ = true; simp; done) | (show wantB _ _ = true; simp; omega) | (show (_ : Bool) = _; simp_all; done) | (exfalso; omega) | refine aRegion_auto (by decide +kernel) ?_ | fail))
          refine ⟨.fz .bool true, [], REnt.ren [] rfl ?_ ?_, hK⟩
          · (repeat' (first | exact trivial | exact rfl | refine And.intro ?_ ?_))
          · (repeat' (first | exact trivial | exact rfl | refine And.intro ?_ ?_))
    · (repeat' (first | exact trivial | exact fun h => h | refine And.intro ?_ ?_ | (intro hb; first | (simp at hb; done) | (simp at hb) | skip) | omega | exact rfl | exact Nat.le_refl _ | (show _ + 1 ≤ 4294967296; omega) | (dsimp only; omega) | (show (_ : Int) ≤ (_ : Int); omega) | (show _ < List.length _; simp only [List.length_set, List.length_append, List.length_take]; omega) | (show wantB _ _ = true; simp; done) | (show wantB _ _ = true; simp; omega) | (show (_ : Bool) = _; simp_all; done) | (exfalso; omega) | refine aRegion_auto (by decide +kernel) ?_ | fail))
      exact ⟨_, _, REnt.drop ⟨rfl, rfl⟩, hK⟩
theorem logs_nil (E : Errs) (l : List Dk.E) (b : List Int) (cut : Int) (hl : l.length ≤ 9223372036854775807) (K : AV → List AO → Prop) (hK : K (.fz .bool true) []) :
    ACall Tryd.prog (G8 E) 4 [.fz .raw (.pointer none), .fz (.list EdT) l, .fz LB b, .fz int cut] [] K := by
  refine acall_mk (E := envAt (G8 E) 160 0) (envOk _ _ _) Tryd.func4 rfl rfl rfl rfl rfl ?_
  (repeat' (first | exact trivial | exact fun h => h | refine And.intro ?_ ?_ | (intro hb; first | (simp at hb; done) | (simp at hb) | skip) | omega | exact rfl | exact Nat.le_refl _ | (show _ + 1 ≤ 4294967296; omega) | (dsimp only; omega) | (show (_ : Int) ≤ (_ : Int); omega) | (show _ < List.length _; simp only [List.length_set, List.length_append, List.length_take]; omega) | (show wantB _ _ = true; simp; done) | (show wantB _ _ = true; simp; omega) | (show (_ : Bool) = _; simp_all; done) | (exfalso; omega) | refine aRegion_auto (by decide +kernel) ?_ | fail))
  refine acall_frame0 rfl (desked_any E _ ?_)
  (repeat' (first | exact trivial | exact fun h => h | refine And.intro ?_ ?_ | (intro hb; first | (simp at hb; done) | (simp at hb) | skip) | omega | exact rfl | exact Nat.le_refl _ | (show _ + 1 ≤ 4294967296; omega) | (dsimp only; omega) | (show (_ : Int) ≤ (_ : Int); omega) | (show _ < List.length _; simp only [List.length_set, List.length_append, List.length_take]; omega) | (show wantB _ _ = true; simp; done) | (show wantB _ _ = true; simp; omega) | (show (_ : Bool) = _; simp_all; done) | (exfalso; omega) | refine aRegion_auto (by decide +kernel) ?_ | fail))
  refine acall_frame0 rfl (small_nil _ l hl _ ?_)
  (repeat' (first | exact trivial | exact fun h => h | refine And.intro ?_ ?_ | (intro hb; first | (simp at hb; done) | (simp at hb) | skip) | omega | exact rfl | exact Nat.le_refl _ | (show _ + 1 ≤ 4294967296; omega) | (dsimp only; omega) | (show (_ : Int) ≤ (_ : Int); omega) | (show _ < List.length _; simp only [List.length_set, List.length_append, List.length_take]; omega) | (show wantB _ _ = true; simp; done) | (show wantB _ _ = true; simp; omega) | (show (_ : Bool) = _; simp_all; done) | (exfalso; omega) | refine aRegion_auto (by decide +kernel) ?_ | fail))
  exact ⟨_, _, REnt.drop ⟨rfl, rfl⟩, hK⟩
end Go.Proofs.YtiflieijbmaocaaDoor
/-
  What the laid variables give: eight errors, all different, and the handle of type error.
-/
namespace Go.Proofs.YtiflieijbmaocaaDoor
open Go Go.Ab Go.RowKit Go.ChangeShapes
set_option maxRecDepth 100000
theorem star : "*" ++ "errors.errorString" = "*errors.errorString" := by decide
theorem names_at (u : TypeId) (h : Tryd.prog.typeName? 3 u = some "*errors.errorString") : u = 137 :=
  typeName_ptr_named (nm := "errors.errorString") (by rw [star]; kernel_rfl) (by kernel_rfl) (by decide) u (by rw [star]; exact h)
theorem cells_es : Tryd.prog.cellsOf 159 = 1 := by kernel_rfl
theorem cells_str : Tryd.prog.cellsOf 9 = 1 := by kernel_rfl
theorem glob_ty (g : Nat) (hg : g ∈ [2, 1, 0, 3, 4, 5, 6, 7]) :
    ∃ ti ms, (Tryd.prog.globals[g]?).map (·.type) = some ti ∧ Tryd.prog.underlying ti = some (.interface ms) := by
  have : ([2, 1, 0, 3, 4, 5, 6, 7].all fun g => (Tryd.prog.globals[g]?).map (·.type) == some 39) = true := by kernel_rfl
  exact ⟨39, _, by simpa using List.all_eq_true.1 this g hg, Tryd.underlying39⟩
theorem et_at : Tryd.prog.globalNamed "errors.errorType" = some 8 := by kernel_rfl
theorem rt_at : (Tryd.prog.cutTypes.find? (·.1 == "internal/reflectlite.rtype")).map (·.2) = some 122 := by kernel_rfl
theorem one_row : ((List.range Tryd.prog.types.size).filter fun t => Tryd.prog.rowNamed t [101, 114, 114, 111, 114]) = [39] := by kernel_rfl
/-- of a list of the eight errors and the handle -/
theorem globs8 {W : World} {l : List (String × DataW Unit)} {x1 x2 x3 x4 x5 x6 x7 x8 : List UInt8} (h : laidMetH Tryd.prog l W)
    (hl : (l.filter fun x => x.2.handleName?.isNone) = [("mercator/api.ErrText", errD x1), ("mercator/api.ErrBound", errD x2), ("mercator/api.ErrShape", errD x3), ("mercator/api.ErrRange", errD x4), ("mercator/api.ErrName", errD x5), ("mercator/api.ErrNone", errD x6), ("mercator/api.ErrOrder", errD x7), ("mercator/api.ErrFile", errD x8)])
    (hh : (l.filter fun x => x.2.handleName?.isSome) = [("errors.errorType", .iface "internal/reflectlite.rtype" (.agg [.ptr (.lit (.string [101, 114, 114, 111, 114]))]))]) :
    ∃ E : Errs, (EL E).Nodup ∧ ∀ g v, gk (G8 E) g = some v → Glo0 W g v := by
  obtain ⟨h1, h2⟩ := laidMetH_iff.1 h
  rw [hl] at h1
  rw [hh] at h2
  obtain ⟨ps, hv, hn, hall⟩ := h1
  obtain ⟨al, k1, k2, k3, _⟩ := laid_errs names_at Tryd.underlying137 Tryd.underlying159 rfl rfl Tryd.underlying9 cells_es cells_str
    [("mercator/api.ErrText", x1), ("mercator/api.ErrBound", x2), ("mercator/api.ErrShape", x3), ("mercator/api.ErrRange", x4), ("mercator/api.ErrName", x5), ("mercator/api.ErrNone", x6), ("mercator/api.ErrOrder", x7), ("mercator/api.ErrFile", x8)]
    [2, 1, 0, 3, 4, 5, 6, 7] ps hv hn hall (by kernel_rfl) glob_ty
  obtain ⟨a1, a2, a3, a4, a5, a6, a7, a8, rfl⟩ : ∃ a1 a2 a3 a4 a5 a6 a7 a8, al = [a1, a2, a3, a4, a5, a6, a7, a8] := by
    match al, k1 with
    | [a1, a2, a3, a4, a5, a6, a7, a8], _ => exact ⟨a1, a2, a3, a4, a5, a6, a7, a8, rfl⟩
  have hE : Glo0 W 8 asK.errType := by
    obtain ⟨name, u, ty, e1, e2, e3, e4, e5⟩ := h2 _ (List.mem_singleton.2 rfl)
    have en : name = [101, 114, 114, 111, 114] := (Option.some.inj e1).symm
    subst en
    obtain rfl := Option.some.inj (rt_at.symm.trans e2)
    have hm : ty ∈ (List.range Tryd.prog.types.size).filter fun t => Tryd.prog.rowNamed t [101, 114, 114, 111, 114] := List.mem_filter.2 ⟨List.mem_range.2 e3, e4⟩
    rw [one_row] at hm
    obtain rfl := List.mem_singleton.1 hm
    have hh : typeHandle Tryd.prog 39 = .pointer (some ⟨10, 39, none⟩) := by kernel_rfl
    rw [hh] at e5
    exact ⟨by simpa [asK.errType] using World.var?_cell et_at e5 0, rfl, fun T a e => by cases e⟩
  refine ⟨⟨a1, a2, a3, a4, a5, a6, a7, a8⟩, k2, fun g v hg => ?_⟩
  unfold G8 gk at hg
  split at hg
  · rename_i e; subst e; cases hg; exact k3 2 _ _ rfl rfl
  unfold gk at hg
  split at hg
  · rename_i e; subst e; cases hg; exact k3 3 _ _ rfl rfl
  unfold gk at hg
  split at hg
  · rename_i e; subst e; cases hg; exact k3 1 _ _ rfl rfl
  unfold gk at hg
  split at hg
  · rename_i e; subst e; cases hg; exact k3 0 _ _ rfl rfl
  unfold gk at hg
  split at hg
  · rename_i e; subst e; cases hg; exact k3 4 _ _ rfl rfl
  unfold gk at hg
  split at hg
  · rename_i e; subst e; cases hg; exact k3 5 _ _ rfl rfl
  unfold gk at hg
  split at hg
  · rename_i e; subst e; cases hg; exact k3 6 _ _ rfl rfl
  unfold gk at hg
  split at hg
  · rename_i e; subst e; cases hg; exact k3 7 _ _ rfl rfl
  unfold gk at hg
  split at hg
  · rename_i e; subst e; cases hg; exact hE
  · cases hg
end Go.Proofs.YtiflieijbmaocaaDoor
