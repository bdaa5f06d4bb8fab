/-
  Logs: both.
-/
import Derived.Test.YtiflieijbmaocaaDoorM6
import Derived.LaidHandle
import Derived.LaidSub
import Derived.Test.YtiflieijbmaocaaDoorChecked
import Derived.WalkKit
import Derived.ProofKit
import Derived.OpenShut
import Derived.Carry
import Derived.Test.YtiflieijbmaocaaDoorTie
import Derived.Test.YtiflieijbmaocaaDoorCards
import Derived.SevenTiedAt
import Derived.LaidMore
import Derived.Lay
import Derived.Deep.Slices
import Derived.Lib.SmallJoins
import Derived.Stop.Joined
namespace Go.Proofs.YtiflieijbmaocaaDoor
open Go Go.Ab Go.RowKit
set_option maxRecDepth 100000
open Dk
theorem lgL_len (l : List E) (k : Nat) (hk : k ≤ l.length) (hb : ∀ x ∈ l, x.2.2.2.size ≤ 20) : (lgL (l.take k)).1.length ≤ 46 * k := by
  induction k with
  | zero => simp [lgL]
  | succ k ih =>
    rw [lgL_next l k hk]
    unfold lgS
    have := ih (by omega)
    have h2 := hb l[k] (List.getElem_mem _)
    simp only [List.length_append, edB_len, List.length_singleton]
    omega
set_option maxHeartbeats 16000000 in
theorem log_any (G : List (Nat × Value)) (W H : Nat) (f now : List Int) (tl : List Tl) (L ad : List E) (cnt : Int) (ha : ad.length ≤ 10000) (hb : ∀ x ∈ ad, x.2.2.2.size ≤ 20) (K : AV → List AO → Prop) (hK : K (.ref 5 0 (lgL ad).1.length) (dkA W H f now tl L ad cnt ++ [.row U8 (lgL ad).1])) :
    ACall Tryd.prog G 9 [.ptr 0 0] (dkA W H f now tl L ad cnt) K := by
  refine acall_mk (E := envCut G 47 5 [8]) (envCutOk _ _ _ _) Tryd.func9 rfl rfl rfl rfl rfl ?_
  (repeat' (first | exact trivial | exact fun h => h | refine And.intro ?_ ?_ | (intro hb; first | (simp at hb; done) | (simp at hb) | skip) | omega | exact rfl | exact Nat.le_refl _ | (show _ + 1 ≤ 4294967296; omega) | (dsimp only; omega) | (show (_ : Int) ≤ (_ : Int); omega) | (show _ < List.length _; simp only [List.length_set, List.length_append, List.length_take]; omega) | (show wantB _ _ = true; simp; done) | (show wantB _ _ = true; simp; omega) | (show (_ : Bool) = _; simp_all; done) | (exfalso; omega) | refine aRegion_auto (by decide +kernel) ?_ | fail))
  refine ⟨Nat, fun k => ⟨[(3, .ref 5 0 (lgL (ad.take k)).1.length), (4, .fz U8 (lgL (ad.take k)).2), (11, .ref 4 0 ad.length), (12, .fz int ad.length), (13, .fz int k)], dkA W H f now tl L ad cnt ++ [.row U8 (lgL (ad.take k)).1]⟩, fun k => k ≤ ad.length, fun k => ad.length - k, 0, Nat.zero_le _, (Ent.nil 3 U8 rfl).trans (Ent.sub rfl ?_), ?_⟩
  · (repeat' (first | exact trivial | exact rfl | refine And.intro ?_ ?_))
  intro k hk
  have hk : k ≤ ad.length := hk
  have hol := lgL_len ad k hk hb
  have hlr := lgL_in (ad.take k)
  obtain ⟨t, et⟩ : ∃ t, t = lgL (ad.take k) := ⟨_, rfl⟩
  show awp _ _ _ ⟨[(3, .ref 5 0 (lgL (ad.take k)).1.length), (4, .fz U8 (lgL (ad.take k)).2), (11, .ref 4 0 ad.length), (12, .fz int ad.length), (13, .fz int k)], dkA W H f now tl L ad cnt ++ [.row U8 (lgL (ad.take k)).1]⟩
  rw [← et] at hol hlr
  rw [← et]
  obtain ⟨o, s⟩ := t
  have hol : o.length ≤ 46 * k := hol
  show awp _ _ _ ⟨[(3, .ref 5 0 o.length), (4, .fz U8 s), (11, .ref 4 0 ad.length), (12, .fz int ad.length), (13, .fz int k)], dkA W H f now tl L ad cnt ++ [.row U8 o]⟩
  by_cases hk2 : k < ad.length
  · have ge : ad.getD (0 + Int.toNat (k : Int)) EdT.dft = ad[k] := by simp [List.getD, hk2]
    have hbs := hb ad[k] (List.getElem_mem _)
    obtain ⟨e, ee⟩ : ∃ e, e = ad[k] := ⟨_, rfl⟩
    have hnx := lgL_next ad k hk2
    rw [← et, ← ee] at hnx
    rw [← ee] at ge hbs
    (repeat' (first | exact trivial | exact fun h => h | refine And.intro ?_ ?_ | (intro hb; first | (simp at hb; done) | (simp at hb) | skip) | omega | exact rfl | exact Nat.le_refl _ | (show _ + 1 ≤ 4294967296; omega) | (dsimp only; omega) | (show (_ : Int) ≤ (_ : Int); omega) | (show _ < List.length _; simp only [List.length_set, List.length_append, List.length_take]; omega) | (show wantB _ _ = true; simp; done) | (show wantB _ _ = true; simp; omega) | (show (_ : Bool) = _; simp_all; done) | (exfalso; omega) | refine aRegion_auto (by decide +kernel) ?_ | fail))
    rw [ge]
    (repeat' (first | exact trivial | exact fun h => h | refine And.intro ?_ ?_ | (intro hb; first | (simp at hb; done) | (simp at hb) | skip) | omega | exact rfl | exact Nat.le_refl _ | (show _ + 1 ≤ 4294967296; omega) | (dsimp only; omega) | (show (_ : Int) ≤ (_ : Int); omega) | (show _ < List.length _; simp only [List.length_set, List.length_append, List.length_take]; omega) | (show wantB _ _ = true; simp; done) | (show wantB _ _ = true; simp; omega) | (show (_ : Bool) = _; simp_all; done) | (exfalso; omega) | refine aRegion_auto (by decide +kernel) ?_ | fail))
    obtain ⟨c1, ec1⟩ : ∃ c, c = le8 (u64 e.1) 8 := ⟨_, rfl⟩
    obtain ⟨c2, ec2⟩ : ∃ c, c = c1 ++ le8 (u64 e.2.1) 8 := ⟨_, rfl⟩
    obtain ⟨c3, ec3⟩ : ∃ c, c = c2 ++ le8 (u64 e.2.2.1) 8 := ⟨_, rfl⟩
    have l1 : c1.length = 8 := by rw [ec1, le8_len]
    have l2 : c2.length = 16 := by rw [ec2, List.length_append, le8_len, l1]
    have l3 : c3.length = 24 := by rw [ec3, List.length_append, le8_len, l2]
    obtain ⟨w, ew⟩ : ∃ w, w = IntKind.u8.wrap ((e.2.2.2.size : Nat) : Int) := ⟨_, rfl⟩
    let be : AO := .box [.fz int e.1, .fz int e.2.1, .fz int e.2.2.1, .fz .str e.2.2.2]
    let B : List AO := dkA W H f now tl L ad cnt ++ [.row U8 o, be]
    let R1 : AO := .row U8 c1
    let R2 : AO := .row U8 c2
    let R3 : AO := .row U8 c3
    let RB : AO := .row U8 [w]
    let RA : AO := .row U8 (c3 ++ [w])
    refine aRegion_open 1 (by decide +kernel) ?_
    (repeat' (first | exact trivial | exact fun h => h | refine And.intro ?_ ?_ | (intro hb; first | (simp at hb; done) | (simp at hb) | skip) | omega | exact rfl | exact Nat.le_refl _ | (show _ + 1 ≤ 4294967296; omega) | (dsimp only; omega) | (show (_ : Int) ≤ (_ : Int); omega) | (show _ < List.length _; simp only [List.length_set, List.length_append, List.length_take]; omega) | (show wantB _ _ = true; simp; done) | (show wantB _ _ = true; simp; omega) | (show (_ : Bool) = _; simp_all; done) | (exfalso; omega) | refine aRegion_auto (by decide +kernel) ?_ | fail))
    refine eff_is (.ref 8 0 8) (B ++ [.room, R1]) ?_
    (repeat' (first | exact trivial | exact fun h => h | refine And.intro ?_ ?_ | (intro hb; first | (simp at hb; done) | (simp at hb) | skip) | omega | exact rfl | exact Nat.le_refl _ | (show _ + 1 ≤ 4294967296; omega) | (dsimp only; omega) | (show (_ : Int) ≤ (_ : Int); omega) | (show _ < List.length _; simp only [List.length_set, List.length_append, List.length_take]; omega) | (show wantB _ _ = true; simp; done) | (show wantB _ _ = true; simp; omega) | (show (_ : Bool) = _; simp_all; done) | (exfalso; omega) | refine aRegion_auto (by decide +kernel) ?_ | fail))
    refine eff_is (.ref 9 0 16) (B ++ [.room, .dead, R2]) ?_
    (repeat' (first | exact trivial | exact fun h => h | refine And.intro ?_ ?_ | (intro hb; first | (simp at hb; done) | (simp at hb) | skip) | omega | exact rfl | exact Nat.le_refl _ | (show _ + 1 ≤ 4294967296; omega) | (dsimp only; omega) | (show (_ : Int) ≤ (_ : Int); omega) | (show _ < List.length _; simp only [List.length_set, List.length_append, List.length_take]; omega) | (show wantB _ _ = true; simp; done) | (show wantB _ _ = true; simp; omega) | (show (_ : Bool) = _; simp_all; done) | (exfalso; omega) | refine aRegion_auto (by decide +kernel) ?_ | fail))
    refine eff_is (.ref 10 0 24) (B ++ [.room, .dead, .dead, R3]) ?_
    (repeat' (first | exact trivial | exact fun h => h | refine And.intro ?_ ?_ | (intro hb; first | (simp at hb; done) | (simp at hb) | skip) | omega | exact rfl | exact Nat.le_refl _ | (show _ + 1 ≤ 4294967296; omega) | (dsimp only; omega) | (show (_ : Int) ≤ (_ : Int); omega) | (show _ < List.length _; simp only [List.length_set, List.length_append, List.length_take]; omega) | (show wantB _ _ = true; simp; done) | (show wantB _ _ = true; simp; omega) | (show (_ : Bool) = _; simp_all; done) | (exfalso; omega) | refine aRegion_auto (by decide +kernel) ?_ | fail))
    refine eff_is (.ref 7 0 1) (B ++ [RB, .dead, .dead, R3]) ?_
    (repeat' (first | exact trivial | exact fun h => h | refine And.intro ?_ ?_ | (intro hb; first | (simp at hb; done) | (simp at hb) | skip) | omega | exact rfl | exact Nat.le_refl _ | (show _ + 1 ≤ 4294967296; omega) | (dsimp only; omega) | (show (_ : Int) ≤ (_ : Int); omega) | (show _ < List.length _; simp only [List.length_set, List.length_append, List.length_take]; omega) | (show wantB _ _ = true; simp; done) | (show wantB _ _ = true; simp; omega) | (show (_ : Bool) = _; simp_all; done) | (exfalso; omega) | refine aRegion_auto (by decide +kernel) ?_ | fail))
    refine eff_is (.ref 11 0 25) (B ++ [RB, .dead, .dead, .dead, RA]) ?_
    refine ⟨[(0, B ++ [.room]), (4, B ++ [.room, R1]), (8192, B ++ [RB]), (36, B ++ [.room, .dead, R2]), (8196, B ++ [RB, R1]), (292, B ++ [.room, .dead, .dead, R3]), (8228, B ++ [RB, .dead, R2]), (8484, B ++ [RB, .dead, .dead, R3]), (24868, B ++ [RB, .dead, .dead, .dead, RA])], rfl, rfl, ?_, ?_⟩
    · (repeat' (first | refine And.intro ?_ ?_ | exact trivial | exact rfl | omega))
      · refine acall_frame0 rfl (put8_nil _ e.1 _ ?_)
        rw [← ec1]
        refine view_of [0, 1, 2, 3, 4, 5, 6, 7, 8] rfl ?_ rfl rfl
        (repeat' (first | exact trivial | exact rfl | refine And.intro ?_ ?_))
      · refine view_of [0, 1, 2, 3, 4, 5, 6, 8] rfl ?_ rfl rfl
        (repeat' (first | exact trivial | exact rfl | refine And.intro ?_ ?_))
        exact congrArg (fun z => some (AO.row U8 [z])) ew.symm
      · refine acall_frame [8] [.row U8 c1] [.ref 0 0 8, .fz int e.2.1] rfl ⟨⟨rfl, trivial⟩, trivial⟩ ⟨rfl, rfl⟩ rfl (put8_ref _ c1 8 l1 (by omega) e.2.1 _ ?_)
        rw [← ec2]
        refine view_of [0, 1, 2, 3, 4, 5, 6, 7, 8, 9] rfl ?_ rfl rfl
        (repeat' (first | exact trivial | exact rfl | refine And.intro ?_ ?_))
      · refine view_of [0, 1, 2, 3, 4, 5, 6, 9, 8] rfl ?_ rfl rfl
        (repeat' (first | exact trivial | exact rfl | refine And.intro ?_ ?_))
        exact congrArg (fun z => some (AO.row U8 [z])) ew.symm
      · refine acall_frame0 rfl (put8_nil _ e.1 _ ?_)
        rw [← ec1]
        refine view_of [0, 1, 2, 3, 4, 5, 6, 7, 8] rfl ?_ rfl rfl
        (repeat' (first | exact trivial | exact rfl | refine And.intro ?_ ?_))
      · refine acall_frame [9] [.row U8 c2] [.ref 0 0 16, .fz int e.2.2.1] rfl ⟨⟨rfl, trivial⟩, trivial⟩ ⟨rfl, rfl⟩ rfl (put8_ref _ c2 16 l2 (by omega) e.2.2.1 _ ?_)
        rw [← ec3]
        refine view_of [0, 1, 2, 3, 4, 5, 6, 7, 8, 9, 10] rfl ?_ rfl rfl
        (repeat' (first | exact trivial | exact rfl | refine And.intro ?_ ?_))
      · refine view_of [0, 1, 2, 3, 4, 5, 6, 10, 8, 9] rfl ?_ rfl rfl
        (repeat' (first | exact trivial | exact rfl | refine And.intro ?_ ?_))
        exact congrArg (fun z => some (AO.row U8 [z])) ew.symm
      · refine acall_frame [8] [.row U8 c1] [.ref 0 0 8, .fz int e.2.1] rfl ⟨⟨rfl, trivial⟩, trivial⟩ ⟨rfl, rfl⟩ rfl (put8_ref _ c1 8 l1 (by omega) e.2.1 _ ?_)
        rw [← ec2]
        refine view_of [0, 1, 2, 3, 4, 5, 6, 7, 8, 9] rfl ?_ rfl rfl
        (repeat' (first | exact trivial | exact rfl | refine And.intro ?_ ?_))
      · refine view_of [0, 1, 2, 3, 4, 5, 6, 11, 8, 9, 10] rfl ?_ rfl rfl
        (repeat' (first | exact trivial | exact rfl | refine And.intro ?_ ?_))
        exact congrArg (fun z => some (AO.row U8 [z])) ew.symm
      · refine acall_frame [9] [.row U8 c2] [.ref 0 0 16, .fz int e.2.2.1] rfl ⟨⟨rfl, trivial⟩, trivial⟩ ⟨rfl, rfl⟩ rfl (put8_ref _ c2 16 l2 (by omega) e.2.2.1 _ ?_)
        rw [← ec3]
        refine view_of [0, 1, 2, 3, 4, 5, 6, 7, 8, 9, 10] rfl ?_ rfl rfl
        (repeat' (first | exact trivial | exact rfl | refine And.intro ?_ ?_))
      · exact (show 0 + 1 ≤ [w].length from Nat.le_refl _)
      · exact (show 24 + 1 ≤ 4294967296 by decide)
      · refine view_of [0, 1, 2, 3, 4, 5, 6, 7, 8, 9, 10, 11] rfl ?_ rfl rfl
        (repeat' (first | exact trivial | exact rfl | refine And.intro ?_ ?_))
        exact congrArg (fun z => some (AO.row U8 (z ++ [w]))) (List.take_of_length_le (by omega))
    have lA : (c3 ++ [w]).length = 25 := by rw [List.length_append, l3]; rfl
    have tA : List.take 25 (c3 ++ [w]) = c3 ++ [w] := List.take_of_length_le (by omega)
    have lb := bytesI_len e.2.2.2
    have eb : List.take 25 (c3 ++ [w]) ++ bytesI e.2.2.2 = edB e := by
      rw [tA, ec3, ec2, ec1, ew, u8_eq]; rfl
    have leb := edB_len e
    obtain ⟨m, em⟩ : ∃ m, m = (edB e).length := ⟨_, rfl⟩
    have hm : 25 + (bytesI e.2.2.2).length = m := by omega
    have tm : List.take m (List.drop 0 (edB e)) = edB e := List.take_of_length_le (by show (edB e).length ≤ m; omega)
    have ltm : (List.take m (List.drop 0 (edB e))).length = m := by rw [tm]; exact em.symm
    (repeat' (first | exact trivial | exact fun h => h | refine And.intro ?_ ?_ | (intro hb; first | (simp at hb; done) | (simp at hb) | skip) | omega | exact rfl | exact Nat.le_refl _ | (show _ + 1 ≤ 4294967296; omega) | (dsimp only; omega) | (show (_ : Int) ≤ (_ : Int); omega) | (show _ < List.length _; simp only [List.length_set, List.length_append, List.length_take]; omega) | (show wantB _ _ = true; simp; done) | (show wantB _ _ = true; simp; omega) | (show (_ : Bool) = _; simp_all; done) | (exfalso; omega) | refine aRegion_auto (by decide +kernel) ?_ | fail))
    refine ⟨[(3, .ref 5 0 o.length), (4, .fz U8 s), (7, .ref 6 0 m), (11, .ref 4 0 ad.length), (12, .fz int ad.length), (13, .fz int k)], dkA W H f now tl L ad cnt ++ [.row U8 o, .row U8 (edB e)], Ent.ren [0, 1, 2, 3, 4, 5, 12] rfl ?_ ?_, ?_⟩
    · (repeat' (first | exact trivial | exact rfl | refine And.intro ?_ ?_))
      exact congrArg (fun z => some (AO.row U8 z)) eb
    · (repeat' (first | exact trivial | exact rfl | refine And.intro ?_ ?_))
      exact congrArg (AV.ref 12 0) hm
    (repeat' (first | exact trivial | exact fun h => h | refine And.intro ?_ ?_ | (intro hb; first | (simp at hb; done) | (simp at hb) | skip) | omega | exact rfl | exact Nat.le_refl _ | (show _ + 1 ≤ 4294967296; omega) | (dsimp only; omega) | (show (_ : Int) ≤ (_ : Int); omega) | (show _ < List.length _; simp only [List.length_set, List.length_append, List.length_take]; omega) | (show wantB _ _ = true; simp; done) | (show wantB _ _ = true; simp; omega) | (show (_ : Bool) = _; simp_all; done) | (exfalso; omega) | refine aRegion_auto (by decide +kernel) ?_ | fail))
    refine acall_lend [.keep, .dat LB] _ _ _ rfl ?_ rfl ?_
    · (repeat' (first | exact trivial | refine And.intro ?_ ?_ | (show _ ≤ _; omega) | (show _ ≤ _; simp; done)))
    refine acall_arg (summed_any G s (edB e) (by omega) _ ?_) (congrArg (fun z => [AV.fz U8 s, AV.fz LB z]) tm.symm)
    refine And.intro rfl ?_
    obtain ⟨s2, es2⟩ : ∃ z, z = sumB s (edB e) := ⟨_, rfl⟩
    rw [← es2]
    have lo : (List.take o.length o ++ List.take m (List.drop 0 (edB e))).length = o.length + m := by rw [List.length_append, ltm, List.take_length]
    (repeat' (first | exact trivial | exact fun h => h | refine And.intro ?_ ?_ | (intro hb; first | (simp at hb; done) | (simp at hb) | skip) | omega | exact rfl | exact Nat.le_refl _ | (show _ + 1 ≤ 4294967296; omega) | (dsimp only; omega) | (show (_ : Int) ≤ (_ : Int); omega) | (show _ < List.length _; simp only [List.length_set, List.length_append, List.length_take]; omega) | (show wantB _ _ = true; simp; done) | (show wantB _ _ = true; simp; omega) | (show (_ : Bool) = _; simp_all; done) | (exfalso; omega) | refine aRegion_auto (by decide +kernel) ?_ | fail))
    · show o.length + (List.take m (List.drop 0 (edB e))).length + 1 ≤ 4294967296
      rw [ltm]; omega
    refine ⟨k + 1, by show k + 1 ≤ ad.length; omega, by show ad.length - (k + 1) < ad.length - k; omega, ?_⟩
    show Ent _ _ ⟨[(3, .ref 5 0 (lgL (ad.take (k + 1))).1.length), (4, .fz U8 (lgL (ad.take (k + 1))).2), (11, .ref 4 0 ad.length), (12, .fz int ad.length), (13, .fz int ((k : Int) + 1))], dkA W H f now tl L ad cnt ++ [.row U8 (lgL (ad.take (k + 1))).1]⟩
    have hn1 : (lgL (ad.take (k + 1))).1 = o ++ edB e ++ [s2] := by rw [hnx, es2]; rfl
    have hn2 : (lgL (ad.take (k + 1))).2 = s2 := by rw [hnx, es2]; rfl
    rw [hn1, hn2]
    refine Ent.ren [0, 1, 2, 3, 4, 9] rfl ?_ ?_
    · (repeat' (first | exact trivial | exact rfl | refine And.intro ?_ ?_))
      refine congrArg (fun z => some (AO.row U8 z)) (?_ : List.take (o.length + (List.take m (List.drop 0 (edB e))).length) (List.take o.length o ++ List.take m (List.drop 0 (edB e))) ++ [s2] = o ++ edB e ++ [s2])
      rw [List.take_of_length_le (by rw [lo, ltm]; exact Nat.le_refl _), tm, List.take_length]
    · (repeat' (first | exact trivial | exact rfl | refine And.intro ?_ ?_))
      refine congrArg (AV.ref 9 0) (?_ : o.length + (List.take m (List.drop 0 (edB e))).length + 1 = (o ++ edB e ++ [s2]).length)
      rw [tm, List.length_append, List.length_append]; rfl
  · have hk3 : k = ad.length := by omega
    subst hk3
    rw [List.take_length] at et
    rw [← et] at hK
    (repeat' (first | exact trivial | exact fun h => h | refine And.intro ?_ ?_ | (intro hb; first | (simp at hb; done) | (simp at hb) | skip) | omega | exact rfl | exact Nat.le_refl _ | (show _ + 1 ≤ 4294967296; omega) | (dsimp only; omega) | (show (_ : Int) ≤ (_ : Int); omega) | (show _ < List.length _; simp only [List.length_set, List.length_append, List.length_take]; omega) | (show wantB _ _ = true; simp; done) | (show wantB _ _ = true; simp; omega) | (show (_ : Bool) = _; simp_all; done) | (exfalso; omega) | refine aRegion_auto (by decide +kernel) ?_ | fail))
    exact ⟨_, _, REnt.refl _ _ _, hK⟩
end Go.Proofs.YtiflieijbmaocaaDoor
/-
  Logs: the document's.
-/
namespace Go.Proofs.YtiflieijbmaocaaDoor
open Go Go.Ab Go.RowKit
set_option maxRecDepth 100000
open Dk
set_option maxHeartbeats 16000000 in
theorem logOf_any (G : List (Nat × Value)) (l : List E) (ha : l.length ≤ 10000) (hb : ∀ x ∈ l, x.2.2.2.size ≤ 20) (K : AV → List AO → Prop) (hK : K (.ref 0 0 (lgL l).1.length) [.row U8 (lgL l).1]) :
    ACall Tryd.prog G 10 [.fz (.list EdT) l] [] K := by
  refine acall_mk (E := envCut G 80 0 [12]) (envCutOk _ _ _ _) Tryd.func10 rfl rfl rfl rfl rfl ?_
  (repeat' (first | exact trivial | exact fun h => h | refine And.intro ?_ ?_ | (intro hb; first | (simp at hb; done) | (simp at hb) | skip) | omega | exact rfl | exact Nat.le_refl _ | (show _ + 1 ≤ 4294967296; omega) | (dsimp only; omega) | (show (_ : Int) ≤ (_ : Int); omega) | (show _ < List.length _; simp only [List.length_set, List.length_append, List.length_take]; omega) | (show wantB _ _ = true; simp; done) | (show wantB _ _ = true; simp; omega) | (show (_ : Bool) = _; simp_all; done) | (exfalso; omega) | refine aRegion_auto (by decide +kernel) ?_ | fail))
  refine ⟨Nat, fun k => ⟨[(0, .fz (.list EdT) l), (3, .ref 0 0 (lgL (l.take k)).1.length), (4, .fz int (lgL (l.take k)).2), (5, .fz int k)], [.row U8 (lgL (l.take k)).1]⟩, fun k => k ≤ l.length, fun k => l.length - k, 0, Nat.zero_le _, (Ent.nil 3 U8 rfl).trans (Ent.sub rfl ?_), ?_⟩
  · (repeat' (first | exact trivial | exact rfl | refine And.intro ?_ ?_))
  intro k hk
  have hk : k ≤ l.length := hk
  have hol := lgL_len l k hk hb
  have hlr := lgL_in (l.take k)
  obtain ⟨t, et⟩ : ∃ t, t = lgL (l.take k) := ⟨_, rfl⟩
  show awp _ _ _ ⟨[(0, .fz (.list EdT) l), (3, .ref 0 0 (lgL (l.take k)).1.length), (4, .fz int (lgL (l.take k)).2), (5, .fz int k)], [.row U8 (lgL (l.take k)).1]⟩
  rw [← et] at hol hlr
  rw [← et]
  obtain ⟨o, s⟩ := t
  have hol : o.length ≤ 46 * k := hol
  have hlr : 0 ≤ s ∧ s < 256 := hlr
  show awp _ _ _ ⟨[(0, .fz (.list EdT) l), (3, .ref 0 0 o.length), (4, .fz int s), (5, .fz int k)], [.row U8 o]⟩
  by_cases hk2 : k < l.length
  · have ge : l.getD (Int.toNat (k : Int)) EdT.dft = l[k] := by simp [List.getD, hk2]
    have hbs := hb l[k] (List.getElem_mem _)
    obtain ⟨e, ee⟩ : ∃ e, e = l[k] := ⟨_, rfl⟩
    have hnx := lgL_next l k hk2
    rw [← et, ← ee] at hnx
    rw [← ee] at ge hbs
    obtain ⟨c1, ec1⟩ : ∃ c, c = le8 (u64 e.1) 8 := ⟨_, rfl⟩
    obtain ⟨c2, ec2⟩ : ∃ c, c = c1 ++ le8 (u64 e.2.1) 8 := ⟨_, rfl⟩
    obtain ⟨c3, ec3⟩ : ∃ c, c = c2 ++ le8 (u64 e.2.2.1) 8 := ⟨_, rfl⟩
    have l1 : c1.length = 8 := by rw [ec1, le8_len]
    have l2 : c2.length = 16 := by rw [ec2, List.length_append, le8_len, l1]
    have l3 : c3.length = 24 := by rw [ec3, List.length_append, le8_len, l2]
    obtain ⟨w, ew⟩ : ∃ w, w = IntKind.u8.wrap ((e.2.2.2.size : Nat) : Int) := ⟨_, rfl⟩
    have lA : (c3 ++ [w]).length = 25 := by rw [List.length_append, l3]; rfl
    have tA : List.take 25 (c3 ++ [w]) = c3 ++ [w] := List.take_of_length_le (by omega)
    have lz : ∀ z, (List.take (16 + 8) c3 ++ [z]).length = 16 + 8 + 1 := fun z => by
      rw [List.length_append, List.take_of_length_le (by omega), l3]; rfl
    have t3 : List.take 24 c3 = c3 := List.take_of_length_le (by omega)
    have lb := bytesI_len e.2.2.2
    have eb : List.take 25 (List.take 24 c3 ++ [IntKind.u8.wrap ((e.2.2.2.size : Nat) : Int)]) ++ bytesI e.2.2.2 = edB e := by
      rw [← ew, t3, tA, ec3, ec2, ec1, ew, u8_eq]; rfl
    have leb := edB_len e
    obtain ⟨m, em⟩ : ∃ m, m = (edB e).length := ⟨_, rfl⟩
    have hm : 25 + (bytesI e.2.2.2).length = m := by omega
    have tm : List.take m (List.drop 0 (edB e)) = edB e := List.take_of_length_le (by show (edB e).length ≤ m; omega)
    have ltm : (List.take m (List.drop 0 (edB e))).length = m := by rw [tm]; exact em.symm
    have lo : (List.take o.length o ++ List.take m (List.drop 0 (edB e))).length = o.length + m := by rw [List.length_append, ltm, List.take_length]
    (repeat' (first | exact trivial | exact fun h => h | refine And.intro ?_ ?_ | (intro hb; first | (simp at hb; done) | (simp at hb) | skip) | omega | exact rfl | exact Nat.le_refl _ | (show _ + 1 ≤ 4294967296; omega) | (dsimp only; omega) | (show (_ : Int) ≤ (_ : Int); omega) | (show _ < List.length _; simp only [List.length_set, List.length_append, List.length_take]; omega) | (show wantB _ _ = true; simp; done) | (show wantB _ _ = true; simp; omega) | (show (_ : Bool) = _; simp_all; done) | (exfalso; omega) | refine aRegion_auto (by decide +kernel) ?_ | fail))
    rw [ge]
    refine acall_frame0 rfl (eight_nil _ (u64 e.1) (u64_in _) _ ?_)
    rw [← ec1]
    (repeat' (first | exact trivial | exact fun h => h | refine And.intro ?_ ?_ | (intro hb; first | (simp at hb; done) | (simp at hb) | skip) | omega | exact rfl | exact Nat.le_refl _ | (show _ + 1 ≤ 4294967296; omega) | (dsimp only; omega) | (show (_ : Int) ≤ (_ : Int); omega) | (show _ < List.length _; simp only [List.length_set, List.length_append, List.length_take]; omega) | (show wantB _ _ = true; simp; done) | (show wantB _ _ = true; simp; omega) | (show (_ : Bool) = _; simp_all; done) | (exfalso; omega) | refine aRegion_auto (by decide +kernel) ?_ | fail))
    rw [ge]
    refine acall_frame [1] [.row U8 c1] [.ref 0 0 8, .fz (.int .u64) (u64 e.2.1)] rfl ⟨⟨rfl, trivial⟩, trivial⟩ ⟨rfl, rfl⟩ rfl (eight_ref _ c1 8 l1 (by omega) (u64 e.2.1) (u64_in _) _ ?_)
    rw [← ec2]
    (repeat' (first | exact trivial | exact fun h => h | refine And.intro ?_ ?_ | (intro hb; first | (simp at hb; done) | (simp at hb) | skip) | omega | exact rfl | exact Nat.le_refl _ | (show _ + 1 ≤ 4294967296; omega) | (dsimp only; omega) | (show (_ : Int) ≤ (_ : Int); omega) | (show _ < List.length _; simp only [List.length_set, List.length_append, List.length_take]; omega) | (show wantB _ _ = true; simp; done) | (show wantB _ _ = true; simp; omega) | (show (_ : Bool) = _; simp_all; done) | (exfalso; omega) | refine aRegion_auto (by decide +kernel) ?_ | fail))
    rw [ge]
    refine acall_frame [2] [.row U8 c2] [.ref 0 0 16, .fz (.int .u64) (u64 e.2.2.1)] rfl ⟨⟨rfl, trivial⟩, trivial⟩ ⟨rfl, rfl⟩ rfl (eight_ref _ c2 16 l2 (by omega) (u64 e.2.2.1) (u64_in _) _ ?_)
    rw [← ec3]
    (repeat' (first | exact trivial | exact fun h => h | refine And.intro ?_ ?_ | (intro hb; first | (simp at hb; done) | (simp at hb) | skip) | omega | exact rfl | exact Nat.le_refl _ | (show _ + 1 ≤ 4294967296; omega) | (dsimp only; omega) | (show (_ : Int) ≤ (_ : Int); omega) | (show _ < List.length _; simp only [List.length_set, List.length_append, List.length_take]; omega) | (show wantB _ _ = true; simp; done) | (show wantB _ _ = true; simp; omega) | (show (_ : Bool) = _; simp_all; done) | (exfalso; omega) | refine aRegion_auto (by decide +kernel) ?_ | fail))
    · exact Nat.le_of_eq (lz _).symm
    · show 16 + 8 + 1 + (bytesI (l.getD (Int.toNat (k : Int)) EdT.dft).2.2.2).length ≤ 4294967296
      rw [ge]; omega
    rw [ge]
    refine ⟨[(0, .fz (.list EdT) l), (3, .ref 0 0 o.length), (4, .fz int s), (5, .fz int k), (6, .ref 1 0 m)], [.row U8 o, .row U8 (edB e)], Ent.ren [0, 6] rfl ?_ ?_, ?_⟩
    · (repeat' (first | exact trivial | exact rfl | refine And.intro ?_ ?_))
      exact congrArg (fun z => some (AO.row U8 z)) eb
    · (repeat' (first | exact trivial | exact rfl | refine And.intro ?_ ?_))
      exact congrArg (AV.ref 6 0) hm
    have hby := byt_edB e
    obtain ⟨B, eB⟩ : ∃ B, B = edB e := ⟨_, rfl⟩
    rw [← eB] at tm ltm lo hby em
    rw [← eB]
    have hBl : B.length ≤ 45 := by rw [eB]; omega
    (repeat' (first | exact trivial | exact fun h => h | refine And.intro ?_ ?_ | (intro hb; first | (simp at hb; done) | (simp at hb) | skip) | omega | exact rfl | exact Nat.le_refl _ | (show _ + 1 ≤ 4294967296; omega) | (dsimp only; omega) | (show (_ : Int) ≤ (_ : Int); omega) | (show _ < List.length _; simp only [List.length_set, List.length_append, List.length_take]; omega) | (show wantB _ _ = true; simp; done) | (show wantB _ _ = true; simp; omega) | (show (_ : Bool) = _; simp_all; done) | (exfalso; omega) | refine aRegion_auto (by decide +kernel) ?_ | fail))
    refine ⟨Nat, fun j => ⟨[(0, .fz (.list EdT) l), (3, .ref 0 0 o.length), (4, .fz int (sumB s (B.take j))), (5, .fz int k), (6, .ref 1 0 m), (7, .fz int j)], [.row U8 o, .row U8 B]⟩, fun j => j ≤ B.length, fun j => B.length - j, 0, Nat.zero_le _, Ent.sub rfl ?_, ?_⟩
    · (repeat' (first | exact trivial | exact rfl | refine And.intro ?_ ?_))
    intro j hj
    have hj : j ≤ B.length := hj
    show awp _ _ _ ⟨[(0, .fz (.list EdT) l), (3, .ref 0 0 o.length), (4, .fz int (sumB s (B.take j))), (5, .fz int k), (6, .ref 1 0 m), (7, .fz int j)], [.row U8 o, .row U8 B]⟩
    have hsr := sumB_in (b := B.take j) hlr
    obtain ⟨q, eq⟩ : ∃ q, q = sumB s (B.take j) := ⟨_, rfl⟩
    rw [← eq] at hsr
    rw [← eq]
    by_cases hj2 : j < B.length
    · have gb : B.getD (0 + Int.toNat (j : Int)) U8.dft = B[j] := by simp [List.getD, hj2]
      have hbj := hby B[j] (List.getElem_mem hj2)
      have hsn := sumB_next s B j hj2
      rw [← eq] at hsn
      obtain ⟨c, ec⟩ : ∃ c, c = B[j] := ⟨_, rfl⟩
      rw [← ec] at gb hbj hsn
      have g2 : B[j]?.getD U8.dft = c := by rw [ec]; simp [hj2]
      (repeat' (first | exact trivial | exact fun h => h | refine And.intro ?_ ?_ | (intro hb; first | (simp at hb; done) | (simp at hb) | skip) | omega | exact rfl | exact Nat.le_refl _ | (show _ + 1 ≤ 4294967296; omega) | (dsimp only; omega) | (show (_ : Int) ≤ (_ : Int); omega) | (show _ < List.length _; simp only [List.length_set, List.length_append, List.length_take]; omega) | (show wantB _ _ = true; simp; done) | (show wantB _ _ = true; simp; omega) | (show (_ : Bool) = _; simp_all; done) | (exfalso; omega) | refine aRegion_auto (by decide +kernel) ?_ | fail))
      refine ⟨j + 1, by show j + 1 ≤ B.length; omega, by show B.length - (j + 1) < B.length - j; omega, Ent.sub rfl ?_⟩
      (repeat' (first | exact trivial | exact rfl | refine And.intro ?_ ?_))
      refine congrArg (AV.fz int) (?_ : Int.tmod (q * 31 + B.getD (0 + Int.toNat (j : Int)) U8.dft + 7) 256 = sumB s (B.take (j + 1)))
      rw [gb, hsn, Int.tmod_eq_emod_of_nonneg (by omega)]
    · have hj3 : j = B.length := by omega
      subst hj3
      rw [List.take_length] at eq
      have hn1 : (lgL (l.take (k + 1))).1 = o ++ B ++ [q] := by rw [hnx, eq, eB]; rfl
      have hn2 : (lgL (l.take (k + 1))).2 = q := by rw [hnx, eq, eB]; rfl
      (repeat' (first | exact trivial | exact fun h => h | refine And.intro ?_ ?_ | (intro hb; first | (simp at hb; done) | (simp at hb) | skip) | omega | exact rfl | exact Nat.le_refl _ | (show _ + 1 ≤ 4294967296; omega) | (dsimp only; omega) | (show (_ : Int) ≤ (_ : Int); omega) | (show _ < List.length _; simp only [List.length_set, List.length_append, List.length_take]; omega) | (show wantB _ _ = true; simp; done) | (show wantB _ _ = true; simp; omega) | (show (_ : Bool) = _; simp_all; done) | (exfalso; omega) | refine aRegion_auto (by decide +kernel) ?_ | fail))
      · show o.length + (List.take m (List.drop 0 B)).length + 1 ≤ 4294967296
        rw [ltm]; omega
      refine ⟨k + 1, by show k + 1 ≤ l.length; omega, by show l.length - (k + 1) < l.length - k; omega, ?_⟩
      show Ent _ _ ⟨[(0, .fz (.list EdT) l), (3, .ref 0 0 (lgL (l.take (k + 1))).1.length), (4, .fz int (lgL (l.take (k + 1))).2), (5, .fz int ((k : Int) + 1))], [.row U8 (lgL (l.take (k + 1))).1]⟩
      rw [hn1, hn2]
      have eq8 : IntKind.u8.wrap q = q := by rw [u8_eq]; omega
      refine Ent.ren [4] rfl ?_ ?_
      · (repeat' (first | exact trivial | exact rfl | refine And.intro ?_ ?_))
        refine congrArg (fun z => some (AO.row U8 z)) (?_ : List.take (o.length + (List.take m (List.drop 0 B)).length) (List.take o.length o ++ List.take m (List.drop 0 B)) ++ [IntKind.u8.wrap q] = o ++ B ++ [q])
        rw [List.take_of_length_le (by rw [lo, ltm]; exact Nat.le_refl _), tm, List.take_length, eq8]
      · (repeat' (first | exact trivial | exact rfl | refine And.intro ?_ ?_))
        refine congrArg (AV.ref 4 0) (?_ : o.length + (List.take m (List.drop 0 B)).length + 1 = (o ++ B ++ [q]).length)
        rw [tm, List.length_append, List.length_append]; rfl
  · have hk3 : k = l.length := by omega
    subst hk3
    rw [List.take_length] at et
    rw [← et] at hK
    (repeat' (first | exact trivial | exact fun h => h | refine And.intro ?_ ?_ | (intro hb; first | (simp at hb; done) | (simp at hb) | skip) | omega | exact rfl | exact Nat.le_refl _ | (show _ + 1 ≤ 4294967296; omega) | (dsimp only; omega) | (show (_ : Int) ≤ (_ : Int); omega) | (show _ < List.length _; simp only [List.length_set, List.length_append, List.length_take]; omega) | (show wantB _ _ = true; simp; done) | (show wantB _ _ = true; simp; omega) | (show (_ : Bool) = _; simp_all; done) | (exfalso; omega) | refine aRegion_auto (by decide +kernel) ?_ | fail))
    exact ⟨_, _, REnt.refl _ _ _, hK⟩
end Go.Proofs.YtiflieijbmaocaaDoor
/-
  DeskPlays: the law walked.
-/
namespace Go.Proofs.YtiflieijbmaocaaDoor
open Go Go.Ab Go.RowKit
set_option maxRecDepth 100000
open Dk
/-- a contract's answer seen otherwise -/
theorem _root_.Go.Ab.acall_ent {P : Program} {G : List (Nat × Value)} {f : FuncId} {args : List AV} {A : List AO} {K' K : AV → List AO → Prop} (h : ACall P G f args A K') (hk : ∀ r A', K' r A' → ∃ r' A'', REnt A.length r A' r' A'' ∧ K r' A'') : ACall P G f args A K := by
  refine ⟨h.body, fun c H hcA hG vs hv => (h.run c H hcA hG vs hv).mono fun e w' ⟨v, c', r, h1, h2, h3, h4, h5, h6⟩ => ?_⟩
  obtain ⟨r', A'', k1, k2⟩ := hk r c'.A h6
  obtain ⟨c2, j1, j2, j3, j4, j5⟩ := k1 c' h4 rfl (by rw [← hcA]; exact h3.le.len) v h5
  have E := (h3.toN).trans (by rw [← hcA] at j2; exact j2)
  exact ⟨v, c2, r', h1, j1.trans h2, ⟨E.le, E.X, E.G, E.far, E.st⟩, j3, j5, by rw [j4]; exact k2⟩
theorem logOf_dat (G : List (Nat × Value)) (l : List E) (ha : l.length ≤ 10000) (hb : ∀ x ∈ l, x.2.2.2.size ≤ 20) (K : AV → List AO → Prop) (hK : K (.fz LB (lgL l).1) []) :
    ACall Tryd.prog G 10 [.fz (.list EdT) l] [] K :=
  acall_ent (K' := fun r A => r = .ref 0 0 (lgL l).1.length ∧ A = [.row U8 (lgL l).1]) (logOf_any G l ha hb _ ⟨rfl, rfl⟩) fun r A ⟨e1, e2⟩ => by
    subst e1; subst e2
    refine ⟨.fz LB ((lgL l).1.take (lgL l).1.length), [], (REnt.conv1 (.dat LB) _ rfl ?_).trans (REnt.drop ⟨rfl, rfl⟩), by rw [List.take_length]; exact hK⟩
    (repeat' (first | exact trivial | refine And.intro ?_ ?_ | (show _ ≤ _; omega) | (show _ ≤ _; simp; done)))
theorem log_dat (G : List (Nat × Value)) (W H : Nat) (f now : List Int) (tl : List Tl) (L ad : List E) (cnt : Int) (ha : ad.length ≤ 10000) (hb : ∀ x ∈ ad, x.2.2.2.size ≤ 20) (K : AV → List AO → Prop) (hK : K (.fz LB (lgL ad).1) (dkA W H f now tl L ad cnt)) :
    ACall Tryd.prog G 9 [.ptr 0 0] (dkA W H f now tl L ad cnt) K :=
  acall_ent (K' := fun r A => r = .ref 5 0 (lgL ad).1.length ∧ A = dkA W H f now tl L ad cnt ++ [.row U8 (lgL ad).1]) (log_any G W H f now tl L ad cnt ha hb _ ⟨rfl, rfl⟩) fun r A ⟨e1, e2⟩ => by
    subst e1; subst e2
    refine ⟨.fz LB ((lgL ad).1.take (lgL ad).1.length), dkA W H f now tl L ad cnt, (REnt.conv1 (.dat LB) _ rfl ?_).trans (REnt.ren [0, 1, 2, 3, 4] rfl ?_ ?_), by rw [List.take_length]; exact hK⟩
    · (repeat' (first | exact trivial | refine And.intro ?_ ?_ | (show _ ≤ _; omega) | (show _ ≤ _; simp; done)))
    · (repeat' (first | exact trivial | exact rfl | refine And.intro ?_ ?_))
    · (repeat' (first | exact trivial | exact rfl | refine And.intro ?_ ?_))
theorem stp_by {n : Nat} {s : Dd} {e : E} (h : ∀ x ∈ s.2, x.2.2.2.size ≤ 20) : ∀ x ∈ (stp n s e).2, x.2.2.2.size ≤ 20 := by
  unfold stp
  split
  · rename_i c
    obtain ⟨_, _, _, _, _, _, c7⟩ := chk_ok (eerr_chk0 c.1)
    intro x hx
    rcases List.mem_append.1 hx with hx | hx
    · exact h x hx
    · rw [List.mem_singleton] at hx; rw [hx]; exact c7
  · exact h
theorem runD_by (n : Nat) (l : List E) : ∀ x ∈ (runD n l).2, x.2.2.2.size ≤ 20 := by
  have : ∀ (l : List E) (s : Dd), (∀ x ∈ s.2, x.2.2.2.size ≤ 20) → ∀ x ∈ (l.foldl (stp n) s).2, x.2.2.2.size ≤ 20 := by
    intro l
    induction l with
    | nil => intro s h; exact h
    | cons e l ih => intro s h; rw [List.foldl_cons]; exact ih _ (stp_by h)
  exact this l ([], []) (fun _ h => nomatch h)
theorem smB_of {n : Nat} {l : List E} (h : smB n l = true) : n ≤ 1700 ∧ l.length ≤ 40 := by
  unfold smB at h
  simp only [Bool.and_eq_true, decide_eq_true_eq] at h
  exact h.2
set_option maxHeartbeats 16000000 in
theorem plays_some {E : Errs} (hE : (EL E).Nodup) (a : Ras) (l : List Dk.E) (ha : a.2.2.length ≤ 9223372036854775807) (hl : l.length ≤ 9223372036854775807) (K : AV → List AO → Prop) (hK : K (.fz .bool true) []) :
    ACall Tryd.prog (G8 E) 3 [.fptr RasT a, .fz (.list EdT) l] [] K := by
  refine acall_mk (E := envAt (G8 E) 49 0) (envOk _ _ _) Tryd.func3 rfl rfl rfl rfl rfl ?_
  (repeat' (first | exact trivial | exact fun h => h | refine And.intro ?_ ?_ | (intro hb; first | (simp at hb; done) | (simp at hb) | skip) | omega | exact rfl | exact Nat.le_refl _ | (show _ + 1 ≤ 4294967296; omega) | (dsimp only; omega) | (show (_ : Int) ≤ (_ : Int); omega) | (show _ < List.length _; simp only [List.length_set, List.length_append, List.length_take]; omega) | (show wantB _ _ = true; simp; done) | (show wantB _ _ = true; simp; omega) | (show (_ : Bool) = _; simp_all; done) | (exfalso; omega) | refine aRegion_auto (by decide +kernel) ?_ | fail))
  refine acall_frame0 rfl (desked_any E _ ?_)
  (repeat' (first | exact trivial | exact fun h => h | refine And.intro ?_ ?_ | (intro hb; first | (simp at hb; done) | (simp at hb) | skip) | omega | exact rfl | exact Nat.le_refl _ | (show _ + 1 ≤ 4294967296; omega) | (dsimp only; omega) | (show (_ : Int) ≤ (_ : Int); omega) | (show _ < List.length _; simp only [List.length_set, List.length_append, List.length_take]; omega) | (show wantB _ _ = true; simp; done) | (show wantB _ _ = true; simp; omega) | (show (_ : Bool) = _; simp_all; done) | (exfalso; omega) | refine aRegion_auto (by decide +kernel) ?_ | fail))
  refine acall_frame0 rfl (small_some _ a l hl ha _ ?_)
  cases hs : smB a.2.2.length l
  · (repeat' (first | exact trivial | exact fun h => h | refine And.intro ?_ ?_ | (intro hb; first | (simp at hb; done) | (simp at hb) | skip) | omega | exact rfl | exact Nat.le_refl _ | (show _ + 1 ≤ 4294967296; omega) | (dsimp only; omega) | (show (_ : Int) ≤ (_ : Int); omega) | (show _ < List.length _; simp only [List.length_set, List.length_append, List.length_take]; omega) | (show wantB _ _ = true; simp; done) | (show wantB _ _ = true; simp; omega) | (show (_ : Bool) = _; simp_all; done) | (exfalso; omega) | refine aRegion_auto (by decide +kernel) ?_ | fail))
    exact ⟨_, _, REnt.drop ⟨rfl, rfl⟩, hK⟩
  · obtain ⟨s1, s2⟩ := smB_of hs
    (repeat' (first | exact trivial | exact fun h => h | refine And.intro ?_ ?_ | (intro hb; first | (simp at hb; done) | (simp at hb) | skip) | omega | exact rfl | exact Nat.le_refl _ | (show _ + 1 ≤ 4294967296; omega) | (dsimp only; omega) | (show (_ : Int) ≤ (_ : Int); omega) | (show _ < List.length _; simp only [List.length_set, List.length_append, List.length_take]; omega) | (show wantB _ _ = true; simp; done) | (show wantB _ _ = true; simp; omega) | (show (_ : Bool) = _; simp_all; done) | (exfalso; omega) | refine aRegion_auto (by decide +kernel) ?_ | fail))
    refine acall_frame0 rfl (played_any hE a l (by omega) (by omega) _ (fun hr => ?_) (fun W H hr hW hH => ?_))
    · (repeat' (first | exact trivial | exact fun h => h | refine And.intro ?_ ?_ | (intro hb; first | (simp at hb; done) | (simp at hb) | skip) | omega | exact rfl | exact Nat.le_refl _ | (show _ + 1 ≤ 4294967296; omega) | (dsimp only; omega) | (show (_ : Int) ≤ (_ : Int); omega) | (show _ < List.length _; simp only [List.length_set, List.length_append, List.length_take]; omega) | (show wantB _ _ = true; simp; done) | (show wantB _ _ = true; simp; omega) | (show (_ : Bool) = _; simp_all; done) | (exfalso; omega) | refine aRegion_auto (by decide +kernel) ?_ | fail))
      exact ⟨_, _, REnt.drop ⟨rfl, rfl⟩, hK⟩
    · have hby := runD_by a.2.2.length l
      have hok := runD_ok a.2.2.length l l.length (Nat.le_refl _)
      rw [List.take_length] at hok
      obtain ⟨s, es⟩ : ∃ s, s = runD a.2.2.length l := ⟨_, rfl⟩
      rw [← es] at hby hok
      rw [← es]
      obtain ⟨L, ad⟩ := s
      have hal : ad.length ≤ l.length := hok.ad
      (repeat' (first | exact trivial | exact fun h => h | refine And.intro ?_ ?_ | (intro hb; first | (simp at hb; done) | (simp at hb) | skip) | omega | exact rfl | exact Nat.le_refl _ | (show _ + 1 ≤ 4294967296; omega) | (dsimp only; omega) | (show (_ : Int) ≤ (_ : Int); omega) | (show _ < List.length _; simp only [List.length_set, List.length_append, List.length_take]; omega) | (show wantB _ _ = true; simp; done) | (show wantB _ _ = true; simp; omega) | (show (_ : Bool) = _; simp_all; done) | (exfalso; omega) | refine aRegion_auto (by decide +kernel) ?_ | fail))
      refine acall_frame [0, 1, 2, 3, 4] (dkA W H a.2.2 (nw a.2.2 L) (tl0 W H) L ad 0) [.ptr 0 0] rfl ?_ ⟨rfl, rfl⟩ rfl (log_dat _ W H a.2.2 (nw a.2.2 L) (tl0 W H) L ad 0 (by omega) hby _ ?_)
      · (repeat' (first | exact trivial | exact rfl | refine And.intro ?_ ?_))
      (repeat' (first | exact trivial | exact fun h => h | refine And.intro ?_ ?_ | (intro hb; first | (simp at hb; done) | (simp at hb) | skip) | omega | exact rfl | exact Nat.le_refl _ | (show _ + 1 ≤ 4294967296; omega) | (dsimp only; omega) | (show (_ : Int) ≤ (_ : Int); omega) | (show _ < List.length _; simp only [List.length_set, List.length_append, List.length_take]; omega) | (show wantB _ _ = true; simp; done) | (show wantB _ _ = true; simp; omega) | (show (_ : Bool) = _; simp_all; done) | (exfalso; omega) | refine aRegion_auto (by decide +kernel) ?_ | fail))
      apply exEff
      · refine ⟨fun _ => ?_, fun h => absurd h (by simp)⟩
        (repeat' (first | refine And.intro ?_ ?_ | (show wantB _ _ = true; simp; done)))
        refine acall_conv [.dat (.list EdT)] _ _ _ rfl ?_ (acall_frame0 rfl (acall_arg (logOf_dat _ ad (by omega) hby _ ?_) (congrArg (fun z => [AV.fz (.list EdT) z]) List.take_length.symm)))
        · (repeat' (first | exact trivial | refine And.intro ?_ ?_ | (show _ ≤ _; omega) | (show _ ≤ _; simp; done)))
        exact ⟨rfl, rfl⟩
      (repeat' (first | exact trivial | exact fun h => h | refine And.intro ?_ ?_ | (intro hb; first | (simp at hb; done) | (simp at hb) | skip) | omega | exact rfl | exact Nat.le_refl _ | (show _ + 1 ≤ 4294967296; omega) | (dsimp only; omega) | (show (_ : Int) ≤ (_ : Int); omega) | (show _ < List.length _; simp only [List.length_set, List.length_append, List.length_take]; omega) | (show wantB _ _ = true; simp; done) | (show wantB _ _ = true; simp; omega) | (show (_ : Bool) = _; simp_all; done) | (exfalso; omega) | refine aRegion_auto (by decide +kernel) ?_ | fail))
      refine ⟨.fz .bool true, [], REnt.ren [] rfl ?_ ?_, hK⟩
      · (repeat' (first | exact trivial | exact rfl | refine And.intro ?_ ?_))
      · refine And.intro (congrArg (AV.fz .bool) (?_ : (bif true then ((byN (lgL ad).1).toList == (byN (lgL ad).1).toList) else false) = true)) rfl
        simp
theorem plays_nil (E : Errs) (l : List Dk.E) (hl : l.length ≤ 9223372036854775807) (K : AV → List AO → Prop) (hK : K (.fz .bool true) []) :
    ACall Tryd.prog (G8 E) 3 [.fz .raw (.pointer none), .fz (.list EdT) l] [] K := by
  refine acall_mk (E := envAt (G8 E) 49 0) (envOk _ _ _) Tryd.func3 rfl rfl rfl rfl rfl ?_
  (repeat' (first | exact trivial | exact fun h => h | refine And.intro ?_ ?_ | (intro hb; first | (simp at hb; done) | (simp at hb) | skip) | omega | exact rfl | exact Nat.le_refl _ | (show _ + 1 ≤ 4294967296; omega) | (dsimp only; omega) | (show (_ : Int) ≤ (_ : Int); omega) | (show _ < List.length _; simp only [List.length_set, List.length_append, List.length_take]; omega) | (show wantB _ _ = true; simp; done) | (show wantB _ _ = true; simp; omega) | (show (_ : Bool) = _; simp_all; done) | (exfalso; omega) | refine aRegion_auto (by decide +kernel) ?_ | fail))
  refine acall_frame0 rfl (desked_any E _ ?_)
  (repeat' (first | exact trivial | exact fun h => h | refine And.intro ?_ ?_ | (intro hb; first | (simp at hb; done) | (simp at hb) | skip) | omega | exact rfl | exact Nat.le_refl _ | (show _ + 1 ≤ 4294967296; omega) | (dsimp only; omega) | (show (_ : Int) ≤ (_ : Int); omega) | (show _ < List.length _; simp only [List.length_set, List.length_append, List.length_take]; omega) | (show wantB _ _ = true; simp; done) | (show wantB _ _ = true; simp; omega) | (show (_ : Bool) = _; simp_all; done) | (exfalso; omega) | refine aRegion_auto (by decide +kernel) ?_ | fail))
  refine acall_frame0 rfl (small_nil _ l hl _ ?_)
  (repeat' (first | exact trivial | exact fun h => h | refine And.intro ?_ ?_ | (intro hb; first | (simp at hb; done) | (simp at hb) | skip) | omega | exact rfl | exact Nat.le_refl _ | (show _ + 1 ≤ 4294967296; omega) | (dsimp only; omega) | (show (_ : Int) ≤ (_ : Int); omega) | (show _ < List.length _; simp only [List.length_set, List.length_append, List.length_take]; omega) | (show wantB _ _ = true; simp; done) | (show wantB _ _ = true; simp; omega) | (show (_ : Bool) = _; simp_all; done) | (exfalso; omega) | refine aRegion_auto (by decide +kernel) ?_ | fail))
  exact ⟨_, _, REnt.drop ⟨rfl, rfl⟩, hK⟩
end Go.Proofs.YtiflieijbmaocaaDoor
/-
  What the laid variables give: eight errors, all different, and the handle of type error.
-/
namespace Go.Proofs.YtiflieijbmaocaaDoor
open Go Go.Ab Go.RowKit Go.ChangeShapes
set_option maxRecDepth 100000
theorem star : "*" ++ "errors.errorString" = "*errors.errorString" := by decide
theorem names_at (u : TypeId) (h : Tryd.prog.typeName? 3 u = some "*errors.errorString") : u = 137 :=
  typeName_ptr_named (nm := "errors.errorString") (by rw [star]; kernel_rfl) (by kernel_rfl) (by decide) u (by rw [star]; exact h)
theorem cells_es : Tryd.prog.cellsOf 159 = 1 := by kernel_rfl
theorem cells_str : Tryd.prog.cellsOf 9 = 1 := by kernel_rfl
theorem glob_ty (g : Nat) (hg : g ∈ [2, 1, 0, 3, 4, 5, 6, 7]) :
    ∃ ti ms, (Tryd.prog.globals[g]?).map (·.type) = some ti ∧ Tryd.prog.underlying ti = some (.interface ms) := by
  have : ([2, 1, 0, 3, 4, 5, 6, 7].all fun g => (Tryd.prog.globals[g]?).map (·.type) == some 39) = true := by kernel_rfl
  exact ⟨39, _, by simpa using List.all_eq_true.1 this g hg, Tryd.underlying39⟩
theorem et_at : Tryd.prog.globalNamed "errors.errorType" = some 8 := by kernel_rfl
theorem rt_at : (Tryd.prog.cutTypes.find? (·.1 == "internal/reflectlite.rtype")).map (·.2) = some 122 := by kernel_rfl
theorem one_row : ((List.range Tryd.prog.types.size).filter fun t => Tryd.prog.rowNamed t [101, 114, 114, 111, 114]) = [39] := by kernel_rfl
/-- of a list of the eight errors and the handle -/
theorem globs8 {W : World} {l : List (String × DataW Unit)} {x1 x2 x3 x4 x5 x6 x7 x8 : List UInt8} (h : laidMetH Tryd.prog l W)
    (hl : (l.filter fun x => x.2.handleName?.isNone) = [("mercator/api.ErrText", errD x1), ("mercator/api.ErrBound", errD x2), ("mercator/api.ErrShape", errD x3), ("mercator/api.ErrRange", errD x4), ("mercator/api.ErrName", errD x5), ("mercator/api.ErrNone", errD x6), ("mercator/api.ErrOrder", errD x7), ("mercator/api.ErrFile", errD x8)])
    (hh : (l.filter fun x => x.2.handleName?.isSome) = [("errors.errorType", .iface "internal/reflectlite.rtype" (.agg [.ptr (.lit (.string [101, 114, 114, 111, 114]))]))]) :
    ∃ E : Errs, (EL E).Nodup ∧ ∀ g v, gk (G8 E) g = some v → Glo0 W g v := by
  obtain ⟨h1, h2⟩ := laidMetH_iff.1 h
  rw [hl] at h1
  rw [hh] at h2
  obtain ⟨ps, hv, hn, hall⟩ := h1
  obtain ⟨al, k1, k2, k3, _⟩ := laid_errs names_at Tryd.underlying137 Tryd.underlying159 rfl rfl Tryd.underlying9 cells_es cells_str
    [("mercator/api.ErrText", x1), ("mercator/api.ErrBound", x2), ("mercator/api.ErrShape", x3), ("mercator/api.ErrRange", x4), ("mercator/api.ErrName", x5), ("mercator/api.ErrNone", x6), ("mercator/api.ErrOrder", x7), ("mercator/api.ErrFile", x8)]
    [2, 1, 0, 3, 4, 5, 6, 7] ps hv hn hall (by kernel_rfl) glob_ty
  obtain ⟨a1, a2, a3, a4, a5, a6, a7, a8, rfl⟩ : ∃ a1 a2 a3 a4 a5 a6 a7 a8, al = [a1, a2, a3, a4, a5, a6, a7, a8] := by
    match al, k1 with
    | [a1, a2, a3, a4, a5, a6, a7, a8], _ => exact ⟨a1, a2, a3, a4, a5, a6, a7, a8, rfl⟩
  have hE : Glo0 W 8 asK.errType := by
    obtain ⟨name, u, ty, e1, e2, e3, e4, e5⟩ := h2 _ (List.mem_singleton.2 rfl)
    have en : name = [101, 114, 114, 111, 114] := (Option.some.inj e1).symm
    subst en
    obtain rfl := Option.some.inj (rt_at.symm.trans e2)
    have hm : ty ∈ (List.range Tryd.prog.types.size).filter fun t => Tryd.prog.rowNamed t [101, 114, 114, 111, 114] := List.mem_filter.2 ⟨List.mem_range.2 e3, e4⟩
    rw [one_row] at hm
    obtain rfl := List.mem_singleton.1 hm
    have hh : typeHandle Tryd.prog 39 = .pointer (some ⟨10, 39, none⟩) := by kernel_rfl
    rw [hh] at e5
    exact ⟨by simpa [asK.errType] using World.var?_cell et_at e5 0, rfl, fun T a e => by cases e⟩
  refine ⟨⟨a1, a2, a3, a4, a5, a6, a7, a8⟩, k2, fun g v hg => ?_⟩
  unfold G8 gk at hg
  split at hg
  · rename_i e; subst e; cases hg; exact k3 2 _ _ rfl rfl
  unfold gk at hg
  split at hg
  · rename_i e; subst e; cases hg; exact k3 3 _ _ rfl rfl
  unfold gk at hg
  split at hg
  · rename_i e; subst e; cases hg; exact k3 1 _ _ rfl rfl
  unfold gk at hg
  split at hg
  · rename_i e; subst e; cases hg; exact k3 0 _ _ rfl rfl
  unfold gk at hg
  split at hg
  · rename_i e; subst e; cases hg; exact k3 4 _ _ rfl rfl
  unfold gk at hg
  split at hg
  · rename_i e; subst e; cases hg; exact k3 5 _ _ rfl rfl
  unfold gk at hg
  split at hg
  · rename_i e; subst e; cases hg; exact k3 6 _ _ rfl rfl
  unfold gk at hg
  split at hg
  · rename_i e; subst e; cases hg; exact k3 7 _ _ rfl rfl
  unfold gk at hg
  split at hg
  · rename_i e; subst e; cases hg; exact hE
  · cases hg
end Go.Proofs.YtiflieijbmaocaaDoor
/-
  Arguments read again behind a call that leaves old memory alone; a slice of points opened.
-/
namespace Go.Proofs.YtiflieijbmaocaaDoor
open Go Go.ChangeShapes Go.WideShapes Go.ChangeAt Go.RowKit
theorem trodAll_below {H : Type} {enc : TypeId × Value → H} {P : Program} (hl : laidOutB P = true) {W W' : World} (hb : Below W.heap.size W W') :
    ∀ (ts : List TypeId) (vs : List Value) (ds : List (DataW H)) (ps : List MemPlace), (∀ t ∈ ts, P.readableRec t = true ∧ t < P.types.size) →
      DataW.TrodAll enc P W 0 (fun _ => true) true ts vs ds ps → (∀ x ∈ ps, x.block < W.heap.size) →
      DataW.TrodAll enc P W' 0 (fun b => decide (b < W.heap.size)) true ts vs ds ps
  | [], [], [], ps, _, h, _ => h
  | [], [], _ :: _, _, _, h, _ => h.elim
  | [], _ :: _, _, _, _, h, _ => h.elim
  | _ :: _, [], _, _, _, h, _ => h.elim
  | _ :: _, _ :: _, [], _, _, h, _ => h.elim
  | t :: ts, v :: vs, d :: ds, ps, hr, h, hlt => by
    obtain ⟨p, q, h1, h2, rfl⟩ := h
    refine ⟨p, q, Below.trod hl (hr t (List.mem_cons_self ..)).1 (hr t (List.mem_cons_self ..)).2 h1 hb (fun x hx => hlt x (List.mem_append.2 (.inl hx))), ?_, rfl⟩
    exact trodAll_below hl hb ts vs ds q (fun t ht => hr t (List.mem_cons_of_mem _ ht)) h2 (fun x hx => hlt x (List.mem_append.2 (.inr hx)))
end Go.Proofs.YtiflieijbmaocaaDoor
/-
  DeskPlays answers true, whatever it is asked (no condition).
-/
namespace Go.Proofs.YtiflieijbmaocaaDoor.deskPlays
open Go Go.ChangeShapes Go.WideShapes Go.ChangeAt Go.RowKit Go.Ab
set_option maxRecDepth 100000
theorem own : ownKnob Tryd.prog.godebug = none := by kernel_rfl
theorem laidOut : laidOutB Tryd.prog = true := by kernel_rfl
theorem lifted (os : Os) (started : os.Started) (H : Type) (enc : TypeId × Value → H) :
    ReturnsInHanded {} Tryd.checked os 3 .any (fun w args => (Rows.deskPlaysSpec.pre enc Tryd.prog Tryd.f3 [] false w args ∧ laidMetH Tryd.prog Rows.deskPlaysRow.laid w) ∧ sizedMet enc Tryd.prog Tryd.f3 (OpenSpec.ofChange Rows.deskPlaysSpec) false w args)
      (Rows.deskPlaysSpec.post enc Tryd.prog Tryd.f3 false true false false) := by
  refine returnsInHanded_of_change_and (C := Tryd.checked) (X := fun w _ => laidMetH Tryd.prog Rows.deskPlaysRow.laid w) (fun _ _ _ hh h => h.of_heap hh) own started (by kernel_rfl) Tryd.func3
    (ChangeSpec.witness_shaped (enc := enc) (C := Tryd.checked) (os := os) (X := fun w _ => laidMetH Tryd.prog Rows.deskPlaysRow.laid w) false (World.doorLaid Tryd.prog 400 os) #[.pointer none, .slice none 0 0] 8 rfl (World.shaped_of_RefB (by kernel_rfl) (by kernel_rfl)) (by kernel_rfl) (by kernel_rfl) (by kernel_rfl)
      (laidMetH_of_parts3 (fuel := 8) (laidMet_of_run' 8 (by kernel_rfl) (by kernel_rfl)) (by kernel_rfl) (by kernel_rfl))) ?_
  intro W base args ds gs before hval0 hW _ _ hL _
  have hval : ∀ (j : Nat) t v, Tryd.f3.params[j]? = some t → args[j]? = some v → Value.okWide Tryd.prog W .any base t v := hval0
  have hW' := hW
  obtain ⟨p, q, hA0, hV, rfl, hfz, hnd⟩ := hW
  have hA : DataW.TrodAll enc Tryd.prog W 0 (fun _ => true) true Tryd.f3.params.toList args.toList ds p := hA0
  obtain ⟨rfl, rfl⟩ := trodVars_none hV
  simp only [List.append_nil] at hW'
  have hAll : ∀ W', Below W.heap.size W W' → DataW.TrodAll enc Tryd.prog W' 0 (fun b => decide (b < W.heap.size)) true Tryd.f3.params.toList args.toList ds p :=
    fun W' hb => trodAll_below laidOut hb _ _ _ _ (by rw [Tryd.params3]; exact of_decide_eq_true (by kernel_rfl)) hA (fun x hx => hW'.lt x hx)
  rw [Tryd.params3] at hA hval
  obtain ⟨v0, vs0, d0, ds0, p0, q0, hargs, rfl, rfl, h0, t0⟩ := trodAll_cons hA
  obtain ⟨v1, vs1, d1, ds1, p1, q1, rfl, rfl, rfl, h1, t1⟩ := trodAll_cons t0
  obtain ⟨rfl, rfl, rfl⟩ := trodAll_nil t1
  obtain rfl : args = #[v0, v1] := by cases args; simp_all
  clear hA0 hval0
  obtain ⟨E, hN, hE⟩ := globs8 hL rfl rfl
  have o0 := open_ptr (n := 4) (ty := RasT) tabOk (show tptrTo tab 22 = some 35 by kernel_rfl) (by kernel_rfl) (G8 E) (hval 0 _ v0 rfl rfl) h0
  obtain ⟨y1, r1, b1⟩ := open_val (n := 6) (ty := .list EdT) tabOk (by kernel_rfl) (G8 E) (hval 1 _ v1 rfl rfl) h1
  have fin : Calls Tryd.prog 3 #[v0, v1] W fun e w' => e = .returned (.bool true) ∧ Below W.heap.size W w' := by
    have hl1 : y1.length ≤ 9223372036854775807 := by have := b1.1; unfold maxLen at this; omega
    rcases o0 with rfl | ⟨y0, r0, b0⟩
    · exact acall_true (vs := [.pointer none, v1]) (plays_nil E y1 hl1 _ rfl) hE ⟨_, _, rfl, (rel_raw rfl).2 rfl, _, _, rfl, r1, rfl⟩
    · have hl0 : y0.2.2.length ≤ 9223372036854775807 := by have := b0.2.2.1; unfold maxLen at this; omega
      exact acall_true (vs := [v0, v1]) (plays_some hN y0 y1 hl0 hl1 _ rfl) hE ⟨_, _, rfl, r0, _, _, rfl, r1, rfl⟩
  refine fin.mono fun e W' ⟨he, hg⟩ => ?_
  subst he
  exact ⟨_, rfl, _, _, _, [], _, [], hW', trodAll_mk1 (shut_bool Tryd.underlying4 _), hAll W' hg, rfl, hg.frame _, fun h => by cases h⟩
theorem row : Rows.DeskPlaysSaid :=
  OpenClaim.holds_of_wide 3 Tryd.f3 rfl rfl rfl rfl rfl rfl rfl ⟨rfl, rfl, rfl, rfl, rfl⟩ rfl rfl rfl rfl rfl (by kernel_rfl) Tryd.func3 (by kernel_rfl)
    (of_decide_eq_true (by kernel_rfl)) (by unfold Func.isWrapper; first | (rw [if_pos (by decide +kernel)]; kernel_rfl) | (rw [if_neg (by decide +kernel)]; exact ⟨rfl, rfl⟩))
    (fun os started H enc _ => lifted os started H enc)
theorem proved : Rows.DeskPlaysCardSaid :=
  Claim7.holds_tied_plain_at .later [] [.handle, .sentinel, .sentinel, .sentinel, .sentinel, .sentinel, .sentinel, .sentinel, .sentinel] true (true, "0b77add1c1b93e57d96dd9853abf68044746bcea1445f44073bcb65261dd1821") true
    row (fun _ h => by cases h) (by kernel_rfl) (fun _ h => by cases h) deskPlays_row_tie rfl ⟨rfl, rfl⟩ (by kernel_rfl) rfl
    (fun f fn hf hfn => by
      obtain rfl : f = 3 := Option.some.inj ((show Tryd.prog.funcNamed "mercator/mercatorlaw5.DeskPlays" = some 3 by kernel_rfl).symm.trans hf) |>.symm
      obtain rfl : fn = Tryd.f3 := (Option.some.inj (Tryd.func3.symm.trans hfn)).symm
      exact ⟨by kernel_rfl, fun j t ht => by
        rw [Tryd.params3] at ht
        have hm : t ∈ [22, 23] := by simpa using Array.mem_of_getElem? ht
        have hall : ([22, 23].all fun u => !Tryd.prog.wantsStandIn u) = true := by kernel_rfl
        exact (show Tryd.prog.wantsStandIn t = false by simpa using List.all_eq_true.1 hall t hm)⟩)
    (by kernel_rfl)
end Go.Proofs.YtiflieijbmaocaaDoor.deskPlays
