/-
  Logs: both.
-/
import Derived.Test.YtiflieijbmaocaaDoorM6
namespace Go.Proofs.YtiflieijbmaocaaDoor
open Go Go.Ab Go.RowKit
set_option maxRecDepth 100000
open Dk
theorem lgL_len (l : List E) (k : Nat) (hk : k ≤ l.length) (hb : ∀ x ∈ l, x.2.2.2.size ≤ 20) : (lgL (l.take k)).1.length ≤ 46 * k := by
  induction k with
  | zero => simp [lgL]
  | succ k ih =>
    rw [lgL_next l k hk]
    unfold lgS
    have := ih (by omega)
    have h2 := hb l[k] (List.getElem_mem _)
    simp only [List.length_append, edB_len, List.length_singleton]
    omega
set_option maxHeartbeats 16000000 in
theorem log_any (G : List (Nat × Value)) (W H : Nat) (f now : List Int) (tl : List Tl) (L ad : List E) (cnt : Int) (ha : ad.length ≤ 10000) (hb : ∀ x ∈ ad, x.2.2.2.size ≤ 20) (K : AV → List AO → Prop) (hK : K (.ref 5 0 (lgL ad).1.length) (dkA W H f now tl L ad cnt ++ [.row U8 (lgL ad).1])) :
    ACall Tryd.prog G 9 [.ptr 0 0] (dkA W H f now tl L ad cnt) K := by
  refine acall_mk (E := envCut G 47 5 [8]) (envCutOk _ _ _ _) Tryd.func9 rfl rfl rfl rfl rfl ?_
  (repeat' (first | exact trivial | exact fun h => h | refine And.intro ?_ ?_ | (intro hb; first | (simp at hb; done) | (simp at hb) | skip) | omega | exact rfl | exact Nat.le_refl _ | (show _ + 1 ≤ 4294967296; omega) | (dsimp only; omega) | (show (_ : Int) ≤ (_ : Int); omega) | (show _ < List.length _; simp only [List.length_set, List.length_append, List.length_take]; omega) | (show wantB _ _ = true; simp; done) | (show wantB _ _ = true; simp; omega) | (show (_ : Bool) = _; simp_all; done) | (exfalso; omega) | refine aRegion_auto (by decide +kernel) ?_ | fail))
  refine ⟨Nat, fun k => ⟨[(3, .ref 5 0 (lgL (ad.take k)).1.length), (4, .fz U8 (lgL (ad.take k)).2), (11, .ref 4 0 ad.length), (12, .fz int ad.length), (13, .fz int k)], dkA W H f now tl L ad cnt ++ [.row U8 (lgL (ad.take k)).1]⟩, fun k => k ≤ ad.length, fun k => ad.length - k, 0, Nat.zero_le _, (Ent.nil 3 U8 rfl).trans (Ent.sub rfl ?_), ?_⟩
  · (repeat' (first | exact trivial | exact rfl | refine And.intro ?_ ?_))
  intro k hk
  have hk : k ≤ ad.length := hk
  have hol := lgL_len ad k hk hb
  have hlr := lgL_in (ad.take k)
  obtain ⟨t, et⟩ : ∃ t, t = lgL (ad.take k) := ⟨_, rfl⟩
  show awp _ _ _ ⟨[(3, .ref 5 0 (lgL (ad.take k)).1.length), (4, .fz U8 (lgL (ad.take k)).2), (11, .ref 4 0 ad.length), (12, .fz int ad.length), (13, .fz int k)], dkA W H f now tl L ad cnt ++ [.row U8 (lgL (ad.take k)).1]⟩
  rw [← et] at hol hlr
  rw [← et]
  obtain ⟨o, s⟩ := t
  have hol : o.length ≤ 46 * k := hol
  show awp _ _ _ ⟨[(3, .ref 5 0 o.length), (4, .fz U8 s), (11, .ref 4 0 ad.length), (12, .fz int ad.length), (13, .fz int k)], dkA W H f now tl L ad cnt ++ [.row U8 o]⟩
  by_cases hk2 : k < ad.length
  · have ge : ad.getD (0 + Int.toNat (k : Int)) EdT.dft = ad[k] := by simp [List.getD, hk2]
    have hbs := hb ad[k] (List.getElem_mem _)
    obtain ⟨e, ee⟩ : ∃ e, e = ad[k] := ⟨_, rfl⟩
    have hnx := lgL_next ad k hk2
    rw [← et, ← ee] at hnx
    rw [← ee] at ge hbs
    (repeat' (first | exact trivial | exact fun h => h | refine And.intro ?_ ?_ | (intro hb; first | (simp at hb; done) | (simp at hb) | skip) | omega | exact rfl | exact Nat.le_refl _ | (show _ + 1 ≤ 4294967296; omega) | (dsimp only; omega) | (show (_ : Int) ≤ (_ : Int); omega) | (show _ < List.length _; simp only [List.length_set, List.length_append, List.length_take]; omega) | (show wantB _ _ = true; simp; done) | (show wantB _ _ = true; simp; omega) | (show (_ : Bool) = _; simp_all; done) | (exfalso; omega) | refine aRegion_auto (by decide +kernel) ?_ | fail))
    rw [ge]
    (repeat' (first | exact trivial | exact fun h => h | refine And.intro ?_ ?_ | (intro hb; first | (simp at hb; done) | (simp at hb) | skip) | omega | exact rfl | exact Nat.le_refl _ | (show _ + 1 ≤ 4294967296; omega) | (dsimp only; omega) | (show (_ : Int) ≤ (_ : Int); omega) | (show _ < List.length _; simp only [List.length_set, List.length_append, List.length_take]; omega) | (show wantB _ _ = true; simp; done) | (show wantB _ _ = true; simp; omega) | (show (_ : Bool) = _; simp_all; done) | (exfalso; omega) | refine aRegion_auto (by decide +kernel) ?_ | fail))
    obtain ⟨c1, ec1⟩ : ∃ c, c = le8 (u64 e.1) 8 := ⟨_, rfl⟩
    obtain ⟨c2, ec2⟩ : ∃ c, c = c1 ++ le8 (u64 e.2.1) 8 := ⟨_, rfl⟩
    obtain ⟨c3, ec3⟩ : ∃ c, c = c2 ++ le8 (u64 e.2.2.1) 8 := ⟨_, rfl⟩
    have l1 : c1.length = 8 := by rw [ec1, le8_len]
    have l2 : c2.length = 16 := by rw [ec2, List.length_append, le8_len, l1]
    have l3 : c3.length = 24 := by rw [ec3, List.length_append, le8_len, l2]
    obtain ⟨w, ew⟩ : ∃ w, w = IntKind.u8.wrap ((e.2.2.2.size : Nat) : Int) := ⟨_, rfl⟩
    let be : AO := .box [.fz int e.1, .fz int e.2.1, .fz int e.2.2.1, .fz .str e.2.2.2]
    let B : List AO := dkA W H f now tl L ad cnt ++ [.row U8 o, be]
    let R1 : AO := .row U8 c1
    let R2 : AO := .row U8 c2
    let R3 : AO := .row U8 c3
    let RB : AO := .row U8 [w]
    let RA : AO := .row U8 (c3 ++ [w])
    refine aRegion_open 1 (by decide +kernel) ?_
    (repeat' (first | exact trivial | exact fun h => h | refine And.intro ?_ ?_ | (intro hb; first | (simp at hb; done) | (simp at hb) | skip) | omega | exact rfl | exact Nat.le_refl _ | (show _ + 1 ≤ 4294967296; omega) | (dsimp only; omega) | (show (_ : Int) ≤ (_ : Int); omega) | (show _ < List.length _; simp only [List.length_set, List.length_append, List.length_take]; omega) | (show wantB _ _ = true; simp; done) | (show wantB _ _ = true; simp; omega) | (show (_ : Bool) = _; simp_all; done) | (exfalso; omega) | refine aRegion_auto (by decide +kernel) ?_ | fail))
    refine eff_is (.ref 8 0 8) (B ++ [.room, R1]) ?_
    (repeat' (first | exact trivial | exact fun h => h | refine And.intro ?_ ?_ | (intro hb; first | (simp at hb; done) | (simp at hb) | skip) | omega | exact rfl | exact Nat.le_refl _ | (show _ + 1 ≤ 4294967296; omega) | (dsimp only; omega) | (show (_ : Int) ≤ (_ : Int); omega) | (show _ < List.length _; simp only [List.length_set, List.length_append, List.length_take]; omega) | (show wantB _ _ = true; simp; done) | (show wantB _ _ = true; simp; omega) | (show (_ : Bool) = _; simp_all; done) | (exfalso; omega) | refine aRegion_auto (by decide +kernel) ?_ | fail))
    refine eff_is (.ref 9 0 16) (B ++ [.room, .dead, R2]) ?_
    (repeat' (first | exact trivial | exact fun h => h | refine And.intro ?_ ?_ | (intro hb; first | (simp at hb; done) | (simp at hb) | skip) | omega | exact rfl | exact Nat.le_refl _ | (show _ + 1 ≤ 4294967296; omega) | (dsimp only; omega) | (show (_ : Int) ≤ (_ : Int); omega) | (show _ < List.length _; simp only [List.length_set, List.length_append, List.length_take]; omega) | (show wantB _ _ = true; simp; done) | (show wantB _ _ = true; simp; omega) | (show (_ : Bool) = _; simp_all; done) | (exfalso; omega) | refine aRegion_auto (by decide +kernel) ?_ | fail))
    refine eff_is (.ref 10 0 24) (B ++ [.room, .dead, .dead, R3]) ?_
    (repeat' (first | exact trivial | exact fun h => h | refine And.intro ?_ ?_ | (intro hb; first | (simp at hb; done) | (simp at hb) | skip) | omega | exact rfl | exact Nat.le_refl _ | (show _ + 1 ≤ 4294967296; omega) | (dsimp only; omega) | (show (_ : Int) ≤ (_ : Int); omega) | (show _ < List.length _; simp only [List.length_set, List.length_append, List.length_take]; omega) | (show wantB _ _ = true; simp; done) | (show wantB _ _ = true; simp; omega) | (show (_ : Bool) = _; simp_all; done) | (exfalso; omega) | refine aRegion_auto (by decide +kernel) ?_ | fail))
    refine eff_is (.ref 7 0 1) (B ++ [RB, .dead, .dead, R3]) ?_
    (repeat' (first | exact trivial | exact fun h => h | refine And.intro ?_ ?_ | (intro hb; first | (simp at hb; done) | (simp at hb) | skip) | omega | exact rfl | exact Nat.le_refl _ | (show _ + 1 ≤ 4294967296; omega) | (dsimp only; omega) | (show (_ : Int) ≤ (_ : Int); omega) | (show _ < List.length _; simp only [List.length_set, List.length_append, List.length_take]; omega) | (show wantB _ _ = true; simp; done) | (show wantB _ _ = true; simp; omega) | (show (_ : Bool) = _; simp_all; done) | (exfalso; omega) | refine aRegion_auto (by decide +kernel) ?_ | fail))
    refine eff_is (.ref 11 0 25) (B ++ [RB, .dead, .dead, .dead, RA]) ?_
    refine ⟨[(0, B ++ [.room]), (4, B ++ [.room, R1]), (8192, B ++ [RB]), (36, B ++ [.room, .dead, R2]), (8196, B ++ [RB, R1]), (292, B ++ [.room, .dead, .dead, R3]), (8228, B ++ [RB, .dead, R2]), (8484, B ++ [RB, .dead, .dead, R3]), (24868, B ++ [RB, .dead, .dead, .dead, RA])], rfl, rfl, ?_, ?_⟩
    · (repeat' (first | refine And.intro ?_ ?_ | exact trivial | exact rfl | omega))
      · refine acall_frame0 rfl (put8_nil _ e.1 _ ?_)
        rw [← ec1]
        refine view_of [0, 1, 2, 3, 4, 5, 6, 7, 8] rfl ?_ rfl rfl
        (repeat' (first | exact trivial | exact rfl | refine And.intro ?_ ?_))
      · refine view_of [0, 1, 2, 3, 4, 5, 6, 8] rfl ?_ rfl rfl
        (repeat' (first | exact trivial | exact rfl | refine And.intro ?_ ?_))
        exact congrArg (fun z => some (AO.row U8 [z])) ew.symm
      · refine acall_frame [8] [.row U8 c1] [.ref 0 0 8, .fz int e.2.1] rfl ⟨⟨rfl, trivial⟩, trivial⟩ ⟨rfl, rfl⟩ rfl (put8_ref _ c1 8 l1 (by omega) e.2.1 _ ?_)
        rw [← ec2]
        refine view_of [0, 1, 2, 3, 4, 5, 6, 7, 8, 9] rfl ?_ rfl rfl
        (repeat' (first | exact trivial | exact rfl | refine And.intro ?_ ?_))
      · refine view_of [0, 1, 2, 3, 4, 5, 6, 9, 8] rfl ?_ rfl rfl
        (repeat' (first | exact trivial | exact rfl | refine And.intro ?_ ?_))
        exact congrArg (fun z => some (AO.row U8 [z])) ew.symm
      · refine acall_frame0 rfl (put8_nil _ e.1 _ ?_)
        rw [← ec1]
        refine view_of [0, 1, 2, 3, 4, 5, 6, 7, 8] rfl ?_ rfl rfl
        (repeat' (first | exact trivial | exact rfl | refine And.intro ?_ ?_))
      · refine acall_frame [9] [.row U8 c2] [.ref 0 0 16, .fz int e.2.2.1] rfl ⟨⟨rfl, trivial⟩, trivial⟩ ⟨rfl, rfl⟩ rfl (put8_ref _ c2 16 l2 (by omega) e.2.2.1 _ ?_)
        rw [← ec3]
        refine view_of [0, 1, 2, 3, 4, 5, 6, 7, 8, 9, 10] rfl ?_ rfl rfl
        (repeat' (first | exact trivial | exact rfl | refine And.intro ?_ ?_))
      · refine view_of [0, 1, 2, 3, 4, 5, 6, 10, 8, 9] rfl ?_ rfl rfl
        (repeat' (first | exact trivial | exact rfl | refine And.intro ?_ ?_))
        exact congrArg (fun z => some (AO.row U8 [z])) ew.symm
      · refine acall_frame [8] [.row U8 c1] [.ref 0 0 8, .fz int e.2.1] rfl ⟨⟨rfl, trivial⟩, trivial⟩ ⟨rfl, rfl⟩ rfl (put8_ref _ c1 8 l1 (by omega) e.2.1 _ ?_)
        rw [← ec2]
        refine view_of [0, 1, 2, 3, 4, 5, 6, 7, 8, 9] rfl ?_ rfl rfl
        (repeat' (first | exact trivial | exact rfl | refine And.intro ?_ ?_))
      · refine view_of [0, 1, 2, 3, 4, 5, 6, 11, 8, 9, 10] rfl ?_ rfl rfl
        (repeat' (first | exact trivial | exact rfl | refine And.intro ?_ ?_))
        exact congrArg (fun z => some (AO.row U8 [z])) ew.symm
      · refine acall_frame [9] [.row U8 c2] [.ref 0 0 16, .fz int e.2.2.1] rfl ⟨⟨rfl, trivial⟩, trivial⟩ ⟨rfl, rfl⟩ rfl (put8_ref _ c2 16 l2 (by omega) e.2.2.1 _ ?_)
        rw [← ec3]
        refine view_of [0, 1, 2, 3, 4, 5, 6, 7, 8, 9, 10] rfl ?_ rfl rfl
        (repeat' (first | exact trivial | exact rfl | refine And.intro ?_ ?_))
      · exact (show 0 + 1 ≤ [w].length from Nat.le_refl _)
      · exact (show 24 + 1 ≤ 4294967296 by decide)
      · refine view_of [0, 1, 2, 3, 4, 5, 6, 7, 8, 9, 10, 11] rfl ?_ rfl rfl
        (repeat' (first | exact trivial | exact rfl | refine And.intro ?_ ?_))
        exact congrArg (fun z => some (AO.row U8 (z ++ [w]))) (List.take_of_length_le (by omega))
    have lA : (c3 ++ [w]).length = 25 := by rw [List.length_append, l3]; rfl
    have tA : List.take 25 (c3 ++ [w]) = c3 ++ [w] := List.take_of_length_le (by omega)
    have lb := bytesI_len e.2.2.2
    have eb : List.take 25 (c3 ++ [w]) ++ bytesI e.2.2.2 = edB e := by
      rw [tA, ec3, ec2, ec1, ew, u8_eq]; rfl
    have leb := edB_len e
    obtain ⟨m, em⟩ : ∃ m, m = (edB e).length := ⟨_, rfl⟩
    have hm : 25 + (bytesI e.2.2.2).length = m := by omega
    have tm : List.take m (List.drop 0 (edB e)) = edB e := List.take_of_length_le (by show (edB e).length ≤ m; omega)
    have ltm : (List.take m (List.drop 0 (edB e))).length = m := by rw [tm]; exact em.symm
    (repeat' (first | exact trivial | exact fun h => h | refine And.intro ?_ ?_ | (intro hb; first | (simp at hb; done) | (simp at hb) | skip) | omega | exact rfl | exact Nat.le_refl _ | (show _ + 1 ≤ 4294967296; omega) | (dsimp only; omega) | (show (_ : Int) ≤ (_ : Int); omega) | (show _ < List.length _; simp only [List.length_set, List.length_append, List.length_take]; omega) | (show wantB _ _ = true; simp; done) | (show wantB _ _ = true; simp; omega) | (show (_ : Bool) = _; simp_all; done) | (exfalso; omega) | refine aRegion_auto (by decide +kernel) ?_ | fail))
    refine ⟨[(3, .ref 5 0 o.length), (4, .fz U8 s), (7, .ref 6 0 m), (11, .ref 4 0 ad.length), (12, .fz int ad.length), (13, .fz int k)], dkA W H f now tl L ad cnt ++ [.row U8 o, .row U8 (edB e)], Ent.ren [0, 1, 2, 3, 4, 5, 12] rfl ?_ ?_, ?_⟩
    · (repeat' (first | exact trivial | exact rfl | refine And.intro ?_ ?_))
      exact congrArg (fun z => some (AO.row U8 z)) eb
    · (repeat' (first | exact trivial | exact rfl | refine And.intro ?_ ?_))
      exact congrArg (AV.ref 12 0) hm
    (repeat' (first | exact trivial | exact fun h => h | refine And.intro ?_ ?_ | (intro hb; first | (simp at hb; done) | (simp at hb) | skip) | omega | exact rfl | exact Nat.le_refl _ | (show _ + 1 ≤ 4294967296; omega) | (dsimp only; omega) | (show (_ : Int) ≤ (_ : Int); omega) | (show _ < List.length _; simp only [List.length_set, List.length_append, List.length_take]; omega) | (show wantB _ _ = true; simp; done) | (show wantB _ _ = true; simp; omega) | (show (_ : Bool) = _; simp_all; done) | (exfalso; omega) | refine aRegion_auto (by decide +kernel) ?_ | fail))
    refine acall_lend [.keep, .dat LB] _ _ _ rfl ?_ rfl ?_
    · (repeat' (first | exact trivial | refine And.intro ?_ ?_ | (show _ ≤ _; omega) | (show _ ≤ _; simp; done)))
    refine acall_arg (summed_any G s (edB e) (by omega) _ ?_) (congrArg (fun z => [AV.fz U8 s, AV.fz LB z]) tm.symm)
    refine And.intro rfl ?_
    obtain ⟨s2, es2⟩ : ∃ z, z = sumB s (edB e) := ⟨_, rfl⟩
    rw [← es2]
    have lo : (List.take o.length o ++ List.take m (List.drop 0 (edB e))).length = o.length + m := by rw [List.length_append, ltm, List.take_length]
    (repeat' (first | exact trivial | exact fun h => h | refine And.intro ?_ ?_ | (intro hb; first | (simp at hb; done) | (simp at hb) | skip) | omega | exact rfl | exact Nat.le_refl _ | (show _ + 1 ≤ 4294967296; omega) | (dsimp only; omega) | (show (_ : Int) ≤ (_ : Int); omega) | (show _ < List.length _; simp only [List.length_set, List.length_append, List.length_take]; omega) | (show wantB _ _ = true; simp; done) | (show wantB _ _ = true; simp; omega) | (show (_ : Bool) = _; simp_all; done) | (exfalso; omega) | refine aRegion_auto (by decide +kernel) ?_ | fail))
    · show o.length + (List.take m (List.drop 0 (edB e))).length + 1 ≤ 4294967296
      rw [ltm]; omega
    refine ⟨k + 1, by show k + 1 ≤ ad.length; omega, by show ad.length - (k + 1) < ad.length - k; omega, ?_⟩
    show Ent _ _ ⟨[(3, .ref 5 0 (lgL (ad.take (k + 1))).1.length), (4, .fz U8 (lgL (ad.take (k + 1))).2), (11, .ref 4 0 ad.length), (12, .fz int ad.length), (13, .fz int ((k : Int) + 1))], dkA W H f now tl L ad cnt ++ [.row U8 (lgL (ad.take (k + 1))).1]⟩
    have hn1 : (lgL (ad.take (k + 1))).1 = o ++ edB e ++ [s2] := by rw [hnx, es2]; rfl
    have hn2 : (lgL (ad.take (k + 1))).2 = s2 := by rw [hnx, es2]; rfl
    rw [hn1, hn2]
    refine Ent.ren [0, 1, 2, 3, 4, 9] rfl ?_ ?_
    · (repeat' (first | exact trivial | exact rfl | refine And.intro ?_ ?_))
      refine congrArg (fun z => some (AO.row U8 z)) (?_ : List.take (o.length + (List.take m (List.drop 0 (edB e))).length) (List.take o.length o ++ List.take m (List.drop 0 (edB e))) ++ [s2] = o ++ edB e ++ [s2])
      rw [List.take_of_length_le (by rw [lo, ltm]; exact Nat.le_refl _), tm, List.take_length]
    · (repeat' (first | exact trivial | exact rfl | refine And.intro ?_ ?_))
      refine congrArg (AV.ref 9 0) (?_ : o.length + (List.take m (List.drop 0 (edB e))).length + 1 = (o ++ edB e ++ [s2]).length)
      rw [tm, List.length_append, List.length_append]; rfl
  · have hk3 : k = ad.length := by omega
    subst hk3
    rw [List.take_length] at et
    rw [← et] at hK
    (repeat' (first | exact trivial | exact fun h => h | refine And.intro ?_ ?_ | (intro hb; first | (simp at hb; done) | (simp at hb) | skip) | omega | exact rfl | exact Nat.le_refl _ | (show _ + 1 ≤ 4294967296; omega) | (dsimp only; omega) | (show (_ : Int) ≤ (_ : Int); omega) | (show _ < List.length _; simp only [List.length_set, List.length_append, List.length_take]; omega) | (show wantB _ _ = true; simp; done) | (show wantB _ _ = true; simp; omega) | (show (_ : Bool) = _; simp_all; done) | (exfalso; omega) | refine aRegion_auto (by decide +kernel) ?_ | fail))
    exact ⟨_, _, REnt.refl _ _ _, hK⟩
end Go.Proofs.YtiflieijbmaocaaDoor
/-
  Logs: the document's.
-/
namespace Go.Proofs.YtiflieijbmaocaaDoor
open Go Go.Ab Go.RowKit
set_option maxRecDepth 100000
open Dk
set_option maxHeartbeats 16000000 in
theorem logOf_any (G : List (Nat × Value)) (l : List E) (ha : l.length ≤ 10000) (hb : ∀ x ∈ l, x.2.2.2.size ≤ 20) (K : AV → List AO → Prop) (hK : K (.ref 0 0 (lgL l).1.length) [.row U8 (lgL l).1]) :
    ACall Tryd.prog G 10 [.fz (.list EdT) l] [] K := by
  refine acall_mk (E := envCut G 80 0 [12]) (envCutOk _ _ _ _) Tryd.func10 rfl rfl rfl rfl rfl ?_
  (repeat' (first | exact trivial | exact fun h => h | refine And.intro ?_ ?_ | (intro hb; first | (simp at hb; done) | (simp at hb) | skip) | omega | exact rfl | exact Nat.le_refl _ | (show _ + 1 ≤ 4294967296; omega) | (dsimp only; omega) | (show (_ : Int) ≤ (_ : Int); omega) | (show _ < List.length _; simp only [List.length_set, List.length_append, List.length_take]; omega) | (show wantB _ _ = true; simp; done) | (show wantB _ _ = true; simp; omega) | (show (_ : Bool) = _; simp_all; done) | (exfalso; omega) | refine aRegion_auto (by decide +kernel) ?_ | fail))
  refine ⟨Nat, fun k => ⟨[(0, .fz (.list EdT) l), (3, .ref 0 0 (lgL (l.take k)).1.length), (4, .fz int (lgL (l.take k)).2), (5, .fz int k)], [.row U8 (lgL (l.take k)).1]⟩, fun k => k ≤ l.length, fun k => l.length - k, 0, Nat.zero_le _, (Ent.nil 3 U8 rfl).trans (Ent.sub rfl ?_), ?_⟩
  · (repeat' (first | exact trivial | exact rfl | refine And.intro ?_ ?_))
  intro k hk
  have hk : k ≤ l.length := hk
  have hol := lgL_len l k hk hb
  have hlr := lgL_in (l.take k)
  obtain ⟨t, et⟩ : ∃ t, t = lgL (l.take k) := ⟨_, rfl⟩
  show awp _ _ _ ⟨[(0, .fz (.list EdT) l), (3, .ref 0 0 (lgL (l.take k)).1.length), (4, .fz int (lgL (l.take k)).2), (5, .fz int k)], [.row U8 (lgL (l.take k)).1]⟩
  rw [← et] at hol hlr
  rw [← et]
  obtain ⟨o, s⟩ := t
  have hol : o.length ≤ 46 * k := hol
  have hlr : 0 ≤ s ∧ s < 256 := hlr
  show awp _ _ _ ⟨[(0, .fz (.list EdT) l), (3, .ref 0 0 o.length), (4, .fz int s), (5, .fz int k)], [.row U8 o]⟩
  by_cases hk2 : k < l.length
  · have ge : l.getD (Int.toNat (k : Int)) EdT.dft = l[k] := by simp [List.getD, hk2]
    have hbs := hb l[k] (List.getElem_mem _)
    obtain ⟨e, ee⟩ : ∃ e, e = l[k] := ⟨_, rfl⟩
    have hnx := lgL_next l k hk2
    rw [← et, ← ee] at hnx
    rw [← ee] at ge hbs
    obtain ⟨c1, ec1⟩ : ∃ c, c = le8 (u64 e.1) 8 := ⟨_, rfl⟩
    obtain ⟨c2, ec2⟩ : ∃ c, c = c1 ++ le8 (u64 e.2.1) 8 := ⟨_, rfl⟩
    obtain ⟨c3, ec3⟩ : ∃ c, c = c2 ++ le8 (u64 e.2.2.1) 8 := ⟨_, rfl⟩
    have l1 : c1.length = 8 := by rw [ec1, le8_len]
    have l2 : c2.length = 16 := by rw [ec2, List.length_append, le8_len, l1]
    have l3 : c3.length = 24 := by rw [ec3, List.length_append, le8_len, l2]
    obtain ⟨w, ew⟩ : ∃ w, w = IntKind.u8.wrap ((e.2.2.2.size : Nat) : Int) := ⟨_, rfl⟩
    have lA : (c3 ++ [w]).length = 25 := by rw [List.length_append, l3]; rfl
    have tA : List.take 25 (c3 ++ [w]) = c3 ++ [w] := List.take_of_length_le (by omega)
    have lz : ∀ z, (List.take (16 + 8) c3 ++ [z]).length = 16 + 8 + 1 := fun z => by
      rw [List.length_append, List.take_of_length_le (by omega), l3]; rfl
    have t3 : List.take 24 c3 = c3 := List.take_of_length_le (by omega)
    have lb := bytesI_len e.2.2.2
    have eb : List.take 25 (List.take 24 c3 ++ [IntKind.u8.wrap ((e.2.2.2.size : Nat) : Int)]) ++ bytesI e.2.2.2 = edB e := by
      rw [← ew, t3, tA, ec3, ec2, ec1, ew, u8_eq]; rfl
    have leb := edB_len e
    obtain ⟨m, em⟩ : ∃ m, m = (edB e).length := ⟨_, rfl⟩
    have hm : 25 + (bytesI e.2.2.2).length = m := by omega
    have tm : List.take m (List.drop 0 (edB e)) = edB e := List.take_of_length_le (by show (edB e).length ≤ m; omega)
    have ltm : (List.take m (List.drop 0 (edB e))).length = m := by rw [tm]; exact em.symm
    have lo : (List.take o.length o ++ List.take m (List.drop 0 (edB e))).length = o.length + m := by rw [List.length_append, ltm, List.take_length]
    (repeat' (first | exact trivial | exact fun h => h | refine And.intro ?_ ?_ | (intro hb; first | (simp at hb; done) | (simp at hb) | skip) | omega | exact rfl | exact Nat.le_refl _ | (show _ + 1 ≤ 4294967296; omega) | (dsimp only; omega) | (show (_ : Int) ≤ (_ : Int); omega) | (show _ < List.length _; simp only [List.length_set, List.length_append, List.length_take]; omega) | (show wantB _ _ = true; simp; done) | (show wantB _ _ = true; simp; omega) | (show (_ : Bool) = _; simp_all; done) | (exfalso; omega) | refine aRegion_auto (by decide +kernel) ?_ | fail))
    rw [ge]
    refine acall_frame0 rfl (eight_nil _ (u64 e.1) (u64_in _) _ ?_)
    rw [← ec1]
    (repeat' (first | exact trivial | exact fun h => h | refine And.intro ?_ ?_ | (intro hb; first | (simp at hb; done) | (simp at hb) | skip) | omega | exact rfl | exact Nat.le_refl _ | (show _ + 1 ≤ 4294967296; omega) | (dsimp only; omega) | (show (_ : Int) ≤ (_ : Int); omega) | (show _ < List.length _; simp only [List.length_set, List.length_append, List.length_take]; omega) | (show wantB _ _ = true; simp; done) | (show wantB _ _ = true; simp; omega) | (show (_ : Bool) = _; simp_all; done) | (exfalso; omega) | refine aRegion_auto (by decide +kernel) ?_ | fail))
    rw [ge]
    refine acall_frame [1] [.row U8 c1] [.ref 0 0 8, .fz (.int .u64) (u64 e.2.1)] rfl ⟨⟨rfl, trivial⟩, trivial⟩ ⟨rfl, rfl⟩ rfl (eight_ref _ c1 8 l1 (by omega) (u64 e.2.1) (u64_in _) _ ?_)
    rw [← ec2]
    (repeat' (first | exact trivial | exact fun h => h | refine And.intro ?_ ?_ | (intro hb; first | (simp at hb; done) | (simp at hb) | skip) | omega | exact rfl | exact Nat.le_refl _ | (show _ + 1 ≤ 4294967296; omega) | (dsimp only; omega) | (show (_ : Int) ≤ (_ : Int); omega) | (show _ < List.length _; simp only [List.length_set, List.length_append, List.length_take]; omega) | (show wantB _ _ = true; simp; done) | (show wantB _ _ = true; simp; omega) | (show (_ : Bool) = _; simp_all; done) | (exfalso; omega) | refine aRegion_auto (by decide +kernel) ?_ | fail))
    rw [ge]
    refine acall_frame [2] [.row U8 c2] [.ref 0 0 16, .fz (.int .u64) (u64 e.2.2.1)] rfl ⟨⟨rfl, trivial⟩, trivial⟩ ⟨rfl, rfl⟩ rfl (eight_ref _ c2 16 l2 (by omega) (u64 e.2.2.1) (u64_in _) _ ?_)
    rw [← ec3]
    (repeat' (first | exact trivial | exact fun h => h | refine And.intro ?_ ?_ | (intro hb; first | (simp at hb; done) | (simp at hb) | skip) | omega | exact rfl | exact Nat.le_refl _ | (show _ + 1 ≤ 4294967296; omega) | (dsimp only; omega) | (show (_ : Int) ≤ (_ : Int); omega) | (show _ < List.length _; simp only [List.length_append, List.length_take]; omega) | (show wantB _ _ = true; simp; done) | (show wantB _ _ = true; simp; omega) | (show (_ : Bool) = _; simp_all; done) | (exfalso; omega) | refine aRegion_auto (by decide +kernel) ?_ | fail))
    · exact Nat.le_of_eq (lz _).symm
    · show 16 + 8 + 1 + (bytesI (l.getD (Int.toNat (k : Int)) EdT.dft).2.2.2).length ≤ 4294967296
      rw [ge]; omega
    rw [ge]
    refine ⟨[(0, .fz (.list EdT) l), (3, .ref 0 0 o.length), (4, .fz int s), (5, .fz int k), (6, .ref 1 0 m)], [.row U8 o, .row U8 (edB e)], Ent.ren [0, 6] rfl ?_ ?_, ?_⟩
    · (repeat' (first | exact trivial | exact rfl | refine And.intro ?_ ?_))
      exact congrArg (fun z => some (AO.row U8 z)) eb
    · (repeat' (first | exact trivial | exact rfl | refine And.intro ?_ ?_))
      exact congrArg (AV.ref 6 0) hm
    have hby := byt_edB e
    obtain ⟨B, eB⟩ : ∃ B, B = edB e := ⟨_, rfl⟩
    rw [← eB] at tm ltm lo hby em
    rw [← eB]
    have hBl : B.length ≤ 45 := by rw [eB]; omega
    (repeat' (first | exact trivial | exact fun h => h | refine And.intro ?_ ?_ | (intro hb; first | (simp at hb; done) | (simp at hb) | skip) | omega | exact rfl | exact Nat.le_refl _ | (show _ + 1 ≤ 4294967296; omega) | (dsimp only; omega) | (show (_ : Int) ≤ (_ : Int); omega) | (show _ < List.length _; simp only [List.length_set, List.length_append, List.length_take]; omega) | (show wantB _ _ = true; simp; done) | (show wantB _ _ = true; simp; omega) | (show (_ : Bool) = _; simp_all; done) | (exfalso; omega) | refine aRegion_auto (by decide +kernel) ?_ | fail))
    refine ⟨Nat, fun j => ⟨[(0, .fz (.list EdT) l), (3, .ref 0 0 o.length), (4, .fz int (sumB s (B.take j))), (5, .fz int k), (6, .ref 1 0 m), (7, .fz int j)], [.row U8 o, .row U8 B]⟩, fun j => j ≤ B.length, fun j => B.length - j, 0, Nat.zero_le _, Ent.sub rfl ?_, ?_⟩
    · (repeat' (first | exact trivial | exact rfl | refine And.intro ?_ ?_))
    intro j hj
    have hj : j ≤ B.length := hj
    show awp _ _ _ ⟨[(0, .fz (.list EdT) l), (3, .ref 0 0 o.length), (4, .fz int (sumB s (B.take j))), (5, .fz int k), (6, .ref 1 0 m), (7, .fz int j)], [.row U8 o, .row U8 B]⟩
    have hsr := sumB_in (b := B.take j) hlr
    obtain ⟨q, eq⟩ : ∃ q, q = sumB s (B.take j) := ⟨_, rfl⟩
    rw [← eq] at hsr
    rw [← eq]
    by_cases hj2 : j < B.length
    · have gb : B.getD (0 + Int.toNat (j : Int)) U8.dft = B[j] := by simp [List.getD, hj2]
      have hbj := hby B[j] (List.getElem_mem hj2)
      have hsn := sumB_next s B j hj2
      rw [← eq] at hsn
      obtain ⟨c, ec⟩ : ∃ c, c = B[j] := ⟨_, rfl⟩
      rw [← ec] at gb hbj hsn
      have g2 : B[j]?.getD U8.dft = c := by rw [ec]; simp [hj2]
      (repeat' (first | exact trivial | exact fun h => h | refine And.intro ?_ ?_ | (intro hb; first | (simp at hb; done) | (simp at hb) | skip) | omega | exact rfl | exact Nat.le_refl _ | (show _ + 1 ≤ 4294967296; omega) | (dsimp only; omega) | (show (_ : Int) ≤ (_ : Int); omega) | (show _ < List.length _; simp only [List.length_set, List.length_append, List.length_take]; omega) | (show wantB _ _ = true; simp; done) | (show wantB _ _ = true; simp; omega) | (show (_ : Bool) = _; simp_all; done) | (exfalso; omega) | refine aRegion_auto (by decide +kernel) ?_ | fail))
      refine ⟨j + 1, by show j + 1 ≤ B.length; omega, by show B.length - (j + 1) < B.length - j; omega, Ent.sub rfl ?_⟩
      (repeat' (first | exact trivial | exact rfl | refine And.intro ?_ ?_))
      refine congrArg (AV.fz int) (?_ : Int.tmod (q * 31 + B.getD (0 + Int.toNat (j : Int)) U8.dft + 7) 256 = sumB s (B.take (j + 1)))
      rw [gb, hsn, Int.tmod_eq_emod_of_nonneg (by omega)]
    · have hj3 : j = B.length := by omega
      subst hj3
      rw [List.take_length] at eq
      have hn1 : (lgL (l.take (k + 1))).1 = o ++ B ++ [q] := by rw [hnx, eq, eB]; rfl
      have hn2 : (lgL (l.take (k + 1))).2 = q := by rw [hnx, eq, eB]; rfl
      (repeat' (first | exact trivial | exact fun h => h | refine And.intro ?_ ?_ | (intro hb; first | (simp at hb; done) | (simp at hb) | skip) | omega | exact rfl | exact Nat.le_refl _ | (show _ + 1 ≤ 4294967296; omega) | (dsimp only; omega) | (show (_ : Int) ≤ (_ : Int); omega) | (show _ < List.length _; simp only [List.length_set, List.length_append, List.length_take]; omega) | (show wantB _ _ = true; simp; done) | (show wantB _ _ = true; simp; omega) | (show (_ : Bool) = _; simp_all; done) | (exfalso; omega) | refine aRegion_auto (by decide +kernel) ?_ | fail))
      · show o.length + (List.take m (List.drop 0 B)).length + 1 ≤ 4294967296
        rw [ltm]; omega
      refine ⟨k + 1, by show k + 1 ≤ l.length; omega, by show l.length - (k + 1) < l.length - k; omega, ?_⟩
      show Ent _ _ ⟨[(0, .fz (.list EdT) l), (3, .ref 0 0 (lgL (l.take (k + 1))).1.length), (4, .fz int (lgL (l.take (k + 1))).2), (5, .fz int ((k : Int) + 1))], [.row U8 (lgL (l.take (k + 1))).1]⟩
      rw [hn1, hn2]
      have eq8 : IntKind.u8.wrap q = q := by rw [u8_eq]; omega
      refine Ent.ren [4] rfl ?_ ?_
      · (repeat' (first | exact trivial | exact rfl | refine And.intro ?_ ?_))
        refine congrArg (fun z => some (AO.row U8 z)) (?_ : List.take (o.length + (List.take m (List.drop 0 B)).length) (List.take o.length o ++ List.take m (List.drop 0 B)) ++ [IntKind.u8.wrap q] = o ++ B ++ [q])
        rw [List.take_of_length_le (by rw [lo, ltm]; exact Nat.le_refl _), tm, List.take_length, eq8]
      · (repeat' (first | exact trivial | exact rfl | refine And.intro ?_ ?_))
        refine congrArg (AV.ref 4 0) (?_ : o.length + (List.take m (List.drop 0 B)).length + 1 = (o ++ B ++ [q]).length)
        rw [tm, List.length_append, List.length_append]; rfl
  · have hk3 : k = l.length := by omega
    subst hk3
    rw [List.take_length] at et
    rw [← et] at hK
    (repeat' (first | exact trivial | exact fun h => h | refine And.intro ?_ ?_ | (intro hb; first | (simp at hb; done) | (simp at hb) | skip) | omega | exact rfl | exact Nat.le_refl _ | (show _ + 1 ≤ 4294967296; omega) | (dsimp only; omega) | (show (_ : Int) ≤ (_ : Int); omega) | (show _ < List.length _; simp only [List.length_set, List.length_append, List.length_take]; omega) | (show wantB _ _ = true; simp; done) | (show wantB _ _ = true; simp; omega) | (show (_ : Bool) = _; simp_all; done) | (exfalso; omega) | refine aRegion_auto (by decide +kernel) ?_ | fail))
    exact ⟨_, _, REnt.refl _ _ _, hK⟩
end Go.Proofs.YtiflieijbmaocaaDoor
/-
  DeskPlays: the law walked.
-/
namespace Go.Proofs.YtiflieijbmaocaaDoor
open Go Go.Ab Go.RowKit
set_option maxRecDepth 100000
open Dk
/-- a contract's answer seen otherwise -/
theorem _root_.Go.Ab.acall_ent {P : Program} {G : List (Nat × Value)} {f : FuncId} {args : List AV} {A : List AO} {K' K : AV → List AO → Prop} (h : ACall P G f args A K') (hk : ∀ r A', K' r A' → ∃ r' A'', REnt A.length r A' r' A'' ∧ K r' A'') : ACall P G f args A K := by
  refine ⟨h.body, fun c H hcA hG vs hv => (h.run c H hcA hG vs hv).mono fun e w' ⟨v, c', r, h1, h2, h3, h4, h5, h6⟩ => ?_⟩
  obtain ⟨r', A'', k1, k2⟩ := hk r c'.A h6
  obtain ⟨c2, j1, j2, j3, j4, j5⟩ := k1 c' h4 rfl (by rw [← hcA]; exact h3.le.len) v h5
  have E := (h3.toN).trans (by rw [← hcA] at j2; exact j2)
  exact ⟨v, c2, r', h1, j1.trans h2, ⟨E.le, E.X, E.G, E.far, E.st⟩, j3, j5, by rw [j4]; exact k2⟩
theorem logOf_dat (G : List (Nat × Value)) (l : List E) (ha : l.length ≤ 10000) (hb : ∀ x ∈ l, x.2.2.2.size ≤ 20) (K : AV → List AO → Prop) (hK : K (.fz LB (lgL l).1) []) :
    ACall Tryd.prog G 10 [.fz (.list EdT) l] [] K :=
  acall_ent (K' := fun r A => r = .ref 0 0 (lgL l).1.length ∧ A = [.row U8 (lgL l).1]) (logOf_any G l ha hb _ ⟨rfl, rfl⟩) fun r A ⟨e1, e2⟩ => by
    subst e1; subst e2
    refine ⟨.fz LB ((lgL l).1.take (lgL l).1.length), [], (REnt.conv1 (.dat LB) _ rfl ?_).trans (REnt.drop ⟨rfl, rfl⟩), by rw [List.take_length]; exact hK⟩
    (repeat' (first | exact trivial | refine And.intro ?_ ?_ | (show _ ≤ _; omega) | (show _ ≤ _; simp; done)))
theorem log_dat (G : List (Nat × Value)) (W H : Nat) (f now : List Int) (tl : List Tl) (L ad : List E) (cnt : Int) (ha : ad.length ≤ 10000) (hb : ∀ x ∈ ad, x.2.2.2.size ≤ 20) (K : AV → List AO → Prop) (hK : K (.fz LB (lgL ad).1) (dkA W H f now tl L ad cnt)) :
    ACall Tryd.prog G 9 [.ptr 0 0] (dkA W H f now tl L ad cnt) K :=
  acall_ent (K' := fun r A => r = .ref 5 0 (lgL ad).1.length ∧ A = dkA W H f now tl L ad cnt ++ [.row U8 (lgL ad).1]) (log_any G W H f now tl L ad cnt ha hb _ ⟨rfl, rfl⟩) fun r A ⟨e1, e2⟩ => by
    subst e1; subst e2
    refine ⟨.fz LB ((lgL ad).1.take (lgL ad).1.length), dkA W H f now tl L ad cnt, (REnt.conv1 (.dat LB) _ rfl ?_).trans (REnt.ren [0, 1, 2, 3, 4] rfl ?_ ?_), by rw [List.take_length]; exact hK⟩
    · (repeat' (first | exact trivial | refine And.intro ?_ ?_ | (show _ ≤ _; omega) | (show _ ≤ _; simp; done)))
    · (repeat' (first | exact trivial | exact rfl | refine And.intro ?_ ?_))
    · (repeat' (first | exact trivial | exact rfl | refine And.intro ?_ ?_))
theorem stp_by {n : Nat} {s : Dd} {e : E} (h : ∀ x ∈ s.2, x.2.2.2.size ≤ 20) : ∀ x ∈ (stp n s e).2, x.2.2.2.size ≤ 20 := by
  unfold stp
  split
  · rename_i c
    obtain ⟨_, _, _, _, _, _, c7⟩ := chk_ok (eerr_chk0 c.1)
    intro x hx
    rcases List.mem_append.1 hx with hx | hx
    · exact h x hx
    · rw [List.mem_singleton] at hx; rw [hx]; exact c7
  · exact h
theorem runD_by (n : Nat) (l : List E) : ∀ x ∈ (runD n l).2, x.2.2.2.size ≤ 20 := by
  have : ∀ (l : List E) (s : Dd), (∀ x ∈ s.2, x.2.2.2.size ≤ 20) → ∀ x ∈ (l.foldl (stp n) s).2, x.2.2.2.size ≤ 20 := by
    intro l
    induction l with
    | nil => intro s h; exact h
    | cons e l ih => intro s h; rw [List.foldl_cons]; exact ih _ (stp_by h)
  exact this l ([], []) (fun _ h => nomatch h)
theorem smB_of {n : Nat} {l : List E} (h : smB n l = true) : n ≤ 1700 ∧ l.length ≤ 40 := by
  unfold smB at h
  simp only [Bool.and_eq_true, decide_eq_true_eq] at h
  exact h.2
set_option maxHeartbeats 16000000 in
theorem plays_some {E : Errs} (hE : (EL E).Nodup) (a : Ras) (l : List Dk.E) (ha : a.2.2.length ≤ 9223372036854775807) (hl : l.length ≤ 9223372036854775807) (K : AV → List AO → Prop) (hK : K (.fz .bool true) []) :
    ACall Tryd.prog (G8 E) 3 [.fptr RasT a, .fz (.list EdT) l] [] K := by
  refine acall_mk (E := envAt (G8 E) 49 0) (envOk _ _ _) Tryd.func3 rfl rfl rfl rfl rfl ?_
  (repeat' (first | exact trivial | exact fun h => h | refine And.intro ?_ ?_ | (intro hb; first | (simp at hb; done) | (simp at hb) | skip) | omega | exact rfl | exact Nat.le_refl _ | (show _ + 1 ≤ 4294967296; omega) | (dsimp only; omega) | (show (_ : Int) ≤ (_ : Int); omega) | (show _ < List.length _; simp only [List.length_set, List.length_append, List.length_take]; omega) | (show wantB _ _ = true; simp; done) | (show wantB _ _ = true; simp; omega) | (show (_ : Bool) = _; simp_all; done) | (exfalso; omega) | refine aRegion_auto (by decide +kernel) ?_ | fail))
  refine acall_frame0 rfl (desked_any E _ ?_)
  (repeat' (first | exact trivial | exact fun h => h | refine And.intro ?_ ?_ | (intro hb; first | (simp at hb; done) | (simp at hb) | skip) | omega | exact rfl | exact Nat.le_refl _ | (show _ + 1 ≤ 4294967296; omega) | (dsimp only; omega) | (show (_ : Int) ≤ (_ : Int); omega) | (show _ < List.length _; simp only [List.length_set, List.length_append, List.length_take]; omega) | (show wantB _ _ = true; simp; done) | (show wantB _ _ = true; simp; omega) | (show (_ : Bool) = _; simp_all; done) | (exfalso; omega) | refine aRegion_auto (by decide +kernel) ?_ | fail))
  refine acall_frame0 rfl (small_some _ a l hl ha _ ?_)
  cases hs : smB a.2.2.length l
  · (repeat' (first | exact trivial | exact fun h => h | refine And.intro ?_ ?_ | (intro hb; first | (simp at hb; done) | (simp at hb) | skip) | omega | exact rfl | exact Nat.le_refl _ | (show _ + 1 ≤ 4294967296; omega) | (dsimp only; omega) | (show (_ : Int) ≤ (_ : Int); omega) | (show _ < List.length _; simp only [List.length_set, List.length_append, List.length_take]; omega) | (show wantB _ _ = true; simp; done) | (show wantB _ _ = true; simp; omega) | (show (_ : Bool) = _; simp_all; done) | (exfalso; omega) | refine aRegion_auto (by decide +kernel) ?_ | fail))
    exact ⟨_, _, REnt.drop ⟨rfl, rfl⟩, hK⟩
  · obtain ⟨s1, s2⟩ := smB_of hs
    (repeat' (first | exact trivial | exact fun h => h | refine And.intro ?_ ?_ | (intro hb; first | (simp at hb; done) | (simp at hb) | skip) | omega | exact rfl | exact Nat.le_refl _ | (show _ + 1 ≤ 4294967296; omega) | (dsimp only; omega) | (show (_ : Int) ≤ (_ : Int); omega) | (show _ < List.length _; simp only [List.length_set, List.length_append, List.length_take]; omega) | (show wantB _ _ = true; simp; done) | (show wantB _ _ = true; simp; omega) | (show (_ : Bool) = _; simp_all; done) | (exfalso; omega) | refine aRegion_auto (by decide +kernel) ?_ | fail))
    refine acall_frame0 rfl (played_any hE a l (by omega) (by omega) _ (fun hr => ?_) (fun W H hr hW hH => ?_))
    · (repeat' (first | exact trivial | exact fun h => h | refine And.intro ?_ ?_ | (intro hb; first | (simp at hb; done) | (simp at hb) | skip) | omega | exact rfl | exact Nat.le_refl _ | (show _ + 1 ≤ 4294967296; omega) | (dsimp only; omega) | (show (_ : Int) ≤ (_ : Int); omega) | (show _ < List.length _; simp only [List.length_set, List.length_append, List.length_take]; omega) | (show wantB _ _ = true; simp; done) | (show wantB _ _ = true; simp; omega) | (show (_ : Bool) = _; simp_all; done) | (exfalso; omega) | refine aRegion_auto (by decide +kernel) ?_ | fail))
      exact ⟨_, _, REnt.drop ⟨rfl, rfl⟩, hK⟩
    · have hby := runD_by a.2.2.length l
      have hok := runD_ok a.2.2.length l l.length (Nat.le_refl _)
      rw [List.take_length] at hok
      obtain ⟨s, es⟩ : ∃ s, s = runD a.2.2.length l := ⟨_, rfl⟩
      rw [← es] at hby hok
      rw [← es]
      obtain ⟨L, ad⟩ := s
      have hal : ad.length ≤ l.length := hok.ad
      (repeat' (first | exact trivial | exact fun h => h | refine And.intro ?_ ?_ | (intro hb; first | (simp at hb; done) | (simp at hb) | skip) | omega | exact rfl | exact Nat.le_refl _ | (show _ + 1 ≤ 4294967296; omega) | (dsimp only; omega) | (show (_ : Int) ≤ (_ : Int); omega) | (show _ < List.length _; simp only [List.length_set, List.length_append, List.length_take]; omega) | (show wantB _ _ = true; simp; done) | (show wantB _ _ = true; simp; omega) | (show (_ : Bool) = _; simp_all; done) | (exfalso; omega) | refine aRegion_auto (by decide +kernel) ?_ | fail))
      refine acall_frame [0, 1, 2, 3, 4] (dkA W H a.2.2 (nw a.2.2 L) (tl0 W H) L ad 0) [.ptr 0 0] rfl ?_ ⟨rfl, rfl⟩ rfl (log_dat _ W H a.2.2 (nw a.2.2 L) (tl0 W H) L ad 0 (by omega) hby _ ?_)
      · (repeat' (first | exact trivial | exact rfl | refine And.intro ?_ ?_))
      (repeat' (first | exact trivial | exact fun h => h | refine And.intro ?_ ?_ | (intro hb; first | (simp at hb; done) | (simp at hb) | skip) | omega | exact rfl | exact Nat.le_refl _ | (show _ + 1 ≤ 4294967296; omega) | (dsimp only; omega) | (show (_ : Int) ≤ (_ : Int); omega) | (show _ < List.length _; simp only [List.length_set, List.length_append, List.length_take]; omega) | (show wantB _ _ = true; simp; done) | (show wantB _ _ = true; simp; omega) | (show (_ : Bool) = _; simp_all; done) | (exfalso; omega) | refine aRegion_auto (by decide +kernel) ?_ | fail))
      apply exEff
      · refine ⟨fun _ => ?_, fun h => absurd h (by simp)⟩
        (repeat' (first | refine And.intro ?_ ?_ | (show wantB _ _ = true; simp; done)))
        refine acall_conv [.dat (.list EdT)] _ _ _ rfl ?_ (acall_frame0 rfl (acall_arg (logOf_dat _ ad (by omega) hby _ ?_) (congrArg (fun z => [AV.fz (.list EdT) z]) List.take_length.symm)))
        · (repeat' (first | exact trivial | refine And.intro ?_ ?_ | (show _ ≤ _; omega) | (show _ ≤ _; simp; done)))
        exact ⟨rfl, rfl⟩
      (repeat' (first | exact trivial | exact fun h => h | refine And.intro ?_ ?_ | (intro hb; first | (simp at hb; done) | (simp at hb) | skip) | omega | exact rfl | exact Nat.le_refl _ | (show _ + 1 ≤ 4294967296; omega) | (dsimp only; omega) | (show (_ : Int) ≤ (_ : Int); omega) | (show _ < List.length _; simp only [List.length_set, List.length_append, List.length_take]; omega) | (show wantB _ _ = true; simp; done) | (show wantB _ _ = true; simp; omega) | (show (_ : Bool) = _; simp_all; done) | (exfalso; omega) | refine aRegion_auto (by decide +kernel) ?_ | fail))
      refine ⟨.fz .bool true, [], REnt.ren [] rfl ?_ ?_, hK⟩
      · (repeat' (first | exact trivial | exact rfl | refine And.intro ?_ ?_))
      · refine And.intro (congrArg (AV.fz .bool) (?_ : (bif true then ((byN (lgL ad).1).toList == (byN (lgL ad).1).toList) else false) = true)) rfl
        simp
theorem plays_nil (E : Errs) (l : List Dk.E) (hl : l.length ≤ 9223372036854775807) (K : AV → List AO → Prop) (hK : K (.fz .bool true) []) :
    ACall Tryd.prog (G8 E) 3 [.fz .raw (.pointer none), .fz (.list EdT) l] [] K := by
  refine acall_mk (E := envAt (G8 E) 49 0) (envOk _ _ _) Tryd.func3 rfl rfl rfl rfl rfl ?_
  (repeat' (first | exact trivial | exact fun h => h | refine And.intro ?_ ?_ | (intro hb; first | (simp at hb; done) | (simp at hb) | skip) | omega | exact rfl | exact Nat.le_refl _ | (show _ + 1 ≤ 4294967296; omega) | (dsimp only; omega) | (show (_ : Int) ≤ (_ : Int); omega) | (show _ < List.length _; simp only [List.length_set, List.length_append, List.length_take]; omega) | (show wantB _ _ = true; simp; done) | (show wantB _ _ = true; simp; omega) | (show (_ : Bool) = _; simp_all; done) | (exfalso; omega) | refine aRegion_auto (by decide +kernel) ?_ | fail))
  refine acall_frame0 rfl (desked_any E _ ?_)
  (repeat' (first | exact trivial | exact fun h => h | refine And.intro ?_ ?_ | (intro hb; first | (simp at hb; done) | (simp at hb) | skip) | omega | exact rfl | exact Nat.le_refl _ | (show _ + 1 ≤ 4294967296; omega) | (dsimp only; omega) | (show (_ : Int) ≤ (_ : Int); omega) | (show _ < List.length _; simp only [List.length_set, List.length_append, List.length_take]; omega) | (show wantB _ _ = true; simp; done) | (show wantB _ _ = true; simp; omega) | (show (_ : Bool) = _; simp_all; done) | (exfalso; omega) | refine aRegion_auto (by decide +kernel) ?_ | fail))
  refine acall_frame0 rfl (small_nil _ l hl _ ?_)
  (repeat' (first | exact trivial | exact fun h => h | refine And.intro ?_ ?_ | (intro hb; first | (simp at hb; done) | (simp at hb) | skip) | omega | exact rfl | exact Nat.le_refl _ | (show _ + 1 ≤ 4294967296; omega) | (dsimp only; omega) | (show (_ : Int) ≤ (_ : Int); omega) | (show _ < List.length _; simp only [List.length_set, List.length_append, List.length_take]; omega) | (show wantB _ _ = true; simp; done) | (show wantB _ _ = true; simp; omega) | (show (_ : Bool) = _; simp_all; done) | (exfalso; omega) | refine aRegion_auto (by decide +kernel) ?_ | fail))
  exact ⟨_, _, REnt.drop ⟨rfl, rfl⟩, hK⟩
end Go.Proofs.YtiflieijbmaocaaDoor
/-
  Merges, plainly: what is put, and then put again.
-/
namespace Go.Proofs.YtiflieijbmaocaaDoor
open Go Go.Ab Go.RowKit
set_option maxRecDepth 100000
open Dk
namespace Dk
/-- an edit put, where it isn't yet -/
def pt (s : Dd) (e : E) : Dd := if hasE s.1 e = true then s else (ins s.1 e, s.2 ++ [e])
def ptL (s : Dd) (l : List E) : Dd := l.foldl pt s
theorem pt_srt {s : Dd} (h : Srt s.1) (e : E) : Srt (pt s e).1 := by
  unfold pt
  split
  · exact h
  · rename_i c; exact ins_srt h fun hm => c (hasE_iff.2 hm)
theorem pt_mem {s : Dd} {e x : E} : x ∈ (pt s e).1 ↔ x = e ∨ x ∈ s.1 := by
  unfold pt
  split
  · rename_i c
    constructor
    · exact .inr
    · rintro (rfl | h)
      · exact hasE_iff.1 c
      · exact h
  · exact ins_mem
theorem ptL_srt : ∀ (l : List E) (s : Dd), Srt s.1 → Srt (ptL s l).1
  | [], _, h => h
  | e :: l, s, h => ptL_srt l (pt s e) (pt_srt h e)
theorem ptL_mem : ∀ (l : List E) (s : Dd) (x : E), x ∈ (ptL s l).1 ↔ x ∈ l ∨ x ∈ s.1
  | [], _, _ => by simp [ptL]
  | e :: l, s, x => by
    show x ∈ (ptL (pt s e) l).1 ↔ _
    rw [ptL_mem l (pt s e) x, pt_mem, List.mem_cons]
    constructor
    · rintro (h | h | h)
      · exact .inl (.inr h)
      · exact .inl (.inl h)
      · exact .inr h
    · rintro ((h | h) | h)
      · exact .inr (.inl h)
      · exact .inl h
      · exact .inr (.inr h)
/-- lists in order that have the same are the same -/
theorem srt_ext : ∀ {L M : List E}, Srt L → Srt M → (∀ x, x ∈ L ↔ x ∈ M) → L = M
  | [], [], _, _, _ => rfl
  | [], y :: M, _, _, h => by have := (h y).2 (List.mem_cons_self ..); cases this
  | x :: L, [], _, _, h => by have := (h x).1 (List.mem_cons_self ..); cases this
  | x :: L, y :: M, hL, hM, h => by
    obtain ⟨h1, h2⟩ := List.pairwise_cons.1 hL
    obtain ⟨k1, k2⟩ := List.pairwise_cons.1 hM
    have e : x = y := by
      rcases List.mem_cons.1 ((h x).1 (List.mem_cons_self ..)) with e | hx
      · exact e
      · rcases List.mem_cons.1 ((h y).2 (List.mem_cons_self ..)) with e | hy
        · exact e.symm
        · have a1 := k1 x hx
          have a2 := h1 y hy
          rw [ah_asymm a1] at a2; cases a2
    subst e
    congr 1
    refine srt_ext h2 k2 fun z => ?_
    constructor
    · intro hz
      rcases List.mem_cons.1 ((h z).1 (List.mem_cons_of_mem _ hz)) with e | hz2
      · subst e
        have := h1 z hz
        rw [ah_irr] at this; cases this
      · exact hz2
    · intro hz
      rcases List.mem_cons.1 ((h z).2 (List.mem_cons_of_mem _ hz)) with e | hz2
      · subst e
        have := k1 z hz
        rw [ah_irr] at this; cases this
      · exact hz2
theorem pt_had {s : Dd} {e : E} (h : e ∈ s.1) : pt s e = s := if_pos (hasE_iff.2 h)
theorem ptL_had : ∀ (l : List E) (s : Dd), (∀ x ∈ l, x ∈ s.1) → ptL s l = s
  | [], _, _ => rfl
  | e :: l, s, h => by
    show ptL (pt s e) l = s
    rw [pt_had (h e (List.mem_cons_self ..))]
    exact ptL_had l s fun x hx => h x (List.mem_cons_of_mem _ hx)
theorem pt_len (s : Dd) (e : E) : (pt s e).1.length ≤ s.1.length + 1 ∧ (pt s e).2.length ≤ s.2.length + 1 := by
  unfold pt
  split
  · omega
  · refine ⟨by show (ins s.1 e).length ≤ _; rw [ins_len]; exact Nat.le_refl _, by show (s.2 ++ [e]).length ≤ _; rw [List.length_append]; exact Nat.le_refl _⟩
theorem ptL_len : ∀ (l : List E) (s : Dd), (ptL s l).1.length ≤ s.1.length + l.length ∧ (ptL s l).2.length ≤ s.2.length + l.length
  | [], _ => ⟨Nat.le_refl _, Nat.le_refl _⟩
  | e :: l, s => by
    have h1 := pt_len s e
    have h2 := ptL_len l (pt s e)
    show (ptL (pt s e) l).1.length ≤ _ ∧ (ptL (pt s e) l).2.length ≤ _
    rw [List.length_cons]; omega
theorem ptL_take {l : List E} {s : Dd} {k : Nat} (hk : k < l.length) : ptL s (l.take (k + 1)) = pt (ptL s (l.take k)) l[k] := by
  unfold ptL
  rw [List.take_succ_eq_append_getElem hk, List.foldl_append]; rfl
/-- all that holds of what is put holds -/
theorem ptL_all {p : E → Prop} : ∀ (l : List E) (s : Dd), (∀ x ∈ l, p x) → (∀ x ∈ s.2, p x) → ∀ x ∈ (ptL s l).2, p x
  | [], _, _, h => h
  | e :: l, s, hl, h => by
    refine ptL_all l (pt s e) (fun x hx => hl x (List.mem_cons_of_mem _ hx)) fun x hx => ?_
    unfold pt at hx
    split at hx
    · exact h x hx
    · rcases List.mem_append.1 hx with hx | hx
      · exact h x hx
      · rw [List.mem_singleton] at hx
        rw [hx]; exact hl e (List.mem_cons_self ..)
end Dk
end Go.Proofs.YtiflieijbmaocaaDoor
/-
  Desks merged: the walk.
-/
namespace Go.Proofs.YtiflieijbmaocaaDoor
open Go Go.Ab Go.RowKit
set_option maxRecDepth 100000
open Dk
/-- a row that a box holds, by a new name -/
theorem _root_.Go.Ab.Ent.mvBox {n0 : Nat} {T : List (Nat × AV)} {A : List AO} {vs : List AV} (bt i tok len : Nat) (e : Ty) (xs : List e.den) (h0 : A[bt]? = some (.box vs)) (hi : vs[i]? = some (.ref tok 0 len)) (h1 : A[tok]? = some (.row e xs)) :
    Ent n0 ⟨T, A⟩ ⟨T, List.set (A.set tok .dead ++ [.row e xs]) bt (.box (vs.set i (.ref A.length 0 len)))⟩ := fun c H hA hn tmps ht => by
  have hA : c.A = A := hA
  subst hA
  have hlive : c.live tok := ⟨_, h1, rfl⟩
  have hne : bt ≠ tok := fun h => by subst h; rw [h1] at h0; cases h0
  have E1 := ext_mv (c := c) (o := .row e xs) hlive
  have H1 := hr_mv H hlive (H.obj tok _ h1)
  have hlt := get_lt h0
  have h2 : (c.mv tok (.row e xs)).A[bt]? = some (.box vs) := by
    show (c.A.set tok .dead ++ [AO.row e xs])[bt]? = _
    rw [List.getElem?_append_left (by rw [List.length_set]; exact hlt), List.getElem?_set_ne (Ne.symm hne)]; exact h0
  obtain ⟨b, cs, et, g1, g2, g3⟩ := H.obj bt _ h0
  obtain ⟨j1, j2⟩ := rebox_sound (vs' := vs.set i (.ref c.A.length 0 len)) H1 h2 (fun b' cs' et' hb hh hcs => by
    rw [mv_ρ (by omega), g1] at hb; cases hb
    rw [show (c.mv tok (.row e xs)).w = c.w from rfl, g2] at hh
    have hcc : cs = cs' := by
      have := Option.some.inj hh
      injection this with this
      exact congrArg Array.toList this
    subst hcc
    refine RelL.of_get _ _ (by rw [hcs.length, List.length_set]) fun j a v ha hv => ?_
    by_cases hij : j = i
    · subst hij
      rw [List.getElem?_set_self (get_lt hi)] at ha
      cases ha
      obtain ⟨u, hu, hr⟩ := RelL.get _ _ j _ g3 hi
      rw [hv] at hu; cases hu
      unfold Rel at hr ⊢
      rw [h1] at hr
      rw [mv_new]
      rcases hr with ⟨b, cap, cs, et, a, k1, k2⟩ | ⟨k1, k2⟩
      · exact .inl ⟨b, cap, cs, et, a, mv_ρn.trans k1, k2⟩
      · exact .inr ⟨mv_ρn.trans k1, k2⟩
    · rw [List.getElem?_set_ne (by omega)] at ha
      obtain ⟨u, hu, hr⟩ := RelL.get _ _ j _ hcs ha
      rw [hv] at hu; cases hu
      exact hr)
  exact ⟨(c.mv tok (.row e xs)).rebox bt (vs.set i (.ref c.A.length 0 len)), rfl, (E1.trans j1).toN' hn, j2, rfl, (fun n => (ht n).ext (E1.trans j1))⟩
theorem equal_any (G : List (Nat × Value)) (xs ys : List Int) (hx : xs.length ≤ 1000000000000) (_hy : ys.length ≤ 1000000000000) (K : AV → List AO → Prop) (hK : K (.fz .bool (decide (xs = ys))) []) :
    ACall Tryd.prog G 34 [.fz LI xs, .fz LI ys] [] K := by
  refine acall_mk (E := envAt G 26 0) (envOk _ _ _) Tryd.func34 rfl rfl rfl rfl rfl ?_
  by_cases hl : xs.length = ys.length
  · (repeat' (first | exact trivial | exact fun h => h | refine And.intro ?_ ?_ | (intro hb; first | (simp at hb; done) | (simp at hb) | skip) | omega | exact rfl | exact Nat.le_refl _ | (show _ + 1 ≤ 4294967296; omega) | (dsimp only; omega) | (show (_ : Int) ≤ (_ : Int); omega) | (show _ < List.length _; simp only [List.length_set, List.length_append, List.length_take]; omega) | (show wantB _ _ = true; simp; done) | (show wantB _ _ = true; simp; omega) | (show (_ : Bool) = _; simp_all; done) | (exfalso; omega) | refine aRegion_auto (by decide +kernel) ?_ | fail))
    refine ⟨Nat, fun k => ⟨[(0, .fz LI xs), (1, .fz LI ys), (12, .fz int xs.length), (13, .fz int k)], []⟩, fun k => k ≤ xs.length ∧ ∀ j, j < k → xs.getD j 0 = ys.getD j 0, fun k => xs.length - k, 0, ⟨Nat.zero_le _, fun j h => absurd h (Nat.not_lt_zero _)⟩, Ent.sub rfl ?_, ?_⟩
    · (repeat' (first | exact trivial | exact rfl | refine And.intro ?_ ?_))
    intro k ⟨hk, hp⟩
    by_cases hk2 : k < xs.length
    · (repeat' (first | exact trivial | exact fun h => h | refine And.intro ?_ ?_ | (intro hb; first | (simp at hb; done) | (simp at hb) | skip) | omega | exact rfl | exact Nat.le_refl _ | (show _ + 1 ≤ 4294967296; omega) | (dsimp only; omega) | (show (_ : Int) ≤ (_ : Int); omega) | (show _ < List.length _; simp only [List.length_set, List.length_append, List.length_take]; omega) | (show wantB _ _ = true; simp; done) | (show wantB _ _ = true; simp; omega) | (show (_ : Bool) = _; simp_all; done) | (exfalso; omega) | refine aRegion_auto (by decide +kernel) ?_ | fail))
      · have hne : xs ≠ ys := fun e => hb (by rw [e])
        refine ⟨_, _, REnt.refl _ _ _, ?_⟩
        rw [decide_eq_false hne] at hK
        exact hK
      · refine ⟨k + 1, ⟨by omega, fun j hj => ?_⟩, by show _ - _ < _ - _; omega, Ent.sub rfl ?_⟩
        · by_cases e : j = k
          · subst e; exact hb
          · exact hp j (by omega)
        · (repeat' (first | exact trivial | exact rfl | refine And.intro ?_ ?_))
    · have e : xs = ys := by
        apply List.ext_getElem hl
        intro j h1 h2
        have := hp j (by omega)
        rwa [← List.getElem_eq_getD (h := h1), ← List.getElem_eq_getD (h := h2)] at this
      rw [decide_eq_true e] at hK
      (repeat' (first | exact trivial | exact fun h => h | refine And.intro ?_ ?_ | (intro hb; first | (simp at hb; done) | (simp at hb) | skip) | omega | exact rfl | exact Nat.le_refl _ | (show _ + 1 ≤ 4294967296; omega) | (dsimp only; omega) | (show (_ : Int) ≤ (_ : Int); omega) | (show _ < List.length _; simp only [List.length_set, List.length_append, List.length_take]; omega) | (show wantB _ _ = true; simp; done) | (show wantB _ _ = true; simp; omega) | (show (_ : Bool) = _; simp_all; done) | (exfalso; omega) | refine aRegion_auto (by decide +kernel) ?_ | fail))
      exact ⟨_, _, REnt.refl _ _ _, hK⟩
  · have hne : xs ≠ ys := fun e => hl (by rw [e])
    rw [decide_eq_false hne] at hK
    (repeat' (first | exact trivial | exact fun h => h | refine And.intro ?_ ?_ | (intro hb; first | (simp at hb; done) | (simp at hb) | skip) | omega | exact rfl | exact Nat.le_refl _ | (show _ + 1 ≤ 4294967296; omega) | (dsimp only; omega) | (show (_ : Int) ≤ (_ : Int); omega) | (show _ < List.length _; simp only [List.length_set, List.length_append, List.length_take]; omega) | (show wantB _ _ = true; simp; done) | (show wantB _ _ = true; simp; omega) | (show (_ : Bool) = _; simp_all; done) | (exfalso; omega) | refine aRegion_auto (by decide +kernel) ?_ | fail))
    exact ⟨_, _, REnt.refl _ _ _, hK⟩
/-- a desk's box, its rows by their names -/
abbrev dkX (W H : Int) (f : List Int) (t1 n t3 k t4 m t2 c : Nat) (cnt : Int) : AO := .box [.fz int W, .fz int H, .fz LI f, .fz int W, .fz int H, .ref t1 0 n, .ref t3 0 k, .ref t4 0 m, .ref t2 0 c, .fz int cnt]
/-- two desks -/
abbrev mgA (W H : Int) (f now : List Int) (tl : List Tl) (L ad : List E) (cnt : Int) (W2 H2 : Int) (f2 now2 : List Int) (tl2 : List Tl) (L2 ad2 : List E) (cnt2 : Int) : List AO :=
  [dkX W H f 2 now.length 4 L.length 5 ad.length 3 tl.length cnt, dkX W2 H2 f2 6 now2.length 8 L2.length 9 ad2.length 7 tl2.length cnt2, .row int now, .row TlT tl, .row EdT L, .row EdT ad, .row int now2, .row TlT tl2, .row EdT L2, .row EdT ad2]
/-- .. merged -/
abbrev mgA' (W H : Int) (f now : List Int) (tl : List Tl) (L ad : List E) (cnt : Int) (W2 H2 : Int) (f2 now2 : List Int) (tl2 : List Tl) (L2 ad2 : List E) (cnt2 : Int) : List AO :=
  [dkX W H f 2 now.length 10 L.length 11 ad.length 3 tl.length cnt, dkX W2 H2 f2 6 now2.length 8 L2.length 9 ad2.length 7 tl2.length cnt2, .row int now, .row TlT tl, .dead, .dead, .row int now2, .row TlT tl2, .row EdT L2, .row EdT ad2, .row EdT L, .row EdT ad]
theorem htl0 {W H : Nat} (hW : W ≤ 128) (hH : H ≤ 128) : (tl0 W H).length ≤ 64 := by
  have tW : til W ≤ 8 := by unfold til; omega
  have tH : til H ≤ 8 := by unfold til; omega
  have hm : til W * til H ≤ 64 := Nat.mul_le_mul tW tH
  unfold tl0; rw [List.length_replicate]; exact hm
set_option maxHeartbeats 16000000 in
theorem merge_any (E : Errs) (W H : Nat) (f : List Int) (L ad : List Dk.E) (cnt : Int) (W2 H2 : Nat) (f2 now2 : List Int) (tl2 : List Tl) (L2 ad2 : List Dk.E) (cnt2 : Int)
    (hW0 : 0 < W) (hW : W ≤ 128) (hH : H ≤ 128) (hf : f.length ≤ 16384) (hf2 : f2.length ≤ 1000000) (hs : Srt L) (hc : ∀ x ∈ L, 0 ≤ x.1 ∧ x.1 < f.length) (hL : L.length + L2.length ≤ 2000) (ha : ad.length ≤ 2000) (h2c : f2 = f → ∀ x ∈ L2, 0 ≤ x.1 ∧ x.1 < f.length) (K : AV → List AO → Prop)
    (h0 : ¬ (W2 = W ∧ f2 = f) → K (.fz .raw (er E 3)) (mgA W H f (nw f L) (tl0 W H) L ad cnt W2 H2 f2 now2 tl2 L2 ad2 cnt2))
    (h1 : W2 = W → f2 = f → K (.fz .raw .nilIface) (mgA' W H f (nw f (ptL (L, ad) L2).1) (tl0 W H) (ptL (L, ad) L2).1 (ptL (L, ad) L2).2 cnt W2 H2 f2 now2 tl2 L2 ad2 cnt2)) :
    ACall Tryd.prog (G8 E) 16 [.ptr 0 0, .ptr 1 0] (mgA W H f (nw f L) (tl0 W H) L ad cnt W2 H2 f2 now2 tl2 L2 ad2 cnt2) K := by
  refine acall_mk (E := envCut (G8 E) 85 10 [3]) (envCutOk _ _ _ _) Tryd.func16 rfl rfl rfl rfl rfl ?_
  by_cases hw : W2 = W
  · have w1 : ((W2 : Int) != (W : Int)) = false := by simp [hw]
    by_cases hff : f2 = f
    · have h1 := h1 hw hff
      have h2c := h2c hff
      (repeat' (first | exact trivial | exact fun h => h | refine And.intro ?_ ?_ | (intro hb; first | (simp at hb; done) | (simp at hb) | skip) | omega | exact rfl | exact Nat.le_refl _ | (show _ + 1 ≤ 4294967296; omega) | (dsimp only; omega) | (show (_ : Int) ≤ (_ : Int); omega) | (show _ < List.length _; simp only [List.length_set, List.length_append, List.length_take]; omega) | (show wantB _ _ = true; simp; done) | (show wantB _ _ = true; simp; omega) | (show (_ : Bool) = _; simp_all; done) | (exfalso; omega) | refine aRegion_auto (by decide +kernel) ?_ | fail))
      rw [w1]
      (repeat' (first | exact trivial | exact fun h => h | refine And.intro ?_ ?_ | (intro hb; first | (simp at hb; done) | (simp at hb) | skip) | omega | exact rfl | exact Nat.le_refl _ | (show _ + 1 ≤ 4294967296; omega) | (dsimp only; omega) | (show (_ : Int) ≤ (_ : Int); omega) | (show _ < List.length _; simp only [List.length_set, List.length_append, List.length_take]; omega) | (show wantB _ _ = true; simp; done) | (show wantB _ _ = true; simp; omega) | (show (_ : Bool) = _; simp_all; done) | (exfalso; omega) | refine aRegion_auto (by decide +kernel) ?_ | fail))
      apply exEff
      · refine ⟨fun _ => ?_, fun h => absurd h (by simp)⟩
        (repeat' (first | refine And.intro ?_ ?_ | (show wantB _ _ = true; simp; done)))
        refine acall_frame0 rfl (equal_any _ f2 f (by omega) (by omega) _ ?_)
        rw [decide_eq_true hff]
        exact ⟨rfl, rfl⟩
      (repeat' (first | exact trivial | exact fun h => h | refine And.intro ?_ ?_ | (intro hb; first | (simp at hb; done) | (simp at hb) | skip) | omega | exact rfl | exact Nat.le_refl _ | (show _ + 1 ≤ 4294967296; omega) | (dsimp only; omega) | (show (_ : Int) ≤ (_ : Int); omega) | (show _ < List.length _; simp only [List.length_set, List.length_append, List.length_take]; omega) | (show wantB _ _ = true; simp; done) | (show wantB _ _ = true; simp; omega) | (show (_ : Bool) = _; simp_all; done) | (exfalso; omega) | refine aRegion_auto (by decide +kernel) ?_ | fail))
      (repeat' (first | exact trivial | exact fun h => h | refine And.intro ?_ ?_ | (intro hb; first | (simp at hb; done) | (simp at hb) | skip) | omega | exact rfl | exact Nat.le_refl _ | (show _ + 1 ≤ 4294967296; omega) | (dsimp only; omega) | (show (_ : Int) ≤ (_ : Int); omega) | (show _ < List.length _; simp only [List.length_set, List.length_append, List.length_take]; omega) | (show wantB _ _ = true; simp; done) | (show wantB _ _ = true; simp; omega) | (show (_ : Bool) = _; simp_all; done) | (exfalso; omega) | refine aRegion_auto (by decide +kernel) ?_ | fail))
      have n1 := Ent.mvBox (n0 := 10) (T := [(0, .ptr 0 0), (1, .ptr 1 0)]) (A := mgA W H f (nw f L) (tl0 W H) L ad cnt W2 H2 f2 now2 tl2 L2 ad2 cnt2) 0 6 4 L.length EdT L rfl rfl rfl
      have n2 := n1.trans (Ent.mvBox 0 7 5 ad.length EdT ad rfl rfl rfl)
      refine ⟨[(0, .ptr 0 0), (1, .ptr 1 0)], mgA' W H f (nw f L) (tl0 W H) L ad cnt W2 H2 f2 now2 tl2 L2 ad2 cnt2, ((Ent.sub rfl ?_).trans n2).trans (Ent.sub rfl ?_), ?_⟩
      · (repeat' (first | exact trivial | exact rfl | refine And.intro ?_ ?_))
      · (repeat' (first | exact trivial | exact rfl | refine And.intro ?_ ?_))
      clear n1 n2
      (repeat' (first | exact trivial | exact fun h => h | refine And.intro ?_ ?_ | (intro hb; first | (simp at hb; done) | (simp at hb) | skip) | omega | exact rfl | exact Nat.le_refl _ | (show _ + 1 ≤ 4294967296; omega) | (dsimp only; omega) | (show (_ : Int) ≤ (_ : Int); omega) | (show _ < List.length _; simp only [List.length_set, List.length_append, List.length_take]; omega) | (show wantB _ _ = true; simp; done) | (show wantB _ _ = true; simp; omega) | (show (_ : Bool) = _; simp_all; done) | (exfalso; omega) | refine aRegion_auto (by decide +kernel) ?_ | fail))
      refine ⟨Nat × Nat, fun x => ⟨[(0, .ptr 0 0), (1, .ptr 1 0), (5, .fz int x.2), (45, .ref 8 0 L2.length), (46, .fz int L2.length), (47, .fz int x.1)], mgA' W H f (nw f L) (tl0 W H) L ad cnt W2 H2 f2 now2 tl2 L2 ad2 cnt2⟩, fun x => x.1 ≤ L2.length ∧ x.2 ≤ x.1, fun x => L2.length - x.1, (0, 0), ⟨Nat.zero_le _, Nat.le_refl _⟩, Ent.sub rfl ?_, ?_⟩
      · (repeat' (first | exact trivial | exact rfl | refine And.intro ?_ ?_))
      intro ⟨k, c⟩ ⟨hk, hkc⟩
      have hk : k ≤ L2.length := hk
      have hkc : c ≤ k := hkc
      show awp _ _ _ ⟨[(0, .ptr 0 0), (1, .ptr 1 0), (5, .fz int c), (45, .ref 8 0 L2.length), (46, .fz int L2.length), (47, .fz int k)], mgA' W H f (nw f L) (tl0 W H) L ad cnt W2 H2 f2 now2 tl2 L2 ad2 cnt2⟩
      by_cases hk2 : k < L2.length
      · have ge : L2.getD (0 + Int.toNat (k : Int)) EdT.dft = L2[k] := by simp [List.getD, hk2]
        (repeat' (first | exact trivial | exact fun h => h | refine And.intro ?_ ?_ | (intro hb; first | (simp at hb; done) | (simp at hb) | skip) | omega | exact rfl | exact Nat.le_refl _ | (show _ + 1 ≤ 4294967296; omega) | (dsimp only; omega) | (show (_ : Int) ≤ (_ : Int); omega) | (show _ < List.length _; simp only [List.length_set, List.length_append, List.length_take]; omega) | (show wantB _ _ = true; simp; done) | (show wantB _ _ = true; simp; omega) | (show (_ : Bool) = _; simp_all; done) | (exfalso; omega) | refine aRegion_auto (by decide +kernel) ?_ | fail))
        rw [ge]
        (repeat' (first | exact trivial | exact fun h => h | refine And.intro ?_ ?_ | (intro hb; first | (simp at hb; done) | (simp at hb) | skip) | omega | exact rfl | exact Nat.le_refl _ | (show _ + 1 ≤ 4294967296; omega) | (dsimp only; omega) | (show (_ : Int) ≤ (_ : Int); omega) | (show _ < List.length _; simp only [List.length_set, List.length_append, List.length_take]; omega) | (show wantB _ _ = true; simp; done) | (show wantB _ _ = true; simp; omega) | (show (_ : Bool) = _; simp_all; done) | (exfalso; omega) | refine aRegion_auto (by decide +kernel) ?_ | fail))
        apply exEff
        · refine acall_conv [.keep, .dat EdT, .keep] _ _ _ rfl trivial (acall_frame [10] [.row EdT L] [.ref 0 0 L.length, .fz EdT L2[k], .fn 36 []] rfl ?_ ⟨rfl, rfl⟩ rfl (search_any _ L L.length L2[k] hs rfl (by omega) _ ?_))
          · (repeat' (first | exact trivial | exact rfl | refine And.intro ?_ ?_))
          · exact ⟨rfl, rfl⟩
        (repeat' (first | exact trivial | exact fun h => h | refine And.intro ?_ ?_ | (intro hb; first | (simp at hb; done) | (simp at hb) | skip) | omega | exact rfl | exact Nat.le_refl _ | (show _ + 1 ≤ 4294967296; omega) | (dsimp only; omega) | (show (_ : Int) ≤ (_ : Int); omega) | (show _ < List.length _; simp only [List.length_set, List.length_append, List.length_take]; omega) | (show wantB _ _ = true; simp; done) | (show wantB _ _ = true; simp; omega) | (show (_ : Bool) = _; simp_all; done) | (exfalso; omega) | refine aRegion_auto (by decide +kernel) ?_ | fail))
        · refine ⟨(k + 1, c + 1), ⟨by show k + 1 ≤ L2.length; omega, by show c + 1 ≤ k + 1; omega⟩, by show L2.length - (k + 1) < L2.length - k; omega, Ent.ren [0, 1, 2, 3, 4, 5, 6, 7, 8, 9, 10, 11] rfl ?_ ?_⟩
          · (repeat' (first | exact trivial | exact rfl | refine And.intro ?_ ?_))
          · (repeat' (first | exact trivial | exact rfl | refine And.intro ?_ ?_))
        · refine ⟨(k + 1, c), ⟨by show k + 1 ≤ L2.length; omega, by show c ≤ k + 1; omega⟩, by show L2.length - (k + 1) < L2.length - k; omega, Ent.ren [0, 1, 2, 3, 4, 5, 6, 7, 8, 9, 10, 11] rfl ?_ ?_⟩
          · (repeat' (first | exact trivial | exact rfl | refine And.intro ?_ ?_))
          · (repeat' (first | exact trivial | exact rfl | refine And.intro ?_ ?_))
      · have hk3 : k = L2.length := by omega
        subst hk3
        (repeat' (first | exact trivial | exact fun h => h | refine And.intro ?_ ?_ | (intro hb; first | (simp at hb; done) | (simp at hb) | skip) | omega | exact rfl | exact Nat.le_refl _ | (show _ + 1 ≤ 4294967296; omega) | (dsimp only; omega) | (show (_ : Int) ≤ (_ : Int); omega) | (show _ < List.length _; simp only [List.length_set, List.length_append, List.length_take]; omega) | (show wantB _ _ = true; simp; done) | (show wantB _ _ = true; simp; omega) | (show (_ : Bool) = _; simp_all; done) | (exfalso; omega) | refine aRegion_auto (by decide +kernel) ?_ | fail))
        refine acall_frame [1, 6, 7, 8, 9] (dkA W2 H2 f2 now2 tl2 L2 ad2 cnt2) [.ptr 0 0] rfl ?_ ⟨rfl, rfl⟩ rfl (edits_any _ W2 H2 f2 now2 tl2 L2 ad2 cnt2 (by omega) _ ?_)
        · (repeat' (first | exact trivial | exact rfl | refine And.intro ?_ ?_))
        (repeat' (first | exact trivial | exact fun h => h | refine And.intro ?_ ?_ | (intro hb; first | (simp at hb; done) | (simp at hb) | skip) | omega | exact rfl | exact Nat.le_refl _ | (show _ + 1 ≤ 4294967296; omega) | (dsimp only; omega) | (show (_ : Int) ≤ (_ : Int); omega) | (show _ < List.length _; simp only [List.length_set, List.length_append, List.length_take]; omega) | (show wantB _ _ = true; simp; done) | (show wantB _ _ = true; simp; omega) | (show (_ : Bool) = _; simp_all; done) | (exfalso; omega) | refine aRegion_auto (by decide +kernel) ?_ | fail))
        refine ⟨Nat, fun k => ⟨[(0, .ptr 0 0), (75, .ref 12 0 L2.length), (76, .fz int L2.length), (77, .fz int k)], mgA' W H f (nw f (ptL (L, ad) (L2.take k)).1) (tl0 W H) (ptL (L, ad) (L2.take k)).1 (ptL (L, ad) (L2.take k)).2 cnt W2 H2 f2 now2 tl2 L2 ad2 cnt2 ++ [.row EdT L2]⟩, fun k => k ≤ L2.length, fun k => L2.length - k, 0, Nat.zero_le _, Ent.sub rfl ?_, ?_⟩
        · (repeat' (first | exact trivial | exact rfl | refine And.intro ?_ ?_))
        intro k hk
        have hk : k ≤ L2.length := hk
        have hsr := ptL_srt (L2.take k) (L, ad) hs
        have hmm : ∀ x ∈ (ptL (L, ad) (L2.take k)).1, 0 ≤ x.1 ∧ x.1 < f.length := fun x hx => by
          rcases (ptL_mem (L2.take k) (L, ad) x).1 hx with h | h
          · exact h2c x (List.mem_of_mem_take h)
          · exact hc x h
        have hln := ptL_len (L2.take k) (L, ad)
        rw [List.length_take] at hln
        obtain ⟨s, es⟩ : ∃ s, s = ptL (L, ad) (L2.take k) := ⟨_, rfl⟩
        show awp _ _ _ ⟨[(0, .ptr 0 0), (75, .ref 12 0 L2.length), (76, .fz int L2.length), (77, .fz int k)], mgA' W H f (nw f (ptL (L, ad) (L2.take k)).1) (tl0 W H) (ptL (L, ad) (L2.take k)).1 (ptL (L, ad) (L2.take k)).2 cnt W2 H2 f2 now2 tl2 L2 ad2 cnt2 ++ [.row EdT L2]⟩
        rw [← es]
        rw [← es] at hsr hmm hln
        obtain ⟨M, am⟩ := s
        have hsr : Srt M := hsr
        have hmm : ∀ x ∈ M, 0 ≤ x.1 ∧ x.1 < f.length := hmm
        obtain ⟨hl1, hl2⟩ := hln
        have hl1 : M.length ≤ L.length + min k L2.length := hl1
        have hl2 : am.length ≤ ad.length + min k L2.length := hl2
        have hnl := nw_len f M
        have htl := htl0 hW hH
        show awp _ _ _ ⟨[(0, .ptr 0 0), (75, .ref 12 0 L2.length), (76, .fz int L2.length), (77, .fz int k)], mgA' W H f (nw f M) (tl0 W H) M am cnt W2 H2 f2 now2 tl2 L2 ad2 cnt2 ++ [.row EdT L2]⟩
        by_cases hk2 : k < L2.length
        · have ge : L2.getD (0 + Int.toNat (k : Int)) EdT.dft = L2[k] := by simp [List.getD, hk2]
          have hpt := ptL_take (s := (L, ad)) hk2
          rw [← es] at hpt
          obtain ⟨c1, c2⟩ := h2c L2[k] (List.getElem_mem hk2)
          (repeat' (first | exact trivial | exact fun h => h | refine And.intro ?_ ?_ | (intro hb; first | (simp at hb; done) | (simp at hb) | skip) | omega | exact rfl | exact Nat.le_refl _ | (show _ + 1 ≤ 4294967296; omega) | (dsimp only; omega) | (show (_ : Int) ≤ (_ : Int); omega) | (show _ < List.length _; simp only [List.length_set, List.length_append, List.length_take]; omega) | (show wantB _ _ = true; simp; done) | (show wantB _ _ = true; simp; omega) | (show (_ : Bool) = _; simp_all; done) | (exfalso; omega) | refine aRegion_auto (by decide +kernel) ?_ | fail))
          rw [ge]
          (repeat' (first | exact trivial | exact fun h => h | refine And.intro ?_ ?_ | (intro hb; first | (simp at hb; done) | (simp at hb) | skip) | omega | exact rfl | exact Nat.le_refl _ | (show _ + 1 ≤ 4294967296; omega) | (dsimp only; omega) | (show (_ : Int) ≤ (_ : Int); omega) | (show _ < List.length _; simp only [List.length_set, List.length_append, List.length_take]; omega) | (show wantB _ _ = true; simp; done) | (show wantB _ _ = true; simp; omega) | (show (_ : Bool) = _; simp_all; done) | (exfalso; omega) | refine aRegion_auto (by decide +kernel) ?_ | fail))
          refine acall_conv [.keep, .dat EdT] _ _ _ rfl trivial (acall_frame [0, 2, 3, 10, 11] (dkA W H f (nw f M) (tl0 W H) M am cnt) [.ptr 0 0, .fz EdT L2[k]] rfl ?_ ⟨rfl, rfl⟩ rfl (put_any _ W H f (nw f M) (tl0 W H) M am cnt L2[k] hW0 hW hH (by omega) c1 (by omega) (by omega) hsr (by omega) (by omega) _ (fun g => ?_) (fun g => ?_)))
          · (repeat' (first | exact trivial | exact rfl | refine And.intro ?_ ?_))
          · have e1 : pt (M, am) L2[k] = (M, am) := if_pos g
            rw [e1] at hpt
            (repeat' (first | exact trivial | exact fun h => h | refine And.intro ?_ ?_ | (intro hb; first | (simp at hb; done) | (simp at hb) | skip) | omega | exact rfl | exact Nat.le_refl _ | (show _ + 1 ≤ 4294967296; omega) | (dsimp only; omega) | (show (_ : Int) ≤ (_ : Int); omega) | (show _ < List.length _; simp only [List.length_set, List.length_append, List.length_take]; omega) | (show wantB _ _ = true; simp; done) | (show wantB _ _ = true; simp; omega) | (show (_ : Bool) = _; simp_all; done) | (exfalso; omega) | refine aRegion_auto (by decide +kernel) ?_ | fail))
            refine ⟨k + 1, by show k + 1 ≤ L2.length; omega, by show L2.length - (k + 1) < L2.length - k; omega, ?_⟩
            show Ent _ _ ⟨[(0, .ptr 0 0), (75, .ref 12 0 L2.length), (76, .fz int L2.length), (77, .fz int ((k : Int) + 1))], mgA' W H f (nw f (ptL (L, ad) (L2.take (k + 1))).1) (tl0 W H) (ptL (L, ad) (L2.take (k + 1))).1 (ptL (L, ad) (L2.take (k + 1))).2 cnt W2 H2 f2 now2 tl2 L2 ad2 cnt2 ++ [.row EdT L2]⟩
            rw [hpt]
            refine Ent.ren [0, 1, 2, 3, 4, 5, 6, 7, 8, 9, 10, 11, 12] rfl ?_ ?_
            · (repeat' (first | exact trivial | exact rfl | refine And.intro ?_ ?_))
            · (repeat' (first | exact trivial | exact rfl | refine And.intro ?_ ?_))
          · have e1 : pt (M, am) L2[k] = (ins M L2[k], am ++ [L2[k]]) := if_neg (by show ¬ hasE M L2[k] = true; rw [g]; simp)
            rw [e1] at hpt
            rw [nowP_nw hsr (fun x hx => (hmm x hx).1) c1 c2, tlP_tl0]
            (repeat' (first | exact trivial | exact fun h => h | refine And.intro ?_ ?_ | (intro hb; first | (simp at hb; done) | (simp at hb) | skip) | omega | exact rfl | exact Nat.le_refl _ | (show _ + 1 ≤ 4294967296; omega) | (dsimp only; omega) | (show (_ : Int) ≤ (_ : Int); omega) | (show _ < List.length _; simp only [List.length_set, List.length_append, List.length_take]; omega) | (show wantB _ _ = true; simp; done) | (show wantB _ _ = true; simp; omega) | (show (_ : Bool) = _; simp_all; done) | (exfalso; omega) | refine aRegion_auto (by decide +kernel) ?_ | fail))
            refine ⟨k + 1, by show k + 1 ≤ L2.length; omega, by show L2.length - (k + 1) < L2.length - k; omega, ?_⟩
            show Ent _ _ ⟨[(0, .ptr 0 0), (75, .ref 12 0 L2.length), (76, .fz int L2.length), (77, .fz int ((k : Int) + 1))], mgA' W H f (nw f (ptL (L, ad) (L2.take (k + 1))).1) (tl0 W H) (ptL (L, ad) (L2.take (k + 1))).1 (ptL (L, ad) (L2.take (k + 1))).2 cnt W2 H2 f2 now2 tl2 L2 ad2 cnt2 ++ [.row EdT L2]⟩
            rw [hpt]
            refine Ent.ren [0, 1, 2, 3, 4, 5, 6, 7, 8, 9, 14, 15, 12] rfl ?_ ?_
            · (repeat' (first | exact trivial | exact rfl | refine And.intro ?_ ?_))
            · (repeat' (first | exact trivial | exact rfl | refine And.intro ?_ ?_))
        · have hk3 : k = L2.length := by omega
          subst hk3
          rw [List.take_length] at es
          rw [← es] at h1
          (repeat' (first | exact trivial | exact fun h => h | refine And.intro ?_ ?_ | (intro hb; first | (simp at hb; done) | (simp at hb) | skip) | omega | exact rfl | exact Nat.le_refl _ | (show _ + 1 ≤ 4294967296; omega) | (dsimp only; omega) | (show (_ : Int) ≤ (_ : Int); omega) | (show _ < List.length _; simp only [List.length_set, List.length_append, List.length_take]; omega) | (show wantB _ _ = true; simp; done) | (show wantB _ _ = true; simp; omega) | (show (_ : Bool) = _; simp_all; done) | (exfalso; omega) | refine aRegion_auto (by decide +kernel) ?_ | fail))
          refine ⟨_, _, REnt.ren [0, 1, 2, 3, 4, 5, 6, 7, 8, 9, 10, 11] rfl ?_ ?_, h1⟩
          · (repeat' (first | exact trivial | exact rfl | refine And.intro ?_ ?_))
          · (repeat' (first | exact trivial | exact rfl | refine And.intro ?_ ?_))
    · have h0 := h0 (fun h => hff h.2)
      have e3 := er_ea E (show 0 < 3 by decide)
      rw [e3] at h0
      (repeat' (first | exact trivial | exact fun h => h | refine And.intro ?_ ?_ | (intro hb; first | (simp at hb; done) | (simp at hb) | skip) | omega | exact rfl | exact Nat.le_refl _ | (show _ + 1 ≤ 4294967296; omega) | (dsimp only; omega) | (show (_ : Int) ≤ (_ : Int); omega) | (show _ < List.length _; simp only [List.length_set, List.length_append, List.length_take]; omega) | (show wantB _ _ = true; simp; done) | (show wantB _ _ = true; simp; omega) | (show (_ : Bool) = _; simp_all; done) | (exfalso; omega) | refine aRegion_auto (by decide +kernel) ?_ | fail))
      rw [w1]
      (repeat' (first | exact trivial | exact fun h => h | refine And.intro ?_ ?_ | (intro hb; first | (simp at hb; done) | (simp at hb) | skip) | omega | exact rfl | exact Nat.le_refl _ | (show _ + 1 ≤ 4294967296; omega) | (dsimp only; omega) | (show (_ : Int) ≤ (_ : Int); omega) | (show _ < List.length _; simp only [List.length_set, List.length_append, List.length_take]; omega) | (show wantB _ _ = true; simp; done) | (show wantB _ _ = true; simp; omega) | (show (_ : Bool) = _; simp_all; done) | (exfalso; omega) | refine aRegion_auto (by decide +kernel) ?_ | fail))
      apply exEff
      · refine ⟨fun _ => ?_, fun h => absurd h (by simp)⟩
        (repeat' (first | refine And.intro ?_ ?_ | (show wantB _ _ = true; simp; done)))
        refine acall_frame0 rfl (equal_any _ f2 f (by omega) (by omega) _ ?_)
        rw [decide_eq_false hff]
        exact ⟨rfl, rfl⟩
      (repeat' (first | exact trivial | exact fun h => h | refine And.intro ?_ ?_ | (intro hb; first | (simp at hb; done) | (simp at hb) | skip) | omega | exact rfl | exact Nat.le_refl _ | (show _ + 1 ≤ 4294967296; omega) | (dsimp only; omega) | (show (_ : Int) ≤ (_ : Int); omega) | (show _ < List.length _; simp only [List.length_set, List.length_append, List.length_take]; omega) | (show wantB _ _ = true; simp; done) | (show wantB _ _ = true; simp; omega) | (show (_ : Bool) = _; simp_all; done) | (exfalso; omega) | refine aRegion_auto (by decide +kernel) ?_ | fail))
      (repeat' (first | exact trivial | exact fun h => h | refine And.intro ?_ ?_ | (intro hb; first | (simp at hb; done) | (simp at hb) | skip) | omega | exact rfl | exact Nat.le_refl _ | (show _ + 1 ≤ 4294967296; omega) | (dsimp only; omega) | (show (_ : Int) ≤ (_ : Int); omega) | (show _ < List.length _; simp only [List.length_set, List.length_append, List.length_take]; omega) | (show wantB _ _ = true; simp; done) | (show wantB _ _ = true; simp; omega) | (show (_ : Bool) = _; simp_all; done) | (exfalso; omega) | refine aRegion_auto (by decide +kernel) ?_ | fail))
      refine ⟨_, _, REnt.ren [0, 1, 2, 3, 4, 5, 6, 7, 8, 9] rfl ?_ ?_, h0⟩
      · (repeat' (first | exact trivial | exact rfl | refine And.intro ?_ ?_))
      · (repeat' (first | exact trivial | exact rfl | refine And.intro ?_ ?_))
  · have h0 := h0 (fun h => hw h.1)
    have e3 := er_ea E (show 0 < 3 by decide)
    rw [e3] at h0
    have w1 : ((W2 : Int) != (W : Int)) = true := by rw [bne_iff_ne]; omega
    (repeat' (first | exact trivial | exact fun h => h | refine And.intro ?_ ?_ | (intro hb; first | (simp at hb; done) | (simp at hb) | skip) | omega | exact rfl | exact Nat.le_refl _ | (show _ + 1 ≤ 4294967296; omega) | (dsimp only; omega) | (show (_ : Int) ≤ (_ : Int); omega) | (show _ < List.length _; simp only [List.length_set, List.length_append, List.length_take]; omega) | (show wantB _ _ = true; simp; done) | (show wantB _ _ = true; simp; omega) | (show (_ : Bool) = _; simp_all; done) | (exfalso; omega) | refine aRegion_auto (by decide +kernel) ?_ | fail))
    rw [w1]
    (repeat' (first | exact trivial | exact fun h => h | refine And.intro ?_ ?_ | (intro hb; first | (simp at hb; done) | (simp at hb) | skip) | omega | exact rfl | exact Nat.le_refl _ | (show _ + 1 ≤ 4294967296; omega) | (dsimp only; omega) | (show (_ : Int) ≤ (_ : Int); omega) | (show _ < List.length _; simp only [List.length_set, List.length_append, List.length_take]; omega) | (show wantB _ _ = true; simp; done) | (show wantB _ _ = true; simp; omega) | (show (_ : Bool) = _; simp_all; done) | (exfalso; omega) | refine aRegion_auto (by decide +kernel) ?_ | fail))
    apply exEff
    · refine ⟨fun h => absurd h (by simp), fun _ => ?_⟩
      exact ⟨rfl, rfl⟩
    (repeat' (first | exact trivial | exact fun h => h | refine And.intro ?_ ?_ | (intro hb; first | (simp at hb; done) | (simp at hb) | skip) | omega | exact rfl | exact Nat.le_refl _ | (show _ + 1 ≤ 4294967296; omega) | (dsimp only; omega) | (show (_ : Int) ≤ (_ : Int); omega) | (show _ < List.length _; simp only [List.length_set, List.length_append, List.length_take]; omega) | (show wantB _ _ = true; simp; done) | (show wantB _ _ = true; simp; omega) | (show (_ : Bool) = _; simp_all; done) | (exfalso; omega) | refine aRegion_auto (by decide +kernel) ?_ | fail))
    (repeat' (first | exact trivial | exact fun h => h | refine And.intro ?_ ?_ | (intro hb; first | (simp at hb; done) | (simp at hb) | skip) | omega | exact rfl | exact Nat.le_refl _ | (show _ + 1 ≤ 4294967296; omega) | (dsimp only; omega) | (show (_ : Int) ≤ (_ : Int); omega) | (show _ < List.length _; simp only [List.length_set, List.length_append, List.length_take]; omega) | (show wantB _ _ = true; simp; done) | (show wantB _ _ = true; simp; omega) | (show (_ : Bool) = _; simp_all; done) | (exfalso; omega) | refine aRegion_auto (by decide +kernel) ?_ | fail))
    refine ⟨_, _, REnt.ren [0, 1, 2, 3, 4, 5, 6, 7, 8, 9] rfl ?_ ?_, h0⟩
    · (repeat' (first | exact trivial | exact rfl | refine And.intro ?_ ?_))
    · (repeat' (first | exact trivial | exact rfl | refine And.intro ?_ ?_))
end Go.Proofs.YtiflieijbmaocaaDoor
/-
  A desk merged with itself, with none; a fresh one's raster.
-/
namespace Go.Proofs.YtiflieijbmaocaaDoor
open Go Go.Ab Go.RowKit
set_option maxRecDepth 100000
open Dk
set_option maxHeartbeats 16000000 in
theorem merge_self (E : Errs) (W H : Nat) (f : List Int) (L ad : List Dk.E) (cnt : Int) (tl : List Tl)
    (hW0 : 0 < W) (hW : W ≤ 128) (hH : H ≤ 128) (hf : f.length ≤ 16384) (htl : tl.length ≤ 1000000) (hs : Srt L) (hc : ∀ x ∈ L, 0 ≤ x.1 ∧ x.1 < f.length) (hL : L.length ≤ 2000) (ha : ad.length ≤ 2000) (K : AV → List AO → Prop)
    (h1 : K (.fz .raw .nilIface) (dkA W H f (nw f L) tl L ad cnt)) :
    ACall Tryd.prog (G8 E) 16 [.ptr 0 0, .ptr 0 0] (dkA W H f (nw f L) tl L ad cnt) K := by
  refine acall_mk (E := envCut (G8 E) 85 5 [3]) (envCutOk _ _ _ _) Tryd.func16 rfl rfl rfl rfl rfl ?_
  have w1 : ((W : Int) != (W : Int)) = false := by simp
  have hnl := nw_len f L
  (repeat' (first | exact trivial | exact fun h => h | refine And.intro ?_ ?_ | (intro hb; first | (simp at hb; done) | (simp at hb) | skip) | omega | exact rfl | exact Nat.le_refl _ | (show _ + 1 ≤ 4294967296; omega) | (dsimp only; omega) | (show (_ : Int) ≤ (_ : Int); omega) | (show _ < List.length _; simp only [List.length_set, List.length_append, List.length_take]; omega) | (show wantB _ _ = true; simp; done) | (show wantB _ _ = true; simp; omega) | (show (_ : Bool) = _; simp_all; done) | (exfalso; omega) | refine aRegion_auto (by decide +kernel) ?_ | fail))
  rw [w1]
  (repeat' (first | exact trivial | exact fun h => h | refine And.intro ?_ ?_ | (intro hb; first | (simp at hb; done) | (simp at hb) | skip) | omega | exact rfl | exact Nat.le_refl _ | (show _ + 1 ≤ 4294967296; omega) | (dsimp only; omega) | (show (_ : Int) ≤ (_ : Int); omega) | (show _ < List.length _; simp only [List.length_set, List.length_append, List.length_take]; omega) | (show wantB _ _ = true; simp; done) | (show wantB _ _ = true; simp; omega) | (show (_ : Bool) = _; simp_all; done) | (exfalso; omega) | refine aRegion_auto (by decide +kernel) ?_ | fail))
  apply exEff
  · refine ⟨fun _ => ?_, fun h => absurd h (by simp)⟩
    (repeat' (first | refine And.intro ?_ ?_ | (show wantB _ _ = true; simp; done)))
    refine acall_frame0 rfl (equal_any _ f f (by omega) (by omega) _ ?_)
    rw [decide_eq_true rfl]
    exact ⟨rfl, rfl⟩
  (repeat' (first | exact trivial | exact fun h => h | refine And.intro ?_ ?_ | (intro hb; first | (simp at hb; done) | (simp at hb) | skip) | omega | exact rfl | exact Nat.le_refl _ | (show _ + 1 ≤ 4294967296; omega) | (dsimp only; omega) | (show (_ : Int) ≤ (_ : Int); omega) | (show _ < List.length _; simp only [List.length_set, List.length_append, List.length_take]; omega) | (show wantB _ _ = true; simp; done) | (show wantB _ _ = true; simp; omega) | (show (_ : Bool) = _; simp_all; done) | (exfalso; omega) | refine aRegion_auto (by decide +kernel) ?_ | fail))
  (repeat' (first | exact trivial | exact fun h => h | refine And.intro ?_ ?_ | (intro hb; first | (simp at hb; done) | (simp at hb) | skip) | omega | exact rfl | exact Nat.le_refl _ | (show _ + 1 ≤ 4294967296; omega) | (dsimp only; omega) | (show (_ : Int) ≤ (_ : Int); omega) | (show _ < List.length _; simp only [List.length_set, List.length_append, List.length_take]; omega) | (show wantB _ _ = true; simp; done) | (show wantB _ _ = true; simp; omega) | (show (_ : Bool) = _; simp_all; done) | (exfalso; omega) | refine aRegion_auto (by decide +kernel) ?_ | fail))
  refine ⟨[(0, .ptr 0 0), (1, .ptr 0 0)], dkA W H f (nw f L) tl L ad cnt, Ent.sub rfl ?_, ?_⟩
  · (repeat' (first | exact trivial | exact rfl | refine And.intro ?_ ?_))
  (repeat' (first | exact trivial | exact fun h => h | refine And.intro ?_ ?_ | (intro hb; first | (simp at hb; done) | (simp at hb) | skip) | omega | exact rfl | exact Nat.le_refl _ | (show _ + 1 ≤ 4294967296; omega) | (dsimp only; omega) | (show (_ : Int) ≤ (_ : Int); omega) | (show _ < List.length _; simp only [List.length_set, List.length_append, List.length_take]; omega) | (show wantB _ _ = true; simp; done) | (show wantB _ _ = true; simp; omega) | (show (_ : Bool) = _; simp_all; done) | (exfalso; omega) | refine aRegion_auto (by decide +kernel) ?_ | fail))
  refine ⟨Nat, fun k => ⟨[(0, .ptr 0 0), (1, .ptr 0 0), (5, .fz int 0), (45, .ref 3 0 L.length), (46, .fz int L.length), (47, .fz int k)], dkA W H f (nw f L) tl L ad cnt⟩, fun k => k ≤ L.length, fun k => L.length - k, 0, Nat.zero_le _, Ent.sub rfl ?_, ?_⟩
  · (repeat' (first | exact trivial | exact rfl | refine And.intro ?_ ?_))
  intro k hk
  have hk : k ≤ L.length := hk
  show awp _ _ _ ⟨[(0, .ptr 0 0), (1, .ptr 0 0), (5, .fz int 0), (45, .ref 3 0 L.length), (46, .fz int L.length), (47, .fz int k)], dkA W H f (nw f L) tl L ad cnt⟩
  by_cases hk2 : k < L.length
  · have ge : L.getD (0 + Int.toNat (k : Int)) EdT.dft = L[k] := by simp [List.getD, hk2]
    have hin : hasE L L[k] = true := hasE_iff.2 (List.getElem_mem hk2)
    (repeat' (first | exact trivial | exact fun h => h | refine And.intro ?_ ?_ | (intro hb; first | (simp at hb; done) | (simp at hb) | skip) | omega | exact rfl | exact Nat.le_refl _ | (show _ + 1 ≤ 4294967296; omega) | (dsimp only; omega) | (show (_ : Int) ≤ (_ : Int); omega) | (show _ < List.length _; simp only [List.length_set, List.length_append, List.length_take]; omega) | (show wantB _ _ = true; simp; done) | (show wantB _ _ = true; simp; omega) | (show (_ : Bool) = _; simp_all; done) | (exfalso; omega) | refine aRegion_auto (by decide +kernel) ?_ | fail))
    rw [ge]
    (repeat' (first | exact trivial | exact fun h => h | refine And.intro ?_ ?_ | (intro hb; first | (simp at hb; done) | (simp at hb) | skip) | omega | exact rfl | exact Nat.le_refl _ | (show _ + 1 ≤ 4294967296; omega) | (dsimp only; omega) | (show (_ : Int) ≤ (_ : Int); omega) | (show _ < List.length _; simp only [List.length_set, List.length_append, List.length_take]; omega) | (show wantB _ _ = true; simp; done) | (show wantB _ _ = true; simp; omega) | (show (_ : Bool) = _; simp_all; done) | (exfalso; omega) | refine aRegion_auto (by decide +kernel) ?_ | fail))
    apply exEff
    · refine acall_conv [.keep, .dat EdT, .keep] _ _ _ rfl trivial (acall_frame [3] [.row EdT L] [.ref 0 0 L.length, .fz EdT L[k], .fn 36 []] rfl ?_ ⟨rfl, rfl⟩ rfl (search_any _ L L.length L[k] hs rfl (by omega) _ ?_))
      · (repeat' (first | exact trivial | exact rfl | refine And.intro ?_ ?_))
      · rw [hin]; exact ⟨rfl, rfl⟩
    (repeat' (first | exact trivial | exact fun h => h | refine And.intro ?_ ?_ | (intro hb; first | (simp at hb; done) | (simp at hb) | skip) | omega | exact rfl | exact Nat.le_refl _ | (show _ + 1 ≤ 4294967296; omega) | (dsimp only; omega) | (show (_ : Int) ≤ (_ : Int); omega) | (show _ < List.length _; simp only [List.length_set, List.length_append, List.length_take]; omega) | (show wantB _ _ = true; simp; done) | (show wantB _ _ = true; simp; omega) | (show (_ : Bool) = _; simp_all; done) | (exfalso; omega) | refine aRegion_auto (by decide +kernel) ?_ | fail))
    refine ⟨k + 1, by show k + 1 ≤ L.length; omega, by show L.length - (k + 1) < L.length - k; omega, Ent.ren [0, 1, 2, 3, 4] rfl ?_ ?_⟩
    · (repeat' (first | exact trivial | exact rfl | refine And.intro ?_ ?_))
    · (repeat' (first | exact trivial | exact rfl | refine And.intro ?_ ?_))
  · have hk3 : k = L.length := by omega
    subst hk3
    (repeat' (first | exact trivial | exact fun h => h | refine And.intro ?_ ?_ | (intro hb; first | (simp at hb; done) | (simp at hb) | skip) | omega | exact rfl | exact Nat.le_refl _ | (show _ + 1 ≤ 4294967296; omega) | (dsimp only; omega) | (show (_ : Int) ≤ (_ : Int); omega) | (show _ < List.length _; simp only [List.length_set, List.length_append, List.length_take]; omega) | (show wantB _ _ = true; simp; done) | (show wantB _ _ = true; simp; omega) | (show (_ : Bool) = _; simp_all; done) | (exfalso; omega) | refine aRegion_auto (by decide +kernel) ?_ | fail))
    refine acall_frame [0, 1, 2, 3, 4] (dkA W H f (nw f L) tl L ad cnt) [.ptr 0 0] rfl ?_ ⟨rfl, rfl⟩ rfl (edits_any _ W H f (nw f L) tl L ad cnt (by omega) _ ?_)
    · (repeat' (first | exact trivial | exact rfl | refine And.intro ?_ ?_))
    (repeat' (first | exact trivial | exact fun h => h | refine And.intro ?_ ?_ | (intro hb; first | (simp at hb; done) | (simp at hb) | skip) | omega | exact rfl | exact Nat.le_refl _ | (show _ + 1 ≤ 4294967296; omega) | (dsimp only; omega) | (show (_ : Int) ≤ (_ : Int); omega) | (show _ < List.length _; simp only [List.length_set, List.length_append, List.length_take]; omega) | (show wantB _ _ = true; simp; done) | (show wantB _ _ = true; simp; omega) | (show (_ : Bool) = _; simp_all; done) | (exfalso; omega) | refine aRegion_auto (by decide +kernel) ?_ | fail))
    refine ⟨Nat, fun k => ⟨[(0, .ptr 0 0), (75, .ref 5 0 L.length), (76, .fz int L.length), (77, .fz int k)], dkA W H f (nw f L) tl L ad cnt ++ [.row EdT L]⟩, fun k => k ≤ L.length, fun k => L.length - k, 0, Nat.zero_le _, Ent.sub rfl ?_, ?_⟩
    · (repeat' (first | exact trivial | exact rfl | refine And.intro ?_ ?_))
    intro k hk
    have hk : k ≤ L.length := hk
    show awp _ _ _ ⟨[(0, .ptr 0 0), (75, .ref 5 0 L.length), (76, .fz int L.length), (77, .fz int k)], dkA W H f (nw f L) tl L ad cnt ++ [.row EdT L]⟩
    by_cases hk2 : k < L.length
    · have ge : L.getD (0 + Int.toNat (k : Int)) EdT.dft = L[k] := by simp [List.getD, hk2]
      have hin : hasE L L[k] = true := hasE_iff.2 (List.getElem_mem hk2)
      obtain ⟨c1, c2⟩ := hc L[k] (List.getElem_mem hk2)
      (repeat' (first | exact trivial | exact fun h => h | refine And.intro ?_ ?_ | (intro hb; first | (simp at hb; done) | (simp at hb) | skip) | omega | exact rfl | exact Nat.le_refl _ | (show _ + 1 ≤ 4294967296; omega) | (dsimp only; omega) | (show (_ : Int) ≤ (_ : Int); omega) | (show _ < List.length _; simp only [List.length_set, List.length_append, List.length_take]; omega) | (show wantB _ _ = true; simp; done) | (show wantB _ _ = true; simp; omega) | (show (_ : Bool) = _; simp_all; done) | (exfalso; omega) | refine aRegion_auto (by decide +kernel) ?_ | fail))
      rw [ge]
      (repeat' (first | exact trivial | exact fun h => h | refine And.intro ?_ ?_ | (intro hb; first | (simp at hb; done) | (simp at hb) | skip) | omega | exact rfl | exact Nat.le_refl _ | (show _ + 1 ≤ 4294967296; omega) | (dsimp only; omega) | (show (_ : Int) ≤ (_ : Int); omega) | (show _ < List.length _; simp only [List.length_set, List.length_append, List.length_take]; omega) | (show wantB _ _ = true; simp; done) | (show wantB _ _ = true; simp; omega) | (show (_ : Bool) = _; simp_all; done) | (exfalso; omega) | refine aRegion_auto (by decide +kernel) ?_ | fail))
      refine acall_conv [.keep, .dat EdT] _ _ _ rfl trivial (acall_frame [0, 1, 2, 3, 4] (dkA W H f (nw f L) tl L ad cnt) [.ptr 0 0, .fz EdT L[k]] rfl ?_ ⟨rfl, rfl⟩ rfl (put_any _ W H f (nw f L) tl L ad cnt L[k] hW0 hW hH (by omega) c1 (by omega) htl hs (by omega) (by omega) _ (fun _ => ?_) (fun g => ?_)))
      · (repeat' (first | exact trivial | exact rfl | refine And.intro ?_ ?_))
      · (repeat' (first | exact trivial | exact fun h => h | refine And.intro ?_ ?_ | (intro hb; first | (simp at hb; done) | (simp at hb) | skip) | omega | exact rfl | exact Nat.le_refl _ | (show _ + 1 ≤ 4294967296; omega) | (dsimp only; omega) | (show (_ : Int) ≤ (_ : Int); omega) | (show _ < List.length _; simp only [List.length_set, List.length_append, List.length_take]; omega) | (show wantB _ _ = true; simp; done) | (show wantB _ _ = true; simp; omega) | (show (_ : Bool) = _; simp_all; done) | (exfalso; omega) | refine aRegion_auto (by decide +kernel) ?_ | fail))
        refine ⟨k + 1, by show k + 1 ≤ L.length; omega, by show L.length - (k + 1) < L.length - k; omega, ?_⟩
        refine Ent.ren [0, 1, 2, 3, 4, 5] rfl ?_ ?_
        · (repeat' (first | exact trivial | exact rfl | refine And.intro ?_ ?_))
        · (repeat' (first | exact trivial | exact rfl | refine And.intro ?_ ?_))
      · rw [hin] at g; cases g
    · have hk3 : k = L.length := by omega
      subst hk3
      (repeat' (first | exact trivial | exact fun h => h | refine And.intro ?_ ?_ | (intro hb; first | (simp at hb; done) | (simp at hb) | skip) | omega | exact rfl | exact Nat.le_refl _ | (show _ + 1 ≤ 4294967296; omega) | (dsimp only; omega) | (show (_ : Int) ≤ (_ : Int); omega) | (show _ < List.length _; simp only [List.length_set, List.length_append, List.length_take]; omega) | (show wantB _ _ = true; simp; done) | (show wantB _ _ = true; simp; omega) | (show (_ : Bool) = _; simp_all; done) | (exfalso; omega) | refine aRegion_auto (by decide +kernel) ?_ | fail))
      refine ⟨_, _, REnt.ren [0, 1, 2, 3, 4] rfl ?_ ?_, h1⟩
      · (repeat' (first | exact trivial | exact rfl | refine And.intro ?_ ?_))
      · (repeat' (first | exact trivial | exact rfl | refine And.intro ?_ ?_))
theorem merge_nil (E : Errs) (W H : Nat) (f now : List Int) (L ad : List Dk.E) (cnt : Int) (tl : List Tl) (K : AV → List AO → Prop)
    (h1 : K (.fz .raw (er E 3)) (dkA W H f now tl L ad cnt)) :
    ACall Tryd.prog (G8 E) 16 [.ptr 0 0, .fz .raw (.pointer none)] (dkA W H f now tl L ad cnt) K := by
  refine acall_mk (E := envCut (G8 E) 85 5 [3]) (envCutOk _ _ _ _) Tryd.func16 rfl rfl rfl rfl rfl ?_
  have e3 := er_ea E (show 0 < 3 by decide)
  rw [e3] at h1
  (repeat' (first | exact trivial | exact fun h => h | refine And.intro ?_ ?_ | (intro hb; first | (simp at hb; done) | (simp at hb) | skip) | omega | exact rfl | exact Nat.le_refl _ | (show _ + 1 ≤ 4294967296; omega) | (dsimp only; omega) | (show (_ : Int) ≤ (_ : Int); omega) | (show _ < List.length _; simp only [List.length_set, List.length_append, List.length_take]; omega) | (show wantB _ _ = true; simp; done) | (show wantB _ _ = true; simp; omega) | (show (_ : Bool) = _; simp_all; done) | (exfalso; omega) | refine aRegion_auto (by decide +kernel) ?_ | fail))
  apply exEff
  · refine ⟨fun h => absurd h (by simp), fun _ => ?_⟩
    exact ⟨rfl, rfl⟩
  (repeat' (first | exact trivial | exact fun h => h | refine And.intro ?_ ?_ | (intro hb; first | (simp at hb; done) | (simp at hb) | skip) | omega | exact rfl | exact Nat.le_refl _ | (show _ + 1 ≤ 4294967296; omega) | (dsimp only; omega) | (show (_ : Int) ≤ (_ : Int); omega) | (show _ < List.length _; simp only [List.length_set, List.length_append, List.length_take]; omega) | (show wantB _ _ = true; simp; done) | (show wantB _ _ = true; simp; omega) | (show (_ : Bool) = _; simp_all; done) | (exfalso; omega) | refine aRegion_auto (by decide +kernel) ?_ | fail))
  (repeat' (first | exact trivial | exact fun h => h | refine And.intro ?_ ?_ | (intro hb; first | (simp at hb; done) | (simp at hb) | skip) | omega | exact rfl | exact Nat.le_refl _ | (show _ + 1 ≤ 4294967296; omega) | (dsimp only; omega) | (show (_ : Int) ≤ (_ : Int); omega) | (show _ < List.length _; simp only [List.length_set, List.length_append, List.length_take]; omega) | (show wantB _ _ = true; simp; done) | (show wantB _ _ = true; simp; omega) | (show (_ : Bool) = _; simp_all; done) | (exfalso; omega) | refine aRegion_auto (by decide +kernel) ?_ | fail))
  refine ⟨_, _, REnt.ren [0, 1, 2, 3, 4] rfl ?_ ?_, h1⟩
  · (repeat' (first | exact trivial | exact rfl | refine And.intro ?_ ?_))
  · (repeat' (first | exact trivial | exact rfl | refine And.intro ?_ ?_))
theorem sameInts_any (G : List (Nat × Value)) (xs ys : List Int) (hx : xs.length ≤ 1000000000000) (_hy : ys.length ≤ 1000000000000) (K : AV → List AO → Prop) (hK : K (.fz .bool (decide (xs = ys))) []) :
    ACall Tryd.prog G 19 [.fz LI xs, .fz LI ys] [] K := by
  refine acall_mk (E := envAt G 26 0) (envOk _ _ _) Tryd.func19 rfl rfl rfl rfl rfl ?_
  by_cases hl : xs.length = ys.length
  · (repeat' (first | exact trivial | exact fun h => h | refine And.intro ?_ ?_ | (intro hb; first | (simp at hb; done) | (simp at hb) | skip) | omega | exact rfl | exact Nat.le_refl _ | (show _ + 1 ≤ 4294967296; omega) | (dsimp only; omega) | (show (_ : Int) ≤ (_ : Int); omega) | (show _ < List.length _; simp only [List.length_set, List.length_append, List.length_take]; omega) | (show wantB _ _ = true; simp; done) | (show wantB _ _ = true; simp; omega) | (show (_ : Bool) = _; simp_all; done) | (exfalso; omega) | refine aRegion_auto (by decide +kernel) ?_ | fail))
    refine ⟨Nat, fun k => ⟨[(0, .fz LI xs), (1, .fz LI ys), (5, .fz int k)], []⟩, fun k => k ≤ xs.length ∧ ∀ j, j < k → xs.getD j 0 = ys.getD j 0, fun k => xs.length - k, 0, ⟨Nat.zero_le _, fun j h => absurd h (Nat.not_lt_zero _)⟩, Ent.sub rfl ?_, ?_⟩
    · (repeat' (first | exact trivial | exact rfl | refine And.intro ?_ ?_))
    intro k ⟨hk, hp⟩
    have hk : k ≤ xs.length := hk
    by_cases hk2 : k < xs.length
    · (repeat' (first | exact trivial | exact fun h => h | refine And.intro ?_ ?_ | (intro hb; first | (simp at hb; done) | (simp at hb) | skip) | omega | exact rfl | exact Nat.le_refl _ | (show _ + 1 ≤ 4294967296; omega) | (dsimp only; omega) | (show (_ : Int) ≤ (_ : Int); omega) | (show _ < List.length _; simp only [List.length_set, List.length_append, List.length_take]; omega) | (show wantB _ _ = true; simp; done) | (show wantB _ _ = true; simp; omega) | (show (_ : Bool) = _; simp_all; done) | (exfalso; omega) | refine aRegion_auto (by decide +kernel) ?_ | fail))
      · have hne : xs ≠ ys := fun e => hb (by rw [e])
        refine ⟨_, _, REnt.refl _ _ _, ?_⟩
        rw [decide_eq_false hne] at hK
        exact hK
      · refine ⟨k + 1, ⟨by omega, fun j hj => ?_⟩, by show _ - _ < _ - _; omega, Ent.sub rfl ?_⟩
        · by_cases e : j = k
          · subst e; exact hb
          · exact hp j (by omega)
        · (repeat' (first | exact trivial | exact rfl | refine And.intro ?_ ?_))
    · have e : xs = ys := by
        apply List.ext_getElem hl
        intro j h1 h2
        have := hp j (by omega)
        rwa [← List.getElem_eq_getD (h := h1), ← List.getElem_eq_getD (h := h2)] at this
      rw [decide_eq_true e] at hK
      (repeat' (first | exact trivial | exact fun h => h | refine And.intro ?_ ?_ | (intro hb; first | (simp at hb; done) | (simp at hb) | skip) | omega | exact rfl | exact Nat.le_refl _ | (show _ + 1 ≤ 4294967296; omega) | (dsimp only; omega) | (show (_ : Int) ≤ (_ : Int); omega) | (show _ < List.length _; simp only [List.length_set, List.length_append, List.length_take]; omega) | (show wantB _ _ = true; simp; done) | (show wantB _ _ = true; simp; omega) | (show (_ : Bool) = _; simp_all; done) | (exfalso; omega) | refine aRegion_auto (by decide +kernel) ?_ | fail))
      exact ⟨_, _, REnt.refl _ _ _, hK⟩
  · have hne : xs ≠ ys := fun e => hl (by rw [e])
    rw [decide_eq_false hne] at hK
    (repeat' (first | exact trivial | exact fun h => h | refine And.intro ?_ ?_ | (intro hb; first | (simp at hb; done) | (simp at hb) | skip) | omega | exact rfl | exact Nat.le_refl _ | (show _ + 1 ≤ 4294967296; omega) | (dsimp only; omega) | (show (_ : Int) ≤ (_ : Int); omega) | (show _ < List.length _; simp only [List.length_set, List.length_append, List.length_take]; omega) | (show wantB _ _ = true; simp; done) | (show wantB _ _ = true; simp; omega) | (show (_ : Bool) = _; simp_all; done) | (exfalso; omega) | refine aRegion_auto (by decide +kernel) ?_ | fail))
    exact ⟨_, _, REnt.refl _ _ _, hK⟩
end Go.Proofs.YtiflieijbmaocaaDoor
