/-
  What two pieces have in common: the walk of the document's.
-/
import Derived.Test.YtdbgkhcknaafoaaDoorM5
import Derived.LaidHandle
import Derived.LaidSub
import Derived.Test.YtdbgkhcknaafoaaDoorChecked
import Derived.WalkKit
import Derived.ProofKit
import Derived.OpenShut
import Derived.Carry
import Derived.Test.YtdbgkhcknaafoaaDoorTie
import Derived.Test.YtdbgkhcknaafoaaDoorCards
import Derived.SevenTiedAt
import Derived.LaidMore
import Derived.Lay
import Derived.Deep.Slices
import Derived.Lib.SmallJoins
import Derived.Stop.Joined
namespace Go.Proofs.YtdbgkhcknaafoaaDoor
open Go Go.Ab
set_option maxRecDepth 100000
theorem with_any (G : List (Nat × Value)) (L : Pts) (hm : L.length ≤ 100) (x : Int × Int) (K : AV → List AO → Prop) (h1 : x ∈ L → K (.ref 0 0 L.length) [.row SpT L]) (h2 : x ∉ L → K (.ref 1 0 (L.length + 1)) [.dead, .row SpT (L ++ [x])]) :
    ACall Tryd.prog G 31 [.ref 0 0 L.length, .fz SpT x] [.row SpT L] K := by
  refine acall_mk (E := envAt G 23 1) (envOk _ _ _) Tryd.func31 rfl rfl rfl rfl rfl ?_
  (repeat' (first | exact trivial | exact fun h => h | refine And.intro ?_ ?_ | (intro hb; first | (simp at hb; done) | (simp at hb) | skip) | omega | exact rfl | exact Nat.le_refl _ | (show _ + 1 ≤ 4294967296; omega) | (dsimp only; omega) | (show (_ : Int) ≤ (_ : Int); omega) | (show _ < List.length _; simp only [List.length_set, List.length_append, List.length_take]; omega) | (show wantB _ _ = true; simp; done) | (show wantB _ _ = true; simp; omega) | (show (_ : Bool) = _; simp_all; done) | (exfalso; omega) | refine aRegion_auto (by decide +kernel) ?_ | fail))
  refine ⟨Nat, fun k => ⟨[(0, .ref 0 0 L.length), (3, .ptr 1 0), (5, .fz int k)], [.row SpT L, .box [.fz int x.1, .fz int x.2]]⟩, fun k => k ≤ L.length ∧ ∀ j, j < k → Shp.at_ L j ≠ x, fun k => L.length - k, 0, ⟨Nat.zero_le _, fun j h => absurd h (Nat.not_lt_zero _)⟩, Ent.sub rfl ?_, ?_⟩
  · (repeat' (first | exact trivial | exact rfl | refine And.intro ?_ ?_))
  intro k ⟨hk, hno⟩
  by_cases hkl : k < L.length
  · have qk := at_q L k
    have eX := eqS (Shp.at_ L k) x
    (repeat' (first | exact trivial | exact fun h => h | refine And.intro ?_ ?_ | (intro hb; first | (simp at hb; done) | (simp at hb) | skip) | omega | exact rfl | exact Nat.le_refl _ | (show _ + 1 ≤ 4294967296; omega) | (dsimp only; omega) | (show (_ : Int) ≤ (_ : Int); omega) | (show _ < List.length _; simp only [List.length_set, List.length_append, List.length_take]; omega) | (show wantB _ _ = true; simp; done) | (show wantB _ _ = true; simp; omega) | (show (_ : Bool) = _; simp_all; done) | (exfalso; omega) | refine aRegion_auto (by decide +kernel) ?_ | fail))
    · have e : Shp.at_ L k = x := by
        rw [qk, eX] at hb
        exact of_decide_eq_true hb
      refine ⟨_, _, REnt.ren [0] rfl ?_ ?_, h1 ?_⟩
      · (repeat' (first | exact trivial | exact rfl | refine And.intro ?_ ?_))
      · (repeat' (first | exact trivial | exact rfl | refine And.intro ?_ ?_))
      · rw [← e]
        have : Shp.at_ L k = L[k] := by unfold Shp.at_; simp [hkl]
        rw [this]; exact List.getElem_mem hkl
    · have e : Shp.at_ L k ≠ x := by
        rw [qk, eX] at hb
        exact of_decide_eq_false hb
      refine ⟨k + 1, ⟨by show k + 1 ≤ L.length; omega, fun j hj => ?_⟩, by show L.length - (k + 1) < L.length - k; omega, Ent.sub rfl ?_⟩
      · by_cases ej : j = k
        · rw [ej]; exact e
        · exact hno j (by omega)
      · (repeat' (first | exact trivial | exact rfl | refine And.intro ?_ ?_))
  · have hke : k = L.length := by omega
    have hnx : x ∉ L := fun hx => by
      obtain ⟨i, hi, rfl⟩ := List.getElem_of_mem hx
      have e : Shp.at_ L i = L[i] := by unfold Shp.at_; simp [hi]
      exact hno i (by omega) e
    (repeat' (first | exact trivial | exact fun h => h | refine And.intro ?_ ?_ | (intro hb; first | (simp at hb; done) | (simp at hb) | skip) | omega | exact rfl | exact Nat.le_refl _ | (show _ + 1 ≤ 4294967296; omega) | (dsimp only; omega) | (show (_ : Int) ≤ (_ : Int); omega) | (show _ < List.length _; simp only [List.length_set, List.length_append, List.length_take]; omega) | (show wantB _ _ = true; simp; done) | (show wantB _ _ = true; simp; omega) | (show (_ : Bool) = _; simp_all; done) | (exfalso; omega) | refine aRegion_auto (by decide +kernel) ?_ | fail))
    refine ⟨_, _, REnt.ren [0, 3] rfl ?_ ?_, h2 hnx⟩
    · (repeat' (first | exact trivial | exact rfl | refine And.intro ?_ ?_))
      refine congrArg (fun l => some (AO.row SpT l)) (?_ : List.take L.length L ++ [x] = L ++ [x])
      rw [List.take_of_length_le (Nat.le_refl _)]
    · (repeat' (first | exact trivial | exact rfl | refine And.intro ?_ ?_))
/-- branches that come to the same state are joined there: what is to be shown of it, once -/
structure Bx (c : Prop) : Prop where
  out : c
theorem merge {c g : Prop} (f : Bx c → g) (h : c) : g := f ⟨h⟩
theorem wth_len (L : Pts) (x : Int × Int) : (Shp.wth L x).length ≤ L.length + 1 := by unfold Shp.wth; split <;> simp
theorem wif_len (b : Bool) (L : Pts) (x : Int × Int) : (Shp.wif b L x).length ≤ L.length + 1 := by
  unfold Shp.wif
  split
  · exact wth_len L x
  · omega
set_option maxHeartbeats 8000000 in
theorem common_any (G : List (Nat × Value)) (p q r s : Int × Int) (hp : plB p = true) (hq : plB q = true) (hr : plB r = true) (hs : plB s = true) (K : AV → List AO → Prop) (hK : K (.tup [.fz int (Shp.com p q r s).1, .agg [.fz int (Shp.com p q r s).2.1, .fz int (Shp.com p q r s).2.2]]) []) : ACall Tryd.prog G 25 [.fz SpT p, .fz SpT q, .fz SpT r, .fz SpT s] [] K := by
  refine acall_mk (E := envCut G 89 0 [6, 8, 10, 12, 14]) (envCutOk _ _ _ _) Tryd.func25 rfl rfl rfl rfl rfl ?_
  (repeat' (first | exact trivial | exact fun h => h | refine And.intro ?_ ?_ | (intro hb; first | (simp at hb; done) | (simp at hb) | skip) | omega | exact rfl | exact Nat.le_refl _ | (show _ + 1 ≤ 4294967296; omega) | (dsimp only; omega) | (show (_ : Int) ≤ (_ : Int); omega) | (show _ < List.length _; simp only [List.length_set, List.length_append, List.length_take]; omega) | (show wantB _ _ = true; simp; done) | (show wantB _ _ = true; simp; omega) | (show (_ : Bool) = _; simp_all; done) | (exfalso; omega) | refine aRegion_auto (by decide +kernel) ?_ | refine ⟨_, _, REnt.drop ⟨rfl, rfl⟩, ?_⟩ | fail))
  refine acall_conv [.dat SpT, .dat SpT, .dat SpT] _ _ _ rfl trivial (acall_frame0 rfl (onPiece_any _ p q r hp hq hr _ ?_))
  (repeat' (first | exact trivial | exact fun h => h | refine And.intro ?_ ?_ | (intro hb; first | (simp at hb; done) | (simp at hb) | skip) | omega | exact rfl | exact Nat.le_refl _ | (show _ + 1 ≤ 4294967296; omega) | (dsimp only; omega) | (show (_ : Int) ≤ (_ : Int); omega) | (show _ < List.length _; simp only [List.length_set, List.length_append, List.length_take]; omega) | (show wantB _ _ = true; simp; done) | (show wantB _ _ = true; simp; omega) | (show (_ : Bool) = _; simp_all; done) | (exfalso; omega) | refine aRegion_auto (by decide +kernel) ?_ | refine ⟨_, _, REnt.drop ⟨rfl, rfl⟩, ?_⟩ | fail))
  refine acall_conv [.dat SpT, .dat SpT, .dat SpT] _ _ _ rfl trivial (acall_frame0 rfl (onPiece_any _ p q s hp hq hs _ ?_))
  (repeat' (first | exact trivial | exact fun h => h | refine And.intro ?_ ?_ | (intro hb; first | (simp at hb; done) | (simp at hb) | skip) | omega | exact rfl | exact Nat.le_refl _ | (show _ + 1 ≤ 4294967296; omega) | (dsimp only; omega) | (show (_ : Int) ≤ (_ : Int); omega) | (show _ < List.length _; simp only [List.length_set, List.length_append, List.length_take]; omega) | (show wantB _ _ = true; simp; done) | (show wantB _ _ = true; simp; omega) | (show (_ : Bool) = _; simp_all; done) | (exfalso; omega) | refine aRegion_auto (by decide +kernel) ?_ | refine ⟨_, _, REnt.drop ⟨rfl, rfl⟩, ?_⟩ | fail))
  refine acall_conv [.dat SpT, .dat SpT, .dat SpT] _ _ _ rfl trivial (acall_frame0 rfl (onPiece_any _ r s p hr hs hp _ ?_))
  (repeat' (first | exact trivial | exact fun h => h | refine And.intro ?_ ?_ | (intro hb; first | (simp at hb; done) | (simp at hb) | skip) | omega | exact rfl | exact Nat.le_refl _ | (show _ + 1 ≤ 4294967296; omega) | (dsimp only; omega) | (show (_ : Int) ≤ (_ : Int); omega) | (show _ < List.length _; simp only [List.length_set, List.length_append, List.length_take]; omega) | (show wantB _ _ = true; simp; done) | (show wantB _ _ = true; simp; omega) | (show (_ : Bool) = _; simp_all; done) | (exfalso; omega) | refine aRegion_auto (by decide +kernel) ?_ | refine ⟨_, _, REnt.drop ⟨rfl, rfl⟩, ?_⟩ | fail))
  refine acall_conv [.dat SpT, .dat SpT, .dat SpT] _ _ _ rfl trivial (acall_frame0 rfl (onPiece_any _ r s q hr hs hq _ ?_))
  generalize eA : Shp.on p q r = fA at *
  generalize eB : Shp.on p q s = fB at *
  generalize eC : Shp.on r s p = fC at *
  generalize eD : Shp.on r s q = fD at *
  (repeat' (first | exact trivial | exact fun h => h | refine And.intro ?_ ?_ | (intro hb; first | (simp at hb; done) | (simp at hb) | skip) | omega | exact rfl | exact Nat.le_refl _ | (show _ + 1 ≤ 4294967296; omega) | (dsimp only; omega) | (show (_ : Int) ≤ (_ : Int); omega) | (show _ < List.length _; simp only [List.length_set, List.length_append, List.length_take]; omega) | (show wantB _ _ = true; simp; done) | (show wantB _ _ = true; simp; omega) | (show (_ : Bool) = _; simp_all; done) | (exfalso; omega) | refine aRegion_auto (by decide +kernel) ?_ | refine ⟨_, _, REnt.drop ⟨rfl, rfl⟩, ?_⟩ | fail))
  have l0 : ([] : Pts).length ≤ 0 := Nat.le_refl _
  refine ⟨[(4, .ptr 0 0), (5, .ptr 1 0), (6, .ptr 2 0), (7, .ptr 3 0), (9, .ptr 4 0), (10, .ref 5 0 ([] : Pts).length), (11, .fz .bool fA), (12, .fz .bool fB), (13, .fz .bool fC), (14, .fz .bool fD)], [.box [.fz int p.1, .fz int p.2], .box [.fz int q.1, .fz int q.2], .box [.fz int r.1, .fz int r.2], .box [.fz int s.1, .fz int s.2], .box [.fz int 0, .fz int 0], .row SpT []], (Ent.nil 10 SpT rfl).trans (Ent.sub rfl ?_), ?_⟩
  · (repeat' (first | exact trivial | exact rfl | refine And.intro ?_ ?_))
  obtain ⟨L1, hL1⟩ : ∃ L1, L1 = Shp.wif fA ([] : Pts) r := ⟨_, rfl⟩
  have l1 : L1.length ≤ 1 := by rw [hL1]; have := wif_len fA ([] : Pts) r; omega
  apply merge
  · intro hc
    cases fA with
    | true =>
      (repeat' (first | exact trivial | exact fun h => h | refine And.intro ?_ ?_ | (intro hb; first | (simp at hb; done) | (simp at hb) | skip) | omega | exact rfl | exact Nat.le_refl _ | (show _ + 1 ≤ 4294967296; omega) | (dsimp only; omega) | (show (_ : Int) ≤ (_ : Int); omega) | (show _ < List.length _; simp only [List.length_set, List.length_append, List.length_take]; omega) | (show wantB _ _ = true; simp; done) | (show wantB _ _ = true; simp; omega) | (show (_ : Bool) = _; simp_all; done) | (exfalso; omega) | refine aRegion_auto (by decide +kernel) ?_ | refine ⟨_, _, REnt.drop ⟨rfl, rfl⟩, ?_⟩ | fail))
      refine acall_conv [.keep, .dat SpT] _ _ _ rfl trivial (acall_frame [5] [.row SpT ([] : Pts)] [.ref 0 0 ([] : Pts).length, .fz SpT r] rfl ⟨⟨rfl, trivial⟩, trivial⟩ ⟨rfl, rfl⟩ rfl (with_any _ ([] : Pts) (by omega) r _ (fun hin => ?_) (fun hin => ?_)))
      · have e : L1 = ([] : Pts) := by rw [hL1]; unfold Shp.wif Shp.wth; rw [if_pos rfl, if_pos hin]
        (repeat' (first | exact trivial | exact fun h => h | refine And.intro ?_ ?_ | (intro hb; first | (simp at hb; done) | (simp at hb) | skip) | omega | exact rfl | exact Nat.le_refl _ | (show _ + 1 ≤ 4294967296; omega) | (dsimp only; omega) | (show (_ : Int) ≤ (_ : Int); omega) | (show _ < List.length _; simp only [List.length_set, List.length_append, List.length_take]; omega) | (show wantB _ _ = true; simp; done) | (show wantB _ _ = true; simp; omega) | (show (_ : Bool) = _; simp_all; done) | (exfalso; omega) | refine aRegion_auto (by decide +kernel) ?_ | refine ⟨_, _, REnt.drop ⟨rfl, rfl⟩, ?_⟩ | fail))
        refine ⟨[(4, .ptr 0 0), (5, .ptr 1 0), (6, .ptr 2 0), (7, .ptr 3 0), (9, .ptr 4 0), (10, .ref 5 0 L1.length), (12, .fz .bool fB), (13, .fz .bool fC), (14, .fz .bool fD)], [.box [.fz int p.1, .fz int p.2], .box [.fz int q.1, .fz int q.2], .box [.fz int r.1, .fz int r.2], .box [.fz int s.1, .fz int s.2], .box [.fz int 0, .fz int 0], .row SpT L1], Ent.sub ?_ ?_, hc.out⟩
        · rw [e]
        · rw [e]; (repeat' (first | exact trivial | exact rfl | refine And.intro ?_ ?_))
      · have e : L1 = ([] : Pts) ++ [r] := by rw [hL1]; unfold Shp.wif Shp.wth; rw [if_pos rfl, if_neg hin]
        have e2 : L1.length = ([] : Pts).length + 1 := by rw [e]; simp
        (repeat' (first | exact trivial | exact fun h => h | refine And.intro ?_ ?_ | (intro hb; first | (simp at hb; done) | (simp at hb) | skip) | omega | exact rfl | exact Nat.le_refl _ | (show _ + 1 ≤ 4294967296; omega) | (dsimp only; omega) | (show (_ : Int) ≤ (_ : Int); omega) | (show _ < List.length _; simp only [List.length_set, List.length_append, List.length_take]; omega) | (show wantB _ _ = true; simp; done) | (show wantB _ _ = true; simp; omega) | (show (_ : Bool) = _; simp_all; done) | (exfalso; omega) | refine aRegion_auto (by decide +kernel) ?_ | refine ⟨_, _, REnt.drop ⟨rfl, rfl⟩, ?_⟩ | fail))
        refine ⟨[(4, .ptr 0 0), (5, .ptr 1 0), (6, .ptr 2 0), (7, .ptr 3 0), (9, .ptr 4 0), (10, .ref 5 0 L1.length), (12, .fz .bool fB), (13, .fz .bool fC), (14, .fz .bool fD)], [.box [.fz int p.1, .fz int p.2], .box [.fz int q.1, .fz int q.2], .box [.fz int r.1, .fz int r.2], .box [.fz int s.1, .fz int s.2], .box [.fz int 0, .fz int 0], .row SpT L1], Ent.ren [0, 1, 2, 3, 4, 6] rfl ?_ ?_, hc.out⟩
        · rw [e]; (repeat' (first | exact trivial | exact rfl | refine And.intro ?_ ?_))
        · rw [e2]; (repeat' (first | exact trivial | exact rfl | refine And.intro ?_ ?_))
    | false =>
      have e : L1 = ([] : Pts) := by rw [hL1]; unfold Shp.wif; rw [if_neg (by simp)]
      (repeat' (first | exact trivial | exact fun h => h | refine And.intro ?_ ?_ | (intro hb; first | (simp at hb; done) | (simp at hb) | skip) | omega | exact rfl | exact Nat.le_refl _ | (show _ + 1 ≤ 4294967296; omega) | (dsimp only; omega) | (show (_ : Int) ≤ (_ : Int); omega) | (show _ < List.length _; simp only [List.length_set, List.length_append, List.length_take]; omega) | (show wantB _ _ = true; simp; done) | (show wantB _ _ = true; simp; omega) | (show (_ : Bool) = _; simp_all; done) | (exfalso; omega) | refine aRegion_auto (by decide +kernel) ?_ | refine ⟨_, _, REnt.drop ⟨rfl, rfl⟩, ?_⟩ | fail))
      refine ⟨[(4, .ptr 0 0), (5, .ptr 1 0), (6, .ptr 2 0), (7, .ptr 3 0), (9, .ptr 4 0), (10, .ref 5 0 L1.length), (12, .fz .bool fB), (13, .fz .bool fC), (14, .fz .bool fD)], [.box [.fz int p.1, .fz int p.2], .box [.fz int q.1, .fz int q.2], .box [.fz int r.1, .fz int r.2], .box [.fz int s.1, .fz int s.2], .box [.fz int 0, .fz int 0], .row SpT L1], Ent.sub ?_ ?_, hc.out⟩
      · rw [e]
      · rw [e]; (repeat' (first | exact trivial | exact rfl | refine And.intro ?_ ?_))
  obtain ⟨L2, hL2⟩ : ∃ L2, L2 = Shp.wif fB L1 s := ⟨_, rfl⟩
  have l2 : L2.length ≤ 2 := by rw [hL2]; have := wif_len fB L1 s; omega
  apply merge
  · intro hc
    cases fB with
    | true =>
      (repeat' (first | exact trivial | exact fun h => h | refine And.intro ?_ ?_ | (intro hb; first | (simp at hb; done) | (simp at hb) | skip) | omega | exact rfl | exact Nat.le_refl _ | (show _ + 1 ≤ 4294967296; omega) | (dsimp only; omega) | (show (_ : Int) ≤ (_ : Int); omega) | (show _ < List.length _; simp only [List.length_set, List.length_append, List.length_take]; omega) | (show wantB _ _ = true; simp; done) | (show wantB _ _ = true; simp; omega) | (show (_ : Bool) = _; simp_all; done) | (exfalso; omega) | refine aRegion_auto (by decide +kernel) ?_ | refine ⟨_, _, REnt.drop ⟨rfl, rfl⟩, ?_⟩ | fail))
      refine acall_conv [.keep, .dat SpT] _ _ _ rfl trivial (acall_frame [5] [.row SpT L1] [.ref 0 0 L1.length, .fz SpT s] rfl ⟨⟨rfl, trivial⟩, trivial⟩ ⟨rfl, rfl⟩ rfl (with_any _ L1 (by omega) s _ (fun hin => ?_) (fun hin => ?_)))
      · have e : L2 = L1 := by rw [hL2]; unfold Shp.wif Shp.wth; rw [if_pos rfl, if_pos hin]
        (repeat' (first | exact trivial | exact fun h => h | refine And.intro ?_ ?_ | (intro hb; first | (simp at hb; done) | (simp at hb) | skip) | omega | exact rfl | exact Nat.le_refl _ | (show _ + 1 ≤ 4294967296; omega) | (dsimp only; omega) | (show (_ : Int) ≤ (_ : Int); omega) | (show _ < List.length _; simp only [List.length_set, List.length_append, List.length_take]; omega) | (show wantB _ _ = true; simp; done) | (show wantB _ _ = true; simp; omega) | (show (_ : Bool) = _; simp_all; done) | (exfalso; omega) | refine aRegion_auto (by decide +kernel) ?_ | refine ⟨_, _, REnt.drop ⟨rfl, rfl⟩, ?_⟩ | fail))
        refine ⟨[(4, .ptr 0 0), (5, .ptr 1 0), (6, .ptr 2 0), (7, .ptr 3 0), (9, .ptr 4 0), (10, .ref 5 0 L2.length), (13, .fz .bool fC), (14, .fz .bool fD)], [.box [.fz int p.1, .fz int p.2], .box [.fz int q.1, .fz int q.2], .box [.fz int r.1, .fz int r.2], .box [.fz int s.1, .fz int s.2], .box [.fz int 0, .fz int 0], .row SpT L2], Ent.sub ?_ ?_, hc.out⟩
        · rw [e]
        · rw [e]; (repeat' (first | exact trivial | exact rfl | refine And.intro ?_ ?_))
      · have e : L2 = L1 ++ [s] := by rw [hL2]; unfold Shp.wif Shp.wth; rw [if_pos rfl, if_neg hin]
        have e2 : L2.length = L1.length + 1 := by rw [e]; simp
        (repeat' (first | exact trivial | exact fun h => h | refine And.intro ?_ ?_ | (intro hb; first | (simp at hb; done) | (simp at hb) | skip) | omega | exact rfl | exact Nat.le_refl _ | (show _ + 1 ≤ 4294967296; omega) | (dsimp only; omega) | (show (_ : Int) ≤ (_ : Int); omega) | (show _ < List.length _; simp only [List.length_set, List.length_append, List.length_take]; omega) | (show wantB _ _ = true; simp; done) | (show wantB _ _ = true; simp; omega) | (show (_ : Bool) = _; simp_all; done) | (exfalso; omega) | refine aRegion_auto (by decide +kernel) ?_ | refine ⟨_, _, REnt.drop ⟨rfl, rfl⟩, ?_⟩ | fail))
        refine ⟨[(4, .ptr 0 0), (5, .ptr 1 0), (6, .ptr 2 0), (7, .ptr 3 0), (9, .ptr 4 0), (10, .ref 5 0 L2.length), (13, .fz .bool fC), (14, .fz .bool fD)], [.box [.fz int p.1, .fz int p.2], .box [.fz int q.1, .fz int q.2], .box [.fz int r.1, .fz int r.2], .box [.fz int s.1, .fz int s.2], .box [.fz int 0, .fz int 0], .row SpT L2], Ent.ren [0, 1, 2, 3, 4, 6] rfl ?_ ?_, hc.out⟩
        · rw [e]; (repeat' (first | exact trivial | exact rfl | refine And.intro ?_ ?_))
        · rw [e2]; (repeat' (first | exact trivial | exact rfl | refine And.intro ?_ ?_))
    | false =>
      have e : L2 = L1 := by rw [hL2]; unfold Shp.wif; rw [if_neg (by simp)]
      (repeat' (first | exact trivial | exact fun h => h | refine And.intro ?_ ?_ | (intro hb; first | (simp at hb; done) | (simp at hb) | skip) | omega | exact rfl | exact Nat.le_refl _ | (show _ + 1 ≤ 4294967296; omega) | (dsimp only; omega) | (show (_ : Int) ≤ (_ : Int); omega) | (show _ < List.length _; simp only [List.length_set, List.length_append, List.length_take]; omega) | (show wantB _ _ = true; simp; done) | (show wantB _ _ = true; simp; omega) | (show (_ : Bool) = _; simp_all; done) | (exfalso; omega) | refine aRegion_auto (by decide +kernel) ?_ | refine ⟨_, _, REnt.drop ⟨rfl, rfl⟩, ?_⟩ | fail))
      refine ⟨[(4, .ptr 0 0), (5, .ptr 1 0), (6, .ptr 2 0), (7, .ptr 3 0), (9, .ptr 4 0), (10, .ref 5 0 L2.length), (13, .fz .bool fC), (14, .fz .bool fD)], [.box [.fz int p.1, .fz int p.2], .box [.fz int q.1, .fz int q.2], .box [.fz int r.1, .fz int r.2], .box [.fz int s.1, .fz int s.2], .box [.fz int 0, .fz int 0], .row SpT L2], Ent.sub ?_ ?_, hc.out⟩
      · rw [e]
      · rw [e]; (repeat' (first | exact trivial | exact rfl | refine And.intro ?_ ?_))
  obtain ⟨L3, hL3⟩ : ∃ L3, L3 = Shp.wif fC L2 p := ⟨_, rfl⟩
  have l3 : L3.length ≤ 3 := by rw [hL3]; have := wif_len fC L2 p; omega
  apply merge
  · intro hc
    cases fC with
    | true =>
      (repeat' (first | exact trivial | exact fun h => h | refine And.intro ?_ ?_ | (intro hb; first | (simp at hb; done) | (simp at hb) | skip) | omega | exact rfl | exact Nat.le_refl _ | (show _ + 1 ≤ 4294967296; omega) | (dsimp only; omega) | (show (_ : Int) ≤ (_ : Int); omega) | (show _ < List.length _; simp only [List.length_set, List.length_append, List.length_take]; omega) | (show wantB _ _ = true; simp; done) | (show wantB _ _ = true; simp; omega) | (show (_ : Bool) = _; simp_all; done) | (exfalso; omega) | refine aRegion_auto (by decide +kernel) ?_ | refine ⟨_, _, REnt.drop ⟨rfl, rfl⟩, ?_⟩ | fail))
      refine acall_conv [.keep, .dat SpT] _ _ _ rfl trivial (acall_frame [5] [.row SpT L2] [.ref 0 0 L2.length, .fz SpT p] rfl ⟨⟨rfl, trivial⟩, trivial⟩ ⟨rfl, rfl⟩ rfl (with_any _ L2 (by omega) p _ (fun hin => ?_) (fun hin => ?_)))
      · have e : L3 = L2 := by rw [hL3]; unfold Shp.wif Shp.wth; rw [if_pos rfl, if_pos hin]
        (repeat' (first | exact trivial | exact fun h => h | refine And.intro ?_ ?_ | (intro hb; first | (simp at hb; done) | (simp at hb) | skip) | omega | exact rfl | exact Nat.le_refl _ | (show _ + 1 ≤ 4294967296; omega) | (dsimp only; omega) | (show (_ : Int) ≤ (_ : Int); omega) | (show _ < List.length _; simp only [List.length_set, List.length_append, List.length_take]; omega) | (show wantB _ _ = true; simp; done) | (show wantB _ _ = true; simp; omega) | (show (_ : Bool) = _; simp_all; done) | (exfalso; omega) | refine aRegion_auto (by decide +kernel) ?_ | refine ⟨_, _, REnt.drop ⟨rfl, rfl⟩, ?_⟩ | fail))
        refine ⟨[(4, .ptr 0 0), (5, .ptr 1 0), (6, .ptr 2 0), (7, .ptr 3 0), (9, .ptr 4 0), (10, .ref 5 0 L3.length), (14, .fz .bool fD)], [.box [.fz int p.1, .fz int p.2], .box [.fz int q.1, .fz int q.2], .box [.fz int r.1, .fz int r.2], .box [.fz int s.1, .fz int s.2], .box [.fz int 0, .fz int 0], .row SpT L3], Ent.sub ?_ ?_, hc.out⟩
        · rw [e]
        · rw [e]; (repeat' (first | exact trivial | exact rfl | refine And.intro ?_ ?_))
      · have e : L3 = L2 ++ [p] := by rw [hL3]; unfold Shp.wif Shp.wth; rw [if_pos rfl, if_neg hin]
        have e2 : L3.length = L2.length + 1 := by rw [e]; simp
        (repeat' (first | exact trivial | exact fun h => h | refine And.intro ?_ ?_ | (intro hb; first | (simp at hb; done) | (simp at hb) | skip) | omega | exact rfl | exact Nat.le_refl _ | (show _ + 1 ≤ 4294967296; omega) | (dsimp only; omega) | (show (_ : Int) ≤ (_ : Int); omega) | (show _ < List.length _; simp only [List.length_set, List.length_append, List.length_take]; omega) | (show wantB _ _ = true; simp; done) | (show wantB _ _ = true; simp; omega) | (show (_ : Bool) = _; simp_all; done) | (exfalso; omega) | refine aRegion_auto (by decide +kernel) ?_ | refine ⟨_, _, REnt.drop ⟨rfl, rfl⟩, ?_⟩ | fail))
        refine ⟨[(4, .ptr 0 0), (5, .ptr 1 0), (6, .ptr 2 0), (7, .ptr 3 0), (9, .ptr 4 0), (10, .ref 5 0 L3.length), (14, .fz .bool fD)], [.box [.fz int p.1, .fz int p.2], .box [.fz int q.1, .fz int q.2], .box [.fz int r.1, .fz int r.2], .box [.fz int s.1, .fz int s.2], .box [.fz int 0, .fz int 0], .row SpT L3], Ent.ren [0, 1, 2, 3, 4, 6] rfl ?_ ?_, hc.out⟩
        · rw [e]; (repeat' (first | exact trivial | exact rfl | refine And.intro ?_ ?_))
        · rw [e2]; (repeat' (first | exact trivial | exact rfl | refine And.intro ?_ ?_))
    | false =>
      have e : L3 = L2 := by rw [hL3]; unfold Shp.wif; rw [if_neg (by simp)]
      (repeat' (first | exact trivial | exact fun h => h | refine And.intro ?_ ?_ | (intro hb; first | (simp at hb; done) | (simp at hb) | skip) | omega | exact rfl | exact Nat.le_refl _ | (show _ + 1 ≤ 4294967296; omega) | (dsimp only; omega) | (show (_ : Int) ≤ (_ : Int); omega) | (show _ < List.length _; simp only [List.length_set, List.length_append, List.length_take]; omega) | (show wantB _ _ = true; simp; done) | (show wantB _ _ = true; simp; omega) | (show (_ : Bool) = _; simp_all; done) | (exfalso; omega) | refine aRegion_auto (by decide +kernel) ?_ | refine ⟨_, _, REnt.drop ⟨rfl, rfl⟩, ?_⟩ | fail))
      refine ⟨[(4, .ptr 0 0), (5, .ptr 1 0), (6, .ptr 2 0), (7, .ptr 3 0), (9, .ptr 4 0), (10, .ref 5 0 L3.length), (14, .fz .bool fD)], [.box [.fz int p.1, .fz int p.2], .box [.fz int q.1, .fz int q.2], .box [.fz int r.1, .fz int r.2], .box [.fz int s.1, .fz int s.2], .box [.fz int 0, .fz int 0], .row SpT L3], Ent.sub ?_ ?_, hc.out⟩
      · rw [e]
      · rw [e]; (repeat' (first | exact trivial | exact rfl | refine And.intro ?_ ?_))
  obtain ⟨L4, hL4⟩ : ∃ L4, L4 = Shp.wif fD L3 q := ⟨_, rfl⟩
  have l4 : L4.length ≤ 4 := by rw [hL4]; have := wif_len fD L3 q; omega
  apply merge
  · intro hc
    cases fD with
    | true =>
      (repeat' (first | exact trivial | exact fun h => h | refine And.intro ?_ ?_ | (intro hb; first | (simp at hb; done) | (simp at hb) | skip) | omega | exact rfl | exact Nat.le_refl _ | (show _ + 1 ≤ 4294967296; omega) | (dsimp only; omega) | (show (_ : Int) ≤ (_ : Int); omega) | (show _ < List.length _; simp only [List.length_set, List.length_append, List.length_take]; omega) | (show wantB _ _ = true; simp; done) | (show wantB _ _ = true; simp; omega) | (show (_ : Bool) = _; simp_all; done) | (exfalso; omega) | refine aRegion_auto (by decide +kernel) ?_ | refine ⟨_, _, REnt.drop ⟨rfl, rfl⟩, ?_⟩ | fail))
      refine acall_conv [.keep, .dat SpT] _ _ _ rfl trivial (acall_frame [5] [.row SpT L3] [.ref 0 0 L3.length, .fz SpT q] rfl ⟨⟨rfl, trivial⟩, trivial⟩ ⟨rfl, rfl⟩ rfl (with_any _ L3 (by omega) q _ (fun hin => ?_) (fun hin => ?_)))
      · have e : L4 = L3 := by rw [hL4]; unfold Shp.wif Shp.wth; rw [if_pos rfl, if_pos hin]
        (repeat' (first | exact trivial | exact fun h => h | refine And.intro ?_ ?_ | (intro hb; first | (simp at hb; done) | (simp at hb) | skip) | omega | exact rfl | exact Nat.le_refl _ | (show _ + 1 ≤ 4294967296; omega) | (dsimp only; omega) | (show (_ : Int) ≤ (_ : Int); omega) | (show _ < List.length _; simp only [List.length_set, List.length_append, List.length_take]; omega) | (show wantB _ _ = true; simp; done) | (show wantB _ _ = true; simp; omega) | (show (_ : Bool) = _; simp_all; done) | (exfalso; omega) | refine aRegion_auto (by decide +kernel) ?_ | refine ⟨_, _, REnt.drop ⟨rfl, rfl⟩, ?_⟩ | fail))
        refine ⟨[(4, .ptr 0 0), (5, .ptr 1 0), (6, .ptr 2 0), (7, .ptr 3 0), (9, .ptr 4 0), (10, .ref 5 0 L4.length)], [.box [.fz int p.1, .fz int p.2], .box [.fz int q.1, .fz int q.2], .box [.fz int r.1, .fz int r.2], .box [.fz int s.1, .fz int s.2], .box [.fz int 0, .fz int 0], .row SpT L4], Ent.sub ?_ ?_, hc.out⟩
        · rw [e]
        · rw [e]; (repeat' (first | exact trivial | exact rfl | refine And.intro ?_ ?_))
      · have e : L4 = L3 ++ [q] := by rw [hL4]; unfold Shp.wif Shp.wth; rw [if_pos rfl, if_neg hin]
        have e2 : L4.length = L3.length + 1 := by rw [e]; simp
        (repeat' (first | exact trivial | exact fun h => h | refine And.intro ?_ ?_ | (intro hb; first | (simp at hb; done) | (simp at hb) | skip) | omega | exact rfl | exact Nat.le_refl _ | (show _ + 1 ≤ 4294967296; omega) | (dsimp only; omega) | (show (_ : Int) ≤ (_ : Int); omega) | (show _ < List.length _; simp only [List.length_set, List.length_append, List.length_take]; omega) | (show wantB _ _ = true; simp; done) | (show wantB _ _ = true; simp; omega) | (show (_ : Bool) = _; simp_all; done) | (exfalso; omega) | refine aRegion_auto (by decide +kernel) ?_ | refine ⟨_, _, REnt.drop ⟨rfl, rfl⟩, ?_⟩ | fail))
        refine ⟨[(4, .ptr 0 0), (5, .ptr 1 0), (6, .ptr 2 0), (7, .ptr 3 0), (9, .ptr 4 0), (10, .ref 5 0 L4.length)], [.box [.fz int p.1, .fz int p.2], .box [.fz int q.1, .fz int q.2], .box [.fz int r.1, .fz int r.2], .box [.fz int s.1, .fz int s.2], .box [.fz int 0, .fz int 0], .row SpT L4], Ent.ren [0, 1, 2, 3, 4, 6] rfl ?_ ?_, hc.out⟩
        · rw [e]; (repeat' (first | exact trivial | exact rfl | refine And.intro ?_ ?_))
        · rw [e2]; (repeat' (first | exact trivial | exact rfl | refine And.intro ?_ ?_))
    | false =>
      have e : L4 = L3 := by rw [hL4]; unfold Shp.wif; rw [if_neg (by simp)]
      (repeat' (first | exact trivial | exact fun h => h | refine And.intro ?_ ?_ | (intro hb; first | (simp at hb; done) | (simp at hb) | skip) | omega | exact rfl | exact Nat.le_refl _ | (show _ + 1 ≤ 4294967296; omega) | (dsimp only; omega) | (show (_ : Int) ≤ (_ : Int); omega) | (show _ < List.length _; simp only [List.length_set, List.length_append, List.length_take]; omega) | (show wantB _ _ = true; simp; done) | (show wantB _ _ = true; simp; omega) | (show (_ : Bool) = _; simp_all; done) | (exfalso; omega) | refine aRegion_auto (by decide +kernel) ?_ | refine ⟨_, _, REnt.drop ⟨rfl, rfl⟩, ?_⟩ | fail))
      refine ⟨[(4, .ptr 0 0), (5, .ptr 1 0), (6, .ptr 2 0), (7, .ptr 3 0), (9, .ptr 4 0), (10, .ref 5 0 L4.length)], [.box [.fz int p.1, .fz int p.2], .box [.fz int q.1, .fz int q.2], .box [.fz int r.1, .fz int r.2], .box [.fz int s.1, .fz int s.2], .box [.fz int 0, .fz int 0], .row SpT L4], Ent.sub ?_ ?_, hc.out⟩
      · rw [e]
      · rw [e]; (repeat' (first | exact trivial | exact rfl | refine And.intro ?_ ?_))
  have eL : L4 = Shp.coml p q r s := by unfold Shp.coml; rw [eA, eB, eC, eD, hL4, hL3, hL2, hL1]
  clear hL1 hL2 hL3 hL4
  have z1 := sg_bd (Shp.side p q r)
  have z2 := sg_bd (Shp.side p q s)
  have z3 := sg_bd (Shp.side r s p)
  have z4 := sg_bd (Shp.side r s q)
  have m1 := sg_mul z1 z2
  have m2 := sg_mul z3 z4
  unfold Shp.com at hK
  rw [← eL] at hK
  by_cases c1 : 1 < L4.length
  · rw [if_pos c1] at hK
    (repeat' (first | exact trivial | exact fun h => h | refine And.intro ?_ ?_ | (intro hb; first | (simp at hb; done) | (simp at hb) | skip) | omega | exact rfl | exact Nat.le_refl _ | (show _ + 1 ≤ 4294967296; omega) | (dsimp only; omega) | (show (_ : Int) ≤ (_ : Int); omega) | (show _ < List.length _; simp only [List.length_set, List.length_append, List.length_take]; omega) | (show wantB _ _ = true; simp; done) | (show wantB _ _ = true; simp; omega) | (show (_ : Bool) = _; simp_all; done) | (exfalso; omega) | refine aRegion_auto (by decide +kernel) ?_ | refine ⟨_, _, REnt.drop ⟨rfl, rfl⟩, ?_⟩ | fail))
    exact hK
  · rw [if_neg c1] at hK
    by_cases c2 : L4.length = 1
    · rw [if_pos c2] at hK
      (repeat' (first | exact trivial | exact fun h => h | refine And.intro ?_ ?_ | (intro hb; first | (simp at hb; done) | (simp at hb) | skip) | omega | exact rfl | exact Nat.le_refl _ | (show _ + 1 ≤ 4294967296; omega) | (dsimp only; omega) | (show (_ : Int) ≤ (_ : Int); omega) | (show _ < List.length _; simp only [List.length_set, List.length_append, List.length_take]; omega) | (show wantB _ _ = true; simp; done) | (show wantB _ _ = true; simp; omega) | (show (_ : Bool) = _; simp_all; done) | (exfalso; omega) | refine aRegion_auto (by decide +kernel) ?_ | refine ⟨_, _, REnt.drop ⟨rfl, rfl⟩, ?_⟩ | fail))
      (apply exEff; focus (repeat' (first | exact ⟨rfl, rfl⟩ | exact trivial | refine And.intro ?_ ?_ | omega | exact Nat.le_refl _ | (show _ + 1 ≤ 4294967296; omega))))
      (repeat' (first | exact trivial | exact fun h => h | refine And.intro ?_ ?_ | (intro hb; first | (simp at hb; done) | (simp at hb) | skip) | omega | exact rfl | exact Nat.le_refl _ | (show _ + 1 ≤ 4294967296; omega) | (dsimp only; omega) | (show (_ : Int) ≤ (_ : Int); omega) | (show _ < List.length _; simp only [List.length_set, List.length_append, List.length_take]; omega) | (show wantB _ _ = true; simp; done) | (show wantB _ _ = true; simp; omega) | (show (_ : Bool) = _; simp_all; done) | (exfalso; omega) | refine aRegion_auto (by decide +kernel) ?_ | refine ⟨_, _, REnt.drop ⟨rfl, rfl⟩, ?_⟩ | fail))
      exact hK
    · rw [if_neg c2] at hK
      (repeat' (first | exact trivial | exact fun h => h | refine And.intro ?_ ?_ | (intro hb; first | (simp at hb; done) | (simp at hb) | skip) | omega | exact rfl | exact Nat.le_refl _ | (show _ + 1 ≤ 4294967296; omega) | (dsimp only; omega) | (show (_ : Int) ≤ (_ : Int); omega) | (show _ < List.length _; simp only [List.length_set, List.length_append, List.length_take]; omega) | (show wantB _ _ = true; simp; done) | (show wantB _ _ = true; simp; omega) | (show (_ : Bool) = _; simp_all; done) | (exfalso; omega) | refine aRegion_auto (by decide +kernel) ?_ | refine ⟨_, _, REnt.drop ⟨rfl, rfl⟩, ?_⟩ | fail))
      apply exEff
      · refine acall_conv [.dat SpT, .dat SpT, .dat SpT] _ _ _ rfl trivial (acall_frame0 rfl (turn_any _ p q r hp hq hr _ ?_))
        exact ⟨rfl, rfl⟩
      (repeat' (first | exact trivial | exact fun h => h | refine And.intro ?_ ?_ | (intro hb; first | (simp at hb; done) | (simp at hb) | skip) | omega | exact rfl | exact Nat.le_refl _ | (show _ + 1 ≤ 4294967296; omega) | (dsimp only; omega) | (show (_ : Int) ≤ (_ : Int); omega) | (show _ < List.length _; simp only [List.length_set, List.length_append, List.length_take]; omega) | (show wantB _ _ = true; simp; done) | (show wantB _ _ = true; simp; omega) | (show (_ : Bool) = _; simp_all; done) | (exfalso; omega) | refine aRegion_auto (by decide +kernel) ?_ | refine ⟨_, _, REnt.drop ⟨rfl, rfl⟩, ?_⟩ | fail))
      apply exEff
      · refine acall_frame0 rfl (signOf_any _ (Shp.side p q r) _ ?_)
        exact ⟨rfl, rfl⟩
      (repeat' (first | exact trivial | exact fun h => h | refine And.intro ?_ ?_ | (intro hb; first | (simp at hb; done) | (simp at hb) | skip) | omega | exact rfl | exact Nat.le_refl _ | (show _ + 1 ≤ 4294967296; omega) | (dsimp only; omega) | (show (_ : Int) ≤ (_ : Int); omega) | (show _ < List.length _; simp only [List.length_set, List.length_append, List.length_take]; omega) | (show wantB _ _ = true; simp; done) | (show wantB _ _ = true; simp; omega) | (show (_ : Bool) = _; simp_all; done) | (exfalso; omega) | refine aRegion_auto (by decide +kernel) ?_ | refine ⟨_, _, REnt.drop ⟨rfl, rfl⟩, ?_⟩ | fail))
      apply exEff
      · refine acall_conv [.dat SpT, .dat SpT, .dat SpT] _ _ _ rfl trivial (acall_frame0 rfl (turn_any _ p q s hp hq hs _ ?_))
        exact ⟨rfl, rfl⟩
      (repeat' (first | exact trivial | exact fun h => h | refine And.intro ?_ ?_ | (intro hb; first | (simp at hb; done) | (simp at hb) | skip) | omega | exact rfl | exact Nat.le_refl _ | (show _ + 1 ≤ 4294967296; omega) | (dsimp only; omega) | (show (_ : Int) ≤ (_ : Int); omega) | (show _ < List.length _; simp only [List.length_set, List.length_append, List.length_take]; omega) | (show wantB _ _ = true; simp; done) | (show wantB _ _ = true; simp; omega) | (show (_ : Bool) = _; simp_all; done) | (exfalso; omega) | refine aRegion_auto (by decide +kernel) ?_ | refine ⟨_, _, REnt.drop ⟨rfl, rfl⟩, ?_⟩ | fail))
      apply exEff
      · refine acall_frame0 rfl (signOf_any _ (Shp.side p q s) _ ?_)
        exact ⟨rfl, rfl⟩
      (repeat' (first | exact trivial | exact fun h => h | refine And.intro ?_ ?_ | (intro hb; first | (simp at hb; done) | (simp at hb) | skip) | omega | exact rfl | exact Nat.le_refl _ | (show _ + 1 ≤ 4294967296; omega) | (dsimp only; omega) | (show (_ : Int) ≤ (_ : Int); omega) | (show _ < List.length _; simp only [List.length_set, List.length_append, List.length_take]; omega) | (show wantB _ _ = true; simp; done) | (show wantB _ _ = true; simp; omega) | (show (_ : Bool) = _; simp_all; done) | (exfalso; omega) | refine aRegion_auto (by decide +kernel) ?_ | refine ⟨_, _, REnt.drop ⟨rfl, rfl⟩, ?_⟩ | fail))
      apply exEff
      · refine acall_conv [.dat SpT, .dat SpT, .dat SpT] _ _ _ rfl trivial (acall_frame0 rfl (turn_any _ r s p hr hs hp _ ?_))
        exact ⟨rfl, rfl⟩
      (repeat' (first | exact trivial | exact fun h => h | refine And.intro ?_ ?_ | (intro hb; first | (simp at hb; done) | (simp at hb) | skip) | omega | exact rfl | exact Nat.le_refl _ | (show _ + 1 ≤ 4294967296; omega) | (dsimp only; omega) | (show (_ : Int) ≤ (_ : Int); omega) | (show _ < List.length _; simp only [List.length_set, List.length_append, List.length_take]; omega) | (show wantB _ _ = true; simp; done) | (show wantB _ _ = true; simp; omega) | (show (_ : Bool) = _; simp_all; done) | (exfalso; omega) | refine aRegion_auto (by decide +kernel) ?_ | refine ⟨_, _, REnt.drop ⟨rfl, rfl⟩, ?_⟩ | fail))
      apply exEff
      · refine acall_frame0 rfl (signOf_any _ (Shp.side r s p) _ ?_)
        exact ⟨rfl, rfl⟩
      (repeat' (first | exact trivial | exact fun h => h | refine And.intro ?_ ?_ | (intro hb; first | (simp at hb; done) | (simp at hb) | skip) | omega | exact rfl | exact Nat.le_refl _ | (show _ + 1 ≤ 4294967296; omega) | (dsimp only; omega) | (show (_ : Int) ≤ (_ : Int); omega) | (show _ < List.length _; simp only [List.length_set, List.length_append, List.length_take]; omega) | (show wantB _ _ = true; simp; done) | (show wantB _ _ = true; simp; omega) | (show (_ : Bool) = _; simp_all; done) | (exfalso; omega) | refine aRegion_auto (by decide +kernel) ?_ | refine ⟨_, _, REnt.drop ⟨rfl, rfl⟩, ?_⟩ | fail))
      apply exEff
      · refine acall_conv [.dat SpT, .dat SpT, .dat SpT] _ _ _ rfl trivial (acall_frame0 rfl (turn_any _ r s q hr hs hq _ ?_))
        exact ⟨rfl, rfl⟩
      (repeat' (first | exact trivial | exact fun h => h | refine And.intro ?_ ?_ | (intro hb; first | (simp at hb; done) | (simp at hb) | skip) | omega | exact rfl | exact Nat.le_refl _ | (show _ + 1 ≤ 4294967296; omega) | (dsimp only; omega) | (show (_ : Int) ≤ (_ : Int); omega) | (show _ < List.length _; simp only [List.length_set, List.length_append, List.length_take]; omega) | (show wantB _ _ = true; simp; done) | (show wantB _ _ = true; simp; omega) | (show (_ : Bool) = _; simp_all; done) | (exfalso; omega) | refine aRegion_auto (by decide +kernel) ?_ | refine ⟨_, _, REnt.drop ⟨rfl, rfl⟩, ?_⟩ | fail))
      apply exEff
      · refine acall_frame0 rfl (signOf_any _ (Shp.side r s q) _ ?_)
        exact ⟨rfl, rfl⟩
      (repeat' (first | exact trivial | exact fun h => h | refine And.intro ?_ ?_ | (intro hb; first | (simp at hb; done) | (simp at hb) | skip) | omega | exact rfl | exact Nat.le_refl _ | (show _ + 1 ≤ 4294967296; omega) | (dsimp only; omega) | (show (_ : Int) ≤ (_ : Int); omega) | (show _ < List.length _; simp only [List.length_set, List.length_append, List.length_take]; omega) | (show wantB _ _ = true; simp; done) | (show wantB _ _ = true; simp; omega) | (show (_ : Bool) = _; simp_all; done) | (exfalso; omega) | refine aRegion_auto (by decide +kernel) ?_ | refine ⟨_, _, REnt.drop ⟨rfl, rfl⟩, ?_⟩ | fail))
      · have hc : Shp.crs p q r s = true := by unfold Shp.crs; simp [hb]
        rw [if_pos hc] at hK
        exact hK
      · have hc : Shp.crs p q r s = false := by
          unfold Shp.crs
          by_cases h1 : Shp.sgZ (Shp.side p q r) * Shp.sgZ (Shp.side p q s) < 0
          · have := hb h1
            simp [h1]; omega
          · simp [h1]
        rw [if_neg (by rw [hc]; simp)] at hK
        exact hK
end Go.Proofs.YtdbgkhcknaafoaaDoor
/-
  Simple rings, where a point is: the walks of the document's.
-/
namespace Go.Proofs.YtdbgkhcknaafoaaDoor
open Go Go.Ab
set_option maxRecDepth 100000
theorem lg_true {A B C D E F : Prop} [Decidable A] [Decidable B] [Decidable C] [Decidable D] [Decidable E] [Decidable F] (h : A ∨ (B ∧ (¬ C ∨ ¬ D)) ∧ (¬ E ∨ ¬ F)) : (decide A || decide B && !(decide C && decide D) && !(decide E && decide F)) = true := by
  by_cases a : A <;> by_cases b : B <;> by_cases c : C <;> by_cases d : D <;> by_cases e : E <;> by_cases f : F <;> simp [a, b, c, d, e, f] at h ⊢
theorem lg_false {A B C D E F : Prop} [Decidable A] [Decidable B] [Decidable C] [Decidable D] [Decidable E] [Decidable F] (h : ¬ A ∧ (B → (¬ C ∨ ¬ D) → E ∧ F)) : (decide A || decide B && !(decide C && decide D) && !(decide E && decide F)) = false := by
  by_cases a : A <;> by_cases b : B <;> by_cases c : C <;> by_cases d : D <;> by_cases e : E <;> by_cases f : F <;> simp [a, b, c, d, e, f] at h ⊢
set_option maxHeartbeats 8000000 in
theorem isSimple_any (G : List (Nat × Value)) (l : Pts) (h0 : ringE l = 0) (K : AV → List AO → Prop) (hK : K (.fz .bool (Shp.smp l Shp.bad2)) []) : ACall Tryd.prog G 14 [.fz (.list SpT) l] [] K := by
  obtain ⟨z3, z4, hpl, hne⟩ := ringE_no h0
  have hnel : l ≠ [] := fun e => by rw [e] at z3; simp at z3
  refine acall_mk (E := envCut G 90 0 [12, 13]) (envCutOk _ _ _ _) Tryd.func14 rfl rfl rfl rfl rfl ?_
  (repeat' (first | exact trivial | exact fun h => h | refine And.intro ?_ ?_ | (intro hb; first | (simp at hb; done) | (simp at hb) | skip) | omega | exact rfl | exact Nat.le_refl _ | (show _ + 1 ≤ 4294967296; omega) | (dsimp only; omega) | (show (_ : Int) ≤ (_ : Int); omega) | (show _ < List.length _; simp only [List.length_set, List.length_append, List.length_take]; omega) | (show wantB _ _ = true; simp; done) | (show wantB _ _ = true; simp; omega) | (show (_ : Bool) = _; simp_all; done) | (exfalso; omega) | refine aRegion_auto (by decide +kernel) ?_ | refine ⟨_, _, REnt.drop ⟨rfl, rfl⟩, ?_⟩ | fail))
  refine ⟨Nat, fun i => ⟨[(0, .fz (.list SpT) l), (3, .fz int l.length), (4, .fz int i)], []⟩, fun i => i ≤ l.length ∧ ∀ j, j < i → ∀ k, k < j → Shp.nbF l Shp.bad2 k j = false, fun i => l.length - i, 0, ⟨Nat.zero_le _, fun j h => absurd h (Nat.not_lt_zero _)⟩, Ent.sub rfl ?_, ?_⟩
  · (repeat' (first | exact trivial | exact rfl | refine And.intro ?_ ?_))
  intro i ⟨hi, hok⟩
  by_cases hin : i < l.length
  · (repeat' (first | exact trivial | exact fun h => h | refine And.intro ?_ ?_ | (intro hb; first | (simp at hb; done) | (simp at hb) | skip) | omega | exact rfl | exact Nat.le_refl _ | (show _ + 1 ≤ 4294967296; omega) | (dsimp only; omega) | (show (_ : Int) ≤ (_ : Int); omega) | (show _ < List.length _; simp only [List.length_set, List.length_append, List.length_take]; omega) | (show wantB _ _ = true; simp; done) | (show wantB _ _ = true; simp; omega) | (show (_ : Bool) = _; simp_all; done) | (exfalso; omega) | refine aRegion_auto (by decide +kernel) ?_ | refine ⟨_, _, REnt.drop ⟨rfl, rfl⟩, ?_⟩ | fail))
    refine ⟨Nat, fun k => ⟨[(0, .fz (.list SpT) l), (3, .fz int l.length), (4, .fz int i), (5, .fz int k)], []⟩, fun k => k ≤ i ∧ ∀ j, j < k → Shp.nbF l Shp.bad2 j i = false, fun k => i - k, 0, ⟨Nat.zero_le _, fun j h => absurd h (Nat.not_lt_zero _)⟩, Ent.sub rfl ?_, ?_⟩
    · (repeat' (first | exact trivial | exact rfl | refine And.intro ?_ ?_))
    intro k ⟨hk, hokk⟩
    by_cases hki : k < i
    · have ht1 := tmod_nx l k
      have ht2 := tmod_nx l i
      have hn1 := nx_lt (l := l) (i := k) (by omega)
      have hn2 := nx_lt (l := l) (i := i) (by omega)
      have qn : ∀ (z : Int) (j : Nat), z = (j : Int) → List.getD l (Int.toNat z) SpT.dft = Shp.at_ l j := fun z j hz => by rw [hz]; rfl
      have qn1 := qn _ _ ht1
      have qn2 := qn _ _ ht2
      have ha := hpl k (by omega)
      have hb' := hpl _ hn1
      have hc := hpl i hin
      have hd := hpl _ hn2
      have eN : Shp.nbF l Shp.bad2 k i = Shp.bad2 (Shp.at_ l k) (Shp.at_ l (Shp.nx l k)) (Shp.at_ l i) (Shp.at_ l (Shp.nx l i)) (decide (k + 1 = i)) (decide (Shp.nx l i = k)) := rfl
      (repeat' (first | exact trivial | exact fun h => h | refine And.intro ?_ ?_ | (intro hb; first | (simp at hb; done) | (simp at hb) | skip) | omega | exact rfl | exact Nat.le_refl _ | (show _ + 1 ≤ 4294967296; omega) | (dsimp only; omega) | (show (_ : Int) ≤ (_ : Int); omega) | (show _ < List.length _; simp only [List.length_set, List.length_append, List.length_take]; omega) | (show wantB _ _ = true; simp; done) | (show wantB _ _ = true; simp; omega) | (show (_ : Bool) = _; simp_all; done) | (exfalso; omega) | refine aRegion_auto (by decide +kernel) ?_ | refine ⟨_, _, REnt.drop ⟨rfl, rfl⟩, ?_⟩ | fail))
      all_goals first | (exact absurd (by assumption) hnel) | skip
      refine ⟨[(0, .fz (.list SpT) l), (3, .fz int l.length), (4, .fz int i), (5, .fz int k), (6, .ptr 0 0), (7, .ptr 1 0), (8, .ptr 2 0), (9, .ptr 3 0)], [.box [.fz int (Shp.at_ l k).1, .fz int (Shp.at_ l k).2], .box [.fz int (Shp.at_ l (Shp.nx l k)).1, .fz int (Shp.at_ l (Shp.nx l k)).2], .box [.fz int (Shp.at_ l i).1, .fz int (Shp.at_ l i).2], .box [.fz int (Shp.at_ l (Shp.nx l i)).1, .fz int (Shp.at_ l (Shp.nx l i)).2]], Ent.sub ?_ ?_, ?_⟩
      · rw [← qn1, ← qn2]
        (repeat' (first | exact rfl | refine cons_eq ?_ ?_))
      · (repeat' (first | exact trivial | exact rfl | refine And.intro ?_ ?_))
      (repeat' (first | exact trivial | exact fun h => h | refine And.intro ?_ ?_ | (intro hb; first | (simp at hb; done) | (simp at hb) | skip) | omega | exact rfl | exact Nat.le_refl _ | (show _ + 1 ≤ 4294967296; omega) | (dsimp only; omega) | (show (_ : Int) ≤ (_ : Int); omega) | (show _ < List.length _; simp only [List.length_set, List.length_append, List.length_take]; omega) | (show wantB _ _ = true; simp; done) | (show wantB _ _ = true; simp; omega) | (show (_ : Bool) = _; simp_all; done) | (exfalso; omega) | refine aRegion_auto (by decide +kernel) ?_ | refine ⟨_, _, REnt.drop ⟨rfl, rfl⟩, ?_⟩ | fail))
      refine acall_conv [.dat SpT, .dat SpT, .dat SpT, .dat SpT] _ _ _ rfl trivial (acall_frame0 rfl (common_any _ (Shp.at_ l k) (Shp.at_ l (Shp.nx l k)) (Shp.at_ l i) (Shp.at_ l (Shp.nx l i)) ha hb' hc hd _ ?_))
      unfold Shp.bad2 at eN
      generalize Shp.com (Shp.at_ l k) (Shp.at_ l (Shp.nx l k)) (Shp.at_ l i) (Shp.at_ l (Shp.nx l i)) = cm at *
      obtain ⟨m, x⟩ := cm
      (repeat' (first | exact trivial | exact fun h => h | refine And.intro ?_ ?_ | (intro hb; first | (simp at hb; done) | (simp at hb) | skip) | omega | exact rfl | exact Nat.le_refl _ | (show _ + 1 ≤ 4294967296; omega) | (dsimp only; omega) | (show (_ : Int) ≤ (_ : Int); omega) | (show _ < List.length _; simp only [List.length_set, List.length_append, List.length_take]; omega) | (show wantB _ _ = true; simp; done) | (show wantB _ _ = true; simp; omega) | (show (_ : Bool) = _; simp_all; done) | (exfalso; omega) | refine aRegion_auto (by decide +kernel) ?_ | refine ⟨_, _, REnt.drop ⟨rfl, rfl⟩, ?_⟩ | fail))
      refine ⟨[(0, .fz (.list SpT) l), (3, .fz int l.length), (4, .fz int i), (5, .fz int k), (6, .ptr 0 0), (7, .ptr 1 0), (10, .fz int m), (11, .ptr 2 0)], [.box [.fz int (Shp.at_ l k).1, .fz int (Shp.at_ l k).2], .box [.fz int (Shp.at_ l (Shp.nx l k)).1, .fz int (Shp.at_ l (Shp.nx l k)).2], .box [.fz int x.1, .fz int x.2]], Ent.ren [0, 1, 4] rfl ?_ ?_, ?_⟩
      · (repeat' (first | exact trivial | exact rfl | refine And.intro ?_ ?_))
      · (repeat' (first | exact trivial | exact rfl | refine And.intro ?_ ?_))
      have eq1 := eqS x (Shp.at_ l (Shp.nx l k))
      have eq2 := eqS x (Shp.at_ l k)
      have c1 : ((k : Int) + 1 = (i : Int)) = (k + 1 = i) := propext (by omega)
      have c3 : (((Shp.nx l i : Nat) : Int) = (k : Int)) = (Shp.nx l i = k) := propext (by omega)
      (repeat' (first | exact trivial | exact fun h => h | refine And.intro ?_ ?_ | (intro hb; first | (simp at hb; done) | (simp at hb) | skip) | omega | exact rfl | exact Nat.le_refl _ | (show _ + 1 ≤ 4294967296; omega) | (dsimp only; omega) | (show (_ : Int) ≤ (_ : Int); omega) | (show _ < List.length _; simp only [List.length_set, List.length_append, List.length_take]; omega) | (show wantB _ _ = true; simp; done) | (show wantB _ _ = true; simp; omega) | (show (_ : Bool) = _; simp_all; done) | (exfalso; omega) | refine aRegion_auto (by decide +kernel) ?_ | refine ⟨_, _, REnt.drop ⟨rfl, rfl⟩, ?_⟩ | fail))
      · exact hnel hb
      · rw [ht2, eq1, eq2, c1, c3, decide_eq_false_iff_not, decide_eq_false_iff_not] at hb
        have hbad : Shp.nbF l Shp.bad2 k i = true := eN.trans (lg_true hb)
        rw [Shp.smp_false hin hki hbad] at hK
        exact hK
      · rw [ht2, eq1, eq2, c1, c3, decide_eq_false_iff_not, decide_eq_true_eq] at hb
        have hgood : Shp.nbF l Shp.bad2 k i = false := eN.trans (lg_false hb)
        refine ⟨k + 1, ⟨by show k + 1 ≤ i; omega, fun j h1 => ?_⟩, by show i - (k + 1) < i - k; omega, Ent.ren [] rfl trivial ?_⟩
        · by_cases e : j = k
          · rw [e]; exact hgood
          · exact hokk j (by omega)
        · (repeat' (first | exact trivial | exact rfl | refine And.intro ?_ ?_))
    · have hke : k = i := by omega
      (repeat' (first | exact trivial | exact fun h => h | refine And.intro ?_ ?_ | (intro hb; first | (simp at hb; done) | (simp at hb) | skip) | omega | exact rfl | exact Nat.le_refl _ | (show _ + 1 ≤ 4294967296; omega) | (dsimp only; omega) | (show (_ : Int) ≤ (_ : Int); omega) | (show _ < List.length _; simp only [List.length_set, List.length_append, List.length_take]; omega) | (show wantB _ _ = true; simp; done) | (show wantB _ _ = true; simp; omega) | (show (_ : Bool) = _; simp_all; done) | (exfalso; omega) | refine aRegion_auto (by decide +kernel) ?_ | refine ⟨_, _, REnt.drop ⟨rfl, rfl⟩, ?_⟩ | fail))
      refine ⟨i + 1, ⟨by show i + 1 ≤ l.length; omega, fun j h1 k' h2 => ?_⟩, by show l.length - (i + 1) < l.length - i; omega, Ent.sub rfl ?_⟩
      · by_cases e : j = i
        · rw [e] at h2 ⊢; exact hokk k' (by omega)
        · exact hok j (by omega) k' h2
      · (repeat' (first | exact trivial | exact rfl | refine And.intro ?_ ?_))
  · have hie : i = l.length := by omega
    have hs : Shp.smp l Shp.bad2 = true := Shp.smp_true.2 fun k hk j hj => hok k (by omega) j hj
    rw [hs] at hK
    (repeat' (first | exact trivial | exact fun h => h | refine And.intro ?_ ?_ | (intro hb; first | (simp at hb; done) | (simp at hb) | skip) | omega | exact rfl | exact Nat.le_refl _ | (show _ + 1 ≤ 4294967296; omega) | (dsimp only; omega) | (show (_ : Int) ≤ (_ : Int); omega) | (show _ < List.length _; simp only [List.length_set, List.length_append, List.length_take]; omega) | (show wantB _ _ = true; simp; done) | (show wantB _ _ = true; simp; omega) | (show (_ : Bool) = _; simp_all; done) | (exfalso; omega) | refine aRegion_auto (by decide +kernel) ?_ | refine ⟨_, _, REnt.drop ⟨rfl, rfl⟩, ?_⟩ | fail))
    exact hK
set_option maxHeartbeats 8000000 in
theorem placeIn_any (G : List (Nat × Value)) (l : Pts) (p : Int × Int) (h0 : ringE l = 0) (hp : plB p = true) (K : AV → List AO → Prop) (hK : K (.fz int (Shp.wh l p)) []) : ACall Tryd.prog G 15 [.fz (.list SpT) l, .fz SpT p] [] K := by
  obtain ⟨z3, z4, hpl, hne⟩ := ringE_no h0
  have hnel : l ≠ [] := fun e => by rw [e] at z3; simp at z3
  let bP : AO := .box [.fz int p.1, .fz int p.2]
  have hub : ∀ k, 0 ≤ Shp.uds l p k ∧ Shp.uds l p k ≤ 2 * (k : Int) := fun k => by
    induction k with
    | zero => exact ⟨Int.le_refl _, Int.le_refl _⟩
    | succ k ih =>
      have e : Shp.uds l p (k + 1) = Shp.uds l p k + ((if Shp.upB (Shp.at_ l k) (Shp.at_ l (Shp.nx l k)) p = true then 1 else 0) + (if Shp.dnB (Shp.at_ l k) (Shp.at_ l (Shp.nx l k)) p = true then 1 else 0)) := rfl
      rw [e]
      split <;> split <;> omega
  refine acall_mk (E := envCut G 78 0 [7, 12]) (envCutOk _ _ _ _) Tryd.func15 rfl rfl rfl rfl rfl ?_
  (repeat' (first | exact trivial | exact fun h => h | refine And.intro ?_ ?_ | (intro hb; first | (simp at hb; done) | (simp at hb) | skip) | omega | exact rfl | exact Nat.le_refl _ | (show _ + 1 ≤ 4294967296; omega) | (dsimp only; omega) | (show (_ : Int) ≤ (_ : Int); omega) | (show _ < List.length _; simp only [List.length_set, List.length_append, List.length_take]; omega) | (show wantB _ _ = true; simp; done) | (show wantB _ _ = true; simp; omega) | (show (_ : Bool) = _; simp_all; done) | (exfalso; omega) | refine aRegion_auto (by decide +kernel) ?_ | refine ⟨_, _, REnt.drop ⟨rfl, rfl⟩, ?_⟩ | fail))
  refine ⟨Nat, fun k => ⟨[(0, .fz (.list SpT) l), (3, .ptr 0 0), (5, .fz int (Shp.uds l p k)), (6, .fz int k)], [bP]⟩, fun k => k ≤ l.length ∧ Shp.ons l p k = 0, fun k => l.length - k, 0, ⟨Nat.zero_le _, rfl⟩, Ent.sub rfl ?_, ?_⟩
  · (repeat' (first | exact trivial | exact rfl | refine And.intro ?_ ?_))
  intro k ⟨hk, hon⟩
  have hu := hub k
  by_cases hkl : k < l.length
  · have ht1 := tmod_nx l k
    have hn1 := nx_lt (l := l) (i := k) (by omega)
    have qn : ∀ (z : Int) (j : Nat), z = (j : Int) → List.getD l (Int.toNat z) SpT.dft = Shp.at_ l j := fun z j hz => by rw [hz]; rfl
    have qn1 := qn _ _ ht1
    have hpa := hpl k hkl
    have hpb := hpl _ hn1
    have eU : Shp.uds l p (k + 1) = Shp.uds l p k + ((if Shp.upB (Shp.at_ l k) (Shp.at_ l (Shp.nx l k)) p = true then 1 else 0) + (if Shp.dnB (Shp.at_ l k) (Shp.at_ l (Shp.nx l k)) p = true then 1 else 0)) := rfl
    have eO : Shp.ons l p (k + 1) = Shp.ons l p k + (if Shp.on (Shp.at_ l k) (Shp.at_ l (Shp.nx l k)) p then 1 else 0) := rfl
    have hons := ons_no (p := p) hkl
    (repeat' (first | exact trivial | exact fun h => h | refine And.intro ?_ ?_ | (intro hb; first | (simp at hb; done) | (simp at hb) | skip) | omega | exact rfl | exact Nat.le_refl _ | (show _ + 1 ≤ 4294967296; omega) | (dsimp only; omega) | (show (_ : Int) ≤ (_ : Int); omega) | (show _ < List.length _; simp only [List.length_set, List.length_append, List.length_take]; omega) | (show wantB _ _ = true; simp; done) | (show wantB _ _ = true; simp; omega) | (show (_ : Bool) = _; simp_all; done) | (exfalso; omega) | refine aRegion_auto (by decide +kernel) ?_ | refine ⟨_, _, REnt.drop ⟨rfl, rfl⟩, ?_⟩ | fail))
    all_goals first | (exact absurd (by assumption) hnel) | skip
    refine ⟨[(0, .fz (.list SpT) l), (3, .ptr 0 0), (5, .fz int (Shp.uds l p k)), (6, .fz int k), (7, .ptr 1 0), (8, .ptr 2 0)], [bP, .box [.fz int (Shp.at_ l k).1, .fz int (Shp.at_ l k).2], .box [.fz int (Shp.at_ l (Shp.nx l k)).1, .fz int (Shp.at_ l (Shp.nx l k)).2]], Ent.sub ?_ ?_, ?_⟩
    · rw [← qn1]
      (repeat' (first | exact rfl | refine cons_eq ?_ ?_))
    · (repeat' (first | exact trivial | exact rfl | refine And.intro ?_ ?_))
    generalize Shp.at_ l k = a at *
    generalize Shp.at_ l (Shp.nx l k) = b at *
    clear ht1 qn qn1
    (repeat' (first | exact trivial | exact fun h => h | refine And.intro ?_ ?_ | (intro hb; first | (simp at hb; done) | (simp at hb) | skip) | omega | exact rfl | exact Nat.le_refl _ | (show _ + 1 ≤ 4294967296; omega) | (dsimp only; omega) | (show (_ : Int) ≤ (_ : Int); omega) | (show _ < List.length _; simp only [List.length_set, List.length_append, List.length_take]; omega) | (show wantB _ _ = true; simp; done) | (show wantB _ _ = true; simp; omega) | (show (_ : Bool) = _; simp_all; done) | (exfalso; omega) | refine aRegion_auto (by decide +kernel) ?_ | refine ⟨_, _, REnt.drop ⟨rfl, rfl⟩, ?_⟩ | fail))
    refine acall_conv [.dat SpT, .dat SpT, .dat SpT] _ _ _ rfl trivial (acall_frame0 rfl (onPiece_any _ a b p hpa hpb hp _ ?_))
    cases hO : Shp.on a b p with
    | true =>
      have hw : Shp.wh l p = 0 := by unfold Shp.wh; rw [if_neg (hons hO)]
      rw [hw] at hK
      (repeat' (first | exact trivial | exact fun h => h | refine And.intro ?_ ?_ | (intro hb; first | (simp at hb; done) | (simp at hb) | skip) | omega | exact rfl | exact Nat.le_refl _ | (show _ + 1 ≤ 4294967296; omega) | (dsimp only; omega) | (show (_ : Int) ≤ (_ : Int); omega) | (show _ < List.length _; simp only [List.length_set, List.length_append, List.length_take]; omega) | (show wantB _ _ = true; simp; done) | (show wantB _ _ = true; simp; omega) | (show (_ : Bool) = _; simp_all; done) | (exfalso; omega) | refine aRegion_auto (by decide +kernel) ?_ | refine ⟨_, _, REnt.drop ⟨rfl, rfl⟩, ?_⟩ | fail))
      exact hK
    | false =>
      rw [hO] at eO
      have eO1 : Shp.ons l p (k + 1) = 0 := by rw [eO, hon]; rfl
      obtain ⟨u1, hu1⟩ : ∃ u, u = Shp.uds l p k + (if Shp.upB a b p = true then 1 else 0) := ⟨_, rfl⟩
      have hu1b : 0 ≤ u1 ∧ u1 ≤ 2 * (k : Int) + 1 := by rw [hu1]; split <;> omega
      apply merge
      · intro hc
        by_cases hX : a.2 ≤ p.2 ∧ p.2 < b.2
        · obtain ⟨hX1, hX2⟩ := hX
          (repeat' (first | exact trivial | exact fun h => h | refine And.intro ?_ ?_ | (intro hb; first | (simp at hb; done) | (simp at hb) | skip) | omega | exact rfl | exact Nat.le_refl _ | (show _ + 1 ≤ 4294967296; omega) | (dsimp only; omega) | (show (_ : Int) ≤ (_ : Int); omega) | (show _ < List.length _; simp only [List.length_set, List.length_append, List.length_take]; omega) | (show wantB _ _ = true; simp; done) | (show wantB _ _ = true; simp; omega) | (show (_ : Bool) = _; simp_all; done) | (exfalso; omega) | refine aRegion_auto (by decide +kernel) ?_ | refine ⟨_, _, REnt.drop ⟨rfl, rfl⟩, ?_⟩ | fail))
          refine acall_conv [.dat SpT, .dat SpT, .dat SpT] _ _ _ rfl trivial (acall_frame0 rfl (turn_any _ a b p hpa hpb hp _ ?_))
          by_cases hs : 0 < Shp.side a b p
          · have e : Shp.upB a b p = true := by unfold Shp.upB; simp [hX1, hX2, hs]
            rw [if_pos e] at hu1
            (repeat' (first | exact trivial | exact fun h => h | refine And.intro ?_ ?_ | (intro hb; first | (simp at hb; done) | (simp at hb) | skip) | omega | exact rfl | exact Nat.le_refl _ | (show _ + 1 ≤ 4294967296; omega) | (dsimp only; omega) | (show (_ : Int) ≤ (_ : Int); omega) | (show _ < List.length _; simp only [List.length_set, List.length_append, List.length_take]; omega) | (show wantB _ _ = true; simp; done) | (show wantB _ _ = true; simp; omega) | (show (_ : Bool) = _; simp_all; done) | (exfalso; omega) | refine aRegion_auto (by decide +kernel) ?_ | refine ⟨_, _, REnt.drop ⟨rfl, rfl⟩, ?_⟩ | fail))
            refine ⟨[(0, .fz (.list SpT) l), (3, .ptr 0 0), (5, .fz int u1), (6, .fz int k), (7, .ptr 1 0), (8, .ptr 2 0)], [bP, .box [.fz int a.1, .fz int a.2], .box [.fz int b.1, .fz int b.2]], Ent.sub rfl ?_, hc.out⟩
            rw [hu1]
            (repeat' (first | exact trivial | exact rfl | refine And.intro ?_ ?_))
          · have e : ¬ Shp.upB a b p = true := by unfold Shp.upB; simp [hs]
            rw [if_neg e, Int.add_zero] at hu1
            (repeat' (first | exact trivial | exact fun h => h | refine And.intro ?_ ?_ | (intro hb; first | (simp at hb; done) | (simp at hb) | skip) | omega | exact rfl | exact Nat.le_refl _ | (show _ + 1 ≤ 4294967296; omega) | (dsimp only; omega) | (show (_ : Int) ≤ (_ : Int); omega) | (show _ < List.length _; simp only [List.length_set, List.length_append, List.length_take]; omega) | (show wantB _ _ = true; simp; done) | (show wantB _ _ = true; simp; omega) | (show (_ : Bool) = _; simp_all; done) | (exfalso; omega) | refine aRegion_auto (by decide +kernel) ?_ | refine ⟨_, _, REnt.drop ⟨rfl, rfl⟩, ?_⟩ | fail))
            refine ⟨[(0, .fz (.list SpT) l), (3, .ptr 0 0), (5, .fz int u1), (6, .fz int k), (7, .ptr 1 0), (8, .ptr 2 0)], [bP, .box [.fz int a.1, .fz int a.2], .box [.fz int b.1, .fz int b.2]], Ent.sub rfl ?_, hc.out⟩
            rw [hu1]
            (repeat' (first | exact trivial | exact rfl | refine And.intro ?_ ?_))
        · have e : ¬ Shp.upB a b p = true := by unfold Shp.upB; simp; omega
          rw [if_neg e, Int.add_zero] at hu1
          (repeat' (first | exact trivial | exact fun h => h | refine And.intro ?_ ?_ | (intro hb; first | (simp at hb; done) | (simp at hb) | skip) | omega | exact rfl | exact Nat.le_refl _ | (show _ + 1 ≤ 4294967296; omega) | (dsimp only; omega) | (show (_ : Int) ≤ (_ : Int); omega) | (show _ < List.length _; simp only [List.length_set, List.length_append, List.length_take]; omega) | (show wantB _ _ = true; simp; done) | (show wantB _ _ = true; simp; omega) | (show (_ : Bool) = _; simp_all; done) | (exfalso; omega) | refine aRegion_auto (by decide +kernel) ?_ | refine ⟨_, _, REnt.drop ⟨rfl, rfl⟩, ?_⟩ | fail))
          all_goals refine ⟨[(0, .fz (.list SpT) l), (3, .ptr 0 0), (5, .fz int u1), (6, .fz int k), (7, .ptr 1 0), (8, .ptr 2 0)], [bP, .box [.fz int a.1, .fz int a.2], .box [.fz int b.1, .fz int b.2]], Ent.sub rfl ?_, hc.out⟩
          all_goals rw [hu1]
          all_goals (repeat' (first | exact trivial | exact rfl | refine And.intro ?_ ?_))
      by_cases hY : b.2 ≤ p.2 ∧ p.2 < a.2
      · obtain ⟨hY1, hY2⟩ := hY
        (repeat' (first | exact trivial | exact fun h => h | refine And.intro ?_ ?_ | (intro hb; first | (simp at hb; done) | (simp at hb) | skip) | omega | exact rfl | exact Nat.le_refl _ | (show _ + 1 ≤ 4294967296; omega) | (dsimp only; omega) | (show (_ : Int) ≤ (_ : Int); omega) | (show _ < List.length _; simp only [List.length_set, List.length_append, List.length_take]; omega) | (show wantB _ _ = true; simp; done) | (show wantB _ _ = true; simp; omega) | (show (_ : Bool) = _; simp_all; done) | (exfalso; omega) | refine aRegion_auto (by decide +kernel) ?_ | refine ⟨_, _, REnt.drop ⟨rfl, rfl⟩, ?_⟩ | fail))
        refine acall_conv [.dat SpT, .dat SpT, .dat SpT] _ _ _ rfl trivial (acall_frame0 rfl (turn_any _ a b p hpa hpb hp _ ?_))
        by_cases hs : Shp.side a b p < 0
        · have e : Shp.dnB a b p = true := by unfold Shp.dnB; simp [hY1, hY2, hs]
          have e2 : Shp.uds l p (k + 1) = u1 + 1 := by rw [eU, if_pos e, ← Int.add_assoc, ← hu1]
          (repeat' (first | exact trivial | exact fun h => h | refine And.intro ?_ ?_ | (intro hb; first | (simp at hb; done) | (simp at hb) | skip) | omega | exact rfl | exact Nat.le_refl _ | (show _ + 1 ≤ 4294967296; omega) | (dsimp only; omega) | (show (_ : Int) ≤ (_ : Int); omega) | (show _ < List.length _; simp only [List.length_set, List.length_append, List.length_take]; omega) | (show wantB _ _ = true; simp; done) | (show wantB _ _ = true; simp; omega) | (show (_ : Bool) = _; simp_all; done) | (exfalso; omega) | refine aRegion_auto (by decide +kernel) ?_ | refine ⟨_, _, REnt.drop ⟨rfl, rfl⟩, ?_⟩ | fail))
          refine ⟨k + 1, ⟨by show k + 1 ≤ l.length; omega, eO1⟩, by show l.length - (k + 1) < l.length - k; omega, Ent.ren [0] rfl ?_ ?_⟩
          · (repeat' (first | exact trivial | exact rfl | refine And.intro ?_ ?_))
          · rw [e2]
            (repeat' (first | exact trivial | exact rfl | refine And.intro ?_ ?_))
        · have e : ¬ Shp.dnB a b p = true := by unfold Shp.dnB; simp [hs]
          have e2 : Shp.uds l p (k + 1) = u1 := by rw [eU, if_neg e, Int.add_zero, ← hu1]
          (repeat' (first | exact trivial | exact fun h => h | refine And.intro ?_ ?_ | (intro hb; first | (simp at hb; done) | (simp at hb) | skip) | omega | exact rfl | exact Nat.le_refl _ | (show _ + 1 ≤ 4294967296; omega) | (dsimp only; omega) | (show (_ : Int) ≤ (_ : Int); omega) | (show _ < List.length _; simp only [List.length_set, List.length_append, List.length_take]; omega) | (show wantB _ _ = true; simp; done) | (show wantB _ _ = true; simp; omega) | (show (_ : Bool) = _; simp_all; done) | (exfalso; omega) | refine aRegion_auto (by decide +kernel) ?_ | refine ⟨_, _, REnt.drop ⟨rfl, rfl⟩, ?_⟩ | fail))
          refine ⟨k + 1, ⟨by show k + 1 ≤ l.length; omega, eO1⟩, by show l.length - (k + 1) < l.length - k; omega, Ent.ren [0] rfl ?_ ?_⟩
          · (repeat' (first | exact trivial | exact rfl | refine And.intro ?_ ?_))
          · rw [e2]
            (repeat' (first | exact trivial | exact rfl | refine And.intro ?_ ?_))
      · have e : ¬ Shp.dnB a b p = true := by unfold Shp.dnB; simp; omega
        have e2 : Shp.uds l p (k + 1) = u1 := by rw [eU, if_neg e, Int.add_zero, ← hu1]
        (repeat' (first | exact trivial | exact fun h => h | refine And.intro ?_ ?_ | (intro hb; first | (simp at hb; done) | (simp at hb) | skip) | omega | exact rfl | exact Nat.le_refl _ | (show _ + 1 ≤ 4294967296; omega) | (dsimp only; omega) | (show (_ : Int) ≤ (_ : Int); omega) | (show _ < List.length _; simp only [List.length_set, List.length_append, List.length_take]; omega) | (show wantB _ _ = true; simp; done) | (show wantB _ _ = true; simp; omega) | (show (_ : Bool) = _; simp_all; done) | (exfalso; omega) | refine aRegion_auto (by decide +kernel) ?_ | refine ⟨_, _, REnt.drop ⟨rfl, rfl⟩, ?_⟩ | fail))
        all_goals refine ⟨k + 1, ⟨by show k + 1 ≤ l.length; omega, eO1⟩, by show l.length - (k + 1) < l.length - k; omega, Ent.ren [0] rfl ?_ ?_⟩
        all_goals first | ((repeat' (first | exact trivial | exact rfl | refine And.intro ?_ ?_))) | skip
        all_goals rw [e2]
        all_goals (repeat' (first | exact trivial | exact rfl | refine And.intro ?_ ?_))
  · have hke : k = l.length := by omega
    have hw : Shp.wh l p = Shp.sgn (Shp.uds l p k) := by unfold Shp.wh; rw [hke] at hon ⊢; rw [if_pos hon, Shp.uds_togs]
    rw [hw] at hK
    have hmod : Int.tmod (Shp.uds l p k) 2 = Shp.uds l p k % 2 := Int.tmod_eq_emod_of_nonneg hu.1
    unfold Shp.sgn at hK
    (repeat' (first | exact trivial | exact fun h => h | refine And.intro ?_ ?_ | (intro hb; first | (simp at hb; done) | (simp at hb) | skip) | omega | exact rfl | exact Nat.le_refl _ | (show _ + 1 ≤ 4294967296; omega) | (dsimp only; omega) | (show (_ : Int) ≤ (_ : Int); omega) | (show _ < List.length _; simp only [List.length_set, List.length_append, List.length_take]; omega) | (show wantB _ _ = true; simp; done) | (show wantB _ _ = true; simp; omega) | (show (_ : Bool) = _; simp_all; done) | (exfalso; omega) | refine aRegion_auto (by decide +kernel) ?_ | refine ⟨_, _, REnt.drop ⟨rfl, rfl⟩, ?_⟩ | fail))
    · rw [hmod] at hb; rw [if_neg (by omega)] at hK; exact hK
    · rw [hmod] at hb; rw [if_pos (by omega)] at hK; exact hK
end Go.Proofs.YtdbgkhcknaafoaaDoor
/-
  ShapeRings: the walk.
-/
namespace Go.Proofs.YtdbgkhcknaafoaaDoor
open Go Go.Ab
set_option maxRecDepth 100000
theorem ringE_le (l : Pts) : ringE l ≤ 3 := by unfold ringE; split <;> (try split) <;> omega
theorem sr_lit : ringE [(0, 0), (4, 0), (0, 3)] = 0 ∧ Shp.area [(0, 0), (4, 0), (0, 3)] = 12 := by constructor <;> decide +kernel
theorem fewS_any (G : List (Nat × Value)) (l : Pts) (hl : l.length ≤ 9223372036854775807) (K : AV → List AO → Prop) (hK : K (.fz .bool (decide (l.length ≤ 30 ∨ 4000 < l.length ∧ l.length < 4005))) []) : ACall Tryd.prog G 6 [.fz (.list SpT) l] [] K := by
  refine acall_mk (E := envAt G 16 0) (envOk _ _ _) Tryd.func6 rfl rfl rfl rfl rfl ?_
  have e : (bif decide ((l.length : Int) ≤ 30) then true else bif decide (4000 < (l.length : Int)) then decide ((l.length : Int) < 4005) else false) = decide (l.length ≤ 30 ∨ 4000 < l.length ∧ l.length < 4005) := by
    have c1 : ((l.length : Int) ≤ 30) = (l.length ≤ 30) := propext (by omega)
    have c2 : (4000 < (l.length : Int)) = (4000 < l.length) := propext (by omega)
    have c3 : ((l.length : Int) < 4005) = (l.length < 4005) := propext (by omega)
    simp only [c1, c2, c3, Bool.decide_or, Bool.decide_and, Bool.cond_false_right, Bool.cond_true_left]
  rw [← e] at hK
  (repeat' (first | exact trivial | exact fun h => h | refine And.intro ?_ ?_ | (intro hb; first | (simp at hb; done) | (simp at hb) | skip) | omega | exact rfl | exact Nat.le_refl _ | (show _ + 1 ≤ 4294967296; omega) | (dsimp only; omega) | (show (_ : Int) ≤ (_ : Int); omega) | (show _ < List.length _; simp only [List.length_set, List.length_append, List.length_take]; omega) | (show wantB _ _ = true; simp; done) | (show wantB _ _ = true; simp; omega) | (show (_ : Bool) = _; simp_all; done) | (exfalso; omega) | refine aRegion_auto (by decide +kernel) ?_ | refine ⟨_, _, REnt.drop ⟨rfl, rfl⟩, ?_⟩ | fail))
  exact hK
theorem ringed_any (E : Errs) (K : AV → List AO → Prop) (hK : K (.fz .bool true) []) : ACall Tryd.prog (G8 E) 5 [] [] K := by
  refine acall_mk (E := envAt (G8 E) 17 0) (envOk _ _ _) Tryd.func5 rfl rfl rfl rfl rfl ?_
  (repeat' (first | exact trivial | exact fun h => h | refine And.intro ?_ ?_ | (intro hb; first | (simp at hb; done) | (simp at hb) | skip) | omega | exact rfl | exact Nat.le_refl _ | (show _ + 1 ≤ 4294967296; omega) | (dsimp only; omega) | (show (_ : Int) ≤ (_ : Int); omega) | (show _ < List.length _; simp only [List.length_set, List.length_append, List.length_take]; omega) | (show wantB _ _ = true; simp; done) | (show wantB _ _ = true; simp; omega) | (show (_ : Bool) = _; simp_all; done) | (exfalso; omega) | refine aRegion_auto (by decide +kernel) ?_ | refine ⟨_, _, REnt.drop ⟨rfl, rfl⟩, ?_⟩ | fail))
  refine acall_conv [.dat (.list SpT)] _ _ _ rfl (by show 3 ≤ 3; omega) (acall_frame0 rfl (shapeArea_any E [(0, 0), (4, 0), (0, 3)] (by decide) _ ?_))
  unfold arE
  rw [if_pos sr_lit.1, sr_lit.1, sr_lit.2]
  (repeat' (first | exact trivial | exact fun h => h | refine And.intro ?_ ?_ | (intro hb; first | (simp at hb; done) | (simp at hb) | skip) | omega | exact rfl | exact Nat.le_refl _ | (show _ + 1 ≤ 4294967296; omega) | (dsimp only; omega) | (show (_ : Int) ≤ (_ : Int); omega) | (show _ < List.length _; simp only [List.length_set, List.length_append, List.length_take]; omega) | (show wantB _ _ = true; simp; done) | (show wantB _ _ = true; simp; omega) | (show (_ : Bool) = _; simp_all; done) | (exfalso; omega) | refine aRegion_auto (by decide +kernel) ?_ | refine ⟨_, _, REnt.drop ⟨rfl, rfl⟩, ?_⟩ | fail))
  exact hK
set_option maxHeartbeats 8000000 in
theorem shapeRings_any {E : Errs} (hE : (EL E).Nodup) (l : Pts) (p : Int × Int) (hl : l.length ≤ 9223372036854775807) (K : AV → List AO → Prop) (hK : K (.fz .bool true) []) :
    ACall Tryd.prog (G8 E) 4 [.fz (.list SpT) l, .fz SpT p] [] K := by
  have h3 := ringE_le l
  refine acall_mk (E := envAt (G8 E) 107 0) (envOk _ _ _) Tryd.func4 rfl rfl rfl rfl rfl ?_
  (repeat' (first | exact trivial | exact fun h => h | refine And.intro ?_ ?_ | (intro hb; first | (simp at hb; done) | (simp at hb) | skip) | omega | exact rfl | exact Nat.le_refl _ | (show _ + 1 ≤ 4294967296; omega) | (dsimp only; omega) | (show (_ : Int) ≤ (_ : Int); omega) | (show _ < List.length _; simp only [List.length_set, List.length_append, List.length_take]; omega) | (show wantB _ _ = true; simp; done) | (show wantB _ _ = true; simp; omega) | (show (_ : Bool) = _; simp_all; done) | (exfalso; omega) | refine aRegion_auto (by decide +kernel) ?_ | refine ⟨_, _, REnt.drop ⟨rfl, rfl⟩, ?_⟩ | fail))
  refine acall_frame0 rfl (ringed_any E _ ?_)
  (repeat' (first | exact trivial | exact fun h => h | refine And.intro ?_ ?_ | (intro hb; first | (simp at hb; done) | (simp at hb) | skip) | omega | exact rfl | exact Nat.le_refl _ | (show _ + 1 ≤ 4294967296; omega) | (dsimp only; omega) | (show (_ : Int) ≤ (_ : Int); omega) | (show _ < List.length _; simp only [List.length_set, List.length_append, List.length_take]; omega) | (show wantB _ _ = true; simp; done) | (show wantB _ _ = true; simp; omega) | (show (_ : Bool) = _; simp_all; done) | (exfalso; omega) | refine aRegion_auto (by decide +kernel) ?_ | refine ⟨_, _, REnt.drop ⟨rfl, rfl⟩, ?_⟩ | fail))
  refine acall_frame0 rfl (fewS_any _ l hl _ ?_)
  by_cases hf : l.length ≤ 30 ∨ 4000 < l.length ∧ l.length < 4005
  case neg =>
    rw [decide_eq_false hf]
    (repeat' (first | exact trivial | exact fun h => h | refine And.intro ?_ ?_ | (intro hb; first | (simp at hb; done) | (simp at hb) | skip) | omega | exact rfl | exact Nat.le_refl _ | (show _ + 1 ≤ 4294967296; omega) | (dsimp only; omega) | (show (_ : Int) ≤ (_ : Int); omega) | (show _ < List.length _; simp only [List.length_set, List.length_append, List.length_take]; omega) | (show wantB _ _ = true; simp; done) | (show wantB _ _ = true; simp; omega) | (show (_ : Bool) = _; simp_all; done) | (exfalso; omega) | refine aRegion_auto (by decide +kernel) ?_ | refine ⟨_, _, REnt.drop ⟨rfl, rfl⟩, ?_⟩ | fail))
    exact hK
  have hl : l.length ≤ 1000000000000 := by omega
  rw [decide_eq_true hf]
  (repeat' (first | exact trivial | exact fun h => h | refine And.intro ?_ ?_ | (intro hb; first | (simp at hb; done) | (simp at hb) | skip) | omega | exact rfl | exact Nat.le_refl _ | (show _ + 1 ≤ 4294967296; omega) | (dsimp only; omega) | (show (_ : Int) ≤ (_ : Int); omega) | (show _ < List.length _; simp only [List.length_set, List.length_append, List.length_take]; omega) | (show wantB _ _ = true; simp; done) | (show wantB _ _ = true; simp; omega) | (show (_ : Bool) = _; simp_all; done) | (exfalso; omega) | refine aRegion_auto (by decide +kernel) ?_ | refine ⟨_, _, REnt.drop ⟨rfl, rfl⟩, ?_⟩ | fail))
  refine acall_frame0 rfl (shapeArea_any E l hl _ ?_)
  (repeat' (first | exact trivial | exact fun h => h | refine And.intro ?_ ?_ | (intro hb; first | (simp at hb; done) | (simp at hb) | skip) | omega | exact rfl | exact Nat.le_refl _ | (show _ + 1 ≤ 4294967296; omega) | (dsimp only; omega) | (show (_ : Int) ≤ (_ : Int); omega) | (show _ < List.length _; simp only [List.length_set, List.length_append, List.length_take]; omega) | (show wantB _ _ = true; simp; done) | (show wantB _ _ = true; simp; omega) | (show (_ : Bool) = _; simp_all; done) | (exfalso; omega) | refine aRegion_auto (by decide +kernel) ?_ | refine ⟨_, _, REnt.drop ⟨rfl, rfl⟩, ?_⟩ | fail))
  refine acall_frame0 rfl (simple_any E l hl _ ?_)
  (repeat' (first | exact trivial | exact fun h => h | refine And.intro ?_ ?_ | (intro hb; first | (simp at hb; done) | (simp at hb) | skip) | omega | exact rfl | exact Nat.le_refl _ | (show _ + 1 ≤ 4294967296; omega) | (dsimp only; omega) | (show (_ : Int) ≤ (_ : Int); omega) | (show _ < List.length _; simp only [List.length_set, List.length_append, List.length_take]; omega) | (show wantB _ _ = true; simp; done) | (show wantB _ _ = true; simp; omega) | (show (_ : Bool) = _; simp_all; done) | (exfalso; omega) | refine aRegion_auto (by decide +kernel) ?_ | refine ⟨_, _, REnt.drop ⟨rfl, rfl⟩, ?_⟩ | fail))
  refine acall_conv [.keep, .dat SpT] _ _ _ rfl trivial (acall_frame0 rfl (where_any E l p hl _ ?_))
  (repeat' (first | exact trivial | exact fun h => h | refine And.intro ?_ ?_ | (intro hb; first | (simp at hb; done) | (simp at hb) | skip) | omega | exact rfl | exact Nat.le_refl _ | (show _ + 1 ≤ 4294967296; omega) | (dsimp only; omega) | (show (_ : Int) ≤ (_ : Int); omega) | (show _ < List.length _; simp only [List.length_set, List.length_append, List.length_take]; omega) | (show wantB _ _ = true; simp; done) | (show wantB _ _ = true; simp; omega) | (show (_ : Bool) = _; simp_all; done) | (exfalso; omega) | refine aRegion_auto (by decide +kernel) ?_ | refine ⟨_, _, REnt.drop ⟨rfl, rfl⟩, ?_⟩ | fail))
  refine acall_frame0 rfl (ringError_any _ l hl _ ?_)
  by_cases h0 : ringE l = 0
  · have q1 : arE l = Shp.area l := by unfold arE; rw [if_pos h0]
    have q2 : smE l = Shp.smp l Shp.bad2 := by unfold smE; rw [if_pos h0]; exact Shp.smp_eq (ringE_no h0).2.2.2
    rw [q1, q2, h0]
    (repeat' (first | exact trivial | exact fun h => h | refine And.intro ?_ ?_ | (intro hb; first | (simp at hb; done) | (simp at hb) | skip) | omega | exact rfl | exact Nat.le_refl _ | (show _ + 1 ≤ 4294967296; omega) | (dsimp only; omega) | (show (_ : Int) ≤ (_ : Int); omega) | (show _ < List.length _; simp only [List.length_set, List.length_append, List.length_take]; omega) | (show wantB _ _ = true; simp; done) | (show wantB _ _ = true; simp; omega) | (show (_ : Bool) = _; simp_all; done) | (exfalso; omega) | refine aRegion_auto (by decide +kernel) ?_ | refine ⟨_, _, REnt.drop ⟨rfl, rfl⟩, ?_⟩ | fail))
    refine acall_frame0 rfl (areaOf_any _ l h0 _ ?_)
    (repeat' (first | exact trivial | exact fun h => h | refine And.intro ?_ ?_ | (intro hb; first | (simp at hb; done) | (simp at hb) | skip) | omega | exact rfl | exact Nat.le_refl _ | (show _ + 1 ≤ 4294967296; omega) | (dsimp only; omega) | (show (_ : Int) ≤ (_ : Int); omega) | (show _ < List.length _; simp only [List.length_set, List.length_append, List.length_take]; omega) | (show wantB _ _ = true; simp; done) | (show wantB _ _ = true; simp; omega) | (show (_ : Bool) = _; simp_all; done) | (exfalso; omega) | refine aRegion_auto (by decide +kernel) ?_ | refine ⟨_, _, REnt.drop ⟨rfl, rfl⟩, ?_⟩ | fail))
    refine acall_frame0 rfl (isSimple_any _ l h0 _ ?_)
    (repeat' (first | exact trivial | exact fun h => h | refine And.intro ?_ ?_ | (intro hb; first | (simp at hb; done) | (simp at hb) | skip) | omega | exact rfl | exact Nat.le_refl _ | (show _ + 1 ≤ 4294967296; omega) | (dsimp only; omega) | (show (_ : Int) ≤ (_ : Int); omega) | (show _ < List.length _; simp only [List.length_set, List.length_append, List.length_take]; omega) | (show wantB _ _ = true; simp; done) | (show wantB _ _ = true; simp; omega) | (show (_ : Bool) = _; simp_all; done) | (exfalso; omega) | refine aRegion_auto (by decide +kernel) ?_ | refine ⟨_, _, REnt.drop ⟨rfl, rfl⟩, ?_⟩ | fail))
    refine acall_conv [.dat SpT] _ _ _ rfl trivial (acall_frame0 rfl (isPlace_any _ p _ ?_))
    cases hp : plB p with
    | false =>
      have q3 : whE l p = 3 := by unfold whE; rw [if_pos h0, hp]; rfl
      have q4 : whQ l p = 0 := by unfold whQ; rw [q3]; rfl
      rw [q3, q4]
      (repeat' (first | exact trivial | exact fun h => h | refine And.intro ?_ ?_ | (intro hb; first | (simp at hb; done) | (simp at hb) | skip) | omega | exact rfl | exact Nat.le_refl _ | (show _ + 1 ≤ 4294967296; omega) | (dsimp only; omega) | (show (_ : Int) ≤ (_ : Int); omega) | (show _ < List.length _; simp only [List.length_set, List.length_append, List.length_take]; omega) | (show wantB _ _ = true; simp; done) | (show wantB _ _ = true; simp; omega) | (show (_ : Bool) = _; simp_all; done) | (exfalso; omega) | refine aRegion_auto (by decide +kernel) ?_ | refine ⟨_, _, REnt.drop ⟨rfl, rfl⟩, ?_⟩ | fail))
      refine acall_frame0 rfl (coded_mercatorlaw5 hE (by omega) 3 _ ?_)
      rw [show decide (((3 : Nat) : Int) = 3) = true from rfl]
      (repeat' (first | exact trivial | exact fun h => h | refine And.intro ?_ ?_ | (intro hb; first | (simp at hb; done) | (simp at hb) | skip) | omega | exact rfl | exact Nat.le_refl _ | (show _ + 1 ≤ 4294967296; omega) | (dsimp only; omega) | (show (_ : Int) ≤ (_ : Int); omega) | (show _ < List.length _; simp only [List.length_set, List.length_append, List.length_take]; omega) | (show wantB _ _ = true; simp; done) | (show wantB _ _ = true; simp; omega) | (show (_ : Bool) = _; simp_all; done) | (exfalso; omega) | refine aRegion_auto (by decide +kernel) ?_ | refine ⟨_, _, REnt.drop ⟨rfl, rfl⟩, ?_⟩ | fail))
      exact hK
    | true =>
      have q3 : whE l p = 0 := by unfold whE; rw [if_pos h0, hp]; rfl
      have q4 : whQ l p = Shp.wh l p := by unfold whQ; rw [if_pos q3]
      rw [q3, q4]
      (repeat' (first | exact trivial | exact fun h => h | refine And.intro ?_ ?_ | (intro hb; first | (simp at hb; done) | (simp at hb) | skip) | omega | exact rfl | exact Nat.le_refl _ | (show _ + 1 ≤ 4294967296; omega) | (dsimp only; omega) | (show (_ : Int) ≤ (_ : Int); omega) | (show _ < List.length _; simp only [List.length_set, List.length_append, List.length_take]; omega) | (show wantB _ _ = true; simp; done) | (show wantB _ _ = true; simp; omega) | (show (_ : Bool) = _; simp_all; done) | (exfalso; omega) | refine aRegion_auto (by decide +kernel) ?_ | refine ⟨_, _, REnt.drop ⟨rfl, rfl⟩, ?_⟩ | fail))
      refine acall_conv [.keep, .dat SpT] _ _ _ rfl trivial (acall_frame0 rfl (placeIn_any _ l p h0 hp _ ?_))
      (repeat' (first | exact trivial | exact fun h => h | refine And.intro ?_ ?_ | (intro hb; first | (simp at hb; done) | (simp at hb) | skip) | omega | exact rfl | exact Nat.le_refl _ | (show _ + 1 ≤ 4294967296; omega) | (dsimp only; omega) | (show (_ : Int) ≤ (_ : Int); omega) | (show _ < List.length _; simp only [List.length_set, List.length_append, List.length_take]; omega) | (show wantB _ _ = true; simp; done) | (show wantB _ _ = true; simp; omega) | (show (_ : Bool) = _; simp_all; done) | (exfalso; omega) | refine aRegion_auto (by decide +kernel) ?_ | refine ⟨_, _, REnt.drop ⟨rfl, rfl⟩, ?_⟩ | fail))
      rw [show (bif true then Shp.wh l p == Shp.wh l p else false) = true from beq_self_eq_true (Shp.wh l p)]
      exact hK
  · have q1 : arE l = 0 := by unfold arE; rw [if_neg h0]
    have q2 : smE l = false := by unfold smE; rw [if_neg h0]
    have q3 : whE l p = ringE l := by unfold whE; rw [if_neg h0]
    have q4 : whQ l p = 0 := by unfold whQ; rw [q3, if_neg h0]
    rw [q1, q2, q3, q4]
    (repeat' (first | exact trivial | exact fun h => h | refine And.intro ?_ ?_ | (intro hb; first | (simp at hb; done) | (simp at hb) | skip) | omega | exact rfl | exact Nat.le_refl _ | (show _ + 1 ≤ 4294967296; omega) | (dsimp only; omega) | (show (_ : Int) ≤ (_ : Int); omega) | (show _ < List.length _; simp only [List.length_set, List.length_append, List.length_take]; omega) | (show wantB _ _ = true; simp; done) | (show wantB _ _ = true; simp; omega) | (show (_ : Bool) = _; simp_all; done) | (exfalso; omega) | refine aRegion_auto (by decide +kernel) ?_ | refine ⟨_, _, REnt.drop ⟨rfl, rfl⟩, ?_⟩ | fail))
    refine acall_frame0 rfl (coded_mercatorlaw5 hE (by omega) (ringE l) _ ?_)
    rw [decide_eq_true rfl]
    (repeat' (first | exact trivial | exact fun h => h | refine And.intro ?_ ?_ | (intro hb; first | (simp at hb; done) | (simp at hb) | skip) | omega | exact rfl | exact Nat.le_refl _ | (show _ + 1 ≤ 4294967296; omega) | (dsimp only; omega) | (show (_ : Int) ≤ (_ : Int); omega) | (show _ < List.length _; simp only [List.length_set, List.length_append, List.length_take]; omega) | (show wantB _ _ = true; simp; done) | (show wantB _ _ = true; simp; omega) | (show (_ : Bool) = _; simp_all; done) | (exfalso; omega) | refine aRegion_auto (by decide +kernel) ?_ | refine ⟨_, _, REnt.drop ⟨rfl, rfl⟩, ?_⟩ | fail))
    refine acall_frame0 rfl (coded_mercatorlaw5 hE (by omega) (ringE l) _ ?_)
    rw [decide_eq_true rfl]
    (repeat' (first | exact trivial | exact fun h => h | refine And.intro ?_ ?_ | (intro hb; first | (simp at hb; done) | (simp at hb) | skip) | omega | exact rfl | exact Nat.le_refl _ | (show _ + 1 ≤ 4294967296; omega) | (dsimp only; omega) | (show (_ : Int) ≤ (_ : Int); omega) | (show _ < List.length _; simp only [List.length_set, List.length_append, List.length_take]; omega) | (show wantB _ _ = true; simp; done) | (show wantB _ _ = true; simp; omega) | (show (_ : Bool) = _; simp_all; done) | (exfalso; omega) | refine aRegion_auto (by decide +kernel) ?_ | refine ⟨_, _, REnt.drop ⟨rfl, rfl⟩, ?_⟩ | fail))
    refine acall_frame0 rfl (coded_mercatorlaw5 hE (by omega) (ringE l) _ ?_)
    rw [decide_eq_true rfl]
    (repeat' (first | exact trivial | exact fun h => h | refine And.intro ?_ ?_ | (intro hb; first | (simp at hb; done) | (simp at hb) | skip) | omega | exact rfl | exact Nat.le_refl _ | (show _ + 1 ≤ 4294967296; omega) | (dsimp only; omega) | (show (_ : Int) ≤ (_ : Int); omega) | (show _ < List.length _; simp only [List.length_set, List.length_append, List.length_take]; omega) | (show wantB _ _ = true; simp; done) | (show wantB _ _ = true; simp; omega) | (show (_ : Bool) = _; simp_all; done) | (exfalso; omega) | refine aRegion_auto (by decide +kernel) ?_ | refine ⟨_, _, REnt.drop ⟨rfl, rfl⟩, ?_⟩ | fail))
    exact hK
end Go.Proofs.YtdbgkhcknaafoaaDoor
/-
  What the laid variables give: eight errors, all different, and the handle of type error.
-/
namespace Go.Proofs.YtdbgkhcknaafoaaDoor
open Go Go.Ab Go.RowKit Go.ChangeShapes
set_option maxRecDepth 100000
theorem star : "*" ++ "errors.errorString" = "*errors.errorString" := by decide
theorem names_at (u : TypeId) (h : Tryd.prog.typeName? 3 u = some "*errors.errorString") : u = 94 :=
  typeName_ptr_named (nm := "errors.errorString") (by rw [star]; kernel_rfl) (by kernel_rfl) (by decide) u (by rw [star]; exact h)
theorem cells_es : Tryd.prog.cellsOf 116 = 1 := by kernel_rfl
theorem cells_str : Tryd.prog.cellsOf 9 = 1 := by kernel_rfl
theorem glob_ty (g : Nat) (hg : g ∈ [2, 1, 0, 3, 4, 5, 6, 7]) :
    ∃ ti ms, (Tryd.prog.globals[g]?).map (·.type) = some ti ∧ Tryd.prog.underlying ti = some (.interface ms) := by
  have : ([2, 1, 0, 3, 4, 5, 6, 7].all fun g => (Tryd.prog.globals[g]?).map (·.type) == some 30) = true := by kernel_rfl
  exact ⟨30, _, by simpa using List.all_eq_true.1 this g hg, Tryd.underlying30⟩
theorem et_at : Tryd.prog.globalNamed "errors.errorType" = some 8 := by kernel_rfl
theorem rt_at : (Tryd.prog.cutTypes.find? (·.1 == "internal/reflectlite.rtype")).map (·.2) = some 80 := by kernel_rfl
theorem one_row : ((List.range Tryd.prog.types.size).filter fun t => Tryd.prog.rowNamed t [101, 114, 114, 111, 114]) = [30] := by kernel_rfl
/-- of a list of the eight errors and the handle -/
theorem globs8 {W : World} {l : List (String × DataW Unit)} {x1 x2 x3 x4 x5 x6 x7 x8 : List UInt8} (h : laidMetH Tryd.prog l W)
    (hl : (l.filter fun x => x.2.handleName?.isNone) = [("mercator/api.ErrText", errD x1), ("mercator/api.ErrBound", errD x2), ("mercator/api.ErrShape", errD x3), ("mercator/api.ErrRange", errD x4), ("mercator/api.ErrName", errD x5), ("mercator/api.ErrNone", errD x6), ("mercator/api.ErrOrder", errD x7), ("mercator/api.ErrFile", errD x8)])
    (hh : (l.filter fun x => x.2.handleName?.isSome) = [("errors.errorType", .iface "internal/reflectlite.rtype" (.agg [.ptr (.lit (.string [101, 114, 114, 111, 114]))]))]) :
    ∃ E : Errs, (EL E).Nodup ∧ ∀ g v, gk (G8 E) g = some v → Glo0 W g v := by
  obtain ⟨h1, h2⟩ := laidMetH_iff.1 h
  rw [hl] at h1
  rw [hh] at h2
  obtain ⟨ps, hv, hn, hall⟩ := h1
  obtain ⟨al, k1, k2, k3, _⟩ := laid_errs names_at Tryd.underlying94 Tryd.underlying116 rfl rfl Tryd.underlying9 cells_es cells_str
    [("mercator/api.ErrText", x1), ("mercator/api.ErrBound", x2), ("mercator/api.ErrShape", x3), ("mercator/api.ErrRange", x4), ("mercator/api.ErrName", x5), ("mercator/api.ErrNone", x6), ("mercator/api.ErrOrder", x7), ("mercator/api.ErrFile", x8)]
    [2, 1, 0, 3, 4, 5, 6, 7] ps hv hn hall (by kernel_rfl) glob_ty
  obtain ⟨a1, a2, a3, a4, a5, a6, a7, a8, rfl⟩ : ∃ a1 a2 a3 a4 a5 a6 a7 a8, al = [a1, a2, a3, a4, a5, a6, a7, a8] := by
    match al, k1 with
    | [a1, a2, a3, a4, a5, a6, a7, a8], _ => exact ⟨a1, a2, a3, a4, a5, a6, a7, a8, rfl⟩
  have hE : Glo0 W 8 asK.errType := by
    obtain ⟨name, u, ty, e1, e2, e3, e4, e5⟩ := h2 _ (List.mem_singleton.2 rfl)
    have en : name = [101, 114, 114, 111, 114] := (Option.some.inj e1).symm
    subst en
    obtain rfl := Option.some.inj (rt_at.symm.trans e2)
    have hm : ty ∈ (List.range Tryd.prog.types.size).filter fun t => Tryd.prog.rowNamed t [101, 114, 114, 111, 114] := List.mem_filter.2 ⟨List.mem_range.2 e3, e4⟩
    rw [one_row] at hm
    obtain rfl := List.mem_singleton.1 hm
    have hh : typeHandle Tryd.prog 30 = .pointer (some ⟨9, 30, none⟩) := by kernel_rfl
    rw [hh] at e5
    exact ⟨by simpa [asK.errType] using World.var?_cell et_at e5 0, rfl, fun T a e => by cases e⟩
  refine ⟨⟨a1, a2, a3, a4, a5, a6, a7, a8⟩, k2, fun g v hg => ?_⟩
  unfold G8 gk at hg
  split at hg
  · rename_i e; subst e; cases hg; exact k3 2 _ _ rfl rfl
  unfold gk at hg
  split at hg
  · rename_i e; subst e; cases hg; exact k3 3 _ _ rfl rfl
  unfold gk at hg
  split at hg
  · rename_i e; subst e; cases hg; exact k3 1 _ _ rfl rfl
  unfold gk at hg
  split at hg
  · rename_i e; subst e; cases hg; exact k3 0 _ _ rfl rfl
  unfold gk at hg
  split at hg
  · rename_i e; subst e; cases hg; exact k3 4 _ _ rfl rfl
  unfold gk at hg
  split at hg
  · rename_i e; subst e; cases hg; exact k3 5 _ _ rfl rfl
  unfold gk at hg
  split at hg
  · rename_i e; subst e; cases hg; exact k3 6 _ _ rfl rfl
  unfold gk at hg
  split at hg
  · rename_i e; subst e; cases hg; exact k3 7 _ _ rfl rfl
  unfold gk at hg
  split at hg
  · rename_i e; subst e; cases hg; exact hE
  · cases hg
end Go.Proofs.YtdbgkhcknaafoaaDoor
/-
  Arguments read again behind a call that leaves old memory alone; a slice of points opened.
-/
namespace Go.Proofs.YtdbgkhcknaafoaaDoor
open Go Go.ChangeShapes Go.WideShapes Go.ChangeAt Go.RowKit
theorem trodAll_below {H : Type} {enc : TypeId × Value → H} {P : Program} (hl : laidOutB P = true) {W W' : World} (hb : Below W.heap.size W W') :
    ∀ (ts : List TypeId) (vs : List Value) (ds : List (DataW H)) (ps : List MemPlace), (∀ t ∈ ts, P.readableRec t = true ∧ t < P.types.size) →
      DataW.TrodAll enc P W 0 (fun _ => true) true ts vs ds ps → (∀ x ∈ ps, x.block < W.heap.size) →
      DataW.TrodAll enc P W' 0 (fun b => decide (b < W.heap.size)) true ts vs ds ps
  | [], [], [], ps, _, h, _ => h
  | [], [], _ :: _, _, _, h, _ => h.elim
  | [], _ :: _, _, _, _, h, _ => h.elim
  | _ :: _, [], _, _, _, h, _ => h.elim
  | _ :: _, _ :: _, [], _, _, h, _ => h.elim
  | t :: ts, v :: vs, d :: ds, ps, hr, h, hlt => by
    obtain ⟨p, q, h1, h2, rfl⟩ := h
    refine ⟨p, q, Below.trod hl (hr t (List.mem_cons_self ..)).1 (hr t (List.mem_cons_self ..)).2 h1 hb (fun x hx => hlt x (List.mem_append.2 (.inl hx))), ?_, rfl⟩
    exact trodAll_below hl hb ts vs ds q (fun t ht => hr t (List.mem_cons_of_mem _ ht)) h2 (fun x hx => hlt x (List.mem_append.2 (.inr hx)))
end Go.Proofs.YtdbgkhcknaafoaaDoor
/-
  ShapeRings answers true, whatever it is asked (no condition).
-/
namespace Go.Proofs.YtdbgkhcknaafoaaDoor.shapeRings
open Go Go.ChangeShapes Go.WideShapes Go.ChangeAt Go.RowKit Go.Ab
set_option maxRecDepth 100000
theorem own : ownKnob Tryd.prog.godebug = none := by kernel_rfl
theorem laidOut : laidOutB Tryd.prog = true := by kernel_rfl
theorem lifted (os : Os) (started : os.Started) (H : Type) (enc : TypeId × Value → H) :
    ReturnsInHanded {} Tryd.checked os 4 .any (fun w args => (Rows.shapeRingsSpec.pre enc Tryd.prog Tryd.f4 [] false w args ∧ laidMetH Tryd.prog Rows.shapeRingsRow.laid w) ∧ sizedMet enc Tryd.prog Tryd.f4 (OpenSpec.ofChange Rows.shapeRingsSpec) false w args)
      (Rows.shapeRingsSpec.post enc Tryd.prog Tryd.f4 false true false false) := by
  refine returnsInHanded_of_change_and (C := Tryd.checked) (X := fun w _ => laidMetH Tryd.prog Rows.shapeRingsRow.laid w) (fun _ _ _ hh h => h.of_heap hh) own started (by kernel_rfl) Tryd.func4
    (ChangeSpec.witness_shaped (enc := enc) (C := Tryd.checked) (os := os) (X := fun w _ => laidMetH Tryd.prog Rows.shapeRingsRow.laid w) false (World.doorLaid Tryd.prog 400 os) #[.slice none 0 0, .agg #[.int .i64 0, .int .i64 0]] 8 rfl (World.shaped_of_RefB (by kernel_rfl) (by kernel_rfl)) (by kernel_rfl) (by kernel_rfl) (by kernel_rfl)
      (laidMetH_of_parts3 (fuel := 8) (laidMet_of_run' 8 (by kernel_rfl) (by kernel_rfl)) (by kernel_rfl) (by kernel_rfl))) ?_
  intro W base args ds gs before hval0 hW _ _ hL _
  have hval : ∀ (j : Nat) t v, Tryd.f4.params[j]? = some t → args[j]? = some v → Value.okWide Tryd.prog W .any base t v := hval0
  have hW' := hW
  obtain ⟨p, q, hA0, hV, rfl, hfz, hnd⟩ := hW
  have hA : DataW.TrodAll enc Tryd.prog W 0 (fun _ => true) true Tryd.f4.params.toList args.toList ds p := hA0
  obtain ⟨rfl, rfl⟩ := trodVars_none hV
  simp only [List.append_nil] at hW'
  have hAll : ∀ W', Below W.heap.size W W' → DataW.TrodAll enc Tryd.prog W' 0 (fun b => decide (b < W.heap.size)) true Tryd.f4.params.toList args.toList ds p :=
    fun W' hb => trodAll_below laidOut hb _ _ _ _ (by rw [Tryd.params4]; exact of_decide_eq_true (by kernel_rfl)) hA (fun x hx => hW'.lt x hx)
  rw [Tryd.params4] at hA hval
  obtain ⟨v0, vs0, d0, ds0, p0, q0, hargs, rfl, rfl, h0, t0⟩ := trodAll_cons hA
  obtain ⟨v1, vs1, d1, ds1, p1, q1, rfl, rfl, rfl, h1, t1⟩ := trodAll_cons t0
  obtain ⟨rfl, rfl, rfl⟩ := trodAll_nil t1
  obtain rfl : args = #[v0, v1] := by cases args; simp_all
  clear hA0 hval0
  obtain ⟨E, hN, hE⟩ := globs8 hL rfl rfl
  obtain ⟨y0, r0, b0⟩ := open_val (n := 4) (ty := (.list SpT)) tabOk (by kernel_rfl) (G8 E) (hval 0 _ v0 rfl rfl) h0
  obtain ⟨y1, r1, b1⟩ := open_val (n := 3) (ty := SpT) tabOk (by kernel_rfl) (G8 E) (hval 1 _ v1 rfl rfl) h1
  have fin : Calls Tryd.prog 4 #[v0, v1] W fun e w' => e = .returned (.bool true) ∧ Below W.heap.size W w' := by
    have hl0 : y0.length ≤ 9223372036854775807 := by have := b0.1; unfold maxLen at this; omega
    exact acall_true (vs := [v0, v1]) (shapeRings_any hN y0 y1 hl0 _ rfl) hE ⟨_, _, rfl, r0, _, _, rfl, r1, rfl⟩
  refine fin.mono fun e W' ⟨he, hg⟩ => ?_
  subst he
  exact ⟨_, rfl, _, _, _, [], _, [], hW', trodAll_mk1 (shut_bool Tryd.underlying4 _), hAll W' hg, rfl, hg.frame _, fun h => by cases h⟩
theorem row : Rows.ShapeRingsSaid :=
  OpenClaim.holds_of_wide 4 Tryd.f4 rfl rfl rfl rfl rfl rfl rfl ⟨rfl, rfl, rfl, rfl, rfl⟩ rfl rfl rfl rfl rfl (by kernel_rfl) Tryd.func4 (by kernel_rfl)
    (of_decide_eq_true (by kernel_rfl)) (by unfold Func.isWrapper; first | (rw [if_pos (by decide +kernel)]; kernel_rfl) | (rw [if_neg (by decide +kernel)]; exact ⟨rfl, rfl⟩))
    (fun os started H enc _ => lifted os started H enc)
theorem proved : Rows.ShapeRingsCardSaid :=
  Claim7.holds_tied_plain_at .later [] [.handle, .sentinel, .sentinel, .sentinel, .sentinel, .sentinel, .sentinel, .sentinel, .sentinel] true (true, "ee7620bb3eaf53d34e3e1ac1b96749d01c7b7123d319f65c7d4b17ac3916c11a") true
    row (fun _ h => by cases h) (by kernel_rfl) (fun _ h => by cases h) shapeRings_row_tie rfl ⟨rfl, rfl⟩ (by kernel_rfl) rfl
    (fun f fn hf hfn => by
      obtain rfl : f = 4 := Option.some.inj ((show Tryd.prog.funcNamed "mercator/mercatorlaw5.ShapeRings" = some 4 by kernel_rfl).symm.trans hf) |>.symm
      obtain rfl : fn = Tryd.f4 := (Option.some.inj (Tryd.func4.symm.trans hfn)).symm
      exact ⟨by kernel_rfl, fun j t ht => by
        rw [Tryd.params4] at ht
        have hm : t ∈ [22, 24] := by simpa using Array.mem_of_getElem? ht
        have hall : ([22, 24].all fun u => !Tryd.prog.wantsStandIn u) = true := by kernel_rfl
        exact (show Tryd.prog.wantsStandIn t = false by simpa using List.all_eq_true.1 hall t hm)⟩)
    (by kernel_rfl)
end Go.Proofs.YtdbgkhcknaafoaaDoor.shapeRings
