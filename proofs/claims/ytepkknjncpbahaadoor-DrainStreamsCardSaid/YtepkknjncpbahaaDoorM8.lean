/-
  Streams, reach by reach: the walk of the program's.
-/
import Derived.Test.YtepkknjncpbahaaDoorM7
import Derived.LaidHandle
import Derived.LaidSub
import Derived.Test.YtepkknjncpbahaaDoorChecked
import Derived.WalkKit
import Derived.ProofKit
import Derived.OpenShut
import Derived.Carry
import Derived.Test.YtepkknjncpbahaaDoorTie
import Derived.Test.YtepkknjncpbahaaDoorCards
import Derived.SevenTiedAt
import Derived.LaidMore
import Derived.Lay
import Derived.Deep.Slices
import Derived.Lib.SmallJoins
import Derived.Stop.Joined
namespace Go.Proofs.YtepkknjncpbahaaDoor
open Go Go.Ab
set_option maxRecDepth 100000
/-- so far goes a reach: to the first cell into which not just one flows, or that is the last -/
def stopR (to : Nat → Nat) (inn : Nat → Int) (i t : Nat) : Prop := (∀ s, s < t → to (itF to s i) ≠ itF to s i ∧ (0 < s → inn (itF to s i) = 1)) ∧ (to (itF to t i) = itF to t i ∨ (0 < t ∧ inn (itF to t i) ≠ 1))
theorem stopR_one {to : Nat → Nat} {inn : Nat → Int} {i t u : Nat} (h1 : stopR to inn i t) (h2 : stopR to inn i u) : t = u := by
  have key : ∀ {t u : Nat}, stopR to inn i t → stopR to inn i u → ¬ t < u := fun {t u} h1 h2 h => by
    rcases h1.2 with e | ⟨e1, e2⟩
    · exact (h2.1 t h).1 e
    · exact e2 ((h2.1 t h).2 e1)
  have := key h1 h2
  have := key h2 h1
  omega
noncomputable def rcT (to : Nat → Nat) (inn : Nat → Int) (i : Nat) : Nat := Classical.epsilon (stopR to inn i)
theorem rcT_eq {to : Nat → Nat} {inn : Nat → Int} {i t : Nat} (h : stopR to inn i t) : rcT to inn i = t := stopR_one (Classical.epsilon_spec ⟨t, h⟩) h
noncomputable def rcs (to : Nat → Nat) (on : Nat → Bool) (inn : Nat → Int) : Nat → List (List Int)
  | 0 => []
  | k + 1 => if on k = true ∧ inn k ≠ 1 then rcs to on inn k ++ [wyL to k (rcT to inn k)] else rcs to on inn k
theorem rcs_len {to : Nat → Nat} {on : Nat → Bool} {inn : Nat → Int} : ∀ k, (rcs to on inn k).length ≤ k
  | 0 => Nat.le_refl _
  | k + 1 => by
    have := rcs_len (to := to) (on := on) (inn := inn) k
    unfold rcs
    split
    · simp; omega
    · omega
noncomputable def strsQ (a : Ras) (least : Int) : List (List Int) := if strE a least = 0 then rcs (flD a.1.toNat a.2.1.toNat (hts a)).to (onN (gaO a) least) (inN (flD a.1.toNat a.2.1.toNat (hts a)).to (onN (gaO a) least) (a.1.toNat * a.2.1.toNat)) (a.1.toNat * a.2.1.toNat) else []
set_option maxHeartbeats 4000000 in
theorem streamsL_one (E : Errs) (a : Ras) (least : Int) (hl : a.2.2.length ≤ 1000000000000) (K : AV → List AO → Prop) (hK : K (.tup [.fz (.list (.list int)) (strsQ a least), .fz .raw (er E (strE a least))]) []) :
    ACall Tryd.prog (G8 E) 29 [.fz RasT a, .fz int least] [] K := by
  by_cases hv : strE a least = 0
  · have hv0 : rerr a = 0 := by
      unfold strE at hv
      split at hv
      · assumption
      · exact hv
    have R := RasN.mk' hv0
    have F := flowN a.1.toNat a.2.1.toNat (hts a) R.w0
    have hln := R.len
    have hwh := R.wh
    have eQ : strQ a least = strNet a least := by unfold strQ; rw [if_pos hv]
    have eN : strNet a least = ((lst (a.1.toNat * a.2.1.toNat) (flD a.1.toNat a.2.1.toNat (hts a)).fill, lst (a.1.toNat * a.2.1.toNat) (fun i => wayN a.1.toNat i ((flD a.1.toNat a.2.1.toNat (hts a)).to i)), natL (flD a.1.toNat a.2.1.toNat (hts a)).ord), lsb (a.1.toNat * a.2.1.toNat) (onN (gaO a) least), lst (a.1.toNat * a.2.1.toNat) (inN (flD a.1.toNat a.2.1.toNat (hts a)).to (onN (gaO a) least) (a.1.toNat * a.2.1.toNat))) := rfl
    unfold strsQ at hK
    rw [if_pos hv, hv] at hK
    refine acall_mk (E := envCut (G8 E) 78 0 [15]) (envCutOk _ _ _ _) Tryd.func29 rfl rfl rfl rfl rfl ?_
    (repeat' (first | exact trivial | exact fun h => h | refine And.intro ?_ ?_ | (intro hb; first | (simp at hb; done) | (simp at hb) | skip) | omega | exact rfl | exact Nat.le_refl _ | (show _ + 1 ≤ 4294967296; omega) | (dsimp only; omega) | (show (_ : Int) ≤ (_ : Int); omega) | (show _ < List.length _; simp only [List.length_set, List.length_append, List.length_take]; omega) | (show wantB _ _ = true; simp; done) | (show wantB _ _ = true; simp; omega) | (show (_ : Bool) = _; simp_all; done) | (exfalso; omega) | fail))
    refine acall_conv [.dat RasT, .keep] _ _ _ rfl trivial (acall_frame0 rfl (streams_two E a least hl _ ?_))
    rw [hv, eQ, eN]
    generalize onN (gaO a) least = on at *
    generalize (flD a.1.toNat a.2.1.toNat (hts a)).to = to at *
    generalize (flD a.1.toNat a.2.1.toNat (hts a)).ord = ord at *
    generalize lst (a.1.toNat * a.2.1.toNat) (flD a.1.toNat a.2.1.toNat (hts a)).fill = fill at *
    obtain ⟨w, hw⟩ : ∃ w, w = a.1.toNat := ⟨_, rfl⟩
    obtain ⟨h, hh⟩ : ∃ h, h = a.2.1.toNat := ⟨_, rfl⟩
    obtain ⟨n, hn⟩ : ∃ n, n = w * h := ⟨_, rfl⟩
    clear eN eQ
    rw [← hw, ← hh] at R F hln hwh hK ⊢
    rw [← hn] at hln hwh hK ⊢
    generalize inN to on n = inn at *
    have hLb := lsb_len n on
    have hLi := lst_len n inn
    have hLw := lst_len n (fun i => wayN w i (to i))
    let bA : AO := .box [.fz int a.1, .fz int a.2.1, .fz (.list int) a.2.2]
    let bN : AO := .box [.fz (.list int) fill, .fz (.list int) (lst n (fun i => wayN w i (to i))), .fz (.list int) (natL ord), .fz (.list .bool) (lsb n on), .fz (.list int) (lst n inn)]
    (repeat' (first | exact trivial | exact fun h => h | refine And.intro ?_ ?_ | (intro hb; first | (simp at hb; done) | (simp at hb) | skip) | omega | exact rfl | exact Nat.le_refl _ | (show _ + 1 ≤ 4294967296; omega) | (dsimp only; omega) | (show (_ : Int) ≤ (_ : Int); omega) | (show _ < List.length _; simp only [List.length_set, List.length_append, List.length_take]; omega) | (show wantB _ _ = true; simp; done) | (show wantB _ _ = true; simp; omega) | (show (_ : Bool) = _; simp_all; done) | (exfalso; omega) | fail))
    refine ⟨Nat, fun i => ⟨[(2, .ptr 0 0), (6, .ptr 1 0), (8, .ref 2 0 (rcs to on inn i).length), (23, .fz (.list .bool) (lsb n on)), (24, .fz int n), (25, .fz int i)], [bA, bN, .row (.list int) (rcs to on inn i)]⟩, fun i => i ≤ n, fun i => n - i, 0, Nat.zero_le _, (Ent.nil 8 (.list int) rfl).trans (Ent.sub ?_ ?_), ?_⟩
    · (repeat' (first | exact rfl | refine cons_eq ?_ ?_))
    · (repeat' (first | exact trivial | exact rfl | refine And.intro ?_ ?_))
      exact congrArg (fun k => AV.fz int ((k : Nat) : Int)) hLb
    intro i hi
    have hrl := rcs_len (to := to) (on := on) (inn := inn) i
    by_cases hin : i < n
    · have q1 : List.getD (lsb n on) (Int.toNat (i : Int)) Ty.bool.dft = on i := lsb_at _ hin
      have q2 : List.getD (lst n inn) (Int.toNat (i : Int)) int.dft = inn i := lst_at _ hin
      have q3 : (lsb n on)[i]?.getD Ty.bool.dft = on i := lsb_get _ hin
      have q4 : (lst n inn)[i]?.getD int.dft = inn i := lst_get _ hin
      by_cases hst : on i = true ∧ inn i ≠ 1
      · have eR : rcs to on inn (i + 1) = rcs to on inn i ++ [wyL to i (rcT to inn i)] := by
          show (if on i = true ∧ inn i ≠ 1 then _ else _) = _
          rw [if_pos hst]
        obtain ⟨hs1, hs2⟩ := hst
        (repeat' (first | exact trivial | exact fun h => h | refine And.intro ?_ ?_ | (intro hb; first | (simp at hb; done) | (simp at hb) | skip) | omega | exact rfl | exact Nat.le_refl _ | (show _ + 1 ≤ 4294967296; omega) | (dsimp only; omega) | (show (_ : Int) ≤ (_ : Int); omega) | (show _ < List.length _; simp only [List.length_set, List.length_append, List.length_take]; omega) | (show wantB _ _ = true; simp; done) | (show wantB _ _ = true; simp; omega) | (show (_ : Bool) = _; simp_all; done) | (exfalso; omega) | fail))
        · exfalso
          rcases hb with e | e
          · rw [q3, hs1] at e; cases e
          · exact hs2 (q4.symm.trans e)
        have hlt := fun t => F.it_lt (i := i) (by omega) t
        rw [← hn] at hlt
        have hx := fun t => F.idx (by have := hlt t; omega : itF to t i < w * h)
        rw [← hn] at hx
        have hx0 : ord.idxOf i < n := hx 0
        refine ⟨Nat, fun t => ⟨[(2, .ptr 0 0), (6, .ptr 1 0), (8, .ref 2 0 (rcs to on inn i).length), (9, .fz int i), (11, .ref 3 0 (t + 1)), (12, .fz int (itF to t i)), (23, .fz (.list .bool) (lsb n on)), (24, .fz int n), (25, .fz int i)], [bA, bN, .row (.list int) (rcs to on inn i), .row int (wyL to i t)]⟩, fun t => (∀ s, s < t → to (itF to s i) ≠ itF to s i ∧ (0 < s → inn (itF to s i) = 1)) ∧ (0 < t → inn (itF to t i) = 1) ∧ ord.idxOf (itF to t i) + t ≤ ord.idxOf i, fun t => ord.idxOf (itF to t i), 0, ⟨(fun s hs => absurd hs (Nat.not_lt_zero s)), (fun h => absurd h (Nat.lt_irrefl 0)), Nat.le_refl _⟩, Ent.sub ?_ ?_, ?_⟩
        · (repeat' (first | exact rfl | refine cons_eq ?_ ?_))
        · (repeat' (first | exact trivial | exact rfl | refine And.intro ?_ ?_))
        intro t ⟨hs, hs0, hsum⟩
        have hc := hlt t
        have hW := wyL_len to i t
        have g2 : (lst n (fun i => wayN w i (to i)))[itF to t i]?.getD int.dft = wayN w (itF to t i) (to (itF to t i)) := lst_get _ hc
        by_cases he : to (itF to t i) = itF to t i
        · have hw8 : wayN w (itF to t i) (to (itF to t i)) = 8 := by rw [he, way_self]
          have ht : rcT to inn i = t := rcT_eq ⟨hs, .inl he⟩
          rw [ht] at eR
          (repeat' (first | exact trivial | exact fun h => h | refine And.intro ?_ ?_ | (intro hb; first | (simp at hb; done) | (simp at hb) | skip) | omega | exact rfl | exact Nat.le_refl _ | (show _ + 1 ≤ 4294967296; omega) | (dsimp only; omega) | (show (_ : Int) ≤ (_ : Int); omega) | (show _ < List.length _; simp only [List.length_set, List.length_append, List.length_take]; omega) | (show wantB _ _ = true; simp; done) | (show wantB _ _ = true; simp; omega) | (show (_ : Bool) = _; simp_all; done) | (exfalso; omega) | fail))
          refine ⟨[(2, .ptr 0 0), (6, .ptr 1 0), (8, .ref 2 0 (rcs to on inn i).length), (11, .fz (.list int) (wyL to i (t))), (23, .fz (.list .bool) (lsb n on)), (24, .fz int n), (25, .fz int i)], [bA, bN, .row (.list int) (rcs to on inn i)], (Ent.conv 11 (.dat (.list int)) _ rfl ?_).trans (Ent.ren [0, 1, 2] rfl ?_ ?_), ?_⟩
          · show 0 + (t + 1) ≤ _; omega
          · (repeat' (first | exact trivial | exact rfl | refine And.intro ?_ ?_))
          · (repeat' (first | exact trivial | exact rfl | refine And.intro ?_ ?_))
            exact congrArg (AV.fz (.list int)) (by rw [List.drop_zero, List.take_of_length_le (by omega)])
          (repeat' (first | exact trivial | exact fun h => h | refine And.intro ?_ ?_ | (intro hb; first | (simp at hb; done) | (simp at hb) | skip) | omega | exact rfl | exact Nat.le_refl _ | (show _ + 1 ≤ 4294967296; omega) | (dsimp only; omega) | (show (_ : Int) ≤ (_ : Int); omega) | (show _ < List.length _; simp only [List.length_set, List.length_append, List.length_take]; omega) | (show wantB _ _ = true; simp; done) | (show wantB _ _ = true; simp; omega) | (show (_ : Bool) = _; simp_all; done) | (exfalso; omega) | fail))
          refine ⟨i + 1, by show i + 1 ≤ n; omega, by show n - (i + 1) < n - i; omega, Ent.ren [0, 1, 4] rfl ?_ ?_⟩
          · (repeat' (first | exact trivial | exact rfl | refine And.intro ?_ ?_))
            show some (AO.row (.list int) (List.take (rcs to on inn i).length (rcs to on inn i) ++ [wyL to i (t)])) = some (AO.row (.list int) (rcs to on inn (i + 1)))
            rw [eR, List.take_of_length_le (Nat.le_refl _)]
          · (repeat' (first | exact trivial | exact rfl | refine And.intro ?_ ?_))
            show AV.ref 4 0 ((rcs to on inn i).length + 1) = AV.ref 4 0 (rcs to on inn (i + 1)).length
            rw [eR]; simp
        · obtain ⟨v, hv8, hwv, hnb⟩ := way_to (w := w) (h := h) (i := itF to t i) (t := to (itF to t i)) (by omega) (by have := F.lt (itF to t i) (by omega); omega) (touchN_symm (F.touch _ (by omega) he))
          have g2' : List.getD (lst n (fun i => wayN w i (to i))) (Int.toNat ((itF to t i : Nat) : Int)) int.dft = wayN w (itF to t i) (to (itF to t i)) := lst_at _ hc
          have hd := F.pos _ (by omega) he
          have hc1 := hlt (t + 1)
          have hsum' : ord.idxOf (to (itF to t i)) + (t + 1) ≤ ord.idxOf i := by omega
          have hs' : ∀ s, s < t + 1 → to (itF to s i) ≠ itF to s i ∧ (0 < s → inn (itF to s i) = 1) := fun s h1 => by
            by_cases e : s = t
            · subst e; exact ⟨he, hs0⟩
            · exact hs s (by omega)
          have q5 : (lst n inn)[itF to (t + 1) i]?.getD int.dft = inn (itF to (t + 1) i) := lst_get _ hc1
          have q6 : (lst n inn)[to (itF to t i)]?.getD int.dft = inn (itF to (t + 1) i) := q5
          have htn : to (itF to t i) < n := hc1
          have eL : List.take (t + 1) (wyL to i t) ++ [((itF to (t + 1) i : Nat) : Int)] = wyL to i (t + 1) := by rw [List.take_of_length_le (by omega), wyL_succ]
          (repeat' (first | exact trivial | exact fun h => h | refine And.intro ?_ ?_ | (intro hb; first | (simp at hb; done) | (simp at hb) | skip) | omega | exact rfl | exact Nat.le_refl _ | (show _ + 1 ≤ 4294967296; omega) | (dsimp only; omega) | (show (_ : Int) ≤ (_ : Int); omega) | (show _ < List.length _; simp only [List.length_set, List.length_append, List.length_take]; omega) | (show wantB _ _ = true; simp; done) | (show wantB _ _ = true; simp; omega) | (show (_ : Bool) = _; simp_all; done) | (exfalso; omega) | refine aRegion_auto (by decide +kernel) ?_ | fail))
          rw [g2', hwv]
          apply exEff
          · refine acall_conv [.dat RasT, .keep, .keep] _ _ _ rfl trivial (acall_frame0 rfl (neighbour_any _ a R (itF to t i) v (by omega) hv8 _ (fun u hu => ?_) (fun hnone => ?_)))
            · rw [hnb] at hu; cases hu; exact ⟨rfl, rfl⟩
            · rw [hnb] at hnone; cases hnone
          by_cases hin1 : inn (itF to (t + 1) i) = 1
          · (repeat' (first | exact trivial | exact fun h => h | refine And.intro ?_ ?_ | (intro hb; first | (simp at hb; done) | (simp at hb) | skip) | omega | exact rfl | exact Nat.le_refl _ | (show _ + 1 ≤ 4294967296; omega) | (dsimp only; omega) | (show (_ : Int) ≤ (_ : Int); omega) | (show _ < List.length _; simp only [List.length_set, List.length_append, List.length_take]; omega) | (show wantB _ _ = true; simp; done) | (show wantB _ _ = true; simp; omega) | (show (_ : Bool) = _; simp_all; done) | (exfalso; omega) | refine aRegion_auto (by decide +kernel) ?_ | fail))
            refine ⟨t + 1, ⟨hs', (fun _ => hin1), hsum'⟩, hd, Ent.ren [0, 1, 2, 5] rfl ?_ ?_⟩
            · (repeat' (first | exact trivial | exact rfl | refine And.intro ?_ ?_))
              exact congrArg (fun l => some (AO.row int l)) eL
            · (repeat' (first | exact trivial | exact rfl | refine And.intro ?_ ?_))
          · have ht : rcT to inn i = t + 1 := rcT_eq ⟨hs', .inr ⟨by omega, hin1⟩⟩
            rw [ht] at eR
            (repeat' (first | exact trivial | exact fun h => h | refine And.intro ?_ ?_ | (intro hb; first | (simp at hb; done) | (simp at hb) | skip) | omega | exact rfl | exact Nat.le_refl _ | (show _ + 1 ≤ 4294967296; omega) | (dsimp only; omega) | (show (_ : Int) ≤ (_ : Int); omega) | (show _ < List.length _; simp only [List.length_set, List.length_append, List.length_take]; omega) | (show wantB _ _ = true; simp; done) | (show wantB _ _ = true; simp; omega) | (show (_ : Bool) = _; simp_all; done) | (exfalso; omega) | fail))
            refine ⟨[(2, .ptr 0 0), (6, .ptr 1 0), (8, .ref 2 0 (rcs to on inn i).length), (11, .fz (.list int) (wyL to i (t + 1))), (23, .fz (.list .bool) (lsb n on)), (24, .fz int n), (25, .fz int i)], [bA, bN, .row (.list int) (rcs to on inn i)], (Ent.conv 11 (.dat (.list int)) _ rfl ?_).trans (Ent.ren [0, 1, 2] rfl ?_ ?_), ?_⟩
            · show 0 + (t + 1 + 1) ≤ List.length (List.take (t + 1) (wyL to i t) ++ [((itF to (t + 1) i : Nat) : Int)])
              rw [eL, wyL_len]; omega
            · (repeat' (first | exact trivial | exact rfl | refine And.intro ?_ ?_))
            · (repeat' (first | exact trivial | exact rfl | refine And.intro ?_ ?_))
              refine congrArg (AV.fz (.list int)) (?_ : List.take (t + 1 + 1) (List.drop 0 (List.take (t + 1) (wyL to i t) ++ [((itF to (t + 1) i : Nat) : Int)])) = wyL to i (t + 1))
              rw [eL, List.drop_zero, List.take_of_length_le (by rw [wyL_len]; omega)]
            (repeat' (first | exact trivial | exact fun h => h | refine And.intro ?_ ?_ | (intro hb; first | (simp at hb; done) | (simp at hb) | skip) | omega | exact rfl | exact Nat.le_refl _ | (show _ + 1 ≤ 4294967296; omega) | (dsimp only; omega) | (show (_ : Int) ≤ (_ : Int); omega) | (show _ < List.length _; simp only [List.length_set, List.length_append, List.length_take]; omega) | (show wantB _ _ = true; simp; done) | (show wantB _ _ = true; simp; omega) | (show (_ : Bool) = _; simp_all; done) | (exfalso; omega) | fail))
            refine ⟨i + 1, by show i + 1 ≤ n; omega, by show n - (i + 1) < n - i; omega, Ent.ren [0, 1, 4] rfl ?_ ?_⟩
            · (repeat' (first | exact trivial | exact rfl | refine And.intro ?_ ?_))
              show some (AO.row (.list int) (List.take (rcs to on inn i).length (rcs to on inn i) ++ [wyL to i (t + 1)])) = some (AO.row (.list int) (rcs to on inn (i + 1)))
              rw [eR, List.take_of_length_le (Nat.le_refl _)]
            · (repeat' (first | exact trivial | exact rfl | refine And.intro ?_ ?_))
              show AV.ref 4 0 ((rcs to on inn i).length + 1) = AV.ref 4 0 (rcs to on inn (i + 1)).length
              rw [eR]; simp
      · have eR : rcs to on inn (i + 1) = rcs to on inn i := by
          show (if on i = true ∧ inn i ≠ 1 then _ else _) = _
          rw [if_neg hst]
        (repeat' (first | exact trivial | exact fun h => h | refine And.intro ?_ ?_ | (intro hb; first | (simp at hb; done) | (simp at hb) | skip) | omega | exact rfl | exact Nat.le_refl _ | (show _ + 1 ≤ 4294967296; omega) | (dsimp only; omega) | (show (_ : Int) ≤ (_ : Int); omega) | (show _ < List.length _; simp only [List.length_set, List.length_append, List.length_take]; omega) | (show wantB _ _ = true; simp; done) | (show wantB _ _ = true; simp; omega) | (show (_ : Bool) = _; simp_all; done) | (exfalso; omega) | fail))
        · refine ⟨i + 1, by show i + 1 ≤ n; omega, by show n - (i + 1) < n - i; omega, Ent.sub ?_ ?_⟩
          · show [bA, bN, AO.row (.list int) (rcs to on inn i)] = [bA, bN, AO.row (.list int) (rcs to on inn (i + 1))]
            rw [eR]
          · show subT _ [(2, .ptr 0 0), (6, .ptr 1 0), (8, .ref 2 0 (rcs to on inn (i + 1)).length), (23, .fz (.list .bool) (lsb n on)), (24, .fz int n), (25, .fz int ((i + 1 : Nat) : Int))]
            rw [eR]
            (repeat' (first | exact trivial | exact rfl | refine And.intro ?_ ?_))
        · exfalso
          exact hst ⟨q3.symm.trans hb.1, fun e => hb.2 (q4.trans e)⟩
    · have hie : i = n := by omega
      subst hie
      (repeat' (first | exact trivial | exact fun h => h | refine And.intro ?_ ?_ | (intro hb; first | (simp at hb; done) | (simp at hb) | skip) | omega | exact rfl | exact Nat.le_refl _ | (show _ + 1 ≤ 4294967296; omega) | (dsimp only; omega) | (show (_ : Int) ≤ (_ : Int); omega) | (show _ < List.length _; simp only [List.length_set, List.length_append, List.length_take]; omega) | (show wantB _ _ = true; simp; done) | (show wantB _ _ = true; simp; omega) | (show (_ : Bool) = _; simp_all; done) | (exfalso; omega) | fail))
      refine ⟨_, _, (REnt.conv [.dat (.list (.list int)), .keep] _ rfl ?_).trans (REnt.drop ⟨rfl, rfl⟩), ?_⟩
      · (repeat' (first | exact trivial | refine And.intro ?_ ?_ | (show _ ≤ _; omega) | (show _ ≤ _; simp; done)))
      · refine (congrArg (fun l => K (.tup [.fz (.list (.list int)) l, .fz .raw .nilIface]) []) ?_).mp hK
        rw [List.drop_zero, List.take_of_length_le (Nat.le_refl _)]
  · have h4 := rerr_in a
    have h5 : strE a least ≤ 4 := by unfold strE; split <;> (try split) <;> omega
    have eQ : strQ a least = NetT.dft := by unfold strQ; rw [if_neg hv]
    unfold strsQ at hK
    rw [if_neg hv] at hK
    refine acall_mk (E := envAt (G8 E) 78 0) (envOk _ _ _) Tryd.func29 rfl rfl rfl rfl rfl ?_
    (repeat' (first | exact trivial | exact fun h => h | refine And.intro ?_ ?_ | (intro hb; first | (simp at hb; done) | (simp at hb) | skip) | omega | exact rfl | exact Nat.le_refl _ | (show _ + 1 ≤ 4294967296; omega) | (dsimp only; omega) | (show (_ : Int) ≤ (_ : Int); omega) | (show _ < List.length _; simp only [List.length_set, List.length_append, List.length_take]; omega) | (show wantB _ _ = true; simp; done) | (show wantB _ _ = true; simp; omega) | (show (_ : Bool) = _; simp_all; done) | (exfalso; omega) | fail))
    refine acall_conv [.dat RasT, .keep] _ _ _ rfl trivial (acall_frame0 rfl (streams_two E a least hl _ ?_))
    obtain h | h | h | h : strE a least = 1 ∨ strE a least = 2 ∨ strE a least = 3 ∨ strE a least = 4 := by omega
    all_goals
      rw [h] at hK ⊢
      rw [eQ]
      (repeat' (first | exact trivial | exact fun h => h | refine And.intro ?_ ?_ | (intro hb; first | (simp at hb; done) | (simp at hb) | skip) | omega | exact rfl | exact Nat.le_refl _ | (show _ + 1 ≤ 4294967296; omega) | (dsimp only; omega) | (show (_ : Int) ≤ (_ : Int); omega) | (show _ < List.length _; simp only [List.length_set, List.length_append, List.length_take]; omega) | (show wantB _ _ = true; simp; done) | (show wantB _ _ = true; simp; omega) | (show (_ : Bool) = _; simp_all; done) | (exfalso; omega) | fail))
      refine ⟨_, _, (REnt.conv [.dat (.list (.list int)), .keep] _ rfl trivial).trans (REnt.drop ⟨rfl, rfl⟩), ?_⟩
      exact hK
end Go.Proofs.YtepkknjncpbahaaDoor
/-
  The orders of streams: the program's are the document's. Plain.
-/
namespace Go.Proofs.YtepkknjncpbahaaDoor
open Go Go.Ab
/-! ### the greatest of some numbers, and whether two have it -/
def Mx (So : Nat → Int) (P : Nat → Prop) (b : Int) (t : Prop) : Prop := (∀ c, P c → So c ≤ b) ∧ ((b = 0 ∧ ∀ c, ¬ P c) ∨ (1 ≤ b ∧ ∃ c, P c ∧ So c = b)) ∧ (t ↔ ∃ c d, c ≠ d ∧ (P c ∧ So c = b) ∧ (P d ∧ So d = b))
theorem Mx.none {So : Nat → Int} {P : Nat → Prop} (h : ∀ c, ¬ P c) : Mx So P 0 False :=
  ⟨fun c hc => absurd hc (h c), .inl ⟨rfl, h⟩, ⟨fun h => h.elim, fun ⟨c, _, _, h1, _⟩ => h c h1.1⟩⟩
theorem Mx.congr {So : Nat → Int} {P P' : Nat → Prop} {b : Int} {t : Prop} (h : Mx So P b t) (e : ∀ c, P' c ↔ P c) : Mx So P' b t := by
  have : P' = P := funext fun c => propext (e c)
  rw [this]; exact h
theorem Mx.add {So : Nat → Int} {P P' : Nat → Prop} {b : Int} {t : Prop} (h : Mx So P b t) {k : Nat} (hk : ¬ P k) (h1 : 1 ≤ So k) (e : ∀ c, P' c ↔ P c ∨ c = k) :
    (b < So k → Mx So P' (So k) False) ∧ (So k = b → Mx So P' b True) ∧ (So k < b → Mx So P' b t) := by
  obtain ⟨a1, a2, a3⟩ := h
  have ek : P' k := (e k).2 (.inr rfl)
  refine ⟨fun hb => ⟨fun c hc => ?_, .inr ⟨h1, k, ek, rfl⟩, ⟨fun h => h.elim, ?_⟩⟩, fun hb => ⟨fun c hc => ?_, .inr ⟨by omega, k, ek, hb⟩, ⟨fun _ => ?_, fun _ => trivial⟩⟩, fun hb => ⟨fun c hc => ?_, ?_, ?_⟩⟩
  · rcases (e c).1 hc with hc | hc
    · have := a1 c hc; omega
    · rw [hc]; exact Int.le_refl _
  · rintro ⟨c, d, hne, ⟨hc, hc2⟩, ⟨hd, hd2⟩⟩
    rcases (e c).1 hc with hc | hc
    · have := a1 c hc; omega
    · rcases (e d).1 hd with hd | hd
      · have := a1 d hd; omega
      · exact hne (hc.trans hd.symm)
  · rcases (e c).1 hc with hc | hc
    · exact a1 c hc
    · rw [hc, hb]; exact Int.le_refl _
  · rcases a2 with ⟨h0, _⟩ | ⟨_, c, hc, hc2⟩
    · omega
    · exact ⟨c, k, fun e' => hk (e' ▸ hc), ⟨(e c).2 (.inl hc), hc2⟩, ⟨ek, hb⟩⟩
  · rcases (e c).1 hc with hc | hc
    · exact a1 c hc
    · rw [hc]; omega
  · rcases a2 with ⟨h0, _⟩ | ⟨hb1, c, hc, hc2⟩
    · omega
    · exact .inr ⟨hb1, c, (e c).2 (.inl hc), hc2⟩
  · rw [a3]
    constructor
    · rintro ⟨c, d, hne, ⟨hc, hc2⟩, ⟨hd, hd2⟩⟩
      exact ⟨c, d, hne, ⟨(e c).2 (.inl hc), hc2⟩, ⟨(e d).2 (.inl hd), hd2⟩⟩
    · rintro ⟨c, d, hne, ⟨hc, hc2⟩, ⟨hd, hd2⟩⟩
      refine ⟨c, d, hne, ⟨?_, hc2⟩, ⟨?_, hd2⟩⟩
      · rcases (e c).1 hc with hc | hc
        · exact hc
        · rw [hc] at hc2; omega
      · rcases (e d).1 hd with hd | hd
        · exact hd
        · rw [hd] at hd2; omega
theorem Mx.one {So : Nat → Int} {P : Nat → Prop} {b b' : Int} {t t' : Prop} (h : Mx So P b t) (h' : Mx So P b' t') : b = b' ∧ (t ↔ t') := by
  obtain ⟨a1, a2, a3⟩ := h
  obtain ⟨b1, b2, b3⟩ := h'
  have e : b = b' := by
    rcases a2 with ⟨h0, hn⟩ | ⟨h1, c, hc, hc2⟩
    · rcases b2 with ⟨h0', _⟩ | ⟨_, d, hd, _⟩
      · omega
      · exact absurd hd (hn d)
    · rcases b2 with ⟨_, hn⟩ | ⟨_, d, hd, hd2⟩
      · exact absurd hc (hn c)
      · have := a1 d hd
        have := b1 c hc
        omega
  subst e
  exact ⟨rfl, a3.trans b3.symm⟩
/-! ### the program's: water goes down -/
structure StrS where
  o : Nat → Int
  t : Nat → Bool
def sv (S : StrS) (k : Nat) : Int := if S.o k = 0 then 1 else if S.t k = true then S.o k + 1 else S.o k
def stStep (to : Nat → Nat) (on : Nat → Bool) (S : StrS) (k : Nat) : StrS :=
  if on k = true then
    (if to k = k then ⟨fun j => if j = k then sv S k else S.o j, S.t⟩
     else if S.o (to k) < sv S k then ⟨fun j => if j = to k then sv S k else if j = k then sv S k else S.o j, fun j => if j = to k then false else S.t j⟩
     else if sv S k = S.o (to k) then ⟨fun j => if j = k then sv S k else S.o j, fun j => if j = to k then true else S.t j⟩
     else ⟨fun j => if j = k then sv S k else S.o j, S.t⟩)
  else S
def stN (to : Nat → Nat) (ord : List Nat) (on : Nat → Bool) : Nat → StrS
  | 0 => ⟨fun _ => 0, fun _ => false⟩
  | m + 1 => stStep to on (stN to ord on m) (kAt ord m)
section
variable {w h : Nat} {to : Nat → Nat} {ord : List Nat} {on : Nat → Bool}
theorem stStep_o (S : StrS) (k : Nat) : (stStep to on S k).o k = if on k = true then sv S k else S.o k := by
  unfold stStep
  by_cases h1 : on k = true
  · rw [if_pos h1, if_pos h1]
    by_cases h2 : to k = k
    · rw [if_pos h2]; simp
    · rw [if_neg h2]
      by_cases h3 : S.o (to k) < sv S k
      · rw [if_pos h3]; simp
      · rw [if_neg h3]
        by_cases h4 : sv S k = S.o (to k)
        · rw [if_pos h4]; simp
        · rw [if_neg h4]; simp
  · rw [if_neg h1, if_neg h1]
theorem stStep_far (S : StrS) {k j : Nat} (h1 : j ≠ k) (h2 : j ≠ to k) : (stStep to on S k).o j = S.o j ∧ (stStep to on S k).t j = S.t j := by
  unfold stStep
  by_cases h3 : on k = true
  · rw [if_pos h3]
    by_cases h4 : to k = k
    · rw [if_pos h4]; simp [h1]
    · rw [if_neg h4]
      by_cases h5 : S.o (to k) < sv S k
      · rw [if_pos h5]; simp [h1, h2]
      · rw [if_neg h5]
        by_cases h6 : sv S k = S.o (to k)
        · rw [if_pos h6]; simp [h1, h2]
        · rw [if_neg h6]; simp [h1]
  · rw [if_neg h3]; exact ⟨rfl, rfl⟩
theorem stN_bd : ∀ m j, 0 ≤ (stN to ord on m).o j ∧ (stN to ord on m).o j ≤ m
  | 0, j => ⟨Int.le_refl _, Int.le_refl _⟩
  | m + 1, j => by
    have ih := stN_bd m
    have hv : 0 ≤ sv (stN to ord on m) (kAt ord m) ∧ sv (stN to ord on m) (kAt ord m) ≤ (m + 1 : Nat) := by
      have := ih (kAt ord m)
      unfold sv
      split
      · omega
      · split <;> omega
    show 0 ≤ (stStep to on (stN to ord on m) (kAt ord m)).o j ∧ (stStep to on (stN to ord on m) (kAt ord m)).o j ≤ (m + 1 : Nat)
    generalize kAt ord m = k at *
    have := ih j
    unfold stStep
    by_cases h3 : on k = true
    · rw [if_pos h3]
      by_cases h4 : to k = k
      · rw [if_pos h4]
        show 0 ≤ (if j = k then _ else _) ∧ (if j = k then _ else _) ≤ _
        split <;> omega
      · rw [if_neg h4]
        by_cases h5 : (stN to ord on m).o (to k) < sv (stN to ord on m) k
        · rw [if_pos h5]
          show 0 ≤ (if j = to k then _ else if j = k then _ else _) ∧ (if j = to k then _ else if j = k then _ else _) ≤ _
          split
          · omega
          · split <;> omega
        · rw [if_neg h5]
          by_cases h6 : sv (stN to ord on m) k = (stN to ord on m).o (to k)
          · rw [if_pos h6]
            show 0 ≤ (if j = k then _ else _) ∧ (if j = k then _ else _) ≤ _
            split <;> omega
          · rw [if_neg h6]
            show 0 ≤ (if j = k then _ else _) ∧ (if j = k then _ else _) ≤ _
            split <;> omega
    · rw [if_neg h3]; omega
def soN (to : Nat → Nat) (ord : List Nat) (on : Nat → Bool) (n j : Nat) : Int := (stN to ord on n).o j
/-- what is over stays -/
theorem FlowN.st_keep (F : FlowN w h to ord) {j : Nat} (hj : j < w * h) : ∀ d m, m + d = w * h → w * h - m ≤ ord.idxOf j → (stN to ord on m).o j = soN to ord on (w * h) j
  | 0, m, e, _ => by
    obtain rfl : m = w * h := by omega
    rfl
  | d + 1, m, e, hi => by
    rw [← F.st_keep hj d (m + 1) (by omega) (by omega)]
    obtain ⟨k1, k2⟩ := F.kAt (m := m) (by omega)
    refine (stStep_far _ ?_ ?_).1.symm
    · intro e'
      rw [e'] at hi
      omega
    · intro e'
      by_cases ht : to (Go.Proofs.YtepkknjncpbahaaDoor.kAt ord m) = Go.Proofs.YtepkknjncpbahaaDoor.kAt ord m
      · rw [e', ht] at hi; omega
      · have := F.pos _ k1 ht
        rw [e'] at hi
        omega
/-- the stream cells that flow into one, of those that are over -/
def Pc (n : Nat) (to : Nat → Nat) (ord : List Nat) (on : Nat → Bool) (m j c : Nat) : Prop := c < n ∧ to c = j ∧ c ≠ j ∧ on c = true ∧ n - m ≤ ord.idxOf c
theorem sv_pos {S : StrS} {k : Nat} (h : 0 ≤ S.o k) : 1 ≤ sv S k := by
  unfold sv
  split
  · omega
  · split <;> omega
theorem FlowN.st_mx (F : FlowN w h to ord) : ∀ m, m ≤ w * h → ∀ j, j < w * h → ord.idxOf j < w * h - m → Mx (soN to ord on (w * h)) (Pc (w * h) to ord on m j) ((stN to ord on m).o j) ((stN to ord on m).t j = true)
  | 0, _, j, hj, hi => by
    have h0 : ∀ c, ¬ Pc (w * h) to ord on 0 j c := fun c ⟨h1, _, _, _, h2⟩ => by
      have := F.idx h1
      omega
    have h1 : (fun (_ : Unit) => ((stN to ord on 0).t j = true)) () = False := by
      show (false = true) = False
      simp
    have := Mx.none (So := soN to ord on (w * h)) h0
    rw [← h1] at this
    exact this
  | m + 1, hm, j, hj, hi => by
    have ih := F.st_mx m (by omega) j hj (by omega)
    obtain ⟨k1, k2⟩ := F.kAt (m := m) (by omega)
    have hjk : j ≠ Go.Proofs.YtepkknjncpbahaaDoor.kAt ord m := fun e => by rw [e] at hi; omega
    have hso : (stStep to on (stN to ord on m) (Go.Proofs.YtepkknjncpbahaaDoor.kAt ord m)).o (Go.Proofs.YtepkknjncpbahaaDoor.kAt ord m) = soN to ord on (w * h) (Go.Proofs.YtepkknjncpbahaaDoor.kAt ord m) := F.st_keep k1 (w * h - (m + 1)) (m + 1) (by omega) (by omega)
    have hsv := sv_pos (stN_bd (to := to) (ord := ord) (on := on) m (Go.Proofs.YtepkknjncpbahaaDoor.kAt ord m)).1
    show Mx _ _ ((stStep to on (stN to ord on m) (Go.Proofs.YtepkknjncpbahaaDoor.kAt ord m)).o j) ((stStep to on (stN to ord on m) (Go.Proofs.YtepkknjncpbahaaDoor.kAt ord m)).t j = true)
    generalize hS : stN to ord on m = S at *
    generalize hK : Go.Proofs.YtepkknjncpbahaaDoor.kAt ord m = k at *
    have hP : ∀ c, Pc (w * h) to ord on (m + 1) j c ↔ Pc (w * h) to ord on m j c ∨ (c = k ∧ to k = j ∧ on k = true) := fun c => by
      constructor
      · rintro ⟨c1, c2, c3, c4, c5⟩
        by_cases e : c = k
        · exact .inr ⟨e, by rw [← e]; exact c2, by rw [← e]; exact c4⟩
        · refine .inl ⟨c1, c2, c3, c4, ?_⟩
          have : ord.idxOf c ≠ ord.idxOf k := fun e' => e (by
            have e1 := F.kAt_idx c1
            have e2 := F.kAt_idx k1
            rw [e'] at e1
            exact e1.symm.trans e2)
          omega
      · rintro (⟨c1, c2, c3, c4, c5⟩ | ⟨rfl, c2, c3⟩)
        · exact ⟨c1, c2, c3, c4, by omega⟩
        · exact ⟨k1, c2, fun e => hjk e.symm, c3, by omega⟩
    by_cases hto : on k = true ∧ to k = j
    · obtain ⟨h1, h2⟩ := hto
      have hne : to k ≠ k := fun e => hjk (h2.symm.trans e)
      rw [stStep_o, if_pos h1] at hso
      have hnk : ¬ Pc (w * h) to ord on m j k := fun ⟨_, _, _, _, h5⟩ => by omega
      have A := ih.add hnk (by rw [← hso]; exact hsv) (P' := Pc (w * h) to ord on (m + 1) j) fun c => by rw [hP c]; exact ⟨fun h => h.imp_right fun h => h.1, fun h => h.imp_right fun h => ⟨h, h2, h1⟩⟩
      rw [← hso] at A
      unfold stStep
      rw [if_pos h1, if_neg hne, h2]
      by_cases h5 : S.o j < sv S k
      · rw [if_pos h5]
        have := A.1 h5
        simpa using this
      · rw [if_neg h5]
        by_cases h6 : sv S k = S.o j
        · rw [if_pos h6]
          have := A.2.1 h6
          simpa [hjk] using this
        · rw [if_neg h6]
          have := A.2.2 (by omega)
          simpa [hjk] using this
    · have hP' : ∀ c, Pc (w * h) to ord on (m + 1) j c ↔ Pc (w * h) to ord on m j c := fun c => by
        rw [hP c]
        exact ⟨fun h => h.elim id fun h => absurd ⟨h.2.2, h.2.1⟩ hto, .inl⟩
      have : (stStep to on S k).o j = S.o j ∧ (stStep to on S k).t j = S.t j := by
        by_cases h1 : on k = true
        · exact stStep_far _ hjk fun e => hto ⟨h1, e.symm⟩
        · unfold stStep
          rw [if_neg h1]; exact ⟨rfl, rfl⟩
      rw [this.1, this.2]
      exact ih.congr hP'
/-- all stream cells that flow into one -/
def Ac (n : Nat) (to : Nat → Nat) (on : Nat → Bool) (j c : Nat) : Prop := c < n ∧ to c = j ∧ c ≠ j ∧ on c = true
theorem FlowN.so_eq (F : FlowN w h to ord) {j : Nat} (hj : j < w * h) : ∃ b t, Mx (soN to ord on (w * h)) (Ac (w * h) to on j) b (t = true) ∧ soN to ord on (w * h) j = if on j = true then (if b = 0 then 1 else if t = true then b + 1 else b) else b := by
  have hx := F.idx hj
  have hk := F.kAt_idx hj
  have h1 := F.st_mx (on := on) (w * h - 1 - ord.idxOf j) (by omega) j hj (by omega)
  refine ⟨_, _, h1.congr fun c => ?_, ?_⟩
  · constructor
    · rintro ⟨c1, c2, c3, c4⟩
      refine ⟨c1, c2, c3, c4, ?_⟩
      have := F.pos c c1 (by rw [c2]; exact fun e => c3 e.symm)
      rw [c2] at this
      omega
    · rintro ⟨c1, c2, c3, c4, _⟩
      exact ⟨c1, c2, c3, c4⟩
  · rw [← F.st_keep (on := on) hj (w * h - (w * h - 1 - ord.idxOf j + 1)) (w * h - 1 - ord.idxOf j + 1) (by omega) (by omega)]
    show (stStep to on _ (Go.Proofs.YtepkknjncpbahaaDoor.kAt ord (w * h - 1 - ord.idxOf j))).o j = _
    rw [hk, stStep_o]
    rfl
theorem FlowN.so_pos (F : FlowN w h to ord) {j : Nat} (hj : j < w * h) (ho : on j = true) : 1 ≤ soN to ord on (w * h) j := by
  obtain ⟨b, t, ⟨_, h2, _⟩, he⟩ := F.so_eq (on := on) hj
  rw [he, if_pos ho]
  rcases h2 with ⟨h0, _⟩ | ⟨h1, _⟩
  · rw [if_pos h0]; exact Int.le_refl _
  · rw [if_neg (by omega)]
    split <;> omega
theorem FlowN.so_off (F : FlowN w h to ord) (hup : ∀ c, c < w * h → on c = true → to c ≠ c → on (to c) = true) {j : Nat} (hj : j < w * h) (ho : on j = false) : soN to ord on (w * h) j = 0 := by
  obtain ⟨b, t, ⟨_, h2, _⟩, he⟩ := F.so_eq (on := on) hj
  rw [he, if_neg (by rw [ho]; simp)]
  rcases h2 with ⟨h0, _⟩ | ⟨_, c, ⟨c1, c2, c3, c4⟩, _⟩
  · exact h0
  · have := hup c c1 c4 (by rw [c2]; exact fun e => c3 e.symm)
    rw [c2, ho] at this
    cases this
/-! ### the document's: of all that flow into a cell -/
def bmN (So : Nat → Int) (to : Nat → Nat) (on : Nat → Bool) (j : Nat) : Nat → Int × Int
  | 0 => (0, 0)
  | i + 1 => if i = j ∨ to i ≠ j ∨ on i = false then bmN So to on j i else if (bmN So to on j i).1 < So i then (So i, 1) else if So i = (bmN So to on j i).1 then ((bmN So to on j i).1, (bmN So to on j i).2 + 1) else bmN So to on j i
def bmF (b : Int × Int) : Int := if b.1 = 0 then 1 else if 1 < b.2 then b.1 + 1 else b.1
theorem bmN_mx {So : Nat → Int} {j : Nat} : ∀ i, (∀ c, c < i → on c = true → 1 ≤ So c) → Mx So (fun c => c < i ∧ to c = j ∧ c ≠ j ∧ on c = true) (bmN So to on j i).1 (1 < (bmN So to on j i).2) ∧ 0 ≤ (bmN So to on j i).2 ∧ (1 ≤ (bmN So to on j i).1 → 1 ≤ (bmN So to on j i).2) ∧ (bmN So to on j i).2 ≤ i
  | 0, _ => by
    refine ⟨?_, Int.le_refl _, fun h => absurd h (by show ¬ (1 : Int) ≤ 0; omega), Int.le_refl _⟩
    have h0 : ∀ c, ¬ (c < 0 ∧ to c = j ∧ c ≠ j ∧ on c = true) := fun c h => by omega
    have := Mx.none (So := So) h0
    have e : ((1 : Int) < 0) = False := by simp
    show Mx So _ 0 ((1 : Int) < 0)
    rw [e]; exact this
  | i + 1, hp => by
    obtain ⟨ih1, ih2, ih3, ih4⟩ := bmN_mx (So := So) (j := j) i fun c hc => hp c (by omega)
    unfold bmN
    by_cases c1 : i = j ∨ to i ≠ j ∨ on i = false
    · rw [if_pos c1]
      refine ⟨ih1.congr fun c => ?_, ih2, ih3, by omega⟩
      constructor
      · rintro ⟨h1, h2, h3, h4⟩
        refine ⟨?_, h2, h3, h4⟩
        by_cases e : c = i
        · subst e
          rcases c1 with c1 | c1 | c1
          · exact absurd c1 h3
          · exact absurd h2 c1
          · rw [c1] at h4; cases h4
        · omega
      · rintro ⟨h1, h2⟩; exact ⟨by omega, h2⟩
    · have c2 : i ≠ j := fun e => c1 (.inl e)
      have c3 : to i = j := Classical.byContradiction fun e => c1 (.inr (.inl e))
      have c4 : on i = true := by
        cases e : on i with
        | true => rfl
        | false => exact absurd (.inr (.inr e)) c1
      rw [if_neg c1]
      have hi1 := hp i (by omega) c4
      have A := ih1.add (k := i) (P' := fun c => c < i + 1 ∧ to c = j ∧ c ≠ j ∧ on c = true) (fun h => by omega) hi1 fun c => by
        constructor
        · rintro ⟨h1, h2⟩
          by_cases e : c = i
          · exact .inr e
          · exact .inl ⟨by omega, h2⟩
        · rintro (⟨h1, h2⟩ | rfl)
          · exact ⟨by omega, h2⟩
          · exact ⟨by omega, c3, c2, c4⟩
      generalize bmN So to on j i = B at *
      by_cases h5 : B.1 < So i
      · rw [if_pos h5]
        have := A.1 h5
        refine ⟨?_, by show (0 : Int) ≤ 1; omega, fun _ => by show (1 : Int) ≤ 1; omega, by show (1 : Int) ≤ _; omega⟩
        have e : ((1 : Int) < 1) = False := by simp
        show Mx So _ (So i) ((1 : Int) < 1)
        rw [e]; exact this
      · rw [if_neg h5]
        by_cases h6 : So i = B.1
        · rw [if_pos h6]
          have := A.2.1 h6
          refine ⟨?_, by show 0 ≤ B.2 + 1; omega, fun _ => by show 1 ≤ B.2 + 1; omega, by show B.2 + 1 ≤ _; omega⟩
          have e : (1 < B.2 + 1) = True := by
            have := ih3 (by omega)
            simp; omega
          show Mx So _ B.1 (1 < B.2 + 1)
          rw [e]; exact this
        · rw [if_neg h6]
          exact ⟨A.2.2 (by omega), ih2, ih3, by omega⟩
theorem FlowN.so_bm (F : FlowN w h to ord) {j : Nat} (hj : j < w * h) (ho : on j = true) : soN to ord on (w * h) j = bmF (bmN (soN to ord on (w * h)) to on j (w * h)) := by
  obtain ⟨b, t, hm, he⟩ := F.so_eq (on := on) hj
  obtain ⟨hb, _⟩ := bmN_mx (So := soN to ord on (w * h)) (to := to) (on := on) (j := j) (w * h) fun c hc h1 => F.so_pos hc h1
  obtain ⟨e1, e2⟩ := Mx.one hm hb
  rw [he, if_pos ho]
  unfold bmF
  rw [← e1]
  by_cases h0 : b = 0
  · rw [if_pos h0, if_pos h0]
  · rw [if_neg h0, if_neg h0]
    by_cases h1 : t = true
    · rw [if_pos h1, if_pos (e2.1 h1)]
    · rw [if_neg h1, if_neg (fun h => h1 (e2.2 h))]
end
end Go.Proofs.YtepkknjncpbahaaDoor
/-
  The orders of streams: the walk of the program's.
-/
namespace Go.Proofs.YtepkknjncpbahaaDoor
open Go Go.Ab
set_option maxRecDepth 100000
theorem sumN_le {f g : Nat → Int} : ∀ n, (∀ i, i < n → f i ≤ g i) → sumN n f ≤ sumN n g
  | 0, _ => Int.le_refl _
  | n + 1, h => by
    unfold sumN
    have := sumN_le n fun i hi => h i (by omega)
    have := h n (by omega)
    omega
/-- what flows on is a stream there, too -/
theorem FlowN.on_up {w h : Nat} {to : Nat → Nat} {ord : List Nat} (F : FlowN w h to ord) {least : Int} {c : Nat} (hc : c < w * h) (ho : onN (gaN to ord (fun _ => 1) (w * h)) least c = true) (ht : to c ≠ c) : onN (gaN to ord (fun _ => 1) (w * h)) least (to c) = true := by
  unfold onN at *
  have h1 := F.ga_sum (fun _ => 1) (w * h) (Nat.le_refl _) c hc
  have h2 := F.ga_sum (fun _ => 1) (w * h) (Nat.le_refl _) (to c) (F.lt c hc)
  have h3 : sumN (w * h) (fun i => if memN to ord (w * h) i c = true then (1 : Int) else 0) ≤ sumN (w * h) (fun i => if memN to ord (w * h) i (to c) = true then (1 : Int) else 0) := sumN_le _ fun i hi => by
    by_cases e : memN to ord (w * h) i c = true
    · rw [if_pos e, if_pos (F.mem_to hc e ht)]; exact Int.le_refl _
    · rw [if_neg e]; split <;> omega
  have h4 : least ≤ gaN to ord (fun _ => 1) (w * h) c := of_decide_eq_true ho
  exact decide_eq_true (by omega)
def ordQ (a : Ras) (least : Int) : List Int := if strE a least = 0 then lst (a.1.toNat * a.2.1.toNat) (soN (flD a.1.toNat a.2.1.toNat (hts a)).to (flD a.1.toNat a.2.1.toNat (hts a)).ord (onN (gaO a) least) (a.1.toNat * a.2.1.toNat)) else []
set_option maxHeartbeats 8000000 in
theorem strahler_one (E : Errs) (a : Ras) (least : Int) (hl : a.2.2.length ≤ 1000000000000) (K : AV → List AO → Prop) (hK : K (.tup [.fz (.list int) (ordQ a least), .fz .raw (er E (strE a least))]) []) :
    ACall Tryd.prog (G8 E) 30 [.fz RasT a, .fz int least] [] K := by
  by_cases hv : strE a least = 0
  · have hv0 : rerr a = 0 := by
      unfold strE at hv
      split at hv
      · assumption
      · exact hv
    have R := RasN.mk' hv0
    have F := flowN a.1.toNat a.2.1.toNat (hts a) R.w0
    have hln := R.len
    have hwh := R.wh
    have eQ : strQ a least = strNet a least := by unfold strQ; rw [if_pos hv]
    have eN : strNet a least = ((lst (a.1.toNat * a.2.1.toNat) (flD a.1.toNat a.2.1.toNat (hts a)).fill, lst (a.1.toNat * a.2.1.toNat) (fun i => wayN a.1.toNat i ((flD a.1.toNat a.2.1.toNat (hts a)).to i)), natL (flD a.1.toNat a.2.1.toNat (hts a)).ord), lsb (a.1.toNat * a.2.1.toNat) (onN (gaO a) least), lst (a.1.toNat * a.2.1.toNat) (inN (flD a.1.toNat a.2.1.toNat (hts a)).to (onN (gaO a) least) (a.1.toNat * a.2.1.toNat))) := rfl
    unfold ordQ at hK
    rw [if_pos hv, hv] at hK
    refine acall_mkR (E := envCut (G8 E) 116 0 [13]) (envCutOk _ _ _ _) backOk backEnt Tryd.func30 rfl rfl rfl rfl rfl rfl ?_
    (repeat' (first | exact trivial | exact fun h => h | refine And.intro ?_ ?_ | (intro hb; first | (simp at hb; done) | (simp at hb) | skip) | omega | exact rfl | exact Nat.le_refl _ | (show _ + 1 ≤ 4294967296; omega) | (dsimp only; omega) | (show (_ : Int) ≤ (_ : Int); omega) | (show _ < List.length _; simp only [List.length_set, List.length_append, List.length_take]; omega) | (show wantB _ _ = true; simp; done) | (show wantB _ _ = true; simp; omega) | (show (_ : Bool) = _; simp_all; done) | (exfalso; omega) | fail))
    refine acall_conv [.dat RasT, .keep] _ _ _ rfl trivial (acall_frame0 rfl (streams_two E a least hl _ ?_))
    rw [hv, eQ, eN]
    generalize onN (gaO a) least = on at *
    generalize (flD a.1.toNat a.2.1.toNat (hts a)).to = to at *
    generalize (flD a.1.toNat a.2.1.toNat (hts a)).ord = ord at *
    generalize lst (a.1.toNat * a.2.1.toNat) (flD a.1.toNat a.2.1.toNat (hts a)).fill = fill at *
    obtain ⟨w, hw⟩ : ∃ w, w = a.1.toNat := ⟨_, rfl⟩
    obtain ⟨h, hh⟩ : ∃ h, h = a.2.1.toNat := ⟨_, rfl⟩
    obtain ⟨n, hn⟩ : ∃ n, n = w * h := ⟨_, rfl⟩
    clear eN eQ
    rw [← hw, ← hh] at R F hln hwh hK ⊢
    rw [← hn] at hln hwh hK ⊢
    generalize inN to on n = inn at *
    have hLb := lsb_len n on
    have hLw := lst_len n (fun i => wayN w i (to i))
    have n0 : 0 < n := by rw [hn]; exact Nat.mul_pos R.w0 R.h0
    (repeat' (first | exact trivial | exact fun h => h | refine And.intro ?_ ?_ | (intro hb; first | (simp at hb; done) | (simp at hb) | skip) | omega | exact rfl | exact Nat.le_refl _ | (show _ + 1 ≤ 4294967296; omega) | (dsimp only; omega) | (show (_ : Int) ≤ (_ : Int); omega) | (show _ < List.length _; simp only [List.length_set, List.length_append, List.length_take]; omega) | (show wantB _ _ = true; simp; done) | (show wantB _ _ = true; simp; omega) | (show (_ : Bool) = _; simp_all; done) | (exfalso; omega) | refine aRegion_auto (by decide +kernel) ?_ | fail))
    refine acall_frame0 rfl (backward_any _ (natL ord) _ ?_)
    (repeat' (first | exact trivial | exact fun h => h | refine And.intro ?_ ?_ | (intro hb; first | (simp at hb; done) | (simp at hb) | skip) | omega | exact rfl | exact Nat.le_refl _ | (show _ + 1 ≤ 4294967296; omega) | (dsimp only; omega) | (show (_ : Int) ≤ (_ : Int); omega) | (show _ < List.length _; simp only [List.length_set, List.length_append, List.length_take]; omega) | (show wantB _ _ = true; simp; done) | (show wantB _ _ = true; simp; omega) | (show (_ : Bool) = _; simp_all; done) | (exfalso; omega) | fail))
    have hol : (natL ord).length = n := by rw [natL_len, F.len, hn]
    let bA : AO := .box [.fz int a.1, .fz int a.2.1, .fz (.list int) a.2.2]
    let bN : AO := .box [.fz (.list int) fill, .fz (.list int) (lst n (fun i => wayN w i (to i))), .fz (.list int) (natL ord), .fz (.list .bool) (lsb n on), .fz (.list int) (lst n inn)]
    let S : Nat → List AO := fun m => [bA, bN, .row int (lst n (stN to ord on m).o), .box [.ref 2 0 n], .row .bool (lsb n (stN to ord on m).t), .box [.ref 4 0 n], .box [.fz (.list int) (natL ord)]]
    refine ⟨[(2, .ptr 0 0), (6, .ptr 1 0), (8, .ptr 3 0), (9, .ptr 5 0), (34, .fn 61 [.ptr 6 0])], S 0, 6, natL ord, S, Ent.sub ?_ ?_, ⟨rfl, rfl⟩, rfl, by omega, by omega, rfl, fun _ _ => rfl, fun _ _ => rfl, ?_, ?_⟩
    · show [bA, bN, AO.row int (List.replicate a.2.2.length 0), AO.box [.ref 2 0 a.2.2.length], AO.row .bool (List.replicate a.2.2.length false), AO.box [.ref 4 0 a.2.2.length], AO.box [.fz (.list int) (natL ord)]] = _
      rw [hln, lst_zero, lsb_zero]
      rfl
    · (repeat' (first | exact trivial | exact rfl | refine And.intro ?_ ?_))
    · intro m j hmj
      rw [hol] at hmj
      have hjo : j < ord.length := by rw [F.len]; omega
      obtain ⟨c, hc⟩ : ∃ c, c = ord[j] := ⟨_, rfl⟩
      have hcm : c ∈ ord := by rw [hc]; exact List.getElem_mem _
      have hcn : c < n := by have := (F.mem c).1 hcm; omega
      have hcv : (natL ord)[j]?.getD 0 = (c : Int) := by rw [hc]; exact natL_get ord hjo
      have hck : kAt ord m = c := by
        have : ord.length - 1 - m = j := by rw [F.len]; omega
        unfold kAt
        rw [this, hc, List.getD_eq_getElem?_getD, List.getElem?_eq_getElem hjo]; rfl
      have eStep : stN to ord on (m + 1) = stStep to on (stN to ord on m) c := by
        show stStep to on (stN to ord on m) (kAt ord m) = _
        rw [hck]
      have hbd := fun i => stN_bd (to := to) (ord := ord) (on := on) m i
      show awp _ _ _ _
      rw [hcv]
      have eSm : S m = [bA, bN, .row int (lst n (stN to ord on m).o), .box [.ref 2 0 n], .row .bool (lsb n (stN to ord on m).t), .box [.ref 4 0 n], .box [.fz (.list int) (natL ord)]] := rfl
      have eSs : S (m + 1) = [bA, bN, .row int (lst n (stN to ord on (m + 1)).o), .box [.ref 2 0 n], .row .bool (lsb n (stN to ord on (m + 1)).t), .box [.ref 4 0 n], .box [.fz (.list int) (natL ord)]] := rfl
      rw [eSm]
      rw [eStep] at eSs
      generalize stN to ord on m = s at *
      have hO := lst_len n s.o
      have hT := lsb_len n s.t
      have q1 : List.getD (lsb n on) (Int.toNat (c : Int)) Ty.bool.dft = on c := lsb_at _ hcn
      have q2 : (lsb n on)[c]?.getD Ty.bool.dft = on c := lsb_get _ hcn
      have q3 : List.getD (lst n s.o) (0 + Int.toNat (c : Int)) int.dft = s.o c := by rw [Nat.zero_add, Int.toNat_natCast]; exact lst_at _ hcn
      have q4 : (lst n s.o)[c]?.getD int.dft = s.o c := lst_get _ hcn
      have q5 : List.getD (lsb n s.t) (0 + Int.toNat (c : Int)) Ty.bool.dft = s.t c := by rw [Nat.zero_add, Int.toNat_natCast]; exact lsb_at _ hcn
      have q6 : (lsb n s.t)[c]?.getD Ty.bool.dft = s.t c := lsb_get _ hcn
      have hbc := hbd c
      by_cases ho : on c = true
      · rw [ho] at q1 q2
        have eO : ∀ v, v = sv s c → List.set (lst n s.o) (0 + Int.toNat (c : Int)) v = lst n (fun j => if j = c then sv s c else s.o j) := fun v hv => by rw [hv, Nat.zero_add, Int.toNat_natCast, lst_set]
        (repeat' (first | exact trivial | exact fun h => h | refine And.intro ?_ ?_ | (intro hb; first | (simp at hb; done) | (simp at hb) | skip) | omega | exact rfl | exact Nat.le_refl _ | (show _ + 1 ≤ 4294967296; omega) | (dsimp only; omega) | (show (_ : Int) ≤ (_ : Int); omega) | (show _ < List.length _; simp only [List.length_set, List.length_append, List.length_take]; omega) | (show wantB _ _ = true; simp; done) | (show wantB _ _ = true; simp; omega) | (show (_ : Bool) = _; simp_all; done) | (exfalso; omega) | fail))
        all_goals first | (exfalso; have z := q2.symm.trans (by assumption : (lsb n on)[c]?.getD Ty.bool.dft = false); cases z; done) | skip
        refine ⟨[(2, .ptr 0 0), (6, .ptr 1 0), (8, .ptr 3 0), (9, .ptr 5 0), (11, .fz int c)], [bA, bN, .row int (lst n (fun j => if j = c then sv s c else s.o j)), .box [.ref 2 0 n], .row .bool (lsb n s.t), .box [.ref 4 0 n], .box [.fz (.list int) (natL ord)]], Ent.sub (by
          (repeat' (first | exact rfl | refine cons_eq ?_ ?_))
          refine congrArg (AO.row int) (eO 1 ?_)
          unfold sv
          rw [if_pos (q4.symm.trans hb)]) (by (repeat' (first | exact trivial | exact rfl | refine And.intro ?_ ?_))), ?_⟩
        rotate_left
        refine ⟨[(2, .ptr 0 0), (6, .ptr 1 0), (8, .ptr 3 0), (9, .ptr 5 0), (11, .fz int c)], [bA, bN, .row int (lst n (fun j => if j = c then sv s c else s.o j)), .box [.ref 2 0 n], .row .bool (lsb n s.t), .box [.ref 4 0 n], .box [.fz (.list int) (natL ord)]], Ent.sub (by
          (repeat' (first | exact rfl | refine cons_eq ?_ ?_))
          refine congrArg (AO.row int) (eO (List.getD (lst n s.o) (0 + Int.toNat (c : Int)) int.dft + 1) ?_)
          unfold sv
          rename_i hb1
          rw [if_neg (fun e => hb1 (q4.trans e)), if_pos (q6.symm.trans hb), q3]) (by (repeat' (first | exact trivial | exact rfl | refine And.intro ?_ ?_))), ?_⟩
        rotate_left
        refine ⟨[(2, .ptr 0 0), (6, .ptr 1 0), (8, .ptr 3 0), (9, .ptr 5 0), (11, .fz int c)], [bA, bN, .row int (lst n (fun j => if j = c then sv s c else s.o j)), .box [.ref 2 0 n], .row .bool (lsb n s.t), .box [.ref 4 0 n], .box [.fz (.list int) (natL ord)]], Ent.sub (by
          have e : lst n s.o = lst n (fun j => if j = c then sv s c else s.o j) := lst_congr fun i hi => by
            by_cases e : i = c
            · rw [if_pos e, e]
              unfold sv
              rename_i hb1
              rw [if_neg (fun e => hb1 (q4.trans e)), if_neg (fun e => by have := (q6.symm.trans hb).symm.trans e; cases this)]
            · rw [if_neg e]
          rw [← e]) (by (repeat' (first | exact trivial | exact rfl | refine And.intro ?_ ?_))), ?_⟩
        rotate_left
        all_goals
          generalize hv1 : sv s c = v1 at *
          have hO1 := lst_len n (fun j => if j = c then v1 else s.o j)
          have g2 : List.getD (lst n (fun i => wayN w i (to i))) (Int.toNat (c : Int)) int.dft = wayN w c (to c) := lst_at _ hcn
          have g3 : (lst n (fun i => wayN w i (to i)))[c]?.getD int.dft = wayN w c (to c) := lst_get _ hcn
          have p1 : List.getD (lst n (fun j => if j = c then v1 else s.o j)) (0 + Int.toNat (c : Int)) int.dft = v1 := by rw [Nat.zero_add, Int.toNat_natCast]; exact (lst_at _ hcn).trans (if_pos rfl)
          have p2 : (lst n (fun j => if j = c then v1 else s.o j))[c]?.getD int.dft = v1 := (lst_get _ hcn).trans (if_pos rfl)
          by_cases hto : to c = c
          · have hw8 : wayN w c (to c) = 8 := by rw [hto, way_self]
            rw [hw8] at g2 g3
            (repeat' (first | exact trivial | exact fun h => h | refine And.intro ?_ ?_ | (intro hb; first | (simp at hb; done) | (simp at hb) | skip) | omega | exact rfl | exact Nat.le_refl _ | (show _ + 1 ≤ 4294967296; omega) | (dsimp only; omega) | (show (_ : Int) ≤ (_ : Int); omega) | (show _ < List.length _; simp only [List.length_set, List.length_append, List.length_take]; omega) | (show wantB _ _ = true; simp; done) | (show wantB _ _ = true; simp; omega) | (show (_ : Bool) = _; simp_all; done) | (exfalso; omega) | fail))
            refine ⟨(), Ent.sub ?_ trivial⟩
            rw [eSs]
            unfold stStep
            rw [if_pos ho, if_pos hto, hv1]
          · obtain ⟨v, hv8, hwv, hnb⟩ := way_to (w := w) (h := h) (i := c) (t := to c) (by omega) (by have := F.lt c (by omega); omega) (touchN_symm (F.touch c (by omega) hto))
            have htn := F.lt c (by omega)
            rw [hwv] at g2 g3
            have p3 : List.getD (lst n (fun j => if j = c then v1 else s.o j)) (0 + Int.toNat ((to c : Nat) : Int)) int.dft = s.o (to c) := by rw [Nat.zero_add, Int.toNat_natCast]; exact (lst_at _ (by omega)).trans (if_neg hto)
            have p4 : (lst n (fun j => if j = c then v1 else s.o j))[to c]?.getD int.dft = s.o (to c) := (lst_get _ (by omega)).trans (if_neg hto)
            (repeat' (first | exact trivial | exact fun h => h | refine And.intro ?_ ?_ | (intro hb; first | (simp at hb; done) | (simp at hb) | skip) | omega | exact rfl | exact Nat.le_refl _ | (show _ + 1 ≤ 4294967296; omega) | (dsimp only; omega) | (show (_ : Int) ≤ (_ : Int); omega) | (show _ < List.length _; simp only [List.length_set, List.length_append, List.length_take]; omega) | (show wantB _ _ = true; simp; done) | (show wantB _ _ = true; simp; omega) | (show (_ : Bool) = _; simp_all; done) | (exfalso; omega) | refine aRegion_auto (by decide +kernel) ?_ | fail))
            rw [g2]
            apply exEff
            · refine acall_conv [.dat RasT, .keep, .keep] _ _ _ rfl trivial (acall_frame0 rfl (neighbour_any _ a R c v (by omega) hv8 _ (fun u hu => ?_) (fun hnone => ?_)))
              · rw [hnb] at hu; cases hu; exact ⟨rfl, rfl⟩
              · rw [hnb] at hnone; cases hnone
            by_cases h5 : s.o (to c) < v1
            · (repeat' (first | exact trivial | exact fun h => h | refine And.intro ?_ ?_ | (intro hb; first | (simp at hb; done) | (simp at hb) | skip) | omega | exact rfl | exact Nat.le_refl _ | (show _ + 1 ≤ 4294967296; omega) | (dsimp only; omega) | (show (_ : Int) ≤ (_ : Int); omega) | (show _ < List.length _; simp only [List.length_set, List.length_append, List.length_take]; omega) | (show wantB _ _ = true; simp; done) | (show wantB _ _ = true; simp; omega) | (show (_ : Bool) = _; simp_all; done) | (exfalso; omega) | refine aRegion_auto (by decide +kernel) ?_ | fail))
              (apply exEff; focus (repeat' (first | exact ⟨rfl, rfl⟩ | exact trivial | refine And.intro ?_ ?_ | omega | exact Nat.le_refl _ | (show _ + 1 ≤ 4294967296; omega))))
              (repeat' (first | exact trivial | exact fun h => h | refine And.intro ?_ ?_ | (intro hb; first | (simp at hb; done) | (simp at hb) | skip) | omega | exact rfl | exact Nat.le_refl _ | (show _ + 1 ≤ 4294967296; omega) | (dsimp only; omega) | (show (_ : Int) ≤ (_ : Int); omega) | (show _ < List.length _; simp only [List.length_set, List.length_append, List.length_take]; omega) | (show wantB _ _ = true; simp; done) | (show wantB _ _ = true; simp; omega) | (show (_ : Bool) = _; simp_all; done) | (exfalso; omega) | refine aRegion_auto (by decide +kernel) ?_ | fail))
              (apply exEff; focus (repeat' (first | exact ⟨rfl, rfl⟩ | exact trivial | refine And.intro ?_ ?_ | omega | exact Nat.le_refl _ | (show _ + 1 ≤ 4294967296; omega))))
              (repeat' (first | exact trivial | exact fun h => h | refine And.intro ?_ ?_ | (intro hb; first | (simp at hb; done) | (simp at hb) | skip) | omega | exact rfl | exact Nat.le_refl _ | (show _ + 1 ≤ 4294967296; omega) | (dsimp only; omega) | (show (_ : Int) ≤ (_ : Int); omega) | (show _ < List.length _; simp only [List.length_set, List.length_append, List.length_take]; omega) | (show wantB _ _ = true; simp; done) | (show wantB _ _ = true; simp; omega) | (show (_ : Bool) = _; simp_all; done) | (exfalso; omega) | refine aRegion_auto (by decide +kernel) ?_ | fail))
              refine ⟨(), Ent.sub ?_ trivial⟩
              rw [eSs]
              unfold stStep
              rw [if_pos ho, if_neg hto, hv1, if_pos h5]
              (repeat' (first | exact rfl | refine cons_eq ?_ ?_))
              · refine congrArg (AO.row int) (?_ : List.set (lst n (fun j => if j = c then v1 else s.o j)) (0 + Int.toNat ((to c : Nat) : Int)) (List.getD (lst n (fun j => if j = c then v1 else s.o j)) (0 + Int.toNat (c : Int)) int.dft) = lst n (fun j => if j = to c then v1 else if j = c then v1 else s.o j))
                rw [p1, Nat.zero_add, Int.toNat_natCast, lst_set]
              · exact rowb_set (k := to c) (f := s.t) (g := fun j => if j = to c then false else s.t j) false rfl fun i hi => rfl
            · by_cases h6 : v1 = s.o (to c)
              · (repeat' (first | exact trivial | exact fun h => h | refine And.intro ?_ ?_ | (intro hb; first | (simp at hb; done) | (simp at hb) | skip) | omega | exact rfl | exact Nat.le_refl _ | (show _ + 1 ≤ 4294967296; omega) | (dsimp only; omega) | (show (_ : Int) ≤ (_ : Int); omega) | (show _ < List.length _; simp only [List.length_set, List.length_append, List.length_take]; omega) | (show wantB _ _ = true; simp; done) | (show wantB _ _ = true; simp; omega) | (show (_ : Bool) = _; simp_all; done) | (exfalso; omega) | refine aRegion_auto (by decide +kernel) ?_ | fail))
                refine ⟨(), Ent.sub ?_ trivial⟩
                rw [eSs]
                unfold stStep
                rw [if_pos ho, if_neg hto, hv1, if_neg h5, if_pos h6]
                (repeat' (first | exact rfl | refine cons_eq ?_ ?_))
                exact rowb_set (k := to c) (f := s.t) (g := fun j => if j = to c then true else s.t j) true rfl fun i hi => rfl
              · (repeat' (first | exact trivial | exact fun h => h | refine And.intro ?_ ?_ | (intro hb; first | (simp at hb; done) | (simp at hb) | skip) | omega | exact rfl | exact Nat.le_refl _ | (show _ + 1 ≤ 4294967296; omega) | (dsimp only; omega) | (show (_ : Int) ≤ (_ : Int); omega) | (show _ < List.length _; simp only [List.length_set, List.length_append, List.length_take]; omega) | (show wantB _ _ = true; simp; done) | (show wantB _ _ = true; simp; omega) | (show (_ : Bool) = _; simp_all; done) | (exfalso; omega) | refine aRegion_auto (by decide +kernel) ?_ | fail))
                refine ⟨(), Ent.sub ?_ trivial⟩
                rw [eSs]
                unfold stStep
                rw [if_pos ho, if_neg hto, hv1, if_neg h5, if_neg h6]
      · have ho' : on c = false := by simpa using ho
        rw [ho'] at q1 q2
        (repeat' (first | exact trivial | exact fun h => h | refine And.intro ?_ ?_ | (intro hb; first | (simp at hb; done) | (simp at hb) | skip) | omega | exact rfl | exact Nat.le_refl _ | (show _ + 1 ≤ 4294967296; omega) | (dsimp only; omega) | (show (_ : Int) ≤ (_ : Int); omega) | (show _ < List.length _; simp only [List.length_set, List.length_append, List.length_take]; omega) | (show wantB _ _ = true; simp; done) | (show wantB _ _ = true; simp; omega) | (show (_ : Bool) = _; simp_all; done) | (exfalso; omega) | fail))
        all_goals first | (exfalso; have z := q2.symm.trans (by assumption : (lsb n on)[c]?.getD Ty.bool.dft = true); cases z; done) | skip
        refine ⟨(), Ent.sub ?_ trivial⟩
        rw [eSs]
        unfold stStep
        rw [if_neg ho]
    · rw [hol]
      show awp _ _ _ _
      have eSn : S n = [bA, bN, .row int (lst n (soN to ord on n)), .box [.ref 2 0 n], .row .bool (lsb n (stN to ord on n).t), .box [.ref 4 0 n], .box [.fz (.list int) (natL ord)]] := rfl
      rw [eSn]
      have hSo := lst_len n (soN to ord on n)
      (repeat' (first | exact trivial | exact fun h => h | refine And.intro ?_ ?_ | (intro hb; first | (simp at hb; done) | (simp at hb) | skip) | omega | exact rfl | exact Nat.le_refl _ | (show _ + 1 ≤ 4294967296; omega) | (dsimp only; omega) | (show (_ : Int) ≤ (_ : Int); omega) | (show _ < List.length _; simp only [List.length_set, List.length_append, List.length_take]; omega) | (show wantB _ _ = true; simp; done) | (show wantB _ _ = true; simp; omega) | (show (_ : Bool) = _; simp_all; done) | (exfalso; omega) | fail))
      refine ⟨_, _, (REnt.conv [.dat (.list int), .keep] _ rfl ?_).trans (REnt.drop ⟨rfl, rfl⟩), ?_⟩
      · (repeat' (first | exact trivial | refine And.intro ?_ ?_ | (show _ ≤ _; omega) | (show _ ≤ _; simp; done)))
      · refine (congrArg (fun l => K (.tup [.fz (.list int) l, .fz .raw .nilIface]) []) ?_).mp hK
        rw [List.drop_zero, List.take_of_length_le (by omega)]
  · have h4 := rerr_in a
    have h5 : strE a least ≤ 4 := by unfold strE; split <;> (try split) <;> omega
    have eQ : strQ a least = NetT.dft := by unfold strQ; rw [if_neg hv]
    unfold ordQ at hK
    rw [if_neg hv] at hK
    refine acall_mkR (E := envAt (G8 E) 116 0) (envOk _ _ _) backOk backEnt Tryd.func30 rfl rfl rfl rfl rfl rfl ?_
    (repeat' (first | exact trivial | exact fun h => h | refine And.intro ?_ ?_ | (intro hb; first | (simp at hb; done) | (simp at hb) | skip) | omega | exact rfl | exact Nat.le_refl _ | (show _ + 1 ≤ 4294967296; omega) | (dsimp only; omega) | (show (_ : Int) ≤ (_ : Int); omega) | (show _ < List.length _; simp only [List.length_set, List.length_append, List.length_take]; omega) | (show wantB _ _ = true; simp; done) | (show wantB _ _ = true; simp; omega) | (show (_ : Bool) = _; simp_all; done) | (exfalso; omega) | fail))
    refine acall_conv [.dat RasT, .keep] _ _ _ rfl trivial (acall_frame0 rfl (streams_two E a least hl _ ?_))
    obtain h | h | h | h : strE a least = 1 ∨ strE a least = 2 ∨ strE a least = 3 ∨ strE a least = 4 := by omega
    all_goals
      rw [h] at hK ⊢
      rw [eQ]
      (repeat' (first | exact trivial | exact fun h => h | refine And.intro ?_ ?_ | (intro hb; first | (simp at hb; done) | (simp at hb) | skip) | omega | exact rfl | exact Nat.le_refl _ | (show _ + 1 ≤ 4294967296; omega) | (dsimp only; omega) | (show (_ : Int) ≤ (_ : Int); omega) | (show _ < List.length _; simp only [List.length_set, List.length_append, List.length_take]; omega) | (show wantB _ _ = true; simp; done) | (show wantB _ _ = true; simp; omega) | (show (_ : Bool) = _; simp_all; done) | (exfalso; omega) | fail))
      refine ⟨_, _, (REnt.conv [.dat (.list int), .keep] _ rfl trivial).trans (REnt.drop ⟨rfl, rfl⟩), ?_⟩
      exact hK
end Go.Proofs.YtepkknjncpbahaaDoor
/-
  The order of one stream cell: the walk of the document's, that calls itself.
-/
namespace Go.Proofs.YtepkknjncpbahaaDoor
open Go Go.Ab
set_option maxRecDepth 100000
theorem bmN_bd {So : Nat → Int} {to : Nat → Nat} {on : Nat → Bool} {j : Nat} {N : Int} (hN : 0 ≤ N) : ∀ i, (∀ c, c < i → 0 ≤ So c ∧ So c ≤ N) → 0 ≤ (bmN So to on j i).1 ∧ (bmN So to on j i).1 ≤ N
  | 0, _ => ⟨Int.le_refl _, hN⟩
  | i + 1, h => by
    have ih := bmN_bd (to := to) (on := on) (j := j) hN i fun c hc => h c (by omega)
    have := h i (by omega)
    unfold bmN
    split
    · exact ih
    · split
      · exact this
      · split
        · exact ih
        · exact ih
set_option maxHeartbeats 4000000 in
theorem strahlerOf_any (G : List (Nat × Value)) (fl : List Int × List Int × List Int) {w h n : Nat} {to : Nat → Nat} {ord : List Nat} (F : FlowN w h to ord) (hn : n = w * h) (hwh : n ≤ 16384) (hf : fl.2.1 = lst n (fun i => ((to i : Nat) : Int))) (on : Nat → Bool) :
    ∀ d cell, cell < n → on cell = true → n - ord.idxOf cell ≤ d → ∀ K : AV → List AO → Prop, K (.fz int (soN to ord on n cell)) [] →
      ACall Tryd.prog G 32 [.fz FT fl, .fz (.list .bool) (lsb n on), .fz int cell] [] K
  | 0, cell, hc, _, hd, _, _ => by
    have := F.idx (by omega : cell < w * h)
    omega
  | d + 1, cell, hc, ho, hd, K, hK => by
    let bF : AO := .box [.fz (.list int) fl.1, .fz (.list int) fl.2.1, .fz (.list int) fl.2.2]
    have hL0 := lst_len n (fun i => ((to i : Nat) : Int))
    have hfl : fl.2.1.length = n := by rw [hf]; exact hL0
    have hLb := lsb_len n on
    have hbd : ∀ j, j < n → 0 ≤ soN to ord on n j ∧ soN to ord on n j ≤ n := fun j hj => stN_bd n j
    have hpos : ∀ c, c < n → on c = true → 1 ≤ soN to ord on n c := fun c h1 h2 => by rw [hn] at h1 ⊢; exact F.so_pos h1 h2
    have eS : soN to ord on n cell = bmF (bmN (soN to ord on n) to on cell n) := by
      rw [hn] at hc ⊢
      exact F.so_bm hc ho
    have hrec : ∀ i, i < n → to i = cell → i ≠ cell → on i = true → ∀ K : AV → List AO → Prop, K (.fz int (soN to ord on n i)) [] → ACall Tryd.prog G 32 [.fz FT fl, .fz (.list .bool) (lsb n on), .fz int i] [] K := fun i hi hti hne hoi => by
      refine strahlerOf_any G fl F hn hwh hf on d i hi hoi ?_
      have := F.pos i (by omega) (by rw [hti]; exact fun e => hne e.symm)
      rw [hti] at this
      omega
    generalize soN to ord on n = So at *
    refine acall_mk (E := envAt G 57 0) (envOk _ _ _) Tryd.func32 rfl rfl rfl rfl rfl ?_
    (repeat' (first | exact trivial | exact fun h => h | refine And.intro ?_ ?_ | (intro hb; first | (simp at hb; done) | (simp at hb) | skip) | omega | exact rfl | exact Nat.le_refl _ | (show _ + 1 ≤ 4294967296; omega) | (dsimp only; omega) | (show (_ : Int) ≤ (_ : Int); omega) | (show _ < List.length _; simp only [List.length_set, List.length_append, List.length_take]; omega) | (show wantB _ _ = true; simp; done) | (show wantB _ _ = true; simp; omega) | (show (_ : Bool) = _; simp_all; done) | (exfalso; omega) | fail))
    refine ⟨Nat, fun i => ⟨[(1, .fz (.list .bool) (lsb n on)), (2, .fz int cell), (3, .ptr 0 0), (7, .fz int (bmN So to on cell i).1), (8, .fz int (bmN So to on cell i).2), (9, .fz int i)], [bF]⟩, fun i => i ≤ n, fun i => n - i, 0, Nat.zero_le _, Ent.sub ?_ ?_, ?_⟩
    · (repeat' (first | exact rfl | refine cons_eq ?_ ?_))
    · (repeat' (first | exact trivial | exact rfl | refine And.intro ?_ ?_))
    intro i hi
    obtain ⟨_, b2, b3, b4⟩ := bmN_mx (So := So) (to := to) (on := on) (j := cell) i fun c h1 h2 => hpos c (by omega) h2
    have hB1 := bmN_bd (So := So) (to := to) (on := on) (j := cell) (N := n) (by omega) i fun c hc => hbd c (by omega)
    by_cases hin : i < n
    · have g1 : List.getD fl.2.1 (Int.toNat (i : Int)) int.dft = (to i : Nat) := by rw [hf]; exact lst_at (fun i => ((to i : Nat) : Int)) hin
      have g2 : fl.2.1[i]?.getD int.dft = (to i : Nat) := by rw [hf]; exact lst_get (fun i => ((to i : Nat) : Int)) hin
      have q1 : List.getD (lsb n on) (Int.toNat (i : Int)) Ty.bool.dft = on i := lsb_at _ hin
      have q2 : (lsb n on)[i]?.getD Ty.bool.dft = on i := lsb_get _ hin
      have eB : bmN So to on cell (i + 1) = if i = cell ∨ to i ≠ cell ∨ on i = false then bmN So to on cell i else if (bmN So to on cell i).1 < So i then (So i, 1) else if So i = (bmN So to on cell i).1 then ((bmN So to on cell i).1, (bmN So to on cell i).2 + 1) else bmN So to on cell i := rfl
      show awp _ _ _ ⟨[(1, .fz (.list .bool) (lsb n on)), (2, .fz int cell), (3, .ptr 0 0), (7, .fz int (bmN So to on cell i).1), (8, .fz int (bmN So to on cell i).2), (9, .fz int i)], [bF]⟩
      have hbi := hbd i hin
      generalize bmN So to on cell i = B at *
      by_cases hch : i = cell ∨ to i ≠ cell ∨ on i = false
      · rw [if_pos hch] at eB
        (repeat' (first | exact trivial | exact fun h => h | refine And.intro ?_ ?_ | (intro hb; first | (simp at hb; done) | (simp at hb) | skip) | omega | exact rfl | exact Nat.le_refl _ | (show _ + 1 ≤ 4294967296; omega) | (dsimp only; omega) | (show (_ : Int) ≤ (_ : Int); omega) | (show _ < List.length _; simp only [List.length_set, List.length_append, List.length_take]; omega) | (show wantB _ _ = true; simp; done) | (show wantB _ _ = true; simp; omega) | (show (_ : Bool) = _; simp_all; done) | (exfalso; omega) | fail))
        · refine ⟨i + 1, by show i + 1 ≤ n; omega, by show n - (i + 1) < n - i; omega, Ent.sub ?_ ?_⟩
          · (repeat' (first | exact rfl | refine cons_eq ?_ ?_))
          · show subT _ [(1, .fz (.list .bool) (lsb n on)), (2, .fz int cell), (3, .ptr 0 0), (7, .fz int (bmN So to on cell (i + 1)).1), (8, .fz int (bmN So to on cell (i + 1)).2), (9, .fz int ((i + 1 : Nat) : Int))]
            rw [eB]
            (repeat' (first | exact trivial | exact rfl | refine And.intro ?_ ?_))
        · exfalso
          rcases hch with e | e | e
          · exact hb.1.1 (by rw [e])
          · have := g2.symm.trans hb.1.2
            omega
          · have := (q2.symm.trans hb.2).symm.trans e
            cases this
      · have c2 : i ≠ cell := fun e => hch (.inl e)
        have c3 : to i = cell := Classical.byContradiction fun e => hch (.inr (.inl e))
        have c4 : on i = true := by
          cases e : on i with
          | true => rfl
          | false => exact absurd (.inr (.inr e)) hch
        rw [if_neg hch] at eB
        rw [c3] at g1 g2
        rw [c4] at q1 q2
        (repeat' (first | exact trivial | exact fun h => h | refine And.intro ?_ ?_ | (intro hb; first | (simp at hb; done) | (simp at hb) | skip) | omega | exact rfl | exact Nat.le_refl _ | (show _ + 1 ≤ 4294967296; omega) | (dsimp only; omega) | (show (_ : Int) ≤ (_ : Int); omega) | (show _ < List.length _; simp only [List.length_set, List.length_append, List.length_take]; omega) | (show wantB _ _ = true; simp; done) | (show wantB _ _ = true; simp; omega) | (show (_ : Bool) = _; simp_all; done) | (exfalso; omega) | fail))
        · exfalso
          rcases hb with (e | e) | e
          · exact c2 (by omega)
          · exact e g2
          · have := (q2.symm.trans e)
            cases this
        refine acall_conv [.dat FT, .keep, .keep] _ _ _ rfl trivial (acall_frame0 rfl (hrec i hin c3 c2 c4 _ ?_))
        by_cases h5 : B.1 < So i
        · rw [if_pos h5] at eB
          (repeat' (first | exact trivial | exact fun h => h | refine And.intro ?_ ?_ | (intro hb; first | (simp at hb; done) | (simp at hb) | skip) | omega | exact rfl | exact Nat.le_refl _ | (show _ + 1 ≤ 4294967296; omega) | (dsimp only; omega) | (show (_ : Int) ≤ (_ : Int); omega) | (show _ < List.length _; simp only [List.length_set, List.length_append, List.length_take]; omega) | (show wantB _ _ = true; simp; done) | (show wantB _ _ = true; simp; omega) | (show (_ : Bool) = _; simp_all; done) | (exfalso; omega) | fail))
          refine ⟨i + 1, by show i + 1 ≤ n; omega, by show n - (i + 1) < n - i; omega, Ent.sub ?_ ?_⟩
          · (repeat' (first | exact rfl | refine cons_eq ?_ ?_))
          · show subT _ [(1, .fz (.list .bool) (lsb n on)), (2, .fz int cell), (3, .ptr 0 0), (7, .fz int (bmN So to on cell (i + 1)).1), (8, .fz int (bmN So to on cell (i + 1)).2), (9, .fz int ((i + 1 : Nat) : Int))]
            rw [eB]
            (repeat' (first | exact trivial | exact rfl | refine And.intro ?_ ?_))
        · rw [if_neg h5] at eB
          by_cases h6 : So i = B.1
          · rw [if_pos h6] at eB
            (repeat' (first | exact trivial | exact fun h => h | refine And.intro ?_ ?_ | (intro hb; first | (simp at hb; done) | (simp at hb) | skip) | omega | exact rfl | exact Nat.le_refl _ | (show _ + 1 ≤ 4294967296; omega) | (dsimp only; omega) | (show (_ : Int) ≤ (_ : Int); omega) | (show _ < List.length _; simp only [List.length_set, List.length_append, List.length_take]; omega) | (show wantB _ _ = true; simp; done) | (show wantB _ _ = true; simp; omega) | (show (_ : Bool) = _; simp_all; done) | (exfalso; omega) | fail))
            refine ⟨i + 1, by show i + 1 ≤ n; omega, by show n - (i + 1) < n - i; omega, Ent.sub ?_ ?_⟩
            · (repeat' (first | exact rfl | refine cons_eq ?_ ?_))
            · show subT _ [(1, .fz (.list .bool) (lsb n on)), (2, .fz int cell), (3, .ptr 0 0), (7, .fz int (bmN So to on cell (i + 1)).1), (8, .fz int (bmN So to on cell (i + 1)).2), (9, .fz int ((i + 1 : Nat) : Int))]
              rw [eB]
              (repeat' (first | exact trivial | exact rfl | refine And.intro ?_ ?_))
          · rw [if_neg h6] at eB
            (repeat' (first | exact trivial | exact fun h => h | refine And.intro ?_ ?_ | (intro hb; first | (simp at hb; done) | (simp at hb) | skip) | omega | exact rfl | exact Nat.le_refl _ | (show _ + 1 ≤ 4294967296; omega) | (dsimp only; omega) | (show (_ : Int) ≤ (_ : Int); omega) | (show _ < List.length _; simp only [List.length_set, List.length_append, List.length_take]; omega) | (show wantB _ _ = true; simp; done) | (show wantB _ _ = true; simp; omega) | (show (_ : Bool) = _; simp_all; done) | (exfalso; omega) | fail))
            refine ⟨i + 1, by show i + 1 ≤ n; omega, by show n - (i + 1) < n - i; omega, Ent.sub ?_ ?_⟩
            · (repeat' (first | exact rfl | refine cons_eq ?_ ?_))
            · show subT _ [(1, .fz (.list .bool) (lsb n on)), (2, .fz int cell), (3, .ptr 0 0), (7, .fz int (bmN So to on cell (i + 1)).1), (8, .fz int (bmN So to on cell (i + 1)).2), (9, .fz int ((i + 1 : Nat) : Int))]
              rw [eB]
              (repeat' (first | exact trivial | exact rfl | refine And.intro ?_ ?_))
    · have hie : i = n := by omega
      subst hie
      (repeat' (first | exact trivial | exact fun h => h | refine And.intro ?_ ?_ | (intro hb; first | (simp at hb; done) | (simp at hb) | skip) | omega | exact rfl | exact Nat.le_refl _ | (show _ + 1 ≤ 4294967296; omega) | (dsimp only; omega) | (show (_ : Int) ≤ (_ : Int); omega) | (show _ < List.length _; simp only [List.length_set, List.length_append, List.length_take]; omega) | (show wantB _ _ = true; simp; done) | (show wantB _ _ = true; simp; omega) | (show (_ : Bool) = _; simp_all; done) | (exfalso; omega) | fail))
      · refine ⟨_, _, REnt.drop ⟨rfl, rfl⟩, ?_⟩
        rw [eS] at hK
        unfold bmF at hK
        rw [if_pos hb] at hK
        exact hK
      · refine ⟨_, _, REnt.drop ⟨rfl, rfl⟩, ?_⟩
        rename_i hb0
        rw [eS] at hK
        unfold bmF at hK
        rw [if_neg hb0, if_pos hb] at hK
        exact hK
      · refine ⟨_, _, REnt.drop ⟨rfl, rfl⟩, ?_⟩
        rename_i hb0
        rw [eS] at hK
        unfold bmF at hK
        rw [if_neg hb0, if_neg (by omega)] at hK
        exact hK
end Go.Proofs.YtepkknjncpbahaaDoor
/-
  DrainStreams: the walk.
-/
namespace Go.Proofs.YtepkknjncpbahaaDoor
open Go Go.Ab
set_option maxRecDepth 100000
theorem rcs_pre {to : Nat → Nat} {on : Nat → Bool} {inn : Nat → Int} (i : Nat) : ∀ d, ∃ r, rcs to on inn (i + d) = rcs to on inn i ++ r
  | 0 => ⟨[], by simp⟩
  | d + 1 => by
    obtain ⟨r, hr⟩ := rcs_pre (to := to) (on := on) (inn := inn) i d
    have e : rcs to on inn (i + (d + 1)) = if on (i + d) = true ∧ inn (i + d) ≠ 1 then rcs to on inn (i + d) ++ [wyL to (i + d) (rcT to inn (i + d))] else rcs to on inn (i + d) := rfl
    rw [e]
    split
    · exact ⟨r ++ [wyL to (i + d) (rcT to inn (i + d))], by rw [hr, List.append_assoc]⟩
    · exact ⟨r, hr⟩
set_option maxHeartbeats 8000000 in
theorem drainStreams_some {E : Errs} (hE : (EL E).Nodup) (a : Ras) (least : Int) (hla : a.2.2.length ≤ 9223372036854775807) (K : AV → List AO → Prop) (hK : K (.fz .bool true) []) :
    ACall Tryd.prog (G8 E) 7 [.fptr RasT a, .fz int least] [] K := by
  refine acall_mk (E := envCut (G8 E) 181 0 [25]) (envCutOk _ _ _ _) Tryd.func7 rfl rfl rfl rfl rfl ?_
  (repeat' (first | exact trivial | exact fun h => h | refine And.intro ?_ ?_ | (intro hb; first | (simp at hb; done) | (simp at hb) | skip) | omega | exact rfl | exact Nat.le_refl _ | (show _ + 1 ≤ 4294967296; omega) | (dsimp only; omega) | (show (_ : Int) ≤ (_ : Int); omega) | (show _ < List.length _; simp only [List.length_set, List.length_append, List.length_take]; omega) | (show wantB _ _ = true; simp; done) | (show wantB _ _ = true; simp; omega) | (show (_ : Bool) = _; simp_all; done) | (exfalso; omega) | refine aRegion_auto (by decide +kernel) ?_ | refine ⟨_, _, REnt.drop ⟨rfl, rfl⟩, ?_⟩ | fail))
  refine acall_frame0 rfl (drains_any E _ ?_)
  (repeat' (first | exact trivial | exact fun h => h | refine And.intro ?_ ?_ | (intro hb; first | (simp at hb; done) | (simp at hb) | skip) | omega | exact rfl | exact Nat.le_refl _ | (show _ + 1 ≤ 4294967296; omega) | (dsimp only; omega) | (show (_ : Int) ≤ (_ : Int); omega) | (show _ < List.length _; simp only [List.length_set, List.length_append, List.length_take]; omega) | (show wantB _ _ = true; simp; done) | (show wantB _ _ = true; simp; omega) | (show (_ : Bool) = _; simp_all; done) | (exfalso; omega) | refine aRegion_auto (by decide +kernel) ?_ | refine ⟨_, _, REnt.drop ⟨rfl, rfl⟩, ?_⟩ | fail))
  refine acall_frame0 rfl (small80_any _ a _ ?_)
  (repeat' (first | exact trivial | exact fun h => h | refine And.intro ?_ ?_ | (intro hb; first | (simp at hb; done) | (simp at hb) | skip) | omega | exact rfl | exact Nat.le_refl _ | (show _ + 1 ≤ 4294967296; omega) | (dsimp only; omega) | (show (_ : Int) ≤ (_ : Int); omega) | (show _ < List.length _; simp only [List.length_set, List.length_append, List.length_take]; omega) | (show wantB _ _ = true; simp; done) | (show wantB _ _ = true; simp; omega) | (show (_ : Bool) = _; simp_all; done) | (exfalso; omega) | refine aRegion_auto (by decide +kernel) ?_ | refine ⟨_, _, REnt.drop ⟨rfl, rfl⟩, ?_⟩ | fail))
  all_goals first | exact hK | skip
  have hl : a.2.2.length ≤ 80 := by omega
  refine acall_conv [.dat RasT, .keep] _ _ _ rfl trivial (acall_frame0 rfl (streamsL_one E a least (by omega) _ ?_))
  (repeat' (first | exact trivial | exact fun h => h | refine And.intro ?_ ?_ | (intro hb; first | (simp at hb; done) | (simp at hb) | skip) | omega | exact rfl | exact Nat.le_refl _ | (show _ + 1 ≤ 4294967296; omega) | (dsimp only; omega) | (show (_ : Int) ≤ (_ : Int); omega) | (show _ < List.length _; simp only [List.length_set, List.length_append, List.length_take]; omega) | (show wantB _ _ = true; simp; done) | (show wantB _ _ = true; simp; omega) | (show (_ : Bool) = _; simp_all; done) | (exfalso; omega) | refine aRegion_auto (by decide +kernel) ?_ | refine ⟨_, _, REnt.drop ⟨rfl, rfl⟩, ?_⟩ | fail))
  refine acall_conv [.dat RasT, .keep] _ _ _ rfl trivial (acall_frame0 rfl (strahler_one E a least (by omega) _ ?_))
  (repeat' (first | exact trivial | exact fun h => h | refine And.intro ?_ ?_ | (intro hb; first | (simp at hb; done) | (simp at hb) | skip) | omega | exact rfl | exact Nat.le_refl _ | (show _ + 1 ≤ 4294967296; omega) | (dsimp only; omega) | (show (_ : Int) ≤ (_ : Int); omega) | (show _ < List.length _; simp only [List.length_set, List.length_append, List.length_take]; omega) | (show wantB _ _ = true; simp; done) | (show wantB _ _ = true; simp; omega) | (show (_ : Bool) = _; simp_all; done) | (exfalso; omega) | refine aRegion_auto (by decide +kernel) ?_ | refine ⟨_, _, REnt.drop ⟨rfl, rfl⟩, ?_⟩ | fail))
  refine acall_frame0 rfl (rasterError_any _ a (by omega) _ ?_)
  have h4 := rerr_in a
  by_cases hv : strE a least = 0
  · have hv0 : rerr a = 0 ∧ 1 ≤ least := by
      unfold strE at hv
      by_cases h0 : rerr a = 0
      · rw [if_pos h0] at hv
        by_cases h1 : least < 1
        · rw [if_pos h1] at hv; omega
        · exact ⟨h0, by omega⟩
      · rw [if_neg h0] at hv; omega
    obtain ⟨hv0, hl1⟩ := hv0
    have R := RasN.mk' hv0
    have F := flowN a.1.toNat a.2.1.toNat (hts a) R.w0
    have hwh := R.wh
    have hln := R.len
    have eFR : fRes a.1.toNat a.2.1.toNat a = ((fRes a.1.toNat a.2.1.toNat a).1, lst (a.1.toNat * a.2.1.toNat) (fun i => (((flD a.1.toNat a.2.1.toNat (hts a)).to i : Nat) : Int)), natL (flD a.1.toNat a.2.1.toNat (hts a)).ord) := rfl
    have eL : strsQ a least = rcs (flD a.1.toNat a.2.1.toNat (hts a)).to (onN (gaN (flD a.1.toNat a.2.1.toNat (hts a)).to (flD a.1.toNat a.2.1.toNat (hts a)).ord (fun _ => 1) (a.1.toNat * a.2.1.toNat)) least) (inN (flD a.1.toNat a.2.1.toNat (hts a)).to (onN (gaN (flD a.1.toNat a.2.1.toNat (hts a)).to (flD a.1.toNat a.2.1.toNat (hts a)).ord (fun _ => 1) (a.1.toNat * a.2.1.toNat)) least) (a.1.toNat * a.2.1.toNat)) (a.1.toNat * a.2.1.toNat) := by unfold strsQ; rw [if_pos hv]; rfl
    have eO : ordQ a least = lst (a.1.toNat * a.2.1.toNat) (soN (flD a.1.toNat a.2.1.toNat (hts a)).to (flD a.1.toNat a.2.1.toNat (hts a)).ord (onN (gaN (flD a.1.toNat a.2.1.toNat (hts a)).to (flD a.1.toNat a.2.1.toNat (hts a)).ord (fun _ => 1) (a.1.toNat * a.2.1.toNat)) least) (a.1.toNat * a.2.1.toNat)) := by unfold ordQ; rw [if_pos hv]; rfl
    rw [hv, hv0]
    (repeat' (first | exact trivial | exact fun h => h | refine And.intro ?_ ?_ | (intro hb; first | (simp at hb; done) | (simp at hb) | skip) | omega | exact rfl | exact Nat.le_refl _ | (show _ + 1 ≤ 4294967296; omega) | (dsimp only; omega) | (show (_ : Int) ≤ (_ : Int); omega) | (show _ < List.length _; simp only [List.length_set, List.length_append, List.length_take]; omega) | (show wantB _ _ = true; simp; done) | (show wantB _ _ = true; simp; omega) | (show (_ : Bool) = _; simp_all; done) | (exfalso; omega) | refine aRegion_auto (by decide +kernel) ?_ | refine ⟨_, _, REnt.drop ⟨rfl, rfl⟩, ?_⟩ | fail))
    refine acall_frame0 rfl (floodOf_any _ a R _ ?_)
    rw [eFR]
    generalize (fRes a.1.toNat a.2.1.toNat a).1 = fill at *
    generalize (flD a.1.toNat a.2.1.toNat (hts a)).to = to at *
    generalize (flD a.1.toNat a.2.1.toNat (hts a)).ord = ord at *
    obtain ⟨w, hw⟩ : ∃ w, w = a.1.toNat := ⟨_, rfl⟩
    obtain ⟨h, hh⟩ : ∃ h, h = a.2.1.toNat := ⟨_, rfl⟩
    obtain ⟨n, hn⟩ : ∃ n, n = w * h := ⟨_, rfl⟩
    rw [← hw, ← hh] at R F hln hwh eL eO ⊢
    rw [← hn] at hln hwh eL eO ⊢
    clear eFR
    have n0 : 0 < n := by rw [hn]; exact Nat.mul_pos R.w0 R.h0
    let bF : AO := .box [.fz (.list int) fill, .fz (.list int) (lst n (fun i => ((to i : Nat) : Int))), .fz (.list int) (natL ord)]
    (repeat' (first | exact trivial | exact fun h => h | refine And.intro ?_ ?_ | (intro hb; first | (simp at hb; done) | (simp at hb) | skip) | omega | exact rfl | exact Nat.le_refl _ | (show _ + 1 ≤ 4294967296; omega) | (dsimp only; omega) | (show (_ : Int) ≤ (_ : Int); omega) | (show _ < List.length _; simp only [List.length_set, List.length_append, List.length_take]; omega) | (show wantB _ _ = true; simp; done) | (show wantB _ _ = true; simp; omega) | (show (_ : Bool) = _; simp_all; done) | (exfalso; omega) | refine aRegion_auto (by decide +kernel) ?_ | refine ⟨_, _, REnt.drop ⟨rfl, rfl⟩, ?_⟩ | fail))
    refine acall_conv [.dat FT, .keep] _ _ _ rfl trivial (acall_frame0 rfl (streamsOf_any _ (fill, lst n (fun i => ((to i : Nat) : Int)), natL ord) F hn n0 hwh rfl least _ ?_))
    have hup : ∀ c, c < w * h → onN (gaN to ord (fun _ => 1) n) least c = true → to c ≠ c → onN (gaN to ord (fun _ => 1) n) least (to c) = true := fun c h1 h2 h3 => by
      rw [hn] at h2 ⊢
      exact F.on_up h1 h2 h3
    generalize onN (gaN to ord (fun _ => 1) n) least = on at *
    generalize hinn : inN to on n = inn at *
    have hLb := lsb_len n on
    have hL2 := lst_len n (fun i => ((to i : Nat) : Int))
    have hLi := lst_len n inn
    generalize strsQ a least = sl at *
    generalize ordQ a least = ol at *
    have hrn := rcs_len (to := to) (on := on) (inn := inn) n
    rw [← eL] at hrn
    have hLo : ol.length = n := by rw [eO]; exact lst_len _ _
    (repeat' (first | exact trivial | exact fun h => h | refine And.intro ?_ ?_ | (intro hb; first | (simp at hb; done) | (simp at hb) | skip) | omega | exact rfl | exact Nat.le_refl _ | (show _ + 1 ≤ 4294967296; omega) | (dsimp only; omega) | (show (_ : Int) ≤ (_ : Int); omega) | (show _ < List.length _; simp only [List.length_set, List.length_append, List.length_take]; omega) | (show wantB _ _ = true; simp; done) | (show wantB _ _ = true; simp; omega) | (show (_ : Bool) = _; simp_all; done) | (exfalso; omega) | refine aRegion_auto (by decide +kernel) ?_ | refine ⟨_, _, REnt.drop ⟨rfl, rfl⟩, ?_⟩ | fail))
    refine ⟨Nat, fun i => ⟨[(7, .fz (.list (.list int)) sl), (8, .fz .raw (er E 0)), (9, .fz (.list int) ol), (10, .fz .raw (er E 0)), (12, .ptr 0 0), (13, .fz (.list .bool) (lsb n on)), (14, .fz (.list int) (lst n inn)), (15, .fz int (rcs to on inn i).length), (16, .fz int i)], [bF]⟩, fun i => i ≤ n, fun i => n - i, 0, Nat.zero_le _, (Ent.conv 13 (.dat (.list .bool)) _ rfl ?_).trans ((Ent.conv 14 (.dat (.list int)) _ rfl ?_).trans (Ent.ren [0] rfl ?_ ?_)), ?_⟩
    · (repeat' (first | exact trivial | refine And.intro ?_ ?_ | (show _ ≤ _; omega) | (show _ ≤ _; simp; done)))
    · (repeat' (first | exact trivial | refine And.intro ?_ ?_ | (show _ ≤ _; omega) | (show _ ≤ _; simp; done)))
    · (repeat' (first | exact trivial | exact rfl | refine And.intro ?_ ?_))
    · (repeat' (first | exact trivial | exact rfl | refine And.intro ?_ ?_))
      · exact congrArg (AV.fz (.list .bool)) (by rw [List.drop_zero, List.take_of_length_le (by omega)] : List.take n (List.drop 0 (lsb n on)) = lsb n on)
      · exact congrArg (AV.fz (.list int)) (by rw [List.drop_zero, List.take_of_length_le (by omega)] : List.take n (List.drop 0 (lst n inn)) = lst n inn)
    intro i hi
    have hri := rcs_len (to := to) (on := on) (inn := inn) i
    by_cases hin : i < n
    · have q1 : List.getD (lsb n on) (Int.toNat (i : Int)) Ty.bool.dft = on i := lsb_at _ hin
      have q2 : List.getD (lst n inn) (Int.toNat (i : Int)) int.dft = inn i := lst_at _ hin
      have q3 : (lsb n on)[i]?.getD Ty.bool.dft = on i := lsb_get _ hin
      have q4 : (lst n inn)[i]?.getD int.dft = inn i := lst_get _ hin
      by_cases hst : on i = true ∧ inn i ≠ 1
      · have eR : rcs to on inn (i + 1) = rcs to on inn i ++ [wyL to i (rcT to inn i)] := by
          show (if on i = true ∧ inn i ≠ 1 then _ else _) = _
          rw [if_pos hst]
        obtain ⟨rs, hrest⟩ := rcs_pre (to := to) (on := on) (inn := inn) (i + 1) (n - (i + 1))
        rw [show i + 1 + (n - (i + 1)) = n by omega] at hrest
        obtain ⟨hs1, hs2⟩ := hst
        (repeat' (first | exact trivial | exact fun h => h | refine And.intro ?_ ?_ | (intro hb; first | (simp at hb; done) | (simp at hb) | skip) | omega | exact rfl | exact Nat.le_refl _ | (show _ + 1 ≤ 4294967296; omega) | (dsimp only; omega) | (show (_ : Int) ≤ (_ : Int); omega) | (show _ < List.length _; simp only [List.length_set, List.length_append, List.length_take]; omega) | (show wantB _ _ = true; simp; done) | (show wantB _ _ = true; simp; omega) | (show (_ : Bool) = _; simp_all; done) | (exfalso; omega) | refine aRegion_auto (by decide +kernel) ?_ | refine ⟨_, _, REnt.drop ⟨rfl, rfl⟩, ?_⟩ | fail))
        · exfalso
          rcases hb with e | e
          · rw [q3, hs1] at e; cases e
          · exact hs2 (q4.symm.trans e)
        have hlt := fun t => F.it_lt (i := i) (by omega) t
        rw [← hn] at hlt
        have hx := fun t => F.idx (by have := hlt t; omega : itF to t i < w * h)
        rw [← hn] at hx
        have hx0 : ord.idxOf i < n := hx 0
        refine ⟨Nat, fun t => ⟨[(7, .fz (.list (.list int)) sl), (8, .fz .raw (er E 0)), (9, .fz (.list int) ol), (10, .fz .raw (er E 0)), (12, .ptr 0 0), (13, .fz (.list .bool) (lsb n on)), (14, .fz (.list int) (lst n inn)), (15, .fz int (rcs to on inn i).length), (16, .fz int i), (17, .ref 1 0 (t + 1)), (18, .fz int (itF to t i))], [bF, .row int (wyL to i t)]⟩, fun t => (∀ s, s < t → to (itF to s i) ≠ itF to s i ∧ (0 < s → inn (itF to s i) = 1)) ∧ (0 < t → inn (itF to t i) = 1) ∧ ord.idxOf (itF to t i) + t ≤ ord.idxOf i, fun t => ord.idxOf (itF to t i), 0, ⟨(fun s hs => absurd hs (Nat.not_lt_zero s)), (fun h => absurd h (Nat.lt_irrefl 0)), Nat.le_refl _⟩, Ent.sub ?_ ?_, ?_⟩
        · (repeat' (first | exact rfl | refine cons_eq ?_ ?_))
        · (repeat' (first | exact trivial | exact rfl | refine And.intro ?_ ?_))
        intro t ⟨hs, hs0, hsum⟩
        have hc := hlt t
        have hW := wyL_len to i t
        have g2 : (lst n (fun i => ((to i : Nat) : Int)))[itF to t i]?.getD int.dft = (to (itF to t i) : Nat) := lst_get (fun i => ((to i : Nat) : Int)) hc
        by_cases he : to (itF to t i) = itF to t i
        · have ht : rcT to inn i = t := rcT_eq ⟨hs, .inl he⟩
          rw [ht] at eR
          (repeat' (first | exact trivial | exact fun h => h | refine And.intro ?_ ?_ | (intro hb; first | (simp at hb; done) | (simp at hb) | skip) | omega | exact rfl | exact Nat.le_refl _ | (show _ + 1 ≤ 4294967296; omega) | (dsimp only; omega) | (show (_ : Int) ≤ (_ : Int); omega) | (show _ < List.length _; simp only [List.length_set, List.length_append, List.length_take]; omega) | (show wantB _ _ = true; simp; done) | (show wantB _ _ = true; simp; omega) | (show (_ : Bool) = _; simp_all; done) | (exfalso; omega) | refine aRegion_auto (by decide +kernel) ?_ | refine ⟨_, _, REnt.drop ⟨rfl, rfl⟩, ?_⟩ | fail))
          refine ⟨[(7, .fz (.list (.list int)) sl), (8, .fz .raw (er E 0)), (9, .fz (.list int) ol), (10, .fz .raw (er E 0)), (12, .ptr 0 0), (13, .fz (.list .bool) (lsb n on)), (14, .fz (.list int) (lst n inn)), (15, .fz int (rcs to on inn i).length), (16, .fz int i), (17, .fz (.list int) (wyL to i (t)))], [bF], (Ent.conv 17 (.dat (.list int)) _ rfl ?_).trans (Ent.ren [0] rfl ?_ ?_), ?_⟩
          · show 0 + (t + 1) ≤ _; omega
          · (repeat' (first | exact trivial | exact rfl | refine And.intro ?_ ?_))
          · (repeat' (first | exact trivial | exact rfl | refine And.intro ?_ ?_))
            exact congrArg (AV.fz (.list int)) (by rw [List.drop_zero, List.take_of_length_le (by omega)])
          have hz : List.getD sl (Int.toNat (((rcs to on inn i).length : Nat) : Int)) [] = wyL to i (t) := by
            rw [Int.toNat_natCast, eL, hrest, eR]
            simp
          have hz2 : (rcs to on inn i).length < sl.length := by rw [eL, hrest, eR]; simp
          have hz3 : (wyL to i (t)).length ≤ 1000000000000 := by rw [wyL_len]; omega
          (repeat' (first | exact trivial | exact fun h => h | refine And.intro ?_ ?_ | (intro hb; first | (simp at hb; done) | (simp at hb) | skip) | omega | exact rfl | exact Nat.le_refl _ | (show _ + 1 ≤ 4294967296; omega) | (dsimp only; omega) | (show (_ : Int) ≤ (_ : Int); omega) | (show _ < List.length _; simp only [List.length_set, List.length_append, List.length_take]; omega) | (show wantB _ _ = true; simp; done) | (show wantB _ _ = true; simp; omega) | (show (_ : Bool) = _; simp_all; done) | (exfalso; omega) | refine aRegion_auto (by decide +kernel) ?_ | refine ⟨_, _, REnt.drop ⟨rfl, rfl⟩, ?_⟩ | fail))
          refine acall_frame0 rfl (acall_arg (sameInts_mercatorlaw4 _ (wyL to i (t)) (wyL to i (t)) hz3 _ ?_) (by rw [← hz]; rfl))
          rw [decide_eq_true rfl]
          (repeat' (first | exact trivial | exact fun h => h | refine And.intro ?_ ?_ | (intro hb; first | (simp at hb; done) | (simp at hb) | skip) | omega | exact rfl | exact Nat.le_refl _ | (show _ + 1 ≤ 4294967296; omega) | (dsimp only; omega) | (show (_ : Int) ≤ (_ : Int); omega) | (show _ < List.length _; simp only [List.length_set, List.length_append, List.length_take]; omega) | (show wantB _ _ = true; simp; done) | (show wantB _ _ = true; simp; omega) | (show (_ : Bool) = _; simp_all; done) | (exfalso; omega) | refine aRegion_auto (by decide +kernel) ?_ | refine ⟨_, _, REnt.drop ⟨rfl, rfl⟩, ?_⟩ | fail))
          refine ⟨i + 1, by show i + 1 ≤ n; omega, by show n - (i + 1) < n - i; omega, Ent.sub ?_ ?_⟩
          · (repeat' (first | exact rfl | refine cons_eq ?_ ?_))
          · (repeat' (first | exact trivial | exact rfl | refine And.intro ?_ ?_))
            show AV.fz int (((rcs to on inn i).length : Int) + 1) = AV.fz int (((rcs to on inn (i + 1)).length : Nat) : Int)
            rw [eR]; simp
        · have g2' : List.getD (lst n (fun i => ((to i : Nat) : Int))) (Int.toNat ((itF to t i : Nat) : Int)) int.dft = (to (itF to t i) : Nat) := lst_at (fun i => ((to i : Nat) : Int)) hc
          have hd := F.pos _ (by omega) he
          have hc1 := hlt (t + 1)
          have hsum' : ord.idxOf (to (itF to t i)) + (t + 1) ≤ ord.idxOf i := by omega
          have hs' : ∀ s, s < t + 1 → to (itF to s i) ≠ itF to s i ∧ (0 < s → inn (itF to s i) = 1) := fun s h1 => by
            by_cases e : s = t
            · subst e; exact ⟨he, hs0⟩
            · exact hs s (by omega)
          have htn : to (itF to t i) < n := hc1
          have q6 : (lst n inn)[to (itF to t i)]?.getD int.dft = inn (itF to (t + 1) i) := lst_get _ hc1
          have q7 : (lst n inn)[Int.toNat ((lst n (fun i => ((to i : Nat) : Int)))[itF to t i]?.getD int.dft)]?.getD int.dft = inn (itF to (t + 1) i) := by rw [g2]; exact q6
          have eWL : List.take (t + 1) (wyL to i t) ++ [((itF to (t + 1) i : Nat) : Int)] = wyL to i (t + 1) := by rw [List.take_of_length_le (by omega), wyL_succ]
          by_cases hin1 : inn (itF to (t + 1) i) = 1
          · (repeat' (first | exact trivial | exact fun h => h | refine And.intro ?_ ?_ | (intro hb; first | (simp at hb; done) | (simp at hb) | skip) | omega | exact rfl | exact Nat.le_refl _ | (show _ + 1 ≤ 4294967296; omega) | (dsimp only; omega) | (show (_ : Int) ≤ (_ : Int); omega) | (show _ < List.length _; simp only [List.length_set, List.length_append, List.length_take]; omega) | (show wantB _ _ = true; simp; done) | (show wantB _ _ = true; simp; omega) | (show (_ : Bool) = _; simp_all; done) | (exfalso; omega) | refine aRegion_auto (by decide +kernel) ?_ | refine ⟨_, _, REnt.drop ⟨rfl, rfl⟩, ?_⟩ | fail))
            refine ⟨t + 1, ⟨hs', (fun _ => hin1), hsum'⟩, hd, Ent.ren [0, 3] rfl ?_ ?_⟩
            · (repeat' (first | exact trivial | exact rfl | refine And.intro ?_ ?_))
              refine congrArg (fun l => some (AO.row int l)) (?_ : List.take (t + 1) (wyL to i t) ++ [List.getD (lst n (fun i => ((to i : Nat) : Int))) (Int.toNat ((itF to t i : Nat) : Int)) int.dft] = wyL to i (t + 1))
              rw [g2']; exact eWL
            · (repeat' (first | exact trivial | exact rfl | refine And.intro ?_ ?_))
              exact congrArg (AV.fz int) g2'
          · have ht : rcT to inn i = t + 1 := rcT_eq ⟨hs', .inr ⟨by omega, hin1⟩⟩
            rw [ht] at eR
            (repeat' (first | exact trivial | exact fun h => h | refine And.intro ?_ ?_ | (intro hb; first | (simp at hb; done) | (simp at hb) | skip) | omega | exact rfl | exact Nat.le_refl _ | (show _ + 1 ≤ 4294967296; omega) | (dsimp only; omega) | (show (_ : Int) ≤ (_ : Int); omega) | (show _ < List.length _; simp only [List.length_set, List.length_append, List.length_take]; omega) | (show wantB _ _ = true; simp; done) | (show wantB _ _ = true; simp; omega) | (show (_ : Bool) = _; simp_all; done) | (exfalso; omega) | refine aRegion_auto (by decide +kernel) ?_ | refine ⟨_, _, REnt.drop ⟨rfl, rfl⟩, ?_⟩ | fail))
            all_goals first | (exfalso; exact hin1 (q7.symm.trans hb)) | skip
            refine ⟨[(7, .fz (.list (.list int)) sl), (8, .fz .raw (er E 0)), (9, .fz (.list int) ol), (10, .fz .raw (er E 0)), (12, .ptr 0 0), (13, .fz (.list .bool) (lsb n on)), (14, .fz (.list int) (lst n inn)), (15, .fz int (rcs to on inn i).length), (16, .fz int i), (17, .fz (.list int) (wyL to i (t + 1)))], [bF], (Ent.conv 17 (.dat (.list int)) _ rfl ?_).trans (Ent.ren [0] rfl ?_ ?_), ?_⟩
            · show 0 + (t + 1 + 1) ≤ List.length (List.take (t + 1) (wyL to i t) ++ [List.getD (lst n (fun i => ((to i : Nat) : Int))) (Int.toNat ((itF to t i : Nat) : Int)) int.dft])
              rw [g2']
              have := congrArg List.length eWL
              rw [wyL_len] at this
              rw [show itF to (t + 1) i = to (itF to t i) from rfl] at this
              omega
            · (repeat' (first | exact trivial | exact rfl | refine And.intro ?_ ?_))
            · (repeat' (first | exact trivial | exact rfl | refine And.intro ?_ ?_))
              refine congrArg (AV.fz (.list int)) (?_ : List.take (t + 1 + 1) (List.drop 0 (List.take (t + 1) (wyL to i t) ++ [List.getD (lst n (fun i => ((to i : Nat) : Int))) (Int.toNat ((itF to t i : Nat) : Int)) int.dft])) = wyL to i (t + 1))
              rw [g2', show to (itF to t i) = itF to (t + 1) i from rfl, eWL, List.drop_zero, List.take_of_length_le (by rw [wyL_len]; omega)]
            have hz : List.getD sl (Int.toNat (((rcs to on inn i).length : Nat) : Int)) [] = wyL to i (t + 1) := by
              rw [Int.toNat_natCast, eL, hrest, eR]
              simp
            have hz2 : (rcs to on inn i).length < sl.length := by rw [eL, hrest, eR]; simp
            have hz3 : (wyL to i (t + 1)).length ≤ 1000000000000 := by rw [wyL_len]; omega
            (repeat' (first | exact trivial | exact fun h => h | refine And.intro ?_ ?_ | (intro hb; first | (simp at hb; done) | (simp at hb) | skip) | omega | exact rfl | exact Nat.le_refl _ | (show _ + 1 ≤ 4294967296; omega) | (dsimp only; omega) | (show (_ : Int) ≤ (_ : Int); omega) | (show _ < List.length _; simp only [List.length_set, List.length_append, List.length_take]; omega) | (show wantB _ _ = true; simp; done) | (show wantB _ _ = true; simp; omega) | (show (_ : Bool) = _; simp_all; done) | (exfalso; omega) | refine aRegion_auto (by decide +kernel) ?_ | refine ⟨_, _, REnt.drop ⟨rfl, rfl⟩, ?_⟩ | fail))
            refine acall_frame0 rfl (acall_arg (sameInts_mercatorlaw4 _ (wyL to i (t + 1)) (wyL to i (t + 1)) hz3 _ ?_) (by rw [← hz]; rfl))
            rw [decide_eq_true rfl]
            (repeat' (first | exact trivial | exact fun h => h | refine And.intro ?_ ?_ | (intro hb; first | (simp at hb; done) | (simp at hb) | skip) | omega | exact rfl | exact Nat.le_refl _ | (show _ + 1 ≤ 4294967296; omega) | (dsimp only; omega) | (show (_ : Int) ≤ (_ : Int); omega) | (show _ < List.length _; simp only [List.length_set, List.length_append, List.length_take]; omega) | (show wantB _ _ = true; simp; done) | (show wantB _ _ = true; simp; omega) | (show (_ : Bool) = _; simp_all; done) | (exfalso; omega) | refine aRegion_auto (by decide +kernel) ?_ | refine ⟨_, _, REnt.drop ⟨rfl, rfl⟩, ?_⟩ | fail))
            refine ⟨i + 1, by show i + 1 ≤ n; omega, by show n - (i + 1) < n - i; omega, Ent.sub ?_ ?_⟩
            · (repeat' (first | exact rfl | refine cons_eq ?_ ?_))
            · (repeat' (first | exact trivial | exact rfl | refine And.intro ?_ ?_))
              show AV.fz int (((rcs to on inn i).length : Int) + 1) = AV.fz int (((rcs to on inn (i + 1)).length : Nat) : Int)
              rw [eR]; simp
      · have eR : rcs to on inn (i + 1) = rcs to on inn i := by
          show (if on i = true ∧ inn i ≠ 1 then _ else _) = _
          rw [if_neg hst]
        (repeat' (first | exact trivial | exact fun h => h | refine And.intro ?_ ?_ | (intro hb; first | (simp at hb; done) | (simp at hb) | skip) | omega | exact rfl | exact Nat.le_refl _ | (show _ + 1 ≤ 4294967296; omega) | (dsimp only; omega) | (show (_ : Int) ≤ (_ : Int); omega) | (show _ < List.length _; simp only [List.length_set, List.length_append, List.length_take]; omega) | (show wantB _ _ = true; simp; done) | (show wantB _ _ = true; simp; omega) | (show (_ : Bool) = _; simp_all; done) | (exfalso; omega) | refine aRegion_auto (by decide +kernel) ?_ | refine ⟨_, _, REnt.drop ⟨rfl, rfl⟩, ?_⟩ | fail))
        · refine ⟨i + 1, by show i + 1 ≤ n; omega, by show n - (i + 1) < n - i; omega, Ent.sub ?_ ?_⟩
          · (repeat' (first | exact rfl | refine cons_eq ?_ ?_))
          · show subT _ [(7, .fz (.list (.list int)) sl), (8, .fz .raw (er E 0)), (9, .fz (.list int) ol), (10, .fz .raw (er E 0)), (12, .ptr 0 0), (13, .fz (.list .bool) (lsb n on)), (14, .fz (.list int) (lst n inn)), (15, .fz int (rcs to on inn (i + 1)).length), (16, .fz int ((i + 1 : Nat) : Int))]
            rw [eR]
            (repeat' (first | exact trivial | exact rfl | refine And.intro ?_ ?_))
        · exfalso
          exact hst ⟨q3.symm.trans hb.1, fun e => hb.2 (q4.trans e)⟩
    · have hie : i = n := by omega
      subst hie
      have hkl : (rcs to on inn i).length = sl.length := by rw [eL]
      (repeat' (first | exact trivial | exact fun h => h | refine And.intro ?_ ?_ | (intro hb; first | (simp at hb; done) | (simp at hb) | skip) | omega | exact rfl | exact Nat.le_refl _ | (show _ + 1 ≤ 4294967296; omega) | (dsimp only; omega) | (show (_ : Int) ≤ (_ : Int); omega) | (show _ < List.length _; simp only [List.length_set, List.length_append, List.length_take]; omega) | (show wantB _ _ = true; simp; done) | (show wantB _ _ = true; simp; omega) | (show (_ : Bool) = _; simp_all; done) | (exfalso; omega) | refine aRegion_auto (by decide +kernel) ?_ | refine ⟨_, _, REnt.drop ⟨rfl, rfl⟩, ?_⟩ | fail))
      refine ⟨Nat, fun j => ⟨[(9, .fz (.list int) ol), (12, .ptr 0 0), (13, .fz (.list .bool) (lsb i on)), (20, .fz int j)], [bF]⟩, fun j => j ≤ i, fun j => i - j, 0, Nat.zero_le _, Ent.sub ?_ ?_, ?_⟩
      · (repeat' (first | exact rfl | refine cons_eq ?_ ?_))
      · (repeat' (first | exact trivial | exact rfl | refine And.intro ?_ ?_))
      intro j hj
      by_cases hji : j < i
      · have q1 : List.getD (lsb i on) (Int.toNat (j : Int)) Ty.bool.dft = on j := lsb_at _ hji
        have q3 : (lsb i on)[j]?.getD Ty.bool.dft = on j := lsb_get _ hji
        have q4 : ol[j]?.getD int.dft = soN to ord on i j := by rw [eO]; exact lst_get _ hji
        have hnd : i - ord.idxOf j ≤ i := by omega
        by_cases ho : on j = true
        · rw [ho] at q1 q3
          (repeat' (first | exact trivial | exact fun h => h | refine And.intro ?_ ?_ | (intro hb; first | (simp at hb; done) | (simp at hb) | skip) | omega | exact rfl | exact Nat.le_refl _ | (show _ + 1 ≤ 4294967296; omega) | (dsimp only; omega) | (show (_ : Int) ≤ (_ : Int); omega) | (show _ < List.length _; simp only [List.length_set, List.length_append, List.length_take]; omega) | (show wantB _ _ = true; simp; done) | (show wantB _ _ = true; simp; omega) | (show (_ : Bool) = _; simp_all; done) | (exfalso; omega) | refine aRegion_auto (by decide +kernel) ?_ | refine ⟨_, _, REnt.drop ⟨rfl, rfl⟩, ?_⟩ | fail))
          all_goals first | (exfalso; have z := q3.symm.trans (by assumption : (lsb i on)[j]?.getD Ty.bool.dft = false); cases z; done) | skip
          refine acall_conv [.dat FT, .keep, .keep] _ _ _ rfl trivial (acall_frame0 rfl (strahlerOf_any _ (fill, lst i (fun i => ((to i : Nat) : Int)), natL ord) F hn hwh rfl on i j hji ho hnd _ ?_))
          (repeat' (first | exact trivial | exact fun h => h | refine And.intro ?_ ?_ | (intro hb; first | (simp at hb; done) | (simp at hb) | skip) | omega | exact rfl | exact Nat.le_refl _ | (show _ + 1 ≤ 4294967296; omega) | (dsimp only; omega) | (show (_ : Int) ≤ (_ : Int); omega) | (show _ < List.length _; simp only [List.length_set, List.length_append, List.length_take]; omega) | (show wantB _ _ = true; simp; done) | (show wantB _ _ = true; simp; omega) | (show (_ : Bool) = _; simp_all; done) | (exfalso; omega) | refine aRegion_auto (by decide +kernel) ?_ | refine ⟨_, _, REnt.drop ⟨rfl, rfl⟩, ?_⟩ | fail))
          · refine ⟨j + 1, by show j + 1 ≤ i; omega, by show i - (j + 1) < i - j; omega, Ent.sub ?_ ?_⟩
            · (repeat' (first | exact rfl | refine cons_eq ?_ ?_))
            · (repeat' (first | exact trivial | exact rfl | refine And.intro ?_ ?_))
        · have ho' : on j = false := by simpa using ho
          rw [ho'] at q1 q3
          have hz : soN to ord on i j = 0 := by
            rw [hn] at hji ⊢
            exact F.so_off hup hji ho'
          rw [hz] at q4
          (repeat' (first | exact trivial | exact fun h => h | refine And.intro ?_ ?_ | (intro hb; first | (simp at hb; done) | (simp at hb) | skip) | omega | exact rfl | exact Nat.le_refl _ | (show _ + 1 ≤ 4294967296; omega) | (dsimp only; omega) | (show (_ : Int) ≤ (_ : Int); omega) | (show _ < List.length _; simp only [List.length_set, List.length_append, List.length_take]; omega) | (show wantB _ _ = true; simp; done) | (show wantB _ _ = true; simp; omega) | (show (_ : Bool) = _; simp_all; done) | (exfalso; omega) | refine aRegion_auto (by decide +kernel) ?_ | refine ⟨_, _, REnt.drop ⟨rfl, rfl⟩, ?_⟩ | fail))
          all_goals first | (exfalso; have z := q3.symm.trans (by assumption : (lsb i on)[j]?.getD Ty.bool.dft = true); cases z; done) | (exfalso; omega) | skip
          refine ⟨j + 1, by show j + 1 ≤ i; omega, by show i - (j + 1) < i - j; omega, Ent.sub ?_ ?_⟩
          · (repeat' (first | exact rfl | refine cons_eq ?_ ?_))
          · (repeat' (first | exact trivial | exact rfl | refine And.intro ?_ ?_))
      · have hji' : j = i := by omega
        subst hji'
        (repeat' (first | exact trivial | exact fun h => h | refine And.intro ?_ ?_ | (intro hb; first | (simp at hb; done) | (simp at hb) | skip) | omega | exact rfl | exact Nat.le_refl _ | (show _ + 1 ≤ 4294967296; omega) | (dsimp only; omega) | (show (_ : Int) ≤ (_ : Int); omega) | (show _ < List.length _; simp only [List.length_set, List.length_append, List.length_take]; omega) | (show wantB _ _ = true; simp; done) | (show wantB _ _ = true; simp; omega) | (show (_ : Bool) = _; simp_all; done) | (exfalso; omega) | refine aRegion_auto (by decide +kernel) ?_ | refine ⟨_, _, REnt.drop ⟨rfl, rfl⟩, ?_⟩ | fail))
        exact hK
  · have h5 : strE a least ≤ 4 := by unfold strE; split <;> (try split) <;> omega
    have e1 : strsQ a least = [] := by unfold strsQ; rw [if_neg hv]
    have e2 : ordQ a least = [] := by unfold ordQ; rw [if_neg hv]
    rw [e1, e2]
    by_cases h0 : rerr a = 0
    · have h1 : least < 1 := by
        refine Classical.byContradiction fun h1 => hv ?_
        unfold strE
        rw [if_pos h0, if_neg h1]
      have e3 : strE a least = 3 := by unfold strE; rw [if_pos h0, if_pos h1]
      rw [e3, h0]
      (repeat' (first | exact trivial | exact fun h => h | refine And.intro ?_ ?_ | (intro hb; first | (simp at hb; done) | (simp at hb) | skip) | omega | exact rfl | exact Nat.le_refl _ | (show _ + 1 ≤ 4294967296; omega) | (dsimp only; omega) | (show (_ : Int) ≤ (_ : Int); omega) | (show _ < List.length _; simp only [List.length_set, List.length_append, List.length_take]; omega) | (show wantB _ _ = true; simp; done) | (show wantB _ _ = true; simp; omega) | (show (_ : Bool) = _; simp_all; done) | (exfalso; omega) | refine aRegion_auto (by decide +kernel) ?_ | refine ⟨_, _, REnt.drop ⟨rfl, rfl⟩, ?_⟩ | fail))
      refine acall_frame0 rfl (coded_mercatorlaw4 hE (by omega) 3 _ ?_)
      rw [show decide (((3 : Nat) : Int) = 3) = true from rfl]
      (repeat' (first | exact trivial | exact fun h => h | refine And.intro ?_ ?_ | (intro hb; first | (simp at hb; done) | (simp at hb) | skip) | omega | exact rfl | exact Nat.le_refl _ | (show _ + 1 ≤ 4294967296; omega) | (dsimp only; omega) | (show (_ : Int) ≤ (_ : Int); omega) | (show _ < List.length _; simp only [List.length_set, List.length_append, List.length_take]; omega) | (show wantB _ _ = true; simp; done) | (show wantB _ _ = true; simp; omega) | (show (_ : Bool) = _; simp_all; done) | (exfalso; omega) | refine aRegion_auto (by decide +kernel) ?_ | refine ⟨_, _, REnt.drop ⟨rfl, rfl⟩, ?_⟩ | fail))
      refine acall_frame0 rfl (coded_mercatorlaw4 hE (by omega) 3 _ ?_)
      rw [show decide (((3 : Nat) : Int) = 3) = true from rfl]
      (repeat' (first | exact trivial | exact fun h => h | refine And.intro ?_ ?_ | (intro hb; first | (simp at hb; done) | (simp at hb) | skip) | omega | exact rfl | exact Nat.le_refl _ | (show _ + 1 ≤ 4294967296; omega) | (dsimp only; omega) | (show (_ : Int) ≤ (_ : Int); omega) | (show _ < List.length _; simp only [List.length_set, List.length_append, List.length_take]; omega) | (show wantB _ _ = true; simp; done) | (show wantB _ _ = true; simp; omega) | (show (_ : Bool) = _; simp_all; done) | (exfalso; omega) | refine aRegion_auto (by decide +kernel) ?_ | refine ⟨_, _, REnt.drop ⟨rfl, rfl⟩, ?_⟩ | fail))
      exact hK
    · have e3 : strE a least = rerr a := by unfold strE; rw [if_neg h0]
      rw [e3]
      (repeat' (first | exact trivial | exact fun h => h | refine And.intro ?_ ?_ | (intro hb; first | (simp at hb; done) | (simp at hb) | skip) | omega | exact rfl | exact Nat.le_refl _ | (show _ + 1 ≤ 4294967296; omega) | (dsimp only; omega) | (show (_ : Int) ≤ (_ : Int); omega) | (show _ < List.length _; simp only [List.length_set, List.length_append, List.length_take]; omega) | (show wantB _ _ = true; simp; done) | (show wantB _ _ = true; simp; omega) | (show (_ : Bool) = _; simp_all; done) | (exfalso; omega) | refine aRegion_auto (by decide +kernel) ?_ | refine ⟨_, _, REnt.drop ⟨rfl, rfl⟩, ?_⟩ | fail))
      refine acall_frame0 rfl (coded_mercatorlaw4 hE (by omega) (rerr a) _ ?_)
      rw [decide_eq_true rfl]
      (repeat' (first | exact trivial | exact fun h => h | refine And.intro ?_ ?_ | (intro hb; first | (simp at hb; done) | (simp at hb) | skip) | omega | exact rfl | exact Nat.le_refl _ | (show _ + 1 ≤ 4294967296; omega) | (dsimp only; omega) | (show (_ : Int) ≤ (_ : Int); omega) | (show _ < List.length _; simp only [List.length_set, List.length_append, List.length_take]; omega) | (show wantB _ _ = true; simp; done) | (show wantB _ _ = true; simp; omega) | (show (_ : Bool) = _; simp_all; done) | (exfalso; omega) | refine aRegion_auto (by decide +kernel) ?_ | refine ⟨_, _, REnt.drop ⟨rfl, rfl⟩, ?_⟩ | fail))
      refine acall_frame0 rfl (coded_mercatorlaw4 hE (by omega) (rerr a) _ ?_)
      rw [decide_eq_true rfl]
      (repeat' (first | exact trivial | exact fun h => h | refine And.intro ?_ ?_ | (intro hb; first | (simp at hb; done) | (simp at hb) | skip) | omega | exact rfl | exact Nat.le_refl _ | (show _ + 1 ≤ 4294967296; omega) | (dsimp only; omega) | (show (_ : Int) ≤ (_ : Int); omega) | (show _ < List.length _; simp only [List.length_set, List.length_append, List.length_take]; omega) | (show wantB _ _ = true; simp; done) | (show wantB _ _ = true; simp; omega) | (show (_ : Bool) = _; simp_all; done) | (exfalso; omega) | refine aRegion_auto (by decide +kernel) ?_ | refine ⟨_, _, REnt.drop ⟨rfl, rfl⟩, ?_⟩ | fail))
      exact hK
theorem drainStreams_nil {E : Errs} (least : Int) (K : AV → List AO → Prop) (hK : K (.fz .bool true) []) :
    ACall Tryd.prog (G8 E) 7 [.fz .raw (.pointer none), .fz int least] [] K := by
  refine acall_mk (E := envAt (G8 E) 181 0) (envOk _ _ _) Tryd.func7 rfl rfl rfl rfl rfl ?_
  (repeat' (first | exact trivial | exact fun h => h | refine And.intro ?_ ?_ | (intro hb; first | (simp at hb; done) | (simp at hb) | skip) | omega | exact rfl | exact Nat.le_refl _ | (show _ + 1 ≤ 4294967296; omega) | (dsimp only; omega) | (show (_ : Int) ≤ (_ : Int); omega) | (show _ < List.length _; simp only [List.length_set, List.length_append, List.length_take]; omega) | (show wantB _ _ = true; simp; done) | (show wantB _ _ = true; simp; omega) | (show (_ : Bool) = _; simp_all; done) | (exfalso; omega) | refine aRegion_auto (by decide +kernel) ?_ | refine ⟨_, _, REnt.drop ⟨rfl, rfl⟩, ?_⟩ | fail))
  refine acall_frame0 rfl (drains_any E _ ?_)
  (repeat' (first | exact trivial | exact fun h => h | refine And.intro ?_ ?_ | (intro hb; first | (simp at hb; done) | (simp at hb) | skip) | omega | exact rfl | exact Nat.le_refl _ | (show _ + 1 ≤ 4294967296; omega) | (dsimp only; omega) | (show (_ : Int) ≤ (_ : Int); omega) | (show _ < List.length _; simp only [List.length_set, List.length_append, List.length_take]; omega) | (show wantB _ _ = true; simp; done) | (show wantB _ _ = true; simp; omega) | (show (_ : Bool) = _; simp_all; done) | (exfalso; omega) | refine aRegion_auto (by decide +kernel) ?_ | refine ⟨_, _, REnt.drop ⟨rfl, rfl⟩, ?_⟩ | fail))
  refine acall_frame0 rfl (small80_nil _ _ ?_)
  (repeat' (first | exact trivial | exact fun h => h | refine And.intro ?_ ?_ | (intro hb; first | (simp at hb; done) | (simp at hb) | skip) | omega | exact rfl | exact Nat.le_refl _ | (show _ + 1 ≤ 4294967296; omega) | (dsimp only; omega) | (show (_ : Int) ≤ (_ : Int); omega) | (show _ < List.length _; simp only [List.length_set, List.length_append, List.length_take]; omega) | (show wantB _ _ = true; simp; done) | (show wantB _ _ = true; simp; omega) | (show (_ : Bool) = _; simp_all; done) | (exfalso; omega) | refine aRegion_auto (by decide +kernel) ?_ | refine ⟨_, _, REnt.drop ⟨rfl, rfl⟩, ?_⟩ | fail))
  exact hK
end Go.Proofs.YtepkknjncpbahaaDoor
/-
  What the laid variables give: eight errors, all different, and the handle of type error.
-/
namespace Go.Proofs.YtepkknjncpbahaaDoor
open Go Go.Ab Go.RowKit Go.ChangeShapes
set_option maxRecDepth 100000
theorem star : "*" ++ "errors.errorString" = "*errors.errorString" := by decide
theorem names_at (u : TypeId) (h : Tryd.prog.typeName? 3 u = some "*errors.errorString") : u = 171 :=
  typeName_ptr_named (nm := "errors.errorString") (by rw [star]; kernel_rfl) (by kernel_rfl) (by decide) u (by rw [star]; exact h)
theorem cells_es : Tryd.prog.cellsOf 194 = 1 := by kernel_rfl
theorem cells_str : Tryd.prog.cellsOf 9 = 1 := by kernel_rfl
theorem glob_ty (g : Nat) (hg : g ∈ [2, 3, 0, 1, 4, 5, 6, 7]) :
    ∃ ti ms, (Tryd.prog.globals[g]?).map (·.type) = some ti ∧ Tryd.prog.underlying ti = some (.interface ms) := by
  have : ([2, 3, 0, 1, 4, 5, 6, 7].all fun g => (Tryd.prog.globals[g]?).map (·.type) == some 30) = true := by kernel_rfl
  exact ⟨30, _, by simpa using List.all_eq_true.1 this g hg, Tryd.underlying30⟩
theorem et_at : Tryd.prog.globalNamed "errors.errorType" = some 8 := by kernel_rfl
theorem rt_at : (Tryd.prog.cutTypes.find? (·.1 == "internal/reflectlite.rtype")).map (·.2) = some 138 := by kernel_rfl
theorem one_row : ((List.range Tryd.prog.types.size).filter fun t => Tryd.prog.rowNamed t [101, 114, 114, 111, 114]) = [30] := by kernel_rfl
/-- of a list of the eight errors and the handle -/
theorem globs8 {W : World} {l : List (String × DataW Unit)} {x1 x2 x3 x4 x5 x6 x7 x8 : List UInt8} (h : laidMetH Tryd.prog l W)
    (hl : (l.filter fun x => x.2.handleName?.isNone) = [("mercator/api.ErrText", errD x1), ("mercator/api.ErrBound", errD x2), ("mercator/api.ErrShape", errD x3), ("mercator/api.ErrRange", errD x4), ("mercator/api.ErrName", errD x5), ("mercator/api.ErrNone", errD x6), ("mercator/api.ErrOrder", errD x7), ("mercator/api.ErrFile", errD x8)])
    (hh : (l.filter fun x => x.2.handleName?.isSome) = [("errors.errorType", .iface "internal/reflectlite.rtype" (.agg [.ptr (.lit (.string [101, 114, 114, 111, 114]))]))]) :
    ∃ E : Errs, (EL E).Nodup ∧ ∀ g v, gk (G8 E) g = some v → Glo0 W g v := by
  obtain ⟨h1, h2⟩ := laidMetH_iff.1 h
  rw [hl] at h1
  rw [hh] at h2
  obtain ⟨ps, hv, hn, hall⟩ := h1
  obtain ⟨al, k1, k2, k3, _⟩ := laid_errs names_at Tryd.underlying171 Tryd.underlying194 rfl rfl Tryd.underlying9 cells_es cells_str
    [("mercator/api.ErrText", x1), ("mercator/api.ErrBound", x2), ("mercator/api.ErrShape", x3), ("mercator/api.ErrRange", x4), ("mercator/api.ErrName", x5), ("mercator/api.ErrNone", x6), ("mercator/api.ErrOrder", x7), ("mercator/api.ErrFile", x8)]
    [2, 3, 0, 1, 4, 5, 6, 7] ps hv hn hall (by kernel_rfl) glob_ty
  obtain ⟨a1, a2, a3, a4, a5, a6, a7, a8, rfl⟩ : ∃ a1 a2 a3 a4 a5 a6 a7 a8, al = [a1, a2, a3, a4, a5, a6, a7, a8] := by
    match al, k1 with
    | [a1, a2, a3, a4, a5, a6, a7, a8], _ => exact ⟨a1, a2, a3, a4, a5, a6, a7, a8, rfl⟩
  have hE : Glo0 W 8 asK.errType := by
    obtain ⟨name, u, ty, e1, e2, e3, e4, e5⟩ := h2 _ (List.mem_singleton.2 rfl)
    have en : name = [101, 114, 114, 111, 114] := (Option.some.inj e1).symm
    subst en
    obtain rfl := Option.some.inj (rt_at.symm.trans e2)
    have hm : ty ∈ (List.range Tryd.prog.types.size).filter fun t => Tryd.prog.rowNamed t [101, 114, 114, 111, 114] := List.mem_filter.2 ⟨List.mem_range.2 e3, e4⟩
    rw [one_row] at hm
    obtain rfl := List.mem_singleton.1 hm
    have hh : typeHandle Tryd.prog 30 = .pointer (some ⟨9, 30, none⟩) := by kernel_rfl
    rw [hh] at e5
    exact ⟨by simpa [asK.errType] using World.var?_cell et_at e5 0, rfl, fun T a e => by cases e⟩
  refine ⟨⟨a1, a2, a3, a4, a5, a6, a7, a8⟩, k2, fun g v hg => ?_⟩
  unfold G8 gk at hg
  split at hg
  · rename_i e; subst e; cases hg; exact k3 2 _ _ rfl rfl
  unfold gk at hg
  split at hg
  · rename_i e; subst e; cases hg; exact k3 3 _ _ rfl rfl
  unfold gk at hg
  split at hg
  · rename_i e; subst e; cases hg; exact k3 1 _ _ rfl rfl
  unfold gk at hg
  split at hg
  · rename_i e; subst e; cases hg; exact k3 0 _ _ rfl rfl
  unfold gk at hg
  split at hg
  · rename_i e; subst e; cases hg; exact k3 4 _ _ rfl rfl
  unfold gk at hg
  split at hg
  · rename_i e; subst e; cases hg; exact k3 5 _ _ rfl rfl
  unfold gk at hg
  split at hg
  · rename_i e; subst e; cases hg; exact k3 6 _ _ rfl rfl
  unfold gk at hg
  split at hg
  · rename_i e; subst e; cases hg; exact k3 7 _ _ rfl rfl
  unfold gk at hg
  split at hg
  · rename_i e; subst e; cases hg; exact hE
  · cases hg
end Go.Proofs.YtepkknjncpbahaaDoor
/-
  Arguments read again behind a call that leaves old memory alone; a slice of points opened.
-/
namespace Go.Proofs.YtepkknjncpbahaaDoor
open Go Go.ChangeShapes Go.WideShapes Go.ChangeAt Go.RowKit
theorem trodAll_below {H : Type} {enc : TypeId × Value → H} {P : Program} (hl : laidOutB P = true) {W W' : World} (hb : Below W.heap.size W W') :
    ∀ (ts : List TypeId) (vs : List Value) (ds : List (DataW H)) (ps : List MemPlace), (∀ t ∈ ts, P.readableRec t = true ∧ t < P.types.size) →
      DataW.TrodAll enc P W 0 (fun _ => true) true ts vs ds ps → (∀ x ∈ ps, x.block < W.heap.size) →
      DataW.TrodAll enc P W' 0 (fun b => decide (b < W.heap.size)) true ts vs ds ps
  | [], [], [], ps, _, h, _ => h
  | [], [], _ :: _, _, _, h, _ => h.elim
  | [], _ :: _, _, _, _, h, _ => h.elim
  | _ :: _, [], _, _, _, h, _ => h.elim
  | _ :: _, _ :: _, [], _, _, h, _ => h.elim
  | t :: ts, v :: vs, d :: ds, ps, hr, h, hlt => by
    obtain ⟨p, q, h1, h2, rfl⟩ := h
    refine ⟨p, q, Below.trod hl (hr t (List.mem_cons_self ..)).1 (hr t (List.mem_cons_self ..)).2 h1 hb (fun x hx => hlt x (List.mem_append.2 (.inl hx))), ?_, rfl⟩
    exact trodAll_below hl hb ts vs ds q (fun t ht => hr t (List.mem_cons_of_mem _ ht)) h2 (fun x hx => hlt x (List.mem_append.2 (.inr hx)))
end Go.Proofs.YtepkknjncpbahaaDoor
/-
  DrainStreams answers true, whatever it is asked (no condition).
-/
namespace Go.Proofs.YtepkknjncpbahaaDoor.drainStreams
open Go Go.ChangeShapes Go.WideShapes Go.ChangeAt Go.RowKit Go.Ab
set_option maxRecDepth 100000
theorem own : ownKnob Tryd.prog.godebug = none := by kernel_rfl
theorem laidOut : laidOutB Tryd.prog = true := by kernel_rfl
theorem lifted (os : Os) (started : os.Started) (H : Type) (enc : TypeId × Value → H) :
    ReturnsInHanded {} Tryd.checked os 7 .any (fun w args => (Rows.drainStreamsSpec.pre enc Tryd.prog Tryd.f7 [] false w args ∧ laidMetH Tryd.prog Rows.drainStreamsRow.laid w) ∧ sizedMet enc Tryd.prog Tryd.f7 (OpenSpec.ofChange Rows.drainStreamsSpec) false w args)
      (Rows.drainStreamsSpec.post enc Tryd.prog Tryd.f7 false true false false) := by
  refine returnsInHanded_of_change_and (C := Tryd.checked) (X := fun w _ => laidMetH Tryd.prog Rows.drainStreamsRow.laid w) (fun _ _ _ hh h => h.of_heap hh) own started (by kernel_rfl) Tryd.func7
    (ChangeSpec.witness_shaped (enc := enc) (C := Tryd.checked) (os := os) (X := fun w _ => laidMetH Tryd.prog Rows.drainStreamsRow.laid w) false (World.doorLaid Tryd.prog 400 os) #[.pointer none, .int .i64 0] 8 rfl (World.shaped_of_RefB (by kernel_rfl) (by kernel_rfl)) (by kernel_rfl) (by kernel_rfl) (by kernel_rfl)
      (laidMetH_of_parts3 (fuel := 8) (laidMet_of_run' 8 (by kernel_rfl) (by kernel_rfl)) (by kernel_rfl) (by kernel_rfl))) ?_
  intro W base args ds gs before hval0 hW _ _ hL _
  have hval : ∀ (j : Nat) t v, Tryd.f7.params[j]? = some t → args[j]? = some v → Value.okWide Tryd.prog W .any base t v := hval0
  have hW' := hW
  obtain ⟨p, q, hA0, hV, rfl, hfz, hnd⟩ := hW
  have hA : DataW.TrodAll enc Tryd.prog W 0 (fun _ => true) true Tryd.f7.params.toList args.toList ds p := hA0
  obtain ⟨rfl, rfl⟩ := trodVars_none hV
  simp only [List.append_nil] at hW'
  have hAll : ∀ W', Below W.heap.size W W' → DataW.TrodAll enc Tryd.prog W' 0 (fun b => decide (b < W.heap.size)) true Tryd.f7.params.toList args.toList ds p :=
    fun W' hb => trodAll_below laidOut hb _ _ _ _ (by rw [Tryd.params7]; exact of_decide_eq_true (by kernel_rfl)) hA (fun x hx => hW'.lt x hx)
  rw [Tryd.params7] at hA hval
  obtain ⟨v0, vs0, d0, ds0, p0, q0, hargs, rfl, rfl, h0, t0⟩ := trodAll_cons hA
  obtain ⟨v1, vs1, d1, ds1, p1, q1, rfl, rfl, rfl, h1, t1⟩ := trodAll_cons t0
  obtain ⟨rfl, rfl, rfl⟩ := trodAll_nil t1
  obtain rfl : args = #[v0, v1] := by cases args; simp_all
  clear hA0 hval0
  obtain ⟨E, hN, hE⟩ := globs8 hL rfl rfl
  have o0 := open_ptr (n := 4) (ty := RasT) tabOk (show tptrTo tab 22 = some 28 by kernel_rfl) (by kernel_rfl) (G8 E) (hval 0 _ v0 rfl rfl) h0
  obtain ⟨y1, r1, b1⟩ := open_val (n := 2) (ty := int) tabOk (by kernel_rfl) (G8 E) (hval 1 _ v1 rfl rfl) h1
  have fin : Calls Tryd.prog 7 #[v0, v1] W fun e w' => e = .returned (.bool true) ∧ Below W.heap.size W w' := by
    rcases o0 with rfl | ⟨y0, r0, b0⟩
    · exact acall_true (vs := [.pointer none, v1]) (drainStreams_nil y1 _ rfl) hE ⟨_, _, rfl, (rel_raw rfl).2 rfl, _, _, rfl, r1, rfl⟩
    · have hl0 : y0.2.2.length ≤ 9223372036854775807 := by have := b0.2.2.1; unfold maxLen at this; omega
      exact acall_true (vs := [v0, v1]) (drainStreams_some hN y0 y1 hl0 _ rfl) hE ⟨_, _, rfl, r0, _, _, rfl, r1, rfl⟩
  refine fin.mono fun e W' ⟨he, hg⟩ => ?_
  subst he
  exact ⟨_, rfl, _, _, _, [], _, [], hW', trodAll_mk1 (shut_bool Tryd.underlying4 _), hAll W' hg, rfl, hg.frame _, fun h => by cases h⟩
theorem row : Rows.DrainStreamsSaid :=
  OpenClaim.holds_of_wide 7 Tryd.f7 rfl rfl rfl rfl rfl rfl rfl ⟨rfl, rfl, rfl, rfl, rfl⟩ rfl rfl rfl rfl rfl (by kernel_rfl) Tryd.func7 (by kernel_rfl)
    (of_decide_eq_true (by kernel_rfl)) (by unfold Func.isWrapper; first | (rw [if_pos (by decide +kernel)]; kernel_rfl) | (rw [if_neg (by decide +kernel)]; exact ⟨rfl, rfl⟩))
    (fun os started H enc _ => lifted os started H enc)
theorem proved : Rows.DrainStreamsCardSaid :=
  Claim7.holds_tied_plain_at .later [] [.handle, .sentinel, .sentinel, .sentinel, .sentinel, .sentinel, .sentinel, .sentinel, .sentinel] true (true, "2c6a993363151e49d24002e89860878e7966fcc3637518dfcc0da44657d94591") true
    row (fun _ h => by cases h) (by kernel_rfl) (fun _ h => by cases h) drainStreams_row_tie rfl ⟨rfl, rfl⟩ (by kernel_rfl) rfl
    (fun f fn hf hfn => by
      obtain rfl : f = 7 := Option.some.inj ((show Tryd.prog.funcNamed "mercator/mercatorlaw4.DrainStreams" = some 7 by kernel_rfl).symm.trans hf) |>.symm
      obtain rfl : fn = Tryd.f7 := (Option.some.inj (Tryd.func7.symm.trans hfn)).symm
      exact ⟨by kernel_rfl, fun j t ht => by
        rw [Tryd.params7] at ht
        have hm : t ∈ [22, 3] := by simpa using Array.mem_of_getElem? ht
        have hall : ([22, 3].all fun u => !Tryd.prog.wantsStandIn u) = true := by kernel_rfl
        exact (show Tryd.prog.wantsStandIn t = false by simpa using List.all_eq_true.1 hall t hm)⟩)
    (by kernel_rfl)
end Go.Proofs.YtepkknjncpbahaaDoor.drainStreams
