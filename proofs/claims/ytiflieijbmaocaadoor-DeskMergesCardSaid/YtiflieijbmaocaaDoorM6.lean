/-
  Desks: what is refused; an edit done; what a desk shows.
-/
import Derived.Test.YtiflieijbmaocaaDoorM5
namespace Go.Proofs.YtiflieijbmaocaaDoor
open Go Go.Ab Go.RowKit
set_option maxRecDepth 100000
open Dk
/-- why an edit is no right one: 0, or the number of an error -/
def chk (n : Nat) (e : E) : Nat := if e.1 < 0 ∨ (n : Int) ≤ e.1 ∨ 1048576 < e.2.1 ∨ e.2.1 < -1048576 ∨ e.2.2.1 < 0 then 4 else if e.2.2.2.size = 0 ∨ 20 < e.2.2.2.size then 5 else 0
def eerr (n : Nat) (L : List E) (e : E) : Nat := if 0 < chk n e then chk n e else if hasE L e = false ∧ 2000 ≤ L.length then 2 else 0
theorem size0 (b : ByteArray) : (b.toList == ([] : List UInt8)) = decide (b.size = 0) := by
  rw [Bool.eq_iff_iff, beq_iff_eq, decide_eq_true_iff, ByteArray.toList_eq]
  constructor
  · intro h; have := congrArg List.length h; simpa using this
  · intro h; exact List.eq_nil_of_length_eq_zero (by simpa using h)
set_option maxHeartbeats 4000000 in
theorem check_any (E : Errs) (W H : Nat) (f now : List Int) (tl : List Tl) (L ad : List Dk.E) (cnt : Int) (e : Dk.E) (K : AV → List AO → Prop) (hK : K (.fz .raw (er E (chk now.length e))) (dkA W H f now tl L ad cnt)) :
    ACall Tryd.prog (G8 E) 43 [.ptr 0 0, .fz EdT e] (dkA W H f now tl L ad cnt) K := by
  have hz := size0 e.2.2.2
  refine acall_mk (E := envAt (G8 E) 45 5) (envOk _ _ _) Tryd.func43 rfl rfl rfl rfl rfl ?_
  have hzi : e.2.2.2.toList = [] ↔ e.2.2.2.size = 0 := by rw [← beq_iff_eq, hz, decide_eq_true_iff]
  have ne : ∀ k, chk now.length e = k → K (.fz .raw (er E k)) (dkA W H f now tl L ad cnt) := fun k h => h ▸ hK
  unfold chk at ne
  (repeat' (first | exact trivial | exact fun h => h | refine And.intro ?_ ?_ | (intro hb; first | (simp at hb; done) | (simp at hb) | skip) | omega | exact rfl | exact Nat.le_refl _ | (show _ + 1 ≤ 4294967296; omega) | (dsimp only; omega) | (show (_ : Int) ≤ (_ : Int); omega) | (show _ < List.length _; simp only [List.length_set, List.length_append, List.length_take]; omega) | (show wantB _ _ = true; simp; done) | (show wantB _ _ = true; simp; omega) | (show (_ : Bool) = _; simp_all; done) | (exfalso; omega) | refine aRegion_auto (by decide +kernel) ?_ | fail))
  · (repeat' (first | exact trivial | exact fun h => h | refine And.intro ?_ ?_ | (intro hb; first | (simp at hb; done) | (simp at hb) | skip) | omega | exact rfl | exact Nat.le_refl _ | (show _ + 1 ≤ 4294967296; omega) | (dsimp only; omega) | (show (_ : Int) ≤ (_ : Int); omega) | (show _ < List.length _; simp only [List.length_set, List.length_append, List.length_take]; omega) | (show wantB _ _ = true; simp; done) | (show wantB _ _ = true; simp; omega) | (show (_ : Bool) = _; simp_all; done) | (exfalso; omega) | refine aRegion_auto (by decide +kernel) ?_ | fail))
    refine ⟨_, _, REnt.ren [0, 1, 2, 3, 4] rfl ?_ ?_, ne 4 (if_pos (by omega))⟩
    · (repeat' (first | exact trivial | exact rfl | refine And.intro ?_ ?_))
    · (repeat' (first | exact trivial | exact rfl | refine And.intro ?_ ?_))
  · rw [hzi] at hb
    (repeat' (first | exact trivial | exact fun h => h | refine And.intro ?_ ?_ | (intro hb; first | (simp at hb; done) | (simp at hb) | skip) | omega | exact rfl | exact Nat.le_refl _ | (show _ + 1 ≤ 4294967296; omega) | (dsimp only; omega) | (show (_ : Int) ≤ (_ : Int); omega) | (show _ < List.length _; simp only [List.length_set, List.length_append, List.length_take]; omega) | (show wantB _ _ = true; simp; done) | (show wantB _ _ = true; simp; omega) | (show (_ : Bool) = _; simp_all; done) | (exfalso; omega) | refine aRegion_auto (by decide +kernel) ?_ | fail))
    refine ⟨_, _, REnt.ren [0, 1, 2, 3, 4] rfl ?_ ?_, ne 5 (by rw [if_neg (by omega), if_pos (by omega)])⟩
    · (repeat' (first | exact trivial | exact rfl | refine And.intro ?_ ?_))
    · (repeat' (first | exact trivial | exact rfl | refine And.intro ?_ ?_))
  · rw [hzi] at hb
    (repeat' (first | exact trivial | exact fun h => h | refine And.intro ?_ ?_ | (intro hb; first | (simp at hb; done) | (simp at hb) | skip) | omega | exact rfl | exact Nat.le_refl _ | (show _ + 1 ≤ 4294967296; omega) | (dsimp only; omega) | (show (_ : Int) ≤ (_ : Int); omega) | (show _ < List.length _; simp only [List.length_set, List.length_append, List.length_take]; omega) | (show wantB _ _ = true; simp; done) | (show wantB _ _ = true; simp; omega) | (show (_ : Bool) = _; simp_all; done) | (exfalso; omega) | refine aRegion_auto (by decide +kernel) ?_ | fail))
    refine ⟨_, _, REnt.ren [0, 1, 2, 3, 4] rfl ?_ ?_, ne 0 (by rw [if_neg (by omega), if_neg (by omega)])⟩
    · (repeat' (first | exact trivial | exact rfl | refine And.intro ?_ ?_))
    · (repeat' (first | exact trivial | exact rfl | refine And.intro ?_ ?_))
theorem chk_ok {n : Nat} {e : Dk.E} (h : chk n e = 0) : 0 ≤ e.1 ∧ e.1 < n ∧ -1048576 ≤ e.2.1 ∧ e.2.1 ≤ 1048576 ∧ 0 ≤ e.2.2.1 ∧ 1 ≤ e.2.2.2.size ∧ e.2.2.2.size ≤ 20 := by
  unfold chk at h
  split at h
  · omega
  · split at h
    · omega
    · omega
theorem chk_in (n : Nat) (e : Dk.E) : chk n e = 0 ∨ chk n e = 4 ∨ chk n e = 5 := by unfold chk; split; omega; split <;> omega
set_option maxHeartbeats 4000000 in
theorem do_any (E : Errs) (W H : Nat) (f now : List Int) (tl : List Tl) (L ad : List Dk.E) (cnt : Int) (e : Dk.E) (hW0 : 0 < W) (hW : W ≤ 128) (hH : H ≤ 128) (hnow : now.length ≤ 16384) (ht : tl.length ≤ 1000000)
    (hs : Srt L) (hL : L.length ≤ 2000) (ha : ad.length ≤ 10000) (K : AV → List AO → Prop)
    (h0 : ∀ k, 0 < k → eerr now.length L e = k → K (.fz .raw (er E k)) (dkA W H f now tl L ad cnt))
    (h1 : eerr now.length L e = 0 → hasE L e = true → K (.fz .raw .nilIface) (dkA W H f now tl L ad cnt))
    (h2 : eerr now.length L e = 0 → hasE L e = false → K (.fz .raw .nilIface) (dkA' W H f (nowP now L e) (tlP W now tl L e) (ins L e) (ad ++ [e]) cnt)) :
    ACall Tryd.prog (G8 E) 22 [.ptr 0 0, .fz EdT e] (dkA W H f now tl L ad cnt) K := by
  unfold eerr at h0 h1 h2
  refine acall_mk (E := envAt (G8 E) 37 5) (envOk _ _ _) Tryd.func22 rfl rfl rfl rfl rfl ?_
  (repeat' (first | exact trivial | exact fun h => h | refine And.intro ?_ ?_ | (intro hb; first | (simp at hb; done) | (simp at hb) | skip) | omega | exact rfl | exact Nat.le_refl _ | (show _ + 1 ≤ 4294967296; omega) | (dsimp only; omega) | (show (_ : Int) ≤ (_ : Int); omega) | (show _ < List.length _; simp only [List.length_set, List.length_append, List.length_take]; omega) | (show wantB _ _ = true; simp; done) | (show wantB _ _ = true; simp; omega) | (show (_ : Bool) = _; simp_all; done) | (exfalso; omega) | refine aRegion_auto (by decide +kernel) ?_ | fail))
  refine acall_conv [.keep, .dat EdT] _ _ _ rfl trivial (acall_frame [0, 1, 2, 3, 4] (dkA W H f now tl L ad cnt) [.ptr 0 0, .fz EdT e] rfl ?_ ⟨rfl, rfl⟩ rfl (check_any E W H f now tl L ad cnt e _ ?_))
  · (repeat' (first | exact trivial | exact rfl | refine And.intro ?_ ?_))
  rcases Nat.eq_zero_or_pos (chk now.length e) with hc | hc
  · rw [hc]
    rw [hc] at h0 h1 h2
    obtain ⟨c1, c2, _⟩ := chk_ok hc
    (repeat' (first | exact trivial | exact fun h => h | refine And.intro ?_ ?_ | (intro hb; first | (simp at hb; done) | (simp at hb) | skip) | omega | exact rfl | exact Nat.le_refl _ | (show _ + 1 ≤ 4294967296; omega) | (dsimp only; omega) | (show (_ : Int) ≤ (_ : Int); omega) | (show _ < List.length _; simp only [List.length_set, List.length_append, List.length_take]; omega) | (show wantB _ _ = true; simp; done) | (show wantB _ _ = true; simp; omega) | (show (_ : Bool) = _; simp_all; done) | (exfalso; omega) | refine aRegion_auto (by decide +kernel) ?_ | fail))
    apply exEff
    · refine acall_conv [.keep, .dat EdT, .keep] _ _ _ rfl trivial (acall_frame [3] [.row EdT L] [.ref 0 0 L.length, .fz EdT e, .fn 36 []] rfl ?_ ⟨rfl, rfl⟩ rfl (search_any _ L L.length e hs rfl (by omega) _ ?_))
      · (repeat' (first | exact trivial | exact rfl | refine And.intro ?_ ?_))
      · exact ⟨rfl, rfl⟩
    (repeat' (first | exact trivial | exact fun h => h | refine And.intro ?_ ?_ | (intro hb; first | (simp at hb; done) | (simp at hb) | skip) | omega | exact rfl | exact Nat.le_refl _ | (show _ + 1 ≤ 4294967296; omega) | (dsimp only; omega) | (show (_ : Int) ≤ (_ : Int); omega) | (show _ < List.length _; simp only [List.length_set, List.length_append, List.length_take]; omega) | (show wantB _ _ = true; simp; done) | (show wantB _ _ = true; simp; omega) | (show (_ : Bool) = _; simp_all; done) | (exfalso; omega) | refine aRegion_auto (by decide +kernel) ?_ | fail))
    · (repeat' (first | exact trivial | exact fun h => h | refine And.intro ?_ ?_ | (intro hb; first | (simp at hb; done) | (simp at hb) | skip) | omega | exact rfl | exact Nat.le_refl _ | (show _ + 1 ≤ 4294967296; omega) | (dsimp only; omega) | (show (_ : Int) ≤ (_ : Int); omega) | (show _ < List.length _; simp only [List.length_set, List.length_append, List.length_take]; omega) | (show wantB _ _ = true; simp; done) | (show wantB _ _ = true; simp; omega) | (show (_ : Bool) = _; simp_all; done) | (exfalso; omega) | refine aRegion_auto (by decide +kernel) ?_ | fail))
      refine ⟨_, _, REnt.ren [0, 1, 2, 3, 4] rfl ?_ ?_, h0 2 (by decide) (by rw [if_neg (by omega), if_pos ⟨hb.1, by omega⟩])⟩
      · (repeat' (first | exact trivial | exact rfl | refine And.intro ?_ ?_))
      · (repeat' (first | exact trivial | exact rfl | refine And.intro ?_ ?_))
    · (repeat' (first | exact trivial | exact fun h => h | refine And.intro ?_ ?_ | (intro hb; first | (simp at hb; done) | (simp at hb) | skip) | omega | exact rfl | exact Nat.le_refl _ | (show _ + 1 ≤ 4294967296; omega) | (dsimp only; omega) | (show (_ : Int) ≤ (_ : Int); omega) | (show _ < List.length _; simp only [List.length_set, List.length_append, List.length_take]; omega) | (show wantB _ _ = true; simp; done) | (show wantB _ _ = true; simp; omega) | (show (_ : Bool) = _; simp_all; done) | (exfalso; omega) | refine aRegion_auto (by decide +kernel) ?_ | fail))
      refine acall_conv [.keep, .dat EdT] _ _ _ rfl trivial (acall_frame [0, 1, 2, 3, 4] (dkA W H f now tl L ad cnt) [.ptr 0 0, .fz EdT e] rfl ?_ ⟨rfl, rfl⟩ rfl (put_any _ W H f now tl L ad cnt e hW0 hW hH hnow c1 c2 ht hs (by omega) ha _ (fun g => ?_) (fun g => ?_)))
      · (repeat' (first | exact trivial | exact rfl | refine And.intro ?_ ?_))
      · (repeat' (first | exact trivial | exact fun h => h | refine And.intro ?_ ?_ | (intro hb; first | (simp at hb; done) | (simp at hb) | skip) | omega | exact rfl | exact Nat.le_refl _ | (show _ + 1 ≤ 4294967296; omega) | (dsimp only; omega) | (show (_ : Int) ≤ (_ : Int); omega) | (show _ < List.length _; simp only [List.length_set, List.length_append, List.length_take]; omega) | (show wantB _ _ = true; simp; done) | (show wantB _ _ = true; simp; omega) | (show (_ : Bool) = _; simp_all; done) | (exfalso; omega) | refine aRegion_auto (by decide +kernel) ?_ | fail))
        refine ⟨_, _, REnt.ren [0, 1, 2, 3, 4] rfl ?_ ?_, h1 (by rw [if_neg (by omega), if_neg (by rw [g]; simp)]) g⟩
        · (repeat' (first | exact trivial | exact rfl | refine And.intro ?_ ?_))
        · (repeat' (first | exact trivial | exact rfl | refine And.intro ?_ ?_))
      · (repeat' (first | exact trivial | exact fun h => h | refine And.intro ?_ ?_ | (intro hb; first | (simp at hb; done) | (simp at hb) | skip) | omega | exact rfl | exact Nat.le_refl _ | (show _ + 1 ≤ 4294967296; omega) | (dsimp only; omega) | (show (_ : Int) ≤ (_ : Int); omega) | (show _ < List.length _; simp only [List.length_set, List.length_append, List.length_take]; omega) | (show wantB _ _ = true; simp; done) | (show wantB _ _ = true; simp; omega) | (show (_ : Bool) = _; simp_all; done) | (exfalso; omega) | refine aRegion_auto (by decide +kernel) ?_ | fail))
        refine ⟨_, _, REnt.ren [0, 1, 2, 3, 4, 6, 7] rfl ?_ ?_, h2 (by rw [if_neg (by omega), if_neg (fun c => hb g (by omega))]) g⟩
        · (repeat' (first | exact trivial | exact rfl | refine And.intro ?_ ?_))
        · (repeat' (first | exact trivial | exact rfl | refine And.intro ?_ ?_))
  · rw [er_ea E hc]
    have h0 := h0 (chk now.length e) hc (if_pos hc)
    rw [er_ea E hc] at h0
    (repeat' (first | exact trivial | exact fun h => h | refine And.intro ?_ ?_ | (intro hb; first | (simp at hb; done) | (simp at hb) | skip) | omega | exact rfl | exact Nat.le_refl _ | (show _ + 1 ≤ 4294967296; omega) | (dsimp only; omega) | (show (_ : Int) ≤ (_ : Int); omega) | (show _ < List.length _; simp only [List.length_set, List.length_append, List.length_take]; omega) | (show wantB _ _ = true; simp; done) | (show wantB _ _ = true; simp; omega) | (show (_ : Bool) = _; simp_all; done) | (exfalso; omega) | refine aRegion_auto (by decide +kernel) ?_ | fail))
    refine ⟨_, _, REnt.ren [0, 1, 2, 3, 4] rfl ?_ ?_, h0⟩
    · (repeat' (first | exact trivial | exact rfl | refine And.intro ?_ ?_))
    · (repeat' (first | exact trivial | exact rfl | refine And.intro ?_ ?_))
end Go.Proofs.YtiflieijbmaocaaDoor
/-
  Desks: a new one; what it shows.
-/
namespace Go.Proofs.YtiflieijbmaocaaDoor
open Go Go.Ab Go.RowKit
set_option maxRecDepth 100000
open Dk
theorem valid_one (E : Errs) (a : Ras) (hl : a.2.2.length ≤ 1000000000000) (K : AV → List AO → Prop) (hK : K (.fz .raw (er E (rerr a))) []) : ACall Tryd.prog (G8 E) 40 [.fz RasT a] [] K := by
  refine up8 (valid_any E a hl K (fun h => ?_) (fun h => ?_) (fun h => ?_) (fun h => ?_))
  all_goals rw [h] at hK; exact hK
theorem clone_row (G : List (Nat × Value)) (a : Ras) (hl : a.2.2.length ≤ 1000000) (K : AV → List AO → Prop) (hK : K (.agg [.fz int a.1, .fz int a.2.1, .ref 0 0 a.2.2.length]) [.row int a.2.2]) :
    ACall Tryd.prog G 41 [.fz RasT a] [] K := by
  refine acall_mk (E := envAt G 8 0) (envOk _ _ _) Tryd.func41 rfl rfl rfl rfl rfl ?_
  (repeat' (first | exact trivial | exact fun h => h | refine And.intro ?_ ?_ | (intro hb; first | (simp at hb; done) | (simp at hb) | skip) | omega | exact rfl | exact Nat.le_refl _ | (show _ + 1 ≤ 4294967296; omega) | (dsimp only; omega) | (show (_ : Int) ≤ (_ : Int); omega) | (show _ < List.length _; simp only [List.length_set, List.length_append, List.length_take]; omega) | (show wantB _ _ = true; simp; done) | (show wantB _ _ = true; simp; omega) | (show (_ : Bool) = _; simp_all; done) | (exfalso; omega) | refine aRegion_auto (by decide +kernel) ?_ | fail))
  refine acall_frame0 rfl (cloneI_any _ a.2.2 hl _ ?_)
  (repeat' (first | exact trivial | exact fun h => h | refine And.intro ?_ ?_ | (intro hb; first | (simp at hb; done) | (simp at hb) | skip) | omega | exact rfl | exact Nat.le_refl _ | (show _ + 1 ≤ 4294967296; omega) | (dsimp only; omega) | (show (_ : Int) ≤ (_ : Int); omega) | (show _ < List.length _; simp only [List.length_set, List.length_append, List.length_take]; omega) | (show wantB _ _ = true; simp; done) | (show wantB _ _ = true; simp; omega) | (show (_ : Bool) = _; simp_all; done) | (exfalso; omega) | refine aRegion_auto (by decide +kernel) ?_ | fail))
  refine ⟨_, _, REnt.ren [2] rfl ?_ ?_, hK⟩
  · (repeat' (first | exact trivial | exact rfl | refine And.intro ?_ ?_))
  · (repeat' (first | exact trivial | exact rfl | refine And.intro ?_ ?_))
theorem clone_dat (G : List (Nat × Value)) (a : Ras) (hl : a.2.2.length ≤ 1000000) (K : AV → List AO → Prop) (hK : K (.fz RasT a) []) :
    ACall Tryd.prog G 41 [.fz RasT a] [] K := by
  refine acall_mk (E := envAt G 8 0) (envOk _ _ _) Tryd.func41 rfl rfl rfl rfl rfl ?_
  (repeat' (first | exact trivial | exact fun h => h | refine And.intro ?_ ?_ | (intro hb; first | (simp at hb; done) | (simp at hb) | skip) | omega | exact rfl | exact Nat.le_refl _ | (show _ + 1 ≤ 4294967296; omega) | (dsimp only; omega) | (show (_ : Int) ≤ (_ : Int); omega) | (show _ < List.length _; simp only [List.length_set, List.length_append, List.length_take]; omega) | (show wantB _ _ = true; simp; done) | (show wantB _ _ = true; simp; omega) | (show (_ : Bool) = _; simp_all; done) | (exfalso; omega) | refine aRegion_auto (by decide +kernel) ?_ | fail))
  refine acall_frame0 rfl (cloneI_any _ a.2.2 hl _ ?_)
  (repeat' (first | exact trivial | exact fun h => h | refine And.intro ?_ ?_ | (intro hb; first | (simp at hb; done) | (simp at hb) | skip) | omega | exact rfl | exact Nat.le_refl _ | (show _ + 1 ≤ 4294967296; omega) | (dsimp only; omega) | (show (_ : Int) ≤ (_ : Int); omega) | (show _ < List.length _; simp only [List.length_set, List.length_append, List.length_take]; omega) | (show wantB _ _ = true; simp; done) | (show wantB _ _ = true; simp; omega) | (show (_ : Bool) = _; simp_all; done) | (exfalso; omega) | refine aRegion_auto (by decide +kernel) ?_ | fail))
  have hK2 : K (.fz RasT (a.1, a.2.1, a.2.2.take a.2.2.length)) [] := by rw [List.take_length]; exact hK
  refine ⟨_, _, (REnt.conv1 (.dat RasT) _ rfl ?_).trans (REnt.drop ⟨rfl, rfl⟩), hK2⟩
  (repeat' (first | exact trivial | refine And.intro ?_ ?_ | (show _ ≤ _; omega) | (show _ ≤ _; simp; done)))
theorem raster_any (G : List (Nat × Value)) (W H : Nat) (f now : List Int) (tl : List Tl) (L ad : List E) (cnt : Int) (hl : now.length ≤ 1000000) (K : AV → List AO → Prop) (hK : K (.agg [.fz int W, .fz int H, .ref 5 0 now.length]) (dkA W H f now tl L ad cnt ++ [.row int now])) :
    ACall Tryd.prog G 20 [.ptr 0 0] (dkA W H f now tl L ad cnt) K := by
  refine acall_mk (E := envAt G 8 5) (envOk _ _ _) Tryd.func20 rfl rfl rfl rfl rfl ?_
  (repeat' (first | exact trivial | exact fun h => h | refine And.intro ?_ ?_ | (intro hb; first | (simp at hb; done) | (simp at hb) | skip) | omega | exact rfl | exact Nat.le_refl _ | (show _ + 1 ≤ 4294967296; omega) | (dsimp only; omega) | (show (_ : Int) ≤ (_ : Int); omega) | (show _ < List.length _; simp only [List.length_set, List.length_append, List.length_take]; omega) | (show wantB _ _ = true; simp; done) | (show wantB _ _ = true; simp; omega) | (show (_ : Bool) = _; simp_all; done) | (exfalso; omega) | refine aRegion_auto (by decide +kernel) ?_ | fail))
  refine acall_lend [.dat RasT] _ _ _ rfl ?_ rfl ?_
  · (repeat' (first | exact trivial | refine And.intro ?_ ?_ | (show _ ≤ _; omega) | (show _ ≤ _; simp; done)))
  refine acall_arg (clone_row G ((W : Int), (H : Int), now) hl _ ?_) (congrArg (fun z => [AV.fz RasT ((W : Int), (H : Int), z)]) List.take_length.symm)
  refine And.intro rfl ?_
  (repeat' (first | exact trivial | exact fun h => h | refine And.intro ?_ ?_ | (intro hb; first | (simp at hb; done) | (simp at hb) | skip) | omega | exact rfl | exact Nat.le_refl _ | (show _ + 1 ≤ 4294967296; omega) | (dsimp only; omega) | (show (_ : Int) ≤ (_ : Int); omega) | (show _ < List.length _; simp only [List.length_set, List.length_append, List.length_take]; omega) | (show wantB _ _ = true; simp; done) | (show wantB _ _ = true; simp; omega) | (show (_ : Bool) = _; simp_all; done) | (exfalso; omega) | refine aRegion_auto (by decide +kernel) ?_ | fail))
  refine ⟨_, _, REnt.ren [0, 1, 2, 3, 4, 6] rfl ?_ ?_, hK⟩
  · (repeat' (first | exact trivial | exact rfl | refine And.intro ?_ ?_))
  · (repeat' (first | exact trivial | exact rfl | refine And.intro ?_ ?_))
theorem edits_any (G : List (Nat × Value)) (W H : Nat) (f now : List Int) (tl : List Tl) (L ad : List E) (cnt : Int) (hl : L.length ≤ 1000000) (K : AV → List AO → Prop) (hK : K (.ref 5 0 L.length) (dkA W H f now tl L ad cnt ++ [.row EdT L])) :
    ACall Tryd.prog G 33 [.ptr 0 0] (dkA W H f now tl L ad cnt) K := by
  refine acall_mk (E := envAt G 8 5) (envOk _ _ _) Tryd.func33 rfl rfl rfl rfl rfl ?_
  (repeat' (first | exact trivial | exact fun h => h | refine And.intro ?_ ?_ | (intro hb; first | (simp at hb; done) | (simp at hb) | skip) | omega | exact rfl | exact Nat.le_refl _ | (show _ + 1 ≤ 4294967296; omega) | (dsimp only; omega) | (show (_ : Int) ≤ (_ : Int); omega) | (show _ < List.length _; simp only [List.length_set, List.length_append, List.length_take]; omega) | (show wantB _ _ = true; simp; done) | (show wantB _ _ = true; simp; omega) | (show (_ : Bool) = _; simp_all; done) | (exfalso; omega) | refine aRegion_auto (by decide +kernel) ?_ | fail))
  refine acall_lend [.dat (.list EdT)] _ _ _ rfl ?_ rfl ?_
  · (repeat' (first | exact trivial | refine And.intro ?_ ?_ | (show _ ≤ _; omega) | (show _ ≤ _; simp; done)))
  refine acall_arg (cloneE_any G L hl _ ?_) (congrArg (fun z => [AV.fz (.list EdT) z]) List.take_length.symm)
  refine And.intro rfl ?_
  (repeat' (first | exact trivial | exact fun h => h | refine And.intro ?_ ?_ | (intro hb; first | (simp at hb; done) | (simp at hb) | skip) | omega | exact rfl | exact Nat.le_refl _ | (show _ + 1 ≤ 4294967296; omega) | (dsimp only; omega) | (show (_ : Int) ≤ (_ : Int); omega) | (show _ < List.length _; simp only [List.length_set, List.length_append, List.length_take]; omega) | (show wantB _ _ = true; simp; done) | (show wantB _ _ = true; simp; omega) | (show (_ : Bool) = _; simp_all; done) | (exfalso; omega) | refine aRegion_auto (by decide +kernel) ?_ | fail))
  refine ⟨_, _, REnt.ren [0, 1, 2, 3, 4, 5] rfl ?_ ?_, hK⟩
  · (repeat' (first | exact trivial | exact rfl | refine And.intro ?_ ?_))
  · (repeat' (first | exact trivial | exact rfl | refine And.intro ?_ ?_))
theorem rerr_ok {a : Ras} (h : rerr a = 0) : 1 ≤ a.1 ∧ a.1 ≤ 128 ∧ 1 ≤ a.2.1 ∧ a.2.1 ≤ 128 ∧ (a.2.2.length : Int) = a.1 * a.2.1 := by
  unfold rerr at h
  split at h
  · omega
  · split at h
    · omega
    · omega
theorem rerr_len {a : Ras} (h : rerr a = 0) : a.2.2.length ≤ 16384 ∧ 1 ≤ a.2.2.length := by
  obtain ⟨h1, h2, h3, h4, h5⟩ := rerr_ok h
  have := mul_bd (a := a.1) (b := a.2.1) (A := 128) (B := 128) (by omega) (by omega) (by omega) (by omega)
  have h6 : 1 * 1 ≤ a.1 * a.2.1 := Int.mul_le_mul h1 h3 (by omega) (by omega)
  omega
def tl0 (W H : Nat) : List Tl := List.replicate (til W * til H) ([], false)
set_option maxHeartbeats 4000000 in
theorem new_any (E : Errs) (a : Ras) (hl : a.2.2.length ≤ 1000000) (K : AV → List AO → Prop)
    (h0 : 0 < rerr a → K (.tup [.fz .raw (.pointer none), .fz .raw (er E (rerr a))]) [])
    (h1 : ∀ W H : Nat, rerr a = 0 → a.1 = W → a.2.1 = H → K (.tup [.ptr 0 0, .fz .raw .nilIface]) (dkA W H a.2.2 a.2.2 (tl0 W H) [] [] 0)) :
    ACall Tryd.prog (G8 E) 18 [.fz RasT a] [] K := by
  refine acall_mk (E := envCut (G8 E) 32 0 [5]) (envCutOk _ _ _ _) Tryd.func18 rfl rfl rfl rfl rfl ?_
  (repeat' (first | exact trivial | exact fun h => h | refine And.intro ?_ ?_ | (intro hb; first | (simp at hb; done) | (simp at hb) | skip) | omega | exact rfl | exact Nat.le_refl _ | (show _ + 1 ≤ 4294967296; omega) | (dsimp only; omega) | (show (_ : Int) ≤ (_ : Int); omega) | (show _ < List.length _; simp only [List.length_set, List.length_append, List.length_take]; omega) | (show wantB _ _ = true; simp; done) | (show wantB _ _ = true; simp; omega) | (show (_ : Bool) = _; simp_all; done) | (exfalso; omega) | refine aRegion_auto (by decide +kernel) ?_ | fail))
  refine acall_conv [.dat RasT] _ _ _ rfl trivial (acall_frame0 rfl (valid_one E a (by omega) _ ?_))
  rcases Nat.eq_zero_or_pos (rerr a) with hc | hc
  · rw [hc]
    obtain ⟨c1, c2, c3, c4, c5⟩ := rerr_ok hc
    obtain ⟨W, hW⟩ : ∃ W : Nat, a.1 = W := ⟨a.1.toNat, by omega⟩
    obtain ⟨H, hH⟩ : ∃ H : Nat, a.2.1 = H := ⟨a.2.1.toNat, by omega⟩
    have h1 := h1 W H hc hW hH
    have tW : til W ≤ 8 := by unfold til; omega
    have tH : til H ≤ 8 := by unfold til; omega
    have hm : til W * til H ≤ 64 := Nat.mul_le_mul tW tH
    have hz : ((til W : Nat) : Int) * ((til H : Nat) : Int) = ((til W * til H : Nat) : Int) := by simp
    obtain ⟨m, em⟩ : ∃ m, m = til W * til H := ⟨_, rfl⟩
    rw [← em] at hz hm
    have he : tl0 W H = List.replicate m ([], false) := by rw [em]; rfl
    (repeat' (first | exact trivial | exact fun h => h | refine And.intro ?_ ?_ | (intro hb; first | (simp at hb; done) | (simp at hb) | skip) | omega | exact rfl | exact Nat.le_refl _ | (show _ + 1 ≤ 4294967296; omega) | (dsimp only; omega) | (show (_ : Int) ≤ (_ : Int); omega) | (show _ < List.length _; simp only [List.length_set, List.length_append, List.length_take]; omega) | (show wantB _ _ = true; simp; done) | (show wantB _ _ = true; simp; omega) | (show (_ : Bool) = _; simp_all; done) | (exfalso; omega) | refine aRegion_auto (by decide +kernel) ?_ | fail))
    apply exEff
    · refine acall_conv [.dat RasT] _ _ _ rfl trivial (acall_frame0 rfl (clone_dat _ a hl _ ?_))
      exact ⟨rfl, rfl⟩
    (repeat' (first | exact trivial | exact fun h => h | refine And.intro ?_ ?_ | (intro hb; first | (simp at hb; done) | (simp at hb) | skip) | omega | exact rfl | exact Nat.le_refl _ | (show _ + 1 ≤ 4294967296; omega) | (dsimp only; omega) | (show (_ : Int) ≤ (_ : Int); omega) | (show _ < List.length _; simp only [List.length_set, List.length_append, List.length_take]; omega) | (show wantB _ _ = true; simp; done) | (show wantB _ _ = true; simp; omega) | (show (_ : Bool) = _; simp_all; done) | (exfalso; omega) | refine aRegion_auto (by decide +kernel) ?_ | fail))
    apply exEff
    · refine acall_conv [.dat RasT] _ _ _ rfl trivial (acall_frame0 rfl (clone_row _ a hl _ ?_))
      exact ⟨rfl, rfl⟩
    (repeat' (first | exact trivial | exact fun h => h | refine And.intro ?_ ?_ | (intro hb; first | (simp at hb; done) | (simp at hb) | skip) | omega | exact rfl | exact Nat.le_refl _ | (show _ + 1 ≤ 4294967296; omega) | (dsimp only; omega) | (show (_ : Int) ≤ (_ : Int); omega) | (show _ < List.length _; simp only [List.length_set, List.length_append, List.length_take]; omega) | (show wantB _ _ = true; simp; done) | (show wantB _ _ = true; simp; omega) | (show (_ : Bool) = _; simp_all; done) | (exfalso; omega) | refine aRegion_auto (by decide +kernel) ?_ | fail))
    (apply exEff; focus (repeat' (first | exact ⟨rfl, rfl⟩ | exact trivial | refine And.intro ?_ ?_ | omega | exact Nat.le_refl _ | (show _ + 1 ≤ 4294967296; omega))))
    (repeat' (first | exact trivial | exact fun h => h | refine And.intro ?_ ?_ | (intro hb; first | (simp at hb; done) | (simp at hb) | skip) | omega | exact rfl | exact Nat.le_refl _ | (show _ + 1 ≤ 4294967296; omega) | (dsimp only; omega) | (show (_ : Int) ≤ (_ : Int); omega) | (show _ < List.length _; simp only [List.length_set, List.length_append, List.length_take]; omega) | (show wantB _ _ = true; simp; done) | (show wantB _ _ = true; simp; omega) | (show (_ : Bool) = _; simp_all; done) | (exfalso; omega) | refine aRegion_auto (by decide +kernel) ?_ | fail))
    have n1 := Ent.nilBox (n0 := 0) (T := [(5, .ptr 2 0)]) (A := [.box [.fz int a.1, .fz int a.2.1, .fz LI a.2.2], .row int a.2.2, .box [.fz int a.1, .fz int a.2.1, .fz LI a.2.2, .fz int a.1, .fz int a.2.1, .ref 1 0 a.2.2.length, .nilSl, .nilSl, .nilSl, .fz int 0]]) 2 6 EdT rfl rfl
    have n2 := n1.trans (Ent.nilBox 2 7 EdT rfl rfl)
    have n3 := n2.trans (Ent.nilBox 2 8 TlT rfl rfl)
    refine ⟨[(5, .ptr 0 0)], dkA W H a.2.2 a.2.2 [] [] [] 0, ((Ent.sub rfl ?_).trans n3).trans (Ent.ren [2, 1, 5, 3, 4] rfl ?_ ?_), ?_⟩
    · (repeat' (first | exact trivial | exact rfl | refine And.intro ?_ ?_))
    · (repeat' (first | exact trivial | exact rfl | refine And.intro ?_ ?_))
      rw [hW, hH]; rfl
    · (repeat' (first | exact trivial | exact rfl | refine And.intro ?_ ?_))
    (repeat' (first | exact trivial | exact fun h => h | refine And.intro ?_ ?_ | (intro hb; first | (simp at hb; done) | (simp at hb) | skip) | omega | exact rfl | exact Nat.le_refl _ | (show _ + 1 ≤ 4294967296; omega) | (dsimp only; omega) | (show (_ : Int) ≤ (_ : Int); omega) | (show _ < List.length _; simp only [List.length_set, List.length_append, List.length_take]; omega) | (show wantB _ _ = true; simp; done) | (show wantB _ _ = true; simp; omega) | (show (_ : Bool) = _; simp_all; done) | (exfalso; omega) | refine aRegion_auto (by decide +kernel) ?_ | fail))
    refine acall_frame [0, 1, 2, 3, 4] (dkA W H a.2.2 a.2.2 [] [] [] 0) [.ptr 0 0] rfl ?_ ⟨rfl, rfl⟩ rfl (tiles_any _ W H a.2.2 a.2.2 [] [] [] 0 (by omega) (by omega) _ ?_)
    · (repeat' (first | exact trivial | exact rfl | refine And.intro ?_ ?_))
    (repeat' (first | exact trivial | exact fun h => h | refine And.intro ?_ ?_ | (intro hb; first | (simp at hb; done) | (simp at hb) | skip) | omega | exact rfl | exact Nat.le_refl _ | (show _ + 1 ≤ 4294967296; omega) | (dsimp only; omega) | (show (_ : Int) ≤ (_ : Int); omega) | (show _ < List.length _; simp only [List.length_set, List.length_append, List.length_take]; omega) | (show wantB _ _ = true; simp; done) | (show wantB _ _ = true; simp; omega) | (show (_ : Bool) = _; simp_all; done) | (exfalso; omega) | refine aRegion_auto (by decide +kernel) ?_ | fail))
    refine ⟨_, _, REnt.ren [0, 1, 5, 3, 4] rfl ?_ ?_, h1⟩
    · (repeat' (first | exact trivial | exact rfl | refine And.intro ?_ ?_))
      rw [show (tl0 W H).length = til W * til H from List.length_replicate]; rfl
    · (repeat' (first | exact trivial | exact rfl | refine And.intro ?_ ?_))
  · rw [er_ea E hc]
    have h0 := h0 hc
    rw [er_ea E hc] at h0
    (repeat' (first | exact trivial | exact fun h => h | refine And.intro ?_ ?_ | (intro hb; first | (simp at hb; done) | (simp at hb) | skip) | omega | exact rfl | exact Nat.le_refl _ | (show _ + 1 ≤ 4294967296; omega) | (dsimp only; omega) | (show (_ : Int) ≤ (_ : Int); omega) | (show _ < List.length _; simp only [List.length_set, List.length_append, List.length_take]; omega) | (show wantB _ _ = true; simp; done) | (show wantB _ _ = true; simp; omega) | (show (_ : Bool) = _; simp_all; done) | (exfalso; omega) | refine aRegion_auto (by decide +kernel) ?_ | fail))
    exact ⟨_, _, REnt.drop ⟨rfl, rfl⟩, h0⟩
end Go.Proofs.YtiflieijbmaocaaDoor
/-
  The document's desk: has, ahead, put, now.
-/
namespace Go.Proofs.YtiflieijbmaocaaDoor
open Go Go.Ab Go.RowKit
set_option maxRecDepth 100000
open Dk
abbrev rfB (W H : Int) (f : List Int) (k m : Nat) : AO := .box [.fz int W, .fz int H, .fz LI f, .ref 1 0 k, .ref 2 0 m]
/-- the document's desk, and what it has -/
abbrev rfA (W H : Int) (f : List Int) (L ad : List E) : List AO := [rfB W H f L.length ad.length, .row EdT L, .row EdT ad]
/-- .. after one more edit -/
abbrev rfA' (W H : Int) (f : List Int) (L ad : List E) : List AO := [.box [.fz int W, .fz int H, .fz LI f, .ref 3 0 L.length, .ref 4 0 ad.length], .dead, .dead, .row EdT L, .row EdT ad]
theorem eqV_ed (x y : E) : eqV [.i x.1, .i x.2.1, .i x.2.2.1, .s x.2.2.2] [.i y.1, .i y.2.1, .i y.2.2.1, .s y.2.2.2] = eqE x y := rfl
theorem has_any (G : List (Nat × Value)) (W H : Int) (f : List Int) (L ad : List E) (e : E) (hL : L.length ≤ 1000000) (K : AV → List AO → Prop) (hK : K (.fz .bool (hasE L e)) (rfA W H f L ad)) :
    ACall Tryd.prog G 38 [.ptr 0 0, .fz EdT e] (rfA W H f L ad) K := by
  let be : AO := .box [.fz int e.1, .fz int e.2.1, .fz int e.2.2.1, .fz .str e.2.2.2]
  refine acall_mk (E := envAt G 24 3) (envOk _ _ _) Tryd.func38 rfl rfl rfl rfl rfl ?_
  (repeat' (first | exact trivial | exact fun h => h | refine And.intro ?_ ?_ | (intro hb; first | (simp at hb; done) | (simp at hb) | skip) | omega | exact rfl | exact Nat.le_refl _ | (show _ + 1 ≤ 4294967296; omega) | (dsimp only; omega) | (show (_ : Int) ≤ (_ : Int); omega) | (show _ < List.length _; simp only [List.length_set, List.length_append, List.length_take]; omega) | (show wantB _ _ = true; simp; done) | (show wantB _ _ = true; simp; omega) | (show (_ : Bool) = _; simp_all; done) | (exfalso; omega) | refine aRegion_auto (by decide +kernel) ?_ | fail))
  refine ⟨Nat, fun k => ⟨[(0, .ptr 0 0), (3, .ptr 3 0), (5, .fz int k)], rfA W H f L ad ++ [be]⟩, fun k => k ≤ L.length ∧ ∀ j (hj : j < L.length), j < k → L[j] ≠ e, fun k => L.length - k, 0, ⟨Nat.zero_le _, fun j _ h => absurd h (Nat.not_lt_zero _)⟩, Ent.sub rfl ?_, ?_⟩
  · (repeat' (first | exact trivial | exact rfl | refine And.intro ?_ ?_))
  intro k ⟨hk, hp⟩
  have hk : k ≤ L.length := hk
  have hp : ∀ j (hj : j < L.length), j < k → L[j] ≠ e := hp
  show awp _ _ _ ⟨[(0, .ptr 0 0), (3, .ptr 3 0), (5, .fz int k)], rfA W H f L ad ++ [be]⟩
  by_cases hk2 : k < L.length
  · have ge : L.getD (0 + Int.toNat (k : Int)) EdT.dft = L[k] := by simp [List.getD, hk2]
    have ge2 : L[k]?.getD EdT.dft = L[k] := by simp [hk2]
    (repeat' (first | exact trivial | exact fun h => h | refine And.intro ?_ ?_ | (intro hb; first | (simp at hb; done) | (simp at hb) | skip) | omega | exact rfl | exact Nat.le_refl _ | (show _ + 1 ≤ 4294967296; omega) | (dsimp only; omega) | (show (_ : Int) ≤ (_ : Int); omega) | (show _ < List.length _; simp only [List.length_set, List.length_append, List.length_take]; omega) | (show wantB _ _ = true; simp; done) | (show wantB _ _ = true; simp; omega) | (show (_ : Bool) = _; simp_all; done) | (exfalso; omega) | refine aRegion_auto (by decide +kernel) ?_ | fail))
    · rw [ge2] at hb
      have heq : eqE L[k] e = true := hb
      have hin : hasE L e = true := hasE_iff.2 (by rw [← eqE_iff.1 heq]; exact List.getElem_mem hk2)
      rw [hin] at hK
      (repeat' (first | exact trivial | exact fun h => h | refine And.intro ?_ ?_ | (intro hb; first | (simp at hb; done) | (simp at hb) | skip) | omega | exact rfl | exact Nat.le_refl _ | (show _ + 1 ≤ 4294967296; omega) | (dsimp only; omega) | (show (_ : Int) ≤ (_ : Int); omega) | (show _ < List.length _; simp only [List.length_set, List.length_append, List.length_take]; omega) | (show wantB _ _ = true; simp; done) | (show wantB _ _ = true; simp; omega) | (show (_ : Bool) = _; simp_all; done) | (exfalso; omega) | refine aRegion_auto (by decide +kernel) ?_ | fail))
      refine ⟨_, _, REnt.ren [0, 1, 2] rfl ?_ ?_, hK⟩
      · (repeat' (first | exact trivial | exact rfl | refine And.intro ?_ ?_))
      · (repeat' (first | exact trivial | exact rfl | refine And.intro ?_ ?_))
    · rw [ge2] at hb
      have heq : eqE L[k] e = false := hb
      refine ⟨k + 1, ⟨by show k + 1 ≤ L.length; omega, fun j hj h => ?_⟩, by show L.length - (k + 1) < L.length - k; omega, Ent.sub rfl ?_⟩
      · have h : j < k + 1 := h
        by_cases c : j = k
        · subst c
          intro e2
          rw [e2, eqE_iff.2 rfl] at heq; cases heq
        · exact hp j hj (by omega)
      · (repeat' (first | exact trivial | exact rfl | refine And.intro ?_ ?_))
  · have hn : hasE L e = false := Bool.eq_false_iff.2 fun h => by
      obtain ⟨j, hj, e2⟩ := List.mem_iff_getElem.1 (hasE_iff.1 h)
      exact hp j hj (by omega) e2
    rw [hn] at hK
    (repeat' (first | exact trivial | exact fun h => h | refine And.intro ?_ ?_ | (intro hb; first | (simp at hb; done) | (simp at hb) | skip) | omega | exact rfl | exact Nat.le_refl _ | (show _ + 1 ≤ 4294967296; omega) | (dsimp only; omega) | (show (_ : Int) ≤ (_ : Int); omega) | (show _ < List.length _; simp only [List.length_set, List.length_append, List.length_take]; omega) | (show wantB _ _ = true; simp; done) | (show wantB _ _ = true; simp; omega) | (show (_ : Bool) = _; simp_all; done) | (exfalso; omega) | refine aRegion_auto (by decide +kernel) ?_ | fail))
    refine ⟨_, _, REnt.ren [0, 1, 2] rfl ?_ ?_, hK⟩
    · (repeat' (first | exact trivial | exact rfl | refine And.intro ?_ ?_))
    · (repeat' (first | exact trivial | exact rfl | refine And.intro ?_ ?_))
set_option maxHeartbeats 4000000 in
theorem ahead_any (G : List (Nat × Value)) (x y : E) (K : AV → List AO → Prop) (hK : K (.fz .bool (ah x y)) []) :
    ACall Tryd.prog G 39 [.fz EdT x, .fz EdT y] [] K := by
  unfold ah at hK
  refine acall_mk (E := envAt G 40 0) (envOk _ _ _) Tryd.func39 rfl rfl rfl rfl rfl ?_
  (repeat' (first | exact trivial | exact fun h => h | refine And.intro ?_ ?_ | (intro hb; first | (simp at hb; done) | (simp at hb) | skip) | omega | exact rfl | exact Nat.le_refl _ | (show _ + 1 ≤ 4294967296; omega) | (dsimp only; omega) | (show (_ : Int) ≤ (_ : Int); omega) | (show _ < List.length _; simp only [List.length_set, List.length_append, List.length_take]; omega) | (show wantB _ _ = true; simp; done) | (show wantB _ _ = true; simp; omega) | (show (_ : Bool) = _; simp_all; done) | (exfalso; omega) | refine aRegion_auto (by decide +kernel) ?_ | fail))
  · rw [if_pos hb] at hK
    (repeat' (first | exact trivial | exact fun h => h | refine And.intro ?_ ?_ | (intro hb; first | (simp at hb; done) | (simp at hb) | skip) | omega | exact rfl | exact Nat.le_refl _ | (show _ + 1 ≤ 4294967296; omega) | (dsimp only; omega) | (show (_ : Int) ≤ (_ : Int); omega) | (show _ < List.length _; simp only [List.length_set, List.length_append, List.length_take]; omega) | (show wantB _ _ = true; simp; done) | (show wantB _ _ = true; simp; omega) | (show (_ : Bool) = _; simp_all; done) | (exfalso; omega) | refine aRegion_auto (by decide +kernel) ?_ | fail))
    refine ⟨_, _, REnt.drop ⟨rfl, rfl⟩, hK⟩
  · rw [if_neg (fun c => c (by assumption)), if_pos hb] at hK
    (repeat' (first | exact trivial | exact fun h => h | refine And.intro ?_ ?_ | (intro hb; first | (simp at hb; done) | (simp at hb) | skip) | omega | exact rfl | exact Nat.le_refl _ | (show _ + 1 ≤ 4294967296; omega) | (dsimp only; omega) | (show (_ : Int) ≤ (_ : Int); omega) | (show _ < List.length _; simp only [List.length_set, List.length_append, List.length_take]; omega) | (show wantB _ _ = true; simp; done) | (show wantB _ _ = true; simp; omega) | (show (_ : Bool) = _; simp_all; done) | (exfalso; omega) | refine aRegion_auto (by decide +kernel) ?_ | fail))
    refine ⟨_, _, REnt.drop ⟨rfl, rfl⟩, hK⟩
  · rw [if_neg (fun c => c (by assumption)), if_neg (fun c => c (by assumption)), if_pos (by rw [beq_eq_false_iff_ne]; exact hb)] at hK
    (repeat' (first | exact trivial | exact fun h => h | refine And.intro ?_ ?_ | (intro hb; first | (simp at hb; done) | (simp at hb) | skip) | omega | exact rfl | exact Nat.le_refl _ | (show _ + 1 ≤ 4294967296; omega) | (dsimp only; omega) | (show (_ : Int) ≤ (_ : Int); omega) | (show _ < List.length _; simp only [List.length_set, List.length_append, List.length_take]; omega) | (show wantB _ _ = true; simp; done) | (show wantB _ _ = true; simp; omega) | (show (_ : Bool) = _; simp_all; done) | (exfalso; omega) | refine aRegion_auto (by decide +kernel) ?_ | fail))
    refine ⟨_, _, REnt.drop ⟨rfl, rfl⟩, hK⟩
  · rw [if_neg (fun c => c (by assumption)), if_neg (fun c => c (by assumption)), if_neg (by rw [hb]; simp)] at hK
    (repeat' (first | exact trivial | exact fun h => h | refine And.intro ?_ ?_ | (intro hb; first | (simp at hb; done) | (simp at hb) | skip) | omega | exact rfl | exact Nat.le_refl _ | (show _ + 1 ≤ 4294967296; omega) | (dsimp only; omega) | (show (_ : Int) ≤ (_ : Int); omega) | (show _ < List.length _; simp only [List.length_set, List.length_append, List.length_take]; omega) | (show wantB _ _ = true; simp; done) | (show wantB _ _ = true; simp; omega) | (show (_ : Bool) = _; simp_all; done) | (exfalso; omega) | refine aRegion_auto (by decide +kernel) ?_ | fail))
    refine ⟨_, _, REnt.drop ⟨rfl, rfl⟩, hK⟩
/-- branches that come to the same state are joined -/
structure Bx (c : Prop) : Prop where
  out : c
theorem merge {c g : Prop} (f : Bx c → g) (h : c) : g := f ⟨h⟩
theorem takeS {L : List E} {k : Nat} (h : k < L.length) : L.take k ++ [L[k]] = L.take (k + 1) := by rw [List.take_succ_eq_append_getElem h]
set_option maxHeartbeats 8000000 in
theorem rput_any (G : List (Nat × Value)) (W H : Int) (f : List Int) (L ad : List E) (e : E) (hL : L.length ≤ 100000) (ha : ad.length ≤ 100000) (hs : Srt L) (K : AV → List AO → Prop)
    (h1 : hasE L e = true → K (.tup []) (rfA W H f L ad)) (h2 : hasE L e = false → K (.tup []) (rfA' W H f (ins L e) (ad ++ [e]))) :
    ACall Tryd.prog G 17 [.ptr 0 0, .fz EdT e] (rfA W H f L ad) K := by
  let be : AO := .box [.fz int e.1, .fz int e.2.1, .fz int e.2.2.1, .fz .str e.2.2.2]
  have hp := pos_le L e
  have hil := ins_len L e
  refine acall_mk (E := envCut G 67 3 [11]) (envCutOk _ _ _ _) Tryd.func17 rfl rfl rfl rfl rfl ?_
  (repeat' (first | exact trivial | exact fun h => h | refine And.intro ?_ ?_ | (intro hb; first | (simp at hb; done) | (simp at hb) | skip) | omega | exact rfl | exact Nat.le_refl _ | (show _ + 1 ≤ 4294967296; omega) | (dsimp only; omega) | (show (_ : Int) ≤ (_ : Int); omega) | (show _ < List.length _; simp only [List.length_set, List.length_append, List.length_take]; omega) | (show wantB _ _ = true; simp; done) | (show wantB _ _ = true; simp; omega) | (show (_ : Bool) = _; simp_all; done) | (exfalso; omega) | refine aRegion_auto (by decide +kernel) ?_ | fail))
  refine acall_conv [.keep, .dat EdT] _ _ _ rfl trivial (acall_frame [0, 1, 2] (rfA W H f L ad) [.ptr 0 0, .fz EdT e] rfl ?_ ⟨rfl, rfl⟩ rfl (has_any G W H f L ad e (by omega) _ ?_))
  · (repeat' (first | exact trivial | exact rfl | refine And.intro ?_ ?_))
  (repeat' (first | exact trivial | exact fun h => h | refine And.intro ?_ ?_ | (intro hb; first | (simp at hb; done) | (simp at hb) | skip) | omega | exact rfl | exact Nat.le_refl _ | (show _ + 1 ≤ 4294967296; omega) | (dsimp only; omega) | (show (_ : Int) ≤ (_ : Int); omega) | (show _ < List.length _; simp only [List.length_set, List.length_append, List.length_take]; omega) | (show wantB _ _ = true; simp; done) | (show wantB _ _ = true; simp; omega) | (show (_ : Bool) = _; simp_all; done) | (exfalso; omega) | refine aRegion_auto (by decide +kernel) ?_ | fail))
  · refine ⟨_, _, REnt.ren [0, 1, 2] rfl ?_ ?_, h1 hb⟩
    · (repeat' (first | exact trivial | exact rfl | refine And.intro ?_ ?_))
    · (repeat' (first | exact trivial | exact rfl | refine And.intro ?_ ?_))
  have hbh : hasE L e = false := hb
  refine ⟨Nat, fun k => ⟨[(0, .ptr 0 0), (3, .ptr 3 0), (5, .ref 4 0 k), (6, .fz int k)], rfA W H f L ad ++ [be, .row EdT (L.take k)]⟩, fun k => k ≤ pos L e, fun k => L.length - k, 0, Nat.zero_le _, (Ent.nil 5 EdT rfl).trans (Ent.sub rfl ?_), ?_⟩
  · (repeat' (first | exact trivial | exact rfl | refine And.intro ?_ ?_))
  intro k hk
  have hk : k ≤ pos L e := hk
  show awp _ _ _ ⟨[(0, .ptr 0 0), (3, .ptr 3 0), (5, .ref 4 0 k), (6, .fz int k)], rfA W H f L ad ++ [be, .row EdT (L.take k)]⟩
  have htl : (L.take k).length = k := by rw [List.length_take]; omega
  by_cases hkp : k < pos L e
  · have hk2 : k < L.length := by omega
    have ge : L.getD (0 + Int.toNat (k : Int)) EdT.dft = L[k] := by simp [List.getD, hk2]
    have hah := pos_ahead hkp hk2
    (repeat' (first | exact trivial | exact fun h => h | refine And.intro ?_ ?_ | (intro hb; first | (simp at hb; done) | (simp at hb) | skip) | omega | exact rfl | exact Nat.le_refl _ | (show _ + 1 ≤ 4294967296; omega) | (dsimp only; omega) | (show (_ : Int) ≤ (_ : Int); omega) | (show _ < List.length _; simp only [List.length_set, List.length_append, List.length_take]; omega) | (show wantB _ _ = true; simp; done) | (show wantB _ _ = true; simp; omega) | (show (_ : Bool) = _; simp_all; done) | (exfalso; omega) | refine aRegion_auto (by decide +kernel) ?_ | fail))
    apply exEff
    · refine acall_conv [.keep, .dat EdT] _ _ _ rfl trivial (acall_frame0 rfl (acall_arg (ahead_any G L[k] e _ ?_) ?_))
      · exact ⟨rfl, rfl⟩
      · exact congrArg (fun z => [AV.fz EdT z, AV.fz EdT e]) ge.symm
    rw [hah]
    (repeat' (first | exact trivial | exact fun h => h | refine And.intro ?_ ?_ | (intro hb; first | (simp at hb; done) | (simp at hb) | skip) | omega | exact rfl | exact Nat.le_refl _ | (show _ + 1 ≤ 4294967296; omega) | (dsimp only; omega) | (show (_ : Int) ≤ (_ : Int); omega) | (show _ < List.length _; simp only [List.length_set, List.length_append, List.length_take]; omega) | (show wantB _ _ = true; simp; done) | (show wantB _ _ = true; simp; omega) | (show (_ : Bool) = _; simp_all; done) | (exfalso; omega) | refine aRegion_auto (by decide +kernel) ?_ | fail))
    refine ⟨k + 1, hkp, by show L.length - (k + 1) < L.length - k; omega, Ent.ren [0, 1, 2, 3, 6] rfl ?_ ?_⟩
    · (repeat' (first | exact trivial | exact rfl | refine And.intro ?_ ?_))
      refine congrArg (fun z => some (AO.row EdT z)) (?_ : List.take k (List.take k L) ++ [L.getD (0 + Int.toNat (k : Int)) EdT.dft] = L.take (k + 1))
      rw [ge, List.take_take, Nat.min_self, takeS hk2]
    · (repeat' (first | exact trivial | exact rfl | refine And.intro ?_ ?_))
  · have hkp : k = pos L e := by omega
    subst hkp
    have htt : List.take (pos L e) (List.take (pos L e) L) = List.take (pos L e) L := by rw [List.take_take, Nat.min_self]
    apply merge
    · intro hc
      by_cases hk2 : pos L e < L.length
      · have ge : L.getD (0 + Int.toNat (pos L e : Int)) EdT.dft = L[pos L e] := by simp [List.getD, hk2]
        have hah := pos_not hs (Nat.le_refl (pos L e)) hk2
        (repeat' (first | exact trivial | exact fun h => h | refine And.intro ?_ ?_ | (intro hb; first | (simp at hb; done) | (simp at hb) | skip) | omega | exact rfl | exact Nat.le_refl _ | (show _ + 1 ≤ 4294967296; omega) | (dsimp only; omega) | (show (_ : Int) ≤ (_ : Int); omega) | (show _ < List.length _; simp only [List.length_set, List.length_append, List.length_take]; omega) | (show wantB _ _ = true; simp; done) | (show wantB _ _ = true; simp; omega) | (show (_ : Bool) = _; simp_all; done) | (exfalso; omega) | refine aRegion_auto (by decide +kernel) ?_ | fail))
        apply exEff
        · refine acall_conv [.keep, .dat EdT] _ _ _ rfl trivial (acall_frame0 rfl (acall_arg (ahead_any G L[pos L e] e _ ?_) ?_))
          · exact ⟨rfl, rfl⟩
          · exact congrArg (fun z => [AV.fz EdT z, AV.fz EdT e]) ge.symm
        rw [hah]
        (repeat' (first | exact trivial | exact fun h => h | refine And.intro ?_ ?_ | (intro hb; first | (simp at hb; done) | (simp at hb) | skip) | omega | exact rfl | exact Nat.le_refl _ | (show _ + 1 ≤ 4294967296; omega) | (dsimp only; omega) | (show (_ : Int) ≤ (_ : Int); omega) | (show _ < List.length _; simp only [List.length_set, List.length_append, List.length_take]; omega) | (show wantB _ _ = true; simp; done) | (show wantB _ _ = true; simp; omega) | (show (_ : Bool) = _; simp_all; done) | (exfalso; omega) | refine aRegion_auto (by decide +kernel) ?_ | fail))
        refine ⟨[(0, .ptr 0 0), (3, .ptr 3 0), (5, .ref 4 0 (pos L e + 1)), (6, .fz int (pos L e : Nat))], rfA W H f L ad ++ [be, .row EdT (L.take (pos L e) ++ [e])], Ent.ren [0, 1, 2, 3, 6] rfl ?_ ?_, hc.out⟩
        · (repeat' (first | exact trivial | exact rfl | refine And.intro ?_ ?_))
          exact congrArg (fun z => some (AO.row EdT (z ++ [e]))) htt
        · (repeat' (first | exact trivial | exact rfl | refine And.intro ?_ ?_))
      · (repeat' (first | exact trivial | exact fun h => h | refine And.intro ?_ ?_ | (intro hb; first | (simp at hb; done) | (simp at hb) | skip) | omega | exact rfl | exact Nat.le_refl _ | (show _ + 1 ≤ 4294967296; omega) | (dsimp only; omega) | (show (_ : Int) ≤ (_ : Int); omega) | (show _ < List.length _; simp only [List.length_set, List.length_append, List.length_take]; omega) | (show wantB _ _ = true; simp; done) | (show wantB _ _ = true; simp; omega) | (show (_ : Bool) = _; simp_all; done) | (exfalso; omega) | refine aRegion_auto (by decide +kernel) ?_ | fail))
        refine ⟨[(0, .ptr 0 0), (3, .ptr 3 0), (5, .ref 4 0 (pos L e + 1)), (6, .fz int (pos L e : Nat))], rfA W H f L ad ++ [be, .row EdT (L.take (pos L e) ++ [e])], Ent.ren [0, 1, 2, 3, 6] rfl ?_ ?_, hc.out⟩
        · (repeat' (first | exact trivial | exact rfl | refine And.intro ?_ ?_))
          exact congrArg (fun z => some (AO.row EdT (z ++ [e]))) htt
        · (repeat' (first | exact trivial | exact rfl | refine And.intro ?_ ?_))
    have hl1 : (L.take (pos L e) ++ [e]).length = pos L e + 1 := by rw [List.length_append, htl]; rfl
    have hsrc : List.take (Int.toNat (L.length : Int) - Int.toNat ((pos L e : Nat) : Int)) (List.drop (0 + Int.toNat ((pos L e : Nat) : Int)) L) = L.drop (pos L e) := by
      rw [Nat.zero_add, Int.toNat_natCast, Int.toNat_natCast, List.take_of_length_le (by rw [List.length_drop]; exact Nat.le_refl _)]
    (repeat' (first | exact trivial | exact fun h => h | refine And.intro ?_ ?_ | (intro hb; first | (simp at hb; done) | (simp at hb) | skip) | omega | exact rfl | exact Nat.le_refl _ | (show _ + 1 ≤ 4294967296; omega) | (dsimp only; omega) | (show (_ : Int) ≤ (_ : Int); omega) | (show _ < List.length _; simp only [List.length_set, List.length_append, List.length_take]; omega) | (show wantB _ _ = true; simp; done) | (show wantB _ _ = true; simp; omega) | (show (_ : Bool) = _; simp_all; done) | (exfalso; omega) | refine aRegion_auto (by decide +kernel) ?_ | fail))
    · exact (show ((pos L e : Nat) : Int) ≤ (L.length : Int) by omega)
    · exact Int.le_refl _
    · exact (show 0 + Int.toNat ((pos L e : Nat) : Int) + (Int.toNat (L.length : Int) - Int.toNat ((pos L e : Nat) : Int)) ≤ L.length by simp; omega)
    · exact Nat.le_trans (Nat.add_le_add_left (show List.length (List.take (Int.toNat (L.length : Int) - Int.toNat ((pos L e : Nat) : Int)) (List.drop (0 + Int.toNat ((pos L e : Nat) : Int)) L)) ≤ L.length by rw [hsrc, List.length_drop]; omega) _) (by omega)
    (apply exEff; focus (repeat' (first | exact ⟨rfl, rfl⟩ | exact trivial | refine And.intro ?_ ?_ | omega | exact Nat.le_refl _ | (show _ + 1 ≤ 4294967296; omega))))
    (repeat' (first | exact trivial | exact fun h => h | refine And.intro ?_ ?_ | (intro hb; first | (simp at hb; done) | (simp at hb) | skip) | omega | exact rfl | exact Nat.le_refl _ | (show _ + 1 ≤ 4294967296; omega) | (dsimp only; omega) | (show (_ : Int) ≤ (_ : Int); omega) | (show _ < List.length _; simp only [List.length_set, List.length_append, List.length_take]; omega) | (show wantB _ _ = true; simp; done) | (show wantB _ _ = true; simp; omega) | (show (_ : Bool) = _; simp_all; done) | (exfalso; omega) | refine aRegion_auto (by decide +kernel) ?_ | fail))
    (apply exEff; focus (repeat' (first | exact ⟨rfl, rfl⟩ | exact trivial | refine And.intro ?_ ?_ | omega | exact Nat.le_refl _ | (show _ + 1 ≤ 4294967296; omega))))
    (repeat' (first | exact trivial | exact fun h => h | refine And.intro ?_ ?_ | (intro hb; first | (simp at hb; done) | (simp at hb) | skip) | omega | exact rfl | exact Nat.le_refl _ | (show _ + 1 ≤ 4294967296; omega) | (dsimp only; omega) | (show (_ : Int) ≤ (_ : Int); omega) | (show _ < List.length _; simp only [List.length_set, List.length_append, List.length_take]; omega) | (show wantB _ _ = true; simp; done) | (show wantB _ _ = true; simp; omega) | (show (_ : Bool) = _; simp_all; done) | (exfalso; omega) | refine aRegion_auto (by decide +kernel) ?_ | fail))
    (apply exEff; focus (repeat' (first | exact ⟨rfl, rfl⟩ | exact trivial | refine And.intro ?_ ?_ | omega | exact Nat.le_refl _ | (show _ + 1 ≤ 4294967296; omega))))
    (repeat' (first | exact trivial | exact fun h => h | refine And.intro ?_ ?_ | (intro hb; first | (simp at hb; done) | (simp at hb) | skip) | omega | exact rfl | exact Nat.le_refl _ | (show _ + 1 ≤ 4294967296; omega) | (dsimp only; omega) | (show (_ : Int) ≤ (_ : Int); omega) | (show _ < List.length _; simp only [List.length_set, List.length_append, List.length_take]; omega) | (show wantB _ _ = true; simp; done) | (show wantB _ _ = true; simp; omega) | (show (_ : Bool) = _; simp_all; done) | (exfalso; omega) | refine aRegion_auto (by decide +kernel) ?_ | fail))
    refine ⟨.tup [], rfA' W H f (ins L e) (ad ++ [e]), REnt.ren [0, 1, 2, 5, 7] rfl ?_ ?_, h2 hbh⟩
    · (repeat' (first | exact trivial | exact rfl | refine And.intro ?_ ?_))
      · show some (AO.box [.fz int W, .fz int H, .fz LI f, .ref 5 0 (pos L e + 1 + (List.take (Int.toNat (L.length : Int) - Int.toNat ((pos L e : Nat) : Int)) (List.drop (0 + Int.toNat ((pos L e : Nat) : Int)) L)).length), .ref 7 0 (ad.length + 1)]) = some (AO.box [.fz int W, .fz int H, .fz LI f, .ref 5 0 (ins L e).length, .ref 7 0 (ad ++ [e]).length])
        rw [hsrc, hil, List.length_drop, List.length_append, show pos L e + 1 + (L.length - pos L e) = L.length + 1 by omega]; rfl
      · refine congrArg (fun z => some (AO.row EdT z)) (?_ : List.take (pos L e + 1) (L.take (pos L e) ++ [e]) ++ List.take (Int.toNat (L.length : Int) - Int.toNat ((pos L e : Nat) : Int)) (List.drop (0 + Int.toNat ((pos L e : Nat) : Int)) L) = ins L e)
        rw [hsrc, List.take_of_length_le (by omega)]
        unfold ins
        rw [List.append_assoc]; rfl
      · exact congrArg (fun z => some (AO.row EdT (z ++ [e]))) List.take_length
    · (repeat' (first | exact trivial | exact rfl | refine And.intro ?_ ?_))
end Go.Proofs.YtiflieijbmaocaaDoor
/-
  The document's desk: why an edit is refused; heights now.
-/
namespace Go.Proofs.YtiflieijbmaocaaDoor
open Go Go.Ab Go.RowKit
set_option maxRecDepth 100000
open Dk
theorem kint {K : AV → List AO → Prop} {A : List AO} {a b : Int} (h : K (.fz int a) A) (e : a = b) : K (.fz int b) A := e ▸ h
theorem chk4 {n : Nat} {e : E} (h : e.1 < 0 ∨ (n : Int) ≤ e.1 ∨ 1048576 < e.2.1 ∨ e.2.1 < -1048576 ∨ e.2.2.1 < 0) : chk n e = 4 := if_pos h
theorem chk5 {n : Nat} {e : E} (h : ¬ (e.1 < 0 ∨ (n : Int) ≤ e.1 ∨ 1048576 < e.2.1 ∨ e.2.1 < -1048576 ∨ e.2.2.1 < 0)) (h2 : e.2.2.2.size = 0 ∨ 20 < e.2.2.2.size) : chk n e = 5 := by unfold chk; rw [if_neg h, if_pos h2]
theorem chk0 {n : Nat} {e : E} (h : ¬ (e.1 < 0 ∨ (n : Int) ≤ e.1 ∨ 1048576 < e.2.1 ∨ e.2.1 < -1048576 ∨ e.2.2.1 < 0)) (h2 : ¬ (e.2.2.2.size = 0 ∨ 20 < e.2.2.2.size)) : chk n e = 0 := by unfold chk; rw [if_neg h, if_neg h2]
theorem eerr_chk {n : Nat} {L : List E} {e : E} {k : Nat} (h : chk n e = k) (hk : 0 < k) : eerr n L e = k := by unfold eerr; rw [h, if_pos hk]
set_option maxHeartbeats 4000000 in
theorem editError_any (G : List (Nat × Value)) (W H : Int) (f : List Int) (L ad : List E) (e : E) (hL : L.length ≤ 1000000) (K : AV → List AO → Prop) (hK : K (.fz int (eerr f.length L e : Nat)) (rfA W H f L ad)) :
    ACall Tryd.prog G 21 [.ptr 0 0, .fz EdT e] (rfA W H f L ad) K := by
  have key : ∀ k : Nat, eerr f.length L e = k → K (.fz int (k : Int)) (rfA W H f L ad) := fun k h => h ▸ hK
  refine acall_mk (E := envAt G 56 3) (envOk _ _ _) Tryd.func21 rfl rfl rfl rfl rfl ?_
  (repeat' (first | exact trivial | exact fun h => h | refine And.intro ?_ ?_ | (intro hb; first | (simp at hb; done) | (simp at hb) | skip) | omega | exact rfl | exact Nat.le_refl _ | (show _ + 1 ≤ 4294967296; omega) | (dsimp only; omega) | (show (_ : Int) ≤ (_ : Int); omega) | (show _ < List.length _; simp only [List.length_set, List.length_append, List.length_take]; omega) | (show wantB _ _ = true; simp; done) | (show wantB _ _ = true; simp; omega) | (show (_ : Bool) = _; simp_all; done) | (exfalso; omega) | refine aRegion_auto (by decide +kernel) ?_ | fail))
  · (repeat' (first | exact trivial | exact fun h => h | refine And.intro ?_ ?_ | (intro hb; first | (simp at hb; done) | (simp at hb) | skip) | omega | exact rfl | exact Nat.le_refl _ | (show _ + 1 ≤ 4294967296; omega) | (dsimp only; omega) | (show (_ : Int) ≤ (_ : Int); omega) | (show _ < List.length _; simp only [List.length_set, List.length_append, List.length_take]; omega) | (show wantB _ _ = true; simp; done) | (show wantB _ _ = true; simp; omega) | (show (_ : Bool) = _; simp_all; done) | (exfalso; omega) | refine aRegion_auto (by decide +kernel) ?_ | fail))
    refine ⟨_, _, REnt.ren [0, 1, 2] rfl ?_ ?_, key 4 (eerr_chk (chk4 (by omega)) (by decide))⟩
    · (repeat' (first | exact trivial | exact rfl | refine And.intro ?_ ?_))
    · (repeat' (first | exact trivial | exact rfl | refine And.intro ?_ ?_))
  · (repeat' (first | exact trivial | exact fun h => h | refine And.intro ?_ ?_ | (intro hb; first | (simp at hb; done) | (simp at hb) | skip) | omega | exact rfl | exact Nat.le_refl _ | (show _ + 1 ≤ 4294967296; omega) | (dsimp only; omega) | (show (_ : Int) ≤ (_ : Int); omega) | (show _ < List.length _; simp only [List.length_set, List.length_append, List.length_take]; omega) | (show wantB _ _ = true; simp; done) | (show wantB _ _ = true; simp; omega) | (show (_ : Bool) = _; simp_all; done) | (exfalso; omega) | refine aRegion_auto (by decide +kernel) ?_ | fail))
    refine ⟨_, _, REnt.ren [0, 1, 2] rfl ?_ ?_, key 4 (eerr_chk (chk4 (by omega)) (by decide))⟩
    · (repeat' (first | exact trivial | exact rfl | refine And.intro ?_ ?_))
    · (repeat' (first | exact trivial | exact rfl | refine And.intro ?_ ?_))
  · (repeat' (first | exact trivial | exact fun h => h | refine And.intro ?_ ?_ | (intro hb; first | (simp at hb; done) | (simp at hb) | skip) | omega | exact rfl | exact Nat.le_refl _ | (show _ + 1 ≤ 4294967296; omega) | (dsimp only; omega) | (show (_ : Int) ≤ (_ : Int); omega) | (show _ < List.length _; simp only [List.length_set, List.length_append, List.length_take]; omega) | (show wantB _ _ = true; simp; done) | (show wantB _ _ = true; simp; omega) | (show (_ : Bool) = _; simp_all; done) | (exfalso; omega) | refine aRegion_auto (by decide +kernel) ?_ | fail))
    refine ⟨_, _, REnt.ren [0, 1, 2] rfl ?_ ?_, key 5 (eerr_chk (chk5 (by omega) (by omega)) (by decide))⟩
    · (repeat' (first | exact trivial | exact rfl | refine And.intro ?_ ?_))
    · (repeat' (first | exact trivial | exact rfl | refine And.intro ?_ ?_))
  · have hc : chk f.length e = 0 := chk0 (by omega) (by omega)
    unfold eerr at key
    rw [hc, if_neg (by omega)] at key
    (repeat' (first | exact trivial | exact fun h => h | refine And.intro ?_ ?_ | (intro hb; first | (simp at hb; done) | (simp at hb) | skip) | omega | exact rfl | exact Nat.le_refl _ | (show _ + 1 ≤ 4294967296; omega) | (dsimp only; omega) | (show (_ : Int) ≤ (_ : Int); omega) | (show _ < List.length _; simp only [List.length_set, List.length_append, List.length_take]; omega) | (show wantB _ _ = true; simp; done) | (show wantB _ _ = true; simp; omega) | (show (_ : Bool) = _; simp_all; done) | (exfalso; omega) | refine aRegion_auto (by decide +kernel) ?_ | fail))
    refine acall_conv [.keep, .dat EdT] _ _ _ rfl trivial (acall_frame [0, 1, 2] (rfA W H f L ad) [.ptr 0 0, .fz EdT e] rfl ?_ ⟨rfl, rfl⟩ rfl (has_any G W H f L ad e (by omega) _ ?_))
    · (repeat' (first | exact trivial | exact rfl | refine And.intro ?_ ?_))
    (repeat' (first | exact trivial | exact fun h => h | refine And.intro ?_ ?_ | (intro hb; first | (simp at hb; done) | (simp at hb) | skip) | omega | exact rfl | exact Nat.le_refl _ | (show _ + 1 ≤ 4294967296; omega) | (dsimp only; omega) | (show (_ : Int) ≤ (_ : Int); omega) | (show _ < List.length _; simp only [List.length_set, List.length_append, List.length_take]; omega) | (show wantB _ _ = true; simp; done) | (show wantB _ _ = true; simp; omega) | (show (_ : Bool) = _; simp_all; done) | (exfalso; omega) | refine aRegion_auto (by decide +kernel) ?_ | fail))
    · (repeat' (first | exact trivial | exact fun h => h | refine And.intro ?_ ?_ | (intro hb; first | (simp at hb; done) | (simp at hb) | skip) | omega | exact rfl | exact Nat.le_refl _ | (show _ + 1 ≤ 4294967296; omega) | (dsimp only; omega) | (show (_ : Int) ≤ (_ : Int); omega) | (show _ < List.length _; simp only [List.length_set, List.length_append, List.length_take]; omega) | (show wantB _ _ = true; simp; done) | (show wantB _ _ = true; simp; omega) | (show (_ : Bool) = _; simp_all; done) | (exfalso; omega) | refine aRegion_auto (by decide +kernel) ?_ | fail))
      refine ⟨_, _, REnt.ren [0, 1, 2] rfl ?_ ?_, key 2 (if_pos ⟨by first | exact hb.1 | assumption, by omega⟩)⟩
      · (repeat' (first | exact trivial | exact rfl | refine And.intro ?_ ?_))
      · (repeat' (first | exact trivial | exact rfl | refine And.intro ?_ ?_))
    · refine ⟨_, _, REnt.ren [0, 1, 2] rfl ?_ ?_, key 0 (if_neg fun h => by have := hb h.1; omega)⟩
      · (repeat' (first | exact trivial | exact rfl | refine And.intro ?_ ?_))
      · (repeat' (first | exact trivial | exact rfl | refine And.intro ?_ ?_))
/-- heights now -/
theorem nw_take (f : List Int) (L : List E) (k : Nat) (h : k < L.length) : nw f (L.take (k + 1)) = (nw f (L.take k)).set (L[k].1.toNat) L[k].2.1 := by
  rw [List.take_succ_eq_append_getElem h, nw_app]; rfl
set_option maxHeartbeats 4000000 in
theorem now_any (G : List (Nat × Value)) (W H : Int) (f : List Int) (L ad : List E) (hf : f.length ≤ 1000000) (hL : L.length ≤ 1000000) (hc : ∀ x ∈ L, 0 ≤ x.1 ∧ x.1 < f.length) (K : AV → List AO → Prop) (hK : K (.ref 3 0 f.length) (rfA W H f L ad ++ [.row int (nw f L)])) :
    ACall Tryd.prog G 31 [.ptr 0 0] (rfA W H f L ad) K := by
  refine acall_mk (E := envAt G 40 3) (envOk _ _ _) Tryd.func31 rfl rfl rfl rfl rfl ?_
  (repeat' (first | exact trivial | exact fun h => h | refine And.intro ?_ ?_ | (intro hb; first | (simp at hb; done) | (simp at hb) | skip) | omega | exact rfl | exact Nat.le_refl _ | (show _ + 1 ≤ 4294967296; omega) | (dsimp only; omega) | (show (_ : Int) ≤ (_ : Int); omega) | (show _ < List.length _; simp only [List.length_set, List.length_append, List.length_take]; omega) | (show wantB _ _ = true; simp; done) | (show wantB _ _ = true; simp; omega) | (show (_ : Bool) = _; simp_all; done) | (exfalso; omega) | refine aRegion_auto (by decide +kernel) ?_ | fail))
  refine ⟨Nat, fun k => ⟨[(0, .ptr 0 0), (3, .ref 3 0 f.length), (4, .fz int k)], rfA W H f L ad ++ [.row int (nw f (L.take k))]⟩, fun k => k ≤ L.length, fun k => L.length - k, 0, Nat.zero_le _, Ent.sub rfl ?_, ?_⟩
  · (repeat' (first | exact trivial | exact rfl | refine And.intro ?_ ?_))
  intro k hk
  have hk : k ≤ L.length := hk
  have hl := nw_len f (L.take k)
  show awp _ _ _ ⟨[(0, .ptr 0 0), (3, .ref 3 0 f.length), (4, .fz int k)], rfA W H f L ad ++ [.row int (nw f (L.take k))]⟩
  by_cases hk2 : k < L.length
  · have ge : L.getD (0 + Int.toNat (k : Int)) EdT.dft = L[k] := by simp [List.getD, hk2]
    obtain ⟨c1, c2⟩ := hc L[k] (List.getElem_mem hk2)
    rw [← ge] at c1 c2
    have hl2 : (nw f (L.take k)).length = f.length := hl
    (repeat' (first | exact trivial | exact fun h => h | refine And.intro ?_ ?_ | (intro hb; first | (simp at hb; done) | (simp at hb) | skip) | omega | exact rfl | exact Nat.le_refl _ | (show _ + 1 ≤ 4294967296; omega) | (dsimp only; omega) | (show (_ : Int) ≤ (_ : Int); omega) | (show _ < List.length _; simp only [List.length_set, List.length_append, List.length_take]; omega) | (show wantB _ _ = true; simp; done) | (show wantB _ _ = true; simp; omega) | (show (_ : Bool) = _; simp_all; done) | (exfalso; omega) | refine aRegion_auto (by decide +kernel) ?_ | fail))
    (apply exEff; focus (repeat' (first | exact ⟨rfl, rfl⟩ | exact trivial | refine And.intro ?_ ?_ | omega | exact Nat.le_refl _ | (show _ + 1 ≤ 4294967296; omega))))
    (repeat' (first | exact trivial | exact fun h => h | refine And.intro ?_ ?_ | (intro hb; first | (simp at hb; done) | (simp at hb) | skip) | omega | exact rfl | exact Nat.le_refl _ | (show _ + 1 ≤ 4294967296; omega) | (dsimp only; omega) | (show (_ : Int) ≤ (_ : Int); omega) | (show _ < List.length _; simp only [List.length_set, List.length_append, List.length_take]; omega) | (show wantB _ _ = true; simp; done) | (show wantB _ _ = true; simp; omega) | (show (_ : Bool) = _; simp_all; done) | (exfalso; omega) | refine aRegion_auto (by decide +kernel) ?_ | fail))
    refine ⟨k + 1, by show k + 1 ≤ L.length; omega, by show L.length - (k + 1) < L.length - k; omega, Ent.sub ?_ ?_⟩
    · rw [nw_take f L k hk2, ← ge]
      exact congrArg (fun z => rfA W H f L ad ++ [AO.row int ((nw f (L.take k)).set z (L.getD (0 + Int.toNat (k : Int)) EdT.dft).2.1)]) (Nat.zero_add _)
    · (repeat' (first | exact trivial | exact rfl | refine And.intro ?_ ?_))
  · have hk3 : k = L.length := by omega
    subst hk3
    rw [List.take_length]
    (repeat' (first | exact trivial | exact fun h => h | refine And.intro ?_ ?_ | (intro hb; first | (simp at hb; done) | (simp at hb) | skip) | omega | exact rfl | exact Nat.le_refl _ | (show _ + 1 ≤ 4294967296; omega) | (dsimp only; omega) | (show (_ : Int) ≤ (_ : Int); omega) | (show _ < List.length _; simp only [List.length_set, List.length_append, List.length_take]; omega) | (show wantB _ _ = true; simp; done) | (show wantB _ _ = true; simp; omega) | (show (_ : Bool) = _; simp_all; done) | (exfalso; omega) | refine aRegion_auto (by decide +kernel) ?_ | fail))
    exact ⟨_, _, REnt.refl _ _ _, hK⟩
theorem sameInts_self (G : List (Nat × Value)) (xs : List Int) (hl : xs.length ≤ 1000000) (K : AV → List AO → Prop) (hK : K (.fz .bool true) []) :
    ACall Tryd.prog G 19 [.fz LI xs, .fz LI xs] [] K := by
  refine acall_mk (E := envAt G 26 0) (envOk _ _ _) Tryd.func19 rfl rfl rfl rfl rfl ?_
  (repeat' (first | exact trivial | exact fun h => h | refine And.intro ?_ ?_ | (intro hb; first | (simp at hb; done) | (simp at hb) | skip) | omega | exact rfl | exact Nat.le_refl _ | (show _ + 1 ≤ 4294967296; omega) | (dsimp only; omega) | (show (_ : Int) ≤ (_ : Int); omega) | (show _ < List.length _; simp only [List.length_set, List.length_append, List.length_take]; omega) | (show wantB _ _ = true; simp; done) | (show wantB _ _ = true; simp; omega) | (show (_ : Bool) = _; simp_all; done) | (exfalso; omega) | refine aRegion_auto (by decide +kernel) ?_ | fail))
  refine ⟨Nat, fun k => ⟨[(0, .fz LI xs), (1, .fz LI xs), (5, .fz int k)], []⟩, fun k => k ≤ xs.length, fun k => xs.length - k, 0, Nat.zero_le _, Ent.sub rfl ?_, ?_⟩
  · (repeat' (first | exact trivial | exact rfl | refine And.intro ?_ ?_))
  intro k hk
  have hk : k ≤ xs.length := hk
  by_cases hk2 : k < xs.length
  · (repeat' (first | exact trivial | exact fun h => h | refine And.intro ?_ ?_ | (intro hb; first | (simp at hb; done) | (simp at hb) | skip) | omega | exact rfl | exact Nat.le_refl _ | (show _ + 1 ≤ 4294967296; omega) | (dsimp only; omega) | (show (_ : Int) ≤ (_ : Int); omega) | (show _ < List.length _; simp only [List.length_set, List.length_append, List.length_take]; omega) | (show wantB _ _ = true; simp; done) | (show wantB _ _ = true; simp; omega) | (show (_ : Bool) = _; simp_all; done) | (exfalso; omega) | refine aRegion_auto (by decide +kernel) ?_ | fail))
    refine ⟨k + 1, by show k + 1 ≤ xs.length; omega, by show xs.length - (k + 1) < xs.length - k; omega, Ent.sub rfl ?_⟩
    (repeat' (first | exact trivial | exact rfl | refine And.intro ?_ ?_))
  · (repeat' (first | exact trivial | exact fun h => h | refine And.intro ?_ ?_ | (intro hb; first | (simp at hb; done) | (simp at hb) | skip) | omega | exact rfl | exact Nat.le_refl _ | (show _ + 1 ≤ 4294967296; omega) | (dsimp only; omega) | (show (_ : Int) ≤ (_ : Int); omega) | (show _ < List.length _; simp only [List.length_set, List.length_append, List.length_take]; omega) | (show wantB _ _ = true; simp; done) | (show wantB _ _ = true; simp; omega) | (show (_ : Bool) = _; simp_all; done) | (exfalso; omega) | refine aRegion_auto (by decide +kernel) ?_ | fail))
    refine ⟨_, _, REnt.drop ⟨rfl, rfl⟩, hK⟩
theorem edit_any (G : List (Nat × Value)) (e : E) (K : AV → List AO → Prop) (hK : K (.fz EdT e) []) :
    ACall Tryd.prog G 23 [.fz EdT e] [] K := by
  refine acall_mk (E := envAt G 12 0) (envOk _ _ _) Tryd.func23 rfl rfl rfl rfl rfl ?_
  show ∃ r A', REnt 0 (.agg [.fz int e.1, .fz int e.2.1, .fz int e.2.2.1, .fz .str e.2.2.2]) [.box [.fz int e.1, .fz int e.2.1, .fz int e.2.2.1, .fz .str e.2.2.2], .box [.fz int e.1, .fz int e.2.1, .fz int e.2.2.1, .fz .str e.2.2.2]] r A' ∧ K r A'
  exact ⟨.fz EdT e, [], (REnt.conv1 (.dat EdT) none rfl trivial).trans (REnt.drop ⟨rfl, rfl⟩), hK⟩
theorem sameEdits_self (G : List (Nat × Value)) (L : List E) (hl : L.length ≤ 1000000) (K : AV → List AO → Prop) (hK : K (.fz .bool true) []) :
    ACall Tryd.prog G 32 [.fz (.list EdT) L, .fz (.list EdT) L] [] K := by
  refine acall_mk (E := envAt G 27 0) (envOk _ _ _) Tryd.func32 rfl rfl rfl rfl rfl ?_
  (repeat' (first | exact trivial | exact fun h => h | refine And.intro ?_ ?_ | (intro hb; first | (simp at hb; done) | (simp at hb) | skip) | omega | exact rfl | exact Nat.le_refl _ | (show _ + 1 ≤ 4294967296; omega) | (dsimp only; omega) | (show (_ : Int) ≤ (_ : Int); omega) | (show _ < List.length _; simp only [List.length_set, List.length_append, List.length_take]; omega) | (show wantB _ _ = true; simp; done) | (show wantB _ _ = true; simp; omega) | (show (_ : Bool) = _; simp_all; done) | (exfalso; omega) | refine aRegion_auto (by decide +kernel) ?_ | fail))
  refine ⟨Nat, fun k => ⟨[(0, .fz (.list EdT) L), (1, .fz (.list EdT) L), (5, .fz int k)], []⟩, fun k => k ≤ L.length, fun k => L.length - k, 0, Nat.zero_le _, Ent.sub rfl ?_, ?_⟩
  · (repeat' (first | exact trivial | exact rfl | refine And.intro ?_ ?_))
  intro k hk
  have hk : k ≤ L.length := hk
  by_cases hk2 : k < L.length
  · have hq : eqE (L.getD (Int.toNat (k : Int)) EdT.dft) (L.getD (Int.toNat (k : Int)) EdT.dft) = true := eqE_iff.2 rfl
    (repeat' (first | exact trivial | exact fun h => h | refine And.intro ?_ ?_ | (intro hb; first | (simp at hb; done) | (simp at hb) | skip) | omega | exact rfl | exact Nat.le_refl _ | (show _ + 1 ≤ 4294967296; omega) | (dsimp only; omega) | (show (_ : Int) ≤ (_ : Int); omega) | (show _ < List.length _; simp only [List.length_set, List.length_append, List.length_take]; omega) | (show wantB _ _ = true; simp; done) | (show wantB _ _ = true; simp; omega) | (show (_ : Bool) = _; simp_all; done) | (exfalso; omega) | refine aRegion_auto (by decide +kernel) ?_ | fail))
    apply exEff
    · refine acall_frame0 rfl (edit_any _ _ _ ?_)
      exact ⟨rfl, rfl⟩
    (repeat' (first | exact trivial | exact fun h => h | refine And.intro ?_ ?_ | (intro hb; first | (simp at hb; done) | (simp at hb) | skip) | omega | exact rfl | exact Nat.le_refl _ | (show _ + 1 ≤ 4294967296; omega) | (dsimp only; omega) | (show (_ : Int) ≤ (_ : Int); omega) | (show _ < List.length _; simp only [List.length_set, List.length_append, List.length_take]; omega) | (show wantB _ _ = true; simp; done) | (show wantB _ _ = true; simp; omega) | (show (_ : Bool) = _; simp_all; done) | (exfalso; omega) | refine aRegion_auto (by decide +kernel) ?_ | fail))
    · have hq2 : eqE (L[k]?.getD EdT.dft) (L[k]?.getD EdT.dft) = true := eqE_iff.2 rfl
      have hb : eqE (L[k]?.getD EdT.dft) (L[k]?.getD EdT.dft) = false := hb
      rw [hq2] at hb; cases hb
    refine ⟨k + 1, by show k + 1 ≤ L.length; omega, by show L.length - (k + 1) < L.length - k; omega, Ent.sub rfl ?_⟩
    (repeat' (first | exact trivial | exact rfl | refine And.intro ?_ ?_))
  · (repeat' (first | exact trivial | exact fun h => h | refine And.intro ?_ ?_ | (intro hb; first | (simp at hb; done) | (simp at hb) | skip) | omega | exact rfl | exact Nat.le_refl _ | (show _ + 1 ≤ 4294967296; omega) | (dsimp only; omega) | (show (_ : Int) ≤ (_ : Int); omega) | (show _ < List.length _; simp only [List.length_set, List.length_append, List.length_take]; omega) | (show wantB _ _ = true; simp; done) | (show wantB _ _ = true; simp; omega) | (show (_ : Bool) = _; simp_all; done) | (exfalso; omega) | refine aRegion_auto (by decide +kernel) ?_ | fail))
    refine ⟨_, _, REnt.drop ⟨rfl, rfl⟩, hK⟩
end Go.Proofs.YtiflieijbmaocaaDoor
/-
  Has a desk what it should? Few cells and edits.
-/
namespace Go.Proofs.YtiflieijbmaocaaDoor
open Go Go.Ab Go.RowKit
set_option maxRecDepth 100000
open Dk
/-- both desks -/
abbrev boA (W H : Int) (f now : List Int) (tl : List Tl) (L ad : List E) (cnt : Int) (L2 ad2 : List E) : List AO :=
  dkA W H f now tl L ad cnt ++ [.box [.fz int W, .fz int H, .fz LI f, .ref 6 0 L2.length, .ref 7 0 ad2.length], .row EdT L2, .row EdT ad2]
theorem two_args {e e' : Ty} {x y : e.den} {z u : e'.den} (h : x = y) (h' : z = u) : [AV.fz e x, AV.fz e' z] = [AV.fz e y, AV.fz e' u] := by subst h; subst h'; rfl
/-- .. in the order in which they are lent -/
abbrev bo2 (W H : Int) (f now : List Int) (tl : List Tl) (L ad : List E) (cnt : Int) (L2 ad2 : List E) : List AO :=
  [.box [.fz int W, .fz int H, .fz LI f, .fz int W, .fz int H, .ref 4 0 now.length, .ref 6 0 L.length, .ref 7 0 ad.length, .ref 5 0 tl.length, .fz int cnt], .box [.fz int W, .fz int H, .fz LI f, .ref 2 0 L2.length, .ref 3 0 ad2.length], .row EdT L2, .row EdT ad2, .row int now, .row TlT tl, .row EdT L, .row EdT ad]
set_option maxHeartbeats 8000000 in
theorem is_any (G : List (Nat × Value)) (W H : Nat) (f : List Int) (tl : List Tl) (L ad : List E) (cnt : Int) (ad2 : List E) (hf : f.length ≤ 100000) (hL : L.length ≤ 100000) (hc : ∀ x ∈ L, 0 ≤ x.1 ∧ x.1 < f.length) (K : AV → List AO → Prop)
    (hK : K (.fz .bool true) (bo2 W H f (nw f L) tl L ad cnt L ad2)) :
    ACall Tryd.prog G 15 [.ptr 0 0, .ptr 1 0] (bo2 W H f (nw f L) tl L ad cnt L ad2) K := by
  have hnl := nw_len f L
  refine acall_mk (E := envAt G 46 8) (envOk _ _ _) Tryd.func15 rfl rfl rfl rfl rfl ?_
  (repeat' (first | exact trivial | exact fun h => h | refine And.intro ?_ ?_ | (intro hb; first | (simp at hb; done) | (simp at hb) | skip) | omega | exact rfl | exact Nat.le_refl _ | (show _ + 1 ≤ 4294967296; omega) | (dsimp only; omega) | (show (_ : Int) ≤ (_ : Int); omega) | (show _ < List.length _; simp only [List.length_set, List.length_append, List.length_take]; omega) | (show wantB _ _ = true; simp; done) | (show wantB _ _ = true; simp; omega) | (show (_ : Bool) = _; simp_all; done) | (exfalso; omega) | refine aRegion_auto (by decide +kernel) ?_ | fail))
  refine acall_frame [0, 4, 5, 6, 7] (dkA W H f (nw f L) tl L ad cnt) [.ptr 0 0] rfl ?_ ⟨rfl, rfl⟩ rfl (raster_any G W H f (nw f L) tl L ad cnt (by omega) _ ?_)
  · (repeat' (first | exact trivial | exact rfl | refine And.intro ?_ ?_))
  (repeat' (first | exact trivial | exact fun h => h | refine And.intro ?_ ?_ | (intro hb; first | (simp at hb; done) | (simp at hb) | skip) | omega | exact rfl | exact Nat.le_refl _ | (show _ + 1 ≤ 4294967296; omega) | (dsimp only; omega) | (show (_ : Int) ≤ (_ : Int); omega) | (show _ < List.length _; simp only [List.length_set, List.length_append, List.length_take]; omega) | (show wantB _ _ = true; simp; done) | (show wantB _ _ = true; simp; omega) | (show (_ : Bool) = _; simp_all; done) | (exfalso; omega) | refine aRegion_auto (by decide +kernel) ?_ | fail))
  apply exEff
  · refine acall_frame [1, 2, 3] (rfA W H f L ad2) [.ptr 0 0] rfl ?_ ⟨rfl, rfl⟩ rfl (now_any G W H f L ad2 (by omega) (by omega) hc _ ?_)
    · (repeat' (first | exact trivial | exact rfl | refine And.intro ?_ ?_))
    · exact ⟨rfl, rfl⟩
  have t1 : List.take (nw f L).length (nw f L) = nw f L := List.take_length
  have t2 : List.take f.length (nw f L) = nw f L := List.take_of_length_le (by omega)
  (repeat' (first | exact trivial | exact fun h => h | refine And.intro ?_ ?_ | (intro hb; first | (simp at hb; done) | (simp at hb) | skip) | omega | exact rfl | exact Nat.le_refl _ | (show _ + 1 ≤ 4294967296; omega) | (dsimp only; omega) | (show (_ : Int) ≤ (_ : Int); omega) | (show _ < List.length _; simp only [List.length_set, List.length_append, List.length_take]; omega) | (show wantB _ _ = true; simp; done) | (show wantB _ _ = true; simp; omega) | (show (_ : Bool) = _; simp_all; done) | (exfalso; omega) | refine aRegion_auto (by decide +kernel) ?_ | fail))
  apply exEff
  · refine acall_conv [.dat LI, .dat LI] _ _ _ rfl ?_ (acall_frame0 rfl (acall_arg (sameInts_self G (nw f L) (by omega) _ ?_) ?_))
    · (repeat' (first | exact trivial | refine And.intro ?_ ?_ | (show _ ≤ _; omega) | (show _ ≤ _; simp; done)))
    · exact ⟨rfl, rfl⟩
    · exact two_args t1.symm t2.symm
  (repeat' (first | exact trivial | exact fun h => h | refine And.intro ?_ ?_ | (intro hb; first | (simp at hb; done) | (simp at hb) | skip) | omega | exact rfl | exact Nat.le_refl _ | (show _ + 1 ≤ 4294967296; omega) | (dsimp only; omega) | (show (_ : Int) ≤ (_ : Int); omega) | (show _ < List.length _; simp only [List.length_set, List.length_append, List.length_take]; omega) | (show wantB _ _ = true; simp; done) | (show wantB _ _ = true; simp; omega) | (show (_ : Bool) = _; simp_all; done) | (exfalso; omega) | refine aRegion_auto (by decide +kernel) ?_ | fail))
  apply exEff
  · refine acall_frame [0, 4, 5, 6, 7] (dkA W H f (nw f L) tl L ad cnt) [.ptr 0 0] rfl ?_ ⟨rfl, rfl⟩ rfl (edits_any G W H f (nw f L) tl L ad cnt (by omega) _ ?_)
    · (repeat' (first | exact trivial | exact rfl | refine And.intro ?_ ?_))
    · exact ⟨rfl, rfl⟩
  (repeat' (first | exact trivial | exact fun h => h | refine And.intro ?_ ?_ | (intro hb; first | (simp at hb; done) | (simp at hb) | skip) | omega | exact rfl | exact Nat.le_refl _ | (show _ + 1 ≤ 4294967296; omega) | (dsimp only; omega) | (show (_ : Int) ≤ (_ : Int); omega) | (show _ < List.length _; simp only [List.length_set, List.length_append, List.length_take]; omega) | (show wantB _ _ = true; simp; done) | (show wantB _ _ = true; simp; omega) | (show (_ : Bool) = _; simp_all; done) | (exfalso; omega) | refine aRegion_auto (by decide +kernel) ?_ | fail))
  apply exEff
  · refine acall_lend [.dat (.list EdT), .dat (.list EdT)] _ _ _ rfl ?_ rfl ?_
    · (repeat' (first | exact trivial | refine And.intro ?_ ?_ | (show _ ≤ _; omega) | (show _ ≤ _; simp; done)))
    refine acall_arg (sameEdits_self G L (by omega) _ ?_) ?_
    · refine And.intro rfl ?_
      exact ⟨rfl, rfl⟩
    · exact two_args (e := .list EdT) (e' := .list EdT) List.take_length.symm List.take_length.symm
  have w1 : ((W : Int) == (W : Int)) = true := by simp
  have w2 : ((H : Int) == (H : Int)) = true := by simp
  (repeat' (first | exact trivial | exact fun h => h | refine And.intro ?_ ?_ | (intro hb; first | (simp at hb; done) | (simp at hb) | skip) | omega | exact rfl | exact Nat.le_refl _ | (show _ + 1 ≤ 4294967296; omega) | (dsimp only; omega) | (show (_ : Int) ≤ (_ : Int); omega) | (show _ < List.length _; simp only [List.length_set, List.length_append, List.length_take]; omega) | (show wantB _ _ = true; simp; done) | (show wantB _ _ = true; simp; omega) | (show (_ : Bool) = _; simp_all; done) | (exfalso; omega) | refine aRegion_auto (by decide +kernel) ?_ | fail))
  rw [w1, w2]
  (repeat' (first | exact trivial | exact fun h => h | refine And.intro ?_ ?_ | (intro hb; first | (simp at hb; done) | (simp at hb) | skip) | omega | exact rfl | exact Nat.le_refl _ | (show _ + 1 ≤ 4294967296; omega) | (dsimp only; omega) | (show (_ : Int) ≤ (_ : Int); omega) | (show _ < List.length _; simp only [List.length_set, List.length_append, List.length_take]; omega) | (show wantB _ _ = true; simp; done) | (show wantB _ _ = true; simp; omega) | (show (_ : Bool) = _; simp_all; done) | (exfalso; omega) | refine aRegion_auto (by decide +kernel) ?_ | fail))
  refine ⟨.fz .bool true, _, REnt.ren [0, 1, 2, 3, 4, 5, 6, 7] rfl ?_ ?_, hK⟩
  · (repeat' (first | exact trivial | exact rfl | refine And.intro ?_ ?_))
  · (repeat' (first | exact trivial | exact rfl | refine And.intro ?_ ?_))
end Go.Proofs.YtiflieijbmaocaaDoor
/-
  Few cells and edits; a desk at all.
-/
namespace Go.Proofs.YtiflieijbmaocaaDoor
open Go Go.Ab Go.RowKit
set_option maxRecDepth 100000
open Dk
def shortB (l : List E) : Bool := l.all fun x => decide (x.2.2.2.size ≤ 300)
def smB (n : Nat) (l : List E) : Bool := shortB l && (decide (n ≤ 1700) && decide (l.length ≤ 40))
theorem short_next {l : List E} {k : Nat} (hk : k < l.length) (h : shortB (l.take k) = true) (h2 : l[k].2.2.2.size ≤ 300) : shortB (l.take (k + 1)) = true := by
  unfold shortB at *
  rw [List.take_succ_eq_append_getElem hk, List.all_append, h]
  simpa using h2
theorem short_not {l : List E} {k : Nat} (hk : k < l.length) (h2 : 300 < l[k].2.2.2.size) : shortB l = false := by
  unfold shortB
  rw [Bool.eq_false_iff]
  intro h
  have := List.all_eq_true.1 h l[k] (List.getElem_mem hk)
  simp at this
  omega
set_option maxHeartbeats 4000000 in
theorem small_some (G : List (Nat × Value)) (a : Ras) (l : List E) (hl : l.length ≤ 9223372036854775807) (ha : a.2.2.length ≤ 9223372036854775807) (K : AV → List AO → Prop) (hK : K (.fz .bool (smB a.2.2.length l)) []) :
    ACall Tryd.prog G 7 [.fptr RasT a, .fz (.list EdT) l] [] K := by
  unfold smB at hK
  refine acall_mk (E := envAt G 34 0) (envOk _ _ _) Tryd.func7 rfl rfl rfl rfl rfl ?_
  (repeat' (first | exact trivial | exact fun h => h | refine And.intro ?_ ?_ | (intro hb; first | (simp at hb; done) | (simp at hb) | skip) | omega | exact rfl | exact Nat.le_refl _ | (show _ + 1 ≤ 4294967296; omega) | (dsimp only; omega) | (show (_ : Int) ≤ (_ : Int); omega) | (show _ < List.length _; simp only [List.length_set, List.length_append, List.length_take]; omega) | (show wantB _ _ = true; simp; done) | (show wantB _ _ = true; simp; omega) | (show (_ : Bool) = _; simp_all; done) | (exfalso; omega) | refine aRegion_auto (by decide +kernel) ?_ | fail))
  refine ⟨Nat, fun k => ⟨[(0, .fptr RasT a), (1, .fz (.list EdT) l), (5, .fz int k)], []⟩, fun k => k ≤ l.length ∧ shortB (l.take k) = true, fun k => l.length - k, 0, ⟨Nat.zero_le _, rfl⟩, Ent.sub rfl ?_, ?_⟩
  · (repeat' (first | exact trivial | exact rfl | refine And.intro ?_ ?_))
  intro k ⟨hk, hp⟩
  have hk : k ≤ l.length := hk
  have hp : shortB (l.take k) = true := hp
  by_cases hk2 : k < l.length
  · have ge : l[k]?.getD EdT.dft = l[k] := by simp [hk2]
    (repeat' (first | exact trivial | exact fun h => h | refine And.intro ?_ ?_ | (intro hb; first | (simp at hb; done) | (simp at hb) | skip) | omega | exact rfl | exact Nat.le_refl _ | (show _ + 1 ≤ 4294967296; omega) | (dsimp only; omega) | (show (_ : Int) ≤ (_ : Int); omega) | (show _ < List.length _; simp only [List.length_set, List.length_append, List.length_take]; omega) | (show wantB _ _ = true; simp; done) | (show wantB _ _ = true; simp; omega) | (show (_ : Bool) = _; simp_all; done) | (exfalso; omega) | refine aRegion_auto (by decide +kernel) ?_ | fail))
    · rw [ge] at hb
      rw [short_not hk2 (by omega)] at hK
      (repeat' (first | exact trivial | exact fun h => h | refine And.intro ?_ ?_ | (intro hb; first | (simp at hb; done) | (simp at hb) | skip) | omega | exact rfl | exact Nat.le_refl _ | (show _ + 1 ≤ 4294967296; omega) | (dsimp only; omega) | (show (_ : Int) ≤ (_ : Int); omega) | (show _ < List.length _; simp only [List.length_set, List.length_append, List.length_take]; omega) | (show wantB _ _ = true; simp; done) | (show wantB _ _ = true; simp; omega) | (show (_ : Bool) = _; simp_all; done) | (exfalso; omega) | refine aRegion_auto (by decide +kernel) ?_ | fail))
      refine ⟨_, _, REnt.drop ⟨rfl, rfl⟩, hK⟩
    · rw [ge] at hb
      refine ⟨k + 1, ⟨by show k + 1 ≤ l.length; omega, short_next hk2 hp (by omega)⟩, by show l.length - (k + 1) < l.length - k; omega, Ent.sub rfl ?_⟩
      (repeat' (first | exact trivial | exact rfl | refine And.intro ?_ ?_))
  · have hk3 : k = l.length := by omega
    subst hk3
    rw [List.take_length] at hp
    rw [hp] at hK
    (repeat' (first | exact trivial | exact fun h => h | refine And.intro ?_ ?_ | (intro hb; first | (simp at hb; done) | (simp at hb) | skip) | omega | exact rfl | exact Nat.le_refl _ | (show _ + 1 ≤ 4294967296; omega) | (dsimp only; omega) | (show (_ : Int) ≤ (_ : Int); omega) | (show _ < List.length _; simp only [List.length_set, List.length_append, List.length_take]; omega) | (show wantB _ _ = true; simp; done) | (show wantB _ _ = true; simp; omega) | (show (_ : Bool) = _; simp_all; done) | (exfalso; omega) | refine aRegion_auto (by decide +kernel) ?_ | fail))
    refine ⟨.fz .bool (true && (decide (a.2.2.length ≤ 1700) && decide (l.length ≤ 40))), _, REnt.ren [] rfl ?_ ?_, hK⟩
    · (repeat' (first | exact trivial | exact rfl | refine And.intro ?_ ?_))
    · refine And.intro (congrArg (AV.fz .bool) (?_ : (bif bif !false then decide (((a.2.2.length : Nat) : Int) ≤ 1700) else false then decide ((l.length : Int) ≤ 40) else false) = _)) rfl
      have e1 : decide (((a.2.2.length : Nat) : Int) ≤ 1700) = decide (a.2.2.length ≤ 1700) := by rw [decide_eq_decide]; omega
      have e2 : decide ((l.length : Int) ≤ 40) = decide (l.length ≤ 40) := by rw [decide_eq_decide]; omega
      rw [e1, e2]
      cases decide (a.2.2.length ≤ 1700) <;> rfl
set_option maxHeartbeats 4000000 in
theorem small_nil (G : List (Nat × Value)) (l : List E) (hl : l.length ≤ 9223372036854775807) (K : AV → List AO → Prop) (hK : K (.fz .bool false) []) :
    ACall Tryd.prog G 7 [.fz .raw (.pointer none), .fz (.list EdT) l] [] K := by
  refine acall_mk (E := envAt G 34 0) (envOk _ _ _) Tryd.func7 rfl rfl rfl rfl rfl ?_
  (repeat' (first | exact trivial | exact fun h => h | refine And.intro ?_ ?_ | (intro hb; first | (simp at hb; done) | (simp at hb) | skip) | omega | exact rfl | exact Nat.le_refl _ | (show _ + 1 ≤ 4294967296; omega) | (dsimp only; omega) | (show (_ : Int) ≤ (_ : Int); omega) | (show _ < List.length _; simp only [List.length_set, List.length_append, List.length_take]; omega) | (show wantB _ _ = true; simp; done) | (show wantB _ _ = true; simp; omega) | (show (_ : Bool) = _; simp_all; done) | (exfalso; omega) | refine aRegion_auto (by decide +kernel) ?_ | fail))
  refine ⟨Nat, fun k => ⟨[(0, .fz .raw (.pointer none)), (1, .fz (.list EdT) l), (5, .fz int k)], []⟩, fun k => k ≤ l.length, fun k => l.length - k, 0, Nat.zero_le _, Ent.sub rfl ?_, ?_⟩
  · (repeat' (first | exact trivial | exact rfl | refine And.intro ?_ ?_))
  intro k hk
  have hk : k ≤ l.length := hk
  by_cases hk2 : k < l.length
  · (repeat' (first | exact trivial | exact fun h => h | refine And.intro ?_ ?_ | (intro hb; first | (simp at hb; done) | (simp at hb) | skip) | omega | exact rfl | exact Nat.le_refl _ | (show _ + 1 ≤ 4294967296; omega) | (dsimp only; omega) | (show (_ : Int) ≤ (_ : Int); omega) | (show _ < List.length _; simp only [List.length_set, List.length_append, List.length_take]; omega) | (show wantB _ _ = true; simp; done) | (show wantB _ _ = true; simp; omega) | (show (_ : Bool) = _; simp_all; done) | (exfalso; omega) | refine aRegion_auto (by decide +kernel) ?_ | fail))
    · (repeat' (first | exact trivial | exact fun h => h | refine And.intro ?_ ?_ | (intro hb; first | (simp at hb; done) | (simp at hb) | skip) | omega | exact rfl | exact Nat.le_refl _ | (show _ + 1 ≤ 4294967296; omega) | (dsimp only; omega) | (show (_ : Int) ≤ (_ : Int); omega) | (show _ < List.length _; simp only [List.length_set, List.length_append, List.length_take]; omega) | (show wantB _ _ = true; simp; done) | (show wantB _ _ = true; simp; omega) | (show (_ : Bool) = _; simp_all; done) | (exfalso; omega) | refine aRegion_auto (by decide +kernel) ?_ | fail))
      refine ⟨_, _, REnt.drop ⟨rfl, rfl⟩, hK⟩
    · refine ⟨k + 1, by show k + 1 ≤ l.length; omega, by show l.length - (k + 1) < l.length - k; omega, Ent.sub rfl ?_⟩
      (repeat' (first | exact trivial | exact rfl | refine And.intro ?_ ?_))
  · (repeat' (first | exact trivial | exact fun h => h | refine And.intro ?_ ?_ | (intro hb; first | (simp at hb; done) | (simp at hb) | skip) | omega | exact rfl | exact Nat.le_refl _ | (show _ + 1 ≤ 4294967296; omega) | (dsimp only; omega) | (show (_ : Int) ≤ (_ : Int); omega) | (show _ < List.length _; simp only [List.length_set, List.length_append, List.length_take]; omega) | (show wantB _ _ = true; simp; done) | (show wantB _ _ = true; simp; omega) | (show (_ : Bool) = _; simp_all; done) | (exfalso; omega) | refine aRegion_auto (by decide +kernel) ?_ | fail))
    refine ⟨_, _, REnt.drop ⟨rfl, rfl⟩, hK⟩
def ras1 : Ras := (1, 1, [3])
set_option maxHeartbeats 4000000 in
theorem desked_any (E : Errs) (K : AV → List AO → Prop) (hK : K (.fz .bool true) []) :
    ACall Tryd.prog (G8 E) 6 [] [] K := by
  have hr : rerr ras1 = 0 := by decide
  refine acall_mk (E := envAt (G8 E) 22 0) (envOk _ _ _) Tryd.func6 rfl rfl rfl rfl rfl ?_
  (repeat' (first | exact trivial | exact fun h => h | refine And.intro ?_ ?_ | (intro hb; first | (simp at hb; done) | (simp at hb) | skip) | omega | exact rfl | exact Nat.le_refl _ | (show _ + 1 ≤ 4294967296; omega) | (dsimp only; omega) | (show (_ : Int) ≤ (_ : Int); omega) | (show _ < List.length _; simp only [List.length_set, List.length_append, List.length_take]; omega) | (show wantB _ _ = true; simp; done) | (show wantB _ _ = true; simp; omega) | (show (_ : Bool) = _; simp_all; done) | (exfalso; omega) | refine aRegion_auto (by decide +kernel) ?_ | fail))
  refine acall_conv [.dat RasT] _ _ _ rfl ?_ (acall_frame0 rfl (acall_arg (new_any E ras1 (by decide) _ (fun h => absurd h (by rw [hr]; decide)) (fun W H h1 h2 h3 => ?_)) rfl))
  · (repeat' (first | exact trivial | refine And.intro ?_ ?_ | (show _ ≤ _; omega) | (show _ ≤ _; simp; done)))
  (repeat' (first | exact trivial | exact fun h => h | refine And.intro ?_ ?_ | (intro hb; first | (simp at hb; done) | (simp at hb) | skip) | omega | exact rfl | exact Nat.le_refl _ | (show _ + 1 ≤ 4294967296; omega) | (dsimp only; omega) | (show (_ : Int) ≤ (_ : Int); omega) | (show _ < List.length _; simp only [List.length_set, List.length_append, List.length_take]; omega) | (show wantB _ _ = true; simp; done) | (show wantB _ _ = true; simp; omega) | (show (_ : Bool) = _; simp_all; done) | (exfalso; omega) | refine aRegion_auto (by decide +kernel) ?_ | fail))
  refine acall_frame [1, 2, 3, 4, 5] (dkA W H ras1.2.2 ras1.2.2 (tl0 W H) [] [] 0) [.ptr 0 0] rfl ?_ ⟨rfl, rfl⟩ rfl (raster_any _ W H ras1.2.2 ras1.2.2 (tl0 W H) [] [] 0 (by decide) _ ?_)
  · (repeat' (first | exact trivial | exact rfl | refine And.intro ?_ ?_))
  (repeat' (first | exact trivial | exact fun h => h | refine And.intro ?_ ?_ | (intro hb; first | (simp at hb; done) | (simp at hb) | skip) | omega | exact rfl | exact Nat.le_refl _ | (show _ + 1 ≤ 4294967296; omega) | (dsimp only; omega) | (show (_ : Int) ≤ (_ : Int); omega) | (show _ < List.length _; simp only [List.length_set, List.length_append, List.length_take]; omega) | (show wantB _ _ = true; simp; done) | (show wantB _ _ = true; simp; omega) | (show (_ : Bool) = _; simp_all; done) | (exfalso; omega) | refine aRegion_auto (by decide +kernel) ?_ | fail))
  refine ⟨.fz .bool true, _, REnt.ren [] rfl ?_ ?_, hK⟩
  · (repeat' (first | exact trivial | exact rfl | refine And.intro ?_ ?_))
  · (repeat' (first | exact trivial | exact rfl | refine And.intro ?_ ?_))
end Go.Proofs.YtiflieijbmaocaaDoor
/-
  Both desks, after edits.
-/
namespace Go.Proofs.YtiflieijbmaocaaDoor
open Go Go.Ab Go.RowKit
set_option maxRecDepth 100000
open Dk
/-- a desk's edits in order, and as they came -/
abbrev Dd := List E × List E
def stp (n : Nat) (s : Dd) (e : E) : Dd := if eerr n s.1 e = 0 ∧ hasE s.1 e = false then (ins s.1 e, s.2 ++ [e]) else s
def runD (n : Nat) (l : List E) : Dd := l.foldl (stp n) ([], [])
structure DOk (n m : Nat) (s : Dd) : Prop where
  srt : Srt s.1
  inn : ∀ x ∈ s.1, 0 ≤ x.1 ∧ x.1 < n
  len : s.1.length ≤ m
  ad : s.2.length ≤ m
theorem DOk.nil (n : Nat) : DOk n 0 ([], []) := ⟨List.Pairwise.nil, (fun _ h => nomatch h), Nat.le_refl _, Nat.le_refl _⟩
theorem eerr_chk0 {n : Nat} {L : List E} {e : E} (h : eerr n L e = 0) : chk n e = 0 := by
  unfold eerr at h
  split at h <;> omega
theorem eerr_in (n : Nat) (L : List E) (e : E) : eerr n L e ≤ 5 := by
  have := chk_in n e
  unfold eerr
  split
  · omega
  · split <;> omega
theorem DOk.step {n m : Nat} {s : Dd} (h : DOk n m s) (e : E) : DOk n (m + 1) (stp n s e) := by
  unfold stp
  split
  · rename_i c
    obtain ⟨c1, c2, _⟩ := chk_ok (eerr_chk0 c.1)
    refine ⟨ins_srt h.srt (fun hm => ?_), fun x hx => ?_, ?_, ?_⟩
    · rw [hasE_iff.2 hm] at c; exact nomatch c.2
    · rcases ins_mem.1 hx with rfl | hx
      · exact ⟨c1, c2⟩
      · exact h.inn x hx
    · show (ins s.1 e).length ≤ m + 1
      rw [ins_len]; have := h.len; omega
    · show (s.2 ++ [e]).length ≤ m + 1
      rw [List.length_append]; have := h.ad; simp; omega
  · exact ⟨h.srt, h.inn, by have := h.len; omega, by have := h.ad; omega⟩
theorem DOk.mono {n m m' : Nat} {s : Dd} (h : DOk n m s) (hm : m ≤ m') : DOk n m' s := ⟨h.srt, h.inn, by have := h.len; omega, by have := h.ad; omega⟩
theorem runD_take (n : Nat) (l : List E) (k : Nat) (hk : k < l.length) : runD n (l.take (k + 1)) = stp n (runD n (l.take k)) l[k] := by
  unfold runD
  rw [List.take_succ_eq_append_getElem hk, List.foldl_append]; rfl
theorem runD_ok (n : Nat) (l : List E) (k : Nat) (hk : k ≤ l.length) : DOk n k (runD n (l.take k)) := by
  induction k with
  | zero => exact DOk.nil n
  | succ k ih => rw [runD_take n l k hk]; exact (ih (by omega)).step _
theorem fade_tl0 (W H c k : Nat) : fadeL W c k (tl0 W H) = tl0 W H := by
  unfold fadeL tl0
  apply List.ext_getElem
  · simp
  · intro i h1 h2
    simp
theorem tlP_tl0 (W H : Nat) (now : List Int) (L : List E) (e : E) : tlP W now (tl0 W H) L e = tl0 W H := by
  unfold tlP; split
  · exact fade_tl0 _ _ _ _
  · rfl
theorem nowP_nw {f : List Int} {L : List E} {e : E} (hs : Srt L) (hi : ∀ x ∈ L, 0 ≤ x.1) (he : 0 ≤ e.1) (hc : e.1 < f.length) : nowP (nw f L) L e = nw f (ins L e) := by
  rw [nw_ins hs hi he]
  unfold nowP lastB
  have hp := pos_le L e
  have hlt : e.1.toNat < (nw f L).length := by rw [nw_len]; omega
  have self : (nw f L).getD e.1.toNat 0 = e.2.1 → (nw f L).set e.1.toNat e.2.1 = nw f L := fun hv => by
    rw [← hv, List.getD_eq_getElem?_getD, List.getElem?_eq_getElem hlt]
    simp
  split
  · rename_i h1
    split
    · rename_i h2
      obtain ⟨hl, hq⟩ := h2
      have ge : (L.getD (pos L e) e) = L[pos L e] := by simp [List.getD, hl]
      have := of_decide_eq_true h1.1
      rw [ge] at this
      rcases this with h | h
      · omega
      · exact absurd hq h
    · rfl
  · rename_i h1
    split
    · rfl
    · rename_i h2
      by_cases hv : (nw f L).getD e.1.toNat 0 = e.2.1
      · exact (self hv).symm
      · refine absurd ⟨decide_eq_true ?_, hv⟩ h1
        by_cases hl : pos L e < L.length
        · have ge : (L.getD (pos L e) e) = L[pos L e] := by simp [List.getD, hl]
          rw [ge]
          exact .inr fun h => h2 ⟨hl, h⟩
        · exact .inl (by omega)
end Go.Proofs.YtiflieijbmaocaaDoor
/-
  Both desks, after edits: the walk.
-/
namespace Go.Proofs.YtiflieijbmaocaaDoor
open Go Go.Ab Go.RowKit
set_option maxRecDepth 100000
open Dk
set_option maxHeartbeats 16000000 in
theorem played_any {E : Errs} (hE : (EL E).Nodup) (a : Ras) (l : List Dk.E) (ha : a.2.2.length ≤ 1000000) (hl : l.length ≤ 60) (K : AV → List AO → Prop)
    (h0 : 0 < rerr a → K (.tup [.fz .raw (.pointer none), .fz .raw (.pointer none), .fz .bool true]) [])
    (h1 : ∀ W H : Nat, rerr a = 0 → a.1 = W → a.2.1 = H → K (.tup [.ptr 0 0, .ptr 5 0, .fz .bool true]) (boA W H a.2.2 (nw a.2.2 (runD a.2.2.length l).1) (tl0 W H) (runD a.2.2.length l).1 (runD a.2.2.length l).2 0 (runD a.2.2.length l).1 (runD a.2.2.length l).2)) :
    ACall Tryd.prog (G8 E) 8 [.fptr RasT a, .fz (.list EdT) l] [] K := by
  refine acall_mk (E := envAt (G8 E) 78 0) (envOk _ _ _) Tryd.func8 rfl rfl rfl rfl rfl ?_
  (repeat' (first | exact trivial | exact fun h => h | refine And.intro ?_ ?_ | (intro hb; first | (simp at hb; done) | (simp at hb) | skip) | omega | exact rfl | exact Nat.le_refl _ | (show _ + 1 ≤ 4294967296; omega) | (dsimp only; omega) | (show (_ : Int) ≤ (_ : Int); omega) | (show _ < List.length _; simp only [List.length_set, List.length_append, List.length_take]; omega) | (show wantB _ _ = true; simp; done) | (show wantB _ _ = true; simp; omega) | (show (_ : Bool) = _; simp_all; done) | (exfalso; omega) | refine aRegion_auto (by decide +kernel) ?_ | fail))
  refine acall_frame0 rfl (new_any E a ha _ (fun hr => ?_) (fun W H hr hW hH => ?_))
  · rw [er_ea E hr]
    (repeat' (first | exact trivial | exact fun h => h | refine And.intro ?_ ?_ | (intro hb; first | (simp at hb; done) | (simp at hb) | skip) | omega | exact rfl | exact Nat.le_refl _ | (show _ + 1 ≤ 4294967296; omega) | (dsimp only; omega) | (show (_ : Int) ≤ (_ : Int); omega) | (show _ < List.length _; simp only [List.length_set, List.length_append, List.length_take]; omega) | (show wantB _ _ = true; simp; done) | (show wantB _ _ = true; simp; omega) | (show (_ : Bool) = _; simp_all; done) | (exfalso; omega) | refine aRegion_auto (by decide +kernel) ?_ | fail))
    refine acall_frame0 rfl (rasterError_any _ a (by omega) _ ?_)
    (repeat' (first | exact trivial | exact fun h => h | refine And.intro ?_ ?_ | (intro hb; first | (simp at hb; done) | (simp at hb) | skip) | omega | exact rfl | exact Nat.le_refl _ | (show _ + 1 ≤ 4294967296; omega) | (dsimp only; omega) | (show (_ : Int) ≤ (_ : Int); omega) | (show _ < List.length _; simp only [List.length_set, List.length_append, List.length_take]; omega) | (show wantB _ _ = true; simp; done) | (show wantB _ _ = true; simp; omega) | (show (_ : Bool) = _; simp_all; done) | (exfalso; omega) | refine aRegion_auto (by decide +kernel) ?_ | fail))
    have hle := rerr_in a
    refine acall_frame0 rfl (acall_arg (coded_mercatorlaw5 hE (e := rerr a) (by omega) (rerr a : Nat) _ ?_) (congrArg (fun z => [AV.fz .raw z, AV.fz int ((rerr a : Nat) : Int)]) (er_ea E hr)))
    rw [decide_eq_true rfl]
    (repeat' (first | exact trivial | exact fun h => h | refine And.intro ?_ ?_ | (intro hb; first | (simp at hb; done) | (simp at hb) | skip) | omega | exact rfl | exact Nat.le_refl _ | (show _ + 1 ≤ 4294967296; omega) | (dsimp only; omega) | (show (_ : Int) ≤ (_ : Int); omega) | (show _ < List.length _; simp only [List.length_set, List.length_append, List.length_take]; omega) | (show wantB _ _ = true; simp; done) | (show wantB _ _ = true; simp; omega) | (show (_ : Bool) = _; simp_all; done) | (exfalso; omega) | refine aRegion_auto (by decide +kernel) ?_ | fail))
    refine ⟨_, _, REnt.drop ⟨rfl, rfl⟩, h0 hr⟩
  · have h1 := h1 W H hr hW hH
    obtain ⟨g1, g2⟩ := rerr_len hr
    obtain ⟨g3, g4, g5, g6, g7⟩ := rerr_ok hr
    (repeat' (first | exact trivial | exact fun h => h | refine And.intro ?_ ?_ | (intro hb; first | (simp at hb; done) | (simp at hb) | skip) | omega | exact rfl | exact Nat.le_refl _ | (show _ + 1 ≤ 4294967296; omega) | (dsimp only; omega) | (show (_ : Int) ≤ (_ : Int); omega) | (show _ < List.length _; simp only [List.length_set, List.length_append, List.length_take]; omega) | (show wantB _ _ = true; simp; done) | (show wantB _ _ = true; simp; omega) | (show (_ : Bool) = _; simp_all; done) | (exfalso; omega) | refine aRegion_auto (by decide +kernel) ?_ | fail))
    refine acall_frame0 rfl (rasterError_any _ a (by omega) _ ?_)
    rw [hr]
    (repeat' (first | exact trivial | exact fun h => h | refine And.intro ?_ ?_ | (intro hb; first | (simp at hb; done) | (simp at hb) | skip) | omega | exact rfl | exact Nat.le_refl _ | (show _ + 1 ≤ 4294967296; omega) | (dsimp only; omega) | (show (_ : Int) ≤ (_ : Int); omega) | (show _ < List.length _; simp only [List.length_set, List.length_append, List.length_take]; omega) | (show wantB _ _ = true; simp; done) | (show wantB _ _ = true; simp; omega) | (show (_ : Bool) = _; simp_all; done) | (exfalso; omega) | refine aRegion_auto (by decide +kernel) ?_ | fail))
    obtain ⟨f, ef⟩ : ∃ f, f = a.2.2 := ⟨_, rfl⟩
    rw [← ef] at h1 g1 g2
    obtain ⟨n, en⟩ : ∃ n, n = f.length := ⟨_, rfl⟩
    have n1 := Ent.nilBox (n0 := 0) (T := [(1, .fz (.list EdT) l), (7, .ptr 0 0), (10, .ptr 5 0), (11, .fz int 0)]) (A := dkA W H f f (tl0 W H) [] [] 0 ++ [.box [.fz int W, .fz int H, .fz LI f, .nilSl, .nilSl]]) 5 3 EdT rfl rfl
    have n2 := n1.trans (Ent.nilBox 5 4 EdT rfl rfl)
    refine ⟨Nat, fun k => ⟨[(1, .fz (.list EdT) l), (7, .ptr 0 0), (10, .ptr 5 0), (11, .fz int k)], boA W H f (nw f (runD n (l.take k)).1) (tl0 W H) (runD n (l.take k)).1 (runD n (l.take k)).2 0 (runD n (l.take k)).1 (runD n (l.take k)).2⟩, fun k => k ≤ l.length, fun k => l.length - k, 0, Nat.zero_le _, ((Ent.sub ?_ ?_).trans n2).trans (Ent.sub rfl ?_), ?_⟩
    · rw [hW, hH, ef]; rfl
    · (repeat' (first | exact trivial | exact rfl | refine And.intro ?_ ?_))
    · (repeat' (first | exact trivial | exact rfl | refine And.intro ?_ ?_))
    intro k hk
    have hk : k ≤ l.length := hk
    have hok := runD_ok n l k hk
    obtain ⟨s, es⟩ : ∃ s, s = runD n (l.take k) := ⟨_, rfl⟩
    rw [← es] at hok
    show awp _ _ _ ⟨[(1, .fz (.list EdT) l), (7, .ptr 0 0), (10, .ptr 5 0), (11, .fz int k)], boA W H f (nw f (runD n (l.take k)).1) (tl0 W H) (runD n (l.take k)).1 (runD n (l.take k)).2 0 (runD n (l.take k)).1 (runD n (l.take k)).2⟩
    rw [← es]
    obtain ⟨L, ad⟩ := s
    obtain ⟨o1, o2, o3, o4⟩ := hok
    have o1 : Srt L := o1
    have o2 : ∀ x ∈ L, 0 ≤ x.1 ∧ x.1 < (n : Int) := o2
    have o3 : L.length ≤ k := o3
    have o4 : ad.length ≤ k := o4
    have hnl := nw_len f L
    have htl : (tl0 W H).length ≤ 64 := by
      have tW : til W ≤ 8 := by unfold til; omega
      have tH : til H ≤ 8 := by unfold til; omega
      have hm : til W * til H ≤ 64 := Nat.mul_le_mul tW tH
      unfold tl0; rw [List.length_replicate]; exact hm
    show awp _ _ _ ⟨[(1, .fz (.list EdT) l), (7, .ptr 0 0), (10, .ptr 5 0), (11, .fz int k)], boA W H f (nw f L) (tl0 W H) L ad 0 L ad⟩
    by_cases hk2 : k < l.length
    · have ge : l.getD (Int.toNat (k : Int)) EdT.dft = l[k] := by simp [List.getD, hk2]
      have hrt := runD_take n l k hk2
      rw [← es] at hrt
      (repeat' (first | exact trivial | exact fun h => h | refine And.intro ?_ ?_ | (intro hb; first | (simp at hb; done) | (simp at hb) | skip) | omega | exact rfl | exact Nat.le_refl _ | (show _ + 1 ≤ 4294967296; omega) | (dsimp only; omega) | (show (_ : Int) ≤ (_ : Int); omega) | (show _ < List.length _; simp only [List.length_set, List.length_append, List.length_take]; omega) | (show wantB _ _ = true; simp; done) | (show wantB _ _ = true; simp; omega) | (show (_ : Bool) = _; simp_all; done) | (exfalso; omega) | refine aRegion_auto (by decide +kernel) ?_ | fail))
      rw [ge]
      refine acall_frame [5, 6, 7] (rfA W H f L ad) [.ptr 0 0, .fz EdT l[k]] rfl ?_ ⟨rfl, rfl⟩ rfl (editError_any _ W H f L ad l[k] (by omega) _ ?_)
      · (repeat' (first | exact trivial | exact rfl | refine And.intro ?_ ?_))
      (repeat' (first | exact trivial | exact fun h => h | refine And.intro ?_ ?_ | (intro hb; first | (simp at hb; done) | (simp at hb) | skip) | omega | exact rfl | exact Nat.le_refl _ | (show _ + 1 ≤ 4294967296; omega) | (dsimp only; omega) | (show (_ : Int) ≤ (_ : Int); omega) | (show _ < List.length _; simp only [List.length_set, List.length_append, List.length_take]; omega) | (show wantB _ _ = true; simp; done) | (show wantB _ _ = true; simp; omega) | (show (_ : Bool) = _; simp_all; done) | (exfalso; omega) | refine aRegion_auto (by decide +kernel) ?_ | fail))
      refine acall_frame0 rfl (acall_arg (edit_any _ l[k] _ ?_) (congrArg (fun z => [AV.fz EdT z]) ge.symm))
      (repeat' (first | exact trivial | exact fun h => h | refine And.intro ?_ ?_ | (intro hb; first | (simp at hb; done) | (simp at hb) | skip) | omega | exact rfl | exact Nat.le_refl _ | (show _ + 1 ≤ 4294967296; omega) | (dsimp only; omega) | (show (_ : Int) ≤ (_ : Int); omega) | (show _ < List.length _; simp only [List.length_set, List.length_append, List.length_take]; omega) | (show wantB _ _ = true; simp; done) | (show wantB _ _ = true; simp; omega) | (show (_ : Bool) = _; simp_all; done) | (exfalso; omega) | refine aRegion_auto (by decide +kernel) ?_ | fail))
      have hin := eerr_in f.length L l[k]
      refine acall_frame [0, 1, 2, 3, 4] (dkA W H f (nw f L) (tl0 W H) L ad 0) [.ptr 0 0, .fz EdT l[k]] rfl ?_ ⟨rfl, rfl⟩ rfl (do_any E W H f (nw f L) (tl0 W H) L ad 0 l[k] (by omega) (by omega) (by omega) (by omega) (by omega) o1 (by omega) (by omega) _ (fun q hq he => ?_) (fun he hh => ?_) (fun he hh => ?_))
      · (repeat' (first | exact trivial | exact rfl | refine And.intro ?_ ?_))
      · rw [hnl] at he
        rw [he]
        rw [he] at hin
        have hst : stp n (L, ad) l[k] = (L, ad) := if_neg fun c => by have c1 := c.1; rw [en] at c1; rw [he] at c1; omega
        rw [hst] at hrt
        have e1 : (runD n (l.take (k + 1))).1 = L := by rw [hrt]
        have e2 : (runD n (l.take (k + 1))).2 = ad := by rw [hrt]
        (repeat' (first | exact trivial | exact fun h => h | refine And.intro ?_ ?_ | (intro hb; first | (simp at hb; done) | (simp at hb) | skip) | omega | exact rfl | exact Nat.le_refl _ | (show _ + 1 ≤ 4294967296; omega) | (dsimp only; omega) | (show (_ : Int) ≤ (_ : Int); omega) | (show _ < List.length _; simp only [List.length_set, List.length_append, List.length_take]; omega) | (show wantB _ _ = true; simp; done) | (show wantB _ _ = true; simp; omega) | (show (_ : Bool) = _; simp_all; done) | (exfalso; omega) | refine aRegion_auto (by decide +kernel) ?_ | fail))
        refine acall_frame0 rfl (coded_mercatorlaw5 hE (e := q) (by omega) (q : Int) _ ?_)
        rw [decide_eq_true rfl]
        (repeat' (first | exact trivial | exact fun h => h | refine And.intro ?_ ?_ | (intro hb; first | (simp at hb; done) | (simp at hb) | skip) | omega | exact rfl | exact Nat.le_refl _ | (show _ + 1 ≤ 4294967296; omega) | (dsimp only; omega) | (show (_ : Int) ≤ (_ : Int); omega) | (show _ < List.length _; simp only [List.length_set, List.length_append, List.length_take]; omega) | (show wantB _ _ = true; simp; done) | (show wantB _ _ = true; simp; omega) | (show (_ : Bool) = _; simp_all; done) | (exfalso; omega) | refine aRegion_auto (by decide +kernel) ?_ | fail))
        refine ⟨k + 1, by show k + 1 ≤ l.length; omega, by show l.length - (k + 1) < l.length - k; omega, ?_⟩
        show Ent _ _ ⟨[(1, .fz (.list EdT) l), (7, .ptr 0 0), (10, .ptr 5 0), (11, .fz int ((k : Int) + 1))], boA W H f (nw f (runD n (l.take (k + 1))).1) (tl0 W H) (runD n (l.take (k + 1))).1 (runD n (l.take (k + 1))).2 0 (runD n (l.take (k + 1))).1 (runD n (l.take (k + 1))).2⟩
        rw [e1, e2]
        refine Ent.ren [0, 1, 2, 3, 4, 5, 6, 7] rfl ?_ ?_
        · (repeat' (first | exact trivial | exact rfl | refine And.intro ?_ ?_))
        · (repeat' (first | exact trivial | exact rfl | refine And.intro ?_ ?_))
      · rw [hnl] at he
        rw [he]
        have hst : stp n (L, ad) l[k] = (L, ad) := if_neg fun c => by have c2 : hasE L l[k] = false := c.2; rw [hh] at c2; cases c2
        rw [hst] at hrt
        have e1 : (runD n (l.take (k + 1))).1 = L := by rw [hrt]
        have e2 : (runD n (l.take (k + 1))).2 = ad := by rw [hrt]
        (repeat' (first | exact trivial | exact fun h => h | refine And.intro ?_ ?_ | (intro hb; first | (simp at hb; done) | (simp at hb) | skip) | omega | exact rfl | exact Nat.le_refl _ | (show _ + 1 ≤ 4294967296; omega) | (dsimp only; omega) | (show (_ : Int) ≤ (_ : Int); omega) | (show _ < List.length _; simp only [List.length_set, List.length_append, List.length_take]; omega) | (show wantB _ _ = true; simp; done) | (show wantB _ _ = true; simp; omega) | (show (_ : Bool) = _; simp_all; done) | (exfalso; omega) | refine aRegion_auto (by decide +kernel) ?_ | fail))
        refine acall_frame0 rfl (coded_mercatorlaw5 hE (e := 0) (by omega) ((0 : Nat) : Int) _ ?_)
        rw [decide_eq_true rfl]
        (repeat' (first | exact trivial | exact fun h => h | refine And.intro ?_ ?_ | (intro hb; first | (simp at hb; done) | (simp at hb) | skip) | omega | exact rfl | exact Nat.le_refl _ | (show _ + 1 ≤ 4294967296; omega) | (dsimp only; omega) | (show (_ : Int) ≤ (_ : Int); omega) | (show _ < List.length _; simp only [List.length_set, List.length_append, List.length_take]; omega) | (show wantB _ _ = true; simp; done) | (show wantB _ _ = true; simp; omega) | (show (_ : Bool) = _; simp_all; done) | (exfalso; omega) | refine aRegion_auto (by decide +kernel) ?_ | fail))
        refine acall_frame [5, 6, 7] (rfA W H f L ad) [.ptr 0 0, .fz EdT l[k]] rfl ?_ ⟨rfl, rfl⟩ ?_ (rput_any _ W H f L ad l[k] (by omega) (by omega) o1 _ (fun _ => ?_) (fun c => ?_))
        · (repeat' (first | exact trivial | exact rfl | refine And.intro ?_ ?_))
        · exact congrArg (fun z => [AV.ptr 5 0, AV.fz EdT z]) ge
        rotate_left
        · rw [hh] at c; cases c
        (repeat' (first | exact trivial | exact fun h => h | refine And.intro ?_ ?_ | (intro hb; first | (simp at hb; done) | (simp at hb) | skip) | omega | exact rfl | exact Nat.le_refl _ | (show _ + 1 ≤ 4294967296; omega) | (dsimp only; omega) | (show (_ : Int) ≤ (_ : Int); omega) | (show _ < List.length _; simp only [List.length_set, List.length_append, List.length_take]; omega) | (show wantB _ _ = true; simp; done) | (show wantB _ _ = true; simp; omega) | (show (_ : Bool) = _; simp_all; done) | (exfalso; omega) | refine aRegion_auto (by decide +kernel) ?_ | fail))
        refine ⟨k + 1, by show k + 1 ≤ l.length; omega, by show l.length - (k + 1) < l.length - k; omega, ?_⟩
        show Ent _ _ ⟨[(1, .fz (.list EdT) l), (7, .ptr 0 0), (10, .ptr 5 0), (11, .fz int ((k : Int) + 1))], boA W H f (nw f (runD n (l.take (k + 1))).1) (tl0 W H) (runD n (l.take (k + 1))).1 (runD n (l.take (k + 1))).2 0 (runD n (l.take (k + 1))).1 (runD n (l.take (k + 1))).2⟩
        rw [e1, e2]
        refine Ent.ren [0, 1, 2, 3, 4, 5, 6, 7] rfl ?_ ?_
        · (repeat' (first | exact trivial | exact rfl | refine And.intro ?_ ?_))
        · (repeat' (first | exact trivial | exact rfl | refine And.intro ?_ ?_))
      · rw [hnl] at he
        rw [he]
        have hst : stp n (L, ad) l[k] = (ins L l[k], ad ++ [l[k]]) := if_pos ⟨by rw [en]; exact he, hh⟩
        rw [hst] at hrt
        have e1 : (runD n (l.take (k + 1))).1 = ins L l[k] := by rw [hrt]
        have e2 : (runD n (l.take (k + 1))).2 = ad ++ [l[k]] := by rw [hrt]
        obtain ⟨c1, c2, _⟩ := chk_ok (eerr_chk0 he)
        rw [nowP_nw o1 (fun x hx => (o2 x hx).1) c1 c2, tlP_tl0]
        (repeat' (first | exact trivial | exact fun h => h | refine And.intro ?_ ?_ | (intro hb; first | (simp at hb; done) | (simp at hb) | skip) | omega | exact rfl | exact Nat.le_refl _ | (show _ + 1 ≤ 4294967296; omega) | (dsimp only; omega) | (show (_ : Int) ≤ (_ : Int); omega) | (show _ < List.length _; simp only [List.length_set, List.length_append, List.length_take]; omega) | (show wantB _ _ = true; simp; done) | (show wantB _ _ = true; simp; omega) | (show (_ : Bool) = _; simp_all; done) | (exfalso; omega) | refine aRegion_auto (by decide +kernel) ?_ | fail))
        refine acall_frame0 rfl (coded_mercatorlaw5 hE (e := 0) (by omega) ((0 : Nat) : Int) _ ?_)
        rw [decide_eq_true rfl]
        (repeat' (first | exact trivial | exact fun h => h | refine And.intro ?_ ?_ | (intro hb; first | (simp at hb; done) | (simp at hb) | skip) | omega | exact rfl | exact Nat.le_refl _ | (show _ + 1 ≤ 4294967296; omega) | (dsimp only; omega) | (show (_ : Int) ≤ (_ : Int); omega) | (show _ < List.length _; simp only [List.length_set, List.length_append, List.length_take]; omega) | (show wantB _ _ = true; simp; done) | (show wantB _ _ = true; simp; omega) | (show (_ : Bool) = _; simp_all; done) | (exfalso; omega) | refine aRegion_auto (by decide +kernel) ?_ | fail))
        refine acall_frame [5, 6, 7] (rfA W H f L ad) [.ptr 0 0, .fz EdT l[k]] rfl ?_ ⟨rfl, rfl⟩ ?_ (rput_any _ W H f L ad l[k] (by omega) (by omega) o1 _ (fun c => ?_) (fun _ => ?_))
        · (repeat' (first | exact trivial | exact rfl | refine And.intro ?_ ?_))
        · exact congrArg (fun z => [AV.ptr 5 0, AV.fz EdT z]) ge
        · rw [hh] at c; cases c
        (repeat' (first | exact trivial | exact fun h => h | refine And.intro ?_ ?_ | (intro hb; first | (simp at hb; done) | (simp at hb) | skip) | omega | exact rfl | exact Nat.le_refl _ | (show _ + 1 ≤ 4294967296; omega) | (dsimp only; omega) | (show (_ : Int) ≤ (_ : Int); omega) | (show _ < List.length _; simp only [List.length_set, List.length_append, List.length_take]; omega) | (show wantB _ _ = true; simp; done) | (show wantB _ _ = true; simp; omega) | (show (_ : Bool) = _; simp_all; done) | (exfalso; omega) | refine aRegion_auto (by decide +kernel) ?_ | fail))
        refine ⟨k + 1, by show k + 1 ≤ l.length; omega, by show l.length - (k + 1) < l.length - k; omega, ?_⟩
        show Ent _ _ ⟨[(1, .fz (.list EdT) l), (7, .ptr 0 0), (10, .ptr 5 0), (11, .fz int ((k : Int) + 1))], boA W H f (nw f (runD n (l.take (k + 1))).1) (tl0 W H) (runD n (l.take (k + 1))).1 (runD n (l.take (k + 1))).2 0 (runD n (l.take (k + 1))).1 (runD n (l.take (k + 1))).2⟩
        rw [e1, e2]
        refine Ent.ren [0, 1, 2, 8, 9, 5, 10, 11] rfl ?_ ?_
        · (repeat' (first | exact trivial | exact rfl | refine And.intro ?_ ?_))
        · (repeat' (first | exact trivial | exact rfl | refine And.intro ?_ ?_))
    · have hk3 : k = l.length := by omega
      subst hk3
      rw [List.take_length] at es
      rw [← en, ← es] at h1
      (repeat' (first | exact trivial | exact fun h => h | refine And.intro ?_ ?_ | (intro hb; first | (simp at hb; done) | (simp at hb) | skip) | omega | exact rfl | exact Nat.le_refl _ | (show _ + 1 ≤ 4294967296; omega) | (dsimp only; omega) | (show (_ : Int) ≤ (_ : Int); omega) | (show _ < List.length _; simp only [List.length_set, List.length_append, List.length_take]; omega) | (show wantB _ _ = true; simp; done) | (show wantB _ _ = true; simp; omega) | (show (_ : Bool) = _; simp_all; done) | (exfalso; omega) | refine aRegion_auto (by decide +kernel) ?_ | fail))
      refine acall_frame [0, 5, 6, 7, 1, 2, 3, 4] (bo2 W H f (nw f L) (tl0 W H) L ad 0 L ad) [.ptr 0 0, .ptr 1 0] rfl ?_ ⟨rfl, rfl⟩ rfl (is_any _ W H f (tl0 W H) L ad 0 ad (by omega) (by omega) (fun x hx => by have := o2 x hx; omega) _ ?_)
      · (repeat' (first | exact trivial | exact rfl | refine And.intro ?_ ?_))
      (repeat' (first | exact trivial | exact fun h => h | refine And.intro ?_ ?_ | (intro hb; first | (simp at hb; done) | (simp at hb) | skip) | omega | exact rfl | exact Nat.le_refl _ | (show _ + 1 ≤ 4294967296; omega) | (dsimp only; omega) | (show (_ : Int) ≤ (_ : Int); omega) | (show _ < List.length _; simp only [List.length_set, List.length_append, List.length_take]; omega) | (show wantB _ _ = true; simp; done) | (show wantB _ _ = true; simp; omega) | (show (_ : Bool) = _; simp_all; done) | (exfalso; omega) | refine aRegion_auto (by decide +kernel) ?_ | fail))
      refine ⟨_, _, REnt.ren [0, 1, 2, 3, 4, 5, 6, 7] rfl ?_ ?_, h1⟩
      · (repeat' (first | exact trivial | exact rfl | refine And.intro ?_ ?_))
      · (repeat' (first | exact trivial | exact rfl | refine And.intro ?_ ?_))
end Go.Proofs.YtiflieijbmaocaaDoor
/-
  Logs, plainly; a number's bytes.
-/
namespace Go.Proofs.YtiflieijbmaocaaDoor
open Go Go.Ab Go.RowKit
set_option maxRecDepth 100000
open Dk
abbrev U8 : Ty := .int .u8
abbrev LB : Ty := .list U8
namespace Dk
def u64 (n : Int) : Int := IntKind.u64.wrap n
theorem u64_eq (n : Int) : u64 n = n % 18446744073709551616 := by
  unfold u64 IntKind.wrap; simp [IntKind.bits, IntKind.signed]
theorem u8_eq (n : Int) : IntKind.u8.wrap n = n % 256 := by
  unfold IntKind.wrap; simp [IntKind.bits, IntKind.signed]
def le8 (x : Int) (k : Nat) : List Int := (List.range k).map fun i => (x / 256 ^ i) % 256
theorem le8_len (x : Int) (k : Nat) : (le8 x k).length = k := by simp [le8]
theorem le8_next (x : Int) (k : Nat) : le8 x (k + 1) = le8 x k ++ [(x / 256 ^ k) % 256] := by simp [le8, List.range_succ]
def lenB (b : ByteArray) : Int := (b.size : Int) % 256
/-- an edit's bytes -/
def edB (e : E) : List Int := le8 (u64 e.1) 8 ++ le8 (u64 e.2.1) 8 ++ le8 (u64 e.2.2.1) 8 ++ [lenB e.2.2.2] ++ bytesI e.2.2.2
def sumB (s : Int) (b : List Int) : Int := b.foldl (fun s c => (s * 31 + c + 7) % 256) s
def lgS (t : List Int × Int) (e : E) : List Int × Int := (t.1 ++ edB e ++ [sumB t.2 (edB e)], sumB t.2 (edB e))
def lgL (l : List E) : List Int × Int := l.foldl lgS ([], 0)
def byt (l : List Int) : Prop := ∀ c ∈ l, 0 ≤ c ∧ c < 256
theorem byt_le8 (x : Int) (k : Nat) : byt (le8 x k) := by
  intro c hc
  obtain ⟨i, _, rfl⟩ := List.mem_map.1 hc
  omega
theorem byt_app {l m : List Int} (h : byt l) (h' : byt m) : byt (l ++ m) := by
  intro c hc
  rcases List.mem_append.1 hc with hc | hc
  · exact h c hc
  · exact h' c hc
theorem byt_bytes (b : ByteArray) : byt (bytesI b) := by
  intro c hc
  unfold bytesI at hc
  obtain ⟨i, _, rfl⟩ := List.mem_map.1 hc
  have := UInt8.toNat_lt i
  omega
theorem byt_edB (e : E) : byt (edB e) := by
  unfold edB
  refine byt_app (byt_app (byt_app (byt_app (byt_le8 _ _) (byt_le8 _ _)) (byt_le8 _ _)) ?_) (byt_bytes _)
  intro c hc
  rw [List.mem_singleton] at hc
  rw [hc]; unfold lenB; omega
theorem bytesI_len (b : ByteArray) : (bytesI b).length = b.size := by simp [bytesI]
theorem edB_len (e : E) : (edB e).length = 25 + e.2.2.2.size := by
  unfold edB
  simp only [List.length_append, le8_len, bytesI_len, List.length_singleton]
theorem sumB_in {s : Int} {b : List Int} (h : 0 ≤ s ∧ s < 256) : 0 ≤ sumB s b ∧ sumB s b < 256 := by
  unfold sumB
  induction b generalizing s with
  | nil => exact h
  | cons c b ih => rw [List.foldl_cons]; exact ih (by omega)
theorem sumB_next (s : Int) (b : List Int) (k : Nat) (hk : k < b.length) : sumB s (b.take (k + 1)) = (sumB s (b.take k) * 31 + b[k] + 7) % 256 := by
  unfold sumB
  rw [List.take_succ_eq_append_getElem hk, List.foldl_append]; rfl
theorem lgL_next (l : List E) (k : Nat) (hk : k < l.length) : lgL (l.take (k + 1)) = lgS (lgL (l.take k)) l[k] := by
  unfold lgL
  rw [List.take_succ_eq_append_getElem hk, List.foldl_append]; rfl
theorem lgS_in {t : List Int × Int} (e : E) (h : 0 ≤ t.2 ∧ t.2 < 256) : 0 ≤ (lgS t e).2 ∧ (lgS t e).2 < 256 := by
  unfold lgS
  generalize edB e = b
  dsimp only
  exact sumB_in h
theorem lgF_in : ∀ (l : List E) (t : List Int × Int), 0 ≤ t.2 ∧ t.2 < 256 → 0 ≤ (l.foldl lgS t).2 ∧ (l.foldl lgS t).2 < 256
  | [], _, h => h
  | e :: l, t, h => by
    rw [List.foldl_cons]
    have h2 := lgS_in e h
    revert h2
    generalize lgS t e = u
    exact lgF_in l u
theorem lgL_in (l : List E) : 0 ≤ (lgL l).2 ∧ (lgL l).2 < 256 := lgF_in l ([], 0) ⟨Int.le_refl _, (by decide : (0 : Int) < 256)⟩
theorem shr8 (x : Int) (k : Nat) (hk : k < 8) : IntKind.u8.wrap (Int.fdiv x (2 ^ (min (Int.toNat (8 * (k : Int))) IntKind.u64.bits))) = (x / 256 ^ k) % 256 := by
  have e1 : Int.toNat (8 * (k : Int)) = 8 * k := by omega
  have e2 : min (8 * k) IntKind.u64.bits = 8 * k := by
    show min (8 * k) 64 = 8 * k
    omega
  have e3 : (2 : Int) ^ (8 * k) = 256 ^ k := by rw [Int.pow_mul]; rfl
  rw [e1, e2, e3, u8_eq, Int.fdiv_eq_ediv_of_nonneg _ (Int.pow_nonneg (by decide))]
end Dk
/-- a slice at its start, by a new name -/
theorem _root_.Go.Ab.Ent.mv {n0 : Nat} {T : List (Nat × AV)} {A : List AO} (d tok len : Nat) (e : Ty) (xs : List e.den) (h0 : A[tok]? = some (.row e xs)) (hd : lk T d = .ref tok 0 len) : Ent n0 ⟨T, A⟩ ⟨(d, .ref A.length 0 len) :: T, A.set tok .dead ++ [.row e xs]⟩ := fun c H hA hn tmps ht => by
  have hA : c.A = A := hA
  subst hA
  have hlive : c.live tok := ⟨_, h0, rfl⟩
  have E1 := ext_mv (c := c) (o := .row e xs) hlive
  refine ⟨c.mv tok (.row e xs), rfl, E1.toN' hn, hr_mv H hlive (H.obj tok _ h0), rfl, fun n => ?_⟩
  have hr := ht d
  rw [hd] at hr
  show Rel _ (lk ((d, .ref c.A.length 0 len) :: T) n) _
  unfold lk
  by_cases hn' : d = n
  · rw [if_pos hn', ← hn']
    unfold Rel at hr ⊢
    rw [h0] at hr
    rw [mv_new]
    rcases hr with ⟨b, cap, cs, et, a, k1, k2⟩ | ⟨k1, k2⟩
    · exact .inl ⟨b, cap, cs, et, a, mv_ρn.trans k1, k2⟩
    · exact .inr ⟨mv_ρn.trans k1, k2⟩
  · rw [if_neg hn']
    exact (ht n).ext E1
theorem put8_nil (G : List (Nat × Value)) (n : Int) (K : AV → List AO → Prop) (hK : K (.ref 0 0 8) [.row U8 (le8 (u64 n) 8)]) :
    ACall Tryd.prog G 24 [.nilSl, .fz int n] [] K := by
  refine acall_mk (E := envAt G 20 0) (envOk _ _ _) Tryd.func24 rfl rfl rfl rfl rfl ?_
  (repeat' (first | exact trivial | exact fun h => h | refine And.intro ?_ ?_ | (intro hb; first | (simp at hb; done) | (simp at hb) | skip) | omega | exact rfl | exact Nat.le_refl _ | (show _ + 1 ≤ 4294967296; omega) | (dsimp only; omega) | (show (_ : Int) ≤ (_ : Int); omega) | (show _ < List.length _; simp only [List.length_set, List.length_append, List.length_take]; omega) | (show wantB _ _ = true; simp; done) | (show wantB _ _ = true; simp; omega) | (show (_ : Bool) = _; simp_all; done) | (exfalso; omega) | refine aRegion_auto (by decide +kernel) ?_ | fail))
  refine ⟨Nat, fun k => ⟨[(0, .ref 0 0 k), (1, .fz int n), (6, .fz int k)], [.row U8 (le8 (u64 n) k)]⟩, fun k => k ≤ 8, fun k => 8 - k, 0, Nat.zero_le _, (Ent.nil 0 U8 rfl).trans (Ent.sub rfl ?_), ?_⟩
  · (repeat' (first | exact trivial | exact rfl | refine And.intro ?_ ?_))
  intro k hk
  have hk : k ≤ 8 := hk
  have hl := le8_len (u64 n) k
  show awp _ _ _ ⟨[(0, .ref 0 0 k), (1, .fz int n), (6, .fz int k)], [.row U8 (le8 (u64 n) k)]⟩
  by_cases hk2 : k < 8
  · have hs := shr8 (u64 n) k hk2
    (repeat' (first | exact trivial | exact fun h => h | refine And.intro ?_ ?_ | (intro hb; first | (simp at hb; done) | (simp at hb) | skip) | omega | exact rfl | exact Nat.le_refl _ | (show _ + 1 ≤ 4294967296; omega) | (dsimp only; omega) | (show (_ : Int) ≤ (_ : Int); omega) | (show _ < List.length _; simp only [List.length_set, List.length_append, List.length_take]; omega) | (show wantB _ _ = true; simp; done) | (show wantB _ _ = true; simp; omega) | (show (_ : Bool) = _; simp_all; done) | (exfalso; omega) | refine aRegion_auto (by decide +kernel) ?_ | fail))
    refine ⟨k + 1, by show k + 1 ≤ 8; omega, by show 8 - (k + 1) < 8 - k; omega, Ent.ren [2] rfl ?_ ?_⟩
    · (repeat' (first | exact trivial | exact rfl | refine And.intro ?_ ?_))
      refine congrArg (fun z => some (AO.row U8 z)) (?_ : List.take k (le8 (u64 n) k) ++ [IntKind.u8.wrap (Int.fdiv (u64 n) (2 ^ (min (Int.toNat (8 * (k : Int))) IntKind.u64.bits)))] = le8 (u64 n) (k + 1))
      rw [le8_next, List.take_of_length_le (by omega), hs]
    · (repeat' (first | exact trivial | exact rfl | refine And.intro ?_ ?_))
  · have hk3 : k = 8 := by omega
    subst hk3
    (repeat' (first | exact trivial | exact fun h => h | refine And.intro ?_ ?_ | (intro hb; first | (simp at hb; done) | (simp at hb) | skip) | omega | exact rfl | exact Nat.le_refl _ | (show _ + 1 ≤ 4294967296; omega) | (dsimp only; omega) | (show (_ : Int) ≤ (_ : Int); omega) | (show _ < List.length _; simp only [List.length_set, List.length_append, List.length_take]; omega) | (show wantB _ _ = true; simp; done) | (show wantB _ _ = true; simp; omega) | (show (_ : Bool) = _; simp_all; done) | (exfalso; omega) | refine aRegion_auto (by decide +kernel) ?_ | fail))
    exact ⟨_, _, REnt.refl _ _ _, hK⟩
theorem put8_ref (G : List (Nat × Value)) (bs : List Int) (m : Nat) (hm : bs.length = m) (hb : m ≤ 1000000) (n : Int) (K : AV → List AO → Prop) (hK : K (.ref 1 0 (m + 8)) [.dead, .row U8 (bs ++ le8 (u64 n) 8)]) :
    ACall Tryd.prog G 24 [.ref 0 0 m, .fz int n] [.row U8 bs] K := by
  refine acall_mk (E := envAt G 20 1) (envOk _ _ _) Tryd.func24 rfl rfl rfl rfl rfl ?_
  (repeat' (first | exact trivial | exact fun h => h | refine And.intro ?_ ?_ | (intro hb; first | (simp at hb; done) | (simp at hb) | skip) | omega | exact rfl | exact Nat.le_refl _ | (show _ + 1 ≤ 4294967296; omega) | (dsimp only; omega) | (show (_ : Int) ≤ (_ : Int); omega) | (show _ < List.length _; simp only [List.length_set, List.length_append, List.length_take]; omega) | (show wantB _ _ = true; simp; done) | (show wantB _ _ = true; simp; omega) | (show (_ : Bool) = _; simp_all; done) | (exfalso; omega) | refine aRegion_auto (by decide +kernel) ?_ | fail))
  refine ⟨Nat, fun k => ⟨[(0, .ref 1 0 (m + k)), (1, .fz int n), (6, .fz int k)], [.dead, .row U8 (bs ++ le8 (u64 n) k)]⟩, fun k => k ≤ 8, fun k => 8 - k, 0, Nat.zero_le _, (Ent.mv 0 0 m U8 bs rfl rfl).trans (Ent.sub (by rw [show le8 (u64 n) 0 = [] from rfl, List.append_nil]; rfl) ?_), ?_⟩
  · (repeat' (first | exact trivial | exact rfl | refine And.intro ?_ ?_))
  intro k hk
  have hk : k ≤ 8 := hk
  have hl := le8_len (u64 n) k
  have hl2 : (bs ++ le8 (u64 n) k).length = m + k := by rw [List.length_append, hl, hm]
  show awp _ _ _ ⟨[(0, .ref 1 0 (m + k)), (1, .fz int n), (6, .fz int k)], [.dead, .row U8 (bs ++ le8 (u64 n) k)]⟩
  by_cases hk2 : k < 8
  · have hs := shr8 (u64 n) k hk2
    (repeat' (first | exact trivial | exact fun h => h | refine And.intro ?_ ?_ | (intro hb; first | (simp at hb; done) | (simp at hb) | skip) | omega | exact rfl | exact Nat.le_refl _ | (show _ + 1 ≤ 4294967296; omega) | (dsimp only; omega) | (show (_ : Int) ≤ (_ : Int); omega) | (show _ < List.length _; simp only [List.length_set, List.length_append, List.length_take]; omega) | (show wantB _ _ = true; simp; done) | (show wantB _ _ = true; simp; omega) | (show (_ : Bool) = _; simp_all; done) | (exfalso; omega) | refine aRegion_auto (by decide +kernel) ?_ | fail))
    refine ⟨k + 1, by show k + 1 ≤ 8; omega, by show 8 - (k + 1) < 8 - k; omega, Ent.ren [0, 3] rfl ?_ ?_⟩
    · (repeat' (first | exact trivial | exact rfl | refine And.intro ?_ ?_))
      refine congrArg (fun z => some (AO.row U8 z)) (?_ : List.take (m + k) (bs ++ le8 (u64 n) k) ++ [IntKind.u8.wrap (Int.fdiv (u64 n) (2 ^ (min (Int.toNat (8 * (k : Int))) IntKind.u64.bits)))] = bs ++ le8 (u64 n) (k + 1))
      rw [le8_next, List.take_of_length_le (by omega), hs, List.append_assoc]
    · (repeat' (first | exact trivial | exact rfl | refine And.intro ?_ ?_))
  · have hk3 : k = 8 := by omega
    subst hk3
    (repeat' (first | exact trivial | exact fun h => h | refine And.intro ?_ ?_ | (intro hb; first | (simp at hb; done) | (simp at hb) | skip) | omega | exact rfl | exact Nat.le_refl _ | (show _ + 1 ≤ 4294967296; omega) | (dsimp only; omega) | (show (_ : Int) ≤ (_ : Int); omega) | (show _ < List.length _; simp only [List.length_set, List.length_append, List.length_take]; omega) | (show wantB _ _ = true; simp; done) | (show wantB _ _ = true; simp; omega) | (show (_ : Bool) = _; simp_all; done) | (exfalso; omega) | refine aRegion_auto (by decide +kernel) ?_ | fail))
    exact ⟨_, _, REnt.refl _ _ _, hK⟩
end Go.Proofs.YtiflieijbmaocaaDoor
/-
  Logs: the walks.
-/
namespace Go.Proofs.YtiflieijbmaocaaDoor
open Go Go.Ab Go.RowKit
set_option maxRecDepth 100000
open Dk
theorem u64_in (n : Int) : 0 ≤ u64 n ∧ u64 n < 18446744073709551616 := by rw [u64_eq]; omega
theorem pow_pos' (k : Nat) : (0 : Int) < 256 ^ k := Int.pow_pos (by decide)
theorem sh_in {x : Int} (hx : 0 ≤ x ∧ x < 18446744073709551616) (k : Nat) : 0 ≤ x / 256 ^ k ∧ x / 256 ^ k < 18446744073709551616 :=
  ⟨Int.ediv_nonneg hx.1 (Int.le_of_lt (pow_pos' k)), Int.lt_of_le_of_lt (Int.ediv_le_self _ hx.1) hx.2⟩
theorem ei1 {x : Int} (hx : 0 ≤ x ∧ x < 18446744073709551616) (k : Nat) : IntKind.u8.wrap (Int.tmod (x / 256 ^ k) 256) = (x / 256 ^ k) % 256 := by
  rw [u8_eq, Int.tmod_eq_emod_of_nonneg (sh_in hx k).1]; omega
theorem ei2 {x : Int} (hx : 0 ≤ x ∧ x < 18446744073709551616) (k : Nat) : IntKind.u64.wrap (Int.tdiv (x / 256 ^ k) 256) = x / 256 ^ (k + 1) := by
  have h := sh_in hx k
  have e : Int.tdiv (x / 256 ^ k) 256 = (x / 256 ^ k) / 256 := Int.tdiv_eq_ediv_of_nonneg h.1
  rw [e, show IntKind.u64.wrap ((x / 256 ^ k) / 256) = u64 ((x / 256 ^ k) / 256) from rfl, u64_eq, Int.emod_eq_of_lt (by omega) (by omega), Int.pow_succ, Int.ediv_ediv_of_nonneg (Int.le_of_lt (pow_pos' k))]
theorem eight_nil (G : List (Nat × Value)) (x : Int) (hx : 0 ≤ x ∧ x < 18446744073709551616) (K : AV → List AO → Prop) (hK : K (.ref 0 0 8) [.row U8 (le8 x 8)]) :
    ACall Tryd.prog G 26 [.nilSl, .fz (.int .u64) x] [] K := by
  refine acall_mk (E := envAt G 19 0) (envOk _ _ _) Tryd.func26 rfl rfl rfl rfl rfl ?_
  (repeat' (first | exact trivial | exact fun h => h | refine And.intro ?_ ?_ | (intro hb; first | (simp at hb; done) | (simp at hb) | skip) | omega | exact rfl | exact Nat.le_refl _ | (show _ + 1 ≤ 4294967296; omega) | (dsimp only; omega) | (show (_ : Int) ≤ (_ : Int); omega) | (show _ < List.length _; simp only [List.length_set, List.length_append, List.length_take]; omega) | (show wantB _ _ = true; simp; done) | (show wantB _ _ = true; simp; omega) | (show (_ : Bool) = _; simp_all; done) | (exfalso; omega) | refine aRegion_auto (by decide +kernel) ?_ | fail))
  refine ⟨Nat, fun k => ⟨[(0, .ref 0 0 k), (1, .fz (.int .u64) (x / 256 ^ k)), (5, .fz int k)], [.row U8 (le8 x k)]⟩, fun k => k ≤ 8, fun k => 8 - k, 0, Nat.zero_le _, (Ent.nil 0 U8 rfl).trans (Ent.sub rfl ?_), ?_⟩
  · (repeat' (first | exact trivial | exact rfl | refine And.intro ?_ ?_))
    exact congrArg (AV.fz (.int .u64)) (show x = x / 256 ^ 0 by simp)
  intro k hk
  have hk : k ≤ 8 := hk
  have hl := le8_len x k
  show awp _ _ _ ⟨[(0, .ref 0 0 k), (1, .fz (.int .u64) (x / 256 ^ k)), (5, .fz int k)], [.row U8 (le8 x k)]⟩
  by_cases hk2 : k < 8
  · have h1 := ei1 hx k
    have h2 := ei2 hx k
    have h3 := (sh_in hx k).1
    (repeat' (first | exact trivial | exact fun h => h | refine And.intro ?_ ?_ | (intro hb; first | (simp at hb; done) | (simp at hb) | skip) | omega | exact rfl | exact Nat.le_refl _ | (show _ + 1 ≤ 4294967296; omega) | (dsimp only; omega) | (show (_ : Int) ≤ (_ : Int); omega) | (show _ < List.length _; simp only [List.length_set, List.length_append, List.length_take]; omega) | (show wantB _ _ = true; simp; done) | (show wantB _ _ = true; simp; omega) | (show (_ : Bool) = _; simp_all; done) | (exfalso; omega) | refine aRegion_auto (by decide +kernel) ?_ | fail))
    refine ⟨k + 1, by show k + 1 ≤ 8; omega, by show 8 - (k + 1) < 8 - k; omega, Ent.ren [2] rfl ?_ ?_⟩
    · (repeat' (first | exact trivial | exact rfl | refine And.intro ?_ ?_))
      refine congrArg (fun z => some (AO.row U8 z)) (?_ : List.take k (le8 x k) ++ [IntKind.u8.wrap (Int.tmod (x / 256 ^ k) 256)] = le8 x (k + 1))
      rw [le8_next, List.take_of_length_le (by omega), h1]
    · (repeat' (first | exact trivial | exact rfl | refine And.intro ?_ ?_))
      exact congrArg (AV.fz (.int .u64)) h2
  · have hk3 : k = 8 := by omega
    subst hk3
    (repeat' (first | exact trivial | exact fun h => h | refine And.intro ?_ ?_ | (intro hb; first | (simp at hb; done) | (simp at hb) | skip) | omega | exact rfl | exact Nat.le_refl _ | (show _ + 1 ≤ 4294967296; omega) | (dsimp only; omega) | (show (_ : Int) ≤ (_ : Int); omega) | (show _ < List.length _; simp only [List.length_set, List.length_append, List.length_take]; omega) | (show wantB _ _ = true; simp; done) | (show wantB _ _ = true; simp; omega) | (show (_ : Bool) = _; simp_all; done) | (exfalso; omega) | refine aRegion_auto (by decide +kernel) ?_ | fail))
    exact ⟨_, _, REnt.refl _ _ _, hK⟩
theorem eight_ref (G : List (Nat × Value)) (bs : List Int) (m : Nat) (hm : bs.length = m) (hb : m ≤ 1000000) (x : Int) (hx : 0 ≤ x ∧ x < 18446744073709551616) (K : AV → List AO → Prop) (hK : K (.ref 1 0 (m + 8)) [.dead, .row U8 (bs ++ le8 x 8)]) :
    ACall Tryd.prog G 26 [.ref 0 0 m, .fz (.int .u64) x] [.row U8 bs] K := by
  refine acall_mk (E := envAt G 19 1) (envOk _ _ _) Tryd.func26 rfl rfl rfl rfl rfl ?_
  (repeat' (first | exact trivial | exact fun h => h | refine And.intro ?_ ?_ | (intro hb; first | (simp at hb; done) | (simp at hb) | skip) | omega | exact rfl | exact Nat.le_refl _ | (show _ + 1 ≤ 4294967296; omega) | (dsimp only; omega) | (show (_ : Int) ≤ (_ : Int); omega) | (show _ < List.length _; simp only [List.length_set, List.length_append, List.length_take]; omega) | (show wantB _ _ = true; simp; done) | (show wantB _ _ = true; simp; omega) | (show (_ : Bool) = _; simp_all; done) | (exfalso; omega) | refine aRegion_auto (by decide +kernel) ?_ | fail))
  refine ⟨Nat, fun k => ⟨[(0, .ref 1 0 (m + k)), (1, .fz (.int .u64) (x / 256 ^ k)), (5, .fz int k)], [.dead, .row U8 (bs ++ le8 x k)]⟩, fun k => k ≤ 8, fun k => 8 - k, 0, Nat.zero_le _, (Ent.mv 0 0 m U8 bs rfl rfl).trans (Ent.sub (by rw [show le8 x 0 = [] from rfl, List.append_nil]; rfl) ?_), ?_⟩
  · (repeat' (first | exact trivial | exact rfl | refine And.intro ?_ ?_))
    exact congrArg (AV.fz (.int .u64)) (show x = x / 256 ^ 0 by simp)
  intro k hk
  have hk : k ≤ 8 := hk
  have hl := le8_len x k
  have hl2 : (bs ++ le8 x k).length = m + k := by rw [List.length_append, hl, hm]
  show awp _ _ _ ⟨[(0, .ref 1 0 (m + k)), (1, .fz (.int .u64) (x / 256 ^ k)), (5, .fz int k)], [.dead, .row U8 (bs ++ le8 x k)]⟩
  by_cases hk2 : k < 8
  · have h1 := ei1 hx k
    have h2 := ei2 hx k
    have h3 := (sh_in hx k).1
    (repeat' (first | exact trivial | exact fun h => h | refine And.intro ?_ ?_ | (intro hb; first | (simp at hb; done) | (simp at hb) | skip) | omega | exact rfl | exact Nat.le_refl _ | (show _ + 1 ≤ 4294967296; omega) | (dsimp only; omega) | (show (_ : Int) ≤ (_ : Int); omega) | (show _ < List.length _; simp only [List.length_set, List.length_append, List.length_take]; omega) | (show wantB _ _ = true; simp; done) | (show wantB _ _ = true; simp; omega) | (show (_ : Bool) = _; simp_all; done) | (exfalso; omega) | refine aRegion_auto (by decide +kernel) ?_ | fail))
    refine ⟨k + 1, by show k + 1 ≤ 8; omega, by show 8 - (k + 1) < 8 - k; omega, Ent.ren [0, 3] rfl ?_ ?_⟩
    · (repeat' (first | exact trivial | exact rfl | refine And.intro ?_ ?_))
      refine congrArg (fun z => some (AO.row U8 z)) (?_ : List.take (m + k) (bs ++ le8 x k) ++ [IntKind.u8.wrap (Int.tmod (x / 256 ^ k) 256)] = bs ++ le8 x (k + 1))
      rw [le8_next, List.take_of_length_le (by omega), h1, List.append_assoc]
    · (repeat' (first | exact trivial | exact rfl | refine And.intro ?_ ?_))
      exact congrArg (AV.fz (.int .u64)) h2
  · have hk3 : k = 8 := by omega
    subst hk3
    (repeat' (first | exact trivial | exact fun h => h | refine And.intro ?_ ?_ | (intro hb; first | (simp at hb; done) | (simp at hb) | skip) | omega | exact rfl | exact Nat.le_refl _ | (show _ + 1 ≤ 4294967296; omega) | (dsimp only; omega) | (show (_ : Int) ≤ (_ : Int); omega) | (show _ < List.length _; simp only [List.length_set, List.length_append, List.length_take]; omega) | (show wantB _ _ = true; simp; done) | (show wantB _ _ = true; simp; omega) | (show (_ : Bool) = _; simp_all; done) | (exfalso; omega) | refine aRegion_auto (by decide +kernel) ?_ | fail))
    exact ⟨_, _, REnt.refl _ _ _, hK⟩
theorem sum_st (s c : Int) : IntKind.u8.wrap (IntKind.u8.wrap (IntKind.u8.wrap (s * 31) + c) + 7) = (s * 31 + c + 7) % 256 := by
  rw [u8_eq, u8_eq, u8_eq]; omega
theorem summed_any (G : List (Nat × Value)) (s : Int) (b : List Int) (hb : b.length ≤ 1000000) (K : AV → List AO → Prop) (hK : K (.fz U8 (sumB s b)) []) :
    ACall Tryd.prog G 25 [.fz U8 s, .fz LB b] [] K := by
  refine acall_mk (E := envAt G 20 0) (envOk _ _ _) Tryd.func25 rfl rfl rfl rfl rfl ?_
  (repeat' (first | exact trivial | exact fun h => h | refine And.intro ?_ ?_ | (intro hb; first | (simp at hb; done) | (simp at hb) | skip) | omega | exact rfl | exact Nat.le_refl _ | (show _ + 1 ≤ 4294967296; omega) | (dsimp only; omega) | (show (_ : Int) ≤ (_ : Int); omega) | (show _ < List.length _; simp only [List.length_set, List.length_append, List.length_take]; omega) | (show wantB _ _ = true; simp; done) | (show wantB _ _ = true; simp; omega) | (show (_ : Bool) = _; simp_all; done) | (exfalso; omega) | refine aRegion_auto (by decide +kernel) ?_ | fail))
  refine ⟨Nat, fun k => ⟨[(0, .fz U8 (sumB s (b.take k))), (7, .fz LB b), (8, .fz int b.length), (9, .fz int k)], []⟩, fun k => k ≤ b.length, fun k => b.length - k, 0, Nat.zero_le _, Ent.sub rfl ?_, ?_⟩
  · (repeat' (first | exact trivial | exact rfl | refine And.intro ?_ ?_))
  intro k hk
  have hk : k ≤ b.length := hk
  by_cases hk2 : k < b.length
  · have ge : b.getD (Int.toNat (k : Int)) U8.dft = b[k] := by simp [List.getD, hk2]
    (repeat' (first | exact trivial | exact fun h => h | refine And.intro ?_ ?_ | (intro hb; first | (simp at hb; done) | (simp at hb) | skip) | omega | exact rfl | exact Nat.le_refl _ | (show _ + 1 ≤ 4294967296; omega) | (dsimp only; omega) | (show (_ : Int) ≤ (_ : Int); omega) | (show _ < List.length _; simp only [List.length_set, List.length_append, List.length_take]; omega) | (show wantB _ _ = true; simp; done) | (show wantB _ _ = true; simp; omega) | (show (_ : Bool) = _; simp_all; done) | (exfalso; omega) | refine aRegion_auto (by decide +kernel) ?_ | fail))
    refine ⟨k + 1, by show k + 1 ≤ b.length; omega, by show b.length - (k + 1) < b.length - k; omega, Ent.sub rfl ?_⟩
    · (repeat' (first | exact trivial | exact rfl | refine And.intro ?_ ?_))
      refine congrArg (AV.fz U8) (?_ : IntKind.u8.wrap (IntKind.u8.wrap (IntKind.u8.wrap (sumB s (b.take k) * 31) + b.getD (Int.toNat (k : Int)) U8.dft) + 7) = sumB s (b.take (k + 1)))
      rw [ge, sum_st, sumB_next s b k hk2]
  · have hk3 : k = b.length := by omega
    subst hk3
    (repeat' (first | exact trivial | exact fun h => h | refine And.intro ?_ ?_ | (intro hb; first | (simp at hb; done) | (simp at hb) | skip) | omega | exact rfl | exact Nat.le_refl _ | (show _ + 1 ≤ 4294967296; omega) | (dsimp only; omega) | (show (_ : Int) ≤ (_ : Int); omega) | (show _ < List.length _; simp only [List.length_set, List.length_append, List.length_take]; omega) | (show wantB _ _ = true; simp; done) | (show wantB _ _ = true; simp; omega) | (show (_ : Bool) = _; simp_all; done) | (exfalso; omega) | refine aRegion_auto (by decide +kernel) ?_ | fail))
    refine ⟨_, _, REnt.drop ⟨rfl, rfl⟩, ?_⟩
    rw [List.take_length]; exact hK
end Go.Proofs.YtiflieijbmaocaaDoor
