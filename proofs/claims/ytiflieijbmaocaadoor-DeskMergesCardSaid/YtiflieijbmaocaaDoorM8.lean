/-
  DeskMerges: the law walked.
-/
import Derived.Test.YtiflieijbmaocaaDoorM7
import Derived.LaidHandle
import Derived.LaidSub
import Derived.Test.YtiflieijbmaocaaDoorChecked
import Derived.WalkKit
import Derived.ProofKit
import Derived.OpenShut
import Derived.Carry
import Derived.Test.YtiflieijbmaocaaDoorTie
import Derived.Test.YtiflieijbmaocaaDoorCards
import Derived.SevenTiedAt
import Derived.LaidMore
import Derived.Lay
import Derived.Deep.Slices
import Derived.Lib.SmallJoins
import Derived.Stop.Joined
namespace Go.Proofs.YtiflieijbmaocaaDoor
open Go Go.Ab Go.RowKit
set_option maxRecDepth 100000
open Dk
theorem DOk.ptL {n m m' : Nat} {s t : Dd} (h : DOk n m s) (h' : DOk n m' t) : DOk n (m + m') (Dk.ptL s t.1) := by
  have hl := ptL_len t.1 s
  have h1 := h.len
  have h2 := h.ad
  have h3 := h'.len
  refine ⟨ptL_srt t.1 s h.srt, fun x hx => ?_, by omega, by omega⟩
  rcases (ptL_mem t.1 s x).1 hx with hx | hx
  · exact h'.inn x hx
  · exact h.inn x hx
/-- what is there came, and what came is there -/
theorem stp_mem {n : Nat} {s : Dd} {e : E} (h : ∀ x, x ∈ s.1 → x ∈ s.2) : ∀ x, x ∈ (stp n s e).1 → x ∈ (stp n s e).2 := by
  unfold stp
  split
  · intro x hx
    rcases ins_mem.1 hx with rfl | hx
    · exact List.mem_append.2 (.inr (List.mem_singleton.2 rfl))
    · exact List.mem_append.2 (.inl (h x hx))
  · exact h
theorem runD_by1 (n : Nat) (l : List E) : ∀ x ∈ (runD n l).1, x.2.2.2.size ≤ 20 := by
  have : ∀ (l : List E) (s : Dd), (∀ x, x ∈ s.1 → x ∈ s.2) → ∀ x, x ∈ (l.foldl (stp n) s).1 → x ∈ (l.foldl (stp n) s).2 := by
    intro l
    induction l with
    | nil => intro s h; exact h
    | cons e l ih => intro s h; rw [List.foldl_cons]; exact ih _ (stp_mem h)
  exact fun x hx => runD_by n l x (this l ([], []) (fun _ h => nomatch h) x hx)
/-- two desks of one raster merged -/
theorem merge_same (E : Errs) {W H : Nat} {f : List Int} {k1 k2 : Nat} {L ad L2 ad2 X x : List Dk.E} (hW0 : 0 < W) (hW : W ≤ 128) (hH : H ≤ 128) (hf : f.length ≤ 16384) (d1 : DOk f.length k1 (L, ad)) (d2 : DOk f.length k2 (L2, ad2)) (hk : k1 + k2 ≤ 1000) (e : (X, x) = Dk.ptL (L, ad) L2) (K : AV → List AO → Prop)
    (h1 : K (.fz .raw .nilIface) (mgA' W H f (nw f X) (tl0 W H) X x 0 W H f (nw f L2) (tl0 W H) L2 ad2 0)) :
    ACall Tryd.prog (G8 E) 16 [.ptr 0 0, .ptr 1 0] (mgA W H f (nw f L) (tl0 W H) L ad 0 W H f (nw f L2) (tl0 W H) L2 ad2 0) K := by
  have i1 : L.length ≤ k1 := d1.len
  have i2 : ad.length ≤ k1 := d1.ad
  have i3 : L2.length ≤ k2 := d2.len
  exact merge_any E W H f L ad 0 W H f (nw f L2) (tl0 W H) L2 ad2 0 hW0 hW hH hf (by omega) d1.srt d1.inn (by omega) (by omega) (fun _ => d2.inn) K (fun h => absurd ⟨rfl, rfl⟩ h) (fun _ _ => by rw [← e]; exact h1)
theorem logOf_ref (G : List (Nat × Value)) (l : List E) (ha : l.length ≤ 10000) (hb : ∀ x ∈ l, x.2.2.2.size ≤ 20) (K : AV → List AO → Prop) (hK : K (.fz LB (lgL l).1) [.row EdT l]) :
    ACall Tryd.prog G 10 [.ref 0 0 l.length] [.row EdT l] K := by
  refine acall_ent (K' := fun r A => r = .ref 1 0 (lgL l).1.length ∧ A = [.row EdT l, .row U8 (lgL l).1]) ?_ fun r A ⟨e1, e2⟩ => ?_
  · refine acall_lend [.dat (.list EdT)] _ _ _ rfl ?_ rfl ?_
    · (repeat' (first | exact trivial | refine And.intro ?_ ?_ | (show _ ≤ _; omega) | (show _ ≤ _; simp; done)))
    · exact acall_arg (logOf_any G l ha hb _ ⟨rfl, rfl, rfl⟩) (congrArg (fun z => [AV.fz (.list EdT) z]) List.take_length.symm)
  · subst e1; subst e2
    refine ⟨.fz LB ((lgL l).1.take (lgL l).1.length), [.row EdT l], (REnt.conv1 (.dat LB) _ rfl ?_).trans (REnt.ren [0] rfl ?_ ?_), by rw [List.take_length]; exact hK⟩
    · (repeat' (first | exact trivial | refine And.intro ?_ ?_ | (show _ ≤ _; omega) | (show _ ≤ _; simp; done)))
    · (repeat' (first | exact trivial | exact rfl | refine And.intro ?_ ?_))
    · (repeat' (first | exact trivial | exact rfl | refine And.intro ?_ ?_))
/-- three desks and the document's -/
abbrev ms (W H : Int) (f : List Int) (tl : List Tl) (Lx ax Ly ay Lz az Lp ap Lq aq Lr ar : List E) : List AO :=
  [dkX W H f 1 (nw f Lx).length 3 Lx.length 4 ax.length 2 tl.length 0, .row int (nw f Lx), .row TlT tl, .row EdT Lx, .row EdT ax, .box [.fz int W, .fz int H, .fz LI f, .ref 6 0 Lp.length, .ref 7 0 ap.length], .row EdT Lp, .row EdT ap,
   dkX W H f 9 (nw f Ly).length 11 Ly.length 12 ay.length 10 tl.length 0, .row int (nw f Ly), .row TlT tl, .row EdT Ly, .row EdT ay, .box [.fz int W, .fz int H, .fz LI f, .ref 14 0 Lq.length, .ref 15 0 aq.length], .row EdT Lq, .row EdT aq,
   dkX W H f 17 (nw f Lz).length 19 Lz.length 20 az.length 18 tl.length 0, .row int (nw f Lz), .row TlT tl, .row EdT Lz, .row EdT az, .box [.fz int W, .fz int H, .fz LI f, .ref 22 0 Lr.length, .ref 23 0 ar.length], .row EdT Lr, .row EdT ar]
/-- a new desk, behind those -/
abbrev nd (W H : Nat) (f : List Int) : List AO := [dkX W H f 25 f.length 27 0 28 0 26 (tl0 W H).length 0, .row int f, .row TlT (tl0 W H), .row EdT [], .row EdT []]
set_option maxHeartbeats 64000000 in
theorem merges_some {E : Errs} (hE : (EL E).Nodup) (a o : Ras) (l m n : List Dk.E) (ha : a.2.2.length ≤ 9223372036854775807) (ho : o.2.2.length ≤ 9223372036854775807) (hl : l.length ≤ 9223372036854775807) (hm : m.length ≤ 9223372036854775807) (hn : n.length ≤ 9223372036854775807) (K : AV → List AO → Prop) (hK : K (.fz .bool true) []) :
    ACall Tryd.prog (G8 E) 5 [.fptr RasT a, .fz (.list EdT) l, .fz (.list EdT) m, .fz (.list EdT) n, .fptr RasT o] [] K := by
  refine acall_mk (E := envCut (G8 E) 286 0 [7, 12, 13, 14, 15, 16, 18, 22, 26, 28, 31, 32, 35, 38]) (envCutOk _ _ _ _) Tryd.func5 rfl rfl rfl rfl rfl ?_
  (repeat' (first | exact trivial | exact fun h => h | refine And.intro ?_ ?_ | (intro hb; first | (simp at hb; done) | (simp at hb) | skip) | omega | exact rfl | exact Nat.le_refl _ | (show _ + 1 ≤ 4294967296; omega) | (dsimp only; omega) | (show (_ : Int) ≤ (_ : Int); omega) | (show _ < List.length _; simp only [List.length_set, List.length_append, List.length_take]; omega) | (show wantB _ _ = true; simp; done) | (show wantB _ _ = true; simp; omega) | (show (_ : Bool) = _; simp_all; done) | (exfalso; omega) | refine aRegion_auto (by decide +kernel) ?_ | fail))
  refine acall_frame0 rfl (desked_any E _ ?_)
  (repeat' (first | exact trivial | exact fun h => h | refine And.intro ?_ ?_ | (intro hb; first | (simp at hb; done) | (simp at hb) | skip) | omega | exact rfl | exact Nat.le_refl _ | (show _ + 1 ≤ 4294967296; omega) | (dsimp only; omega) | (show (_ : Int) ≤ (_ : Int); omega) | (show _ < List.length _; simp only [List.length_set, List.length_append, List.length_take]; omega) | (show wantB _ _ = true; simp; done) | (show wantB _ _ = true; simp; omega) | (show (_ : Bool) = _; simp_all; done) | (exfalso; omega) | refine aRegion_auto (by decide +kernel) ?_ | fail))
  refine acall_frame0 rfl (small_some _ a l hl ha _ ?_)
  (repeat' (first | exact trivial | exact fun h => h | refine And.intro ?_ ?_ | (intro hb; first | (simp at hb; done) | (simp at hb) | skip) | omega | exact rfl | exact Nat.le_refl _ | (show _ + 1 ≤ 4294967296; omega) | (dsimp only; omega) | (show (_ : Int) ≤ (_ : Int); omega) | (show _ < List.length _; simp only [List.length_set, List.length_append, List.length_take]; omega) | (show wantB _ _ = true; simp; done) | (show wantB _ _ = true; simp; omega) | (show (_ : Bool) = _; simp_all; done) | (exfalso; omega) | refine aRegion_auto (by decide +kernel) ?_ | fail))
  refine acall_frame0 rfl (small_some _ a m hm ha _ ?_)
  (repeat' (first | exact trivial | exact fun h => h | refine And.intro ?_ ?_ | (intro hb; first | (simp at hb; done) | (simp at hb) | skip) | omega | exact rfl | exact Nat.le_refl _ | (show _ + 1 ≤ 4294967296; omega) | (dsimp only; omega) | (show (_ : Int) ≤ (_ : Int); omega) | (show _ < List.length _; simp only [List.length_set, List.length_append, List.length_take]; omega) | (show wantB _ _ = true; simp; done) | (show wantB _ _ = true; simp; omega) | (show (_ : Bool) = _; simp_all; done) | (exfalso; omega) | refine aRegion_auto (by decide +kernel) ?_ | fail))
  refine acall_frame0 rfl (small_some _ o n hn ho _ ?_)
  by_cases hsm : smB a.2.2.length l = true ∧ smB a.2.2.length m = true ∧ smB o.2.2.length n = true
  · obtain ⟨s1, s2, s3⟩ := hsm
    obtain ⟨b1, b2⟩ := smB_of s1
    obtain ⟨b3, b4⟩ := smB_of s2
    obtain ⟨b5, b6⟩ := smB_of s3
    rw [s1, s2, s3]
    (repeat' (first | exact trivial | exact fun h => h | refine And.intro ?_ ?_ | (intro hb; first | (simp at hb; done) | (simp at hb) | skip) | omega | exact rfl | exact Nat.le_refl _ | (show _ + 1 ≤ 4294967296; omega) | (dsimp only; omega) | (show (_ : Int) ≤ (_ : Int); omega) | (show _ < List.length _; simp only [List.length_set, List.length_append, List.length_take]; omega) | (show wantB _ _ = true; simp; done) | (show wantB _ _ = true; simp; omega) | (show (_ : Bool) = _; simp_all; done) | (exfalso; omega) | refine aRegion_auto (by decide +kernel) ?_ | fail))
    refine acall_frame0 rfl (rasterError_any _ a (by omega) _ ?_)
    rcases Nat.eq_zero_or_pos (rerr a) with hr | hr
    · rw [hr]
      (repeat' (first | exact trivial | exact fun h => h | refine And.intro ?_ ?_ | (intro hb; first | (simp at hb; done) | (simp at hb) | skip) | omega | exact rfl | exact Nat.le_refl _ | (show _ + 1 ≤ 4294967296; omega) | (dsimp only; omega) | (show (_ : Int) ≤ (_ : Int); omega) | (show _ < List.length _; simp only [List.length_set, List.length_append, List.length_take]; omega) | (show wantB _ _ = true; simp; done) | (show wantB _ _ = true; simp; omega) | (show (_ : Bool) = _; simp_all; done) | (exfalso; omega) | refine aRegion_auto (by decide +kernel) ?_ | fail))
      · (repeat' (first | exact trivial | exact fun h => h | refine And.intro ?_ ?_ | (intro hb; first | (simp at hb; done) | (simp at hb) | skip) | omega | exact rfl | exact Nat.le_refl _ | (show _ + 1 ≤ 4294967296; omega) | (dsimp only; omega) | (show (_ : Int) ≤ (_ : Int); omega) | (show _ < List.length _; simp only [List.length_set, List.length_append, List.length_take]; omega) | (show wantB _ _ = true; simp; done) | (show wantB _ _ = true; simp; omega) | (show (_ : Bool) = _; simp_all; done) | (exfalso; omega) | refine aRegion_auto (by decide +kernel) ?_ | fail))
        exact ⟨_, _, REnt.drop ⟨rfl, rfl⟩, hK⟩
      have hsum : (l.length : Int) + m.length + n.length ≤ 60 := by assumption
      (repeat' (first | exact trivial | exact fun h => h | refine And.intro ?_ ?_ | (intro hb; first | (simp at hb; done) | (simp at hb) | skip) | omega | exact rfl | exact Nat.le_refl _ | (show _ + 1 ≤ 4294967296; omega) | (dsimp only; omega) | (show (_ : Int) ≤ (_ : Int); omega) | (show _ < List.length _; simp only [List.length_set, List.length_append, List.length_take]; omega) | (show wantB _ _ = true; simp; done) | (show wantB _ _ = true; simp; omega) | (show (_ : Bool) = _; simp_all; done) | (exfalso; omega) | refine aRegion_auto (by decide +kernel) ?_ | fail))
      refine ⟨[(0, .fptr RasT a), (1, .fz (.list EdT) l), (2, .fz (.list EdT) m), (3, .fz (.list EdT) n), (4, .fptr RasT o)], [], Ent.sub rfl ?_, ?_⟩
      · (repeat' (first | exact trivial | exact rfl | refine And.intro ?_ ?_))
      (repeat' (first | exact trivial | exact fun h => h | refine And.intro ?_ ?_ | (intro hb; first | (simp at hb; done) | (simp at hb) | skip) | omega | exact rfl | exact Nat.le_refl _ | (show _ + 1 ≤ 4294967296; omega) | (dsimp only; omega) | (show (_ : Int) ≤ (_ : Int); omega) | (show _ < List.length _; simp only [List.length_set, List.length_append, List.length_take]; omega) | (show wantB _ _ = true; simp; done) | (show wantB _ _ = true; simp; omega) | (show (_ : Bool) = _; simp_all; done) | (exfalso; omega) | refine aRegion_auto (by decide +kernel) ?_ | fail))
      refine acall_frame0 rfl (played_any hE a l (by omega) (by omega) _ (fun h => by omega) (fun W H _ hW hH => ?_))
      (repeat' (first | exact trivial | exact fun h => h | refine And.intro ?_ ?_ | (intro hb; first | (simp at hb; done) | (simp at hb) | skip) | omega | exact rfl | exact Nat.le_refl _ | (show _ + 1 ≤ 4294967296; omega) | (dsimp only; omega) | (show (_ : Int) ≤ (_ : Int); omega) | (show _ < List.length _; simp only [List.length_set, List.length_append, List.length_take]; omega) | (show wantB _ _ = true; simp; done) | (show wantB _ _ = true; simp; omega) | (show (_ : Bool) = _; simp_all; done) | (exfalso; omega) | refine aRegion_auto (by decide +kernel) ?_ | fail))
      refine acall_frame0 rfl (played_any hE a m (by omega) (by omega) _ (fun h => by omega) (fun W2 H2 _ hW2 hH2 => ?_))
      obtain rfl : W = W2 := by omega
      obtain rfl : H = H2 := by omega
      (repeat' (first | exact trivial | exact fun h => h | refine And.intro ?_ ?_ | (intro hb; first | (simp at hb; done) | (simp at hb) | skip) | omega | exact rfl | exact Nat.le_refl _ | (show _ + 1 ≤ 4294967296; omega) | (dsimp only; omega) | (show (_ : Int) ≤ (_ : Int); omega) | (show _ < List.length _; simp only [List.length_set, List.length_append, List.length_take]; omega) | (show wantB _ _ = true; simp; done) | (show wantB _ _ = true; simp; omega) | (show (_ : Bool) = _; simp_all; done) | (exfalso; omega) | refine aRegion_auto (by decide +kernel) ?_ | fail))
      refine acall_frame0 rfl (played_any hE a n (by omega) (by omega) _ (fun h => by omega) (fun W2 H2 _ hW3 hH3 => ?_))
      obtain rfl : W = W2 := by omega
      obtain rfl : H = H2 := by omega
      have dx := runD_ok a.2.2.length l l.length (Nat.le_refl _)
      have dy := runD_ok a.2.2.length m m.length (Nat.le_refl _)
      have dz := runD_ok a.2.2.length n n.length (Nat.le_refl _)
      rw [List.take_length] at dx dy dz
      have bx := runD_by a.2.2.length l
      have by1 := runD_by1 a.2.2.length m
      have bz1 := runD_by1 a.2.2.length n
      obtain ⟨x, ex⟩ : ∃ s, s = runD a.2.2.length l := ⟨_, rfl⟩
      obtain ⟨y, ey⟩ : ∃ s, s = runD a.2.2.length m := ⟨_, rfl⟩
      obtain ⟨z, ez⟩ : ∃ s, s = runD a.2.2.length n := ⟨_, rfl⟩
      rw [← ex] at dx bx
      rw [← ey] at dy by1
      rw [← ez] at dz bz1
      rw [← ex, ← ey, ← ez]
      clear ex ey ez
      obtain ⟨Lx, ax⟩ := x
      obtain ⟨Ly, ay⟩ := y
      obtain ⟨Lz, az⟩ := z
      obtain ⟨⟨X1, x1⟩, e1⟩ : ∃ s, s = ptL (Lx, ax) Ly := ⟨_, rfl⟩
      obtain ⟨⟨X2, x2⟩, e2⟩ : ∃ s, s = ptL (X1, x1) Lz := ⟨_, rfl⟩
      obtain ⟨⟨Y1, y1⟩, e3⟩ : ∃ s, s = ptL (Ly, ay) Lz := ⟨_, rfl⟩
      obtain ⟨⟨Y2, y2⟩, e4⟩ : ∃ s, s = ptL (Y1, y1) X2 := ⟨_, rfl⟩
      have dx1 := dx.ptL dy
      rw [← e1] at dx1
      have dx2 := dx1.ptL dz
      rw [← e2] at dx2
      have dy1 := dy.ptL dz
      rw [← e3] at dy1
      have dy2 := dy1.ptL dx2
      rw [← e4] at dy2
      have mx1 : ∀ w, w ∈ X1 ↔ w ∈ Ly ∨ w ∈ Lx := fun w => by have := ptL_mem Ly (Lx, ax) w; rw [← e1] at this; exact this
      have mx2 : ∀ w, w ∈ X2 ↔ w ∈ Lz ∨ w ∈ X1 := fun w => by have := ptL_mem Lz (X1, x1) w; rw [← e2] at this; exact this
      have my1 : ∀ w, w ∈ Y1 ↔ w ∈ Lz ∨ w ∈ Ly := fun w => by have := ptL_mem Lz (Ly, ay) w; rw [← e3] at this; exact this
      have my2 : ∀ w, w ∈ Y2 ↔ w ∈ X2 ∨ w ∈ Y1 := fun w => by have := ptL_mem X2 (Y1, y1) w; rw [← e4] at this; exact this
      obtain rfl : X2 = Y2 := srt_ext dx2.srt dy2.srt fun w => by
        rw [my2, my1, mx2, mx1]
        refine Iff.symm ?_
        constructor
        · rintro (h | h | h)
          · exact h
          · exact .inl h
          · exact .inr (.inl h)
        · exact .inl
      have e5 : ptL (X2, x2) X2 = (X2, x2) := ptL_had X2 (X2, x2) fun w h => h
      have sb1 : ∀ w ∈ x1, w.2.2.2.size ≤ 20 := by have := ptL_all (p := fun w => w.2.2.2.size ≤ 20) Ly (Lx, ax) by1 bx; rw [← e1] at this; exact this
      have sb2 : ∀ w ∈ x2, w.2.2.2.size ≤ 20 := by have := ptL_all (p := fun w => w.2.2.2.size ≤ 20) Lz (X1, x1) bz1 sb1; rw [← e2] at this; exact this
      have jx : Lx.length ≤ l.length ∧ ax.length ≤ l.length := ⟨dx.len, dx.ad⟩
      have jy : Ly.length ≤ m.length ∧ ay.length ≤ m.length := ⟨dy.len, dy.ad⟩
      have jz : Lz.length ≤ n.length ∧ az.length ≤ n.length := ⟨dz.len, dz.ad⟩
      have jx1 : X1.length ≤ l.length + m.length ∧ x1.length ≤ l.length + m.length := ⟨dx1.len, dx1.ad⟩
      have jx2 : X2.length ≤ l.length + m.length + n.length ∧ x2.length ≤ l.length + m.length + n.length := ⟨dx2.len, dx2.ad⟩
      have jy1 : Y1.length ≤ m.length + n.length ∧ y1.length ≤ m.length + n.length := ⟨dy1.len, dy1.ad⟩
      have hfl := Bx.mk (rerr_len hr)
      obtain ⟨g3, g4, g5, g6, g7⟩ := rerr_ok hr
      have hW0 : Bx (0 < W) := ⟨by omega⟩
      have hW1 : Bx (W ≤ 128) := ⟨by omega⟩
      have hH1 : Bx (H ≤ 128) := ⟨by omega⟩
      have k1 : Bx (l.length + m.length ≤ 1000) := ⟨by omega⟩
      have k2 : Bx (l.length + m.length + n.length ≤ 1000) := ⟨by omega⟩
      have k3 : Bx (m.length + n.length ≤ 1000) := ⟨by omega⟩
      have k4 : Bx (m.length + n.length + (l.length + m.length + n.length) ≤ 1000) := ⟨by omega⟩
      have k5 : Bx (l.length + m.length + n.length + (m.length + n.length + (l.length + m.length + n.length)) ≤ 1000) := ⟨by omega⟩
      have n7 : Bx (X2.length ≤ 2000 ∧ x2.length ≤ 2000) := ⟨by omega, by omega⟩
      have nums : Bx (a.1 = W ∧ a.2.1 = H ∧ (a.2.2.length : Int) = a.1 * a.2.1 ∧ Lx.length ≤ 60 ∧ ax.length ≤ 60 ∧ Ly.length ≤ 60 ∧ ay.length ≤ 60 ∧ Lz.length ≤ 60 ∧ az.length ≤ 60 ∧ X1.length ≤ 60 ∧ x1.length ≤ 60 ∧ X2.length ≤ 60 ∧ x2.length ≤ 60 ∧ Y1.length ≤ 60 ∧ y1.length ≤ 60 ∧ o.2.2.length ≤ 1700) :=
        ⟨hW, hH, g7, by omega, by omega, by omega, by omega, by omega, by omega, by omega, by omega, by omega, by omega, by omega, by omega, by omega⟩
      have hr := Bx.mk hr
      clear jx jy jz jx1 jx2 jy1 g3 g4 g5 g6 g7 hsum hW hH hW2 hH2 hW3 hH3 hl hm hn ha ho b1 b2 b3 b4 b5 b6 s1 s2 s3
      (repeat' (first | exact trivial | exact fun h => h | refine And.intro ?_ ?_ | (intro hb; first | (simp at hb; done) | (simp at hb) | skip) | omega | exact rfl | exact Nat.le_refl _ | (show _ + 1 ≤ 4294967296; omega) | (dsimp only; omega) | (show (_ : Int) ≤ (_ : Int); omega) | (show _ < List.length _; simp only [List.length_set, List.length_append, List.length_take]; omega) | (show wantB _ _ = true; simp; done) | (show wantB _ _ = true; simp; omega) | (show (_ : Bool) = _; simp_all; done) | (exfalso; omega) | refine aRegion_auto (by decide +kernel) ?_ | fail))
      (repeat' (first | exact trivial | exact fun h => h | refine And.intro ?_ ?_ | (intro hb; first | (simp at hb; done) | (simp at hb) | skip) | omega | exact rfl | exact Nat.le_refl _ | (show _ + 1 ≤ 4294967296; omega) | (dsimp only; omega) | (show (_ : Int) ≤ (_ : Int); omega) | (show _ < List.length _; simp only [List.length_set, List.length_append, List.length_take]; omega) | (show wantB _ _ = true; simp; done) | (show wantB _ _ = true; simp; omega) | (show (_ : Bool) = _; simp_all; done) | (exfalso; omega) | refine aRegion_auto (by decide +kernel) ?_ | fail))
      -- x.Merge(y)
      refine ⟨[(0, .fptr RasT a), (4, .fptr RasT o), (15, .ptr 0 0), (16, .ptr 5 0), (17, .ptr 8 0), (18, .ptr 13 0), (20, .ptr 16 0), (21, .ptr 21 0)], ms W H a.2.2 (tl0 W H) Lx ax Ly ay Lz az Lx ax Ly ay Lz az, Ent.ren [0, 1, 2, 3, 4, 5, 6, 7, 8, 9, 10, 11, 12, 13, 14, 15, 16, 17, 18, 19, 20, 21, 22, 23] rfl ?_ ?_, ?_⟩
      · (repeat' (first | exact trivial | exact rfl | refine And.intro ?_ ?_))
      · (repeat' (first | exact trivial | exact rfl | refine And.intro ?_ ?_))
      refine acall_frame [0, 8, 1, 2, 3, 4, 9, 10, 11, 12] (mgA W H a.2.2 (nw a.2.2 Lx) (tl0 W H) Lx ax 0 W H a.2.2 (nw a.2.2 Ly) (tl0 W H) Ly ay 0) [.ptr 0 0, .ptr 1 0] rfl ?_ ⟨rfl, rfl⟩ rfl (merge_same E hW0.out hW1.out hH1.out hfl.out.1 dx dy k1.out e1 _ ?_)
      · (repeat' (first | exact trivial | exact rfl | refine And.intro ?_ ?_))
      refine ⟨[(0, .fptr RasT a), (4, .fptr RasT o), (15, .ptr 0 0), (16, .ptr 5 0), (17, .ptr 8 0), (18, .ptr 13 0), (20, .ptr 16 0), (21, .ptr 21 0), (23, .fz .raw .nilIface)], ms W H a.2.2 (tl0 W H) X1 x1 Ly ay Lz az Lx ax Ly ay Lz az, Ent.ren [0, 1, 2, 24, 25, 5, 6, 7, 8, 9, 10, 11, 12, 13, 14, 15, 16, 17, 18, 19, 20, 21, 22, 23] rfl ?_ ?_, ?_⟩
      · (repeat' (first | exact trivial | exact rfl | refine And.intro ?_ ?_))
      · (repeat' (first | exact trivial | exact rfl | refine And.intro ?_ ?_))
      -- x.Merge(z)
      refine acall_frame [0, 16, 1, 2, 3, 4, 17, 18, 19, 20] (mgA W H a.2.2 (nw a.2.2 X1) (tl0 W H) X1 x1 0 W H a.2.2 (nw a.2.2 Lz) (tl0 W H) Lz az 0) [.ptr 0 0, .ptr 1 0] rfl ?_ ⟨rfl, rfl⟩ rfl (merge_same E hW0.out hW1.out hH1.out hfl.out.1 dx1 dz k2.out e2 _ ?_)
      · (repeat' (first | exact trivial | exact rfl | refine And.intro ?_ ?_))
      refine ⟨[(0, .fptr RasT a), (4, .fptr RasT o), (15, .ptr 0 0), (16, .ptr 5 0), (17, .ptr 8 0), (18, .ptr 13 0), (20, .ptr 16 0), (21, .ptr 21 0), (23, .fz .raw .nilIface), (24, .fz .raw .nilIface)], ms W H a.2.2 (tl0 W H) X2 x2 Ly ay Lz az Lx ax Ly ay Lz az, Ent.ren [0, 1, 2, 24, 25, 5, 6, 7, 8, 9, 10, 11, 12, 13, 14, 15, 16, 17, 18, 19, 20, 21, 22, 23] rfl ?_ ?_, ?_⟩
      · (repeat' (first | exact trivial | exact rfl | refine And.intro ?_ ?_))
      · (repeat' (first | exact trivial | exact rfl | refine And.intro ?_ ?_))
      -- y.Merge(z)
      refine acall_frame [8, 16, 9, 10, 11, 12, 17, 18, 19, 20] (mgA W H a.2.2 (nw a.2.2 Ly) (tl0 W H) Ly ay 0 W H a.2.2 (nw a.2.2 Lz) (tl0 W H) Lz az 0) [.ptr 0 0, .ptr 1 0] rfl ?_ ⟨rfl, rfl⟩ rfl (merge_same E hW0.out hW1.out hH1.out hfl.out.1 dy dz k3.out e3 _ ?_)
      · (repeat' (first | exact trivial | exact rfl | refine And.intro ?_ ?_))
      refine ⟨[(0, .fptr RasT a), (4, .fptr RasT o), (15, .ptr 0 0), (16, .ptr 5 0), (17, .ptr 8 0), (18, .ptr 13 0), (20, .ptr 16 0), (21, .ptr 21 0), (23, .fz .raw .nilIface), (24, .fz .raw .nilIface), (25, .fz .raw .nilIface)], ms W H a.2.2 (tl0 W H) X2 x2 Y1 y1 Lz az Lx ax Ly ay Lz az, Ent.ren [0, 1, 2, 3, 4, 5, 6, 7, 8, 9, 10, 24, 25, 13, 14, 15, 16, 17, 18, 19, 20, 21, 22, 23] rfl ?_ ?_, ?_⟩
      · (repeat' (first | exact trivial | exact rfl | refine And.intro ?_ ?_))
      · (repeat' (first | exact trivial | exact rfl | refine And.intro ?_ ?_))
      -- y.Merge(x)
      refine acall_frame [8, 0, 9, 10, 11, 12, 1, 2, 3, 4] (mgA W H a.2.2 (nw a.2.2 Y1) (tl0 W H) Y1 y1 0 W H a.2.2 (nw a.2.2 X2) (tl0 W H) X2 x2 0) [.ptr 0 0, .ptr 1 0] rfl ?_ ⟨rfl, rfl⟩ rfl (merge_same E hW0.out hW1.out hH1.out hfl.out.1 dy1 dx2 k4.out e4 _ ?_)
      · (repeat' (first | exact trivial | exact rfl | refine And.intro ?_ ?_))
      refine ⟨[(0, .fptr RasT a), (4, .fptr RasT o), (15, .ptr 0 0), (16, .ptr 5 0), (17, .ptr 8 0), (18, .ptr 13 0), (20, .ptr 16 0), (21, .ptr 21 0), (23, .fz .raw .nilIface), (24, .fz .raw .nilIface), (25, .fz .raw .nilIface), (26, .fz .raw .nilIface)], ms W H a.2.2 (tl0 W H) X2 x2 X2 y2 Lz az Lx ax Ly ay Lz az, Ent.ren [0, 1, 2, 3, 4, 5, 6, 7, 8, 9, 10, 24, 25, 13, 14, 15, 16, 17, 18, 19, 20, 21, 22, 23] rfl ?_ ?_, ?_⟩
      · (repeat' (first | exact trivial | exact rfl | refine And.intro ?_ ?_))
      · (repeat' (first | exact trivial | exact rfl | refine And.intro ?_ ?_))
      -- x.Merge(x), x.Merge(y)
      (repeat' (first | exact trivial | exact fun h => h | refine And.intro ?_ ?_ | (intro hb; first | (simp at hb; done) | (simp at hb) | skip) | omega | exact rfl | exact Nat.le_refl _ | (show _ + 1 ≤ 4294967296; omega) | (dsimp only; omega) | (show (_ : Int) ≤ (_ : Int); omega) | (show _ < List.length _; simp only [List.length_set, List.length_append, List.length_take]; omega) | (show wantB _ _ = true; simp; done) | (show wantB _ _ = true; simp; omega) | (show (_ : Bool) = _; simp_all; done) | (exfalso; omega) | refine aRegion_auto (by decide +kernel) ?_ | fail))
      refine acall_frame [0, 1, 2, 3, 4] (dkA W H a.2.2 (nw a.2.2 X2) (tl0 W H) X2 x2 0) [.ptr 0 0, .ptr 0 0] rfl ?_ ⟨rfl, rfl⟩ rfl (merge_self E W H a.2.2 X2 x2 0 (tl0 W H) hW0.out hW1.out hH1.out hfl.out.1 (Nat.le_trans (htl0 hW1.out hH1.out) (by decide)) dx2.srt dx2.inn n7.out.1 n7.out.2 _ ?_)
      · (repeat' (first | exact trivial | exact rfl | refine And.intro ?_ ?_))
      (repeat' (first | exact trivial | exact fun h => h | refine And.intro ?_ ?_ | (intro hb; first | (simp at hb; done) | (simp at hb) | skip) | omega | exact rfl | exact Nat.le_refl _ | (show _ + 1 ≤ 4294967296; omega) | (dsimp only; omega) | (show (_ : Int) ≤ (_ : Int); omega) | (show _ < List.length _; simp only [List.length_set, List.length_append, List.length_take]; omega) | (show wantB _ _ = true; simp; done) | (show wantB _ _ = true; simp; omega) | (show (_ : Bool) = _; simp_all; done) | (exfalso; omega) | refine aRegion_auto (by decide +kernel) ?_ | fail))
      refine acall_frame [0, 8, 1, 2, 3, 4, 9, 10, 11, 12] (mgA W H a.2.2 (nw a.2.2 X2) (tl0 W H) X2 x2 0 W H a.2.2 (nw a.2.2 X2) (tl0 W H) X2 y2 0) [.ptr 0 0, .ptr 1 0] rfl ?_ ⟨rfl, rfl⟩ rfl (merge_same E hW0.out hW1.out hH1.out hfl.out.1 dx2 dy2 k5.out e5.symm _ ?_)
      · (repeat' (first | exact trivial | exact rfl | refine And.intro ?_ ?_))
      (repeat' (first | exact trivial | exact fun h => h | refine And.intro ?_ ?_ | (intro hb; first | (simp at hb; done) | (simp at hb) | skip) | omega | exact rfl | exact Nat.le_refl _ | (show _ + 1 ≤ 4294967296; omega) | (dsimp only; omega) | (show (_ : Int) ≤ (_ : Int); omega) | (show _ < List.length _; simp only [List.length_set, List.length_append, List.length_take]; omega) | (show wantB _ _ = true; simp; done) | (show wantB _ _ = true; simp; omega) | (show (_ : Bool) = _; simp_all; done) | (exfalso; omega) | refine aRegion_auto (by decide +kernel) ?_ | fail))
      refine ⟨[(0, .fptr RasT a), (4, .fptr RasT o), (15, .ptr 0 0), (16, .ptr 5 0), (17, .ptr 8 0), (18, .ptr 13 0), (20, .ptr 16 0), (21, .ptr 21 0)], ms W H a.2.2 (tl0 W H) X2 x2 X2 y2 Lz az Lx ax Ly ay Lz az, Ent.ren [0, 1, 2, 24, 25, 5, 6, 7, 8, 9, 10, 11, 12, 13, 14, 15, 16, 17, 18, 19, 20, 21, 22, 23] rfl ?_ ?_, ?_⟩
      · (repeat' (first | exact trivial | exact rfl | refine And.intro ?_ ?_))
      · (repeat' (first | exact trivial | exact rfl | refine And.intro ?_ ?_))
      -- p.Put, what q has
      (repeat' (first | exact trivial | exact fun h => h | refine And.intro ?_ ?_ | (intro hb; first | (simp at hb; done) | (simp at hb) | skip) | omega | exact rfl | exact Nat.le_refl _ | (show _ + 1 ≤ 4294967296; omega) | (dsimp only; omega) | (show (_ : Int) ≤ (_ : Int); omega) | (show _ < List.length _; simp only [List.length_set, List.length_append, List.length_take]; omega) | (show wantB _ _ = true; simp; done) | (show wantB _ _ = true; simp; omega) | (show (_ : Bool) = _; simp_all; done) | (exfalso; omega) | refine aRegion_auto (by decide +kernel) ?_ | fail))
      refine ⟨Nat, fun k => ⟨[(0, .fptr RasT a), (4, .fptr RasT o), (15, .ptr 0 0), (16, .ptr 5 0), (17, .ptr 8 0), (18, .ptr 13 0), (20, .ptr 16 0), (21, .ptr 21 0), (27, .fz int k)], ms W H a.2.2 (tl0 W H) X2 x2 X2 y2 Lz az (ptL (Lx, ax) (Ly.take k)).1 (ptL (Lx, ax) (Ly.take k)).2 Ly ay Lz az⟩, fun k => k ≤ Ly.length, fun k => Ly.length - k, 0, Nat.zero_le _, Ent.sub rfl ?_, ?_⟩
      · (repeat' (first | exact trivial | exact rfl | refine And.intro ?_ ?_))
      intro k hk
      have hk : k ≤ Ly.length := hk
      have hs : Bx (Srt (ptL (Lx, ax) (Ly.take k)).1) := ⟨ptL_srt _ _ dx.srt⟩
      have hn : Bx ((ptL (Lx, ax) (Ly.take k)).1.length ≤ 1000 ∧ (ptL (Lx, ax) (Ly.take k)).2.length ≤ 1000) := ⟨by
        have h1 := ptL_len (Ly.take k) (Lx, ax)
        have h2 : (Ly.take k).length ≤ Ly.length := by rw [List.length_take]; omega
        obtain ⟨_, _, _, q1, q2, q3, _⟩ := nums.out
        have h3 : (ptL (Lx, ax) (Ly.take k)).1.length ≤ Lx.length + (Ly.take k).length := h1.1
        have h4 : (ptL (Lx, ax) (Ly.take k)).2.length ≤ ax.length + (Ly.take k).length := h1.2
        omega⟩
      have hpt := fun hk2 : k < Ly.length => ptL_take (s := (Lx, ax)) hk2
      obtain ⟨s, es⟩ : ∃ s, s = ptL (Lx, ax) (Ly.take k) := ⟨_, rfl⟩
      show awp _ _ _ ⟨[(0, .fptr RasT a), (4, .fptr RasT o), (15, .ptr 0 0), (16, .ptr 5 0), (17, .ptr 8 0), (18, .ptr 13 0), (20, .ptr 16 0), (21, .ptr 21 0), (27, .fz int k)], ms W H a.2.2 (tl0 W H) X2 x2 X2 y2 Lz az (ptL (Lx, ax) (Ly.take k)).1 (ptL (Lx, ax) (Ly.take k)).2 Ly ay Lz az⟩
      rw [← es] at hs hn hpt
      rw [← es]
      obtain ⟨P, pa⟩ := s
      show awp _ _ _ ⟨[(0, .fptr RasT a), (4, .fptr RasT o), (15, .ptr 0 0), (16, .ptr 5 0), (17, .ptr 8 0), (18, .ptr 13 0), (20, .ptr 16 0), (21, .ptr 21 0), (27, .fz int k)], ms W H a.2.2 (tl0 W H) X2 x2 X2 y2 Lz az P pa Ly ay Lz az⟩
      by_cases hk2 : k < Ly.length
      · have hpt := hpt hk2
        have hly : Ly.length ≤ 60 := by have := nums.out; omega
        have ge : Ly.getD (0 + Int.toNat (k : Int)) EdT.dft = Ly[k] := by simp [List.getD, hk2]
        (repeat' (first | exact trivial | exact fun h => h | refine And.intro ?_ ?_ | (intro hb; first | (simp at hb; done) | (simp at hb) | skip) | omega | exact rfl | exact Nat.le_refl _ | (show _ + 1 ≤ 4294967296; omega) | (dsimp only; omega) | (show (_ : Int) ≤ (_ : Int); omega) | (show _ < List.length _; simp only [List.length_set, List.length_append, List.length_take]; omega) | (show wantB _ _ = true; simp; done) | (show wantB _ _ = true; simp; omega) | (show (_ : Bool) = _; simp_all; done) | (exfalso; omega) | refine aRegion_auto (by decide +kernel) ?_ | fail))
        refine acall_frame [5, 6, 7] (rfA W H a.2.2 P pa) [.ptr 0 0, .fz EdT Ly[k]] rfl ?_ ⟨rfl, rfl⟩ (congrArg (fun z => [AV.ptr 5 0, AV.fz EdT z]) ge) (rput_any _ W H a.2.2 P pa Ly[k] (Nat.le_trans hn.out.1 (by decide)) (Nat.le_trans hn.out.2 (by decide)) hs.out _ (fun g => ?_) (fun g => ?_))
        · (repeat' (first | exact trivial | exact rfl | refine And.intro ?_ ?_))
        · have e1 : pt (P, pa) Ly[k] = (P, pa) := if_pos g
          rw [e1] at hpt
          (repeat' (first | exact trivial | exact fun h => h | refine And.intro ?_ ?_ | (intro hb; first | (simp at hb; done) | (simp at hb) | skip) | omega | exact rfl | exact Nat.le_refl _ | (show _ + 1 ≤ 4294967296; omega) | (dsimp only; omega) | (show (_ : Int) ≤ (_ : Int); omega) | (show _ < List.length _; simp only [List.length_set, List.length_append, List.length_take]; omega) | (show wantB _ _ = true; simp; done) | (show wantB _ _ = true; simp; omega) | (show (_ : Bool) = _; simp_all; done) | (exfalso; omega) | refine aRegion_auto (by decide +kernel) ?_ | fail))
          refine ⟨k + 1, by show k + 1 ≤ Ly.length; omega, by show Ly.length - (k + 1) < Ly.length - k; omega, ?_⟩
          show Ent _ _ ⟨[(0, .fptr RasT a), (4, .fptr RasT o), (15, .ptr 0 0), (16, .ptr 5 0), (17, .ptr 8 0), (18, .ptr 13 0), (20, .ptr 16 0), (21, .ptr 21 0), (27, .fz int ((k : Int) + 1))], ms W H a.2.2 (tl0 W H) X2 x2 X2 y2 Lz az (ptL (Lx, ax) (Ly.take (k + 1))).1 (ptL (Lx, ax) (Ly.take (k + 1))).2 Ly ay Lz az⟩
          rw [hpt]
          refine Ent.ren [0, 1, 2, 3, 4, 5, 6, 7, 8, 9, 10, 11, 12, 13, 14, 15, 16, 17, 18, 19, 20, 21, 22, 23] rfl ?_ ?_
          · (repeat' (first | exact trivial | exact rfl | refine And.intro ?_ ?_))
          · (repeat' (first | exact trivial | exact rfl | refine And.intro ?_ ?_))
        · have e1 : pt (P, pa) Ly[k] = (ins P Ly[k], pa ++ [Ly[k]]) := if_neg (by show ¬ hasE P Ly[k] = true; rw [g]; simp)
          rw [e1] at hpt
          (repeat' (first | exact trivial | exact fun h => h | refine And.intro ?_ ?_ | (intro hb; first | (simp at hb; done) | (simp at hb) | skip) | omega | exact rfl | exact Nat.le_refl _ | (show _ + 1 ≤ 4294967296; omega) | (dsimp only; omega) | (show (_ : Int) ≤ (_ : Int); omega) | (show _ < List.length _; simp only [List.length_set, List.length_append, List.length_take]; omega) | (show wantB _ _ = true; simp; done) | (show wantB _ _ = true; simp; omega) | (show (_ : Bool) = _; simp_all; done) | (exfalso; omega) | refine aRegion_auto (by decide +kernel) ?_ | fail))
          refine ⟨k + 1, by show k + 1 ≤ Ly.length; omega, by show Ly.length - (k + 1) < Ly.length - k; omega, ?_⟩
          show Ent _ _ ⟨[(0, .fptr RasT a), (4, .fptr RasT o), (15, .ptr 0 0), (16, .ptr 5 0), (17, .ptr 8 0), (18, .ptr 13 0), (20, .ptr 16 0), (21, .ptr 21 0), (27, .fz int ((k : Int) + 1))], ms W H a.2.2 (tl0 W H) X2 x2 X2 y2 Lz az (ptL (Lx, ax) (Ly.take (k + 1))).1 (ptL (Lx, ax) (Ly.take (k + 1))).2 Ly ay Lz az⟩
          rw [hpt]
          refine Ent.ren [0, 1, 2, 3, 4, 5, 24, 25, 8, 9, 10, 11, 12, 13, 14, 15, 16, 17, 18, 19, 20, 21, 22, 23] rfl ?_ ?_
          · (repeat' (first | exact trivial | exact rfl | refine And.intro ?_ ?_))
          · (repeat' (first | exact trivial | exact rfl | refine And.intro ?_ ?_))
      · have hk3 : k = Ly.length := by omega
        subst hk3
        rw [List.take_length, ← e1] at es
        cases es
        (repeat' (first | exact trivial | exact fun h => h | refine And.intro ?_ ?_ | (intro hb; first | (simp at hb; done) | (simp at hb) | skip) | omega | exact rfl | exact Nat.le_refl _ | (show _ + 1 ≤ 4294967296; omega) | (dsimp only; omega) | (show (_ : Int) ≤ (_ : Int); omega) | (show _ < List.length _; simp only [List.length_set, List.length_append, List.length_take]; omega) | (show wantB _ _ = true; simp; done) | (show wantB _ _ = true; simp; omega) | (show (_ : Bool) = _; simp_all; done) | (exfalso; omega) | refine aRegion_auto (by decide +kernel) ?_ | fail))
        refine ⟨[(0, .fptr RasT a), (4, .fptr RasT o), (15, .ptr 0 0), (16, .ptr 5 0), (17, .ptr 8 0), (18, .ptr 13 0), (20, .ptr 16 0), (21, .ptr 21 0)], ms W H a.2.2 (tl0 W H) X2 x2 X2 y2 Lz az X1 x1 Ly ay Lz az, Ent.sub rfl ?_, ?_⟩
        · (repeat' (first | exact trivial | exact rfl | refine And.intro ?_ ?_))
        -- p.Put, what r has
        (repeat' (first | exact trivial | exact fun h => h | refine And.intro ?_ ?_ | (intro hb; first | (simp at hb; done) | (simp at hb) | skip) | omega | exact rfl | exact Nat.le_refl _ | (show _ + 1 ≤ 4294967296; omega) | (dsimp only; omega) | (show (_ : Int) ≤ (_ : Int); omega) | (show _ < List.length _; simp only [List.length_set, List.length_append, List.length_take]; omega) | (show wantB _ _ = true; simp; done) | (show wantB _ _ = true; simp; omega) | (show (_ : Bool) = _; simp_all; done) | (exfalso; omega) | refine aRegion_auto (by decide +kernel) ?_ | fail))
        refine ⟨Nat, fun k => ⟨[(0, .fptr RasT a), (4, .fptr RasT o), (15, .ptr 0 0), (16, .ptr 5 0), (17, .ptr 8 0), (18, .ptr 13 0), (20, .ptr 16 0), (21, .ptr 21 0), (28, .fz int k)], ms W H a.2.2 (tl0 W H) X2 x2 X2 y2 Lz az (ptL (X1, x1) (Lz.take k)).1 (ptL (X1, x1) (Lz.take k)).2 Ly ay Lz az⟩, fun k => k ≤ Lz.length, fun k => Lz.length - k, 0, Nat.zero_le _, Ent.sub rfl ?_, ?_⟩
        · (repeat' (first | exact trivial | exact rfl | refine And.intro ?_ ?_))
        intro k hk
        have hk : k ≤ Lz.length := hk
        have hs : Bx (Srt (ptL (X1, x1) (Lz.take k)).1) := ⟨ptL_srt _ _ dx1.srt⟩
        have hn : Bx ((ptL (X1, x1) (Lz.take k)).1.length ≤ 1000 ∧ (ptL (X1, x1) (Lz.take k)).2.length ≤ 1000) := ⟨by
          have h1 := ptL_len (Lz.take k) (X1, x1)
          have h2 : (Lz.take k).length ≤ Lz.length := by rw [List.length_take]; omega
          obtain ⟨_, _, _, _, _, _, _, q1, _, q2, q3, _⟩ := nums.out
          have h3 : (ptL (X1, x1) (Lz.take k)).1.length ≤ X1.length + (Lz.take k).length := h1.1
          have h4 : (ptL (X1, x1) (Lz.take k)).2.length ≤ x1.length + (Lz.take k).length := h1.2
          omega⟩
        have hpt := fun hk2 : k < Lz.length => ptL_take (s := (X1, x1)) hk2
        obtain ⟨s, es⟩ : ∃ s, s = ptL (X1, x1) (Lz.take k) := ⟨_, rfl⟩
        show awp _ _ _ ⟨[(0, .fptr RasT a), (4, .fptr RasT o), (15, .ptr 0 0), (16, .ptr 5 0), (17, .ptr 8 0), (18, .ptr 13 0), (20, .ptr 16 0), (21, .ptr 21 0), (28, .fz int k)], ms W H a.2.2 (tl0 W H) X2 x2 X2 y2 Lz az (ptL (X1, x1) (Lz.take k)).1 (ptL (X1, x1) (Lz.take k)).2 Ly ay Lz az⟩
        rw [← es] at hs hn hpt
        rw [← es]
        obtain ⟨P, pa⟩ := s
        show awp _ _ _ ⟨[(0, .fptr RasT a), (4, .fptr RasT o), (15, .ptr 0 0), (16, .ptr 5 0), (17, .ptr 8 0), (18, .ptr 13 0), (20, .ptr 16 0), (21, .ptr 21 0), (28, .fz int k)], ms W H a.2.2 (tl0 W H) X2 x2 X2 y2 Lz az P pa Ly ay Lz az⟩
        by_cases hk2 : k < Lz.length
        · have hpt := hpt hk2
          have hlz : Lz.length ≤ 60 := by have := nums.out; omega
          have ge : Lz.getD (0 + Int.toNat (k : Int)) EdT.dft = Lz[k] := by simp [List.getD, hk2]
          (repeat' (first | exact trivial | exact fun h => h | refine And.intro ?_ ?_ | (intro hb; first | (simp at hb; done) | (simp at hb) | skip) | omega | exact rfl | exact Nat.le_refl _ | (show _ + 1 ≤ 4294967296; omega) | (dsimp only; omega) | (show (_ : Int) ≤ (_ : Int); omega) | (show _ < List.length _; simp only [List.length_set, List.length_append, List.length_take]; omega) | (show wantB _ _ = true; simp; done) | (show wantB _ _ = true; simp; omega) | (show (_ : Bool) = _; simp_all; done) | (exfalso; omega) | refine aRegion_auto (by decide +kernel) ?_ | fail))
          refine acall_frame [5, 6, 7] (rfA W H a.2.2 P pa) [.ptr 0 0, .fz EdT Lz[k]] rfl ?_ ⟨rfl, rfl⟩ (congrArg (fun z => [AV.ptr 5 0, AV.fz EdT z]) ge) (rput_any _ W H a.2.2 P pa Lz[k] (Nat.le_trans hn.out.1 (by decide)) (Nat.le_trans hn.out.2 (by decide)) hs.out _ (fun g => ?_) (fun g => ?_))
          · (repeat' (first | exact trivial | exact rfl | refine And.intro ?_ ?_))
          · have e1 : pt (P, pa) Lz[k] = (P, pa) := if_pos g
            rw [e1] at hpt
            (repeat' (first | exact trivial | exact fun h => h | refine And.intro ?_ ?_ | (intro hb; first | (simp at hb; done) | (simp at hb) | skip) | omega | exact rfl | exact Nat.le_refl _ | (show _ + 1 ≤ 4294967296; omega) | (dsimp only; omega) | (show (_ : Int) ≤ (_ : Int); omega) | (show _ < List.length _; simp only [List.length_set, List.length_append, List.length_take]; omega) | (show wantB _ _ = true; simp; done) | (show wantB _ _ = true; simp; omega) | (show (_ : Bool) = _; simp_all; done) | (exfalso; omega) | refine aRegion_auto (by decide +kernel) ?_ | fail))
            refine ⟨k + 1, by show k + 1 ≤ Lz.length; omega, by show Lz.length - (k + 1) < Lz.length - k; omega, ?_⟩
            show Ent _ _ ⟨[(0, .fptr RasT a), (4, .fptr RasT o), (15, .ptr 0 0), (16, .ptr 5 0), (17, .ptr 8 0), (18, .ptr 13 0), (20, .ptr 16 0), (21, .ptr 21 0), (28, .fz int ((k : Int) + 1))], ms W H a.2.2 (tl0 W H) X2 x2 X2 y2 Lz az (ptL (X1, x1) (Lz.take (k + 1))).1 (ptL (X1, x1) (Lz.take (k + 1))).2 Ly ay Lz az⟩
            rw [hpt]
            refine Ent.ren [0, 1, 2, 3, 4, 5, 6, 7, 8, 9, 10, 11, 12, 13, 14, 15, 16, 17, 18, 19, 20, 21, 22, 23] rfl ?_ ?_
            · (repeat' (first | exact trivial | exact rfl | refine And.intro ?_ ?_))
            · (repeat' (first | exact trivial | exact rfl | refine And.intro ?_ ?_))
          · have e1 : pt (P, pa) Lz[k] = (ins P Lz[k], pa ++ [Lz[k]]) := if_neg (by show ¬ hasE P Lz[k] = true; rw [g]; simp)
            rw [e1] at hpt
            (repeat' (first | exact trivial | exact fun h => h | refine And.intro ?_ ?_ | (intro hb; first | (simp at hb; done) | (simp at hb) | skip) | omega | exact rfl | exact Nat.le_refl _ | (show _ + 1 ≤ 4294967296; omega) | (dsimp only; omega) | (show (_ : Int) ≤ (_ : Int); omega) | (show _ < List.length _; simp only [List.length_set, List.length_append, List.length_take]; omega) | (show wantB _ _ = true; simp; done) | (show wantB _ _ = true; simp; omega) | (show (_ : Bool) = _; simp_all; done) | (exfalso; omega) | refine aRegion_auto (by decide +kernel) ?_ | fail))
            refine ⟨k + 1, by show k + 1 ≤ Lz.length; omega, by show Lz.length - (k + 1) < Lz.length - k; omega, ?_⟩
            show Ent _ _ ⟨[(0, .fptr RasT a), (4, .fptr RasT o), (15, .ptr 0 0), (16, .ptr 5 0), (17, .ptr 8 0), (18, .ptr 13 0), (20, .ptr 16 0), (21, .ptr 21 0), (28, .fz int ((k : Int) + 1))], ms W H a.2.2 (tl0 W H) X2 x2 X2 y2 Lz az (ptL (X1, x1) (Lz.take (k + 1))).1 (ptL (X1, x1) (Lz.take (k + 1))).2 Ly ay Lz az⟩
            rw [hpt]
            refine Ent.ren [0, 1, 2, 3, 4, 5, 24, 25, 8, 9, 10, 11, 12, 13, 14, 15, 16, 17, 18, 19, 20, 21, 22, 23] rfl ?_ ?_
            · (repeat' (first | exact trivial | exact rfl | refine And.intro ?_ ?_))
            · (repeat' (first | exact trivial | exact rfl | refine And.intro ?_ ?_))
        · have hk3 : k = Lz.length := by omega
          subst hk3
          rw [List.take_length, ← e2] at es
          cases es
          (repeat' (first | exact trivial | exact fun h => h | refine And.intro ?_ ?_ | (intro hb; first | (simp at hb; done) | (simp at hb) | skip) | omega | exact rfl | exact Nat.le_refl _ | (show _ + 1 ≤ 4294967296; omega) | (dsimp only; omega) | (show (_ : Int) ≤ (_ : Int); omega) | (show _ < List.length _; simp only [List.length_set, List.length_append, List.length_take]; omega) | (show wantB _ _ = true; simp; done) | (show wantB _ _ = true; simp; omega) | (show (_ : Bool) = _; simp_all; done) | (exfalso; omega) | refine aRegion_auto (by decide +kernel) ?_ | fail))
          refine ⟨[(0, .fptr RasT a), (4, .fptr RasT o), (15, .ptr 0 0), (16, .ptr 5 0), (17, .ptr 8 0), (18, .ptr 13 0), (20, .ptr 16 0), (21, .ptr 21 0)], ms W H a.2.2 (tl0 W H) X2 x2 X2 y2 Lz az X2 x2 Ly ay Lz az, Ent.sub rfl ?_, ?_⟩
          · (repeat' (first | exact trivial | exact rfl | refine And.intro ?_ ?_))
          -- is(x, p), is(y, p)
          refine acall_frame [0, 5, 6, 7, 1, 2, 3, 4] (bo2 W H a.2.2 (nw a.2.2 X2) (tl0 W H) X2 x2 0 X2 x2) [.ptr 0 0, .ptr 1 0] rfl ?_ ⟨rfl, rfl⟩ rfl (is_any _ W H a.2.2 (tl0 W H) X2 x2 0 x2 (Nat.le_trans hfl.out.1 (by decide)) (Nat.le_trans n7.out.1 (by decide)) dx2.inn _ ?_)
          · (repeat' (first | exact trivial | exact rfl | refine And.intro ?_ ?_))
          refine acall_frame [8, 5, 6, 7, 9, 10, 11, 12] (bo2 W H a.2.2 (nw a.2.2 X2) (tl0 W H) X2 y2 0 X2 x2) [.ptr 0 0, .ptr 1 0] rfl ?_ ⟨rfl, rfl⟩ rfl (is_any _ W H a.2.2 (tl0 W H) X2 y2 0 x2 (Nat.le_trans hfl.out.1 (by decide)) (Nat.le_trans n7.out.1 (by decide)) dx2.inn _ ?_)
          · (repeat' (first | exact trivial | exact rfl | refine And.intro ?_ ?_))
          refine ⟨[(0, .fptr RasT a), (4, .fptr RasT o), (15, .ptr 0 0), (16, .ptr 5 0), (17, .ptr 8 0), (18, .ptr 13 0), (20, .ptr 16 0), (21, .ptr 21 0), (29, .fz .bool true), (30, .fz .bool true)], ms W H a.2.2 (tl0 W H) X2 x2 X2 y2 Lz az X2 x2 Ly ay Lz az, Ent.ren [0, 1, 2, 3, 4, 5, 6, 7, 8, 9, 10, 11, 12, 13, 14, 15, 16, 17, 18, 19, 20, 21, 22, 23] rfl ?_ ?_, ?_⟩
          · (repeat' (first | exact trivial | exact rfl | refine And.intro ?_ ?_))
          · (repeat' (first | exact trivial | exact rfl | refine And.intro ?_ ?_))
          (repeat' (first | exact trivial | exact fun h => h | refine And.intro ?_ ?_ | (intro hb; first | (simp at hb; done) | (simp at hb) | skip) | omega | exact rfl | exact Nat.le_refl _ | (show _ + 1 ≤ 4294967296; omega) | (dsimp only; omega) | (show (_ : Int) ≤ (_ : Int); omega) | (show _ < List.length _; simp only [List.length_set, List.length_append, List.length_take]; omega) | (show wantB _ _ = true; simp; done) | (show wantB _ _ = true; simp; omega) | (show (_ : Bool) = _; simp_all; done) | (exfalso; omega) | refine aRegion_auto (by decide +kernel) ?_ | fail))
          apply exEff
          · refine acall_frame [0, 1, 2, 3, 4] (dkA W H a.2.2 (nw a.2.2 X2) (tl0 W H) X2 x2 0) [.ptr 0 0] rfl ?_ ⟨rfl, rfl⟩ rfl (log_dat _ W H a.2.2 (nw a.2.2 X2) (tl0 W H) X2 x2 0 (Nat.le_trans n7.out.2 (by decide)) sb2 _ ?_)
            · (repeat' (first | exact trivial | exact rfl | refine And.intro ?_ ?_))
            exact ⟨rfl, rfl⟩
          (repeat' (first | exact trivial | exact fun h => h | refine And.intro ?_ ?_ | (intro hb; first | (simp at hb; done) | (simp at hb) | skip) | omega | exact rfl | exact Nat.le_refl _ | (show _ + 1 ≤ 4294967296; omega) | (dsimp only; omega) | (show (_ : Int) ≤ (_ : Int); omega) | (show _ < List.length _; simp only [List.length_set, List.length_append, List.length_take]; omega) | (show wantB _ _ = true; simp; done) | (show wantB _ _ = true; simp; omega) | (show (_ : Bool) = _; simp_all; done) | (exfalso; omega) | refine aRegion_auto (by decide +kernel) ?_ | fail))
          apply exEff
          · refine acall_frame [7] [.row EdT x2] [.ref 0 0 x2.length] rfl ?_ ⟨rfl, rfl⟩ rfl (logOf_ref _ x2 (Nat.le_trans n7.out.2 (by decide)) sb2 _ ?_)
            · (repeat' (first | exact trivial | exact rfl | refine And.intro ?_ ?_))
            exact ⟨rfl, rfl⟩
          have hq : ((byN (lgL x2).1).toList == (byN (lgL x2).1).toList) = true := by simp
          (repeat' (first | exact trivial | exact fun h => h | refine And.intro ?_ ?_ | (intro hb; first | (simp at hb; done) | (simp at hb) | skip) | omega | exact rfl | exact Nat.le_refl _ | (show _ + 1 ≤ 4294967296; omega) | (dsimp only; omega) | (show (_ : Int) ≤ (_ : Int); omega) | (show _ < List.length _; simp only [List.length_set, List.length_append, List.length_take]; omega) | (show wantB _ _ = true; simp; done) | (show wantB _ _ = true; simp; omega) | (show (_ : Bool) = _; simp_all; done) | (exfalso; omega) | refine aRegion_auto (by decide +kernel) ?_ | fail))
          rw [hq]
          (repeat' (first | exact trivial | exact fun h => h | refine And.intro ?_ ?_ | (intro hb; first | (simp at hb; done) | (simp at hb) | skip) | omega | exact rfl | exact Nat.le_refl _ | (show _ + 1 ≤ 4294967296; omega) | (dsimp only; omega) | (show (_ : Int) ≤ (_ : Int); omega) | (show _ < List.length _; simp only [List.length_set, List.length_append, List.length_take]; omega) | (show wantB _ _ = true; simp; done) | (show wantB _ _ = true; simp; omega) | (show (_ : Bool) = _; simp_all; done) | (exfalso; omega) | refine aRegion_auto (by decide +kernel) ?_ | fail))
          refine ⟨[(0, .fptr RasT a), (4, .fptr RasT o), (15, .ptr 0 0), (16, .ptr 5 0), (17, .ptr 8 0), (18, .ptr 13 0), (20, .ptr 16 0), (21, .ptr 21 0)], ms W H a.2.2 (tl0 W H) X2 x2 X2 y2 Lz az X2 x2 Ly ay Lz az, Ent.ren [0, 1, 2, 3, 4, 5, 6, 7, 8, 9, 10, 11, 12, 13, 14, 15, 16, 17, 18, 19, 20, 21, 22, 23] rfl ?_ ?_, ?_⟩
          · (repeat' (first | exact trivial | exact rfl | refine And.intro ?_ ?_))
          · (repeat' (first | exact trivial | exact rfl | refine And.intro ?_ ?_))
          -- x.Merge(nil)
          (repeat' (first | exact trivial | exact fun h => h | refine And.intro ?_ ?_ | (intro hb; first | (simp at hb; done) | (simp at hb) | skip) | omega | exact rfl | exact Nat.le_refl _ | (show _ + 1 ≤ 4294967296; omega) | (dsimp only; omega) | (show (_ : Int) ≤ (_ : Int); omega) | (show _ < List.length _; simp only [List.length_set, List.length_append, List.length_take]; omega) | (show wantB _ _ = true; simp; done) | (show wantB _ _ = true; simp; omega) | (show (_ : Bool) = _; simp_all; done) | (exfalso; omega) | refine aRegion_auto (by decide +kernel) ?_ | fail))
          refine acall_frame [0, 1, 2, 3, 4] (dkA W H a.2.2 (nw a.2.2 X2) (tl0 W H) X2 x2 0) [.ptr 0 0, .fz .raw (.pointer none)] rfl ?_ ⟨rfl, rfl⟩ rfl (merge_nil E W H a.2.2 (nw a.2.2 X2) X2 x2 0 (tl0 W H) _ ?_)
          · (repeat' (first | exact trivial | exact rfl | refine And.intro ?_ ?_))
          have e3' := er_ea E (show 0 < 3 by decide)
          rw [e3']
          refine acall_frame0 rfl (acall_arg (coded_mercatorlaw5 hE (e := 3) (by decide) ((3 : Nat) : Int) _ ?_) (congrArg (fun z => [AV.fz .raw z, AV.fz int ((3 : Nat) : Int)]) e3'))
          rw [decide_eq_true rfl]
          refine ⟨[(0, .fptr RasT a), (4, .fptr RasT o), (15, .ptr 0 0), (16, .ptr 5 0), (17, .ptr 8 0), (18, .ptr 13 0), (20, .ptr 16 0), (21, .ptr 21 0), (32, .fz .bool true)], ms W H a.2.2 (tl0 W H) X2 x2 X2 y2 Lz az X2 x2 Ly ay Lz az, Ent.ren [0, 1, 2, 3, 4, 5, 6, 7, 8, 9, 10, 11, 12, 13, 14, 15, 16, 17, 18, 19, 20, 21, 22, 23] rfl ?_ ?_, ?_⟩
          · (repeat' (first | exact trivial | exact rfl | refine And.intro ?_ ?_))
          · (repeat' (first | exact trivial | exact rfl | refine And.intro ?_ ?_))
          -- the other raster's desk
          have ho2 : Bx (o.2.2.length ≤ 1000000) := ⟨by have := nums.out; omega⟩
          refine acall_frame0 rfl (new_any E o ho2.out _ (fun hr2 => ?_) (fun W2 H2 hr2 hW2 hH2 => ?_))
          · rw [er_ea E hr2]
            (repeat' (first | exact trivial | exact fun h => h | refine And.intro ?_ ?_ | (intro hb; first | (simp at hb; done) | (simp at hb) | skip) | omega | exact rfl | exact Nat.le_refl _ | (show _ + 1 ≤ 4294967296; omega) | (dsimp only; omega) | (show (_ : Int) ≤ (_ : Int); omega) | (show _ < List.length _; simp only [List.length_set, List.length_append, List.length_take]; omega) | (show wantB _ _ = true; simp; done) | (show wantB _ _ = true; simp; omega) | (show (_ : Bool) = _; simp_all; done) | (exfalso; omega) | refine aRegion_auto (by decide +kernel) ?_ | fail))
            refine ⟨.fz .bool true, [], REnt.ren [] rfl ?_ ?_, hK⟩
            · (repeat' (first | exact trivial | exact rfl | refine And.intro ?_ ?_))
            · (repeat' (first | exact trivial | exact rfl | refine And.intro ?_ ?_))
          · have hr2 := Bx.mk hr2
            have hW2 := Bx.mk hW2
            have hH2 := Bx.mk hH2
            (repeat' (first | exact trivial | exact fun h => h | refine And.intro ?_ ?_ | (intro hb; first | (simp at hb; done) | (simp at hb) | skip) | omega | exact rfl | exact Nat.le_refl _ | (show _ + 1 ≤ 4294967296; omega) | (dsimp only; omega) | (show (_ : Int) ≤ (_ : Int); omega) | (show _ < List.length _; simp only [List.length_set, List.length_append, List.length_take]; omega) | (show wantB _ _ = true; simp; done) | (show wantB _ _ = true; simp; omega) | (show (_ : Bool) = _; simp_all; done) | (exfalso; omega) | refine aRegion_auto (by decide +kernel) ?_ | fail))
            refine ⟨[(0, .fptr RasT a), (4, .fptr RasT o), (15, .ptr 0 0), (16, .ptr 5 0), (17, .ptr 8 0), (18, .ptr 13 0), (20, .ptr 16 0), (21, .ptr 21 0), (32, .fz .bool true), (33, .ptr 24 0)], (ms W H a.2.2 (tl0 W H) X2 x2 X2 y2 Lz az X2 x2 Ly ay Lz az) ++ nd W2 H2 o.2.2, Ent.ren [0, 1, 2, 3, 4, 5, 6, 7, 8, 9, 10, 11, 12, 13, 14, 15, 16, 17, 18, 19, 20, 21, 22, 23, 24, 25, 26, 27, 28] rfl ?_ ?_, ?_⟩
            · (repeat' (first | exact trivial | exact rfl | refine And.intro ?_ ?_))
            · (repeat' (first | exact trivial | exact rfl | refine And.intro ?_ ?_))
            by_cases cs : W2 = W ∧ H2 = H ∧ o.2.2 = a.2.2
            · obtain ⟨c1, c2, c3⟩ := cs
              have q1 : (o.1 == a.1) = true := by rw [beq_iff_eq, hW2.out, nums.out.1, c1]
              have q2 : (o.2.1 == a.2.1) = true := by rw [beq_iff_eq, hH2.out, nums.out.2.1, c2]
              (repeat' (first | exact trivial | exact fun h => h | refine And.intro ?_ ?_ | (intro hb; first | (simp at hb; done) | (simp at hb) | skip) | omega | exact rfl | exact Nat.le_refl _ | (show _ + 1 ≤ 4294967296; omega) | (dsimp only; omega) | (show (_ : Int) ≤ (_ : Int); omega) | (show _ < List.length _; simp only [List.length_set, List.length_append, List.length_take]; omega) | (show wantB _ _ = true; simp; done) | (show wantB _ _ = true; simp; omega) | (show (_ : Bool) = _; simp_all; done) | (exfalso; omega) | refine aRegion_auto (by decide +kernel) ?_ | fail))
              rw [q1]
              (repeat' (first | exact trivial | exact fun h => h | refine And.intro ?_ ?_ | (intro hb; first | (simp at hb; done) | (simp at hb) | skip) | omega | exact rfl | exact Nat.le_refl _ | (show _ + 1 ≤ 4294967296; omega) | (dsimp only; omega) | (show (_ : Int) ≤ (_ : Int); omega) | (show _ < List.length _; simp only [List.length_set, List.length_append, List.length_take]; omega) | (show wantB _ _ = true; simp; done) | (show wantB _ _ = true; simp; omega) | (show (_ : Bool) = _; simp_all; done) | (exfalso; omega) | refine aRegion_auto (by decide +kernel) ?_ | fail))
              rw [q2]
              (repeat' (first | exact trivial | exact fun h => h | refine And.intro ?_ ?_ | (intro hb; first | (simp at hb; done) | (simp at hb) | skip) | omega | exact rfl | exact Nat.le_refl _ | (show _ + 1 ≤ 4294967296; omega) | (dsimp only; omega) | (show (_ : Int) ≤ (_ : Int); omega) | (show _ < List.length _; simp only [List.length_set, List.length_append, List.length_take]; omega) | (show wantB _ _ = true; simp; done) | (show wantB _ _ = true; simp; omega) | (show (_ : Bool) = _; simp_all; done) | (exfalso; omega) | refine aRegion_auto (by decide +kernel) ?_ | fail))
              apply exEff
              · refine ⟨fun _ => ?_, fun h => absurd h (by simp)⟩
                (repeat' (first | refine And.intro ?_ ?_ | (show wantB _ _ = true; simp; done)))
                refine acall_frame0 rfl (sameInts_any _ o.2.2 a.2.2 (Nat.le_trans ho2.out (by decide)) (Nat.le_trans hfl.out.1 (by decide)) _ ?_)
                rw [decide_eq_true c3]
                exact ⟨rfl, rfl⟩
              (repeat' (first | exact trivial | exact fun h => h | refine And.intro ?_ ?_ | (intro hb; first | (simp at hb; done) | (simp at hb) | skip) | omega | exact rfl | exact Nat.le_refl _ | (show _ + 1 ≤ 4294967296; omega) | (dsimp only; omega) | (show (_ : Int) ≤ (_ : Int); omega) | (show _ < List.length _; simp only [List.length_set, List.length_append, List.length_take]; omega) | (show wantB _ _ = true; simp; done) | (show wantB _ _ = true; simp; omega) | (show (_ : Bool) = _; simp_all; done) | (exfalso; omega) | refine aRegion_auto (by decide +kernel) ?_ | fail))
              refine acall_frame [0, 24, 1, 2, 3, 4, 25, 26, 27, 28] (mgA W H a.2.2 (nw a.2.2 X2) (tl0 W H) X2 x2 0 W2 H2 o.2.2 o.2.2 (tl0 W2 H2) [] [] 0) [.ptr 0 0, .ptr 1 0] rfl ?_ ⟨rfl, rfl⟩ rfl (merge_any E W H a.2.2 X2 x2 0 W2 H2 o.2.2 o.2.2 (tl0 W2 H2) [] [] 0 hW0.out hW1.out hH1.out hfl.out.1 ho2.out dx2.srt dx2.inn n7.out.1 n7.out.2 (fun _ _ h => nomatch h) _ (fun h => absurd ⟨c1, c3⟩ h) (fun _ _ => ?_))
              · (repeat' (first | exact trivial | exact rfl | refine And.intro ?_ ?_))
              (repeat' (first | exact trivial | exact fun h => h | refine And.intro ?_ ?_ | (intro hb; first | (simp at hb; done) | (simp at hb) | skip) | omega | exact rfl | exact Nat.le_refl _ | (show _ + 1 ≤ 4294967296; omega) | (dsimp only; omega) | (show (_ : Int) ≤ (_ : Int); omega) | (show _ < List.length _; simp only [List.length_set, List.length_append, List.length_take]; omega) | (show wantB _ _ = true; simp; done) | (show wantB _ _ = true; simp; omega) | (show (_ : Bool) = _; simp_all; done) | (exfalso; omega) | refine aRegion_auto (by decide +kernel) ?_ | fail))
              refine ⟨.fz .bool true, [], REnt.ren [] rfl ?_ ?_, hK⟩
              · (repeat' (first | exact trivial | exact rfl | refine And.intro ?_ ?_))
              · (repeat' (first | exact trivial | exact rfl | refine And.intro ?_ ?_))
            · have hne : ¬ (W2 = W ∧ o.2.2 = a.2.2) := fun ⟨c1, c3⟩ => cs ⟨c1, by
                obtain ⟨_, _, _, _, j1⟩ := rerr_ok hr2.out
                obtain ⟨_, _, _, _, j2⟩ := rerr_ok hr.out
                rw [hW2.out, hH2.out, c3, c1] at j1
                rw [nums.out.1, nums.out.2.1] at j2
                have j3 : (W : Int) * H2 = W * H := j1.symm.trans j2
                have := Int.eq_of_mul_eq_mul_left (by have := hW0.out; omega) j3
                omega, c3⟩
              apply merge
              · intro hc
                by_cases c1 : W2 = W
                · have q1 : (o.1 == a.1) = true := by rw [beq_iff_eq, hW2.out, nums.out.1, c1]
                  by_cases c2 : H2 = H
                  · have q2 : (o.2.1 == a.2.1) = true := by rw [beq_iff_eq, hH2.out, nums.out.2.1, c2]
                    (repeat' (first | exact trivial | exact fun h => h | refine And.intro ?_ ?_ | (intro hb; first | (simp at hb; done) | (simp at hb) | skip) | omega | exact rfl | exact Nat.le_refl _ | (show _ + 1 ≤ 4294967296; omega) | (dsimp only; omega) | (show (_ : Int) ≤ (_ : Int); omega) | (show _ < List.length _; simp only [List.length_set, List.length_append, List.length_take]; omega) | (show wantB _ _ = true; simp; done) | (show wantB _ _ = true; simp; omega) | (show (_ : Bool) = _; simp_all; done) | (exfalso; omega) | refine aRegion_auto (by decide +kernel) ?_ | fail))
                    rw [q1]
                    (repeat' (first | exact trivial | exact fun h => h | refine And.intro ?_ ?_ | (intro hb; first | (simp at hb; done) | (simp at hb) | skip) | omega | exact rfl | exact Nat.le_refl _ | (show _ + 1 ≤ 4294967296; omega) | (dsimp only; omega) | (show (_ : Int) ≤ (_ : Int); omega) | (show _ < List.length _; simp only [List.length_set, List.length_append, List.length_take]; omega) | (show wantB _ _ = true; simp; done) | (show wantB _ _ = true; simp; omega) | (show (_ : Bool) = _; simp_all; done) | (exfalso; omega) | refine aRegion_auto (by decide +kernel) ?_ | fail))
                    rw [q2]
                    (repeat' (first | exact trivial | exact fun h => h | refine And.intro ?_ ?_ | (intro hb; first | (simp at hb; done) | (simp at hb) | skip) | omega | exact rfl | exact Nat.le_refl _ | (show _ + 1 ≤ 4294967296; omega) | (dsimp only; omega) | (show (_ : Int) ≤ (_ : Int); omega) | (show _ < List.length _; simp only [List.length_set, List.length_append, List.length_take]; omega) | (show wantB _ _ = true; simp; done) | (show wantB _ _ = true; simp; omega) | (show (_ : Bool) = _; simp_all; done) | (exfalso; omega) | refine aRegion_auto (by decide +kernel) ?_ | fail))
                    apply exEff
                    · refine ⟨fun _ => ?_, fun h => absurd h (by simp)⟩
                      (repeat' (first | refine And.intro ?_ ?_ | (show wantB _ _ = true; simp; done)))
                      refine acall_frame0 rfl (sameInts_any _ o.2.2 a.2.2 (Nat.le_trans ho2.out (by decide)) (Nat.le_trans hfl.out.1 (by decide)) _ ?_)
                      rw [decide_eq_false fun c3 => cs ⟨c1, c2, c3⟩]
                      exact ⟨rfl, rfl⟩
                    (repeat' (first | exact trivial | exact fun h => h | refine And.intro ?_ ?_ | (intro hb; first | (simp at hb; done) | (simp at hb) | skip) | omega | exact rfl | exact Nat.le_refl _ | (show _ + 1 ≤ 4294967296; omega) | (dsimp only; omega) | (show (_ : Int) ≤ (_ : Int); omega) | (show _ < List.length _; simp only [List.length_set, List.length_append, List.length_take]; omega) | (show wantB _ _ = true; simp; done) | (show wantB _ _ = true; simp; omega) | (show (_ : Bool) = _; simp_all; done) | (exfalso; omega) | refine aRegion_auto (by decide +kernel) ?_ | fail))
                    refine ⟨[(0, .fptr RasT a), (4, .fptr RasT o), (15, .ptr 0 0), (16, .ptr 5 0), (17, .ptr 8 0), (18, .ptr 13 0), (20, .ptr 16 0), (21, .ptr 21 0), (32, .fz .bool true), (33, .ptr 24 0)], (ms W H a.2.2 (tl0 W H) X2 x2 X2 y2 Lz az X2 x2 Ly ay Lz az) ++ nd W2 H2 o.2.2, Ent.sub rfl ?_, hc.out⟩
                    (repeat' (first | exact trivial | exact rfl | refine And.intro ?_ ?_))
                  · have q2 : (o.2.1 == a.2.1) = false := by rw [beq_eq_false_iff_ne, hH2.out, nums.out.2.1]; omega
                    (repeat' (first | exact trivial | exact fun h => h | refine And.intro ?_ ?_ | (intro hb; first | (simp at hb; done) | (simp at hb) | skip) | omega | exact rfl | exact Nat.le_refl _ | (show _ + 1 ≤ 4294967296; omega) | (dsimp only; omega) | (show (_ : Int) ≤ (_ : Int); omega) | (show _ < List.length _; simp only [List.length_set, List.length_append, List.length_take]; omega) | (show wantB _ _ = true; simp; done) | (show wantB _ _ = true; simp; omega) | (show (_ : Bool) = _; simp_all; done) | (exfalso; omega) | refine aRegion_auto (by decide +kernel) ?_ | fail))
                    rw [q1]
                    (repeat' (first | exact trivial | exact fun h => h | refine And.intro ?_ ?_ | (intro hb; first | (simp at hb; done) | (simp at hb) | skip) | omega | exact rfl | exact Nat.le_refl _ | (show _ + 1 ≤ 4294967296; omega) | (dsimp only; omega) | (show (_ : Int) ≤ (_ : Int); omega) | (show _ < List.length _; simp only [List.length_set, List.length_append, List.length_take]; omega) | (show wantB _ _ = true; simp; done) | (show wantB _ _ = true; simp; omega) | (show (_ : Bool) = _; simp_all; done) | (exfalso; omega) | refine aRegion_auto (by decide +kernel) ?_ | fail))
                    rw [q2]
                    (repeat' (first | exact trivial | exact fun h => h | refine And.intro ?_ ?_ | (intro hb; first | (simp at hb; done) | (simp at hb) | skip) | omega | exact rfl | exact Nat.le_refl _ | (show _ + 1 ≤ 4294967296; omega) | (dsimp only; omega) | (show (_ : Int) ≤ (_ : Int); omega) | (show _ < List.length _; simp only [List.length_set, List.length_append, List.length_take]; omega) | (show wantB _ _ = true; simp; done) | (show wantB _ _ = true; simp; omega) | (show (_ : Bool) = _; simp_all; done) | (exfalso; omega) | refine aRegion_auto (by decide +kernel) ?_ | fail))
                    apply exEff
                    · refine ⟨fun h => absurd h (by simp), fun _ => ?_⟩
                      exact ⟨rfl, rfl⟩
                    (repeat' (first | exact trivial | exact fun h => h | refine And.intro ?_ ?_ | (intro hb; first | (simp at hb; done) | (simp at hb) | skip) | omega | exact rfl | exact Nat.le_refl _ | (show _ + 1 ≤ 4294967296; omega) | (dsimp only; omega) | (show (_ : Int) ≤ (_ : Int); omega) | (show _ < List.length _; simp only [List.length_set, List.length_append, List.length_take]; omega) | (show wantB _ _ = true; simp; done) | (show wantB _ _ = true; simp; omega) | (show (_ : Bool) = _; simp_all; done) | (exfalso; omega) | refine aRegion_auto (by decide +kernel) ?_ | fail))
                    refine ⟨[(0, .fptr RasT a), (4, .fptr RasT o), (15, .ptr 0 0), (16, .ptr 5 0), (17, .ptr 8 0), (18, .ptr 13 0), (20, .ptr 16 0), (21, .ptr 21 0), (32, .fz .bool true), (33, .ptr 24 0)], (ms W H a.2.2 (tl0 W H) X2 x2 X2 y2 Lz az X2 x2 Ly ay Lz az) ++ nd W2 H2 o.2.2, Ent.sub rfl ?_, hc.out⟩
                    (repeat' (first | exact trivial | exact rfl | refine And.intro ?_ ?_))
                · have q1 : (o.1 == a.1) = false := by rw [beq_eq_false_iff_ne, hW2.out, nums.out.1]; omega
                  (repeat' (first | exact trivial | exact fun h => h | refine And.intro ?_ ?_ | (intro hb; first | (simp at hb; done) | (simp at hb) | skip) | omega | exact rfl | exact Nat.le_refl _ | (show _ + 1 ≤ 4294967296; omega) | (dsimp only; omega) | (show (_ : Int) ≤ (_ : Int); omega) | (show _ < List.length _; simp only [List.length_set, List.length_append, List.length_take]; omega) | (show wantB _ _ = true; simp; done) | (show wantB _ _ = true; simp; omega) | (show (_ : Bool) = _; simp_all; done) | (exfalso; omega) | refine aRegion_auto (by decide +kernel) ?_ | fail))
                  rw [q1]
                  (repeat' (first | exact trivial | exact fun h => h | refine And.intro ?_ ?_ | (intro hb; first | (simp at hb; done) | (simp at hb) | skip) | omega | exact rfl | exact Nat.le_refl _ | (show _ + 1 ≤ 4294967296; omega) | (dsimp only; omega) | (show (_ : Int) ≤ (_ : Int); omega) | (show _ < List.length _; simp only [List.length_set, List.length_append, List.length_take]; omega) | (show wantB _ _ = true; simp; done) | (show wantB _ _ = true; simp; omega) | (show (_ : Bool) = _; simp_all; done) | (exfalso; omega) | refine aRegion_auto (by decide +kernel) ?_ | fail))
                  apply exEff
                  · refine ⟨fun h => absurd h (by simp), fun _ => ?_⟩
                    exact ⟨rfl, rfl⟩
                  (repeat' (first | exact trivial | exact fun h => h | refine And.intro ?_ ?_ | (intro hb; first | (simp at hb; done) | (simp at hb) | skip) | omega | exact rfl | exact Nat.le_refl _ | (show _ + 1 ≤ 4294967296; omega) | (dsimp only; omega) | (show (_ : Int) ≤ (_ : Int); omega) | (show _ < List.length _; simp only [List.length_set, List.length_append, List.length_take]; omega) | (show wantB _ _ = true; simp; done) | (show wantB _ _ = true; simp; omega) | (show (_ : Bool) = _; simp_all; done) | (exfalso; omega) | refine aRegion_auto (by decide +kernel) ?_ | fail))
                  refine ⟨[(0, .fptr RasT a), (4, .fptr RasT o), (15, .ptr 0 0), (16, .ptr 5 0), (17, .ptr 8 0), (18, .ptr 13 0), (20, .ptr 16 0), (21, .ptr 21 0), (32, .fz .bool true), (33, .ptr 24 0)], (ms W H a.2.2 (tl0 W H) X2 x2 X2 y2 Lz az X2 x2 Ly ay Lz az) ++ nd W2 H2 o.2.2, Ent.sub rfl ?_, hc.out⟩
                  (repeat' (first | exact trivial | exact rfl | refine And.intro ?_ ?_))
              · (repeat' (first | exact trivial | exact fun h => h | refine And.intro ?_ ?_ | (intro hb; first | (simp at hb; done) | (simp at hb) | skip) | omega | exact rfl | exact Nat.le_refl _ | (show _ + 1 ≤ 4294967296; omega) | (dsimp only; omega) | (show (_ : Int) ≤ (_ : Int); omega) | (show _ < List.length _; simp only [List.length_set, List.length_append, List.length_take]; omega) | (show wantB _ _ = true; simp; done) | (show wantB _ _ = true; simp; omega) | (show (_ : Bool) = _; simp_all; done) | (exfalso; omega) | refine aRegion_auto (by decide +kernel) ?_ | fail))
                refine acall_frame [0, 24, 1, 2, 3, 4, 25, 26, 27, 28] (mgA W H a.2.2 (nw a.2.2 X2) (tl0 W H) X2 x2 0 W2 H2 o.2.2 o.2.2 (tl0 W2 H2) [] [] 0) [.ptr 0 0, .ptr 1 0] rfl ?_ ⟨rfl, rfl⟩ rfl (merge_any E W H a.2.2 X2 x2 0 W2 H2 o.2.2 o.2.2 (tl0 W2 H2) [] [] 0 hW0.out hW1.out hH1.out hfl.out.1 ho2.out dx2.srt dx2.inn n7.out.1 n7.out.2 (fun _ _ h => nomatch h) _ (fun _ => ?_) (fun c1 c3 => absurd ⟨c1, c3⟩ hne))
                · (repeat' (first | exact trivial | exact rfl | refine And.intro ?_ ?_))
                rw [e3']
                (repeat' (first | exact trivial | exact fun h => h | refine And.intro ?_ ?_ | (intro hb; first | (simp at hb; done) | (simp at hb) | skip) | omega | exact rfl | exact Nat.le_refl _ | (show _ + 1 ≤ 4294967296; omega) | (dsimp only; omega) | (show (_ : Int) ≤ (_ : Int); omega) | (show _ < List.length _; simp only [List.length_set, List.length_append, List.length_take]; omega) | (show wantB _ _ = true; simp; done) | (show wantB _ _ = true; simp; omega) | (show (_ : Bool) = _; simp_all; done) | (exfalso; omega) | refine aRegion_auto (by decide +kernel) ?_ | fail))
                refine acall_frame0 rfl (acall_arg (coded_mercatorlaw5 hE (e := 3) (by decide) ((3 : Nat) : Int) _ ?_) (congrArg (fun z => [AV.fz .raw z, AV.fz int ((3 : Nat) : Int)]) e3'))
                rw [decide_eq_true rfl]
                (repeat' (first | exact trivial | exact fun h => h | refine And.intro ?_ ?_ | (intro hb; first | (simp at hb; done) | (simp at hb) | skip) | omega | exact rfl | exact Nat.le_refl _ | (show _ + 1 ≤ 4294967296; omega) | (dsimp only; omega) | (show (_ : Int) ≤ (_ : Int); omega) | (show _ < List.length _; simp only [List.length_set, List.length_append, List.length_take]; omega) | (show wantB _ _ = true; simp; done) | (show wantB _ _ = true; simp; omega) | (show (_ : Bool) = _; simp_all; done) | (exfalso; omega) | refine aRegion_auto (by decide +kernel) ?_ | fail))
                refine acall_frame [0, 5, 6, 7, 1, 2, 3, 4] (bo2 W H a.2.2 (nw a.2.2 X2) (tl0 W H) X2 x2 0 X2 x2) [.ptr 0 0, .ptr 1 0] rfl ?_ ⟨rfl, rfl⟩ rfl (is_any _ W H a.2.2 (tl0 W H) X2 x2 0 x2 (Nat.le_trans hfl.out.1 (by decide)) (Nat.le_trans n7.out.1 (by decide)) dx2.inn _ ?_)
                · (repeat' (first | exact trivial | exact rfl | refine And.intro ?_ ?_))
                (repeat' (first | exact trivial | exact fun h => h | refine And.intro ?_ ?_ | (intro hb; first | (simp at hb; done) | (simp at hb) | skip) | omega | exact rfl | exact Nat.le_refl _ | (show _ + 1 ≤ 4294967296; omega) | (dsimp only; omega) | (show (_ : Int) ≤ (_ : Int); omega) | (show _ < List.length _; simp only [List.length_set, List.length_append, List.length_take]; omega) | (show wantB _ _ = true; simp; done) | (show wantB _ _ = true; simp; omega) | (show (_ : Bool) = _; simp_all; done) | (exfalso; omega) | refine aRegion_auto (by decide +kernel) ?_ | fail))
                refine ⟨.fz .bool true, [], REnt.ren [] rfl ?_ ?_, hK⟩
                · (repeat' (first | exact trivial | exact rfl | refine And.intro ?_ ?_))
                · (repeat' (first | exact trivial | exact rfl | refine And.intro ?_ ?_))
    · have hb : decide (0 < ((rerr a : Nat) : Int)) = true := by rw [decide_eq_true_eq]; omega
      (repeat' (first | exact trivial | exact fun h => h | refine And.intro ?_ ?_ | (intro hb; first | (simp at hb; done) | (simp at hb) | skip) | omega | exact rfl | exact Nat.le_refl _ | (show _ + 1 ≤ 4294967296; omega) | (dsimp only; omega) | (show (_ : Int) ≤ (_ : Int); omega) | (show _ < List.length _; simp only [List.length_set, List.length_append, List.length_take]; omega) | (show wantB _ _ = true; simp; done) | (show wantB _ _ = true; simp; omega) | (show (_ : Bool) = _; simp_all; done) | (exfalso; omega) | refine aRegion_auto (by decide +kernel) ?_ | fail))
      · (repeat' (first | exact trivial | exact fun h => h | refine And.intro ?_ ?_ | (intro hb; first | (simp at hb; done) | (simp at hb) | skip) | omega | exact rfl | exact Nat.le_refl _ | (show _ + 1 ≤ 4294967296; omega) | (dsimp only; omega) | (show (_ : Int) ≤ (_ : Int); omega) | (show _ < List.length _; simp only [List.length_set, List.length_append, List.length_take]; omega) | (show wantB _ _ = true; simp; done) | (show wantB _ _ = true; simp; omega) | (show (_ : Bool) = _; simp_all; done) | (exfalso; omega) | refine aRegion_auto (by decide +kernel) ?_ | fail))
        exact ⟨_, _, REnt.drop ⟨rfl, rfl⟩, hK⟩
  · cases h1 : smB a.2.2.length l
    · cases smB a.2.2.length m <;> cases smB o.2.2.length n
      all_goals
        (repeat' (first | exact trivial | exact fun h => h | refine And.intro ?_ ?_ | (intro hb; first | (simp at hb; done) | (simp at hb) | skip) | omega | exact rfl | exact Nat.le_refl _ | (show _ + 1 ≤ 4294967296; omega) | (dsimp only; omega) | (show (_ : Int) ≤ (_ : Int); omega) | (show _ < List.length _; simp only [List.length_set, List.length_append, List.length_take]; omega) | (show wantB _ _ = true; simp; done) | (show wantB _ _ = true; simp; omega) | (show (_ : Bool) = _; simp_all; done) | (exfalso; omega) | refine aRegion_auto (by decide +kernel) ?_ | fail))
        exact ⟨_, _, REnt.drop ⟨rfl, rfl⟩, hK⟩
    · cases h2 : smB a.2.2.length m
      · cases smB o.2.2.length n
        all_goals
          (repeat' (first | exact trivial | exact fun h => h | refine And.intro ?_ ?_ | (intro hb; first | (simp at hb; done) | (simp at hb) | skip) | omega | exact rfl | exact Nat.le_refl _ | (show _ + 1 ≤ 4294967296; omega) | (dsimp only; omega) | (show (_ : Int) ≤ (_ : Int); omega) | (show _ < List.length _; simp only [List.length_set, List.length_append, List.length_take]; omega) | (show wantB _ _ = true; simp; done) | (show wantB _ _ = true; simp; omega) | (show (_ : Bool) = _; simp_all; done) | (exfalso; omega) | refine aRegion_auto (by decide +kernel) ?_ | fail))
          exact ⟨_, _, REnt.drop ⟨rfl, rfl⟩, hK⟩
      · cases h3 : smB o.2.2.length n
        · (repeat' (first | exact trivial | exact fun h => h | refine And.intro ?_ ?_ | (intro hb; first | (simp at hb; done) | (simp at hb) | skip) | omega | exact rfl | exact Nat.le_refl _ | (show _ + 1 ≤ 4294967296; omega) | (dsimp only; omega) | (show (_ : Int) ≤ (_ : Int); omega) | (show _ < List.length _; simp only [List.length_set, List.length_append, List.length_take]; omega) | (show wantB _ _ = true; simp; done) | (show wantB _ _ = true; simp; omega) | (show (_ : Bool) = _; simp_all; done) | (exfalso; omega) | refine aRegion_auto (by decide +kernel) ?_ | fail))
          exact ⟨_, _, REnt.drop ⟨rfl, rfl⟩, hK⟩
        · exact absurd ⟨h1, h2, h3⟩ hsm
end Go.Proofs.YtiflieijbmaocaaDoor
/-
  DeskMerges: asked without a raster.
-/
namespace Go.Proofs.YtiflieijbmaocaaDoor
open Go Go.Ab Go.RowKit
set_option maxRecDepth 100000
open Dk
theorem merges_nn (E : Errs) (l m n : List Dk.E) (hl : l.length ≤ 9223372036854775807) (hm : m.length ≤ 9223372036854775807) (hn : n.length ≤ 9223372036854775807) (K : AV → List AO → Prop) (hK : K (.fz .bool true) []) :
    ACall Tryd.prog (G8 E) 5 [.fz .raw (.pointer none), .fz (.list EdT) l, .fz (.list EdT) m, .fz (.list EdT) n, .fz .raw (.pointer none)] [] K := by
  refine acall_mk (E := envAt (G8 E) 286 0) (envOk _ _ _) Tryd.func5 rfl rfl rfl rfl rfl ?_
  (repeat' (first | exact trivial | exact fun h => h | refine And.intro ?_ ?_ | (intro hb; first | (simp at hb; done) | (simp at hb) | skip) | omega | exact rfl | exact Nat.le_refl _ | (show _ + 1 ≤ 4294967296; omega) | (dsimp only; omega) | (show (_ : Int) ≤ (_ : Int); omega) | (show _ < List.length _; simp only [List.length_set, List.length_append, List.length_take]; omega) | (show wantB _ _ = true; simp; done) | (show wantB _ _ = true; simp; omega) | (show (_ : Bool) = _; simp_all; done) | (exfalso; omega) | refine aRegion_auto (by decide +kernel) ?_ | fail))
  refine acall_frame0 rfl (desked_any E _ ?_)
  (repeat' (first | exact trivial | exact fun h => h | refine And.intro ?_ ?_ | (intro hb; first | (simp at hb; done) | (simp at hb) | skip) | omega | exact rfl | exact Nat.le_refl _ | (show _ + 1 ≤ 4294967296; omega) | (dsimp only; omega) | (show (_ : Int) ≤ (_ : Int); omega) | (show _ < List.length _; simp only [List.length_set, List.length_append, List.length_take]; omega) | (show wantB _ _ = true; simp; done) | (show wantB _ _ = true; simp; omega) | (show (_ : Bool) = _; simp_all; done) | (exfalso; omega) | refine aRegion_auto (by decide +kernel) ?_ | fail))
  refine acall_frame0 rfl (small_nil _ l hl _ ?_)
  (repeat' (first | exact trivial | exact fun h => h | refine And.intro ?_ ?_ | (intro hb; first | (simp at hb; done) | (simp at hb) | skip) | omega | exact rfl | exact Nat.le_refl _ | (show _ + 1 ≤ 4294967296; omega) | (dsimp only; omega) | (show (_ : Int) ≤ (_ : Int); omega) | (show _ < List.length _; simp only [List.length_set, List.length_append, List.length_take]; omega) | (show wantB _ _ = true; simp; done) | (show wantB _ _ = true; simp; omega) | (show (_ : Bool) = _; simp_all; done) | (exfalso; omega) | refine aRegion_auto (by decide +kernel) ?_ | fail))
  refine acall_frame0 rfl (small_nil _ m hm _ ?_)
  (repeat' (first | exact trivial | exact fun h => h | refine And.intro ?_ ?_ | (intro hb; first | (simp at hb; done) | (simp at hb) | skip) | omega | exact rfl | exact Nat.le_refl _ | (show _ + 1 ≤ 4294967296; omega) | (dsimp only; omega) | (show (_ : Int) ≤ (_ : Int); omega) | (show _ < List.length _; simp only [List.length_set, List.length_append, List.length_take]; omega) | (show wantB _ _ = true; simp; done) | (show wantB _ _ = true; simp; omega) | (show (_ : Bool) = _; simp_all; done) | (exfalso; omega) | refine aRegion_auto (by decide +kernel) ?_ | fail))
  refine acall_frame0 rfl (small_nil _ n hn _ ?_)
  (repeat' (first | exact trivial | exact fun h => h | refine And.intro ?_ ?_ | (intro hb; first | (simp at hb; done) | (simp at hb) | skip) | omega | exact rfl | exact Nat.le_refl _ | (show _ + 1 ≤ 4294967296; omega) | (dsimp only; omega) | (show (_ : Int) ≤ (_ : Int); omega) | (show _ < List.length _; simp only [List.length_set, List.length_append, List.length_take]; omega) | (show wantB _ _ = true; simp; done) | (show wantB _ _ = true; simp; omega) | (show (_ : Bool) = _; simp_all; done) | (exfalso; omega) | refine aRegion_auto (by decide +kernel) ?_ | fail))
  exact ⟨_, _, REnt.drop ⟨rfl, rfl⟩, hK⟩
theorem merges_ns (E : Errs) (o : Ras) (l m n : List Dk.E) (ho : o.2.2.length ≤ 9223372036854775807) (hl : l.length ≤ 9223372036854775807) (hm : m.length ≤ 9223372036854775807) (hn : n.length ≤ 9223372036854775807) (K : AV → List AO → Prop) (hK : K (.fz .bool true) []) :
    ACall Tryd.prog (G8 E) 5 [.fz .raw (.pointer none), .fz (.list EdT) l, .fz (.list EdT) m, .fz (.list EdT) n, .fptr RasT o] [] K := by
  refine acall_mk (E := envAt (G8 E) 286 0) (envOk _ _ _) Tryd.func5 rfl rfl rfl rfl rfl ?_
  (repeat' (first | exact trivial | exact fun h => h | refine And.intro ?_ ?_ | (intro hb; first | (simp at hb; done) | (simp at hb) | skip) | omega | exact rfl | exact Nat.le_refl _ | (show _ + 1 ≤ 4294967296; omega) | (dsimp only; omega) | (show (_ : Int) ≤ (_ : Int); omega) | (show _ < List.length _; simp only [List.length_set, List.length_append, List.length_take]; omega) | (show wantB _ _ = true; simp; done) | (show wantB _ _ = true; simp; omega) | (show (_ : Bool) = _; simp_all; done) | (exfalso; omega) | refine aRegion_auto (by decide +kernel) ?_ | fail))
  refine acall_frame0 rfl (desked_any E _ ?_)
  (repeat' (first | exact trivial | exact fun h => h | refine And.intro ?_ ?_ | (intro hb; first | (simp at hb; done) | (simp at hb) | skip) | omega | exact rfl | exact Nat.le_refl _ | (show _ + 1 ≤ 4294967296; omega) | (dsimp only; omega) | (show (_ : Int) ≤ (_ : Int); omega) | (show _ < List.length _; simp only [List.length_set, List.length_append, List.length_take]; omega) | (show wantB _ _ = true; simp; done) | (show wantB _ _ = true; simp; omega) | (show (_ : Bool) = _; simp_all; done) | (exfalso; omega) | refine aRegion_auto (by decide +kernel) ?_ | fail))
  refine acall_frame0 rfl (small_nil _ l hl _ ?_)
  (repeat' (first | exact trivial | exact fun h => h | refine And.intro ?_ ?_ | (intro hb; first | (simp at hb; done) | (simp at hb) | skip) | omega | exact rfl | exact Nat.le_refl _ | (show _ + 1 ≤ 4294967296; omega) | (dsimp only; omega) | (show (_ : Int) ≤ (_ : Int); omega) | (show _ < List.length _; simp only [List.length_set, List.length_append, List.length_take]; omega) | (show wantB _ _ = true; simp; done) | (show wantB _ _ = true; simp; omega) | (show (_ : Bool) = _; simp_all; done) | (exfalso; omega) | refine aRegion_auto (by decide +kernel) ?_ | fail))
  refine acall_frame0 rfl (small_nil _ m hm _ ?_)
  (repeat' (first | exact trivial | exact fun h => h | refine And.intro ?_ ?_ | (intro hb; first | (simp at hb; done) | (simp at hb) | skip) | omega | exact rfl | exact Nat.le_refl _ | (show _ + 1 ≤ 4294967296; omega) | (dsimp only; omega) | (show (_ : Int) ≤ (_ : Int); omega) | (show _ < List.length _; simp only [List.length_set, List.length_append, List.length_take]; omega) | (show wantB _ _ = true; simp; done) | (show wantB _ _ = true; simp; omega) | (show (_ : Bool) = _; simp_all; done) | (exfalso; omega) | refine aRegion_auto (by decide +kernel) ?_ | fail))
  refine acall_frame0 rfl (small_some _ o n hn ho _ ?_)
  cases smB o.2.2.length n
  all_goals
    (repeat' (first | exact trivial | exact fun h => h | refine And.intro ?_ ?_ | (intro hb; first | (simp at hb; done) | (simp at hb) | skip) | omega | exact rfl | exact Nat.le_refl _ | (show _ + 1 ≤ 4294967296; omega) | (dsimp only; omega) | (show (_ : Int) ≤ (_ : Int); omega) | (show _ < List.length _; simp only [List.length_set, List.length_append, List.length_take]; omega) | (show wantB _ _ = true; simp; done) | (show wantB _ _ = true; simp; omega) | (show (_ : Bool) = _; simp_all; done) | (exfalso; omega) | refine aRegion_auto (by decide +kernel) ?_ | fail))
    exact ⟨_, _, REnt.drop ⟨rfl, rfl⟩, hK⟩
theorem merges_sn (E : Errs) (a : Ras) (l m n : List Dk.E) (ha : a.2.2.length ≤ 9223372036854775807) (hl : l.length ≤ 9223372036854775807) (hm : m.length ≤ 9223372036854775807) (hn : n.length ≤ 9223372036854775807) (K : AV → List AO → Prop) (hK : K (.fz .bool true) []) :
    ACall Tryd.prog (G8 E) 5 [.fptr RasT a, .fz (.list EdT) l, .fz (.list EdT) m, .fz (.list EdT) n, .fz .raw (.pointer none)] [] K := by
  refine acall_mk (E := envAt (G8 E) 286 0) (envOk _ _ _) Tryd.func5 rfl rfl rfl rfl rfl ?_
  (repeat' (first | exact trivial | exact fun h => h | refine And.intro ?_ ?_ | (intro hb; first | (simp at hb; done) | (simp at hb) | skip) | omega | exact rfl | exact Nat.le_refl _ | (show _ + 1 ≤ 4294967296; omega) | (dsimp only; omega) | (show (_ : Int) ≤ (_ : Int); omega) | (show _ < List.length _; simp only [List.length_set, List.length_append, List.length_take]; omega) | (show wantB _ _ = true; simp; done) | (show wantB _ _ = true; simp; omega) | (show (_ : Bool) = _; simp_all; done) | (exfalso; omega) | refine aRegion_auto (by decide +kernel) ?_ | fail))
  refine acall_frame0 rfl (desked_any E _ ?_)
  (repeat' (first | exact trivial | exact fun h => h | refine And.intro ?_ ?_ | (intro hb; first | (simp at hb; done) | (simp at hb) | skip) | omega | exact rfl | exact Nat.le_refl _ | (show _ + 1 ≤ 4294967296; omega) | (dsimp only; omega) | (show (_ : Int) ≤ (_ : Int); omega) | (show _ < List.length _; simp only [List.length_set, List.length_append, List.length_take]; omega) | (show wantB _ _ = true; simp; done) | (show wantB _ _ = true; simp; omega) | (show (_ : Bool) = _; simp_all; done) | (exfalso; omega) | refine aRegion_auto (by decide +kernel) ?_ | fail))
  refine acall_frame0 rfl (small_some _ a l hl ha _ ?_)
  (repeat' (first | exact trivial | exact fun h => h | refine And.intro ?_ ?_ | (intro hb; first | (simp at hb; done) | (simp at hb) | skip) | omega | exact rfl | exact Nat.le_refl _ | (show _ + 1 ≤ 4294967296; omega) | (dsimp only; omega) | (show (_ : Int) ≤ (_ : Int); omega) | (show _ < List.length _; simp only [List.length_set, List.length_append, List.length_take]; omega) | (show wantB _ _ = true; simp; done) | (show wantB _ _ = true; simp; omega) | (show (_ : Bool) = _; simp_all; done) | (exfalso; omega) | refine aRegion_auto (by decide +kernel) ?_ | fail))
  refine acall_frame0 rfl (small_some _ a m hm ha _ ?_)
  (repeat' (first | exact trivial | exact fun h => h | refine And.intro ?_ ?_ | (intro hb; first | (simp at hb; done) | (simp at hb) | skip) | omega | exact rfl | exact Nat.le_refl _ | (show _ + 1 ≤ 4294967296; omega) | (dsimp only; omega) | (show (_ : Int) ≤ (_ : Int); omega) | (show _ < List.length _; simp only [List.length_set, List.length_append, List.length_take]; omega) | (show wantB _ _ = true; simp; done) | (show wantB _ _ = true; simp; omega) | (show (_ : Bool) = _; simp_all; done) | (exfalso; omega) | refine aRegion_auto (by decide +kernel) ?_ | fail))
  refine acall_frame0 rfl (small_nil _ n hn _ ?_)
  cases smB a.2.2.length l <;> cases smB a.2.2.length m
  all_goals
    (repeat' (first | exact trivial | exact fun h => h | refine And.intro ?_ ?_ | (intro hb; first | (simp at hb; done) | (simp at hb) | skip) | omega | exact rfl | exact Nat.le_refl _ | (show _ + 1 ≤ 4294967296; omega) | (dsimp only; omega) | (show (_ : Int) ≤ (_ : Int); omega) | (show _ < List.length _; simp only [List.length_set, List.length_append, List.length_take]; omega) | (show wantB _ _ = true; simp; done) | (show wantB _ _ = true; simp; omega) | (show (_ : Bool) = _; simp_all; done) | (exfalso; omega) | refine aRegion_auto (by decide +kernel) ?_ | fail))
    exact ⟨_, _, REnt.drop ⟨rfl, rfl⟩, hK⟩
end Go.Proofs.YtiflieijbmaocaaDoor
/-
  What the laid variables give: eight errors, all different, and the handle of type error.
-/
namespace Go.Proofs.YtiflieijbmaocaaDoor
open Go Go.Ab Go.RowKit Go.ChangeShapes
set_option maxRecDepth 100000
theorem star : "*" ++ "errors.errorString" = "*errors.errorString" := by decide
theorem names_at (u : TypeId) (h : Tryd.prog.typeName? 3 u = some "*errors.errorString") : u = 137 :=
  typeName_ptr_named (nm := "errors.errorString") (by rw [star]; kernel_rfl) (by kernel_rfl) (by decide) u (by rw [star]; exact h)
theorem cells_es : Tryd.prog.cellsOf 159 = 1 := by kernel_rfl
theorem cells_str : Tryd.prog.cellsOf 9 = 1 := by kernel_rfl
theorem glob_ty (g : Nat) (hg : g ∈ [2, 1, 0, 3, 4, 5, 6, 7]) :
    ∃ ti ms, (Tryd.prog.globals[g]?).map (·.type) = some ti ∧ Tryd.prog.underlying ti = some (.interface ms) := by
  have : ([2, 1, 0, 3, 4, 5, 6, 7].all fun g => (Tryd.prog.globals[g]?).map (·.type) == some 39) = true := by kernel_rfl
  exact ⟨39, _, by simpa using List.all_eq_true.1 this g hg, Tryd.underlying39⟩
theorem et_at : Tryd.prog.globalNamed "errors.errorType" = some 8 := by kernel_rfl
theorem rt_at : (Tryd.prog.cutTypes.find? (·.1 == "internal/reflectlite.rtype")).map (·.2) = some 122 := by kernel_rfl
theorem one_row : ((List.range Tryd.prog.types.size).filter fun t => Tryd.prog.rowNamed t [101, 114, 114, 111, 114]) = [39] := by kernel_rfl
/-- of a list of the eight errors and the handle -/
theorem globs8 {W : World} {l : List (String × DataW Unit)} {x1 x2 x3 x4 x5 x6 x7 x8 : List UInt8} (h : laidMetH Tryd.prog l W)
    (hl : (l.filter fun x => x.2.handleName?.isNone) = [("mercator/api.ErrText", errD x1), ("mercator/api.ErrBound", errD x2), ("mercator/api.ErrShape", errD x3), ("mercator/api.ErrRange", errD x4), ("mercator/api.ErrName", errD x5), ("mercator/api.ErrNone", errD x6), ("mercator/api.ErrOrder", errD x7), ("mercator/api.ErrFile", errD x8)])
    (hh : (l.filter fun x => x.2.handleName?.isSome) = [("errors.errorType", .iface "internal/reflectlite.rtype" (.agg [.ptr (.lit (.string [101, 114, 114, 111, 114]))]))]) :
    ∃ E : Errs, (EL E).Nodup ∧ ∀ g v, gk (G8 E) g = some v → Glo0 W g v := by
  obtain ⟨h1, h2⟩ := laidMetH_iff.1 h
  rw [hl] at h1
  rw [hh] at h2
  obtain ⟨ps, hv, hn, hall⟩ := h1
  obtain ⟨al, k1, k2, k3, _⟩ := laid_errs names_at Tryd.underlying137 Tryd.underlying159 rfl rfl Tryd.underlying9 cells_es cells_str
    [("mercator/api.ErrText", x1), ("mercator/api.ErrBound", x2), ("mercator/api.ErrShape", x3), ("mercator/api.ErrRange", x4), ("mercator/api.ErrName", x5), ("mercator/api.ErrNone", x6), ("mercator/api.ErrOrder", x7), ("mercator/api.ErrFile", x8)]
    [2, 1, 0, 3, 4, 5, 6, 7] ps hv hn hall (by kernel_rfl) glob_ty
  obtain ⟨a1, a2, a3, a4, a5, a6, a7, a8, rfl⟩ : ∃ a1 a2 a3 a4 a5 a6 a7 a8, al = [a1, a2, a3, a4, a5, a6, a7, a8] := by
    match al, k1 with
    | [a1, a2, a3, a4, a5, a6, a7, a8], _ => exact ⟨a1, a2, a3, a4, a5, a6, a7, a8, rfl⟩
  have hE : Glo0 W 8 asK.errType := by
    obtain ⟨name, u, ty, e1, e2, e3, e4, e5⟩ := h2 _ (List.mem_singleton.2 rfl)
    have en : name = [101, 114, 114, 111, 114] := (Option.some.inj e1).symm
    subst en
    obtain rfl := Option.some.inj (rt_at.symm.trans e2)
    have hm : ty ∈ (List.range Tryd.prog.types.size).filter fun t => Tryd.prog.rowNamed t [101, 114, 114, 111, 114] := List.mem_filter.2 ⟨List.mem_range.2 e3, e4⟩
    rw [one_row] at hm
    obtain rfl := List.mem_singleton.1 hm
    have hh : typeHandle Tryd.prog 39 = .pointer (some ⟨10, 39, none⟩) := by kernel_rfl
    rw [hh] at e5
    exact ⟨by simpa [asK.errType] using World.var?_cell et_at e5 0, rfl, fun T a e => by cases e⟩
  refine ⟨⟨a1, a2, a3, a4, a5, a6, a7, a8⟩, k2, fun g v hg => ?_⟩
  unfold G8 gk at hg
  split at hg
  · rename_i e; subst e; cases hg; exact k3 2 _ _ rfl rfl
  unfold gk at hg
  split at hg
  · rename_i e; subst e; cases hg; exact k3 3 _ _ rfl rfl
  unfold gk at hg
  split at hg
  · rename_i e; subst e; cases hg; exact k3 1 _ _ rfl rfl
  unfold gk at hg
  split at hg
  · rename_i e; subst e; cases hg; exact k3 0 _ _ rfl rfl
  unfold gk at hg
  split at hg
  · rename_i e; subst e; cases hg; exact k3 4 _ _ rfl rfl
  unfold gk at hg
  split at hg
  · rename_i e; subst e; cases hg; exact k3 5 _ _ rfl rfl
  unfold gk at hg
  split at hg
  · rename_i e; subst e; cases hg; exact k3 6 _ _ rfl rfl
  unfold gk at hg
  split at hg
  · rename_i e; subst e; cases hg; exact k3 7 _ _ rfl rfl
  unfold gk at hg
  split at hg
  · rename_i e; subst e; cases hg; exact hE
  · cases hg
end Go.Proofs.YtiflieijbmaocaaDoor
/-
  Arguments read again behind a call that leaves old memory alone; a slice of points opened.
-/
namespace Go.Proofs.YtiflieijbmaocaaDoor
open Go Go.ChangeShapes Go.WideShapes Go.ChangeAt Go.RowKit
theorem trodAll_below {H : Type} {enc : TypeId × Value → H} {P : Program} (hl : laidOutB P = true) {W W' : World} (hb : Below W.heap.size W W') :
    ∀ (ts : List TypeId) (vs : List Value) (ds : List (DataW H)) (ps : List MemPlace), (∀ t ∈ ts, P.readableRec t = true ∧ t < P.types.size) →
      DataW.TrodAll enc P W 0 (fun _ => true) true ts vs ds ps → (∀ x ∈ ps, x.block < W.heap.size) →
      DataW.TrodAll enc P W' 0 (fun b => decide (b < W.heap.size)) true ts vs ds ps
  | [], [], [], ps, _, h, _ => h
  | [], [], _ :: _, _, _, h, _ => h.elim
  | [], _ :: _, _, _, _, h, _ => h.elim
  | _ :: _, [], _, _, _, h, _ => h.elim
  | _ :: _, _ :: _, [], _, _, h, _ => h.elim
  | t :: ts, v :: vs, d :: ds, ps, hr, h, hlt => by
    obtain ⟨p, q, h1, h2, rfl⟩ := h
    refine ⟨p, q, Below.trod hl (hr t (List.mem_cons_self ..)).1 (hr t (List.mem_cons_self ..)).2 h1 hb (fun x hx => hlt x (List.mem_append.2 (.inl hx))), ?_, rfl⟩
    exact trodAll_below hl hb ts vs ds q (fun t ht => hr t (List.mem_cons_of_mem _ ht)) h2 (fun x hx => hlt x (List.mem_append.2 (.inr hx)))
end Go.Proofs.YtiflieijbmaocaaDoor
/-
  DeskMerges answers true, whatever it is asked (no condition).
-/
namespace Go.Proofs.YtiflieijbmaocaaDoor.deskMerges
open Go Dk Go.ChangeShapes Go.WideShapes Go.ChangeAt Go.RowKit Go.Ab
set_option maxRecDepth 100000
theorem own : ownKnob Tryd.prog.godebug = none := by kernel_rfl
theorem laidOut : laidOutB Tryd.prog = true := by kernel_rfl
theorem lifted (os : Os) (started : os.Started) (H : Type) (enc : TypeId × Value → H) :
    ReturnsInHanded {} Tryd.checked os 5 .any (fun w args => (Rows.deskMergesSpec.pre enc Tryd.prog Tryd.f5 [] false w args ∧ laidMetH Tryd.prog Rows.deskMergesRow.laid w) ∧ sizedMet enc Tryd.prog Tryd.f5 (OpenSpec.ofChange Rows.deskMergesSpec) false w args)
      (Rows.deskMergesSpec.post enc Tryd.prog Tryd.f5 false true false false) := by
  refine returnsInHanded_of_change_and (C := Tryd.checked) (X := fun w _ => laidMetH Tryd.prog Rows.deskMergesRow.laid w) (fun _ _ _ hh h => h.of_heap hh) own started (by kernel_rfl) Tryd.func5
    (ChangeSpec.witness_shaped (enc := enc) (C := Tryd.checked) (os := os) (X := fun w _ => laidMetH Tryd.prog Rows.deskMergesRow.laid w) false (World.doorLaid Tryd.prog 400 os) #[.pointer none, .slice none 0 0, .slice none 0 0, .slice none 0 0, .pointer none] 8 rfl (World.shaped_of_RefB (by kernel_rfl) (by kernel_rfl)) (by kernel_rfl) (by kernel_rfl) (by kernel_rfl)
      (laidMetH_of_parts3 (fuel := 8) (laidMet_of_run' 8 (by kernel_rfl) (by kernel_rfl)) (by kernel_rfl) (by kernel_rfl))) ?_
  intro W base args ds gs before hval0 hW _ _ hL _
  have hval : ∀ (j : Nat) t v, Tryd.f5.params[j]? = some t → args[j]? = some v → Value.okWide Tryd.prog W .any base t v := hval0
  have hW' := hW
  obtain ⟨p, q, hA0, hV, rfl, hfz, hnd⟩ := hW
  have hA : DataW.TrodAll enc Tryd.prog W 0 (fun _ => true) true Tryd.f5.params.toList args.toList ds p := hA0
  obtain ⟨rfl, rfl⟩ := trodVars_none hV
  simp only [List.append_nil] at hW'
  have hAll : ∀ W', Below W.heap.size W W' → DataW.TrodAll enc Tryd.prog W' 0 (fun b => decide (b < W.heap.size)) true Tryd.f5.params.toList args.toList ds p :=
    fun W' hb => trodAll_below laidOut hb _ _ _ _ (by rw [Tryd.params5]; exact of_decide_eq_true (by kernel_rfl)) hA (fun x hx => hW'.lt x hx)
  rw [Tryd.params5] at hA hval
  obtain ⟨v0, vs0, d0, ds0, p0, q0, hargs, rfl, rfl, h0, t0⟩ := trodAll_cons hA
  obtain ⟨v1, vs1, d1, ds1, p1, q1, rfl, rfl, rfl, h1, t1⟩ := trodAll_cons t0
  obtain ⟨v2, vs2, d2, ds2, p2, q2, rfl, rfl, rfl, h2, t2⟩ := trodAll_cons t1
  obtain ⟨v3, vs3, d3, ds3, p3, q3, rfl, rfl, rfl, h3, t3⟩ := trodAll_cons t2
  obtain ⟨v4, vs4, d4, ds4, p4, q4, rfl, rfl, rfl, h4, t4⟩ := trodAll_cons t3
  obtain ⟨rfl, rfl, rfl⟩ := trodAll_nil t4
  obtain rfl : args = #[v0, v1, v2, v3, v4] := by cases args; simp_all
  clear hA0 hval0
  obtain ⟨E, hN, hE⟩ := globs8 hL rfl rfl
  have o0 := open_ptr (n := 4) (ty := RasT) tabOk (show tptrTo tab 22 = some 35 by kernel_rfl) (by kernel_rfl) (G8 E) (hval 0 _ v0 rfl rfl) h0
  obtain ⟨y1, r1, b1⟩ := open_val (n := 6) (ty := .list EdT) tabOk (by kernel_rfl) (G8 E) (hval 1 _ v1 rfl rfl) h1
  obtain ⟨y2, r2, b2⟩ := open_val (n := 6) (ty := .list EdT) tabOk (by kernel_rfl) (G8 E) (hval 2 _ v2 rfl rfl) h2
  obtain ⟨y3, r3, b3⟩ := open_val (n := 6) (ty := .list EdT) tabOk (by kernel_rfl) (G8 E) (hval 3 _ v3 rfl rfl) h3
  have o4 := open_ptr (n := 4) (ty := RasT) tabOk (show tptrTo tab 22 = some 35 by kernel_rfl) (by kernel_rfl) (G8 E) (hval 4 _ v4 rfl rfl) h4
  have fin : Calls Tryd.prog 5 #[v0, v1, v2, v3, v4] W fun e w' => e = .returned (.bool true) ∧ Below W.heap.size W w' := by
    have hl1 : y1.length ≤ 9223372036854775807 := by have := b1.1; unfold maxLen at this; omega
    have hl2 : y2.length ≤ 9223372036854775807 := by have := b2.1; unfold maxLen at this; omega
    have hl3 : y3.length ≤ 9223372036854775807 := by have := b3.1; unfold maxLen at this; omega
    rcases o0 with rfl | ⟨y0, r0, b0⟩
    · rcases o4 with rfl | ⟨y4, r4, b4⟩
      · exact acall_true (vs := [.pointer none, v1, v2, v3, .pointer none]) (merges_nn E y1 y2 y3 hl1 hl2 hl3 _ rfl) hE ⟨_, _, rfl, (rel_raw rfl).2 rfl, _, _, rfl, r1, _, _, rfl, r2, _, _, rfl, r3, _, _, rfl, (rel_raw rfl).2 rfl, rfl⟩
      · have hl4 : y4.2.2.length ≤ 9223372036854775807 := by have := b4.2.2.1; unfold maxLen at this; omega
        exact acall_true (vs := [.pointer none, v1, v2, v3, v4]) (merges_ns E y4 y1 y2 y3 hl4 hl1 hl2 hl3 _ rfl) hE ⟨_, _, rfl, (rel_raw rfl).2 rfl, _, _, rfl, r1, _, _, rfl, r2, _, _, rfl, r3, _, _, rfl, r4, rfl⟩
    · have hl0 : y0.2.2.length ≤ 9223372036854775807 := by have := b0.2.2.1; unfold maxLen at this; omega
      rcases o4 with rfl | ⟨y4, r4, b4⟩
      · exact acall_true (vs := [v0, v1, v2, v3, .pointer none]) (merges_sn E y0 y1 y2 y3 hl0 hl1 hl2 hl3 _ rfl) hE ⟨_, _, rfl, r0, _, _, rfl, r1, _, _, rfl, r2, _, _, rfl, r3, _, _, rfl, (rel_raw rfl).2 rfl, rfl⟩
      · have hl4 : y4.2.2.length ≤ 9223372036854775807 := by have := b4.2.2.1; unfold maxLen at this; omega
        exact acall_true (vs := [v0, v1, v2, v3, v4]) (merges_some hN y0 y4 y1 y2 y3 hl0 hl4 hl1 hl2 hl3 _ rfl) hE ⟨_, _, rfl, r0, _, _, rfl, r1, _, _, rfl, r2, _, _, rfl, r3, _, _, rfl, r4, rfl⟩
  refine fin.mono fun e W' ⟨he, hg⟩ => ?_
  subst he
  exact ⟨_, rfl, _, _, _, [], _, [], hW', trodAll_mk1 (shut_bool Tryd.underlying4 _), hAll W' hg, rfl, hg.frame _, fun h => by cases h⟩
theorem row : Rows.DeskMergesSaid :=
  OpenClaim.holds_of_wide 5 Tryd.f5 rfl rfl rfl rfl rfl rfl rfl ⟨rfl, rfl, rfl, rfl, rfl⟩ rfl rfl rfl rfl rfl (by kernel_rfl) Tryd.func5 (by kernel_rfl)
    (of_decide_eq_true (by kernel_rfl)) (by unfold Func.isWrapper; first | (rw [if_pos (by decide +kernel)]; kernel_rfl) | (rw [if_neg (by decide +kernel)]; exact ⟨rfl, rfl⟩))
    (fun os started H enc _ => lifted os started H enc)
theorem proved : Rows.DeskMergesCardSaid :=
  Claim7.holds_tied_plain_at .later [] [.handle, .sentinel, .sentinel, .sentinel, .sentinel, .sentinel, .sentinel, .sentinel, .sentinel] true (true, "0b77add1c1b93e57d96dd9853abf68044746bcea1445f44073bcb65261dd1821") true
    row (fun _ h => by cases h) (by kernel_rfl) (fun _ h => by cases h) deskMerges_row_tie rfl ⟨rfl, rfl⟩ (by kernel_rfl) rfl
    (fun f fn hf hfn => by
      obtain rfl : f = 5 := Option.some.inj ((show Tryd.prog.funcNamed "mercator/mercatorlaw5.DeskMerges" = some 5 by kernel_rfl).symm.trans hf) |>.symm
      obtain rfl : fn = Tryd.f5 := (Option.some.inj (Tryd.func5.symm.trans hfn)).symm
      exact ⟨by kernel_rfl, fun j t ht => by
        rw [Tryd.params5] at ht
        have hm : t ∈ [22, 23, 23, 23, 22] := by simpa using Array.mem_of_getElem? ht
        have hall : ([22, 23, 23, 23, 22].all fun u => !Tryd.prog.wantsStandIn u) = true := by kernel_rfl
        exact (show Tryd.prog.wantsStandIn t = false by simpa using List.all_eq_true.1 hall t hm)⟩)
    (by kernel_rfl)
end Go.Proofs.YtiflieijbmaocaaDoor.deskMerges
