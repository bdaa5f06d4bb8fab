/-
  Two rasters, cell by cell.
-/
import Derived.Test.YtidhgdipnfhoeaaDoorM4
import Derived.Test.YtidhgdipnfhoeaaDoorChecked
import Derived.WalkKit
import Derived.LaidEql
import Derived.Stop.Asserts
import Derived.RowKitTokens
import Derived.Below
import Derived.LaidHandle
import Derived.LaidSub
import Derived.ProofKit
import Derived.OpenShut
import Derived.Carry
namespace Go.Proofs.YtidhgdipnfhoeaaDoor
open Go Go.Ab
set_option maxRecDepth 100000
def opTwo (how x y : Int) : Int := if how = 43 then x + y else if how = 45 then x - y else if how = 62 then max x y else min x y
def outL (f : Nat → Int) (n k : Nat) : List Int := (List.range n).map fun j => if j < k then f j else 0
theorem outL_set (f : Nat → Int) (n k : Nat) : List.set (outL f n k) k (f k) = outL f n (k + 1) := by
  unfold outL
  apply List.ext_getElem (by simp)
  intro i h1 h2
  simp at h1 h2
  rw [List.getElem_set]
  by_cases h : k = i
  · subst h; simp
  · rw [if_neg h]; simp
    by_cases h3 : i < k
    · rw [if_pos h3, if_pos (by omega)]
    · rw [if_neg h3, if_neg (by omega)]
theorem outL_zero (f : Nat → Int) (n : Nat) : List.replicate n (0 : Int) = outL f n 0 := by
  unfold outL
  apply List.ext_getElem (by simp)
  intro i h1 h2
  simp
theorem outL_len (f : Nat → Int) (n k : Nat) : (outL f n k).length = n := by simp [outL]
def known (how : Int) : Bool := decide (how = 43) || decide (how = 45) || decide (how = 62) || decide (how = 60)
def twoF (a b : Ras) (how : Int) (j : Nat) : Int := opTwo how (a.2.2.getD j 0) (b.2.2.getD j 0)
def bothR (a b : Ras) (how : Int) : Ras := (a.1, a.2.1, outL (twoF a b how) a.2.2.length a.2.2.length)
def berr (a b : Ras) (how : Int) : Nat := if 0 < perr a b then perr a b else if known how = false then 3 else if 0 < rerr (bothR a b how) then 4 else 0
theorem perr_ok {a b : Ras} (h : perr a b = 0) : rerr a = 0 ∧ rerr b = 0 ∧ a.1 = b.1 ∧ a.2.1 = b.2.1 := by
  unfold perr at h
  split at h; omega
  split at h; omega
  split at h; omega
  omega
theorem getD_big {l : List Int} (h : ∀ x ∈ l, bigB x = false) (i : Nat) : -1048576 ≤ List.getD l i (Ty.dft int) ∧ List.getD l i (Ty.dft int) ≤ 1048576 := by
  by_cases hi : i < l.length
  · have := h _ (List.getElem_mem hi)
    rw [List.getD, List.getElem?_eq_getElem hi]
    unfold bigB at this
    simp at this ⊢; omega
  · rw [List.getD, List.getElem?_eq_none (by omega)]
    exact ⟨by decide, by decide⟩
theorem outL_step (a b : Ras) (how : Int) (n k : Nat) (v : Int) (h : v = twoF a b how k) : List.set (outL (twoF a b how) n k) (0 + k) v = outL (twoF a b how) n (k + 1) := by
  rw [Nat.zero_add, h, outL_set]
set_option maxHeartbeats 4000000 in
theorem both_any (E : Errs) (a b : Ras) (how : Int) (ha : a.2.2.length ≤ 1000000000000) (hb : b.2.2.length ≤ 1000000000000) (K : AV → List AO → Prop)
    (h0 : berr a b how = 0 → K (RE (bothR a b how) .nilIface) []) (he : ∀ e, berr a b how = e → 0 < e → K (RE (0, 0, []) (errV (errA E e))) []) :
    ACall Tryd.prog (GE E) 14 [.fz RasT a, .fz RasT b, .fz (.int .u8) how] [] K := by
  refine acall_mk (E := envAt (GE E) 88 0) (envOk _ _ _) Tryd.func14 rfl rfl rfl rfl rfl ?_
  (repeat' (first | exact trivial | exact fun h => h | refine And.intro ?_ ?_ | (intro hb; first | (simp at hb; done) | (simp at hb) | skip) | omega | exact rfl | exact Nat.le_refl _ | (show _ + 1 ≤ 4294967296; omega) | (dsimp only; omega) | (show wantB _ _ = true; simp; done) | (show wantB _ _ = true; simp; omega) | (show (_ : Bool) = _; simp_all; done) | (exfalso; omega) | refine aRegion_auto (by decide +kernel) ?_ | refine ⟨_, _, REnt.drop ⟨rfl, rfl⟩, ?_⟩ | fail))
  refine acall_conv [.dat RasT, .dat RasT] _ _ _ rfl trivial (acall_frame0 rfl (alike_any E a b ha hb _ (fun hp => ?_) (fun e h1 h2 => ?_)))
  · (repeat' (first | exact trivial | exact fun h => h | refine And.intro ?_ ?_ | (intro hb; first | (simp at hb; done) | (simp at hb) | skip) | omega | exact rfl | exact Nat.le_refl _ | (show _ + 1 ≤ 4294967296; omega) | (dsimp only; omega) | (show wantB _ _ = true; simp; done) | (show wantB _ _ = true; simp; omega) | (show (_ : Bool) = _; simp_all; done) | (exfalso; omega) | refine aRegion_auto (by decide +kernel) ?_ | refine ⟨_, _, REnt.drop ⟨rfl, rfl⟩, ?_⟩ | fail))
    obtain ⟨hpa, hpb, hw, hh⟩ := perr_ok hp
    obtain ⟨⟨hW1, hH1, hW2, hH2, hlen⟩, hbig⟩ := rerr_ok hpa
    obtain ⟨⟨_, _, _, _, hlen'⟩, hbig'⟩ := rerr_ok hpb
    have hn : a.2.2.length ≤ 16384 := by
      have := mul_bd (a := a.1) (b := a.2.1) (A := 128) (B := 128) (by omega) (by omega) (by omega) (by omega); omega
    have hll : b.2.2.length = a.2.2.length := by rw [← hw, ← hh] at hlen'; omega
    let bx : AO := .box [.fz int a.1, .fz int a.2.1, .fz (.list int) a.2.2]
    let by_ : AO := .box [.fz int b.1, .fz int b.2.1, .fz (.list int) b.2.2]
    let bz : AO := .box [.fz int 0, .fz int 0, .nilSl]
    let rw_ : AO := .row int (List.replicate a.2.2.length 0)
    let bo : AO := .box [.fz int a.1, .fz int a.2.1, .ref 4 0 a.2.2.length]
    refine aRegion_open 1 (by decide +kernel) ?_
    (repeat' (first | exact trivial | exact fun h => h | refine And.intro ?_ ?_ | (intro hb; first | (simp at hb; done) | (simp at hb) | skip) | omega | exact rfl | exact Nat.le_refl _ | (show _ + 1 ≤ 4294967296; omega) | (dsimp only; omega) | (show wantB _ _ = true; simp; done) | (show wantB _ _ = true; simp; omega) | (show (_ : Bool) = _; simp_all; done) | (exfalso; omega) | refine aRegion_auto (by decide +kernel) ?_ | fail))
    refine eff_is (.ref 4 0 a.2.2.length) [bx, by_, bz, .row .bool [], rw_] ?_
    (repeat' (first | exact trivial | exact fun h => h | refine And.intro ?_ ?_ | (intro hb; first | (simp at hb; done) | (simp at hb) | skip) | omega | exact rfl | exact Nat.le_refl _ | (show _ + 1 ≤ 4294967296; omega) | (dsimp only; omega) | (show wantB _ _ = true; simp; done) | (show wantB _ _ = true; simp; omega) | (show (_ : Bool) = _; simp_all; done) | (exfalso; omega) | refine aRegion_auto (by decide +kernel) ?_ | fail))
    refine eff_is (.ptr 3 0) [bx, by_, bz, bz, rw_] ?_
    refine eff_is .unk [bx, by_, bz, bo, rw_] ?_
    refine ⟨[(0, [bx, by_, bz, .row .bool []]), (128, [bx, by_, bz, .row .bool [], rw_]), (512, [bx, by_, bz, bz]), (640, [bx, by_, bz, bz, rw_]), (1664, [bx, by_, bz, bo, rw_])], rfl, rfl, ?_, ?_⟩
    · (repeat' (first | refine And.intro ?_ ?_ | exact trivial | exact rfl | omega))
      · refine view_of [0, 1, 2, 3, 4] rfl ?_ rfl rfl
        (repeat' (first | exact trivial | exact rfl | refine And.intro ?_ ?_))
      · refine view_of [0, 1, 2, 4] rfl ?_ rfl rfl
        (repeat' (first | exact trivial | exact rfl | refine And.intro ?_ ?_))
      · refine view_of [0, 1, 2, 5, 4] rfl ?_ rfl rfl
        (repeat' (first | exact trivial | exact rfl | refine And.intro ?_ ?_))
      · refine view_of [0, 1, 2, 3, 4] rfl ?_ rfl rfl
        (repeat' (first | exact trivial | exact rfl | refine And.intro ?_ ?_))
      · refine view_of [0, 1, 2, 3, 4] rfl ?_ rfl rfl
        (repeat' (first | exact trivial | exact rfl | refine And.intro ?_ ?_))
    (repeat' (first | exact trivial | exact fun h => h | refine And.intro ?_ ?_ | (intro hb; first | (simp at hb; done) | (simp at hb) | skip) | omega | exact rfl | exact Nat.le_refl _ | (show _ + 1 ≤ 4294967296; omega) | (dsimp only; omega) | (show wantB _ _ = true; simp; done) | (show wantB _ _ = true; simp; omega) | (show (_ : Bool) = _; simp_all; done) | (exfalso; omega) | refine aRegion_auto (by decide +kernel) ?_ | fail))
    refine ⟨Nat, fun k => ⟨[(2, .fz (.int .u8) how), (3, .ptr 0 0), (4, .ptr 1 0), (6, .ptr 2 0), (7, .fz .raw .nilIface), (9, .ptr 3 0), (30, .fz (.list int) a.2.2), (31, .fz int a.2.2.length), (32, .fz int k)], [bx, by_, bz, bo, .row int (outL (twoF a b how) a.2.2.length k)]⟩, fun k => k ≤ a.2.2.length ∧ (known how = false → k = 0), fun k => a.2.2.length - k, 0, ⟨Nat.zero_le _, fun _ => rfl⟩, Ent.sub (by rw [← outL_zero]) ⟨rfl, rfl, rfl, rfl, rfl, rfl, rfl, rfl, rfl⟩, ?_⟩
    intro k ⟨hk, hkn⟩
    have hol := outL_len (twoF a b how) a.2.2.length k
    have hka := getD_big hbig (Int.toNat (k : Int))
    have hkb := getD_big hbig' (Int.toNat (k : Int))
    have hkn' : known how = true → (known how = false → k + 1 = 0) := fun h h' => by rw [h] at h'; cases h'
    have nxt : ∀ v : Int, v = twoF a b how k → ([bx, by_, bz, bo, AO.row int (List.set (outL (twoF a b how) a.2.2.length k) (0 + k) v)] : List AO) = [bx, by_, bz, bo, AO.row int (outL (twoF a b how) a.2.2.length (k + 1))] := fun v h => by rw [outL_step _ _ _ _ _ _ h]
    (repeat' (first | exact trivial | exact fun h => h | refine And.intro ?_ ?_ | (intro hb; first | (simp at hb; done) | (simp at hb) | skip) | omega | exact rfl | exact Nat.le_refl _ | (show _ + 1 ≤ 4294967296; omega) | (dsimp only; omega) | (show wantB _ _ = true; simp; done) | (show wantB _ _ = true; simp; omega) | (show (_ : Bool) = _; simp_all; done) | (exfalso; omega) | refine aRegion_auto (by decide +kernel) ?_ | fail))
    · refine ⟨k + 1, ⟨by omega, hkn' (by simp [known, hb])⟩, by show _ - _ < _ - _; omega, Ent.sub (nxt _ (by unfold twoF opTwo; rw [if_pos hb]; rfl)) ?_⟩
      (repeat' (first | exact trivial | exact rfl | refine And.intro ?_ ?_))
    · refine ⟨k + 1, ⟨by omega, hkn' (by simp [known, hb])⟩, by show _ - _ < _ - _; omega, Ent.sub (nxt _ (by unfold twoF opTwo; rw [if_neg (by omega), if_pos hb]; rfl)) ?_⟩
      (repeat' (first | exact trivial | exact rfl | refine And.intro ?_ ?_))
    · refine ⟨k + 1, ⟨by omega, hkn' (by simp [known, hb])⟩, by show _ - _ < _ - _; omega, Ent.sub (nxt _ (by unfold twoF opTwo; rw [if_neg (by omega), if_neg (by omega), if_pos hb]; rfl)) ?_⟩
      (repeat' (first | exact trivial | exact rfl | refine And.intro ?_ ?_))
    · refine ⟨k + 1, ⟨by omega, hkn' (by simp [known, hb])⟩, by show _ - _ < _ - _; omega, Ent.sub (nxt _ (by unfold twoF opTwo; rw [if_neg (by omega), if_neg (by omega), if_neg (by omega)]; rfl)) ?_⟩
      (repeat' (first | exact trivial | exact rfl | refine And.intro ?_ ?_))
    · (apply exEff; focus (repeat' (first | exact ⟨rfl, rfl⟩ | exact trivial | refine And.intro ?_ ?_ | omega | exact Nat.le_refl _ | (show _ + 1 ≤ 4294967296; omega))))
      (repeat' (first | exact trivial | exact fun h => h | refine And.intro ?_ ?_ | (intro hb; first | (simp at hb; done) | (simp at hb) | skip) | omega | exact rfl | exact Nat.le_refl _ | (show _ + 1 ≤ 4294967296; omega) | (dsimp only; omega) | (show wantB _ _ = true; simp; done) | (show wantB _ _ = true; simp; omega) | (show (_ : Bool) = _; simp_all; done) | (exfalso; omega) | refine aRegion_auto (by decide +kernel) ?_ | fail))
      refine ⟨_, _, (REnt.conv [.dat RasT, .keep] _ rfl trivial).trans (REnt.drop ⟨rfl, rfl⟩), ?_⟩
      have hkf : known how = false := by simp [known]; omega
      exact he 3 (by unfold berr; rw [if_neg (by omega), if_pos hkf]) (by decide)
    · have hk2 : k = a.2.2.length := by omega
      subst hk2
      have hpos := Int.mul_pos (a := a.1) (b := a.2.1) (by omega) (by omega)
      have hkt : ¬ known how = false := fun h => by have := hkn h; omega
      refine acall_lend [.dat RasT] _ _ _ rfl ?_ rfl ?_
      · (repeat' (first | exact trivial | refine And.intro ?_ ?_ | (show _ ≤ _; omega) | (show _ ≤ _; simp; done)))
      refine acall_arg (valid_err E (bothR a b how) (by show (outL _ _ _).length ≤ _; omega) _ (fun h => ?_) (fun e h1 h2 => ?_)) ?_
      · refine And.intro rfl ?_
        (repeat' (first | exact trivial | exact fun h => h | refine And.intro ?_ ?_ | (intro hb; first | (simp at hb; done) | (simp at hb) | skip) | omega | exact rfl | exact Nat.le_refl _ | (show _ + 1 ≤ 4294967296; omega) | (dsimp only; omega) | (show wantB _ _ = true; simp; done) | (show wantB _ _ = true; simp; omega) | (show (_ : Bool) = _; simp_all; done) | (exfalso; omega) | refine aRegion_auto (by decide +kernel) ?_ | fail))
        refine ⟨_, _, (REnt.conv [.dat RasT, .keep] _ rfl ?_).trans (REnt.drop ⟨rfl, rfl⟩), ?_⟩
        · (repeat' (first | exact trivial | refine And.intro ?_ ?_ | (show _ ≤ _; omega) | (show _ ≤ _; simp; done)))
        have e1 : List.take a.2.2.length (outL (twoF a b how) a.2.2.length a.2.2.length) = outL (twoF a b how) a.2.2.length a.2.2.length := List.take_of_length_le (by omega)
        exact (congrArg (fun l => K (.tup [.fz RasT (a.1, a.2.1, l), .fz .raw .nilIface]) []) e1).mpr (h0 (by unfold berr; rw [if_neg (by omega), if_neg hkt, if_neg (by omega)]))
      · refine And.intro rfl ?_
        (repeat' (first | exact trivial | exact fun h => h | refine And.intro ?_ ?_ | (intro hb; first | (simp at hb; done) | (simp at hb) | skip) | omega | exact rfl | exact Nat.le_refl _ | (show _ + 1 ≤ 4294967296; omega) | (dsimp only; omega) | (show wantB _ _ = true; simp; done) | (show wantB _ _ = true; simp; omega) | (show (_ : Bool) = _; simp_all; done) | (exfalso; omega) | refine aRegion_auto (by decide +kernel) ?_ | fail))
        (apply exEff; focus (repeat' (first | exact ⟨rfl, rfl⟩ | exact trivial | refine And.intro ?_ ?_ | omega | exact Nat.le_refl _ | (show _ + 1 ≤ 4294967296; omega))))
        (repeat' (first | exact trivial | exact fun h => h | refine And.intro ?_ ?_ | (intro hb; first | (simp at hb; done) | (simp at hb) | skip) | omega | exact rfl | exact Nat.le_refl _ | (show _ + 1 ≤ 4294967296; omega) | (dsimp only; omega) | (show wantB _ _ = true; simp; done) | (show wantB _ _ = true; simp; omega) | (show (_ : Bool) = _; simp_all; done) | (exfalso; omega) | refine aRegion_auto (by decide +kernel) ?_ | fail))
        refine ⟨_, _, (REnt.conv [.dat RasT, .keep] _ rfl trivial).trans (REnt.drop ⟨rfl, rfl⟩), ?_⟩
        exact he 4 (by unfold berr; rw [if_neg (by omega), if_neg hkt, if_pos (by omega)]) (by decide)
      · have e1 : outL (twoF a b how) a.2.2.length a.2.2.length = List.take a.2.2.length (outL (twoF a b how) a.2.2.length a.2.2.length) := (List.take_of_length_le (by omega)).symm
        exact congrArg (fun l => [AV.fz RasT (a.1, a.2.1, l)]) e1
  · (repeat' (first | exact trivial | exact fun h => h | refine And.intro ?_ ?_ | (intro hb; first | (simp at hb; done) | (simp at hb) | skip) | omega | exact rfl | exact Nat.le_refl _ | (show _ + 1 ≤ 4294967296; omega) | (dsimp only; omega) | (show wantB _ _ = true; simp; done) | (show wantB _ _ = true; simp; omega) | (show (_ : Bool) = _; simp_all; done) | (exfalso; omega) | refine aRegion_auto (by decide +kernel) ?_ | fail))
    refine ⟨_, _, (REnt.conv [.dat RasT, .keep] _ rfl trivial).trans (REnt.drop ⟨rfl, rfl⟩), ?_⟩
    exact he e (by unfold berr; rw [if_pos (by omega)]; exact h1) h2
end Go.Proofs.YtidhgdipnfhoeaaDoor
/-
  The first look of each law; small rasters.
-/
namespace Go.Proofs.YtidhgdipnfhoeaaDoor
open Go Go.Ab
set_option maxRecDepth 100000
theorem rasters_any (E : Errs) (K : AV → List AO → Prop) (hK : K (.fz .bool true) []) : ACall Tryd.prog (GE E) 8 [] [] K := by
  refine acall_mk (E := envCut (GE E) 19 0 [2]) (envCutOk _ _ _ _) Tryd.func8 rfl rfl rfl rfl rfl ?_
  (repeat' (first | exact trivial | exact fun h => h | refine And.intro ?_ ?_ | (intro hb; first | (simp at hb; done) | (simp at hb) | skip) | omega | exact rfl | exact Nat.le_refl _ | (show _ + 1 ≤ 4294967296; omega) | (dsimp only; omega) | (show wantB _ _ = true; simp; done) | (show wantB _ _ = true; simp; omega) | (show (_ : Bool) = _; simp_all; done) | (exfalso; omega) | refine aRegion_auto (by decide +kernel) ?_ | fail))
  refine ⟨_, _, Ent.datBox 1 rfl rfl ?_ rfl, ?_⟩
  · (repeat' (first | exact trivial | refine And.intro ?_ ?_ | (show _ ≤ _; omega) | (show _ ≤ _; simp; done)))
  (repeat' (first | exact trivial | exact fun h => h | refine And.intro ?_ ?_ | (intro hb; first | (simp at hb; done) | (simp at hb) | skip) | omega | exact rfl | exact Nat.le_refl _ | (show _ + 1 ≤ 4294967296; omega) | (dsimp only; omega) | (show wantB _ _ = true; simp; done) | (show wantB _ _ = true; simp; omega) | (show (_ : Bool) = _; simp_all; done) | (exfalso; omega) | refine aRegion_auto (by decide +kernel) ?_ | fail))
  refine acall_conv [.dat RasT, .dat RasT, .keep] _ _ _ rfl trivial (acall_frame0 rfl (both_any E (1, 1, [3]) (1, 1, [3]) 43 (by decide) (by decide) _ (fun _ => ?_) (fun e h1 h2 => ?_)))
  · (repeat' (first | exact trivial | exact fun h => h | refine And.intro ?_ ?_ | (intro hb; first | (simp at hb; done) | (simp at hb) | skip) | omega | exact rfl | exact Nat.le_refl _ | (show _ + 1 ≤ 4294967296; omega) | (dsimp only; omega) | (show wantB _ _ = true; simp; done) | (show wantB _ _ = true; simp; omega) | (show (_ : Bool) = _; simp_all; done) | (exfalso; omega) | refine aRegion_auto (by decide +kernel) ?_ | refine ⟨_, _, REnt.drop ⟨rfl, rfl⟩, ?_⟩ | fail))
    refine acall_lend [.dat RasT, .keep, .keep, .dat (.list int)] _ _ _ rfl ?_ rfl ?_
    · (repeat' (first | exact trivial | refine And.intro ?_ ?_ | (show _ ≤ _; omega) | (show _ ≤ _; simp; done)))
    refine acall_arg (is_any _ (1, 1, [6]) 1 1 [6] (by decide) _ ?_) rfl
    refine And.intro rfl ?_
    (repeat' (first | exact trivial | exact fun h => h | refine And.intro ?_ ?_ | (intro hb; first | (simp at hb; done) | (simp at hb) | skip) | omega | exact rfl | exact Nat.le_refl _ | (show _ + 1 ≤ 4294967296; omega) | (dsimp only; omega) | (show wantB _ _ = true; simp; done) | (show wantB _ _ = true; simp; omega) | (show (_ : Bool) = _; simp_all; done) | (exfalso; omega) | refine aRegion_auto (by decide +kernel) ?_ | refine ⟨_, _, REnt.drop ⟨rfl, rfl⟩, ?_⟩ | fail))
    exact hK
  · have : berr (1, 1, [3]) (1, 1, [3]) 43 = 0 := by decide +kernel
    omega
/-- is there a raster of no more than 200 heights? -/
theorem small_any (G : List (Nat × Value)) (a : Ras) (K : AV → List AO → Prop) (hK : K (.fz .bool (decide (a.2.2.length ≤ 200))) []) : ACall Tryd.prog G 9 [.fptr RasT a] [] K := by
  refine acall_mk (E := envAt G 13 0) (envOk _ _ _) Tryd.func9 rfl rfl rfl rfl rfl ?_
  (repeat' (first | exact trivial | exact fun h => h | refine And.intro ?_ ?_ | (intro hb; first | (simp at hb; done) | (simp at hb) | skip) | omega | exact rfl | exact Nat.le_refl _ | (show _ + 1 ≤ 4294967296; omega) | (dsimp only; omega) | (show wantB _ _ = true; simp; done) | (show wantB _ _ = true; simp; omega) | (show (_ : Bool) = _; simp_all; done) | (exfalso; omega) | refine aRegion_auto (by decide +kernel) ?_ | refine ⟨_, _, REnt.drop ⟨rfl, rfl⟩, ?_⟩ | fail))
  exact kb hK (by simp; omega)
theorem small_nil (G : List (Nat × Value)) (K : AV → List AO → Prop) (hK : K (.fz .bool false) []) : ACall Tryd.prog G 9 [.fz .raw (.pointer none)] [] K := by
  refine acall_mk (E := envAt G 13 0) (envOk _ _ _) Tryd.func9 rfl rfl rfl rfl rfl ?_
  (repeat' (first | exact trivial | exact fun h => h | refine And.intro ?_ ?_ | (intro hb; first | (simp at hb; done) | (simp at hb) | skip) | omega | exact rfl | exact Nat.le_refl _ | (show _ + 1 ≤ 4294967296; omega) | (dsimp only; omega) | (show wantB _ _ = true; simp; done) | (show wantB _ _ = true; simp; omega) | (show (_ : Bool) = _; simp_all; done) | (exfalso; omega) | refine aRegion_auto (by decide +kernel) ?_ | refine ⟨_, _, REnt.drop ⟨rfl, rfl⟩, ?_⟩ | fail))
  exact hK
end Go.Proofs.YtidhgdipnfhoeaaDoor
/-
  errors.Is of two errors of errors.New's make.
-/
namespace Go.Proofs.YtidhgdipnfhoeaaDoor.isK
open Go Go.RowKit Go.Extern.Stop Go.Stop Go.Extern
set_option maxRecDepth 100000
theorem typeOf (v : Value) (w : World) : (Extern.ReflectliteType.typeOf #[.iface 102 v]).run Tryd.prog w = .ok (.iface 88 (.agg #[.pointer (some ⟨9, 102, none⟩)])) w := by kernel_rfl
theorem comparable (w : World) : ((Extern.ReflectliteType.method fun t => do Extern.Rtype.noPackHeld "Comparable" t; (fun a => Value.bool a.comparable) <$> typeInfo t) #[.agg #[.pointer (some ⟨9, 102, none⟩)]]).run Tryd.prog w = .ok (.bool true) w := by kernel_rfl
theorem mComparable (v : Value) (w : World) : (Go.method 242 88 v "Comparable").run Tryd.prog w = .ok (80, v) w := by kernel_rfl
theorem comp : (Tryd.prog.info? 102).map (·.comparable) = some true := by kernel_rfl
theorem size : (Tryd.prog.info? 126).map (·.size) = some 1 := by kernel_rfl
theorem noIs (v : Value) (xT : TypeId) (w : World) : (Instr.typeAssert (.iface 102 v) xT 99 true).run Tryd.prog w = .ok (.tuple #[.nilIface, .bool false]) w := run_typeAssert_lacksB Tryd.underlying99 (by kernel_rfl) (by kernel_rfl) v xT w
theorem noUnwrap (v : Value) (xT : TypeId) (w : World) : (Instr.typeAssert (.iface 102 v) xT 95 true).run Tryd.prog w = .ok (.tuple #[.nilIface, .bool false]) w := run_typeAssert_lacksB Tryd.underlying95 (by kernel_rfl) (by kernel_rfl) v xT w
theorem noUnwraps (v : Value) (xT : TypeId) (w : World) : (Instr.typeAssert (.iface 102 v) xT 97 true).run Tryd.prog w = .ok (.tuple #[.nilIface, .bool false]) w := run_typeAssert_lacksB Tryd.underlying97 (by kernel_rfl) (by kernel_rfl) v xT w
/-- errors.Is(x, x), x a pointer to an errors.errorString. -/
theorem is_same (a : Addr) (w : World) :
    Calls Tryd.prog 45 #[.iface 102 (.pointer (some a)), .iface 102 (.pointer (some a))] w fun e w' => e = .returned (.bool true) ∧ w' = w := by
  obtain ⟨i, hi, hcmp⟩ := Option.map_eq_some_iff.1 comp
  obtain ⟨j, hj, hjs⟩ := Option.map_eq_some_iff.1 size
  have h8 := @run_callFunc_extern Tryd.prog 52 _ Extern.ReflectliteType.typeOf Tryd.func52 (by kernel_rfl) (by kernel_rfl) (by kernel_rfl) (by kernel_rfl)
  have h32 := @run_callFunc_extern Tryd.prog 80 _ (Extern.ReflectliteType.method fun t => do Extern.Rtype.noPackHeld "Comparable" t; pure (.bool (← typeInfo t).comparable)) Tryd.func80 (by kernel_rfl) (by kernel_rfl) (by kernel_rfl) (by kernel_rfl)
  have tT := typeOf
  have cT := comparable
  have mR := mComparable
  have heq := run_eql_iface_ptr_same (P := Tryd.prog) w a Tryd.underlying30 Tryd.underlying102 hi hcmp hj
  go_enter Tryd.func45, Tryd.ntmps45
  go_wp2
  refine wp_loop_rounds 1 ?_
  rw [rounds_succ]
  go_wp2
  go_ret
  exact ⟨rfl, rfl⟩
/-- errors.Is(x, y), two different pointers to errors.errorString. -/
theorem is_other (a b : Addr) (ca cb : Array Value) (ta tb : TypeId) (w : World) (hne : a ≠ b) (ha : w.heap[a.block]? = some (.cells ca ta (0, 0))) (hb : w.heap[b.block]? = some (.cells cb tb (0, 0))) :
    Calls Tryd.prog 45 #[.iface 102 (.pointer (some a)), .iface 102 (.pointer (some b))] w fun e w' => e = .returned (.bool false) ∧ w' = w := by
  obtain ⟨i, hi, hcmp⟩ := Option.map_eq_some_iff.1 comp
  obtain ⟨j, hj, hjs⟩ := Option.map_eq_some_iff.1 size
  have h8 := @run_callFunc_extern Tryd.prog 52 _ Extern.ReflectliteType.typeOf Tryd.func52 (by kernel_rfl) (by kernel_rfl) (by kernel_rfl) (by kernel_rfl)
  have h32 := @run_callFunc_extern Tryd.prog 80 _ (Extern.ReflectliteType.method fun t => do Extern.Rtype.noPackHeld "Comparable" t; pure (.bool (← typeInfo t).comparable)) Tryd.func80 (by kernel_rfl) (by kernel_rfl) (by kernel_rfl) (by kernel_rfl)
  have tT := typeOf
  have cT := comparable
  have mR := mComparable
  have nE := noIs
  have uE := noUnwrap
  have vE := noUnwraps
  have heq := run_eql_iface_ptr_other (P := Tryd.prog) w Tryd.underlying30 Tryd.underlying102 hi hcmp hj (by rw [hjs]; decide) hne ha hb
  go_enter Tryd.func45, Tryd.ntmps45
  go_wp2
  refine wp_loop_rounds 1 ?_
  rw [rounds_succ]
  go_wp2
  go_ret
  exact ⟨rfl, rfl⟩
end Go.Proofs.YtidhgdipnfhoeaaDoor.isK
/-
  errors.As of an error of errors.New's make, asked for a *api.Fault: false; only new blocks are laid.
-/
namespace Go.Proofs.YtidhgdipnfhoeaaDoor.asK
open Go Go.RowKit Go.Extern.Stop Go.Stop Go.Extern
set_option maxRecDepth 100000
theorem valueOfPP (t : Addr) (w : World) : (ReflectliteValue.unpack (.iface 67 (.pointer (some t)))).run Tryd.prog w
    = .ok (.agg #[.pointer (some ⟨9, 67, none⟩), .pointer (some ⟨w.heap.size, 0, none⟩), .int .u64 150]) (w.alloc (.cells #[.pointer (some t)] 67)) := by kernel_rfl
theorem typePP (a : Addr) (w : World) : (ReflectliteValue.methodAny (ReflectliteValue.valueError "reflectlite.Value.Type" 0) (fun t _ _ _ => ReflectliteType.toType t) #[.agg #[.pointer (some ⟨9, 67, none⟩), .pointer (some a), .int .u64 150]]).run Tryd.prog w
    = .ok (.iface 88 (.agg #[.pointer (some ⟨9, 67, none⟩)])) w := by kernel_rfl
theorem mKind (h : Value) (w : World) : (Go.method 242 88 (.agg #[h]) "Kind").run Tryd.prog w = .ok (70, h) w := by kernel_rfl
theorem kindPP (w : World) : ((ReflectliteType.abiMethod fun t => (fun a : Nat => Value.int IntKind.u8 (a : Int)) <$> Rtype.kind t) #[.pointer (some ⟨9, 67, none⟩)]).run Tryd.prog w = .ok (.int .u8 22) w := by kernel_rfl
theorem kindP (w : World) : ((ReflectliteType.abiMethod fun t => (fun a : Nat => Value.int IntKind.u8 (a : Int)) <$> Rtype.kind t) #[.pointer (some ⟨9, 65, none⟩)]).run Tryd.prog w = .ok (.int .u8 22) w := by kernel_rfl
theorem rlm (z : Sem Value) (f : TypeId → Addr → Nat → Nat → Sem Value) (v : Value) :
    ReflectliteValue.method z f #[v] = (do match ← ReflectliteValue.parts v with | none => z | some (t, a, fl) => f t a fl (fl % 32)) := rfl
theorem partsPP (a : Addr) (w : World) : (ReflectliteValue.parts (.agg #[.pointer (some ⟨9, 67, none⟩), .pointer (some a), .int .u64 150])).run Tryd.prog w = .ok (some (67, a, 150)) w := by kernel_rfl
theorem isNilPP (a p : Addr) (W : World) (ha : W.cell? a = some (.pointer (some p))) :
    (ReflectliteValue.method (ReflectliteValue.valueError "reflectlite.Value.IsNil" 0) ReflectliteValue.isNil #[.agg #[.pointer (some ⟨9, 67, none⟩), .pointer (some a), .int .u64 150]]).run Tryd.prog W = .ok (.bool false) W := by
  rw [rlm]
  simp only [Sem.run_bind, partsPP, Result.andThen]
  simp [ReflectliteValue.isNil, loadVar, isAgg, underlying, Tryd.underlying67, ha, Result.andThen]
theorem mElem (h : Value) (w : World) : (Go.method 242 88 (.agg #[h]) "Elem").run Tryd.prog w = .ok (81, .agg #[h]) w := by kernel_rfl
theorem mImplements (h : Value) (w : World) : (Go.method 242 88 (.agg #[h]) "Implements").run Tryd.prog w = .ok (82, .agg #[h]) w := by kernel_rfl
theorem mAssignableTo (h : Value) (w : World) : (Go.method 242 88 (.agg #[h]) "AssignableTo").run Tryd.prog w = .ok (79, .agg #[h]) w := by kernel_rfl
theorem elemPP (w : World) : (ReflectliteType.method ReflectliteType.elem #[.agg #[.pointer (some ⟨9, 67, none⟩)]]).run Tryd.prog w = .ok (.iface 88 (.agg #[.pointer (some ⟨9, 65, none⟩)])) w := by kernel_rfl
theorem implementsP (w : World) : (ReflectliteType.relation "Implements" ReflectliteType.implements_ #[.agg #[.pointer (some ⟨9, 65, none⟩)], .iface 88 (.agg #[.pointer (some ⟨9, 30, none⟩)])]).run Tryd.prog w = .ok (.bool true) w := by kernel_rfl
theorem typeOfE (v : Value) (w : World) : (ReflectliteType.typeOf #[.iface 102 v]).run Tryd.prog w = .ok (.iface 88 (.agg #[.pointer (some ⟨9, 102, none⟩)])) w := by kernel_rfl
theorem assignableE (w : World) : (ReflectliteType.relation "AssignableTo" ReflectliteType.assignableTo #[.agg #[.pointer (some ⟨9, 102, none⟩)], .iface 88 (.agg #[.pointer (some ⟨9, 65, none⟩)])]).run Tryd.prog w = .ok (.bool false) w := by kernel_rfl
theorem noAs (v : Value) (xT : TypeId) (w : World) : (Instr.typeAssert (.iface 102 v) xT 92 true).run Tryd.prog w = .ok (.tuple #[.nilIface, .bool false]) w := run_typeAssert_lacksB Tryd.underlying92 (by kernel_rfl) (by kernel_rfl) v xT w
/-- the handle of type error, as errors.errorType holds it -/
def errType : Value := .iface 88 (.agg #[.pointer (some ⟨9, 30, none⟩)])
set_option maxHeartbeats 4000000 in
theorem as_other (e t : Addr) (w : World) (hg : w.cell? ⟨8, 0, none⟩ = some (.iface 88 (.agg #[.pointer (some ⟨9, 30, none⟩)]))) :
    Calls Tryd.prog 44 #[.iface 102 (.pointer (some e)), .iface 67 (.pointer (some t))] w fun ev w' => ev = .returned (.bool false) ∧ w' = ((w.alloc (.cells #[.pointer (some t)] 67)).alloc (.cells #[.pointer (some ⟨9, 67, none⟩), .pointer (some ⟨w.heap.size, 0, none⟩), .int .u64 150] 76)).alloc (.cells #[.pointer (some ⟨9, 67, none⟩), .pointer (some ⟨w.heap.size, 0, none⟩), .int .u64 150] 76) := by
  have h6 := @run_callFunc_extern Tryd.prog 48 _ (fun args => ReflectliteValue.unpack (args.getD 0 (.tuple #[]))) Tryd.func48 (by kernel_rfl) (by kernel_rfl) (by kernel_rfl) (by kernel_rfl)
  have h7 := @run_callFunc_extern Tryd.prog 49 _ (ReflectliteValue.methodAny (ReflectliteValue.valueError "reflectlite.Value.Type" 0) (fun t _ _ _ => ReflectliteType.toType t)) Tryd.func49 (by kernel_rfl) (by kernel_rfl) (by kernel_rfl) (by kernel_rfl)
  have h8 := @run_callFunc_extern Tryd.prog 50 _ (ReflectliteValue.method (ReflectliteValue.valueError "reflectlite.Value.IsNil" 0) ReflectliteValue.isNil) Tryd.func50 (by kernel_rfl) (by kernel_rfl) (by kernel_rfl) (by kernel_rfl)
  have h27 := @run_callFunc_extern Tryd.prog 70 _ (ReflectliteType.abiMethod fun t => do pure (.int .u8 (← Rtype.kind t))) Tryd.func70 (by kernel_rfl) (by kernel_rfl) (by kernel_rfl) (by kernel_rfl)
  have h37 := @run_callFunc_extern Tryd.prog 81 _ (ReflectliteType.method ReflectliteType.elem) Tryd.func81 (by kernel_rfl) (by kernel_rfl) (by kernel_rfl) (by kernel_rfl)
  have h38 := @run_callFunc_extern Tryd.prog 82 _ (ReflectliteType.relation "Implements" ReflectliteType.implements_) Tryd.func82 (by kernel_rfl) (by kernel_rfl) (by kernel_rfl) (by kernel_rfl)
  have h10 := @run_callFunc_extern Tryd.prog 52 _ ReflectliteType.typeOf Tryd.func52 (by kernel_rfl) (by kernel_rfl) (by kernel_rfl) (by kernel_rfl)
  have h35 := @run_callFunc_extern Tryd.prog 79 _ (ReflectliteType.relation "AssignableTo" ReflectliteType.assignableTo) Tryd.func79 (by kernel_rfl) (by kernel_rfl) (by kernel_rfl) (by kernel_rfl)
  have tO := typeOfE
  have mA := mAssignableTo
  have aE := assignableE
  have f6 := valueOfPP
  have f7 := typePP
  have mK := mKind
  have mE := mElem
  have mI := mImplements
  have k27 := kindPP
  have k25 := kindP
  have e27 := elemPP
  have i25 := implementsP
  have nA := noAs
  have uE := isK.noUnwrap
  have vE := isK.noUnwraps
  have n8 := isNilPP ⟨w.heap.size, 0, none⟩ t ((w.alloc (.cells #[.pointer (some t)] 67)).alloc (.cells #[.pointer (some ⟨9, 67, none⟩), .pointer (some ⟨w.heap.size, 0, none⟩), .int .u64 150] 76)) (by simp)
  have hlt : 8 < w.heap.size := by
    rcases Nat.lt_or_ge 8 w.heap.size with h' | h'
    · exact h'
    · simp [World.cell?, Array.getElem?_eq_none h'] at hg
  have hg2 : ((w.alloc (.cells #[.pointer (some t)] 67)).alloc (.cells #[.pointer (some ⟨9, 67, none⟩), .pointer (some ⟨w.heap.size, 0, none⟩), .int .u64 150] 76)).cell? ⟨8, 0, none⟩ = some (.iface 88 (.agg #[.pointer (some ⟨9, 30, none⟩)])) := by
    rw [World.cell?_alloc_lt _ _ ⟨8, 0, none⟩ (by simp; omega), World.cell?_alloc_lt _ _ ⟨8, 0, none⟩ hlt]; exact hg
  go_enter Tryd.func44, Tryd.ntmps44
  go_wp2
  refine wp_loop_rounds 1 ?_
  rw [rounds_succ]
  go_wp2
  go_ret
  exact ⟨rfl, rfl⟩
end Go.Proofs.YtidhgdipnfhoeaaDoor.asK
/-
  Contracts of functions that only lay new blocks, out of walks by hand.
-/
namespace Go.Ab
open Go Go.RowKit
theorem below_ext {c : Cx} (H : HR c) {w' : World} (hb : Below c.w.heap.size c.w w') : Ext c { c with w := w' } ∧ HR { c with w := w' } := by
  have hI : ∀ b, c.I b → b < c.w.heap.size → ({ c with w := w' } : Cx).I b ∧ w'.heap[b]? = c.w.heap[b]? := fun b h hl => ⟨h, hb.block b hl⟩
  have E : Ext c { c with w := w' } := by
    refine ⟨⟨hI, fun t ht => ?_, Nat.le_refl _⟩, rfl, rfl, fun b h => hb.block b (H.old b h), ⟨hb.os, hb.tape, hb.output⟩⟩
    have h0 := TokLe.refl (c := c) ht
    unfold TokLe at h0 ⊢
    show match c.A[t]? with | some (.row e _) => _ | some (.box _) => _ | some .dead => True | none => False
    cases hA : c.A[t]? with
    | none => rw [hA] at h0; exact h0
    | some o =>
      rw [hA] at h0
      cases o with
      | dead => trivial
      | row e xs =>
        simp only at h0 ⊢
        refine ⟨⟨xs, rfl⟩, trivial, fun b cs et h1 h2 => ⟨cs, ?_, rfl⟩⟩
        show w'.heap[b]? = _
        rw [hb.block b (some_lt h2)]; exact h2
      | box vs => exact .inl ⟨⟨vs, rfl⟩, rfl⟩
  refine ⟨E, ⟨H.far, H.inj, fun t o h => ?_, fun b h => Nat.lt_of_lt_of_le (H.old b h) hb.size, fun g v h => (H.glo g v h).mono E.le.I⟩⟩
  refine objOk_ext E (H.obj t o h) fun hl b hr => hb.block b ?_
  exact H.lt ⟨o, h, hl⟩ hr
theorem acall_below {P : Program} {G : List (Nat × Value)} {f : FuncId} {args : List AV} {A : List AO} {K : AV → List AO → Prop} {r : AV} (hb : hasBody P f)
    (h : ∀ c, HR c → c.A = A → c.G = G → ∀ vs, RelL c args vs → Calls P f vs.toArray c.w fun e w' => ∃ v, e = .returned v ∧ Below c.w.heap.size c.w w' ∧ ∀ c', Ext c c' → c'.w = w' → Rel c' r v) (hK : K r A) : ACall P G f args A K := by
  refine ⟨hb, fun c H hA hG vs hv => (h c H hA hG vs hv).mono fun e w' ⟨v, h1, h2, h3⟩ => ?_⟩
  obtain ⟨k1, k2⟩ := below_ext H h2
  exact ⟨v, _, r, h1, rfl, k1, k2, h3 _ k1 rfl, by rw [show ({ c with w := w' } : Cx).A = A from hA]; exact hK⟩
end Go.Ab
/-
  errors.Is, errors.As, plain.Code of plain errors, as contracts.
-/
namespace Go.Proofs.YtidhgdipnfhoeaaDoor
open Go Go.Ab Go.RowKit
set_option maxRecDepth 100000
/-- all errors, and the handle that errors.As looks at -/
def EL (E : Errs) : List Addr := [E.text, E.bound, E.shape, E.range, E.name, E.none, E.order, E.file]
abbrev G8 (E : Errs) : List (Nat × Value) := [(0, errV E.shape), (1, errV E.range), (2, errV E.bound), (4, errV E.text), (5, errV E.name), (6, errV E.none), (7, errV E.order), (3, errV E.file), (8, asK.errType)]
theorem gk_sub {E : Errs} (g : Nat) (v : Value) (h : gk (GE E) g = some v) : gk (G8 E) g = some v := by
  unfold GE gk at h
  unfold G8 gk
  split at h
  · rename_i e; rw [if_pos e]; exact h
  rename_i e; rw [if_neg e]
  unfold gk at h ⊢
  split at h
  · rename_i e; rw [if_pos e]; exact h
  rename_i e; rw [if_neg e]
  unfold gk at h ⊢
  split at h
  · rename_i e; rw [if_pos e]; exact h
  · cases h
theorem up8 {E : Errs} {f : FuncId} {args : List AV} {A : List AO} {K : AV → List AO → Prop} (h : ACall Tryd.prog (GE E) f args A K) : ACall Tryd.prog (G8 E) f args A K := acall_more h gk_sub
/-- the errors that a law tells apart; 0: nil -/
def er (E : Errs) (e : Nat) : Value := match e with
  | 0 => .nilIface
  | 1 => errV E.text
  | 2 => errV E.bound
  | 3 => errV E.shape
  | 4 => errV E.range
  | 5 => errV E.name
  | 6 => errV E.none
  | 7 => errV E.order
  | _ => errV E.file
def ea (E : Errs) (e : Nat) : Addr := match e with
  | 0 => E.text
  | 1 => E.text
  | 2 => E.bound
  | 3 => E.shape
  | 4 => E.range
  | 5 => E.name
  | 6 => E.none
  | 7 => E.order
  | _ => E.file
theorem er_ea (E : Errs) {e : Nat} (h : 0 < e) : er E e = errV (ea E e) := by
  unfold er ea; split <;> first | omega | rfl
theorem er_in (E : Errs) {e : Nat} (h : 0 < e) (h8 : e ≤ 8) : ∃ g, gk (G8 E) g = some (errV (ea E e)) := by
  obtain rfl | rfl | rfl | rfl | rfl | rfl | rfl | rfl : e = 1 ∨ e = 2 ∨ e = 3 ∨ e = 4 ∨ e = 5 ∨ e = 6 ∨ e = 7 ∨ e = 8 := by omega
  · exact ⟨4, rfl⟩
  · exact ⟨2, rfl⟩
  · exact ⟨0, rfl⟩
  · exact ⟨1, rfl⟩
  · exact ⟨5, rfl⟩
  · exact ⟨6, rfl⟩
  · exact ⟨7, rfl⟩
  · exact ⟨3, rfl⟩
theorem ea_at (E : Errs) {e : Nat} (h : 0 < e) (h8 : e ≤ 8) : (EL E)[e - 1]? = some (ea E e) := by
  obtain rfl | rfl | rfl | rfl | rfl | rfl | rfl | rfl : e = 1 ∨ e = 2 ∨ e = 3 ∨ e = 4 ∨ e = 5 ∨ e = 6 ∨ e = 7 ∨ e = 8 := by omega
  all_goals rfl
theorem ea_ne {E : Errs} (hE : (EL E).Nodup) {e d : Nat} (h : 0 < e) (h8 : e ≤ 8) (k : 0 < d) (k8 : d ≤ 8) (hne : e ≠ d) : ea E e ≠ ea E d := by
  intro he
  have h1 := ea_at E h h8
  have h2 := ea_at E k k8
  rw [he] at h1
  have h3 : e - 1 = d - 1 := by
    have hl : e - 1 < (EL E).length := by show e - 1 < 8; omega
    exact (List.getElem?_inj hl hE).1 (h1.trans h2.symm)
  omega
theorem errIs_any {E : Errs} (hE : (EL E).Nodup) {e d : Nat} (h : 0 < e) (h8 : e ≤ 8) (k : 0 < d) (k8 : d ≤ 8) (A : List AO) (K : AV → List AO → Prop) (hK : K (.fz .bool (decide (e = d))) A) :
    ACall Tryd.prog (G8 E) 45 [.fz .raw (errV (ea E e)), .fz .raw (errV (ea E d))] A K := by
  refine acall_below ⟨_, Tryd.func45, rfl, rfl⟩ (fun c H hA hG vs hv => ?_) hK
  obtain ⟨v, r, rfl, h1, v2, r2, rfl, h2, h3⟩ := hv
  unfold RelL at h3
  subst h3
  rw [(rel_raw rfl).1 h1, (rel_raw rfl).1 h2]
  by_cases he : e = d
  · subst he
    refine (isK.is_same _ _).mono fun x w' ⟨e1, e2⟩ => ⟨_, e1, by rw [e2]; exact Below.refl _ _, fun c' _ _ => ?_⟩
    rw [rel_bool]; simp
  · obtain ⟨g1, q1⟩ := er_in E h h8
    obtain ⟨g2, q2⟩ := er_in E k k8
    obtain ⟨_, cs1, t1, j1⟩ := (H.glo g1 _ (by rw [hG]; exact q1)).tgt _ _ rfl
    obtain ⟨_, cs2, t2, j2⟩ := (H.glo g2 _ (by rw [hG]; exact q2)).tgt _ _ rfl
    refine (isK.is_other _ _ _ _ _ _ _ (ea_ne hE h h8 k k8 he) j1 j2).mono fun x w' ⟨e1, e2⟩ => ⟨_, e1, by rw [e2]; exact Below.refl _ _, fun c' _ _ => ?_⟩
    rw [rel_bool]; simp [he]
theorem errAs_any {E : Errs} (a : Addr) (vs : List AV) (K : AV → List AO → Prop) (hK : K (.fz .bool false) [.box vs]) :
    ACall Tryd.prog (G8 E) 44 [.fz .raw (errV a), .ifc 67 (.ptr 0 0)] [.box vs] K := by
  refine acall_below ⟨_, Tryd.func44, rfl, rfl⟩ (fun c H hA hG vs hv => ?_) hK
  obtain ⟨v, r, rfl, h1, v2, r2, rfl, h2, h3⟩ := hv
  unfold RelL at h3
  subst h3
  rw [(rel_raw rfl).1 h1]
  obtain ⟨u, rfl, h2⟩ := h2
  unfold Rel at h2
  rw [hA] at h2
  obtain ⟨b, _, rfl⟩ := h2
  have hg := (H.glo 8 asK.errType (by rw [hG]; rfl)).cell
  refine (asK.as_other _ _ _ hg).mono fun x w' ⟨e1, e2⟩ => ⟨_, e1, ?_, fun c' _ _ => rel_bool.2 rfl⟩
  subst e2
  exact (((Below.refl _ _).alloc (Nat.le_refl _) _).alloc (by simp) _).alloc (by simp; omega) _
end Go.Proofs.YtidhgdipnfhoeaaDoor
/-
  plain.Code, coded: what number an error has.
-/
namespace Go.Proofs.YtidhgdipnfhoeaaDoor
open Go Go.Ab Go.RowKit
set_option maxRecDepth 100000
theorem code_nil (E : Errs) (K : AV → List AO → Prop) (hK : K (.tup [.fz int 0, .fz int (-1)]) []) : ACall Tryd.prog (G8 E) 34 [.fz .raw .nilIface] [] K := by
  refine acall_mk (E := envAt (G8 E) 39 0) (envOk _ _ _) Tryd.func34 rfl rfl rfl rfl rfl ?_
  (repeat' (first | exact trivial | exact fun h => h | refine And.intro ?_ ?_ | (intro hb; first | (simp at hb; done) | (simp at hb) | skip) | omega | exact rfl | exact Nat.le_refl _ | (show _ + 1 ≤ 4294967296; omega) | (dsimp only; omega) | (show wantB _ _ = true; simp; done) | (show wantB _ _ = true; simp; omega) | (show (_ : Bool) = _; simp_all; done) | (exfalso; omega) | refine aRegion_auto (by decide +kernel) ?_ | refine ⟨_, _, REnt.drop ⟨rfl, rfl⟩, ?_⟩ | fail))
  exact hK
abbrev errs (E : Errs) : List Value := [errV E.text, errV E.bound, errV E.shape, errV E.range, errV E.name, errV E.none, errV E.order, errV E.file]
theorem errs_at (E : Errs) {k : Nat} (h : k < 8) : List.getD (errs E) k (Ty.dft .raw) = errV (ea E (k + 1)) := by
  obtain rfl | rfl | rfl | rfl | rfl | rfl | rfl | rfl : k = 0 ∨ k = 1 ∨ k = 2 ∨ k = 3 ∨ k = 4 ∨ k = 5 ∨ k = 6 ∨ k = 7 := by omega
  all_goals rfl
set_option maxHeartbeats 4000000 in
theorem code_any {E : Errs} (hE : (EL E).Nodup) {e : Nat} (h : 0 < e) (h8 : e ≤ 8) (K : AV → List AO → Prop) (hK : K (.tup [.fz int e, .fz int (-1)]) []) :
    ACall Tryd.prog (G8 E) 34 [.fz .raw (errV (ea E e))] [] K := by
  refine acall_mk (E := envAt (G8 E) 39 0) (envOk _ _ _) Tryd.func34 rfl rfl rfl rfl rfl ?_
  (repeat' (first | exact trivial | exact fun h => h | refine And.intro ?_ ?_ | (intro hb; first | (simp at hb; done) | (simp at hb) | skip) | omega | exact rfl | exact Nat.le_refl _ | (show _ + 1 ≤ 4294967296; omega) | (dsimp only; omega) | (show wantB _ _ = true; simp; done) | (show wantB _ _ = true; simp; omega) | (show (_ : Bool) = _; simp_all; done) | (exfalso; omega) | refine aRegion_auto (by decide +kernel) ?_ | refine ⟨_, _, REnt.drop ⟨rfl, rfl⟩, ?_⟩ | fail))
  refine acall_frame [0] [.box [.fz .raw (.pointer none)]] [.fz .raw (errV (ea E e)), .ifc 67 (.ptr 0 0)] rfl ⟨⟨rfl, rfl⟩, trivial⟩ ⟨rfl, rfl⟩ rfl (errAs_any (ea E e) _ _ ?_)
  (repeat' (first | exact trivial | exact fun h => h | refine And.intro ?_ ?_ | (intro hb; first | (simp at hb; done) | (simp at hb) | skip) | omega | exact rfl | exact Nat.le_refl _ | (show _ + 1 ≤ 4294967296; omega) | (dsimp only; omega) | (show wantB _ _ = true; simp; done) | (show wantB _ _ = true; simp; omega) | (show (_ : Bool) = _; simp_all; done) | (exfalso; omega) | refine aRegion_auto (by decide +kernel) ?_ | refine ⟨_, _, REnt.drop ⟨rfl, rfl⟩, ?_⟩ | fail))
  refine ⟨Nat, fun k => ⟨[(0, .fz .raw (errV (ea E e))), (3, .fz int (-1)), (24, .ref 1 0 8), (25, .fz int 8), (26, .fz int k)], [.box [.fz .raw (.pointer none)], .row .raw (errs E)]⟩, fun k => k < e, fun k => e - k, 0, h, Ent.sub rfl ?_, ?_⟩
  · (repeat' (first | exact trivial | exact rfl | refine And.intro ?_ ?_))
  intro k hk
  have hk8 : 0 + Int.toNat (k : Int) < (errs E).length := by show 0 + Int.toNat (k : Int) < 8; omega
  (repeat' (first | exact trivial | exact fun h => h | refine And.intro ?_ ?_ | (intro hb; first | (simp at hb; done) | (simp at hb) | skip) | omega | exact rfl | exact Nat.le_refl _ | (show _ + 1 ≤ 4294967296; omega) | (dsimp only; omega) | (show wantB _ _ = true; simp; done) | (show wantB _ _ = true; simp; omega) | (show (_ : Bool) = _; simp_all; done) | (exfalso; omega) | refine aRegion_auto (by decide +kernel) ?_ | refine ⟨_, _, REnt.drop ⟨rfl, rfl⟩, ?_⟩ | fail))
  · refine acall_frame0 rfl (acall_arg (errIs_any hE h h8 (Nat.succ_pos k) (by omega) _ _ ?_) (congrArg (fun v => [AV.fz .raw (errV (ea E e)), AV.fz .raw v]) ((errs_at E (k := k) (by omega)).symm.trans (congrArg (fun i => List.getD (errs E) i (Ty.dft .raw)) (show k = 0 + Int.toNat (k : Int) by omega)))))
    (repeat' (first | exact trivial | exact fun h => h | refine And.intro ?_ ?_ | (intro hb; first | (simp at hb; done) | (simp at hb) | skip) | omega | exact rfl | exact Nat.le_refl _ | (show _ + 1 ≤ 4294967296; omega) | (dsimp only; omega) | (show wantB _ _ = true; simp; done) | (show wantB _ _ = true; simp; omega) | (show (_ : Bool) = _; simp_all; done) | (exfalso; omega) | refine aRegion_auto (by decide +kernel) ?_ | refine ⟨_, _, REnt.drop ⟨rfl, rfl⟩, ?_⟩ | fail))
    · have hb : e = k + 1 := by simpa using hb
      subst hb
      exact hK
    · have hb : ¬ e = k + 1 := by simpa using hb
      refine ⟨k + 1, by omega, by show _ - _ < _ - _; omega, Ent.sub rfl ?_⟩
      (repeat' (first | exact trivial | exact rfl | refine And.intro ?_ ?_))
theorem coded_mercatorlaw3 {E : Errs} (hE : (EL E).Nodup) {e : Nat} (h8 : e ≤ 8) (n : Int) (K : AV → List AO → Prop) (hK : K (.fz .bool (decide ((e : Int) = n))) []) : ACall Tryd.prog (G8 E) 16 [.fz .raw (er E e), .fz int n] [] K := by
  refine acall_mk (E := envAt (G8 E) 15 0) (envOk _ _ _) Tryd.func16 rfl rfl rfl rfl rfl ?_
  (repeat' (first | exact trivial | exact fun h => h | refine And.intro ?_ ?_ | (intro hb; first | (simp at hb; done) | (simp at hb) | skip) | omega | exact rfl | exact Nat.le_refl _ | (show _ + 1 ≤ 4294967296; omega) | (dsimp only; omega) | (show wantB _ _ = true; simp; done) | (show wantB _ _ = true; simp; omega) | (show (_ : Bool) = _; simp_all; done) | (exfalso; omega) | refine aRegion_auto (by decide +kernel) ?_ | refine ⟨_, _, REnt.drop ⟨rfl, rfl⟩, ?_⟩ | fail))
  by_cases h : e = 0
  · subst h
    refine acall_frame0 rfl (code_nil E _ ?_)
    (repeat' (first | exact trivial | exact fun h => h | refine And.intro ?_ ?_ | (intro hb; first | (simp at hb; done) | (simp at hb) | skip) | omega | exact rfl | exact Nat.le_refl _ | (show _ + 1 ≤ 4294967296; omega) | (dsimp only; omega) | (show wantB _ _ = true; simp; done) | (show wantB _ _ = true; simp; omega) | (show (_ : Bool) = _; simp_all; done) | (exfalso; omega) | refine aRegion_auto (by decide +kernel) ?_ | refine ⟨_, _, REnt.drop ⟨rfl, rfl⟩, ?_⟩ | fail))
    exact hK
  · refine acall_frame0 rfl (acall_arg (code_any hE (Nat.pos_of_ne_zero h) h8 _ ?_) (congrArg (fun v => [AV.fz .raw v]) (er_ea E (Nat.pos_of_ne_zero h)).symm))
    (repeat' (first | exact trivial | exact fun h => h | refine And.intro ?_ ?_ | (intro hb; first | (simp at hb; done) | (simp at hb) | skip) | omega | exact rfl | exact Nat.le_refl _ | (show _ + 1 ≤ 4294967296; omega) | (dsimp only; omega) | (show wantB _ _ = true; simp; done) | (show wantB _ _ = true; simp; omega) | (show (_ : Bool) = _; simp_all; done) | (exfalso; omega) | refine aRegion_auto (by decide +kernel) ?_ | refine ⟨_, _, REnt.drop ⟨rfl, rfl⟩, ?_⟩ | fail))
    exact hK
end Go.Proofs.YtidhgdipnfhoeaaDoor
/-
  FieldBoth: what it calls, each answer in one piece.
-/
namespace Go.Proofs.YtidhgdipnfhoeaaDoor
open Go Go.Ab
set_option maxRecDepth 100000
theorem errA_er (E : Errs) {e : Nat} (h : 2 ≤ e) (h4 : e ≤ 4) : errV (errA E e) = er E e := by
  obtain rfl | rfl | rfl : e = 2 ∨ e = 3 ∨ e = 4 := by omega
  all_goals rfl
theorem rerr_ge {a : Ras} (h : 0 < rerr a) : 2 ≤ rerr a := by
  unfold rerr at *
  split
  · omega
  rename_i h1; rw [if_neg h1] at h
  split
  · omega
  rename_i h2; rw [if_neg h2] at h
  split
  · omega
  · rename_i h3; rw [if_neg h3] at h; omega
theorem perr_ge {a b : Ras} : (perr a b = 0 ∨ 2 ≤ perr a b) ∧ perr a b ≤ 4 := by
  have h1 := rerr_in a
  have h2 := rerr_in b
  unfold perr
  split
  · have := rerr_ge (a := a) (by assumption); omega
  split
  · have := rerr_ge (a := b) (by assumption); omega
  split <;> omega
theorem berr_ge {a b : Ras} {how : Int} : (berr a b how = 0 ∨ 2 ≤ berr a b how) ∧ berr a b how ≤ 4 := by
  have h1 := perr_ge (a := a) (b := b)
  unfold berr
  split
  · omega
  split
  · omega
  split <;> omega
theorem valid_one (E : Errs) (a : Ras) (hl : a.2.2.length ≤ 1000000000000) (K : AV → List AO → Prop) (hK : K (.fz .raw (er E (rerr a))) []) : ACall Tryd.prog (G8 E) 17 [.fz RasT a] [] K := by
  refine up8 (valid_any E a hl K (fun h => ?_) (fun h => ?_) (fun h => ?_) (fun h => ?_))
  all_goals rw [h] at hK; exact hK
def bothQ (a b : Ras) (how : Int) : Ras := if berr a b how = 0 then bothR a b how else (0, 0, [])
theorem both_one (E : Errs) (a b : Ras) (how : Int) (ha : a.2.2.length ≤ 1000000000000) (hb : b.2.2.length ≤ 1000000000000) (K : AV → List AO → Prop) (hK : K (RE (bothQ a b how) (er E (berr a b how))) []) :
    ACall Tryd.prog (G8 E) 14 [.fz RasT a, .fz RasT b, .fz (.int .u8) how] [] K := by
  refine up8 (both_any E a b how ha hb K (fun h => ?_) (fun e h h0 => ?_))
  · unfold bothQ at hK; rw [if_pos h, h] at hK; exact hK
  · have := berr_ge (a := a) (b := b) (how := how)
    unfold bothQ at hK; rw [if_neg (by omega), h] at hK; rw [errA_er E (by omega) (by omega)]; exact hK
theorem rastersError_any (G : List (Nat × Value)) (a b : Ras) (ha : a.2.2.length ≤ 1000000000000) (hlb : b.2.2.length ≤ 1000000000000) (K : AV → List AO → Prop) (hK : K (.fz int (perr a b)) []) :
    ACall Tryd.prog G 15 [.fptr RasT a, .fptr RasT b] [] K := by
  refine acall_mk (E := envAt G 37 0) (envOk _ _ _) Tryd.func15 rfl rfl rfl rfl rfl ?_
  (repeat' (first | exact trivial | exact fun h => h | refine And.intro ?_ ?_ | (intro hb; first | (simp at hb; done) | (simp at hb) | skip) | omega | exact rfl | exact Nat.le_refl _ | (show _ + 1 ≤ 4294967296; omega) | (dsimp only; omega) | (show wantB _ _ = true; simp; done) | (show wantB _ _ = true; simp; omega) | (show (_ : Bool) = _; simp_all; done) | (exfalso; omega) | refine aRegion_auto (by decide +kernel) ?_ | fail))
  refine acall_frame0 rfl (rasterError_any _ a ha _ ?_)
  (repeat' (first | exact trivial | exact fun h => h | refine And.intro ?_ ?_ | (intro hb; first | (simp at hb; done) | (simp at hb) | skip) | omega | exact rfl | exact Nat.le_refl _ | (show _ + 1 ≤ 4294967296; omega) | (dsimp only; omega) | (show wantB _ _ = true; simp; done) | (show wantB _ _ = true; simp; omega) | (show (_ : Bool) = _; simp_all; done) | (exfalso; omega) | refine aRegion_auto (by decide +kernel) ?_ | refine ⟨_, _, REnt.drop ⟨rfl, rfl⟩, ?_⟩ | fail))
  · refine acall_frame0 rfl (rasterError_any _ b hlb _ ?_)
    (repeat' (first | exact trivial | exact fun h => h | refine And.intro ?_ ?_ | (intro hb; first | (simp at hb; done) | (simp at hb) | skip) | omega | exact rfl | exact Nat.le_refl _ | (show _ + 1 ≤ 4294967296; omega) | (dsimp only; omega) | (show wantB _ _ = true; simp; done) | (show wantB _ _ = true; simp; omega) | (show (_ : Bool) = _; simp_all; done) | (exfalso; omega) | refine aRegion_auto (by decide +kernel) ?_ | refine ⟨_, _, REnt.drop ⟨rfl, rfl⟩, ?_⟩ | fail))
    · exact kz hK (by unfold perr; rw [if_neg (by omega), if_neg (by omega), if_pos hb.2]; rfl)
    · exact kz hK (by
        unfold perr; rw [if_neg (by omega)]
        split
        · rfl
        · rw [if_neg (by intro h; have := hb (by omega); omega)]; omega)
  · exact kz hK (by unfold perr; rw [if_pos (by omega)])
theorem nothing_any (G : List (Nat × Value)) (a : Ras) (K : AV → List AO → Prop) (hK : K (.fz .bool (decide (a = (0, 0, [])))) []) : ACall Tryd.prog G 18 [.fz RasT a] [] K := by
  refine acall_mk (E := envAt G 17 0) (envOk _ _ _) Tryd.func18 rfl rfl rfl rfl rfl ?_
  (repeat' (first | exact trivial | exact fun h => h | refine And.intro ?_ ?_ | (intro hb; first | (simp at hb; done) | (simp at hb) | skip) | omega | exact rfl | exact Nat.le_refl _ | (show _ + 1 ≤ 4294967296; omega) | (dsimp only; omega) | (show wantB _ _ = true; simp; done) | (show wantB _ _ = true; simp; omega) | (show (_ : Bool) = _; simp_all; done) | (exfalso; omega) | refine aRegion_auto (by decide +kernel) ?_ | refine ⟨_, _, REnt.drop ⟨rfl, rfl⟩, ?_⟩ | fail))
  exact kb hK (by
    obtain ⟨x, y, l⟩ := a
    cases l <;> simp [Prod.ext_iff] <;> (by_cases h1 : x = 0 <;> by_cases h2 : y = 0 <;> simp [h1, h2]) <;> omega)
theorem ofTwo_any (G : List (Nat × Value)) (x y how : Int) (hx : -1048576 ≤ x ∧ x ≤ 1048576) (hy : -1048576 ≤ y ∧ y ≤ 1048576) (K : AV → List AO → Prop) (hK : K (.fz int (opTwo how x y)) []) :
    ACall Tryd.prog G 19 [.fz int x, .fz int y, .fz (.int .u8) how] [] K := by
  refine acall_mk (E := envAt G 30 0) (envOk _ _ _) Tryd.func19 rfl rfl rfl rfl rfl ?_
  (repeat' (first | exact trivial | exact fun h => h | refine And.intro ?_ ?_ | (intro hb; first | (simp at hb; done) | (simp at hb) | skip) | omega | exact rfl | exact Nat.le_refl _ | (show _ + 1 ≤ 4294967296; omega) | (dsimp only; omega) | (show wantB _ _ = true; simp; done) | (show wantB _ _ = true; simp; omega) | (show (_ : Bool) = _; simp_all; done) | (exfalso; omega) | refine aRegion_auto (by decide +kernel) ?_ | refine ⟨_, _, REnt.drop ⟨rfl, rfl⟩, ?_⟩ | fail))
  · exact kz hK (by unfold opTwo; rw [if_pos (by assumption)])
  · exact kz hK (by unfold opTwo; rw [if_neg (by omega), if_pos (by assumption)])
  · exact kz hK (by unfold opTwo; rw [if_neg (by omega), if_neg (by omega), if_pos (by assumption)]; omega)
  · exact kz hK (by unfold opTwo; rw [if_neg (by omega), if_neg (by omega), if_pos (by assumption)]; omega)
  · exact kz hK (by unfold opTwo; rw [if_neg (by omega), if_neg (by omega), if_neg (by omega)]; omega)
  · exact kz hK (by unfold opTwo; rw [if_neg (by omega), if_neg (by omega), if_neg (by omega)]; omega)
end Go.Proofs.YtidhgdipnfhoeaaDoor
/-
  Tiles: a raster is written: the walk.
-/
namespace Go.Proofs.YtidhgdipnfhoeaaDoor
open Go Go.Ab
set_option maxRecDepth 100000
/-! ### bits -/
theorem u8_wrap (n : Int) : IntKind.u8.wrap n = n % 256 := by
  unfold IntKind.wrap; simp [IntKind.bits, IntKind.signed]
theorem or128_all : ∀ m, m < 256 → ((BitVec.ofNat 8 m) ||| (128#8)).toNat = m % 128 + 128 := by decide
theorem and127_all : ∀ m, m < 256 → ((BitVec.ofNat 8 m) &&& (127#8)).toNat = m % 128 := by decide
theorem or128 (n : Int) : bitI .or .u8 (IntKind.u8.wrap n) 128 = n % 128 + 128 := by
  unfold bitI
  simp only
  rw [u8_wrap n]
  obtain ⟨m, hm⟩ : ∃ m : Nat, n % 256 = (m : Int) := ⟨(n % 256).toNat, by omega⟩
  rw [hm]
  have h1 := or128_all m (by omega)
  have e : (BitVec.ofInt IntKind.u8.bits (m : Int) ||| BitVec.ofInt IntKind.u8.bits 128).toNat = m % 128 + 128 := by
    rw [← h1, BitVec.ofInt_natCast]; rfl
  rw [e, u8_wrap]
  omega
theorem and127 {n : Int} (h0 : 0 ≤ n) (h1 : n ≤ 255) : bitI .and .u8 n 127 = n % 128 := by
  unfold bitI
  simp only
  obtain ⟨m, rfl⟩ : ∃ m : Nat, n = (m : Int) := ⟨n.toNat, by omega⟩
  have h1 := and127_all m (by omega)
  have e : (BitVec.ofInt IntKind.u8.bits (m : Int) &&& BitVec.ofInt IntKind.u8.bits 127).toNat = m % 128 := by
    rw [← h1, BitVec.ofInt_natCast]; rfl
  rw [e, u8_wrap]
  omega
theorem i64_wrap_small {n : Int} (h0 : 0 ≤ n) (h1 : n ≤ 9223372036854775807) : IntKind.i64.wrap n = n := I64.wrap ⟨by omega, h1⟩
theorem or_sum {n a : Int} {s : Nat} (h0 : 0 ≤ n) (h1 : n < 2 ^ s) (ha : 0 ≤ a) (h2 : n + a * 2 ^ s ≤ 9223372036854775807) : bitI .or .i64 n (a * 2 ^ s) = n + a * 2 ^ s := by
  unfold bitI
  simp only
  obtain ⟨m, rfl⟩ : ∃ m : Nat, n = (m : Int) := ⟨n.toNat, by omega⟩
  obtain ⟨b, rfl⟩ : ∃ b : Nat, a = (b : Int) := ⟨a.toNat, by omega⟩
  have e1 : ((b : Int) * 2 ^ s) = ((2 ^ s * b : Nat) : Int) := by rw [Int.natCast_mul, Int.natCast_pow, Int.mul_comm]; rfl
  have hm : m < 2 ^ s := by
    have : ((2 ^ s : Nat) : Int) = 2 ^ s := by rw [Int.natCast_pow]; rfl
    omega
  rw [e1] at h2 ⊢
  have e : (BitVec.ofInt IntKind.i64.bits (m : Int) ||| BitVec.ofInt IntKind.i64.bits ((2 ^ s * b : Nat) : Int)).toNat = m + 2 ^ s * b := by
    rw [BitVec.ofInt_natCast, BitVec.ofInt_natCast, BitVec.toNat_or, BitVec.toNat_ofNat, BitVec.toNat_ofNat]
    simp only [IntKind.bits]
    rw [Nat.mod_eq_of_lt (by omega), Nat.mod_eq_of_lt (by omega), Nat.or_comm, ← Nat.two_pow_add_eq_or_of_lt hm]
    omega
  rw [e]
  exact i64_wrap_small (by omega) (by omega)
theorem and1 {n : Int} (h0 : 0 ≤ n) (h1 : n ≤ 9223372036854775807) : bitI .and .i64 n 1 = n % 2 := by
  unfold bitI
  simp only
  obtain ⟨m, rfl⟩ : ∃ m : Nat, n = (m : Int) := ⟨n.toNat, by omega⟩
  have e : (BitVec.ofInt IntKind.i64.bits (m : Int) &&& BitVec.ofInt IntKind.i64.bits 1).toNat = m % 2 := by
    rw [show (1 : Int) = ((1 : Nat) : Int) from rfl, BitVec.ofInt_natCast, BitVec.ofInt_natCast, BitVec.toNat_and, BitVec.toNat_ofNat, BitVec.toNat_ofNat]
    simp only [IntKind.bits]
    rw [Nat.mod_eq_of_lt (by omega), Nat.mod_eq_of_lt (show 1 < 2 ^ 64 by omega), Nat.and_one_is_mod]
  rw [e]
  rw [i64_wrap_small (by omega) (by omega)]
  omega
/-! ### writing -/
theorem enc_snoc : ∀ (l : List Int) (last h : Int), enc last (l ++ [h]) = enc last l ++ vb 4 (zig (h - l.getLastD last))
  | [], last, h => by simp [enc]
  | x :: l, last, h => by
    rw [List.cons_append]
    unfold enc
    rw [enc_snoc l x h, List.append_assoc]
    congr 3
    cases l <;> simp [List.getLastD]
/-- what is written of k heights -/
def tl (a : Ras) (k : Nat) : List Int := a.1 :: a.2.1 :: enc 0 (a.2.2.take k)
theorem tl_zero (a : Ras) : tl a 0 = [a.1, a.2.1] := by simp [tl, enc]
theorem tl_len (a : Ras) (k : Nat) : (tl a k).length ≤ 2 + 5 * k := by
  unfold tl
  have := enc_len 0 (a.2.2.take k)
  simp only [List.length_cons, List.length_take] at *
  omega
theorem tl_succ (a : Ras) (k : Nat) (h : k < a.2.2.length) : tl a (k + 1) = tl a k ++ vb 4 (zig (a.2.2.getD k 0 - lastOf (a.2.2.take k))) := by
  unfold tl
  rw [List.take_succ_eq_append_getElem h, enc_snoc]
  simp [List.getD, h, lastOf]
theorem tl_all (a : Ras) : tl a a.2.2.length = tileB a := by unfold tl tileB; rw [List.take_length]
theorem pow5 {f : Nat} (h : f ≤ 4) : (128 : Int) ^ (f + 1) ≤ 128 ^ 5 := by
  obtain rfl | rfl | rfl | rfl | rfl : f = 0 ∨ f = 1 ∨ f = 2 ∨ f = 3 ∨ f = 4 := by omega
  all_goals decide
def tileQ (a : Ras) : List Int := if rerr a = 0 then tileB a else []
abbrev u8 : Ty := .int .u8
abbrev TE8 (l : List Int) (v : Value) : AV := .tup [.fz (.list u8) l, .fz .raw v]
theorem vb_step {f : Nat} {n : Int} (h : 127 < n) (h1 : n < 128 ^ (f + 1)) : ∃ g, f = g + 1 ∧ vb f n = (n % 128 + 128) :: vb g (n / 128) ∧ n / 128 < 128 ^ (g + 1) := by
  cases f with
  | zero => simp at h1; omega
  | succ g =>
    refine ⟨g, rfl, ?_, ?_⟩
    · rw [vb, if_pos h]
    · rw [Int.pow_succ] at h1
      exact Int.ediv_lt_of_lt_mul (by omega) (by rw [Int.mul_comm] at h1; rw [Int.mul_comm]; exact h1)
theorem vb_end {f : Nat} {n : Int} (h : ¬ 127 < n) : vb f n = [n] := by
  cases f with
  | zero => rfl
  | succ g => rw [vb, if_neg h]
set_option maxHeartbeats 4000000 in
theorem tile_one (E : Errs) (a : Ras) (hl : a.2.2.length ≤ 1000000000000) (K : AV → List AO → Prop) (hK : K (TE8 (tileQ a) (er E (rerr a))) []) :
    ACall Tryd.prog (G8 E) 23 [.fz RasT a] [] K := by
  refine acall_mk (E := envAt (G8 E) 58 0) (envOk _ _ _) Tryd.func23 rfl rfl rfl rfl rfl ?_
  (repeat' (first | exact trivial | exact fun h => h | refine And.intro ?_ ?_ | (intro hb; first | (simp at hb; done) | (simp at hb) | skip) | omega | exact rfl | exact Nat.le_refl _ | (show _ + 1 ≤ 4294967296; omega) | (dsimp only; omega) | (show wantB _ _ = true; simp; done) | (show wantB _ _ = true; simp; omega) | (show (_ : Bool) = _; simp_all; done) | (exfalso; omega) | refine aRegion_auto (by decide +kernel) ?_ | refine ⟨_, _, REnt.drop ⟨rfl, rfl⟩, ?_⟩ | fail))
  refine acall_conv [.dat RasT] _ _ _ rfl trivial (acall_frame0 rfl (valid_one E a hl _ ?_))
  by_cases hv : rerr a = 0
  · rw [hv]
    obtain ⟨⟨hW1, hH1, hW2, hH2, hlen⟩, hbig⟩ := rerr_ok hv
    (repeat' (first | exact trivial | exact fun h => h | refine And.intro ?_ ?_ | (intro hb; first | (simp at hb; done) | (simp at hb) | skip) | omega | exact rfl | exact Nat.le_refl _ | (show _ + 1 ≤ 4294967296; omega) | (dsimp only; omega) | (show wantB _ _ = true; simp; done) | (show wantB _ _ = true; simp; omega) | (show (_ : Bool) = _; simp_all; done) | (exfalso; omega) | refine aRegion_auto (by decide +kernel) ?_ | refine ⟨_, _, REnt.drop ⟨rfl, rfl⟩, ?_⟩ | fail))
    have hm := mul_bd (a := a.1) (b := a.2.1) (A := 128) (B := 128) (by omega) (by omega) (by omega) (by omega)
    refine ⟨Nat, fun k => ⟨[(1, .ptr 0 0), (5, .ref 1 0 (tl a k).length), (6, .fz int (lastOf (a.2.2.take k))), (24, .fz (.list int) a.2.2), (25, .fz int (a.2.2.length : Nat)), (26, .fz int k)], [.box [.fz int a.1, .fz int a.2.1, .fz (.list int) a.2.2], .row u8 (tl a k)]⟩, fun k => k ≤ a.2.2.length, fun k => a.2.2.length - k, 0, Nat.zero_le _, Ent.sub ?_ ?_, ?_⟩
    · refine congrArg (fun l => [AO.box [.fz int a.1, .fz int a.2.1, .fz (.list int) a.2.2], .row u8 l]) ?_
      show [IntKind.u8.wrap a.1, IntKind.u8.wrap a.2.1] = tl a 0
      rw [tl_zero, u8_wrap, u8_wrap, Int.emod_eq_of_lt (by omega) (by omega), Int.emod_eq_of_lt (by omega) (by omega)]
    · (repeat' (first | exact trivial | exact rfl | refine And.intro ?_ ?_))
    intro k hk
    have lt := tl_len a k
    have hx : ∀ i, -1048576 ≤ a.2.2.getD i 0 ∧ a.2.2.getD i 0 ≤ 1048576 := by
      intro i
      by_cases hi : i < a.2.2.length
      · have := hbig a.2.2[i] (List.getElem_mem hi)
        simp only [List.getD, List.getElem?_eq_getElem hi, Option.getD_some]
        unfold bigB at this; simp at this; omega
      · simp [List.getD, List.getElem?_eq_none (show a.2.2.length ≤ i by omega)]
    have hlast : -1048576 ≤ lastOf (a.2.2.take k) ∧ lastOf (a.2.2.take k) ≤ 1048576 := by
      cases k with
      | zero => simp [lastOf]
      | succ k =>
        rw [List.take_succ_eq_append_getElem (by omega), lastOf_append]
        have := hx k
        simpa [List.getD, show k < a.2.2.length by omega] using this
    have hd : -1048576 ≤ a.2.2.getD (Int.toNat (k : Int)) int.dft ∧ a.2.2.getD (Int.toNat (k : Int)) int.dft ≤ 1048576 := hx k
    have hs := tl_succ a k
    have hz := zig_nonneg (a.2.2.getD k 0 - lastOf (a.2.2.take k))
    have hz2 : zig (a.2.2.getD k 0 - lastOf (a.2.2.take k)) < 128 ^ (4 + 1) := by
      have := hx k; unfold zig; split <;> omega
    generalize hdd : a.2.2.getD k 0 - lastOf (a.2.2.take k) = d at *
    have hdd' : a.2.2.getD (Int.toNat (k : Int)) int.dft - lastOf (a.2.2.take k) = d := hdd
    (repeat' (first | exact trivial | exact fun h => h | refine And.intro ?_ ?_ | (intro hb; first | (simp at hb; done) | (simp at hb) | skip) | omega | exact rfl | exact Nat.le_refl _ | (show _ + 1 ≤ 4294967296; omega) | (dsimp only; omega) | (show wantB _ _ = true; simp; done) | (show wantB _ _ = true; simp; omega) | (show (_ : Bool) = _; simp_all; done) | (exfalso; omega) | refine aRegion_auto (by decide +kernel) ?_ | refine ⟨_, _, REnt.drop ⟨rfl, rfl⟩, ?_⟩ | fail))
    · refine ⟨Nat × List Int × Int, fun x => ⟨[(1, .ptr 0 0), (5, .ref 1 0 (tl a k ++ x.2.1).length), (6, .fz int (a.2.2.getD k 0)), (10, .fz int x.2.2), (24, .fz (.list int) a.2.2), (25, .fz int (a.2.2.length : Nat)), (26, .fz int k)], [.box [.fz int a.1, .fz int a.2.1, .fz (.list int) a.2.2], .row u8 (tl a k ++ x.2.1)]⟩, fun x => x.2.1 ++ vb x.1 x.2.2 = vb 4 (zig d) ∧ x.2.1.length + x.1 = 4 ∧ 0 ≤ x.2.2 ∧ x.2.2 < 128 ^ (x.1 + 1), fun x => x.1, (4, [], zig d), ⟨rfl, rfl, hz, hz2⟩, Ent.sub (by simp) ?_, ?_⟩
      · (repeat' (first | exact trivial | exact rfl | refine And.intro ?_ ?_))
        · exact congrArg (AV.ref 1 0) (by simp)
        refine congrArg (AV.fz int) (?_ : _ = zig d)
        rw [hdd']; unfold zig; rw [if_pos (by rw [← hdd']; simpa using hb)]
      rintro ⟨f, pre, n⟩ ⟨h1, h2, h3, h4⟩
      simp only at h1 h2 h3 h4
      have hb8 : n < 34359738368 := by
        have : (128 : Int) ^ (f + 1) ≤ 128 ^ 5 := pow5 (by omega)
        omega
      have hap : (tl a k ++ pre).length ≤ 100000 := by simp; omega
      (repeat' (first | exact trivial | exact fun h => h | refine And.intro ?_ ?_ | (intro hb; first | (simp at hb; done) | (simp at hb) | skip) | omega | exact rfl | exact Nat.le_refl _ | (show _ + 1 ≤ 4294967296; omega) | (dsimp only; omega) | (show wantB _ _ = true; simp; done) | (show wantB _ _ = true; simp; omega) | (show (_ : Bool) = _; simp_all; done) | (exfalso; omega) | refine aRegion_auto (by decide +kernel) ?_ | refine ⟨_, _, REnt.drop ⟨rfl, rfl⟩, ?_⟩ | fail))
      · show (tl a k ++ pre).length + 1 ≤ 4294967296
        omega
      · obtain ⟨g, rfl, hv1, hv2⟩ := vb_step hb h4
        refine ⟨(g, pre ++ [n % 128 + 128], n / 128), ⟨?_, ?_, ?_, hv2⟩, by show g < g + 1; omega, Ent.ren [0, 3] rfl ?_ ?_⟩
        · rw [← h1, hv1]; simp
        · simp; omega
        · show 0 ≤ n / 128; omega
        · (repeat' (first | exact trivial | exact rfl | refine And.intro ?_ ?_))
          refine congrArg (fun l => some (AO.row u8 l)) (?_ : List.take (tl a k ++ pre).length (tl a k ++ pre) ++ [bitI .or .u8 (IntKind.u8.wrap n) 128] = tl a k ++ (pre ++ [n % 128 + 128]))
          rw [List.take_length, or128, List.append_assoc]
        · (repeat' (first | exact trivial | exact rfl | refine And.intro ?_ ?_))
          · exact congrArg (AV.ref 3 0) (show (tl a k ++ pre).length + 1 = (tl a k ++ (pre ++ [n % 128 + 128])).length by simp; omega)
          · exact congrArg (AV.fz int) (show Int.fdiv n 128 = n / 128 from Int.fdiv_eq_ediv_of_nonneg _ (by omega))
      · show (tl a k ++ pre).length + 1 ≤ 4294967296
        omega
      · have hb : ¬ 127 < n := by omega
        have hk' : k < a.2.2.length := by assumption
        have hs := hs hk'
        rw [← h1, vb_end hb, ← List.append_assoc] at hs
        refine ⟨k + 1, by show _ ≤ _; omega, by show _ - _ < _ - _; omega, Ent.ren [0, 3] rfl ?_ ?_⟩
        · (repeat' (first | exact trivial | exact rfl | refine And.intro ?_ ?_))
          refine congrArg (fun l => some (AO.row u8 l)) (?_ : List.take (tl a k ++ pre).length (tl a k ++ pre) ++ [IntKind.u8.wrap n] = tl a (k + 1))
          rw [List.take_length, hs, u8_wrap, Int.emod_eq_of_lt h3 (by omega)]
        · (repeat' (first | exact trivial | exact rfl | refine And.intro ?_ ?_))
          · refine congrArg (AV.ref 3 0) (?_ : (tl a k ++ pre).length + 1 = (tl a (k + 1)).length)
            rw [hs]; simp; omega
          · refine congrArg (AV.fz int) (?_ : _ = lastOf (a.2.2.take (k + 1)))
            rw [List.take_succ_eq_append_getElem hk', lastOf_append]
            simp [List.getD, hk']
    · refine ⟨Nat × List Int × Int, fun x => ⟨[(1, .ptr 0 0), (5, .ref 1 0 (tl a k ++ x.2.1).length), (6, .fz int (a.2.2.getD k 0)), (10, .fz int x.2.2), (24, .fz (.list int) a.2.2), (25, .fz int (a.2.2.length : Nat)), (26, .fz int k)], [.box [.fz int a.1, .fz int a.2.1, .fz (.list int) a.2.2], .row u8 (tl a k ++ x.2.1)]⟩, fun x => x.2.1 ++ vb x.1 x.2.2 = vb 4 (zig d) ∧ x.2.1.length + x.1 = 4 ∧ 0 ≤ x.2.2 ∧ x.2.2 < 128 ^ (x.1 + 1), fun x => x.1, (4, [], zig d), ⟨rfl, rfl, hz, hz2⟩, Ent.sub (by simp) ?_, ?_⟩
      · (repeat' (first | exact trivial | exact rfl | refine And.intro ?_ ?_))
        · exact congrArg (AV.ref 1 0) (by simp)
        refine congrArg (AV.fz int) (?_ : _ = zig d)
        rw [hdd']; unfold zig; rw [if_neg (by rw [← hdd']; simpa using hb)]
      rintro ⟨f, pre, n⟩ ⟨h1, h2, h3, h4⟩
      simp only at h1 h2 h3 h4
      have hb8 : n < 34359738368 := by
        have : (128 : Int) ^ (f + 1) ≤ 128 ^ 5 := pow5 (by omega)
        omega
      have hap : (tl a k ++ pre).length ≤ 100000 := by simp; omega
      (repeat' (first | exact trivial | exact fun h => h | refine And.intro ?_ ?_ | (intro hb; first | (simp at hb; done) | (simp at hb) | skip) | omega | exact rfl | exact Nat.le_refl _ | (show _ + 1 ≤ 4294967296; omega) | (dsimp only; omega) | (show wantB _ _ = true; simp; done) | (show wantB _ _ = true; simp; omega) | (show (_ : Bool) = _; simp_all; done) | (exfalso; omega) | refine aRegion_auto (by decide +kernel) ?_ | refine ⟨_, _, REnt.drop ⟨rfl, rfl⟩, ?_⟩ | fail))
      · show (tl a k ++ pre).length + 1 ≤ 4294967296
        omega
      · obtain ⟨g, rfl, hv1, hv2⟩ := vb_step hb h4
        refine ⟨(g, pre ++ [n % 128 + 128], n / 128), ⟨?_, ?_, ?_, hv2⟩, by show g < g + 1; omega, Ent.ren [0, 3] rfl ?_ ?_⟩
        · rw [← h1, hv1]; simp
        · simp; omega
        · show 0 ≤ n / 128; omega
        · (repeat' (first | exact trivial | exact rfl | refine And.intro ?_ ?_))
          refine congrArg (fun l => some (AO.row u8 l)) (?_ : List.take (tl a k ++ pre).length (tl a k ++ pre) ++ [bitI .or .u8 (IntKind.u8.wrap n) 128] = tl a k ++ (pre ++ [n % 128 + 128]))
          rw [List.take_length, or128, List.append_assoc]
        · (repeat' (first | exact trivial | exact rfl | refine And.intro ?_ ?_))
          · exact congrArg (AV.ref 3 0) (show (tl a k ++ pre).length + 1 = (tl a k ++ (pre ++ [n % 128 + 128])).length by simp; omega)
          · exact congrArg (AV.fz int) (show Int.fdiv n 128 = n / 128 from Int.fdiv_eq_ediv_of_nonneg _ (by omega))
      · show (tl a k ++ pre).length + 1 ≤ 4294967296
        omega
      · have hb : ¬ 127 < n := by omega
        have hk' : k < a.2.2.length := by assumption
        have hs := hs hk'
        rw [← h1, vb_end hb, ← List.append_assoc] at hs
        refine ⟨k + 1, by show _ ≤ _; omega, by show _ - _ < _ - _; omega, Ent.ren [0, 3] rfl ?_ ?_⟩
        · (repeat' (first | exact trivial | exact rfl | refine And.intro ?_ ?_))
          refine congrArg (fun l => some (AO.row u8 l)) (?_ : List.take (tl a k ++ pre).length (tl a k ++ pre) ++ [IntKind.u8.wrap n] = tl a (k + 1))
          rw [List.take_length, hs, u8_wrap, Int.emod_eq_of_lt h3 (by omega)]
        · (repeat' (first | exact trivial | exact rfl | refine And.intro ?_ ?_))
          · refine congrArg (AV.ref 3 0) (?_ : (tl a k ++ pre).length + 1 = (tl a (k + 1)).length)
            rw [hs]; simp; omega
          · refine congrArg (AV.fz int) (?_ : _ = lastOf (a.2.2.take (k + 1)))
            rw [List.take_succ_eq_append_getElem hk', lastOf_append]
            simp [List.getD, hk']
    · have hk' : k = a.2.2.length := by omega
      subst hk'
      (repeat' (first | exact trivial | exact fun h => h | refine And.intro ?_ ?_ | (intro hb; first | (simp at hb; done) | (simp at hb) | skip) | omega | exact rfl | exact Nat.le_refl _ | (show _ + 1 ≤ 4294967296; omega) | (dsimp only; omega) | (show wantB _ _ = true; simp; done) | (show wantB _ _ = true; simp; omega) | (show (_ : Bool) = _; simp_all; done) | (exfalso; omega) | refine aRegion_auto (by decide +kernel) ?_ | fail))
      refine ⟨_, _, (REnt.conv [.dat (.list u8), .keep] _ rfl ?_).trans (REnt.drop ⟨rfl, rfl⟩), ?_⟩
      · (repeat' (first | exact trivial | refine And.intro ?_ ?_ | (show _ ≤ _; omega) | (show _ ≤ _; simp; done)))
      · have e : List.take (tl a a.2.2.length).length (tl a a.2.2.length) = tileQ a := by
          rw [List.take_length, tl_all]; unfold tileQ; rw [if_pos hv]
        rw [hv, ← e] at hK
        exact hK
  · obtain h | h | h : rerr a = 2 ∨ rerr a = 3 ∨ rerr a = 4 := by
      have := rerr_in a
      have := rerr_ge (a := a) (by omega)
      omega
    all_goals
      have e : tileQ a = [] := by unfold tileQ; rw [if_neg hv]
      rw [e, h] at hK
      rw [h]
      (repeat' (first | exact trivial | exact fun h => h | refine And.intro ?_ ?_ | (intro hb; first | (simp at hb; done) | (simp at hb) | skip) | omega | exact rfl | exact Nat.le_refl _ | (show _ + 1 ≤ 4294967296; omega) | (dsimp only; omega) | (show wantB _ _ = true; simp; done) | (show wantB _ _ = true; simp; omega) | (show (_ : Bool) = _; simp_all; done) | (exfalso; omega) | refine aRegion_auto (by decide +kernel) ?_ | fail))
      refine ⟨_, _, (REnt.conv [.dat (.list u8), .keep] _ rfl trivial).trans (REnt.drop ⟨rfl, rfl⟩), ?_⟩
      exact hK
end Go.Proofs.YtidhgdipnfhoeaaDoor
/-
  Tiles: bytes compared, a tile read: the walks.
-/
namespace Go.Proofs.YtidhgdipnfhoeaaDoor
open Go Go.Ab
set_option maxRecDepth 100000
/-- a first region, then a scope with a label that is jumped to, forward only -/
def normQ (Q : St → Prop) : Exit → St → Prop
  | .normal, σ => Q σ
  | _, _ => False
theorem acall_mkSS {E : Env} (ok : EnvOk E) {f : FuncId} {fn : Func} {r c rest : Code} {args : List AV} {A : List AO} {K : AV → List AO → Prop} (l : Nat) {ι : Type} (S : ι → St) (I : ι → Prop) (hf : E.P.funcs[f]? = some fn) (hb : fn.body = some (.seq r (.scope c))) (hl : findLabel c l = some rest) (hnm : (fn.name == "runtime.NumGoroutine") = false) (hN : fn.ntmps = E.N) (hle : Nat.ble args.length E.N = true) (hn0 : A.length = E.n0)
    (h : awp E r (normQ fun σ => awp E c (gotoQ E.n0 l S I (retQ E fn.results.toList K)) σ) ⟨zipT args 0, A⟩) (h2 : ∀ i, I i → awp E rest (noGoto (retQ E fn.results.toList K)) (S i)) : ACall E.P E.G f args A K := by
  refine acall_wp ok hf hb hnm hN hle hn0 fun cx hG a w hs => ?_
  have ent : ∀ {σ σ' : St} {a : Act} {w : World}, Ent E.n0 σ σ' → Sim E.n0 cx E.N σ a w → Sim E.n0 cx E.N σ' a w := by
    intro σ σ' a w he ⟨cy, hw, hA, H, hT, hE, hd, hN⟩
    obtain ⟨c', k1, k2, k3, k4, k5⟩ := he cy H hA hE.le.len _ hT
    exact ⟨c', k1.trans hw, k4, k3, k5, hE.trans k2, hd, hN⟩
  refine wp_seq (wp_mono (awp_sound ok cx hG r _ _ _ _ h hs) fun e a w ⟨σ, hq, hs'⟩ => ?_)
  cases e with
  | normal =>
    refine wp_scope_jumps l (fun a w => ∃ i, I i ∧ Sim E.n0 cx E.N (S i) a w) (fun _ _ => 0) hl ?_ ?_
    · refine wp_mono (awp_sound ok cx hG c _ _ _ _ hq hs') fun e a w ⟨σ, hq, hs'⟩ => ?_
      cases e with
      | goto m => obtain ⟨rfl, i, hi, he⟩ := hq; exact ⟨rfl, i, hi, ent he hs'⟩
      | _ => exact ⟨σ, hq, hs'⟩
    · intro a w ⟨i, hi, hs'⟩
      refine wp_mono (awp_sound ok cx hG rest _ _ _ _ (h2 i hi) hs') fun e a w ⟨σ, hq, hs'⟩ => ?_
      cases e with
      | goto m => exact hq.elim
      | _ => exact ⟨σ, hq, hs'⟩
  | _ => exact hq.elim
theorem bytesEqual_one (G : List (Nat × Value)) (xs ys : List Int) (hx : ∀ x ∈ xs, 0 ≤ x ∧ x ≤ 255) (hy : ∀ x ∈ ys, 0 ≤ x ∧ x ≤ 255) (K : AV → List AO → Prop) (hK : K (.fz .bool (decide (xs = ys))) []) :
    ACall Tryd.prog G 39 [.fz (.list u8) xs, .fz (.list u8) ys] [] K := by
  have e := byN_beq hx hy
  rw [← e] at hK
  refine acall_mk (E := envAt G 10 0) (envOk _ _ _) Tryd.func39 rfl rfl rfl rfl rfl ?_
  (repeat' (first | exact trivial | exact fun h => h | refine And.intro ?_ ?_ | (intro hb; first | (simp at hb; done) | (simp at hb) | skip) | omega | exact rfl | exact Nat.le_refl _ | (show _ + 1 ≤ 4294967296; omega) | (dsimp only; omega) | (show wantB _ _ = true; simp; done) | (show wantB _ _ = true; simp; omega) | (show (_ : Bool) = _; simp_all; done) | (exfalso; omega) | refine aRegion_auto (by decide +kernel) ?_ | refine ⟨_, _, REnt.drop ⟨rfl, rfl⟩, ?_⟩ | fail))
  exact hK
/-- what a tile's bytes are the writing of -/
def untQ (b : List Int) : Option Ras :=
  if b.length < 2 then none else
  match dec (b.drop 2) 0 0 [] with
  | none => none
  | some L => if rerr (b.getD 0 0, b.getD 1 0, L) = 0 ∧ tileB (b.getD 0 0, b.getD 1 0, L) = b then some (b.getD 0 0, b.getD 1 0, L) else none
def untR (b : List Int) : Ras := (untQ b).getD (0, 0, [])
def untE (b : List Int) : Nat := if (untQ b).isSome then 0 else 8
theorem getD_last (L : List Int) : L.getD (L.length - 1) 0 = lastOf L := by
  unfold lastOf
  cases L with
  | nil => rfl
  | cons x l => rw [List.getLastD_cons, List.getLastD_eq_getLast?, List.getLast?_eq_getElem?]; simp [List.getD]; cases l <;> simp
theorem getD_opt (b : List Int) (i : Nat) : b.getD i 0 = b[i]?.getD u8.dft := rfl
set_option maxHeartbeats 4000000 in
theorem untile_one (E : Errs) (b : List Int) (hl : b.length ≤ 100000) (hbb : ∀ x ∈ b, 0 ≤ x ∧ x ≤ 255) (K : AV → List AO → Prop) (hK : K (RE (untR b) (er E (untE b))) []) :
    ACall Tryd.prog (G8 E) 24 [.fz (.list u8) b] [] K := by
  have hx : ∀ i, 0 ≤ b.getD i 0 ∧ b.getD i 0 ≤ 255 := by
    intro i
    by_cases hi : i < b.length
    · have := hbb b[i] (List.getElem_mem hi)
      simpa [List.getD, hi] using this
    · simp [List.getD, List.getElem?_eq_none (show b.length ≤ i by omega)]
  have g0 : 0 ≤ b.getD (Int.toNat 0) u8.dft ∧ b.getD (Int.toNat 0) u8.dft ≤ 255 := hx 0
  have g1 : 0 ≤ b.getD (Int.toNat 1) u8.dft ∧ b.getD (Int.toNat 1) u8.dft ≤ 255 := hx 1
  refine acall_mkSS (E := envCut (G8 E) 90 0 [9, 14, 17, 19]) (envCutOk _ _ _ _) 0 (fun x : Ras => ⟨[(2, .ptr 0 0)], [.box [.fz int x.1, .fz int x.2.1, .fz (.list int) x.2.2]]⟩) (fun _ => untQ b = none) Tryd.func24 rfl rfl rfl rfl rfl rfl ?_ ?_
  · (repeat' (first | exact trivial | exact fun h => h | refine And.intro ?_ ?_ | (intro hb; first | (simp at hb; done) | (simp at hb) | skip) | omega | exact rfl | exact Nat.le_refl _ | (show _ + 1 ≤ 4294967296; omega) | (dsimp only; omega) | (show wantB _ _ = true; simp; done) | (show wantB _ _ = true; simp; omega) | (show (_ : Bool) = _; simp_all; done) | (exfalso; omega) | refine aRegion_auto (by decide +kernel) ?_ | fail))
    · refine ⟨(0, 0, []), ?_, ((Ent.nilBox 0 2 int rfl rfl).trans (Ent.datBox 0 rfl rfl (Nat.le_refl _) rfl)).trans (Ent.ren [0] rfl (by (repeat' (first | exact trivial | exact rfl | refine And.intro ?_ ?_))) (by (repeat' (first | exact trivial | exact rfl | refine And.intro ?_ ?_))))⟩
      unfold untQ
      exact if_pos (by omega)
    (apply exEff; focus (repeat' (first | exact ⟨rfl, rfl⟩ | exact trivial | refine And.intro ?_ ?_ | omega | exact Nat.le_refl _ | (show _ + 1 ≤ 4294967296; omega))))
    (repeat' (first | exact trivial | exact fun h => h | refine And.intro ?_ ?_ | (intro hb; first | (simp at hb; done) | (simp at hb) | skip) | omega | exact rfl | exact Nat.le_refl _ | (show _ + 1 ≤ 4294967296; omega) | (dsimp only; omega) | (show wantB _ _ = true; simp; done) | (show wantB _ _ = true; simp; omega) | (show (_ : Bool) = _; simp_all; done) | (exfalso; omega) | refine aRegion_auto (by decide +kernel) ?_ | fail))
    refine ⟨Nat × Nat × Int × List Int, fun x => ⟨[(0, .fz (.list u8) b), (2, .ptr 0 0), (4, .fz int x.1), (5, .fz int x.2.2.1), (6, .fz int (7 * (x.2.1 : Int)))], [.box [.fz int (b.getD 0 0), .fz int (b.getD 1 0), .ref 1 0 x.2.2.2.length], .row int x.2.2.2]⟩, fun x => (2 ≤ x.1 ∧ x.1 ≤ b.length ∧ x.2.1 ≤ 5) ∧ (0 ≤ x.2.2.1 ∧ x.2.2.1 < 128 ^ x.2.1) ∧ x.2.2.2.length ≤ x.1 ∧ (-68719476736 * (x.1 : Int) ≤ lastOf x.2.2.2 ∧ lastOf x.2.2.2 ≤ 68719476736 * (x.1 : Int)) ∧ dec (b.drop x.1) x.2.1 x.2.2.1 x.2.2.2 = dec (b.drop 2) 0 0 [], fun x => b.length - x.1, (2, 0, 0, []), ⟨by simp; omega, by simp, by simp, by simp [lastOf], rfl⟩, (Ent.nilBox 0 2 int rfl rfl).trans (Ent.sub rfl ?_), ?_⟩
    · (repeat' (first | exact trivial | exact rfl | refine And.intro ?_ ?_))
    rintro ⟨i, k, n, L⟩ ⟨⟨h1, h2, h3⟩, ⟨h4, h5⟩, h6, ⟨h7, h8⟩, h9⟩
    simp only at h1 h2 h3 h4 h5 h6 h7 h8 h9
    have hi : 0 ≤ b.getD (Int.toNat (i : Int)) u8.dft ∧ b.getD (Int.toNat (i : Int)) u8.dft ≤ 255 := hx i
    by_cases hend : i = b.length
    · subst hend
      have hd : dec (b.drop 2) 0 0 [] = some L := by rw [← h9, List.drop_length]; rfl
      have hq : untQ b = if rerr (b.getD 0 0, b.getD 1 0, L) = 0 ∧ tileB (b.getD 0 0, b.getD 1 0, L) = b then some (b.getD 0 0, b.getD 1 0, L) else none := by
        unfold untQ; rw [if_neg (by omega), hd]
      (repeat' (first | exact trivial | exact fun h => h | refine And.intro ?_ ?_ | (intro hb; first | (simp at hb; done) | (simp at hb) | skip) | omega | exact rfl | exact Nat.le_refl _ | (show _ + 1 ≤ 4294967296; omega) | (dsimp only; omega) | (show wantB _ _ = true; simp; done) | (show wantB _ _ = true; simp; omega) | (show (_ : Bool) = _; simp_all; done) | (exfalso; omega) | refine aRegion_auto (by decide +kernel) ?_ | fail))
      refine ⟨[(0, .fz (.list u8) b), (2, .ptr 0 0)], [.box [.fz int (b.getD 0 0), .fz int (b.getD 1 0), .fz (.list int) L]], (Ent.datBox 0 rfl rfl ?_ rfl).trans (Ent.ren [0] rfl ?_ ?_), ?_⟩
      · (repeat' (first | exact trivial | refine And.intro ?_ ?_ | (show _ ≤ _; omega) | (show _ ≤ _; simp; done)))
      · (repeat' (first | exact trivial | exact rfl | refine And.intro ?_ ?_))
        exact congrArg (fun l => some (AO.box [.fz int (b.getD 0 0), .fz int (b.getD 1 0), .fz (.list int) l])) (List.take_length (l := L))
      · (repeat' (first | exact trivial | exact rfl | refine And.intro ?_ ?_))
      (repeat' (first | exact trivial | exact fun h => h | refine And.intro ?_ ?_ | (intro hb; first | (simp at hb; done) | (simp at hb) | skip) | omega | exact rfl | exact Nat.le_refl _ | (show _ + 1 ≤ 4294967296; omega) | (dsimp only; omega) | (show wantB _ _ = true; simp; done) | (show wantB _ _ = true; simp; omega) | (show (_ : Bool) = _; simp_all; done) | (exfalso; omega) | refine aRegion_auto (by decide +kernel) ?_ | fail))
      refine acall_conv [.dat RasT] _ _ _ rfl trivial (acall_frame0 rfl (tile_one E (b.getD 0 0, b.getD 1 0, L) (by show L.length ≤ _; omega) _ ?_))
      by_cases hv : rerr (b.getD 0 0, b.getD 1 0, L) = 0
      · have ht : tileQ (b.getD 0 0, b.getD 1 0, L) = tileB (b.getD 0 0, b.getD 1 0, L) := by unfold tileQ; rw [if_pos hv]
        rw [hv, ht]
        have htb : ∀ x ∈ tileB (b.getD 0 0, b.getD 1 0, L), 0 ≤ x ∧ x ≤ 255 := by
          obtain ⟨_, hbig⟩ := rerr_ok hv
          intro x hx'
          unfold tileB at hx'
          simp only [List.mem_cons] at hx'
          rcases hx' with rfl | rfl | hx'
          · exact hx 0
          · exact hx 1
          · exact enc_byte 0 L (fun y hy => by have := hbig y hy; unfold bigB at this; simp at this; omega) (by omega) x hx'
        (repeat' (first | exact trivial | exact fun h => h | refine And.intro ?_ ?_ | (intro hb; first | (simp at hb; done) | (simp at hb) | skip) | omega | exact rfl | exact Nat.le_refl _ | (show _ + 1 ≤ 4294967296; omega) | (dsimp only; omega) | (show wantB _ _ = true; simp; done) | (show wantB _ _ = true; simp; omega) | (show (_ : Bool) = _; simp_all; done) | (exfalso; omega) | refine aRegion_auto (by decide +kernel) ?_ | fail))
        refine acall_frame0 rfl (bytesEqual_one _ _ _ htb hbb _ ?_)
        by_cases hE : tileB (b.getD 0 0, b.getD 1 0, L) = b
        · rw [if_pos ⟨hv, hE⟩] at hq
          (repeat' (first | exact trivial | exact fun h => h | refine And.intro ?_ ?_ | (intro hb; first | (simp at hb; done) | (simp at hb) | skip) | omega | exact rfl | exact Nat.le_refl _ | (show _ + 1 ≤ 4294967296; omega) | (dsimp only; omega) | (show wantB _ _ = true; simp; done) | (show wantB _ _ = true; simp; omega) | (show (_ : Bool) = _; simp_all; done) | (exfalso; omega) | refine aRegion_auto (by decide +kernel) ?_ | fail))
          · refine ⟨_, _, (REnt.conv [.dat RasT, .keep] _ rfl trivial).trans (REnt.drop ⟨rfl, rfl⟩), ?_⟩
            unfold untE untR at hK
            rw [hq] at hK
            exact hK
          · exact absurd hE hb
        · rw [if_neg (fun h => hE h.2)] at hq
          (repeat' (first | exact trivial | exact fun h => h | refine And.intro ?_ ?_ | (intro hb; first | (simp at hb; done) | (simp at hb) | skip) | omega | exact rfl | exact Nat.le_refl _ | (show _ + 1 ≤ 4294967296; omega) | (dsimp only; omega) | (show wantB _ _ = true; simp; done) | (show wantB _ _ = true; simp; omega) | (show (_ : Bool) = _; simp_all; done) | (exfalso; omega) | refine aRegion_auto (by decide +kernel) ?_ | fail))
          · exact absurd hb hE
          (apply exEff; focus (repeat' (first | exact ⟨rfl, rfl⟩ | exact trivial | refine And.intro ?_ ?_ | omega | exact Nat.le_refl _ | (show _ + 1 ≤ 4294967296; omega))))
          (repeat' (first | exact trivial | exact fun h => h | refine And.intro ?_ ?_ | (intro hb; first | (simp at hb; done) | (simp at hb) | skip) | omega | exact rfl | exact Nat.le_refl _ | (show _ + 1 ≤ 4294967296; omega) | (dsimp only; omega) | (show wantB _ _ = true; simp; done) | (show wantB _ _ = true; simp; omega) | (show (_ : Bool) = _; simp_all; done) | (exfalso; omega) | refine aRegion_auto (by decide +kernel) ?_ | fail))
          refine ⟨_, _, (REnt.conv [.dat RasT, .keep] _ rfl trivial).trans (REnt.drop ⟨rfl, rfl⟩), ?_⟩
          unfold untE untR at hK
          rw [hq] at hK
          exact hK
      · rw [if_neg (fun h => hv h.1)] at hq
        obtain h | h | h : rerr (b.getD 0 0, b.getD 1 0, L) = 2 ∨ rerr (b.getD 0 0, b.getD 1 0, L) = 3 ∨ rerr (b.getD 0 0, b.getD 1 0, L) = 4 := by
          have := rerr_in (b.getD 0 0, b.getD 1 0, L)
          have := rerr_ge (a := (b.getD 0 0, b.getD 1 0, L)) (by omega)
          omega
        all_goals
          rw [h]
          (repeat' (first | exact trivial | exact fun h => h | refine And.intro ?_ ?_ | (intro hb; first | (simp at hb; done) | (simp at hb) | skip) | omega | exact rfl | exact Nat.le_refl _ | (show _ + 1 ≤ 4294967296; omega) | (dsimp only; omega) | (show wantB _ _ = true; simp; done) | (show wantB _ _ = true; simp; omega) | (show (_ : Bool) = _; simp_all; done) | (exfalso; omega) | refine aRegion_auto (by decide +kernel) ?_ | fail))
          (apply exEff; focus (repeat' (first | exact ⟨rfl, rfl⟩ | exact trivial | refine And.intro ?_ ?_ | omega | exact Nat.le_refl _ | (show _ + 1 ≤ 4294967296; omega))))
          (repeat' (first | exact trivial | exact fun h => h | refine And.intro ?_ ?_ | (intro hb; first | (simp at hb; done) | (simp at hb) | skip) | omega | exact rfl | exact Nat.le_refl _ | (show _ + 1 ≤ 4294967296; omega) | (dsimp only; omega) | (show wantB _ _ = true; simp; done) | (show wantB _ _ = true; simp; omega) | (show (_ : Bool) = _; simp_all; done) | (exfalso; omega) | refine aRegion_auto (by decide +kernel) ?_ | fail))
          refine ⟨_, _, (REnt.conv [.dat RasT, .keep] _ rfl trivial).trans (REnt.drop ⟨rfl, rfl⟩), ?_⟩
          unfold untE untR at hK
          rw [hq] at hK
          exact hK
    have hib : i < b.length := by omega
    have hdrop : b.drop i = b.getD i 0 :: b.drop (i + 1) := by
      rw [List.drop_eq_getElem_cons hib]
      simp [List.getD, hib]
    by_cases hk : k ≤ 4
    · obtain ⟨m, hm, hm0, hm1⟩ : ∃ m, m = n + b.getD i 0 % 128 * 128 ^ k ∧ 0 ≤ m ∧ m < 128 ^ (k + 1) := by
        refine ⟨_, rfl, ?_, ?_⟩
        · have : (0 : Int) ≤ b.getD i 0 % 128 * 128 ^ k := Int.mul_nonneg (by omega) (Int.pow_nonneg (by omega))
          omega
        · have : b.getD i 0 % 128 * 128 ^ k ≤ 127 * 128 ^ k := Int.mul_le_mul_of_nonneg_right (by omega) (Int.pow_nonneg (by omega))
          rw [Int.pow_succ]
          omega
      have hm2 : m < 34359738368 := by
        have : (128 : Int) ^ (k + 1) ≤ 128 ^ 5 := pow5 hk
        omega
      have e3 : bitI .and .u8 (b.getD (Int.toNat (i : Int)) u8.dft) 127 = b.getD i 0 % 128 := and127 hi.1 hi.2
      have hT : bitI .or .i64 n (IntKind.i64.wrap (bitI .and .u8 (b.getD (Int.toNat (i : Int)) u8.dft) 127 * 2 ^ min (Int.toNat (7 * (k : Int))) IntKind.i64.bits)) = m := by
        have e1 : (2 : Int) ^ min (Int.toNat (7 * (k : Int))) IntKind.i64.bits = 2 ^ (7 * k) := by
          congr 1; simp [IntKind.bits]; omega
        have e2 : (2 : Int) ^ (7 * k) = 128 ^ k := by rw [Int.pow_mul]; rfl
        have e4 : (0 : Int) ≤ b.getD i 0 % 128 * 128 ^ k := Int.mul_nonneg (by omega) (Int.pow_nonneg (by omega))
        rw [e1, e3, i64_wrap_small (by rw [e2]; exact e4) (by rw [e2]; omega), or_sum h4 (by rw [e2]; exact h5) (by omega) (by rw [e2]; omega), e2, hm]
      have hF : m.fdiv (2 ^ min (Int.toNat 1) IntKind.i64.bits) = m / 2 := Int.fdiv_eq_ediv_of_nonneg _ (by decide)
      have hA : bitI .and .i64 m 1 = m % 2 := and1 hm0 (by omega)
      have hu : -17179869185 ≤ unzig m ∧ unzig m ≤ 17179869185 := by unfold unzig; split <;> omega
      have hl2 : L.getD (0 + Int.toNat (((L.length : Nat) : Int) - 1)) int.dft = lastOf L := by
        have e : 0 + Int.toNat (((L.length : Nat) : Int) - 1) = L.length - 1 := by omega
        rw [e]; exact getD_last L
      (repeat' (first | exact trivial | exact fun h => h | refine And.intro ?_ ?_ | (intro hb; first | (simp at hb; done) | (simp at hb) | skip) | omega | exact rfl | exact Nat.le_refl _ | (show _ + 1 ≤ 4294967296; omega) | (dsimp only; omega) | (show wantB _ _ = true; simp; done) | (show wantB _ _ = true; simp; omega) | (show (_ : Bool) = _; simp_all; done) | (exfalso; omega) | refine aRegion_auto (by decide +kernel) ?_ | fail))
      · refine ⟨[(0, .fz (.list u8) b), (2, .ptr 0 0), (4, .fz int i), (5, .fz int m), (6, .fz int (7 * (k : Int)))], [.box [.fz int (b.getD 0 0), .fz int (b.getD 1 0), .ref 1 0 L.length], .row int L], Ent.sub rfl ?_, ?_⟩
        · (repeat' (first | exact trivial | exact rfl | refine And.intro ?_ ?_))
          exact congrArg (AV.fz int) hT
        (repeat' (first | exact trivial | exact fun h => h | refine And.intro ?_ ?_ | (intro hb; first | (simp at hb; done) | (simp at hb) | skip) | omega | exact rfl | exact Nat.le_refl _ | (show _ + 1 ≤ 4294967296; omega) | (dsimp only; omega) | (show wantB _ _ = true; simp; done) | (show wantB _ _ = true; simp; omega) | (show (_ : Bool) = _; simp_all; done) | (exfalso; omega) | refine aRegion_auto (by decide +kernel) ?_ | fail))
        · have hv : 127 < b.getD i 0 := by rw [getD_opt]; exact hb
          refine ⟨(i + 1, k + 1, m, L), ⟨by show 2 ≤ i + 1 ∧ i + 1 ≤ b.length ∧ k + 1 ≤ 5; omega, ⟨hm0, hm1⟩, by show L.length ≤ i + 1; omega, by show -68719476736 * ((i + 1 : Nat) : Int) ≤ lastOf L ∧ lastOf L ≤ 68719476736 * ((i + 1 : Nat) : Int); omega, ?_⟩, by show _ - _ < _ - _; omega, Ent.sub rfl ?_⟩
          · show dec (b.drop (i + 1)) (k + 1) m L = _
            rw [← h9, hdrop, dec.eq_2, if_neg (by omega), if_pos hv, hm]
          · (repeat' (first | exact trivial | exact rfl | refine And.intro ?_ ?_))
        all_goals
          have hv : ¬ 127 < b.getD i 0 := by
            rw [getD_opt]
            have : b[i]?.getD u8.dft ≤ 127 := by assumption
            exact Int.not_lt.2 this
          refine ⟨[(0, .fz (.list u8) b), (2, .ptr 0 0), (4, .fz int i), (7, .fz int (unzig m))], [.box [.fz int (b.getD 0 0), .fz int (b.getD 1 0), .ref 1 0 L.length], .row int L], Ent.sub rfl ?_, ?_⟩
          · (repeat' (first | exact trivial | exact rfl | refine And.intro ?_ ?_))
            refine congrArg (AV.fz int) (?_ : _ = unzig m)
            first
              | (show (0 - m.fdiv _ - 1 : Int) = _; rw [hF]; unfold unzig; rw [if_pos (by omega)]; omega)
              | (show m.fdiv _ = _; rw [hF]; unfold unzig; rw [if_neg (by rw [← hA]; simpa using hb)])
          (repeat' (first | exact trivial | exact fun h => h | refine And.intro ?_ ?_ | (intro hb; first | (simp at hb; done) | (simp at hb) | skip) | omega | exact rfl | exact Nat.le_refl _ | (show _ + 1 ≤ 4294967296; omega) | (dsimp only; omega) | (show wantB _ _ = true; simp; done) | (show wantB _ _ = true; simp; omega) | (show (_ : Bool) = _; simp_all; done) | (exfalso; omega) | refine aRegion_auto (by decide +kernel) ?_ | fail))
          all_goals
            refine ⟨[(0, .fz (.list u8) b), (2, .ptr 0 0), (4, .fz int i), (7, .fz int (lastOf L + unzig m))], [.box [.fz int (b.getD 0 0), .fz int (b.getD 1 0), .ref 1 0 L.length], .row int L], Ent.sub rfl ?_, ?_⟩
            · (repeat' (first | exact trivial | exact rfl | refine And.intro ?_ ?_))
              refine congrArg (AV.fz int) (?_ : _ = lastOf L + unzig m)
              first
                | (show (unzig m + L.getD (0 + Int.toNat (((L.length : Nat) : Int) - 1)) int.dft : Int) = _; rw [hl2]; omega)
                | (show unzig m = _; rw [hb]; simp [lastOf])
            have hap : L.length + 1 ≤ 4294967296 := by omega
            (repeat' (first | exact trivial | exact fun h => h | refine And.intro ?_ ?_ | (intro hb; first | (simp at hb; done) | (simp at hb) | skip) | omega | exact rfl | exact Nat.le_refl _ | (show _ + 1 ≤ 4294967296; omega) | (dsimp only; omega) | (show wantB _ _ = true; simp; done) | (show wantB _ _ = true; simp; omega) | (show (_ : Bool) = _; simp_all; done) | (exfalso; omega) | refine aRegion_auto (by decide +kernel) ?_ | fail))
            refine ⟨(i + 1, 0, 0, L ++ [lastOf L + unzig m]), ⟨by show 2 ≤ i + 1 ∧ i + 1 ≤ b.length ∧ 0 ≤ 5; omega, ⟨by show (0 : Int) ≤ 0; omega, by show (0 : Int) < 128 ^ 0; decide⟩, by show (L ++ [_]).length ≤ i + 1; simp; omega, by rw [lastOf_append]; show -68719476736 * ((i + 1 : Nat) : Int) ≤ lastOf L + unzig m ∧ lastOf L + unzig m ≤ 68719476736 * ((i + 1 : Nat) : Int); omega, ?_⟩, by show _ - _ < _ - _; omega, Ent.ren [0, 3] rfl ?_ ?_⟩
            · show dec (b.drop (i + 1)) 0 0 (L ++ [lastOf L + unzig m]) = _
              rw [← h9, hdrop, dec.eq_2, if_neg (by omega), if_neg hv, hm]
            · (repeat' (first | exact trivial | exact rfl | refine And.intro ?_ ?_))
              · exact congrArg (fun n => some (AO.box [.fz int (b.getD 0 0), .fz int (b.getD 1 0), .ref 3 0 n])) (show L.length + 1 = (L ++ [lastOf L + unzig m]).length by simp)
              · exact congrArg (fun l => some (AO.row int (l ++ [lastOf L + unzig m]))) (List.take_length (l := L))
            · (repeat' (first | exact trivial | exact rfl | refine And.intro ?_ ?_))
    · have hk5 : k = 5 := by omega
      subst hk5
      (repeat' (first | exact trivial | exact fun h => h | refine And.intro ?_ ?_ | (intro hb; first | (simp at hb; done) | (simp at hb) | skip) | omega | exact rfl | exact Nat.le_refl _ | (show _ + 1 ≤ 4294967296; omega) | (dsimp only; omega) | (show wantB _ _ = true; simp; done) | (show wantB _ _ = true; simp; omega) | (show (_ : Bool) = _; simp_all; done) | (exfalso; omega) | refine aRegion_auto (by decide +kernel) ?_ | fail))
      refine ⟨(b.getD 0 0, b.getD 1 0, L), ?_, (Ent.datBox 0 rfl rfl ?_ rfl).trans (Ent.ren [0] rfl ?_ ?_)⟩
      · show untQ b = none
        unfold untQ
        rw [if_neg (by omega), ← h9, hdrop, dec.eq_2, if_pos (by omega)]
      · (repeat' (first | exact trivial | refine And.intro ?_ ?_ | (show _ ≤ _; omega) | (show _ ≤ _; simp; done)))
      · (repeat' (first | exact trivial | exact rfl | refine And.intro ?_ ?_))
        exact congrArg (fun l => some (AO.box [.fz int (b.getD 0 0), .fz int (b.getD 1 0), .fz (.list int) l])) (List.take_length (l := L))
      · (repeat' (first | exact trivial | exact rfl | refine And.intro ?_ ?_))
  · intro x hq
    (repeat' (first | exact trivial | exact fun h => h | refine And.intro ?_ ?_ | (intro hb; first | (simp at hb; done) | (simp at hb) | skip) | omega | exact rfl | exact Nat.le_refl _ | (show _ + 1 ≤ 4294967296; omega) | (dsimp only; omega) | (show wantB _ _ = true; simp; done) | (show wantB _ _ = true; simp; omega) | (show (_ : Bool) = _; simp_all; done) | (exfalso; omega) | refine aRegion_auto (by decide +kernel) ?_ | fail))
    (apply exEff; focus (repeat' (first | exact ⟨rfl, rfl⟩ | exact trivial | refine And.intro ?_ ?_ | omega | exact Nat.le_refl _ | (show _ + 1 ≤ 4294967296; omega))))
    (repeat' (first | exact trivial | exact fun h => h | refine And.intro ?_ ?_ | (intro hb; first | (simp at hb; done) | (simp at hb) | skip) | omega | exact rfl | exact Nat.le_refl _ | (show _ + 1 ≤ 4294967296; omega) | (dsimp only; omega) | (show wantB _ _ = true; simp; done) | (show wantB _ _ = true; simp; omega) | (show (_ : Bool) = _; simp_all; done) | (exfalso; omega) | refine aRegion_auto (by decide +kernel) ?_ | fail))
    refine ⟨_, _, (REnt.conv [.dat RasT, .keep] _ rfl trivial).trans (REnt.drop ⟨rfl, rfl⟩), ?_⟩
    unfold untE untR at hK
    rw [hq] at hK
    exact hK
end Go.Proofs.YtidhgdipnfhoeaaDoor
/-
  Tiles as the document has them: the walk.
-/
namespace Go.Proofs.YtidhgdipnfhoeaaDoor
open Go Go.Ab
set_option maxRecDepth 100000
theorem last_take (l : List Int) (k : Nat) (h : k < l.length) : lastOf (l.take (k + 1)) = l.getD k 0 := by
  rw [List.take_succ_eq_append_getElem h, lastOf_append]
  simp [List.getD, h]
set_option maxHeartbeats 4000000 in
theorem tileOf_one (G : List (Nat × Value)) (a : Ras) (hv : rerr a = 0) (K : AV → List AO → Prop) (hK : K (.fz (.list u8) (tileB a)) []) :
    ACall Tryd.prog G 26 [.fptr RasT a] [] K := by
  obtain ⟨⟨hW1, hH1, hW2, hH2, hlen⟩, hbig⟩ := rerr_ok hv
  have hm := mul_bd (a := a.1) (b := a.2.1) (A := 128) (B := 128) (by omega) (by omega) (by omega) (by omega)
  refine acall_mk (E := envCut G 72 0 [9]) (envCutOk _ _ _ _) Tryd.func26 rfl rfl rfl rfl rfl ?_
  have hx : ∀ i, -1048576 ≤ a.2.2.getD i 0 ∧ a.2.2.getD i 0 ≤ 1048576 := by
    intro i
    by_cases hi : i < a.2.2.length
    · have := hbig a.2.2[i] (List.getElem_mem hi)
      simp only [List.getD, List.getElem?_eq_getElem hi, Option.getD_some]
      unfold bigB at this; simp at this; omega
    · simp [List.getD, List.getElem?_eq_none (show a.2.2.length ≤ i by omega)]
  (repeat' (first | exact trivial | exact fun h => h | refine And.intro ?_ ?_ | (intro hb; first | (simp at hb; done) | (simp at hb) | skip) | omega | exact rfl | exact Nat.le_refl _ | (show _ + 1 ≤ 4294967296; omega) | (dsimp only; omega) | (show wantB _ _ = true; simp; done) | (show wantB _ _ = true; simp; omega) | (show (_ : Bool) = _; simp_all; done) | (exfalso; omega) | refine aRegion_auto (by decide +kernel) ?_ | fail))
  (apply exEff; focus (repeat' (first | exact ⟨rfl, rfl⟩ | exact trivial | refine And.intro ?_ ?_ | omega | exact Nat.le_refl _ | (show _ + 1 ≤ 4294967296; omega))))
  (apply exEff; focus (repeat' (first | exact ⟨rfl, rfl⟩ | exact trivial | refine And.intro ?_ ?_ | omega | exact Nat.le_refl _ | (show _ + 1 ≤ 4294967296; omega))))
  · show (2 : Nat) ≤ 4294967296
    omega
  (repeat' (first | exact trivial | exact fun h => h | refine And.intro ?_ ?_ | (intro hb; first | (simp at hb; done) | (simp at hb) | skip) | omega | exact rfl | exact Nat.le_refl _ | (show _ + 1 ≤ 4294967296; omega) | (dsimp only; omega) | (show wantB _ _ = true; simp; done) | (show wantB _ _ = true; simp; omega) | (show (_ : Bool) = _; simp_all; done) | (exfalso; omega) | refine aRegion_auto (by decide +kernel) ?_ | fail))
  refine ⟨Nat, fun k => ⟨[(0, .fptr RasT a), (3, .ref 0 0 (tl a k).length), (4, .fz int k)], [.row u8 (tl a k)]⟩, fun k => k ≤ a.2.2.length, fun k => a.2.2.length - k, 0, Nat.zero_le _, Ent.ren [1] rfl ?_ ?_, ?_⟩
  · (repeat' (first | exact trivial | exact rfl | refine And.intro ?_ ?_))
    refine congrArg (fun l => some (AO.row u8 l)) ?_
    show [IntKind.u8.wrap a.1, IntKind.u8.wrap a.2.1] = tl a 0
    rw [tl_zero, u8_wrap, u8_wrap, Int.emod_eq_of_lt (by omega) (by omega), Int.emod_eq_of_lt (by omega) (by omega)]
  · (repeat' (first | exact trivial | exact rfl | refine And.intro ?_ ?_))
  intro k hk
  have lt := tl_len a k
  by_cases hend : k = a.2.2.length
  · subst hend
    (repeat' (first | exact trivial | exact fun h => h | refine And.intro ?_ ?_ | (intro hb; first | (simp at hb; done) | (simp at hb) | skip) | omega | exact rfl | exact Nat.le_refl _ | (show _ + 1 ≤ 4294967296; omega) | (dsimp only; omega) | (show wantB _ _ = true; simp; done) | (show wantB _ _ = true; simp; omega) | (show (_ : Bool) = _; simp_all; done) | (exfalso; omega) | refine aRegion_auto (by decide +kernel) ?_ | fail))
    refine ⟨_, _, (REnt.conv1 (.dat (.list u8)) _ rfl ?_).trans (REnt.drop ⟨rfl, rfl⟩), ?_⟩
    · (repeat' (first | exact trivial | refine And.intro ?_ ?_ | (show _ ≤ _; omega) | (show _ ≤ _; simp; done)))
    have e : List.take (tl a a.2.2.length).length (tl a a.2.2.length) = tileB a := by rw [List.take_length, tl_all]
    rw [← e] at hK
    exact hK
  have hk' : k < a.2.2.length := by omega
  have hd : -1048576 ≤ a.2.2.getD (Int.toNat (k : Int)) int.dft ∧ a.2.2.getD (Int.toNat (k : Int)) int.dft ≤ 1048576 := hx k
  have hd1 : -1048576 ≤ a.2.2.getD (Int.toNat ((k : Int) - 1)) int.dft ∧ a.2.2.getD (Int.toNat ((k : Int) - 1)) int.dft ≤ 1048576 := hx _
  have hs := tl_succ a k hk'
  have hz := zig_nonneg (a.2.2.getD k 0 - lastOf (a.2.2.take k))
  have hlast : -1048576 ≤ lastOf (a.2.2.take k) ∧ lastOf (a.2.2.take k) ≤ 1048576 := by
    cases k with
    | zero => simp [lastOf]
    | succ k => rw [last_take _ _ (by omega)]; exact hx k
  have hz2 : zig (a.2.2.getD k 0 - lastOf (a.2.2.take k)) < 128 ^ (4 + 1) := by
    have := hx k; unfold zig; split <;> omega
  have hl0 : 0 < k → a.2.2.getD (Int.toNat ((k : Int) - 1)) int.dft = lastOf (a.2.2.take k) := by
    intro h
    cases k with
    | zero => omega
    | succ k => rw [last_take _ _ (by omega), show Int.toNat (((k + 1 : Nat) : Int) - 1) = k by omega]; rfl
  generalize hdd : a.2.2.getD k 0 - lastOf (a.2.2.take k) = d at *
  have hdd' : a.2.2.getD (Int.toNat (k : Int)) int.dft - lastOf (a.2.2.take k) = d := hdd
  (repeat' (first | exact trivial | exact fun h => h | refine And.intro ?_ ?_ | (intro hb; first | (simp at hb; done) | (simp at hb) | skip) | omega | exact rfl | exact Nat.le_refl _ | (show _ + 1 ≤ 4294967296; omega) | (dsimp only; omega) | (show wantB _ _ = true; simp; done) | (show wantB _ _ = true; simp; omega) | (show (_ : Bool) = _; simp_all; done) | (exfalso; omega) | refine aRegion_auto (by decide +kernel) ?_ | fail))
  all_goals
    refine ⟨[(0, .fptr RasT a), (3, .ref 0 0 (tl a k).length), (4, .fz int k), (5, .fz int d)], [.row u8 (tl a k)], Ent.sub rfl ?_, ?_⟩
    · (repeat' (first | exact trivial | exact rfl | refine And.intro ?_ ?_))
      refine congrArg (AV.fz int) (?_ : _ = d)
      rw [← hdd']
      first
        | (rw [← hl0 hb]; done)
        | (have hk0 : k = 0 := by omega
           subst hk0; simp [lastOf])
    (repeat' (first | exact trivial | exact fun h => h | refine And.intro ?_ ?_ | (intro hb; first | (simp at hb; done) | (simp at hb) | skip) | omega | exact rfl | exact Nat.le_refl _ | (show _ + 1 ≤ 4294967296; omega) | (dsimp only; omega) | (show wantB _ _ = true; simp; done) | (show wantB _ _ = true; simp; omega) | (show (_ : Bool) = _; simp_all; done) | (exfalso; omega) | refine aRegion_auto (by decide +kernel) ?_ | fail))
  all_goals
    refine ⟨Nat × List Int × Int, fun x => ⟨[(0, .fptr RasT a), (3, .ref 0 0 (tl a k ++ x.2.1).length), (4, .fz int k), (6, .fz int x.2.2)], [.row u8 (tl a k ++ x.2.1)]⟩, fun x => x.2.1 ++ vb x.1 x.2.2 = vb 4 (zig d) ∧ x.2.1.length + x.1 = 4 ∧ 0 ≤ x.2.2 ∧ x.2.2 < 128 ^ (x.1 + 1), fun x => x.1, (4, [], zig d), ⟨rfl, rfl, hz, hz2⟩, Ent.sub (by simp) ?_, ?_⟩
    · (repeat' (first | exact trivial | exact rfl | refine And.intro ?_ ?_))
      · exact congrArg (AV.ref 0 0) (by simp)
      refine congrArg (AV.fz int) (?_ : _ = zig d)
      unfold zig
      first
        | (rw [if_pos (by omega)]; omega)
        | (rw [if_neg (by omega)])
    rintro ⟨f, pre, n⟩ ⟨h1, h2, h3, h4⟩
    simp only at h1 h2 h3 h4
    have hb8 : n < 34359738368 := by
      have : (128 : Int) ^ (f + 1) ≤ 128 ^ 5 := pow5 (by omega)
      omega
    have hap : (tl a k ++ pre).length + 1 ≤ 4294967296 := by simp; omega
    have hmod : Int.tmod n 128 = n % 128 := Int.tmod_eq_emod_of_nonneg h3
    have hdiv : Int.tdiv n 128 = n / 128 := Int.tdiv_eq_ediv_of_nonneg h3
    (repeat' (first | exact trivial | exact fun h => h | refine And.intro ?_ ?_ | (intro hb; first | (simp at hb; done) | (simp at hb) | skip) | omega | exact rfl | exact Nat.le_refl _ | (show _ + 1 ≤ 4294967296; omega) | (dsimp only; omega) | (show wantB _ _ = true; simp; done) | (show wantB _ _ = true; simp; omega) | (show (_ : Bool) = _; simp_all; done) | (exfalso; omega) | refine aRegion_auto (by decide +kernel) ?_ | fail))
    · have hb' : 127 < n := by omega
      obtain ⟨g, rfl, hv1, hv2⟩ := vb_step hb' h4
      refine ⟨(g, pre ++ [n % 128 + 128], n / 128), ⟨?_, ?_, ?_, hv2⟩, by show g < g + 1; omega, Ent.ren [2] rfl ?_ ?_⟩
      · rw [← h1, hv1]; simp
      · simp; omega
      · show 0 ≤ n / 128; omega
      · (repeat' (first | exact trivial | exact rfl | refine And.intro ?_ ?_))
        refine congrArg (fun l => some (AO.row u8 l)) (?_ : List.take (tl a k ++ pre).length (tl a k ++ pre) ++ [IntKind.u8.wrap (Int.tmod n 128 + 128)] = tl a k ++ (pre ++ [n % 128 + 128]))
        rw [List.take_length, hmod, u8_wrap, Int.emod_eq_of_lt (by omega) (by omega), List.append_assoc]
      · (repeat' (first | exact trivial | exact rfl | refine And.intro ?_ ?_))
        · exact congrArg (AV.ref 2 0) (show (tl a k ++ pre).length + 1 = (tl a k ++ (pre ++ [n % 128 + 128])).length by simp; omega)
        · refine congrArg (AV.fz int) (?_ : Int.tdiv n 128 = n / 128)
          exact hdiv
    · have hb' : ¬ 127 < n := by omega
      have hs' := hs
      rw [← h1, vb_end hb', ← List.append_assoc] at hs'
      refine ⟨k + 1, by show _ ≤ _; omega, by show _ - _ < _ - _; omega, Ent.ren [2] rfl ?_ ?_⟩
      · (repeat' (first | exact trivial | exact rfl | refine And.intro ?_ ?_))
        refine congrArg (fun l => some (AO.row u8 l)) (?_ : List.take (tl a k ++ pre).length (tl a k ++ pre) ++ [IntKind.u8.wrap n] = tl a (k + 1))
        rw [List.take_length, hs', u8_wrap, Int.emod_eq_of_lt h3 (by omega)]
      · (repeat' (first | exact trivial | exact rfl | refine And.intro ?_ ?_))
        refine congrArg (AV.ref 2 0) (?_ : (tl a k ++ pre).length + 1 = (tl a (k + 1)).length)
        rw [hs']; simp; omega
end Go.Proofs.YtidhgdipnfhoeaaDoor
/-
  Tiles as the document reads them: the walk.
-/
namespace Go.Proofs.YtidhgdipnfhoeaaDoor
open Go Go.Ab
set_option maxRecDepth 100000
abbrev PB (a : Ras) (v : Bool) : AV := .tup [.fptr RasT a, .fz .bool v]
set_option maxHeartbeats 4000000 in
theorem rasterIn_one (G : List (Nat × Value)) (b : List Int) (hl : b.length ≤ 100000) (hbb : ∀ x ∈ b, 0 ≤ x ∧ x ≤ 255) (K : AV → List AO → Prop) (hK : K (PB (untR b) (untQ b).isSome) []) :
    ACall Tryd.prog G 25 [.fz (.list u8) b] [] K := by
  have hx : ∀ i, 0 ≤ b.getD i 0 ∧ b.getD i 0 ≤ 255 := by
    intro i
    by_cases hi : i < b.length
    · have := hbb b[i] (List.getElem_mem hi)
      simpa [List.getD, hi] using this
    · simp [List.getD, List.getElem?_eq_none (show b.length ≤ i by omega)]
  have g0 : 0 ≤ b.getD (Int.toNat 0) u8.dft ∧ b.getD (Int.toNat 0) u8.dft ≤ 255 := hx 0
  have g1 : 0 ≤ b.getD (Int.toNat 1) u8.dft ∧ b.getD (Int.toNat 1) u8.dft ≤ 255 := hx 1
  have fin : untQ b = none → K (PB (0, 0, []) false) [] := by
    intro hq; unfold untR at hK; rw [hq] at hK; exact hK
  refine acall_mk (E := envCut G 88 0 [14, 16, 19, 23]) (envCutOk _ _ _ _) Tryd.func25 rfl rfl rfl rfl rfl ?_
  (repeat' (first | exact trivial | exact fun h => h | refine And.intro ?_ ?_ | (intro hb; first | (simp at hb; done) | (simp at hb) | skip) | omega | exact rfl | exact Nat.le_refl _ | (show _ + 1 ≤ 4294967296; omega) | (dsimp only; omega) | (show wantB _ _ = true; simp; done) | (show wantB _ _ = true; simp; omega) | (show (_ : Bool) = _; simp_all; done) | (exfalso; omega) | refine aRegion_auto (by decide +kernel) ?_ | fail))
  · refine ⟨_, _, (REnt.conv [.pt RasT, .keep] _ rfl ?_).trans (REnt.drop ⟨rfl, rfl⟩), ?_⟩
    · (repeat' (first | exact trivial | refine And.intro ?_ ?_ | (show _ ≤ _; omega) | (show _ ≤ _; simp; done)))
    refine fin ?_
    unfold untQ
    exact if_pos (by omega)
  (apply exEff; focus (repeat' (first | exact ⟨rfl, rfl⟩ | exact trivial | refine And.intro ?_ ?_ | omega | exact Nat.le_refl _ | (show _ + 1 ≤ 4294967296; omega))))
  (repeat' (first | exact trivial | exact fun h => h | refine And.intro ?_ ?_ | (intro hb; first | (simp at hb; done) | (simp at hb) | skip) | omega | exact rfl | exact Nat.le_refl _ | (show _ + 1 ≤ 4294967296; omega) | (dsimp only; omega) | (show wantB _ _ = true; simp; done) | (show wantB _ _ = true; simp; omega) | (show (_ : Bool) = _; simp_all; done) | (exfalso; omega) | refine aRegion_auto (by decide +kernel) ?_ | fail))
  refine ⟨Nat × Nat × Int × List Int, fun x => ⟨[(0, .fz (.list u8) b), (4, .ptr 0 0), (5, .ptr 1 0), (6, .fz int x.2.2.1), (7, .fz int (128 ^ x.2.1)), (8, .fz int (lastOf x.2.2.2)), (9, .fz int x.1)], [.box [.fz int 0, .fz int 0, .nilSl], .box [.fz int (b.getD 0 0), .fz int (b.getD 1 0), .ref 2 0 x.2.2.2.length], .row int x.2.2.2]⟩, fun x => (2 ≤ x.1 ∧ x.1 ≤ b.length ∧ x.2.1 ≤ 5) ∧ (0 ≤ x.2.2.1 ∧ x.2.2.1 < 128 ^ x.2.1) ∧ x.2.2.2.length ≤ x.1 ∧ (-68719476736 * (x.1 : Int) ≤ lastOf x.2.2.2 ∧ lastOf x.2.2.2 ≤ 68719476736 * (x.1 : Int)) ∧ dec (b.drop x.1) x.2.1 x.2.2.1 x.2.2.2 = dec (b.drop 2) 0 0 [], fun x => b.length - x.1, (2, 0, 0, []), ⟨by simp; omega, by simp, by simp, by simp [lastOf], rfl⟩, (Ent.nilBox 1 2 int rfl rfl).trans (Ent.sub rfl ?_), ?_⟩
  · (repeat' (first | exact trivial | exact rfl | refine And.intro ?_ ?_))
  rintro ⟨i, k, n, L⟩ ⟨⟨h1, h2, h3⟩, ⟨h4, h5⟩, h6, ⟨h7, h8⟩, h9⟩
  simp only at h1 h2 h3 h4 h5 h6 h7 h8 h9
  have hi : 0 ≤ b.getD (Int.toNat (i : Int)) u8.dft ∧ b.getD (Int.toNat (i : Int)) u8.dft ≤ 255 := hx i
  by_cases hend : i = b.length
  · subst hend
    have hd : dec (b.drop 2) 0 0 [] = some L := by rw [← h9, List.drop_length]; rfl
    have hq : untQ b = if rerr (b.getD 0 0, b.getD 1 0, L) = 0 ∧ tileB (b.getD 0 0, b.getD 1 0, L) = b then some (b.getD 0 0, b.getD 1 0, L) else none := by
      unfold untQ; rw [if_neg (by omega), hd]
    (repeat' (first | exact trivial | exact fun h => h | refine And.intro ?_ ?_ | (intro hb; first | (simp at hb; done) | (simp at hb) | skip) | omega | exact rfl | exact Nat.le_refl _ | (show _ + 1 ≤ 4294967296; omega) | (dsimp only; omega) | (show wantB _ _ = true; simp; done) | (show wantB _ _ = true; simp; omega) | (show (_ : Bool) = _; simp_all; done) | (exfalso; omega) | refine aRegion_auto (by decide +kernel) ?_ | fail))
    refine ⟨[(0, .fz (.list u8) b), (4, .ptr 0 0), (5, .fptr RasT (b.getD 0 0, b.getD 1 0, L))], [.box [.fz int 0, .fz int 0, .nilSl]], (Ent.conv 5 (.pt RasT) _ rfl ?_).trans (Ent.ren [0] rfl ?_ ?_), ?_⟩
    · (repeat' (first | exact trivial | refine And.intro ?_ ?_ | (show _ ≤ _; omega) | (show _ ≤ _; simp; done)))
    · (repeat' (first | exact trivial | exact rfl | refine And.intro ?_ ?_))
    · (repeat' (first | exact trivial | exact rfl | refine And.intro ?_ ?_))
      exact congrArg (fun l => AV.fptr RasT (b.getD 0 0, b.getD 1 0, l)) (List.take_length (l := L))
    by_cases hv : rerr (b.getD 0 0, b.getD 1 0, L) = 0
    · have htb : ∀ x ∈ tileB (b.getD 0 0, b.getD 1 0, L), 0 ≤ x ∧ x ≤ 255 := by
        obtain ⟨_, hbig⟩ := rerr_ok hv
        intro x hx'
        unfold tileB at hx'
        simp only [List.mem_cons] at hx'
        rcases hx' with rfl | rfl | hx'
        · exact hx 0
        · exact hx 1
        · exact enc_byte 0 L (fun y hy => by have := hbig y hy; unfold bigB at this; simp at this; omega) (by omega) x hx'
      have hE := byN_beq htb hbb
      (repeat' (first | exact trivial | exact fun h => h | refine And.intro ?_ ?_ | (intro hb; first | (simp at hb; done) | (simp at hb) | skip) | omega | exact rfl | exact Nat.le_refl _ | (show _ + 1 ≤ 4294967296; omega) | (dsimp only; omega) | (show wantB _ _ = true; simp; done) | (show wantB _ _ = true; simp; omega) | (show (_ : Bool) = _; simp_all; done) | (exfalso; omega) | refine aRegion_auto (by decide +kernel) ?_ | fail))
      apply exEff
      · refine acall_frame0 rfl (rasterError_any _ (b.getD 0 0, b.getD 1 0, L) (by show L.length ≤ _; omega) _ ?_)
        rw [hv]
        exact ⟨rfl, rfl⟩
      (repeat' (first | exact trivial | exact fun h => h | refine And.intro ?_ ?_ | (intro hb; first | (simp at hb; done) | (simp at hb) | skip) | omega | exact rfl | exact Nat.le_refl _ | (show _ + 1 ≤ 4294967296; omega) | (dsimp only; omega) | (show wantB _ _ = true; simp; done) | (show wantB _ _ = true; simp; omega) | (show (_ : Bool) = _; simp_all; done) | (exfalso; omega) | refine aRegion_auto (by decide +kernel) ?_ | fail))
      apply exEff
      · refine And.intro (fun _ => ?_) (fun h => by simp at h)
        refine And.intro (by simp [wantB]) ?_
        refine acall_frame0 rfl (tileOf_one _ _ hv _ ?_)
        exact ⟨rfl, rfl⟩
      (repeat' (first | exact trivial | exact fun h => h | refine And.intro ?_ ?_ | (intro hb; first | (simp at hb; done) | (simp at hb) | skip) | omega | exact rfl | exact Nat.le_refl _ | (show _ + 1 ≤ 4294967296; omega) | (dsimp only; omega) | (show wantB _ _ = true; simp; done) | (show wantB _ _ = true; simp; omega) | (show (_ : Bool) = _; simp_all; done) | (exfalso; omega) | refine aRegion_auto (by decide +kernel) ?_ | fail))
      · refine ⟨_, _, (REnt.conv [.pt RasT, .keep] _ rfl ?_).trans (REnt.drop ⟨rfl, rfl⟩), ?_⟩
        · (repeat' (first | exact trivial | refine And.intro ?_ ?_ | (show _ ≤ _; omega) | (show _ ≤ _; simp; done)))
        refine fin ?_
        rw [hq, if_neg]
        rintro ⟨_, h⟩
        exact hb (congrArg (fun l => (byN l).toList) h)
      · have hE' : tileB (b.getD 0 0, b.getD 1 0, L) = b := by
          have : ((byN (tileB (b.getD 0 0, b.getD 1 0, L))).toList == (byN b).toList) = true := beq_iff_eq.2 hb
          rw [hE] at this
          exact of_decide_eq_true this
        refine ⟨_, _, REnt.drop ⟨rfl, rfl⟩, ?_⟩
        rw [if_pos ⟨hv, hE'⟩] at hq
        unfold untR at hK
        rw [hq] at hK
        exact hK
    · obtain h | h | h : rerr (b.getD 0 0, b.getD 1 0, L) = 2 ∨ rerr (b.getD 0 0, b.getD 1 0, L) = 3 ∨ rerr (b.getD 0 0, b.getD 1 0, L) = 4 := by
        have := rerr_in (b.getD 0 0, b.getD 1 0, L)
        have := rerr_ge (a := (b.getD 0 0, b.getD 1 0, L)) (by omega)
        omega
      all_goals
        (repeat' (first | exact trivial | exact fun h => h | refine And.intro ?_ ?_ | (intro hb; first | (simp at hb; done) | (simp at hb) | skip) | omega | exact rfl | exact Nat.le_refl _ | (show _ + 1 ≤ 4294967296; omega) | (dsimp only; omega) | (show wantB _ _ = true; simp; done) | (show wantB _ _ = true; simp; omega) | (show (_ : Bool) = _; simp_all; done) | (exfalso; omega) | refine aRegion_auto (by decide +kernel) ?_ | fail))
        apply exEff
        · refine acall_frame0 rfl (rasterError_any _ (b.getD 0 0, b.getD 1 0, L) (by show L.length ≤ _; omega) _ ?_)
          rw [h]
          exact ⟨rfl, rfl⟩
        (repeat' (first | exact trivial | exact fun h => h | refine And.intro ?_ ?_ | (intro hb; first | (simp at hb; done) | (simp at hb) | skip) | omega | exact rfl | exact Nat.le_refl _ | (show _ + 1 ≤ 4294967296; omega) | (dsimp only; omega) | (show wantB _ _ = true; simp; done) | (show wantB _ _ = true; simp; omega) | (show (_ : Bool) = _; simp_all; done) | (exfalso; omega) | refine aRegion_auto (by decide +kernel) ?_ | fail))
        apply exEff
        · refine And.intro (fun h => by simp [wantB] at h) (fun _ => ?_)
          exact ⟨rfl, rfl⟩
        (repeat' (first | exact trivial | exact fun h => h | refine And.intro ?_ ?_ | (intro hb; first | (simp at hb; done) | (simp at hb) | skip) | omega | exact rfl | exact Nat.le_refl _ | (show _ + 1 ≤ 4294967296; omega) | (dsimp only; omega) | (show wantB _ _ = true; simp; done) | (show wantB _ _ = true; simp; omega) | (show (_ : Bool) = _; simp_all; done) | (exfalso; omega) | refine aRegion_auto (by decide +kernel) ?_ | fail))
        refine ⟨_, _, (REnt.conv [.pt RasT, .keep] _ rfl ?_).trans (REnt.drop ⟨rfl, rfl⟩), ?_⟩
        · (repeat' (first | exact trivial | refine And.intro ?_ ?_ | (show _ ≤ _; omega) | (show _ ≤ _; simp; done)))
        refine fin ?_
        rw [hq, if_neg]
        rintro ⟨h, _⟩
        exact hv h
  have hib : i < b.length := by omega
  have hdrop : b.drop i = b.getD i 0 :: b.drop (i + 1) := by
    rw [List.drop_eq_getElem_cons hib]
    simp [List.getD, hib]
  have hb8 : (128 : Int) ^ k ≤ 128 ^ 5 := by
    obtain rfl | rfl | rfl | rfl | rfl | rfl : k = 0 ∨ k = 1 ∨ k = 2 ∨ k = 3 ∨ k = 4 ∨ k = 5 := by omega
    all_goals decide
  have hb9 : (0 : Int) < 128 ^ k := Int.pow_pos (by omega)
  by_cases hk : k ≤ 4
  · have hb7 : (128 : Int) ^ k ≤ 1073741824 := by
      obtain rfl | rfl | rfl | rfl | rfl : k = 0 ∨ k = 1 ∨ k = 2 ∨ k = 3 ∨ k = 4 := by omega
      all_goals decide
    have hp0 : (0 : Int) ≤ b.getD i 0 % 128 * 128 ^ k := Int.mul_nonneg (by omega) (Int.pow_nonneg (by omega))
    have hp1 : b.getD i 0 % 128 * 128 ^ k ≤ 127 * 128 ^ k := Int.mul_le_mul_of_nonneg_right (by omega) (Int.pow_nonneg (by omega))
    have hmod : Int.tmod (b.getD (Int.toNat (i : Int)) u8.dft) 128 = b.getD i 0 % 128 := Int.tmod_eq_emod_of_nonneg hi.1
    have hmo2 : u8.dft = 0 := rfl
    obtain ⟨m, hm, hm0, hm1⟩ : ∃ m, m = n + b.getD i 0 % 128 * 128 ^ k ∧ 0 ≤ m ∧ m < 128 ^ (k + 1) := by
      refine ⟨_, rfl, ?_, ?_⟩
      · omega
      · rw [Int.pow_succ]
        omega
    have hm2 : m < 34359738368 := by
      have : (128 : Int) ^ (k + 1) ≤ 128 ^ 5 := pow5 hk
      omega
    have hpr : Int.tmod (b.getD (Int.toNat (i : Int)) u8.dft) 128 * 128 ^ k = b.getD i 0 % 128 * 128 ^ k := by rw [hmod]
    have hF : Int.tdiv m 2 = m / 2 := Int.tdiv_eq_ediv_of_nonneg hm0
    have hF1 : Int.tmod m 2 = m % 2 := Int.tmod_eq_emod_of_nonneg hm0
    have hF2 : Int.tdiv (0 - (m + 1)) 2 = - ((m + 1) / 2) := by
      rw [show (0 : Int) - (m + 1) = - (m + 1) by omega, Int.neg_tdiv, Int.tdiv_eq_ediv_of_nonneg (by omega)]
    have hu : -17179869185 ≤ unzig m ∧ unzig m ≤ 17179869185 := by unfold unzig; split <;> omega
    (repeat' (first | exact trivial | exact fun h => h | refine And.intro ?_ ?_ | (intro hb; first | (simp at hb; done) | (simp at hb) | skip) | omega | exact rfl | exact Nat.le_refl _ | (show _ + 1 ≤ 4294967296; omega) | (dsimp only; omega) | (show wantB _ _ = true; simp; done) | (show wantB _ _ = true; simp; omega) | (show (_ : Bool) = _; simp_all; done) | (exfalso; omega) | refine aRegion_auto (by decide +kernel) ?_ | fail))
    refine ⟨[(0, .fz (.list u8) b), (4, .ptr 0 0), (5, .ptr 1 0), (6, .fz int m), (7, .fz int (128 ^ k)), (8, .fz int (lastOf L)), (9, .fz int i)], [.box [.fz int 0, .fz int 0, .nilSl], .box [.fz int (b.getD 0 0), .fz int (b.getD 1 0), .ref 2 0 L.length], .row int L], Ent.sub rfl ?_, ?_⟩
    · (repeat' (first | exact trivial | exact rfl | refine And.intro ?_ ?_))
      refine congrArg (AV.fz int) (?_ : n + Int.tmod (b.getD (Int.toNat (i : Int)) u8.dft) 128 * 128 ^ k = m)
      rw [hpr, hm]
    (repeat' (first | exact trivial | exact fun h => h | refine And.intro ?_ ?_ | (intro hb; first | (simp at hb; done) | (simp at hb) | skip) | omega | exact rfl | exact Nat.le_refl _ | (show _ + 1 ≤ 4294967296; omega) | (dsimp only; omega) | (show wantB _ _ = true; simp; done) | (show wantB _ _ = true; simp; omega) | (show (_ : Bool) = _; simp_all; done) | (exfalso; omega) | refine aRegion_auto (by decide +kernel) ?_ | fail))
    · have hv : 127 < b.getD i 0 := by rw [getD_opt]; exact hb
      refine ⟨(i + 1, k + 1, m, L), ⟨by show 2 ≤ i + 1 ∧ i + 1 ≤ b.length ∧ k + 1 ≤ 5; omega, ⟨hm0, hm1⟩, by show L.length ≤ i + 1; omega, by show -68719476736 * ((i + 1 : Nat) : Int) ≤ lastOf L ∧ lastOf L ≤ 68719476736 * ((i + 1 : Nat) : Int); omega, ?_⟩, by show _ - _ < _ - _; omega, Ent.sub rfl ?_⟩
      · show dec (b.drop (i + 1)) (k + 1) m L = _
        rw [← h9, hdrop, dec.eq_2, if_neg (by omega), if_pos hv, hm]
      · (repeat' (first | exact trivial | exact rfl | refine And.intro ?_ ?_))
    have hv : ¬ 127 < b.getD i 0 := by
      rw [getD_opt]
      have : b[i]?.getD u8.dft < 128 := by assumption
      exact Int.not_lt.2 (by omega)
    refine ⟨[(0, .fz (.list u8) b), (4, .ptr 0 0), (5, .ptr 1 0), (6, .fz int m), (8, .fz int (lastOf L)), (9, .fz int i)], [.box [.fz int 0, .fz int 0, .nilSl], .box [.fz int (b.getD 0 0), .fz int (b.getD 1 0), .ref 2 0 L.length], .row int L], Ent.sub rfl ?_, ?_⟩
    · (repeat' (first | exact trivial | exact rfl | refine And.intro ?_ ?_))
    have hap : L.length + 1 ≤ 4294967296 := by omega
    (repeat' (first | exact trivial | exact fun h => h | refine And.intro ?_ ?_ | (intro hb; first | (simp at hb; done) | (simp at hb) | skip) | omega | exact rfl | exact Nat.le_refl _ | (show _ + 1 ≤ 4294967296; omega) | (dsimp only; omega) | (show wantB _ _ = true; simp; done) | (show wantB _ _ = true; simp; omega) | (show (_ : Bool) = _; simp_all; done) | (exfalso; omega) | refine aRegion_auto (by decide +kernel) ?_ | fail))
    all_goals
      refine ⟨[(0, .fz (.list u8) b), (4, .ptr 0 0), (5, .ptr 1 0), (8, .fz int (lastOf L)), (9, .fz int i), (10, .fz int (unzig m))], [.box [.fz int 0, .fz int 0, .nilSl], .box [.fz int (b.getD 0 0), .fz int (b.getD 1 0), .ref 2 0 L.length], .row int L], Ent.sub rfl ?_, ?_⟩
      · (repeat' (first | exact trivial | exact rfl | refine And.intro ?_ ?_))
        refine congrArg (AV.fz int) (?_ : _ = unzig m)
        unfold unzig
        first
          | (show Int.tdiv (0 - (m + 1)) 2 = _; rw [hF2, if_pos (by omega)]; omega)
          | (show Int.tdiv m 2 = _; rw [hF, if_neg (by rw [← hF1]; simpa using hb)])
      (repeat' (first | exact trivial | exact fun h => h | refine And.intro ?_ ?_ | (intro hb; first | (simp at hb; done) | (simp at hb) | skip) | omega | exact rfl | exact Nat.le_refl _ | (show _ + 1 ≤ 4294967296; omega) | (dsimp only; omega) | (show wantB _ _ = true; simp; done) | (show wantB _ _ = true; simp; omega) | (show (_ : Bool) = _; simp_all; done) | (exfalso; omega) | refine aRegion_auto (by decide +kernel) ?_ | fail))
      refine ⟨(i + 1, 0, 0, L ++ [lastOf L + unzig m]), ⟨by show 2 ≤ i + 1 ∧ i + 1 ≤ b.length ∧ 0 ≤ 5; omega, ⟨by show (0 : Int) ≤ 0; omega, by show (0 : Int) < 128 ^ 0; decide⟩, by show (L ++ [_]).length ≤ i + 1; simp; omega, by rw [lastOf_append]; show -68719476736 * ((i + 1 : Nat) : Int) ≤ lastOf L + unzig m ∧ lastOf L + unzig m ≤ 68719476736 * ((i + 1 : Nat) : Int); omega, ?_⟩, by show _ - _ < _ - _; omega, Ent.ren [0, 1, 4] rfl ?_ ?_⟩
      · show dec (b.drop (i + 1)) 0 0 (L ++ [lastOf L + unzig m]) = _
        rw [← h9, hdrop, dec.eq_2, if_neg (by omega), if_neg hv, hm]
      · (repeat' (first | exact trivial | exact rfl | refine And.intro ?_ ?_))
        · exact congrArg (fun n => some (AO.box [.fz int (b.getD 0 0), .fz int (b.getD 1 0), .ref 4 0 n])) (show L.length + 1 = (L ++ [lastOf L + unzig m]).length by simp)
        · exact congrArg (fun l => some (AO.row int (l ++ [lastOf L + unzig m]))) (List.take_length (l := L))
      · (repeat' (first | exact trivial | exact rfl | refine And.intro ?_ ?_))
        exact congrArg (AV.fz int) (lastOf_append L (lastOf L + unzig m)).symm
  · have hk5 : k = 5 := by omega
    subst hk5
    (repeat' (first | exact trivial | exact fun h => h | refine And.intro ?_ ?_ | (intro hb; first | (simp at hb; done) | (simp at hb) | skip) | omega | exact rfl | exact Nat.le_refl _ | (show _ + 1 ≤ 4294967296; omega) | (dsimp only; omega) | (show wantB _ _ = true; simp; done) | (show wantB _ _ = true; simp; omega) | (show (_ : Bool) = _; simp_all; done) | (exfalso; omega) | refine aRegion_auto (by decide +kernel) ?_ | fail))
    refine ⟨_, _, (REnt.conv [.pt RasT, .keep] _ rfl ?_).trans (REnt.drop ⟨rfl, rfl⟩), ?_⟩
    · (repeat' (first | exact trivial | refine And.intro ?_ ?_ | (show _ ≤ _; omega) | (show _ ≤ _; simp; done)))
    refine fin ?_
    unfold untQ
    rw [if_neg (by omega), ← h9, hdrop, dec.eq_2, if_pos (by omega)]
end Go.Proofs.YtidhgdipnfhoeaaDoor
/-
  FieldTiles: the walk.
-/
namespace Go.Proofs.YtidhgdipnfhoeaaDoor
open Go Go.Ab
set_option maxRecDepth 100000
theorem untile_tile {a : Ras} (hv : rerr a = 0) : untQ (tileB a) = some a := by
  obtain ⟨⟨hW1, hH1, hW2, hH2, hlen⟩, hbig⟩ := rerr_ok hv
  have hd : dec ((tileB a).drop 2) 0 0 [] = some a.2.2 := by
    have := enc_dec a.2.2 [] (fun y hy => by have := hbig y hy; unfold bigB at this; simp at this; omega) (by simp [lastOf])
    simpa [tileB, lastOf] using this
  unfold untQ
  rw [if_neg (by simp [tileB]), hd]
  have e : ((tileB a).getD 0 0, (tileB a).getD 1 0, a.2.2) = a := by simp [tileB, List.getD]
  show (if rerr ((tileB a).getD 0 0, (tileB a).getD 1 0, a.2.2) = 0 ∧ tileB ((tileB a).getD 0 0, (tileB a).getD 1 0, a.2.2) = tileB a then some ((tileB a).getD 0 0, (tileB a).getD 1 0, a.2.2) else none) = some a
  rw [e, if_pos ⟨hv, rfl⟩]
theorem tileB_byte {a : Ras} (hv : rerr a = 0) : ∀ x ∈ tileB a, 0 ≤ x ∧ x ≤ 255 := by
  obtain ⟨⟨hW1, hH1, hW2, hH2, hlen⟩, hbig⟩ := rerr_ok hv
  intro x hx'
  unfold tileB at hx'
  simp only [List.mem_cons] at hx'
  rcases hx' with rfl | rfl | hx'
  · omega
  · omega
  · exact enc_byte 0 _ (fun y hy => by have := hbig y hy; unfold bigB at this; simp at this; omega) (by omega) x hx'
theorem isB_self (a : Ras) : isB a a.1 a.2.1 a.2.2 = true := by simp [isB]
theorem dec_len : ∀ (bs : List Int) (k : Nat) (n : Int) (L M : List Int), dec bs k n L = some M → M.length ≤ L.length + bs.length
  | [], _, _, L, M, h => by simp only [dec, Option.some.injEq] at h; subst h; simp
  | b :: bs, k, n, L, M, h => by
    rw [dec.eq_2] at h
    split at h
    · cases h
    split at h
    · have := dec_len bs _ _ _ _ h; simp; omega
    · have := dec_len bs _ _ _ _ h; simp at this ⊢; omega
theorem untR_len (b : List Int) (h : b.length ≤ 100000) : (untR b).2.2.length ≤ 100000 := by
  unfold untR untQ
  split
  · simp
  · split
    · simp
    · rename_i L hL
      have := dec_len _ _ _ _ _ hL
      split
      · simp at this ⊢; omega
      · simp
set_option maxHeartbeats 4000000 in
theorem fieldTiles_some {E : Errs} (hE : (EL E).Nodup) (a : Ras) (b : List Int) (hla : a.2.2.length ≤ 9223372036854775807) (hlb : b.length ≤ 9223372036854775807) (hbb : ∀ x ∈ b, 0 ≤ x ∧ x ≤ 255) (K : AV → List AO → Prop) (hK : K (.fz .bool true) []) :
    ACall Tryd.prog (G8 E) 6 [.fptr RasT a, .fz (.list u8) b] [] K := by
  refine acall_mk (E := envCut (G8 E) 121 0 [11]) (envCutOk _ _ _ _) Tryd.func6 rfl rfl rfl rfl rfl ?_
  (repeat' (first | exact trivial | exact fun h => h | refine And.intro ?_ ?_ | (intro hb; first | (simp at hb; done) | (simp at hb) | skip) | omega | exact rfl | exact Nat.le_refl _ | (show _ + 1 ≤ 4294967296; omega) | (dsimp only; omega) | (show wantB _ _ = true; simp; done) | (show wantB _ _ = true; simp; omega) | (show (_ : Bool) = _; simp_all; done) | (exfalso; omega) | refine aRegion_auto (by decide +kernel) ?_ | refine ⟨_, _, REnt.drop ⟨rfl, rfl⟩, ?_⟩ | fail))
  refine acall_frame0 rfl (up8 (rasters_any E _ ?_))
  (repeat' (first | exact trivial | exact fun h => h | refine And.intro ?_ ?_ | (intro hb; first | (simp at hb; done) | (simp at hb) | skip) | omega | exact rfl | exact Nat.le_refl _ | (show _ + 1 ≤ 4294967296; omega) | (dsimp only; omega) | (show wantB _ _ = true; simp; done) | (show wantB _ _ = true; simp; omega) | (show (_ : Bool) = _; simp_all; done) | (exfalso; omega) | refine aRegion_auto (by decide +kernel) ?_ | refine ⟨_, _, REnt.drop ⟨rfl, rfl⟩, ?_⟩ | fail))
  refine acall_frame0 rfl (small_any _ a _ ?_)
  (repeat' (first | exact trivial | exact fun h => h | refine And.intro ?_ ?_ | (intro hb; first | (simp at hb; done) | (simp at hb) | skip) | omega | exact rfl | exact Nat.le_refl _ | (show _ + 1 ≤ 4294967296; omega) | (dsimp only; omega) | (show wantB _ _ = true; simp; done) | (show wantB _ _ = true; simp; omega) | (show (_ : Bool) = _; simp_all; done) | (exfalso; omega) | refine aRegion_auto (by decide +kernel) ?_ | refine ⟨_, _, REnt.drop ⟨rfl, rfl⟩, ?_⟩ | fail))
  · exact hK
  obtain ⟨hl2, hl3⟩ := hb
  have hl3 : b.length ≤ 2000 := by omega
  refine acall_frame0 rfl (tile_one E a (by omega) _ ?_)
  (repeat' (first | exact trivial | exact fun h => h | refine And.intro ?_ ?_ | (intro hb; first | (simp at hb; done) | (simp at hb) | skip) | omega | exact rfl | exact Nat.le_refl _ | (show _ + 1 ≤ 4294967296; omega) | (dsimp only; omega) | (show wantB _ _ = true; simp; done) | (show wantB _ _ = true; simp; omega) | (show (_ : Bool) = _; simp_all; done) | (exfalso; omega) | refine aRegion_auto (by decide +kernel) ?_ | refine ⟨_, _, REnt.drop ⟨rfl, rfl⟩, ?_⟩ | fail))
  refine acall_frame0 rfl (rasterError_any _ a (by omega) _ ?_)
  (repeat' (first | exact trivial | exact fun h => h | refine And.intro ?_ ?_ | (intro hb; first | (simp at hb; done) | (simp at hb) | skip) | omega | exact rfl | exact Nat.le_refl _ | (show _ + 1 ≤ 4294967296; omega) | (dsimp only; omega) | (show wantB _ _ = true; simp; done) | (show wantB _ _ = true; simp; omega) | (show (_ : Bool) = _; simp_all; done) | (exfalso; omega) | refine aRegion_auto (by decide +kernel) ?_ | refine ⟨_, _, REnt.drop ⟨rfl, rfl⟩, ?_⟩ | fail))
  refine acall_frame0 rfl (untile_one E b (by omega) hbb _ ?_)
  (repeat' (first | exact trivial | exact fun h => h | refine And.intro ?_ ?_ | (intro hb; first | (simp at hb; done) | (simp at hb) | skip) | omega | exact rfl | exact Nat.le_refl _ | (show _ + 1 ≤ 4294967296; omega) | (dsimp only; omega) | (show wantB _ _ = true; simp; done) | (show wantB _ _ = true; simp; omega) | (show (_ : Bool) = _; simp_all; done) | (exfalso; omega) | refine aRegion_auto (by decide +kernel) ?_ | refine ⟨_, _, REnt.drop ⟨rfl, rfl⟩, ?_⟩ | fail))
  refine acall_frame0 rfl (rasterIn_one _ b (by omega) hbb _ ?_)
  have hlq : (untR b).2.2.length ≤ 100000 := untR_len b (by omega)
  have hq : ((untQ b).isSome = true ∧ untE b = 0) ∨ ((untQ b).isSome = false ∧ untE b = 8) := by
    unfold untE; cases h : (untQ b).isSome <;> simp
  obtain ⟨e1, e2⟩ | ⟨e1, e2⟩ := hq
  · rw [e1, e2]
    (repeat' (first | exact trivial | exact fun h => h | refine And.intro ?_ ?_ | (intro hb; first | (simp at hb; done) | (simp at hb) | skip) | omega | exact rfl | exact Nat.le_refl _ | (show _ + 1 ≤ 4294967296; omega) | (dsimp only; omega) | (show wantB _ _ = true; simp; done) | (show wantB _ _ = true; simp; omega) | (show (_ : Bool) = _; simp_all; done) | (exfalso; omega) | refine aRegion_auto (by decide +kernel) ?_ | refine ⟨_, _, REnt.drop ⟨rfl, rfl⟩, ?_⟩ | fail))
    apply exEff
    · refine And.intro (fun h => by simp [wantB] at h) (fun _ => ?_)
      exact ⟨rfl, rfl⟩
    (repeat' (first | exact trivial | exact fun h => h | refine And.intro ?_ ?_ | (intro hb; first | (simp at hb; done) | (simp at hb) | skip) | omega | exact rfl | exact Nat.le_refl _ | (show _ + 1 ≤ 4294967296; omega) | (dsimp only; omega) | (show wantB _ _ = true; simp; done) | (show wantB _ _ = true; simp; omega) | (show (_ : Bool) = _; simp_all; done) | (exfalso; omega) | refine aRegion_auto (by decide +kernel) ?_ | refine ⟨_, _, REnt.drop ⟨rfl, rfl⟩, ?_⟩ | fail))
    apply exEff
    · refine And.intro (fun _ => ?_) (fun h => by simp [wantB] at h)
      refine And.intro (by simp [wantB]) ?_
      refine acall_conv [.dat RasT, .keep, .keep, .keep] _ _ _ rfl trivial (acall_frame0 rfl (is_any _ (untR b) (untR b).1 (untR b).2.1 (untR b).2.2 (by omega) _ ?_))
      rw [isB_self]
      exact ⟨rfl, rfl⟩
    (repeat' (first | exact trivial | exact fun h => h | refine And.intro ?_ ?_ | (intro hb; first | (simp at hb; done) | (simp at hb) | skip) | omega | exact rfl | exact Nat.le_refl _ | (show _ + 1 ≤ 4294967296; omega) | (dsimp only; omega) | (show wantB _ _ = true; simp; done) | (show wantB _ _ = true; simp; omega) | (show (_ : Bool) = _; simp_all; done) | (exfalso; omega) | refine aRegion_auto (by decide +kernel) ?_ | refine ⟨_, _, REnt.drop ⟨rfl, rfl⟩, ?_⟩ | fail))
    refine ⟨[(0, .fptr RasT a), (7, .fz (.list u8) (tileQ a)), (8, .fz .raw (er E (rerr a))), (9, .fz int (rerr a)), (10, .ptr 0 0)], [.box [.fz int (untR b).1, .fz int (untR b).2.1, .fz (.list int) (untR b).2.2]], Ent.sub rfl ?_, ?_⟩
    · (repeat' (first | exact trivial | exact rfl | refine And.intro ?_ ?_))
    (repeat' (first | exact trivial | exact fun h => h | refine And.intro ?_ ?_ | (intro hb; first | (simp at hb; done) | (simp at hb) | skip) | omega | exact rfl | exact Nat.le_refl _ | (show _ + 1 ≤ 4294967296; omega) | (dsimp only; omega) | (show wantB _ _ = true; simp; done) | (show wantB _ _ = true; simp; omega) | (show (_ : Bool) = _; simp_all; done) | (exfalso; omega) | refine aRegion_auto (by decide +kernel) ?_ | refine ⟨_, _, REnt.drop ⟨rfl, rfl⟩, ?_⟩ | fail))
    · have h4 := rerr_in a
      have ht : tileQ a = [] := by unfold tileQ; rw [if_neg (by omega)]
      refine acall_frame0 rfl (coded_mercatorlaw3 hE (by omega) (rerr a) _ ?_)
      rw [decide_eq_true rfl, ht]
      (repeat' (first | exact trivial | exact fun h => h | refine And.intro ?_ ?_ | (intro hb; first | (simp at hb; done) | (simp at hb) | skip) | omega | exact rfl | exact Nat.le_refl _ | (show _ + 1 ≤ 4294967296; omega) | (dsimp only; omega) | (show wantB _ _ = true; simp; done) | (show wantB _ _ = true; simp; omega) | (show (_ : Bool) = _; simp_all; done) | (exfalso; omega) | refine aRegion_auto (by decide +kernel) ?_ | refine ⟨_, _, REnt.drop ⟨rfl, rfl⟩, ?_⟩ | fail))
      exact hK
    · have hv : rerr a = 0 := by omega
      have ht : tileQ a = tileB a := by unfold tileQ; rw [if_pos hv]
      rw [hv, ht]
      (repeat' (first | exact trivial | exact fun h => h | refine And.intro ?_ ?_ | (intro hb; first | (simp at hb; done) | (simp at hb) | skip) | omega | exact rfl | exact Nat.le_refl _ | (show _ + 1 ≤ 4294967296; omega) | (dsimp only; omega) | (show wantB _ _ = true; simp; done) | (show wantB _ _ = true; simp; omega) | (show (_ : Bool) = _; simp_all; done) | (exfalso; omega) | refine aRegion_auto (by decide +kernel) ?_ | refine ⟨_, _, REnt.drop ⟨rfl, rfl⟩, ?_⟩ | fail))
      apply exEff
      · refine And.intro (fun _ => ?_) (fun h => by simp [wantB] at h)
        refine And.intro (by simp [wantB]) ?_
        refine acall_frame0 rfl (tileOf_one _ a hv _ ?_)
        exact ⟨rfl, rfl⟩
      (repeat' (first | exact trivial | exact fun h => h | refine And.intro ?_ ?_ | (intro hb; first | (simp at hb; done) | (simp at hb) | skip) | omega | exact rfl | exact Nat.le_refl _ | (show _ + 1 ≤ 4294967296; omega) | (dsimp only; omega) | (show wantB _ _ = true; simp; done) | (show wantB _ _ = true; simp; omega) | (show (_ : Bool) = _; simp_all; done) | (exfalso; omega) | refine aRegion_auto (by decide +kernel) ?_ | refine ⟨_, _, REnt.drop ⟨rfl, rfl⟩, ?_⟩ | fail))
      obtain ⟨⟨hW1, hH1, hW2, hH2, hlen⟩, _⟩ := rerr_ok hv
      have htl : (tileB a).length ≤ 100000 := by
        have := enc_len 0 a.2.2
        unfold tileB
        simp only [List.length_cons]
        omega
      have hu := untile_tile hv
      have hr : untR (tileB a) = a := by unfold untR; rw [hu]; rfl
      have he : untE (tileB a) = 0 := by unfold untE; rw [hu]; rfl
      refine acall_frame0 rfl (untile_one E (tileB a) htl (tileB_byte hv) _ ?_)
      rw [hr, he]
      (repeat' (first | exact trivial | exact fun h => h | refine And.intro ?_ ?_ | (intro hb; first | (simp at hb; done) | (simp at hb) | skip) | omega | exact rfl | exact Nat.le_refl _ | (show _ + 1 ≤ 4294967296; omega) | (dsimp only; omega) | (show wantB _ _ = true; simp; done) | (show wantB _ _ = true; simp; omega) | (show (_ : Bool) = _; simp_all; done) | (exfalso; omega) | refine aRegion_auto (by decide +kernel) ?_ | refine ⟨_, _, REnt.drop ⟨rfl, rfl⟩, ?_⟩ | fail))
      apply exEff
      · refine And.intro (fun _ => ?_) (fun h => by simp [wantB] at h)
        refine And.intro (by simp [wantB]) ?_
        refine acall_conv [.dat RasT, .keep, .keep, .keep] _ _ _ rfl trivial (acall_frame0 rfl (is_any _ a a.1 a.2.1 a.2.2 (by omega) _ ?_))
        rw [isB_self]
        exact ⟨rfl, rfl⟩
      (repeat' (first | exact trivial | exact fun h => h | refine And.intro ?_ ?_ | (intro hb; first | (simp at hb; done) | (simp at hb) | skip) | omega | exact rfl | exact Nat.le_refl _ | (show _ + 1 ≤ 4294967296; omega) | (dsimp only; omega) | (show wantB _ _ = true; simp; done) | (show wantB _ _ = true; simp; omega) | (show (_ : Bool) = _; simp_all; done) | (exfalso; omega) | refine aRegion_auto (by decide +kernel) ?_ | refine ⟨_, _, REnt.drop ⟨rfl, rfl⟩, ?_⟩ | fail))
      exact hK
  · rw [e1, e2]
    (repeat' (first | exact trivial | exact fun h => h | refine And.intro ?_ ?_ | (intro hb; first | (simp at hb; done) | (simp at hb) | skip) | omega | exact rfl | exact Nat.le_refl _ | (show _ + 1 ≤ 4294967296; omega) | (dsimp only; omega) | (show wantB _ _ = true; simp; done) | (show wantB _ _ = true; simp; omega) | (show (_ : Bool) = _; simp_all; done) | (exfalso; omega) | refine aRegion_auto (by decide +kernel) ?_ | refine ⟨_, _, REnt.drop ⟨rfl, rfl⟩, ?_⟩ | fail))
    apply exEff
    · refine And.intro (fun _ => ?_) (fun h => by simp [wantB] at h)
      refine And.intro (by simp [wantB]) ?_
      refine acall_frame0 rfl (coded_mercatorlaw3 hE (by omega) 8 _ ?_)
      rw [decide_eq_true (show ((8 : Nat) : Int) = 8 from rfl)]
      exact ⟨rfl, rfl⟩
    (repeat' (first | exact trivial | exact fun h => h | refine And.intro ?_ ?_ | (intro hb; first | (simp at hb; done) | (simp at hb) | skip) | omega | exact rfl | exact Nat.le_refl _ | (show _ + 1 ≤ 4294967296; omega) | (dsimp only; omega) | (show wantB _ _ = true; simp; done) | (show wantB _ _ = true; simp; omega) | (show (_ : Bool) = _; simp_all; done) | (exfalso; omega) | refine aRegion_auto (by decide +kernel) ?_ | refine ⟨_, _, REnt.drop ⟨rfl, rfl⟩, ?_⟩ | fail))
    apply exEff
    · refine And.intro (fun _ => ?_) (fun h => by simp [wantB] at h)
      refine And.intro (by simp [wantB]) ?_
      refine acall_conv [.dat RasT, .keep, .keep, .keep] _ _ _ rfl trivial (acall_frame0 rfl (is_any _ (untR b) (untR b).1 (untR b).2.1 (untR b).2.2 (by omega) _ ?_))
      rw [isB_self]
      exact ⟨rfl, rfl⟩
    (repeat' (first | exact trivial | exact fun h => h | refine And.intro ?_ ?_ | (intro hb; first | (simp at hb; done) | (simp at hb) | skip) | omega | exact rfl | exact Nat.le_refl _ | (show _ + 1 ≤ 4294967296; omega) | (dsimp only; omega) | (show wantB _ _ = true; simp; done) | (show wantB _ _ = true; simp; omega) | (show (_ : Bool) = _; simp_all; done) | (exfalso; omega) | refine aRegion_auto (by decide +kernel) ?_ | refine ⟨_, _, REnt.drop ⟨rfl, rfl⟩, ?_⟩ | fail))
    refine ⟨[(0, .fptr RasT a), (7, .fz (.list u8) (tileQ a)), (8, .fz .raw (er E (rerr a))), (9, .fz int (rerr a)), (10, .ptr 0 0)], [.box [.fz int (untR b).1, .fz int (untR b).2.1, .fz (.list int) (untR b).2.2]], Ent.sub rfl ?_, ?_⟩
    · (repeat' (first | exact trivial | exact rfl | refine And.intro ?_ ?_))
    (repeat' (first | exact trivial | exact fun h => h | refine And.intro ?_ ?_ | (intro hb; first | (simp at hb; done) | (simp at hb) | skip) | omega | exact rfl | exact Nat.le_refl _ | (show _ + 1 ≤ 4294967296; omega) | (dsimp only; omega) | (show wantB _ _ = true; simp; done) | (show wantB _ _ = true; simp; omega) | (show (_ : Bool) = _; simp_all; done) | (exfalso; omega) | refine aRegion_auto (by decide +kernel) ?_ | refine ⟨_, _, REnt.drop ⟨rfl, rfl⟩, ?_⟩ | fail))
    · have h4 := rerr_in a
      have ht : tileQ a = [] := by unfold tileQ; rw [if_neg (by omega)]
      refine acall_frame0 rfl (coded_mercatorlaw3 hE (by omega) (rerr a) _ ?_)
      rw [decide_eq_true rfl, ht]
      (repeat' (first | exact trivial | exact fun h => h | refine And.intro ?_ ?_ | (intro hb; first | (simp at hb; done) | (simp at hb) | skip) | omega | exact rfl | exact Nat.le_refl _ | (show _ + 1 ≤ 4294967296; omega) | (dsimp only; omega) | (show wantB _ _ = true; simp; done) | (show wantB _ _ = true; simp; omega) | (show (_ : Bool) = _; simp_all; done) | (exfalso; omega) | refine aRegion_auto (by decide +kernel) ?_ | refine ⟨_, _, REnt.drop ⟨rfl, rfl⟩, ?_⟩ | fail))
      exact hK
    · have hv : rerr a = 0 := by omega
      have ht : tileQ a = tileB a := by unfold tileQ; rw [if_pos hv]
      rw [hv, ht]
      (repeat' (first | exact trivial | exact fun h => h | refine And.intro ?_ ?_ | (intro hb; first | (simp at hb; done) | (simp at hb) | skip) | omega | exact rfl | exact Nat.le_refl _ | (show _ + 1 ≤ 4294967296; omega) | (dsimp only; omega) | (show wantB _ _ = true; simp; done) | (show wantB _ _ = true; simp; omega) | (show (_ : Bool) = _; simp_all; done) | (exfalso; omega) | refine aRegion_auto (by decide +kernel) ?_ | refine ⟨_, _, REnt.drop ⟨rfl, rfl⟩, ?_⟩ | fail))
      apply exEff
      · refine And.intro (fun _ => ?_) (fun h => by simp [wantB] at h)
        refine And.intro (by simp [wantB]) ?_
        refine acall_frame0 rfl (tileOf_one _ a hv _ ?_)
        exact ⟨rfl, rfl⟩
      (repeat' (first | exact trivial | exact fun h => h | refine And.intro ?_ ?_ | (intro hb; first | (simp at hb; done) | (simp at hb) | skip) | omega | exact rfl | exact Nat.le_refl _ | (show _ + 1 ≤ 4294967296; omega) | (dsimp only; omega) | (show wantB _ _ = true; simp; done) | (show wantB _ _ = true; simp; omega) | (show (_ : Bool) = _; simp_all; done) | (exfalso; omega) | refine aRegion_auto (by decide +kernel) ?_ | refine ⟨_, _, REnt.drop ⟨rfl, rfl⟩, ?_⟩ | fail))
      obtain ⟨⟨hW1, hH1, hW2, hH2, hlen⟩, _⟩ := rerr_ok hv
      have htl : (tileB a).length ≤ 100000 := by
        have := enc_len 0 a.2.2
        unfold tileB
        simp only [List.length_cons]
        omega
      have hu := untile_tile hv
      have hr : untR (tileB a) = a := by unfold untR; rw [hu]; rfl
      have he : untE (tileB a) = 0 := by unfold untE; rw [hu]; rfl
      refine acall_frame0 rfl (untile_one E (tileB a) htl (tileB_byte hv) _ ?_)
      rw [hr, he]
      (repeat' (first | exact trivial | exact fun h => h | refine And.intro ?_ ?_ | (intro hb; first | (simp at hb; done) | (simp at hb) | skip) | omega | exact rfl | exact Nat.le_refl _ | (show _ + 1 ≤ 4294967296; omega) | (dsimp only; omega) | (show wantB _ _ = true; simp; done) | (show wantB _ _ = true; simp; omega) | (show (_ : Bool) = _; simp_all; done) | (exfalso; omega) | refine aRegion_auto (by decide +kernel) ?_ | refine ⟨_, _, REnt.drop ⟨rfl, rfl⟩, ?_⟩ | fail))
      apply exEff
      · refine And.intro (fun _ => ?_) (fun h => by simp [wantB] at h)
        refine And.intro (by simp [wantB]) ?_
        refine acall_conv [.dat RasT, .keep, .keep, .keep] _ _ _ rfl trivial (acall_frame0 rfl (is_any _ a a.1 a.2.1 a.2.2 (by omega) _ ?_))
        rw [isB_self]
        exact ⟨rfl, rfl⟩
      (repeat' (first | exact trivial | exact fun h => h | refine And.intro ?_ ?_ | (intro hb; first | (simp at hb; done) | (simp at hb) | skip) | omega | exact rfl | exact Nat.le_refl _ | (show _ + 1 ≤ 4294967296; omega) | (dsimp only; omega) | (show wantB _ _ = true; simp; done) | (show wantB _ _ = true; simp; omega) | (show (_ : Bool) = _; simp_all; done) | (exfalso; omega) | refine aRegion_auto (by decide +kernel) ?_ | refine ⟨_, _, REnt.drop ⟨rfl, rfl⟩, ?_⟩ | fail))
      exact hK
theorem fieldTiles_nil {E : Errs} (b : List Int) (K : AV → List AO → Prop) (hK : K (.fz .bool true) []) :
    ACall Tryd.prog (G8 E) 6 [.fz .raw (.pointer none), .fz (.list u8) b] [] K := by
  refine acall_mk (E := envAt (G8 E) 121 0) (envOk _ _ _) Tryd.func6 rfl rfl rfl rfl rfl ?_
  (repeat' (first | exact trivial | exact fun h => h | refine And.intro ?_ ?_ | (intro hb; first | (simp at hb; done) | (simp at hb) | skip) | omega | exact rfl | exact Nat.le_refl _ | (show _ + 1 ≤ 4294967296; omega) | (dsimp only; omega) | (show wantB _ _ = true; simp; done) | (show wantB _ _ = true; simp; omega) | (show (_ : Bool) = _; simp_all; done) | (exfalso; omega) | refine aRegion_auto (by decide +kernel) ?_ | refine ⟨_, _, REnt.drop ⟨rfl, rfl⟩, ?_⟩ | fail))
  refine acall_frame0 rfl (up8 (rasters_any E _ ?_))
  (repeat' (first | exact trivial | exact fun h => h | refine And.intro ?_ ?_ | (intro hb; first | (simp at hb; done) | (simp at hb) | skip) | omega | exact rfl | exact Nat.le_refl _ | (show _ + 1 ≤ 4294967296; omega) | (dsimp only; omega) | (show wantB _ _ = true; simp; done) | (show wantB _ _ = true; simp; omega) | (show (_ : Bool) = _; simp_all; done) | (exfalso; omega) | refine aRegion_auto (by decide +kernel) ?_ | refine ⟨_, _, REnt.drop ⟨rfl, rfl⟩, ?_⟩ | fail))
  refine acall_frame0 rfl (small_nil _ _ ?_)
  (repeat' (first | exact trivial | exact fun h => h | refine And.intro ?_ ?_ | (intro hb; first | (simp at hb; done) | (simp at hb) | skip) | omega | exact rfl | exact Nat.le_refl _ | (show _ + 1 ≤ 4294967296; omega) | (dsimp only; omega) | (show wantB _ _ = true; simp; done) | (show wantB _ _ = true; simp; omega) | (show (_ : Bool) = _; simp_all; done) | (exfalso; omega) | refine aRegion_auto (by decide +kernel) ?_ | refine ⟨_, _, REnt.drop ⟨rfl, rfl⟩, ?_⟩ | fail))
  exact hK
end Go.Proofs.YtidhgdipnfhoeaaDoor
/-
  What the laid variables give: eight errors, all different, and the handle of type error.
-/
namespace Go.Proofs.YtidhgdipnfhoeaaDoor
open Go Go.Ab Go.RowKit Go.ChangeShapes
set_option maxRecDepth 100000
theorem star : "*" ++ "errors.errorString" = "*errors.errorString" := by decide
theorem names_at (u : TypeId) (h : Tryd.prog.typeName? 3 u = some "*errors.errorString") : u = 102 :=
  typeName_ptr_named (nm := "errors.errorString") (by rw [star]; kernel_rfl) (by kernel_rfl) (by decide) u (by rw [star]; exact h)
theorem cells_es : Tryd.prog.cellsOf 126 = 1 := by kernel_rfl
theorem cells_str : Tryd.prog.cellsOf 9 = 1 := by kernel_rfl
theorem glob_ty (g : Nat) (hg : g ∈ [4, 2, 0, 1, 5, 6, 7, 3]) :
    ∃ ti ms, (Tryd.prog.globals[g]?).map (·.type) = some ti ∧ Tryd.prog.underlying ti = some (.interface ms) := by
  have : ([4, 2, 0, 1, 5, 6, 7, 3].all fun g => (Tryd.prog.globals[g]?).map (·.type) == some 30) = true := by kernel_rfl
  exact ⟨30, _, by simpa using List.all_eq_true.1 this g hg, Tryd.underlying30⟩
theorem et_at : Tryd.prog.globalNamed "errors.errorType" = some 8 := by kernel_rfl
theorem rt_at : (Tryd.prog.cutTypes.find? (·.1 == "internal/reflectlite.rtype")).map (·.2) = some 88 := by kernel_rfl
theorem one_row : ((List.range Tryd.prog.types.size).filter fun t => Tryd.prog.rowNamed t [101, 114, 114, 111, 114]) = [30] := by kernel_rfl
/-- of a list of the eight errors and the handle -/
theorem globs8 {W : World} {l : List (String × DataW Unit)} {x1 x2 x3 x4 x5 x6 x7 x8 : List UInt8} (h : laidMetH Tryd.prog l W)
    (hl : (l.filter fun x => x.2.handleName?.isNone) = [("mercator/api.ErrText", errD x1), ("mercator/api.ErrBound", errD x2), ("mercator/api.ErrShape", errD x3), ("mercator/api.ErrRange", errD x4), ("mercator/api.ErrName", errD x5), ("mercator/api.ErrNone", errD x6), ("mercator/api.ErrOrder", errD x7), ("mercator/api.ErrFile", errD x8)])
    (hh : (l.filter fun x => x.2.handleName?.isSome) = [("errors.errorType", .iface "internal/reflectlite.rtype" (.agg [.ptr (.lit (.string [101, 114, 114, 111, 114]))]))]) :
    ∃ E : Errs, (EL E).Nodup ∧ ∀ g v, gk (G8 E) g = some v → Glo0 W g v := by
  obtain ⟨h1, h2⟩ := laidMetH_iff.1 h
  rw [hl] at h1
  rw [hh] at h2
  obtain ⟨ps, hv, hn, hall⟩ := h1
  obtain ⟨al, k1, k2, k3, _⟩ := laid_errs names_at Tryd.underlying102 Tryd.underlying126 rfl rfl Tryd.underlying9 cells_es cells_str
    [("mercator/api.ErrText", x1), ("mercator/api.ErrBound", x2), ("mercator/api.ErrShape", x3), ("mercator/api.ErrRange", x4), ("mercator/api.ErrName", x5), ("mercator/api.ErrNone", x6), ("mercator/api.ErrOrder", x7), ("mercator/api.ErrFile", x8)]
    [4, 2, 0, 1, 5, 6, 7, 3] ps hv hn hall (by kernel_rfl) glob_ty
  obtain ⟨a1, a2, a3, a4, a5, a6, a7, a8, rfl⟩ : ∃ a1 a2 a3 a4 a5 a6 a7 a8, al = [a1, a2, a3, a4, a5, a6, a7, a8] := by
    match al, k1 with
    | [a1, a2, a3, a4, a5, a6, a7, a8], _ => exact ⟨a1, a2, a3, a4, a5, a6, a7, a8, rfl⟩
  have hE : Glo0 W 8 asK.errType := by
    obtain ⟨name, u, ty, e1, e2, e3, e4, e5⟩ := h2 _ (List.mem_singleton.2 rfl)
    have en : name = [101, 114, 114, 111, 114] := (Option.some.inj e1).symm
    subst en
    obtain rfl := Option.some.inj (rt_at.symm.trans e2)
    have hm : ty ∈ (List.range Tryd.prog.types.size).filter fun t => Tryd.prog.rowNamed t [101, 114, 114, 111, 114] := List.mem_filter.2 ⟨List.mem_range.2 e3, e4⟩
    rw [one_row] at hm
    obtain rfl := List.mem_singleton.1 hm
    have hh : typeHandle Tryd.prog 30 = .pointer (some ⟨9, 30, none⟩) := by kernel_rfl
    rw [hh] at e5
    exact ⟨by simpa [asK.errType] using World.var?_cell et_at e5 0, rfl, fun T a e => by cases e⟩
  refine ⟨⟨a1, a2, a3, a4, a5, a6, a7, a8⟩, k2, fun g v hg => ?_⟩
  unfold G8 gk at hg
  split at hg
  · rename_i e; subst e; cases hg; exact k3 2 _ _ rfl rfl
  unfold gk at hg
  split at hg
  · rename_i e; subst e; cases hg; exact k3 3 _ _ rfl rfl
  unfold gk at hg
  split at hg
  · rename_i e; subst e; cases hg; exact k3 1 _ _ rfl rfl
  unfold gk at hg
  split at hg
  · rename_i e; subst e; cases hg; exact k3 0 _ _ rfl rfl
  unfold gk at hg
  split at hg
  · rename_i e; subst e; cases hg; exact k3 4 _ _ rfl rfl
  unfold gk at hg
  split at hg
  · rename_i e; subst e; cases hg; exact k3 5 _ _ rfl rfl
  unfold gk at hg
  split at hg
  · rename_i e; subst e; cases hg; exact k3 6 _ _ rfl rfl
  unfold gk at hg
  split at hg
  · rename_i e; subst e; cases hg; exact k3 7 _ _ rfl rfl
  unfold gk at hg
  split at hg
  · rename_i e; subst e; cases hg; exact hE
  · cases hg
end Go.Proofs.YtidhgdipnfhoeaaDoor
/-
  Arguments read again behind a call that leaves old memory alone; a slice of points opened.
-/
namespace Go.Proofs.YtidhgdipnfhoeaaDoor
open Go Go.ChangeShapes Go.WideShapes Go.ChangeAt Go.RowKit
theorem trodAll_below {H : Type} {enc : TypeId × Value → H} {P : Program} (hl : laidOutB P = true) {W W' : World} (hb : Below W.heap.size W W') :
    ∀ (ts : List TypeId) (vs : List Value) (ds : List (DataW H)) (ps : List MemPlace), (∀ t ∈ ts, P.readableRec t = true ∧ t < P.types.size) →
      DataW.TrodAll enc P W 0 (fun _ => true) true ts vs ds ps → (∀ x ∈ ps, x.block < W.heap.size) →
      DataW.TrodAll enc P W' 0 (fun b => decide (b < W.heap.size)) true ts vs ds ps
  | [], [], [], ps, _, h, _ => h
  | [], [], _ :: _, _, _, h, _ => h.elim
  | [], _ :: _, _, _, _, h, _ => h.elim
  | _ :: _, [], _, _, _, h, _ => h.elim
  | _ :: _, _ :: _, [], _, _, h, _ => h.elim
  | t :: ts, v :: vs, d :: ds, ps, hr, h, hlt => by
    obtain ⟨p, q, h1, h2, rfl⟩ := h
    refine ⟨p, q, Below.trod hl (hr t (List.mem_cons_self ..)).1 (hr t (List.mem_cons_self ..)).2 h1 hb (fun x hx => hlt x (List.mem_append.2 (.inl hx))), ?_, rfl⟩
    exact trodAll_below hl hb ts vs ds q (fun t ht => hr t (List.mem_cons_of_mem _ ht)) h2 (fun x hx => hlt x (List.mem_append.2 (.inr hx)))
end Go.Proofs.YtidhgdipnfhoeaaDoor
