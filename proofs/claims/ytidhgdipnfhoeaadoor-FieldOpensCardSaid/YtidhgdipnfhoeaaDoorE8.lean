/-
  Two rasters, cell by cell.
-/
import Derived.Test.YtidhgdipnfhoeaaDoorE7
namespace Go.Proofs.YtidhgdipnfhoeaaDoor
open Go Go.Ab
set_option maxRecDepth 100000
def opTwo (how x y : Int) : Int := if how = 43 then x + y else if how = 45 then x - y else if how = 62 then max x y else min x y
def outL (f : Nat → Int) (n k : Nat) : List Int := (List.range n).map fun j => if j < k then f j else 0
theorem outL_set (f : Nat → Int) (n k : Nat) : List.set (outL f n k) k (f k) = outL f n (k + 1) := by
  unfold outL
  apply List.ext_getElem (by simp)
  intro i h1 h2
  simp at h1 h2
  rw [List.getElem_set]
  by_cases h : k = i
  · subst h; simp
  · rw [if_neg h]; simp
    by_cases h3 : i < k
    · rw [if_pos h3, if_pos (by omega)]
    · rw [if_neg h3, if_neg (by omega)]
theorem outL_zero (f : Nat → Int) (n : Nat) : List.replicate n (0 : Int) = outL f n 0 := by
  unfold outL
  apply List.ext_getElem (by simp)
  intro i h1 h2
  simp
theorem outL_len (f : Nat → Int) (n k : Nat) : (outL f n k).length = n := by simp [outL]
def known (how : Int) : Bool := decide (how = 43) || decide (how = 45) || decide (how = 62) || decide (how = 60)
def twoF (a b : Ras) (how : Int) (j : Nat) : Int := opTwo how (a.2.2.getD j 0) (b.2.2.getD j 0)
def bothR (a b : Ras) (how : Int) : Ras := (a.1, a.2.1, outL (twoF a b how) a.2.2.length a.2.2.length)
def berr (a b : Ras) (how : Int) : Nat := if 0 < perr a b then perr a b else if known how = false then 3 else if 0 < rerr (bothR a b how) then 4 else 0
theorem perr_ok {a b : Ras} (h : perr a b = 0) : rerr a = 0 ∧ rerr b = 0 ∧ a.1 = b.1 ∧ a.2.1 = b.2.1 := by
  unfold perr at h
  split at h; omega
  split at h; omega
  split at h; omega
  omega
theorem getD_big {l : List Int} (h : ∀ x ∈ l, bigB x = false) (i : Nat) : -1048576 ≤ List.getD l i (Ty.dft int) ∧ List.getD l i (Ty.dft int) ≤ 1048576 := by
  by_cases hi : i < l.length
  · have := h _ (List.getElem_mem hi)
    rw [List.getD, List.getElem?_eq_getElem hi]
    unfold bigB at this
    simp at this ⊢; omega
  · rw [List.getD, List.getElem?_eq_none (by omega)]
    exact ⟨by decide, by decide⟩
theorem outL_step (a b : Ras) (how : Int) (n k : Nat) (v : Int) (h : v = twoF a b how k) : List.set (outL (twoF a b how) n k) (0 + k) v = outL (twoF a b how) n (k + 1) := by
  rw [Nat.zero_add, h, outL_set]
set_option maxHeartbeats 4000000 in
theorem both_any (E : Errs) (a b : Ras) (how : Int) (ha : a.2.2.length ≤ 1000000000000) (hb : b.2.2.length ≤ 1000000000000) (K : AV → List AO → Prop)
    (h0 : berr a b how = 0 → K (RE (bothR a b how) .nilIface) []) (he : ∀ e, berr a b how = e → 0 < e → K (RE (0, 0, []) (errV (errA E e))) []) :
    ACall Tryd.prog (GE E) 14 [.fz RasT a, .fz RasT b, .fz (.int .u8) how] [] K := by
  refine acall_mk (E := envAt (GE E) 88 0) (envOk _ _ _) Tryd.func14 rfl rfl rfl rfl rfl ?_
  (repeat' (first | exact trivial | exact fun h => h | refine And.intro ?_ ?_ | (intro hb; first | (simp at hb; done) | (simp at hb) | skip) | omega | exact rfl | exact Nat.le_refl _ | (show _ + 1 ≤ 4294967296; omega) | (dsimp only; omega) | (show wantB _ _ = true; simp; done) | (show wantB _ _ = true; simp; omega) | (show (_ : Bool) = _; simp_all; done) | (exfalso; omega) | refine aRegion_auto (by decide +kernel) ?_ | refine ⟨_, _, REnt.drop ⟨rfl, rfl⟩, ?_⟩ | fail))
  refine acall_conv [.dat RasT, .dat RasT] _ _ _ rfl trivial (acall_frame0 rfl (alike_any E a b ha hb _ (fun hp => ?_) (fun e h1 h2 => ?_)))
  · (repeat' (first | exact trivial | exact fun h => h | refine And.intro ?_ ?_ | (intro hb; first | (simp at hb; done) | (simp at hb) | skip) | omega | exact rfl | exact Nat.le_refl _ | (show _ + 1 ≤ 4294967296; omega) | (dsimp only; omega) | (show wantB _ _ = true; simp; done) | (show wantB _ _ = true; simp; omega) | (show (_ : Bool) = _; simp_all; done) | (exfalso; omega) | refine aRegion_auto (by decide +kernel) ?_ | refine ⟨_, _, REnt.drop ⟨rfl, rfl⟩, ?_⟩ | fail))
    obtain ⟨hpa, hpb, hw, hh⟩ := perr_ok hp
    obtain ⟨⟨hW1, hH1, hW2, hH2, hlen⟩, hbig⟩ := rerr_ok hpa
    obtain ⟨⟨_, _, _, _, hlen'⟩, hbig'⟩ := rerr_ok hpb
    have hn : a.2.2.length ≤ 16384 := by
      have := mul_bd (a := a.1) (b := a.2.1) (A := 128) (B := 128) (by omega) (by omega) (by omega) (by omega); omega
    have hll : b.2.2.length = a.2.2.length := by rw [← hw, ← hh] at hlen'; omega
    let bx : AO := .box [.fz int a.1, .fz int a.2.1, .fz (.list int) a.2.2]
    let by_ : AO := .box [.fz int b.1, .fz int b.2.1, .fz (.list int) b.2.2]
    let bz : AO := .box [.fz int 0, .fz int 0, .nilSl]
    let rw_ : AO := .row int (List.replicate a.2.2.length 0)
    let bo : AO := .box [.fz int a.1, .fz int a.2.1, .ref 4 0 a.2.2.length]
    refine aRegion_open 1 (by decide +kernel) ?_
    (repeat' (first | exact trivial | exact fun h => h | refine And.intro ?_ ?_ | (intro hb; first | (simp at hb; done) | (simp at hb) | skip) | omega | exact rfl | exact Nat.le_refl _ | (show _ + 1 ≤ 4294967296; omega) | (dsimp only; omega) | (show wantB _ _ = true; simp; done) | (show wantB _ _ = true; simp; omega) | (show (_ : Bool) = _; simp_all; done) | (exfalso; omega) | refine aRegion_auto (by decide +kernel) ?_ | fail))
    refine eff_is (.ref 4 0 a.2.2.length) [bx, by_, bz, .row .bool [], rw_] ?_
    (repeat' (first | exact trivial | exact fun h => h | refine And.intro ?_ ?_ | (intro hb; first | (simp at hb; done) | (simp at hb) | skip) | omega | exact rfl | exact Nat.le_refl _ | (show _ + 1 ≤ 4294967296; omega) | (dsimp only; omega) | (show wantB _ _ = true; simp; done) | (show wantB _ _ = true; simp; omega) | (show (_ : Bool) = _; simp_all; done) | (exfalso; omega) | refine aRegion_auto (by decide +kernel) ?_ | fail))
    refine eff_is (.ptr 3 0) [bx, by_, bz, bz, rw_] ?_
    refine eff_is .unk [bx, by_, bz, bo, rw_] ?_
    refine ⟨[(0, [bx, by_, bz, .row .bool []]), (128, [bx, by_, bz, .row .bool [], rw_]), (512, [bx, by_, bz, bz]), (640, [bx, by_, bz, bz, rw_]), (1664, [bx, by_, bz, bo, rw_])], rfl, rfl, ?_, ?_⟩
    · (repeat' (first | refine And.intro ?_ ?_ | exact trivial | exact rfl | omega))
      · refine view_of [0, 1, 2, 3, 4] rfl ?_ rfl rfl
        (repeat' (first | exact trivial | exact rfl | refine And.intro ?_ ?_))
      · refine view_of [0, 1, 2, 4] rfl ?_ rfl rfl
        (repeat' (first | exact trivial | exact rfl | refine And.intro ?_ ?_))
      · refine view_of [0, 1, 2, 5, 4] rfl ?_ rfl rfl
        (repeat' (first | exact trivial | exact rfl | refine And.intro ?_ ?_))
      · refine view_of [0, 1, 2, 3, 4] rfl ?_ rfl rfl
        (repeat' (first | exact trivial | exact rfl | refine And.intro ?_ ?_))
      · refine view_of [0, 1, 2, 3, 4] rfl ?_ rfl rfl
        (repeat' (first | exact trivial | exact rfl | refine And.intro ?_ ?_))
    (repeat' (first | exact trivial | exact fun h => h | refine And.intro ?_ ?_ | (intro hb; first | (simp at hb; done) | (simp at hb) | skip) | omega | exact rfl | exact Nat.le_refl _ | (show _ + 1 ≤ 4294967296; omega) | (dsimp only; omega) | (show wantB _ _ = true; simp; done) | (show wantB _ _ = true; simp; omega) | (show (_ : Bool) = _; simp_all; done) | (exfalso; omega) | refine aRegion_auto (by decide +kernel) ?_ | fail))
    refine ⟨Nat, fun k => ⟨[(2, .fz (.int .u8) how), (3, .ptr 0 0), (4, .ptr 1 0), (6, .ptr 2 0), (7, .fz .raw .nilIface), (9, .ptr 3 0), (30, .fz (.list int) a.2.2), (31, .fz int a.2.2.length), (32, .fz int k)], [bx, by_, bz, bo, .row int (outL (twoF a b how) a.2.2.length k)]⟩, fun k => k ≤ a.2.2.length ∧ (known how = false → k = 0), fun k => a.2.2.length - k, 0, ⟨Nat.zero_le _, fun _ => rfl⟩, Ent.sub (by rw [← outL_zero]) ⟨rfl, rfl, rfl, rfl, rfl, rfl, rfl, rfl, rfl⟩, ?_⟩
    intro k ⟨hk, hkn⟩
    have hol := outL_len (twoF a b how) a.2.2.length k
    have hka := getD_big hbig (Int.toNat (k : Int))
    have hkb := getD_big hbig' (Int.toNat (k : Int))
    have hkn' : known how = true → (known how = false → k + 1 = 0) := fun h h' => by rw [h] at h'; cases h'
    have nxt : ∀ v : Int, v = twoF a b how k → ([bx, by_, bz, bo, AO.row int (List.set (outL (twoF a b how) a.2.2.length k) (0 + k) v)] : List AO) = [bx, by_, bz, bo, AO.row int (outL (twoF a b how) a.2.2.length (k + 1))] := fun v h => by rw [outL_step _ _ _ _ _ _ h]
    (repeat' (first | exact trivial | exact fun h => h | refine And.intro ?_ ?_ | (intro hb; first | (simp at hb; done) | (simp at hb) | skip) | omega | exact rfl | exact Nat.le_refl _ | (show _ + 1 ≤ 4294967296; omega) | (dsimp only; omega) | (show wantB _ _ = true; simp; done) | (show wantB _ _ = true; simp; omega) | (show (_ : Bool) = _; simp_all; done) | (exfalso; omega) | refine aRegion_auto (by decide +kernel) ?_ | fail))
    · refine ⟨k + 1, ⟨by omega, hkn' (by simp [known, hb])⟩, by show _ - _ < _ - _; omega, Ent.sub (nxt _ (by unfold twoF opTwo; rw [if_pos hb]; rfl)) ?_⟩
      (repeat' (first | exact trivial | exact rfl | refine And.intro ?_ ?_))
    · refine ⟨k + 1, ⟨by omega, hkn' (by simp [known, hb])⟩, by show _ - _ < _ - _; omega, Ent.sub (nxt _ (by unfold twoF opTwo; rw [if_neg (by omega), if_pos hb]; rfl)) ?_⟩
      (repeat' (first | exact trivial | exact rfl | refine And.intro ?_ ?_))
    · refine ⟨k + 1, ⟨by omega, hkn' (by simp [known, hb])⟩, by show _ - _ < _ - _; omega, Ent.sub (nxt _ (by unfold twoF opTwo; rw [if_neg (by omega), if_neg (by omega), if_pos hb]; rfl)) ?_⟩
      (repeat' (first | exact trivial | exact rfl | refine And.intro ?_ ?_))
    · refine ⟨k + 1, ⟨by omega, hkn' (by simp [known, hb])⟩, by show _ - _ < _ - _; omega, Ent.sub (nxt _ (by unfold twoF opTwo; rw [if_neg (by omega), if_neg (by omega), if_neg (by omega)]; rfl)) ?_⟩
      (repeat' (first | exact trivial | exact rfl | refine And.intro ?_ ?_))
    · (apply exEff; focus (repeat' (first | exact ⟨rfl, rfl⟩ | exact trivial | refine And.intro ?_ ?_ | omega | exact Nat.le_refl _ | (show _ + 1 ≤ 4294967296; omega))))
      (repeat' (first | exact trivial | exact fun h => h | refine And.intro ?_ ?_ | (intro hb; first | (simp at hb; done) | (simp at hb) | skip) | omega | exact rfl | exact Nat.le_refl _ | (show _ + 1 ≤ 4294967296; omega) | (dsimp only; omega) | (show wantB _ _ = true; simp; done) | (show wantB _ _ = true; simp; omega) | (show (_ : Bool) = _; simp_all; done) | (exfalso; omega) | refine aRegion_auto (by decide +kernel) ?_ | fail))
      refine ⟨_, _, (REnt.conv [.dat RasT, .keep] _ rfl trivial).trans (REnt.drop ⟨rfl, rfl⟩), ?_⟩
      have hkf : known how = false := by simp [known]; omega
      exact he 3 (by unfold berr; rw [if_neg (by omega), if_pos hkf]) (by decide)
    · have hk2 : k = a.2.2.length := by omega
      subst hk2
      have hpos := Int.mul_pos (a := a.1) (b := a.2.1) (by omega) (by omega)
      have hkt : ¬ known how = false := fun h => by have := hkn h; omega
      refine acall_lend [.dat RasT] _ _ _ rfl ?_ rfl ?_
      · (repeat' (first | exact trivial | refine And.intro ?_ ?_ | (show _ ≤ _; omega) | (show _ ≤ _; simp; done)))
      refine acall_arg (valid_err E (bothR a b how) (by show (outL _ _ _).length ≤ _; omega) _ (fun h => ?_) (fun e h1 h2 => ?_)) ?_
      · refine And.intro rfl ?_
        (repeat' (first | exact trivial | exact fun h => h | refine And.intro ?_ ?_ | (intro hb; first | (simp at hb; done) | (simp at hb) | skip) | omega | exact rfl | exact Nat.le_refl _ | (show _ + 1 ≤ 4294967296; omega) | (dsimp only; omega) | (show wantB _ _ = true; simp; done) | (show wantB _ _ = true; simp; omega) | (show (_ : Bool) = _; simp_all; done) | (exfalso; omega) | refine aRegion_auto (by decide +kernel) ?_ | fail))
        refine ⟨_, _, (REnt.conv [.dat RasT, .keep] _ rfl ?_).trans (REnt.drop ⟨rfl, rfl⟩), ?_⟩
        · (repeat' (first | exact trivial | refine And.intro ?_ ?_ | (show _ ≤ _; omega) | (show _ ≤ _; simp; done)))
        have e1 : List.take a.2.2.length (outL (twoF a b how) a.2.2.length a.2.2.length) = outL (twoF a b how) a.2.2.length a.2.2.length := List.take_of_length_le (by omega)
        exact (congrArg (fun l => K (.tup [.fz RasT (a.1, a.2.1, l), .fz .raw .nilIface]) []) e1).mpr (h0 (by unfold berr; rw [if_neg (by omega), if_neg hkt, if_neg (by omega)]))
      · refine And.intro rfl ?_
        (repeat' (first | exact trivial | exact fun h => h | refine And.intro ?_ ?_ | (intro hb; first | (simp at hb; done) | (simp at hb) | skip) | omega | exact rfl | exact Nat.le_refl _ | (show _ + 1 ≤ 4294967296; omega) | (dsimp only; omega) | (show wantB _ _ = true; simp; done) | (show wantB _ _ = true; simp; omega) | (show (_ : Bool) = _; simp_all; done) | (exfalso; omega) | refine aRegion_auto (by decide +kernel) ?_ | fail))
        (apply exEff; focus (repeat' (first | exact ⟨rfl, rfl⟩ | exact trivial | refine And.intro ?_ ?_ | omega | exact Nat.le_refl _ | (show _ + 1 ≤ 4294967296; omega))))
        (repeat' (first | exact trivial | exact fun h => h | refine And.intro ?_ ?_ | (intro hb; first | (simp at hb; done) | (simp at hb) | skip) | omega | exact rfl | exact Nat.le_refl _ | (show _ + 1 ≤ 4294967296; omega) | (dsimp only; omega) | (show wantB _ _ = true; simp; done) | (show wantB _ _ = true; simp; omega) | (show (_ : Bool) = _; simp_all; done) | (exfalso; omega) | refine aRegion_auto (by decide +kernel) ?_ | fail))
        refine ⟨_, _, (REnt.conv [.dat RasT, .keep] _ rfl trivial).trans (REnt.drop ⟨rfl, rfl⟩), ?_⟩
        exact he 4 (by unfold berr; rw [if_neg (by omega), if_neg hkt, if_pos (by omega)]) (by decide)
      · have e1 : outL (twoF a b how) a.2.2.length a.2.2.length = List.take a.2.2.length (outL (twoF a b how) a.2.2.length a.2.2.length) := (List.take_of_length_le (by omega)).symm
        exact congrArg (fun l => [AV.fz RasT (a.1, a.2.1, l)]) e1
  · (repeat' (first | exact trivial | exact fun h => h | refine And.intro ?_ ?_ | (intro hb; first | (simp at hb; done) | (simp at hb) | skip) | omega | exact rfl | exact Nat.le_refl _ | (show _ + 1 ≤ 4294967296; omega) | (dsimp only; omega) | (show wantB _ _ = true; simp; done) | (show wantB _ _ = true; simp; omega) | (show (_ : Bool) = _; simp_all; done) | (exfalso; omega) | refine aRegion_auto (by decide +kernel) ?_ | fail))
    refine ⟨_, _, (REnt.conv [.dat RasT, .keep] _ rfl trivial).trans (REnt.drop ⟨rfl, rfl⟩), ?_⟩
    exact he e (by unfold berr; rw [if_pos (by omega)]; exact h1) h2
end Go.Proofs.YtidhgdipnfhoeaaDoor
