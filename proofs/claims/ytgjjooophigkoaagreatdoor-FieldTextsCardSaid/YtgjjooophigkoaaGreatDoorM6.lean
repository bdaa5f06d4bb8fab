/-
  Two rasters, cell by cell.
-/
import Derived.Test.YtgjjooophigkoaaGreatDoorM5
import Derived.Lib.ConvBytes
namespace Go.Proofs.YtgjjooophigkoaaGreatDoor
open Go Go.Ab
set_option maxRecDepth 100000
def opTwo (how x y : Int) : Int := if how = 43 then x + y else if how = 45 then x - y else if how = 62 then max x y else min x y
def outL (f : Nat → Int) (n k : Nat) : List Int := (List.range n).map fun j => if j < k then f j else 0
theorem outL_set (f : Nat → Int) (n k : Nat) : List.set (outL f n k) k (f k) = outL f n (k + 1) := by
  unfold outL
  apply List.ext_getElem (by simp)
  intro i h1 h2
  simp at h1 h2
  rw [List.getElem_set]
  by_cases h : k = i
  · subst h; simp
  · rw [if_neg h]; simp
    by_cases h3 : i < k
    · rw [if_pos h3, if_pos (by omega)]
    · rw [if_neg h3, if_neg (by omega)]
theorem outL_zero (f : Nat → Int) (n : Nat) : List.replicate n (0 : Int) = outL f n 0 := by
  unfold outL
  apply List.ext_getElem (by simp)
  intro i h1 h2
  simp
theorem outL_len (f : Nat → Int) (n k : Nat) : (outL f n k).length = n := by simp [outL]
def known (how : Int) : Bool := decide (how = 43) || decide (how = 45) || decide (how = 62) || decide (how = 60)
def twoF (a b : Ras) (how : Int) (j : Nat) : Int := opTwo how (a.2.2.getD j 0) (b.2.2.getD j 0)
def bothR (a b : Ras) (how : Int) : Ras := (a.1, a.2.1, outL (twoF a b how) a.2.2.length a.2.2.length)
def berr (a b : Ras) (how : Int) : Nat := if 0 < perr a b then perr a b else if known how = false then 3 else if 0 < rerr (bothR a b how) then 4 else 0
theorem perr_ok {a b : Ras} (h : perr a b = 0) : rerr a = 0 ∧ rerr b = 0 ∧ a.1 = b.1 ∧ a.2.1 = b.2.1 := by
  unfold perr at h
  split at h; omega
  split at h; omega
  split at h; omega
  omega
theorem getD_big {l : List Int} (h : ∀ x ∈ l, bigB x = false) (i : Nat) : -1048576 ≤ List.getD l i (Ty.dft int) ∧ List.getD l i (Ty.dft int) ≤ 1048576 := by
  by_cases hi : i < l.length
  · have := h _ (List.getElem_mem hi)
    rw [List.getD, List.getElem?_eq_getElem hi]
    unfold bigB at this
    simp at this ⊢; omega
  · rw [List.getD, List.getElem?_eq_none (by omega)]
    exact ⟨by decide, by decide⟩
theorem outL_step (a b : Ras) (how : Int) (n k : Nat) (v : Int) (h : v = twoF a b how k) : List.set (outL (twoF a b how) n k) (0 + k) v = outL (twoF a b how) n (k + 1) := by
  rw [Nat.zero_add, h, outL_set]
set_option maxHeartbeats 4000000 in
theorem both_any (E : Errs) (a b : Ras) (how : Int) (ha : a.2.2.length ≤ 1000000000000) (hb : b.2.2.length ≤ 1000000000000) (K : AV → List AO → Prop)
    (h0 : berr a b how = 0 → K (RE (bothR a b how) .nilIface) []) (he : ∀ e, berr a b how = e → 0 < e → K (RE (0, 0, []) (errV (errA E e))) []) :
    ACall Tryz.prog (GE E) 29 [.fz RasT a, .fz RasT b, .fz (.int .u8) how] [] K := by
  refine acall_mk (E := envAt (GE E) 88 0) (envOk _ _ _) Tryz.func29 rfl rfl rfl rfl rfl ?_
  (repeat' (first | exact trivial | exact fun h => h | refine And.intro ?_ ?_ | (intro hb; first | (simp at hb; done) | (simp at hb) | skip) | omega | exact rfl | exact Nat.le_refl _ | (show _ + 1 ≤ 4294967296; omega) | (dsimp only; omega) | (show (_ : Int) ≤ (_ : Int); omega) | (show _ < List.length _; simp only [List.length_set, List.length_append, List.length_take]; omega) | (show wantB _ _ = true; simp; done) | (show wantB _ _ = true; simp; omega) | (show (_ : Bool) = _; simp_all; done) | (exfalso; omega) | refine aRegion_auto (by decide +kernel) ?_ | refine ⟨_, _, REnt.drop ⟨rfl, rfl⟩, ?_⟩ | fail))
  refine acall_conv [.dat RasT, .dat RasT] _ _ _ rfl trivial (acall_frame0 rfl (alike_any E a b ha hb _ (fun hp => ?_) (fun e h1 h2 => ?_)))
  · (repeat' (first | exact trivial | exact fun h => h | refine And.intro ?_ ?_ | (intro hb; first | (simp at hb; done) | (simp at hb) | skip) | omega | exact rfl | exact Nat.le_refl _ | (show _ + 1 ≤ 4294967296; omega) | (dsimp only; omega) | (show (_ : Int) ≤ (_ : Int); omega) | (show _ < List.length _; simp only [List.length_set, List.length_append, List.length_take]; omega) | (show wantB _ _ = true; simp; done) | (show wantB _ _ = true; simp; omega) | (show (_ : Bool) = _; simp_all; done) | (exfalso; omega) | refine aRegion_auto (by decide +kernel) ?_ | refine ⟨_, _, REnt.drop ⟨rfl, rfl⟩, ?_⟩ | fail))
    obtain ⟨hpa, hpb, hw, hh⟩ := perr_ok hp
    obtain ⟨⟨hW1, hH1, hW2, hH2, hlen⟩, hbig⟩ := rerr_ok hpa
    obtain ⟨⟨_, _, _, _, hlen'⟩, hbig'⟩ := rerr_ok hpb
    have hn : a.2.2.length ≤ 16384 := by
      have := mul_bd (a := a.1) (b := a.2.1) (A := 128) (B := 128) (by omega) (by omega) (by omega) (by omega); omega
    have hll : b.2.2.length = a.2.2.length := by rw [← hw, ← hh] at hlen'; omega
    let bx : AO := .box [.fz int a.1, .fz int a.2.1, .fz (.list int) a.2.2]
    let by_ : AO := .box [.fz int b.1, .fz int b.2.1, .fz (.list int) b.2.2]
    let bz : AO := .box [.fz int 0, .fz int 0, .nilSl]
    let rw_ : AO := .row int (List.replicate a.2.2.length 0)
    let bo : AO := .box [.fz int a.1, .fz int a.2.1, .ref 4 0 a.2.2.length]
    refine aRegion_open 1 (by decide +kernel) ?_
    (repeat' (first | exact trivial | exact fun h => h | refine And.intro ?_ ?_ | (intro hb; first | (simp at hb; done) | (simp at hb) | skip) | omega | exact rfl | exact Nat.le_refl _ | (show _ + 1 ≤ 4294967296; omega) | (dsimp only; omega) | (show (_ : Int) ≤ (_ : Int); omega) | (show _ < List.length _; simp only [List.length_set, List.length_append, List.length_take]; omega) | (show wantB _ _ = true; simp; done) | (show wantB _ _ = true; simp; omega) | (show (_ : Bool) = _; simp_all; done) | (exfalso; omega) | refine aRegion_auto (by decide +kernel) ?_ | fail))
    refine eff_is (.ref 4 0 a.2.2.length) [bx, by_, bz, .room, rw_] ?_
    (repeat' (first | exact trivial | exact fun h => h | refine And.intro ?_ ?_ | (intro hb; first | (simp at hb; done) | (simp at hb) | skip) | omega | exact rfl | exact Nat.le_refl _ | (show _ + 1 ≤ 4294967296; omega) | (dsimp only; omega) | (show (_ : Int) ≤ (_ : Int); omega) | (show _ < List.length _; simp only [List.length_set, List.length_append, List.length_take]; omega) | (show wantB _ _ = true; simp; done) | (show wantB _ _ = true; simp; omega) | (show (_ : Bool) = _; simp_all; done) | (exfalso; omega) | refine aRegion_auto (by decide +kernel) ?_ | fail))
    refine eff_is (.ptr 3 0) [bx, by_, bz, bz, rw_] ?_
    refine eff_is .unk [bx, by_, bz, bo, rw_] ?_
    refine ⟨[(0, [bx, by_, bz, .room]), (128, [bx, by_, bz, .room, rw_]), (512, [bx, by_, bz, bz]), (640, [bx, by_, bz, bz, rw_]), (1664, [bx, by_, bz, bo, rw_])], rfl, rfl, ?_, ?_⟩
    · (repeat' (first | refine And.intro ?_ ?_ | exact trivial | exact rfl | omega))
      · refine view_of [0, 1, 2, 3, 4] rfl ?_ rfl rfl
        (repeat' (first | exact trivial | exact rfl | refine And.intro ?_ ?_))
      · refine view_of [0, 1, 2, 4] rfl ?_ rfl rfl
        (repeat' (first | exact trivial | exact rfl | refine And.intro ?_ ?_))
      · refine view_of [0, 1, 2, 5, 4] rfl ?_ rfl rfl
        (repeat' (first | exact trivial | exact rfl | refine And.intro ?_ ?_))
      · refine view_of [0, 1, 2, 3, 4] rfl ?_ rfl rfl
        (repeat' (first | exact trivial | exact rfl | refine And.intro ?_ ?_))
      · refine view_of [0, 1, 2, 3, 4] rfl ?_ rfl rfl
        (repeat' (first | exact trivial | exact rfl | refine And.intro ?_ ?_))
    (repeat' (first | exact trivial | exact fun h => h | refine And.intro ?_ ?_ | (intro hb; first | (simp at hb; done) | (simp at hb) | skip) | omega | exact rfl | exact Nat.le_refl _ | (show _ + 1 ≤ 4294967296; omega) | (dsimp only; omega) | (show (_ : Int) ≤ (_ : Int); omega) | (show _ < List.length _; simp only [List.length_set, List.length_append, List.length_take]; omega) | (show wantB _ _ = true; simp; done) | (show wantB _ _ = true; simp; omega) | (show (_ : Bool) = _; simp_all; done) | (exfalso; omega) | refine aRegion_auto (by decide +kernel) ?_ | fail))
    refine ⟨Nat, fun k => ⟨[(2, .fz (.int .u8) how), (3, .ptr 0 0), (4, .ptr 1 0), (6, .ptr 2 0), (7, .fz .raw .nilIface), (9, .ptr 3 0), (30, .fz (.list int) a.2.2), (31, .fz int a.2.2.length), (32, .fz int k)], [bx, by_, bz, bo, .row int (outL (twoF a b how) a.2.2.length k)]⟩, fun k => k ≤ a.2.2.length ∧ (known how = false → k = 0), fun k => a.2.2.length - k, 0, ⟨Nat.zero_le _, fun _ => rfl⟩, Ent.sub (by rw [← outL_zero]) ⟨rfl, rfl, rfl, rfl, rfl, rfl, rfl, rfl, rfl⟩, ?_⟩
    intro k ⟨hk, hkn⟩
    have hol := outL_len (twoF a b how) a.2.2.length k
    have hka := getD_big hbig (Int.toNat (k : Int))
    have hkb := getD_big hbig' (Int.toNat (k : Int))
    have hkn' : known how = true → (known how = false → k + 1 = 0) := fun h h' => by rw [h] at h'; cases h'
    have nxt : ∀ v : Int, v = twoF a b how k → ([bx, by_, bz, bo, AO.row int (List.set (outL (twoF a b how) a.2.2.length k) (0 + k) v)] : List AO) = [bx, by_, bz, bo, AO.row int (outL (twoF a b how) a.2.2.length (k + 1))] := fun v h => by rw [outL_step _ _ _ _ _ _ h]
    (repeat' (first | exact trivial | exact fun h => h | refine And.intro ?_ ?_ | (intro hb; first | (simp at hb; done) | (simp at hb) | skip) | omega | exact rfl | exact Nat.le_refl _ | (show _ + 1 ≤ 4294967296; omega) | (dsimp only; omega) | (show (_ : Int) ≤ (_ : Int); omega) | (show _ < List.length _; simp only [List.length_set, List.length_append, List.length_take]; omega) | (show wantB _ _ = true; simp; done) | (show wantB _ _ = true; simp; omega) | (show (_ : Bool) = _; simp_all; done) | (exfalso; omega) | refine aRegion_auto (by decide +kernel) ?_ | fail))
    · refine ⟨k + 1, ⟨by omega, hkn' (by simp [known, hb])⟩, by show _ - _ < _ - _; omega, Ent.sub (nxt _ (by unfold twoF opTwo; rw [if_pos hb]; rfl)) ?_⟩
      (repeat' (first | exact trivial | exact rfl | refine And.intro ?_ ?_))
    · refine ⟨k + 1, ⟨by omega, hkn' (by simp [known, hb])⟩, by show _ - _ < _ - _; omega, Ent.sub (nxt _ (by unfold twoF opTwo; rw [if_neg (by omega), if_pos hb]; rfl)) ?_⟩
      (repeat' (first | exact trivial | exact rfl | refine And.intro ?_ ?_))
    · refine ⟨k + 1, ⟨by omega, hkn' (by simp [known, hb])⟩, by show _ - _ < _ - _; omega, Ent.sub (nxt _ (by unfold twoF opTwo; rw [if_neg (by omega), if_neg (by omega), if_pos hb]; rfl)) ?_⟩
      (repeat' (first | exact trivial | exact rfl | refine And.intro ?_ ?_))
    · refine ⟨k + 1, ⟨by omega, hkn' (by simp [known, hb])⟩, by show _ - _ < _ - _; omega, Ent.sub (nxt _ (by unfold twoF opTwo; rw [if_neg (by omega), if_neg (by omega), if_neg (by omega)]; rfl)) ?_⟩
      (repeat' (first | exact trivial | exact rfl | refine And.intro ?_ ?_))
    · (apply exEff; focus (repeat' (first | exact ⟨rfl, rfl⟩ | exact trivial | refine And.intro ?_ ?_ | omega | exact Nat.le_refl _ | (show _ + 1 ≤ 4294967296; omega))))
      (repeat' (first | exact trivial | exact fun h => h | refine And.intro ?_ ?_ | (intro hb; first | (simp at hb; done) | (simp at hb) | skip) | omega | exact rfl | exact Nat.le_refl _ | (show _ + 1 ≤ 4294967296; omega) | (dsimp only; omega) | (show (_ : Int) ≤ (_ : Int); omega) | (show _ < List.length _; simp only [List.length_set, List.length_append, List.length_take]; omega) | (show wantB _ _ = true; simp; done) | (show wantB _ _ = true; simp; omega) | (show (_ : Bool) = _; simp_all; done) | (exfalso; omega) | refine aRegion_auto (by decide +kernel) ?_ | fail))
      refine ⟨_, _, (REnt.conv [.dat RasT, .keep] _ rfl trivial).trans (REnt.drop ⟨rfl, rfl⟩), ?_⟩
      have hkf : known how = false := by simp [known]; omega
      exact he 3 (by unfold berr; rw [if_neg (by omega), if_pos hkf]) (by decide)
    · have hk2 : k = a.2.2.length := by omega
      subst hk2
      have hpos := Int.mul_pos (a := a.1) (b := a.2.1) (by omega) (by omega)
      have hkt : ¬ known how = false := fun h => by have := hkn h; omega
      refine acall_lend [.dat RasT] _ _ _ rfl ?_ rfl ?_
      · (repeat' (first | exact trivial | refine And.intro ?_ ?_ | (show _ ≤ _; omega) | (show _ ≤ _; simp; done)))
      refine acall_arg (valid_err E (bothR a b how) (by show (outL _ _ _).length ≤ _; omega) _ (fun h => ?_) (fun e h1 h2 => ?_)) ?_
      · refine And.intro rfl ?_
        (repeat' (first | exact trivial | exact fun h => h | refine And.intro ?_ ?_ | (intro hb; first | (simp at hb; done) | (simp at hb) | skip) | omega | exact rfl | exact Nat.le_refl _ | (show _ + 1 ≤ 4294967296; omega) | (dsimp only; omega) | (show (_ : Int) ≤ (_ : Int); omega) | (show _ < List.length _; simp only [List.length_set, List.length_append, List.length_take]; omega) | (show wantB _ _ = true; simp; done) | (show wantB _ _ = true; simp; omega) | (show (_ : Bool) = _; simp_all; done) | (exfalso; omega) | refine aRegion_auto (by decide +kernel) ?_ | fail))
        refine ⟨_, _, (REnt.conv [.dat RasT, .keep] _ rfl ?_).trans (REnt.drop ⟨rfl, rfl⟩), ?_⟩
        · (repeat' (first | exact trivial | refine And.intro ?_ ?_ | (show _ ≤ _; omega) | (show _ ≤ _; simp; done)))
        have e1 : List.take a.2.2.length (outL (twoF a b how) a.2.2.length a.2.2.length) = outL (twoF a b how) a.2.2.length a.2.2.length := List.take_of_length_le (by omega)
        exact (congrArg (fun l => K (.tup [.fz RasT (a.1, a.2.1, l), .fz .raw .nilIface]) []) e1).mpr (h0 (by unfold berr; rw [if_neg (by omega), if_neg hkt, if_neg (by omega)]))
      · refine And.intro rfl ?_
        (repeat' (first | exact trivial | exact fun h => h | refine And.intro ?_ ?_ | (intro hb; first | (simp at hb; done) | (simp at hb) | skip) | omega | exact rfl | exact Nat.le_refl _ | (show _ + 1 ≤ 4294967296; omega) | (dsimp only; omega) | (show (_ : Int) ≤ (_ : Int); omega) | (show _ < List.length _; simp only [List.length_set, List.length_append, List.length_take]; omega) | (show wantB _ _ = true; simp; done) | (show wantB _ _ = true; simp; omega) | (show (_ : Bool) = _; simp_all; done) | (exfalso; omega) | refine aRegion_auto (by decide +kernel) ?_ | fail))
        (apply exEff; focus (repeat' (first | exact ⟨rfl, rfl⟩ | exact trivial | refine And.intro ?_ ?_ | omega | exact Nat.le_refl _ | (show _ + 1 ≤ 4294967296; omega))))
        (repeat' (first | exact trivial | exact fun h => h | refine And.intro ?_ ?_ | (intro hb; first | (simp at hb; done) | (simp at hb) | skip) | omega | exact rfl | exact Nat.le_refl _ | (show _ + 1 ≤ 4294967296; omega) | (dsimp only; omega) | (show (_ : Int) ≤ (_ : Int); omega) | (show _ < List.length _; simp only [List.length_set, List.length_append, List.length_take]; omega) | (show wantB _ _ = true; simp; done) | (show wantB _ _ = true; simp; omega) | (show (_ : Bool) = _; simp_all; done) | (exfalso; omega) | refine aRegion_auto (by decide +kernel) ?_ | fail))
        refine ⟨_, _, (REnt.conv [.dat RasT, .keep] _ rfl trivial).trans (REnt.drop ⟨rfl, rfl⟩), ?_⟩
        exact he 4 (by unfold berr; rw [if_neg (by omega), if_neg hkt, if_pos (by omega)]) (by decide)
      · have e1 : outL (twoF a b how) a.2.2.length a.2.2.length = List.take a.2.2.length (outL (twoF a b how) a.2.2.length a.2.2.length) := (List.take_of_length_le (by omega)).symm
        exact congrArg (fun l => [AV.fz RasT (a.1, a.2.1, l)]) e1
  · (repeat' (first | exact trivial | exact fun h => h | refine And.intro ?_ ?_ | (intro hb; first | (simp at hb; done) | (simp at hb) | skip) | omega | exact rfl | exact Nat.le_refl _ | (show _ + 1 ≤ 4294967296; omega) | (dsimp only; omega) | (show (_ : Int) ≤ (_ : Int); omega) | (show _ < List.length _; simp only [List.length_set, List.length_append, List.length_take]; omega) | (show wantB _ _ = true; simp; done) | (show wantB _ _ = true; simp; omega) | (show (_ : Bool) = _; simp_all; done) | (exfalso; omega) | refine aRegion_auto (by decide +kernel) ?_ | fail))
    refine ⟨_, _, (REnt.conv [.dat RasT, .keep] _ rfl trivial).trans (REnt.drop ⟨rfl, rfl⟩), ?_⟩
    exact he e (by unfold berr; rw [if_pos (by omega)]; exact h1) h2
end Go.Proofs.YtgjjooophigkoaaGreatDoor
/-
  The first look of each law; small rasters.
-/
namespace Go.Proofs.YtgjjooophigkoaaGreatDoor
open Go Go.Ab
set_option maxRecDepth 100000
theorem rasters_any (E : Errs) (K : AV → List AO → Prop) (hK : K (.fz .bool true) []) : ACall Tryz.prog (GE E) 6 [] [] K := by
  refine acall_mk (E := envCut (GE E) 19 0 [2]) (envCutOk _ _ _ _) Tryz.func6 rfl rfl rfl rfl rfl ?_
  (repeat' (first | exact trivial | exact fun h => h | refine And.intro ?_ ?_ | (intro hb; first | (simp at hb; done) | (simp at hb) | skip) | omega | exact rfl | exact Nat.le_refl _ | (show _ + 1 ≤ 4294967296; omega) | (dsimp only; omega) | (show (_ : Int) ≤ (_ : Int); omega) | (show _ < List.length _; simp only [List.length_set, List.length_append, List.length_take]; omega) | (show wantB _ _ = true; simp; done) | (show wantB _ _ = true; simp; omega) | (show (_ : Bool) = _; simp_all; done) | (exfalso; omega) | refine aRegion_auto (by decide +kernel) ?_ | fail))
  refine ⟨_, _, Ent.datBox 1 rfl rfl ?_ rfl, ?_⟩
  · (repeat' (first | exact trivial | refine And.intro ?_ ?_ | (show _ ≤ _; omega) | (show _ ≤ _; simp; done)))
  (repeat' (first | exact trivial | exact fun h => h | refine And.intro ?_ ?_ | (intro hb; first | (simp at hb; done) | (simp at hb) | skip) | omega | exact rfl | exact Nat.le_refl _ | (show _ + 1 ≤ 4294967296; omega) | (dsimp only; omega) | (show (_ : Int) ≤ (_ : Int); omega) | (show _ < List.length _; simp only [List.length_set, List.length_append, List.length_take]; omega) | (show wantB _ _ = true; simp; done) | (show wantB _ _ = true; simp; omega) | (show (_ : Bool) = _; simp_all; done) | (exfalso; omega) | refine aRegion_auto (by decide +kernel) ?_ | fail))
  refine acall_conv [.dat RasT, .dat RasT, .keep] _ _ _ rfl trivial (acall_frame0 rfl (both_any E (1, 1, [3]) (1, 1, [3]) 43 (by decide) (by decide) _ (fun _ => ?_) (fun e h1 h2 => ?_)))
  · (repeat' (first | exact trivial | exact fun h => h | refine And.intro ?_ ?_ | (intro hb; first | (simp at hb; done) | (simp at hb) | skip) | omega | exact rfl | exact Nat.le_refl _ | (show _ + 1 ≤ 4294967296; omega) | (dsimp only; omega) | (show (_ : Int) ≤ (_ : Int); omega) | (show _ < List.length _; simp only [List.length_set, List.length_append, List.length_take]; omega) | (show wantB _ _ = true; simp; done) | (show wantB _ _ = true; simp; omega) | (show (_ : Bool) = _; simp_all; done) | (exfalso; omega) | refine aRegion_auto (by decide +kernel) ?_ | refine ⟨_, _, REnt.drop ⟨rfl, rfl⟩, ?_⟩ | fail))
    refine acall_lend [.dat RasT, .keep, .keep, .dat (.list int)] _ _ _ rfl ?_ rfl ?_
    · (repeat' (first | exact trivial | refine And.intro ?_ ?_ | (show _ ≤ _; omega) | (show _ ≤ _; simp; done)))
    refine acall_arg (is_any _ (1, 1, [6]) 1 1 [6] (by decide) _ ?_) rfl
    refine And.intro rfl ?_
    (repeat' (first | exact trivial | exact fun h => h | refine And.intro ?_ ?_ | (intro hb; first | (simp at hb; done) | (simp at hb) | skip) | omega | exact rfl | exact Nat.le_refl _ | (show _ + 1 ≤ 4294967296; omega) | (dsimp only; omega) | (show (_ : Int) ≤ (_ : Int); omega) | (show _ < List.length _; simp only [List.length_set, List.length_append, List.length_take]; omega) | (show wantB _ _ = true; simp; done) | (show wantB _ _ = true; simp; omega) | (show (_ : Bool) = _; simp_all; done) | (exfalso; omega) | refine aRegion_auto (by decide +kernel) ?_ | refine ⟨_, _, REnt.drop ⟨rfl, rfl⟩, ?_⟩ | fail))
    exact hK
  · have : berr (1, 1, [3]) (1, 1, [3]) 43 = 0 := by decide +kernel
    omega
/-- is there a raster of no more than 200 heights? -/
theorem small_any (G : List (Nat × Value)) (a : Ras) (K : AV → List AO → Prop) (hK : K (.fz .bool (decide (a.2.2.length ≤ 200))) []) : ACall Tryz.prog G 7 [.fptr RasT a] [] K := by
  refine acall_mk (E := envAt G 13 0) (envOk _ _ _) Tryz.func7 rfl rfl rfl rfl rfl ?_
  (repeat' (first | exact trivial | exact fun h => h | refine And.intro ?_ ?_ | (intro hb; first | (simp at hb; done) | (simp at hb) | skip) | omega | exact rfl | exact Nat.le_refl _ | (show _ + 1 ≤ 4294967296; omega) | (dsimp only; omega) | (show (_ : Int) ≤ (_ : Int); omega) | (show _ < List.length _; simp only [List.length_set, List.length_append, List.length_take]; omega) | (show wantB _ _ = true; simp; done) | (show wantB _ _ = true; simp; omega) | (show (_ : Bool) = _; simp_all; done) | (exfalso; omega) | refine aRegion_auto (by decide +kernel) ?_ | refine ⟨_, _, REnt.drop ⟨rfl, rfl⟩, ?_⟩ | fail))
  exact kb hK (by simp; omega)
theorem small_nil (G : List (Nat × Value)) (K : AV → List AO → Prop) (hK : K (.fz .bool false) []) : ACall Tryz.prog G 7 [.fz .raw (.pointer none)] [] K := by
  refine acall_mk (E := envAt G 13 0) (envOk _ _ _) Tryz.func7 rfl rfl rfl rfl rfl ?_
  (repeat' (first | exact trivial | exact fun h => h | refine And.intro ?_ ?_ | (intro hb; first | (simp at hb; done) | (simp at hb) | skip) | omega | exact rfl | exact Nat.le_refl _ | (show _ + 1 ≤ 4294967296; omega) | (dsimp only; omega) | (show (_ : Int) ≤ (_ : Int); omega) | (show _ < List.length _; simp only [List.length_set, List.length_append, List.length_take]; omega) | (show wantB _ _ = true; simp; done) | (show wantB _ _ = true; simp; omega) | (show (_ : Bool) = _; simp_all; done) | (exfalso; omega) | refine aRegion_auto (by decide +kernel) ?_ | refine ⟨_, _, REnt.drop ⟨rfl, rfl⟩, ?_⟩ | fail))
  exact hK
end Go.Proofs.YtgjjooophigkoaaGreatDoor
/-
  A raster's text, as a contract.
-/
namespace Go.Proofs.YtgjjooophigkoaaGreatDoor
open Go Go.Ab Go.RowKit Go.Proofs.YtgjjooophigkoaaGreatDoor.Tx
set_option maxRecDepth 100000
theorem below_of_ext {c c' : Cx} (hA : c.A = []) (E : Ext c c') : Below c.w.heap.size c.w c'.w := by
  have hb : ∀ k, k < c.w.heap.size → c'.w.heap[k]? = c.w.heap[k]? := fun k hk => by
    by_cases hx : c.X k
    · exact E.far k hx
    · refine (E.le.I k ⟨hx, fun t ht => ?_⟩ hk).2
      obtain ⟨o, h1, _⟩ := ht
      rw [hA] at h1; simp at h1
  refine ⟨E.st.os, E.st.tape, E.st.output, ?_, hb⟩
  rcases Nat.lt_or_ge c'.w.heap.size c.w.heap.size with hlt | hge
  · have := hb c'.w.heap.size hlt
    rw [Array.getElem?_eq_none (Nat.le_refl _), Array.getElem?_eq_getElem hlt] at this
    cases this
  · exact hge
/-- a contract without objects of one's own, called in a world that has grown -/
theorem calls_of {P : Program} {G : List (Nat × Value)} {f : FuncId} {args : List AV} {K : AV → List AO → Prop} (h : ACall P G f args [] K) (hB : hasBody P f) {c : Cx} (H : HR c) (hA : c.A = []) (hG : c.G = G) {vs : List Value} (hv : RelL c args vs) {W : World} (hb : Below c.w.heap.size c.w W) :
    Calls P f vs.toArray W fun e w' => ∃ v r c', e = .returned v ∧ Below W.heap.size W w' ∧ Rel c' r v ∧ K r c'.A := by
  obtain ⟨E1, H1⟩ := below_ext H hb
  refine (callsX_body (h.run { c with w := W } H1 hA hG vs (hv.ext E1)) hB).mono fun e w' ⟨v, c', r, h1, h2, h3, h4, h5, h6⟩ => ⟨v, r, c', h1, ?_, h5, h6⟩
  rw [← h2]
  exact below_of_ext (c := { c with w := W }) hA h3
theorem up_ge {E : Errs} {sy ra : Addr} {mx : Int} {f : FuncId} {args : List AV} {A : List AO} {K : AV → List AO → Prop} (h : ACall Tryz.prog (GE E) f args A K) : ACall Tryz.prog (GT E sy ra mx) f args A K := upT (up8 h)
theorem text_ok {E : Errs} {sy ra : Addr} {mx : Int} (a : Ras) (hv : rerr a = 0) (K : AV → List AO → Prop) (hK : K (.tup [.fz .str (bs (txt a)), .fz .raw .nilIface]) []) :
    ACall Tryz.prog (GT E sy ra mx) 12 [.fz RasT a] [] K := by
  refine acall_belowR ⟨_, Tryz.func12, rfl, rfl⟩ (fun c H hA hG vs hr => ?_)
  have hr0 := hr
  obtain ⟨v, r, rfl, h1, h2⟩ := hr
  unfold RelL at h2
  subst h2
  obtain ⟨cs, hf, rfl⟩ := h1
  obtain ⟨l1, r1, rfl, q1, l2, r2, rfl, q2, p, cap, q3, hcap, hall⟩ := hf
  have q1 : l1 = [.int .i64 a.1] := q1
  have q2 : l2 = [.int .i64 a.2.1] := q2
  subst q1 q2 q3
  obtain ⟨⟨hW1, hH1, hW2, hH2, hlen⟩, hbig⟩ := rerr_ok hv
  have hmul := mul_bd (a := a.1) (b := a.2.1) (A := 128) (B := 128) (by omega) (by omega) (by omega) (by omega)
  obtain ⟨et, fr, ht⟩ := (H.glo 9 tab10 (by rw [hG]; rfl)).tab _ rfl
  have hval : ∀ W', Below c.w.heap.size c.w W' → Calls Tryz.prog 42 #[.agg #[.int .i64 a.1, .int .i64 a.2.1, .slice p a.2.2.length cap]] W' fun e w'' => e = .returned .nilIface ∧ Below W'.heap.size W' w'' := fun W' hb => by
    have := calls_of (up_ge (sy := sy) (ra := ra) (mx := mx) (valid_any E a (by omega) (fun r _ => r = .fz .raw .nilIface) (fun _ => rfl) (fun h => by omega) (fun h => by omega) (fun h => by omega))) ⟨_, Tryz.func42, rfl, rfl⟩ H hA hG hr0 hb
    refine this.mono fun e w' ⟨v, r, c', e1, e2, e3, e4⟩ => ⟨?_, e2⟩
    subst e4
    rw [(rel_raw rfl).1 e3] at e1
    exact e1
  refine (txK.text_walk a.1 a.2.1 a.2.2 p cap c.w ⟨hW1, hW2⟩ ⟨hH1, hH2⟩ (by omega) (fun x hx => ?_) (fun i hi => ?_) (tab_is ht) hval).mono fun e w' ⟨e1, e2⟩ => ⟨_, .tup [.fz .str (bs (txt a)), .fz .raw .nilIface], e1, e2, fun _ _ => ?_, hK⟩
  · have := hbig x hx; unfold bigB at this; simp at this; omega
  · obtain ⟨b, o, cs, e1, e2, e3, e4, e5⟩ := hall i hi
    have e4 : cs = [.int .i64 a.2.2[i]] := e4
    subst e4
    have := e5 0 (by simp)
    exact ⟨b, o, e1, e3, by simpa [Ty.size] using this⟩
  · unfold Rel
    refine ⟨[_, _], rfl, ?_⟩
    unfold RelL
    refine ⟨_, _, rfl, rel_str.2 rfl, ?_⟩
    unfold RelL
    refine ⟨_, _, rfl, (rel_raw rfl).2 rfl, ?_⟩
    unfold RelL; rfl
theorem text_bad {E : Errs} {sy ra : Addr} {mx : Int} (a : Ras) (hl : a.2.2.length ≤ 1000000000000) (hv : 0 < rerr a) (K : AV → List AO → Prop) (hK : K (.tup [.fz .str (bs []), .fz .raw (er E (rerr a))]) []) :
    ACall Tryz.prog (GT E sy ra mx) 12 [.fz RasT a] [] K := by
  refine up_ge ?_
  refine acall_mk (E := envAt (GE E) 46 0) (envOk _ _ _) Tryz.func12 rfl rfl rfl rfl rfl ?_
  (repeat' (first | exact trivial | exact fun h => h | refine And.intro ?_ ?_ | (intro hb; first | (simp at hb; done) | (simp at hb) | skip) | omega | exact rfl | exact Nat.le_refl _ | (show _ + 1 ≤ 4294967296; omega) | (dsimp only; omega) | (show (_ : Int) ≤ (_ : Int); omega) | (show _ < List.length _; simp only [List.length_set, List.length_append, List.length_take]; omega) | (show wantB _ _ = true; simp; done) | (show wantB _ _ = true; simp; omega) | (show (_ : Bool) = _; simp_all; done) | (exfalso; omega) | refine aRegion_auto (by decide +kernel) ?_ | refine ⟨_, _, REnt.drop ⟨rfl, rfl⟩, ?_⟩ | fail))
  refine acall_conv [.dat RasT] _ _ _ rfl trivial (acall_frame0 rfl (valid_any E a hl _ (fun h => by omega) (fun h => ?_) (fun h => ?_) (fun h => ?_)))
  all_goals
    rw [h] at hK
    (repeat' (first | exact trivial | exact fun h => h | refine And.intro ?_ ?_ | (intro hb; first | (simp at hb; done) | (simp at hb) | skip) | omega | exact rfl | exact Nat.le_refl _ | (show _ + 1 ≤ 4294967296; omega) | (dsimp only; omega) | (show (_ : Int) ≤ (_ : Int); omega) | (show _ < List.length _; simp only [List.length_set, List.length_append, List.length_take]; omega) | (show wantB _ _ = true; simp; done) | (show wantB _ _ = true; simp; omega) | (show (_ : Bool) = _; simp_all; done) | (exfalso; omega) | refine aRegion_auto (by decide +kernel) ?_ | refine ⟨_, _, REnt.drop ⟨rfl, rfl⟩, ?_⟩ | fail))
    exact hK
end Go.Proofs.YtgjjooophigkoaaGreatDoor
/-
  The document's numbers: Decimal, Number.
-/
namespace Go.Proofs.YtgjjooophigkoaaGreatDoor.txK
open Go Go.RowKit Go.Proofs.YtgjjooophigkoaaGreatDoor.Tx
set_option maxRecDepth 100000
theorem u8_digit {n : Nat} (h : n < 10) : IntKind.u8.wrap (48 + (n : Int)) = 48 + (n : Int) := by
  obtain rfl | rfl | rfl | rfl | rfl | rfl | rfl | rfl | rfl | rfl : n = 0 ∨ n = 1 ∨ n = 2 ∨ n = 3 ∨ n = 4 ∨ n = 5 ∨ n = 6 ∨ n = 7 ∨ n = 8 ∨ n = 9 := by omega
  all_goals rfl
theorem conv1 (W : World) (b : Nat) (d : Nat) (h : d < 10) (hc : W.cell? ⟨b, 0, none⟩ = some (.int .u8 (48 + (d : Int)))) : (convert 98 9 (.slice (some ⟨b, 0, none⟩) 1 1)).run Tryz.prog W = .ok (.string ⟨#[UInt8.ofNat (48 + d)]⟩) W := by
  refine run_convert_bytes_back W 98 9 5 ⟨b, 0, none⟩ 1 [UInt8.ofNat (48 + d)] Tryz.underlying98 Tryz.underlying5 Tryz.underlying9 (fun j hj => ?_)
  obtain rfl : j = 0 := by simpa using hj
  show W.cell? ⟨b, 0, none⟩ = some (.int .u8 (((UInt8.ofNat (48 + d)).toNat : Nat) : Int))
  have e : (UInt8.ofNat (48 + d)).toNat = 48 + d := by simp; omega
  rw [hc, e]; simp
theorem digits_small (N : Nat) : ∀ u, u ≤ N → (Lib.decDigits u).length ≤ u + 1 := by
  induction N with
  | zero => intro u hu; rw [Lib.decDigits, dif_pos (by omega)]; simp
  | succ N ih =>
    intro u hu
    by_cases h : u < 10
    · rw [Lib.decDigits, dif_pos h]; simp
    · rw [Lib.decDigits, dif_neg h]
      have := ih (u / 10) (by omega)
      simp; omega
set_option maxHeartbeats 4000000 in
theorem decimal_walk (N : Nat) : ∀ (n : Nat), n ≤ N → n ≤ 4611686018427387904 → ∀ w : World, Calls Tryz.prog 48 #[.int .i64 (n : Int)] w fun e w' => e = .returned (.string ⟨(Lib.decDigits n).toArray⟩) ∧ Below w.heap.size w w' := by
  induction N using Nat.strongRecOn with
  | ind N ih' =>
    intro n hn hm w
    have ih : ∀ (k : Nat), k < N → k ≤ 4611686018427387904 → ∀ w : World, Calls Tryz.prog 48 #[.int .i64 (k : Int)] w fun e w' => e = .returned (.string ⟨(Lib.decDigits k).toArray⟩) ∧ Below w.heap.size w w' := fun k hk => ih' k hk k (Nat.le_refl _)
    clear ih'
    by_cases h : n < 10
    · have h1 : (n : Int) < 10 := by omega
      have hu : IntKind.u8.wrap (48 + (n : Int)) = 48 + (n : Int) := u8_digit h
      have hc := fun W : World => conv1 (W.alloc (.cells #[.int .u8 (48 + (n : Int))] 5)) W.heap.size n h (by rw [World.cell?_alloc_at _ _ _ _ rfl]; rfl)
      go_enter Tryz.func48, Tryz.ntmps48
      go_wp2
      go_ret
      refine ⟨?_, (Below.refl _ _).alloc (Nat.le_refl _) _⟩
      rw [Lib.decDigits, dif_pos h]
      simp
    · have h1 : ¬ (n : Int) < 10 := by omega
      have hq : ((n / 10 : Nat) : Int) = (n : Int) / 10 := by omega
      have hr : ((n % 10 : Nat) : Int) = (n : Int) % 10 := by omega
      have ih' : ∀ w, Calls Tryz.prog 48 #[.int .i64 ((n : Int) / 10)] w fun e w' => e = .returned (.string ⟨(Lib.decDigits (n / 10)).toArray⟩) ∧ Below w.heap.size w w' := fun w => by
        have := ih (n / 10) (by omega) (by omega) w
        rw [hq] at this; exact this
      have hu : IntKind.u8.wrap (48 + (n : Int) % 10) = 48 + (n : Int) % 10 := by rw [← hr]; exact u8_digit (Nat.mod_lt _ (by omega))
      have hc0 : ∀ W b, W.cell? ⟨b, 0, none⟩ = some (.int .u8 (48 + (n : Int) % 10)) → (convert 98 9 (.slice (some ⟨b, 0, none⟩) 1 1)).run Tryz.prog W = .ok (.string ⟨#[UInt8.ofNat (48 + n % 10)]⟩) W := fun W b hh => conv1 W b (n % 10) (Nat.mod_lt _ (by omega)) (by rw [hr]; exact hh)
      have hc := fun W : World => hc0 (W.alloc (.cells #[.int .u8 (48 + (n : Int) % 10)] 5)) W.heap.size (by rw [World.cell?_alloc_at _ _ _ _ rfl]; rfl)
      have hwr : IntKind.i64.wrap ((n : Int) / 10) = (n : Int) / 10 := Ab.I64.wrap ⟨by omega, by omega⟩
      have htm : (n : Int).tmod 10 = (n : Int) % 10 := Int.tmod_eq_emod_of_nonneg (by omega)
      have hwr2 : IntKind.i64.wrap (48 + (n : Int) % 10) = 48 + (n : Int) % 10 := Ab.I64.wrap ⟨by omega, by omega⟩
      have e1 : ∀ b w, (Op.stringOp .add ⟨(Lib.decDigits (n / 10)).toArray⟩ ⟨#[b]⟩).run Tryz.prog w = .ok (.string (⟨(Lib.decDigits (n / 10)).toArray⟩ ++ ⟨#[b]⟩)) w := fun b w => by
        have := digits_small _ (n / 10) (Nat.le_refl _)
        refine run_string_add_sum w _ _ ?_
        show (Lib.decDigits (n / 10)).toArray.size + 1 ≤ _
        simp only [List.size_toArray]
        omega
      have hstr : ((⟨(Lib.decDigits (n / 10)).toArray⟩ ++ ⟨#[48 + UInt8.ofNat (n % 10)]⟩ : ByteArray)) = ⟨(Lib.decDigits n).toArray⟩ := by
        conv => rhs; rw [Lib.decDigits, dif_neg h]
        simp only [UInt8.ofNat_add]
        exact ByteArray.mk_append_mk _ [48 + UInt8.ofNat (n % 10)]
      clear hq hr
      go_enter Tryz.func48, Tryz.ntmps48
      go_wp2
      go_region_with (go_at_call 48; refine (ih' _).mono ?_; rintro e w2 ⟨rfl, hb2⟩; first | (have hx := hc0 w2 w.heap.size (by rw [Ab.cell_heap (hb2.block w.heap.size (by simp))]; show (w.alloc (.cells #[.int .u8 (48 + (n : Int) % 10)] 5)).cell? _ = _; rw [World.cell?_alloc_at _ _ _ _ rfl]; rfl)) | skip)
      all_goals
        go_wp2
        go_ret
        refine ⟨?_, ?_⟩
        · rfl
        · first
            | exact ((below_like w hb2 ⟨rfl, rfl, rfl, rfl⟩)).alloc hb2.size _
            | exact ((Below.refl _ w).alloc (Nat.le_refl _) _).trans ((below_like (w.alloc (.cells #[.int .u8 (48 + (n : Int) % 10)] 5)) hb2 ⟨rfl, rfl, rfl, rfl⟩).mono (by simp))
end Go.Proofs.YtgjjooophigkoaaGreatDoor.txK
namespace Go.Proofs.YtgjjooophigkoaaGreatDoor
open Go Go.Ab Go.RowKit Go.Proofs.YtgjjooophigkoaaGreatDoor.Tx
theorem decimal_any (G : List (Nat × Value)) (n : Nat) (hn : n ≤ 4611686018427387904) (K : AV → List AO → Prop) (hK : K (.fz .str (bs (Lib.decDigits n))) []) :
    ACall Tryz.prog G 48 [.fz int (n : Int)] [] K := by
  refine acall_belowR ⟨_, Tryz.func48, rfl, rfl⟩ (fun c H hA hG vs hv => ?_)
  obtain ⟨v, r, rfl, h1, h2⟩ := hv
  unfold RelL at h2
  subst h2
  obtain rfl := rel_int.1 h1
  exact (txK.decimal_walk _ n (Nat.le_refl _) hn c.w).mono fun e w' ⟨e1, e2⟩ => ⟨_, .fz .str (bs (Lib.decDigits n)), e1, e2, fun _ _ => rel_str.2 rfl, hK⟩
theorem number_any (G : List (Nat × Value)) (n : Int) (hn : -4611686018427387904 ≤ n ∧ n ≤ 4611686018427387904) (K : AV → List AO → Prop) (hK : K (.fz .str (bs (Lib.itoa n))) []) :
    ACall Tryz.prog G 49 [.fz int n] [] K := by
  refine acall_mk (E := envAt G 11 0) (envOk _ _ _) Tryz.func49 rfl rfl rfl rfl rfl ?_
  (repeat' (first | exact trivial | exact fun h => h | refine And.intro ?_ ?_ | (intro hb; first | (simp at hb; done) | (simp at hb) | skip) | omega | exact rfl | exact Nat.le_refl _ | (show _ + 1 ≤ 4294967296; omega) | (dsimp only; omega) | (show (_ : Int) ≤ (_ : Int); omega) | (show _ < List.length _; simp only [List.length_set, List.length_append, List.length_take]; omega) | (show wantB _ _ = true; simp; done) | (show wantB _ _ = true; simp; omega) | (show (_ : Bool) = _; simp_all; done) | (exfalso; omega) | refine aRegion_auto (by decide +kernel) ?_ | refine ⟨_, _, REnt.drop ⟨rfl, rfl⟩, ?_⟩ | fail))
  · refine acall_frame0 rfl (acall_arg (decimal_any G n.natAbs (by omega) _ ?_) (congrArg (fun x => [AV.fz int x]) (show ((n.natAbs : Nat) : Int) = 0 - n by omega)))
    (repeat' (first | exact trivial | exact fun h => h | refine And.intro ?_ ?_ | (intro hb; first | (simp at hb; done) | (simp at hb) | skip) | omega | exact rfl | exact Nat.le_refl _ | (show _ + 1 ≤ 4294967296; omega) | (dsimp only; omega) | (show (_ : Int) ≤ (_ : Int); omega) | (show _ < List.length _; simp only [List.length_set, List.length_append, List.length_take]; omega) | (show wantB _ _ = true; simp; done) | (show wantB _ _ = true; simp; omega) | (show (_ : Bool) = _; simp_all; done) | (exfalso; omega) | refine aRegion_auto (by decide +kernel) ?_ | refine ⟨_, _, REnt.drop ⟨rfl, rfl⟩, ?_⟩ | fail))
    · have := txK.digits_small _ n.natAbs (Nat.le_refl _)
      show ((1 + (Lib.decDigits n.natAbs).toArray.size : Nat) : Int) ≤ 9223372036854775807
      simp only [List.size_toArray]
      omega
    · have e : (⟨#[45]⟩ : ByteArray) ++ bs (Lib.decDigits n.natAbs) = bs (Lib.itoa n) := by
        unfold bs Lib.itoa
        rw [if_pos hb]
        exact ByteArray.mk_append_mk [45] _
      rw [← e] at hK
      exact hK
  · refine acall_frame0 rfl (acall_arg (decimal_any G n.natAbs (by omega) _ ?_) (congrArg (fun x => [AV.fz int x]) (show ((n.natAbs : Nat) : Int) = n by omega)))
    (repeat' (first | exact trivial | exact fun h => h | refine And.intro ?_ ?_ | (intro hb; first | (simp at hb; done) | (simp at hb) | skip) | omega | exact rfl | exact Nat.le_refl _ | (show _ + 1 ≤ 4294967296; omega) | (dsimp only; omega) | (show (_ : Int) ≤ (_ : Int); omega) | (show _ < List.length _; simp only [List.length_set, List.length_append, List.length_take]; omega) | (show wantB _ _ = true; simp; done) | (show wantB _ _ = true; simp; omega) | (show (_ : Bool) = _; simp_all; done) | (exfalso; omega) | refine aRegion_auto (by decide +kernel) ?_ | refine ⟨_, _, REnt.drop ⟨rfl, rfl⟩, ?_⟩ | fail))
    have e : Lib.decDigits n.natAbs = Lib.itoa n := by
      unfold Lib.itoa
      rw [if_neg (by omega)]
      congr 1; omega
    rw [← e] at hK
    exact hK
end Go.Proofs.YtgjjooophigkoaaGreatDoor
/-
  The document's words.
-/
namespace Go.Proofs.YtgjjooophigkoaaGreatDoor
open Go Go.Ab Go.RowKit Go.Proofs.YtgjjooophigkoaaGreatDoor.Tx
set_option maxRecDepth 100000
abbrev bl (s : ByteArray) : List UInt8 := s.data.toList
theorem bl_len (s : ByteArray) : (bl s).length = ByteArray.size s := rfl
theorem sgn_iff (l : List UInt8) : sgn l = 1 ↔ (0 < l.length ∧ (((l.getD 0 0).toNat : Nat) : Int) = 45) := by
  unfold sgn
  cases l with
  | nil => simp
  | cons b l =>
    simp only [List.head?_cons, Option.some.injEq, List.length_cons, List.getD_cons_zero]
    constructor
    · intro h
      split at h
      · rename_i e; subst e; exact ⟨by omega, rfl⟩
      · omega
    · intro ⟨_, h⟩
      rw [if_pos]
      exact UInt8.toNat_inj.1 (by simp; omega)
theorem sgn_01 (l : List UInt8) : sgn l = 1 ∨ sgn l = 0 := by unfold sgn; split <;> simp
theorem sub48 {b : UInt8} (h1 : 48 ≤ b.toNat) (h2 : b.toNat ≤ 57) : IntKind.u8.wrap ((b.toNat : Int) - 48) = ((b.toNat - 48 : Nat) : Int) := by
  obtain ⟨n, hn⟩ : ∃ n, b.toNat = n + 48 := ⟨b.toNat - 48, by omega⟩
  rw [hn]
  obtain rfl | rfl | rfl | rfl | rfl | rfl | rfl | rfl | rfl | rfl : n = 0 ∨ n = 1 ∨ n = 2 ∨ n = 3 ∨ n = 4 ∨ n = 5 ∨ n = 6 ∨ n = 7 ∨ n = 8 ∨ n = 9 := by omega
  all_goals rfl
theorem u8_to_int (n : Nat) (h : n ≤ 9) : IntKind.i64.wrap (n : Int) = (n : Int) := I64.wrap ⟨by omega, by omega⟩
theorem str_eq (l : List UInt8) (w : ByteArray) : ((bs l).toList == w.toList) = decide (l = bl w) := by
  rw [ByteArray.toList_eq, ByteArray.toList_eq, bs_list, Bool.eq_iff_iff, beq_iff_eq, decide_eq_true_iff]
theorem dec_step {l : List UInt8} {i k m : Nat} (hi : i ≤ k) (hk : k < l.length) (h : Lib.decFrom 0 ((l.drop i).take (k - i)) = some m) (h1 : 48 ≤ (l.getD k 0).toNat) (h2 : (l.getD k 0).toNat ≤ 57) :
    Lib.decFrom 0 ((l.drop i).take (k + 1 - i)) = some (m * 10 + ((l.getD k 0).toNat - 48)) := by
  have hg : (l.drop i)[k - i]? = some (l.getD k 0) := by
    rw [List.getElem?_drop, show i + (k - i) = k by omega]
    simp [List.getD, hk]
  rw [show k + 1 - i = k - i + 1 by omega]
  exact Lib.decFrom_take _ _ _ _ _ _ h hg (by unfold Lib.digitVal; rw [if_pos ⟨h1, h2⟩])
theorem dec_bad {l : List UInt8} {i k : Nat} (hi : i ≤ k) (hk : k < l.length) (hs : sgn l = i) (h : (l.getD k 0).toNat < 48 ∨ 57 < (l.getD k 0).toNat) : numOf l = none := by
  cases hn : numOf l with
  | none => rfl
  | some n =>
    obtain ⟨_, _, h3, _⟩ := num_ref hn
    rw [hs] at h3
    obtain ⟨d, hd⟩ := Lib.digit_of_decFrom _ _ _ h3 (k - i) (l.getD k 0) (by
      rw [List.getElem?_drop, show i + (k - i) = k by omega]
      simp [List.getD, hk])
    have := Lib.digitVal_eq hd
    omega
theorem dec_lt {l : List UInt8} {i k m : Nat} (h : Lib.decFrom 0 ((l.drop i).take (k - i)) = some m) (h9 : k - i ≤ 9) : m < 1000000000 := by
  have hb := Lib.decFrom_lt _ _ _ h
  have h2 : 10 ^ ((l.drop i).take (k - i)).length ≤ 10 ^ 9 := Nat.pow_le_pow_right (by decide) (by rw [List.length_take]; omega)
  have : (10 : Nat) ^ 9 = 1000000000 := by decide
  omega
theorem num_long {l : List UInt8} {i : Nat} (hs : sgn l = i) (h : l.length - i < 1 ∨ 9 < l.length - i) : numOf l = none := by
  cases hn : numOf l with
  | none => rfl
  | some n =>
    obtain ⟨h1, h2, _, _⟩ := num_ref hn
    rw [hs] at h1 h2
    omega
set_option maxHeartbeats 4000000 in
theorem numberOf_any (G : List (Nat × Value)) (w : ByteArray) (hw : ByteArray.size w ≤ 1000000) (K : AV → List AO → Prop) (h1 : ∀ v, numOf (bl w) = some v → K (.tup [.fz int v, .fz .bool true]) []) (h0 : ∀ v, numOf (bl w) = none → K (.tup [.fz int v, .fz .bool false]) []) :
    ACall Tryz.prog G 99 [.fz .str w] [] K := by
  have hl := bl_len w
  have hs := sgn_01 (bl w)
  have hsz := sgn_iff (bl w)
  have hz : sgn (bl w) = 1 ↔ (0 < ByteArray.size w ∧ (((w.data[0]?.getD 0).toNat : Nat) : Int) = 45) := by
    rw [hsz]; simp [List.getD, bl]
  clear hsz
  refine acall_mk (E := envAt G 61 0) (envOk _ _ _) Tryz.func99 rfl rfl rfl rfl rfl ?_
  (repeat' (first | exact trivial | exact fun h => h | refine And.intro ?_ ?_ | (intro hb; first | (simp at hb; done) | (simp at hb) | skip) | omega | exact rfl | exact Nat.le_refl _ | (show _ + 1 ≤ 4294967296; omega) | (dsimp only; omega) | (show (_ : Int) ≤ (_ : Int); omega) | (show _ < List.length _; simp only [List.length_set, List.length_append, List.length_take]; omega) | (show wantB _ _ = true; simp; done) | (show wantB _ _ = true; simp; omega) | (show (_ : Bool) = _; simp_all; done) | (exfalso; omega) | refine aRegion_auto (by decide +kernel) ?_ | fail))
  · have hs : sgn (bl w) = 1 := hz.2 (by assumption)
    refine ⟨_, _, REnt.drop ⟨rfl, rfl⟩, ?_⟩
    exact h0 _ (num_long hs (by rw [bl_len]; omega))
  · have hs : sgn (bl w) = 1 := hz.2 (by assumption)
    refine ⟨Nat × Nat, fun q => ⟨[(0, .fz .str w), (4, .fz int 1), (5, .fz int (q.1 : Int)), (6, .fz int (q.2 : Int))], []⟩, fun q => 1 ≤ q.2 ∧ q.2 ≤ ByteArray.size w ∧ Lib.decFrom 0 (((bl w).drop 1).take (q.2 - 1)) = some q.1, fun q => ByteArray.size w - q.2, (0, 1), ⟨Nat.le_refl _, by show 1 ≤ _; omega, rfl⟩, Ent.sub rfl ?_, ?_⟩
    · (repeat' (first | exact trivial | exact rfl | refine And.intro ?_ ?_))
    intro ⟨m, k⟩ ⟨hk1, hk2, hd⟩
    have hk1 : 1 ≤ k := hk1
    have hk2 : k ≤ ByteArray.size w := hk2
    have hd : Lib.decFrom 0 (((bl w).drop 1).take (k - 1)) = some m := hd
    have hm := dec_lt hd (by omega)
    show awp _ _ _ ⟨[(0, .fz .str w), (4, .fz int 1), (5, .fz int (m : Int)), (6, .fz int (k : Int))], []⟩
    have hg : (ByteArray.data w).toList.getD (Int.toNat (k : Int)) 0 = (bl w).getD k 0 := rfl
    have hg2 : (bl w).getD k 0 = w.data[k]?.getD 0 := by simp [List.getD, bl]
    by_cases hkl : k < ByteArray.size w
    · by_cases hdg : 48 ≤ ((bl w).getD k 0).toNat ∧ ((bl w).getD k 0).toNat ≤ 57
      · have e : IntKind.u8.wrap ((((ByteArray.data w).toList.getD (Int.toNat (k : Int)) 0).toNat : Int) - 48) = ((((bl w).getD k 0).toNat - 48 : Nat) : Int) := sub48 hdg.1 hdg.2
        rw [hg2] at hdg
        have hr : m * 10 + (((bl w).getD k 0).toNat - 48) < 10000000000 := by rw [hg2]; omega
        (repeat' (first | exact trivial | exact fun h => h | refine And.intro ?_ ?_ | (intro hb; first | (simp at hb; done) | (simp at hb) | skip) | omega | exact rfl | exact Nat.le_refl _ | (show _ + 1 ≤ 4294967296; omega) | (dsimp only; omega) | (show (_ : Int) ≤ (_ : Int); omega) | (show _ < List.length _; simp only [List.length_set, List.length_append, List.length_take]; omega) | (show wantB _ _ = true; simp; done) | (show wantB _ _ = true; simp; omega) | (show (_ : Bool) = _; simp_all; done) | (exfalso; omega) | refine aRegion_auto (by decide +kernel) ?_ | fail))
        refine ⟨(m * 10 + (((bl w).getD k 0).toNat - 48), k + 1), ⟨by show 1 ≤ k + 1; omega, by show k + 1 ≤ _; omega, dec_step hk1 (by rw [bl_len]; exact hkl) hd (by rw [hg2]; exact hdg.1) (by rw [hg2]; exact hdg.2)⟩, by show _ - (k + 1) < _ - k; omega, Ent.sub rfl ?_⟩
        (repeat' (first | exact trivial | exact rfl | refine And.intro ?_ ?_))
        · refine congrArg (AV.fz int) ?_
          show (m : Int) * 10 + IntKind.u8.wrap ((((ByteArray.data w).toList.getD (Int.toNat (k : Int)) 0).toNat : Int) - 48) = ((m * 10 + (((bl w).getD k 0).toNat - 48) : Nat) : Int)
          rw [e]; push_cast; rfl
      · have hbad := dec_bad hk1 (by rw [bl_len]; exact hkl) hs (by omega)
        rw [hg2] at hdg
        (repeat' (first | exact trivial | exact fun h => h | refine And.intro ?_ ?_ | (intro hb; first | (simp at hb; done) | (simp at hb) | skip) | omega | exact rfl | exact Nat.le_refl _ | (show _ + 1 ≤ 4294967296; omega) | (dsimp only; omega) | (show (_ : Int) ≤ (_ : Int); omega) | (show _ < List.length _; simp only [List.length_set, List.length_append, List.length_take]; omega) | (show wantB _ _ = true; simp; done) | (show wantB _ _ = true; simp; omega) | (show (_ : Bool) = _; simp_all; done) | (exfalso; omega) | refine aRegion_auto (by decide +kernel) ?_ | fail))
        refine ⟨_, _, REnt.drop ⟨rfl, rfl⟩, ?_⟩
        exact h0 _ hbad
    · obtain rfl : k = ByteArray.size w := by omega
      have hd' : Lib.decFrom 0 ((bl w).drop 1) = some m := by
        rw [← hd, List.take_of_length_le (by rw [List.length_drop, bl_len]; omega)]
      have hif : (if sgn (bl w) = 1 then -(m : Int) else m) = -(m : Int) := by rw [hs]; simp
      (repeat' (first | exact trivial | exact fun h => h | refine And.intro ?_ ?_ | (intro hb; first | (simp at hb; done) | (simp at hb) | skip) | omega | exact rfl | exact Nat.le_refl _ | (show _ + 1 ≤ 4294967296; omega) | (dsimp only; omega) | (show (_ : Int) ≤ (_ : Int); omega) | (show _ < List.length _; simp only [List.length_set, List.length_append, List.length_take]; omega) | (show wantB _ _ = true; simp; done) | (show wantB _ _ = true; simp; omega) | (show (_ : Bool) = _; simp_all; done) | (exfalso; omega) | refine aRegion_auto (by decide +kernel) ?_ | fail))
      refine acall_frame0 rfl (number_any G (0 - (m : Int)) (by omega) _ ?_)
      (repeat' (first | exact trivial | exact fun h => h | refine And.intro ?_ ?_ | (intro hb; first | (simp at hb; done) | (simp at hb) | skip) | omega | exact rfl | exact Nat.le_refl _ | (show _ + 1 ≤ 4294967296; omega) | (dsimp only; omega) | (show (_ : Int) ≤ (_ : Int); omega) | (show _ < List.length _; simp only [List.length_set, List.length_append, List.length_take]; omega) | (show wantB _ _ = true; simp; done) | (show wantB _ _ = true; simp; omega) | (show (_ : Bool) = _; simp_all; done) | (exfalso; omega) | refine aRegion_auto (by decide +kernel) ?_ | fail))
      refine ⟨_, _, REnt.drop ⟨rfl, rfl⟩, ?_⟩
      have ev : (0 - (m : Int)) = (if sgn (bl w) = 1 then -(m : Int) else m) := by rw [hif] <;> omega
      by_cases he : Lib.itoa (0 - (m : Int)) = bl w
      · have hK := h1 (0 - (m : Int)) (by
          rw [ev] at he ⊢
          exact ref_num (by rw [hs, bl_len]; omega) (by rw [hs]; exact hd') he)
        have e : ((bs (Lib.itoa (0 - (m : Int)))).toList == w.toList) = true := by rw [str_eq]; exact decide_eq_true he
        show K (.tup [.fz int (0 - (m : Int)), .fz .bool ((bs (Lib.itoa (0 - (m : Int)))).toList == w.toList)]) []
        rw [e]; exact hK
      · have hK := h0 (0 - (m : Int)) (by
          rw [ev] at he
          exact ref_none (by rw [hs]; exact hd') he)
        have e : ((bs (Lib.itoa (0 - (m : Int)))).toList == w.toList) = false := by rw [str_eq]; exact decide_eq_false he
        show K (.tup [.fz int (0 - (m : Int)), .fz .bool ((bs (Lib.itoa (0 - (m : Int)))).toList == w.toList)]) []
        rw [e]; exact hK
  · have hs : sgn (bl w) = 0 := (by rcases hs with h | h; exact absurd (hz.1 h) (by simpa using (by assumption : 0 < ByteArray.size w → ¬ (((w.data[0]?.getD 0).toNat : Nat) : Int) = 45)); exact h)
    refine ⟨_, _, REnt.drop ⟨rfl, rfl⟩, ?_⟩
    exact h0 _ (num_long hs (by rw [bl_len]; omega))
  · have hs : sgn (bl w) = 0 := (by rcases hs with h | h; exact absurd (hz.1 h) (by simpa using (by assumption : 0 < ByteArray.size w → ¬ (((w.data[0]?.getD 0).toNat : Nat) : Int) = 45)); exact h)
    refine ⟨Nat × Nat, fun q => ⟨[(0, .fz .str w), (4, .fz int 0), (5, .fz int (q.1 : Int)), (6, .fz int (q.2 : Int))], []⟩, fun q => 0 ≤ q.2 ∧ q.2 ≤ ByteArray.size w ∧ Lib.decFrom 0 (((bl w).drop 0).take (q.2 - 0)) = some q.1, fun q => ByteArray.size w - q.2, (0, 0), ⟨Nat.le_refl _, by show 0 ≤ _; omega, rfl⟩, Ent.sub rfl ?_, ?_⟩
    · (repeat' (first | exact trivial | exact rfl | refine And.intro ?_ ?_))
    intro ⟨m, k⟩ ⟨hk1, hk2, hd⟩
    have hk1 : 0 ≤ k := hk1
    have hk2 : k ≤ ByteArray.size w := hk2
    have hd : Lib.decFrom 0 (((bl w).drop 0).take (k - 0)) = some m := hd
    have hm := dec_lt hd (by omega)
    show awp _ _ _ ⟨[(0, .fz .str w), (4, .fz int 0), (5, .fz int (m : Int)), (6, .fz int (k : Int))], []⟩
    have hg : (ByteArray.data w).toList.getD (Int.toNat (k : Int)) 0 = (bl w).getD k 0 := rfl
    have hg2 : (bl w).getD k 0 = w.data[k]?.getD 0 := by simp [List.getD, bl]
    by_cases hkl : k < ByteArray.size w
    · by_cases hdg : 48 ≤ ((bl w).getD k 0).toNat ∧ ((bl w).getD k 0).toNat ≤ 57
      · have e : IntKind.u8.wrap ((((ByteArray.data w).toList.getD (Int.toNat (k : Int)) 0).toNat : Int) - 48) = ((((bl w).getD k 0).toNat - 48 : Nat) : Int) := sub48 hdg.1 hdg.2
        rw [hg2] at hdg
        have hr : m * 10 + (((bl w).getD k 0).toNat - 48) < 10000000000 := by rw [hg2]; omega
        (repeat' (first | exact trivial | exact fun h => h | refine And.intro ?_ ?_ | (intro hb; first | (simp at hb; done) | (simp at hb) | skip) | omega | exact rfl | exact Nat.le_refl _ | (show _ + 1 ≤ 4294967296; omega) | (dsimp only; omega) | (show (_ : Int) ≤ (_ : Int); omega) | (show _ < List.length _; simp only [List.length_set, List.length_append, List.length_take]; omega) | (show wantB _ _ = true; simp; done) | (show wantB _ _ = true; simp; omega) | (show (_ : Bool) = _; simp_all; done) | (exfalso; omega) | refine aRegion_auto (by decide +kernel) ?_ | fail))
        refine ⟨(m * 10 + (((bl w).getD k 0).toNat - 48), k + 1), ⟨by show 0 ≤ k + 1; omega, by show k + 1 ≤ _; omega, dec_step hk1 (by rw [bl_len]; exact hkl) hd (by rw [hg2]; exact hdg.1) (by rw [hg2]; exact hdg.2)⟩, by show _ - (k + 1) < _ - k; omega, Ent.sub rfl ?_⟩
        (repeat' (first | exact trivial | exact rfl | refine And.intro ?_ ?_))
        · refine congrArg (AV.fz int) ?_
          show (m : Int) * 10 + IntKind.u8.wrap ((((ByteArray.data w).toList.getD (Int.toNat (k : Int)) 0).toNat : Int) - 48) = ((m * 10 + (((bl w).getD k 0).toNat - 48) : Nat) : Int)
          rw [e]; push_cast; rfl
      · have hbad := dec_bad hk1 (by rw [bl_len]; exact hkl) hs (by omega)
        rw [hg2] at hdg
        (repeat' (first | exact trivial | exact fun h => h | refine And.intro ?_ ?_ | (intro hb; first | (simp at hb; done) | (simp at hb) | skip) | omega | exact rfl | exact Nat.le_refl _ | (show _ + 1 ≤ 4294967296; omega) | (dsimp only; omega) | (show (_ : Int) ≤ (_ : Int); omega) | (show _ < List.length _; simp only [List.length_set, List.length_append, List.length_take]; omega) | (show wantB _ _ = true; simp; done) | (show wantB _ _ = true; simp; omega) | (show (_ : Bool) = _; simp_all; done) | (exfalso; omega) | refine aRegion_auto (by decide +kernel) ?_ | fail))
        refine ⟨_, _, REnt.drop ⟨rfl, rfl⟩, ?_⟩
        exact h0 _ hbad
    · obtain rfl : k = ByteArray.size w := by omega
      have hd' : Lib.decFrom 0 ((bl w).drop 0) = some m := by
        rw [← hd, List.take_of_length_le (by rw [List.length_drop, bl_len]; omega)]
      have hif : (if sgn (bl w) = 1 then -(m : Int) else m) = (m : Int) := by rw [hs]; simp
      (repeat' (first | exact trivial | exact fun h => h | refine And.intro ?_ ?_ | (intro hb; first | (simp at hb; done) | (simp at hb) | skip) | omega | exact rfl | exact Nat.le_refl _ | (show _ + 1 ≤ 4294967296; omega) | (dsimp only; omega) | (show (_ : Int) ≤ (_ : Int); omega) | (show _ < List.length _; simp only [List.length_set, List.length_append, List.length_take]; omega) | (show wantB _ _ = true; simp; done) | (show wantB _ _ = true; simp; omega) | (show (_ : Bool) = _; simp_all; done) | (exfalso; omega) | refine aRegion_auto (by decide +kernel) ?_ | fail))
      refine acall_frame0 rfl (number_any G ((m : Int)) (by omega) _ ?_)
      (repeat' (first | exact trivial | exact fun h => h | refine And.intro ?_ ?_ | (intro hb; first | (simp at hb; done) | (simp at hb) | skip) | omega | exact rfl | exact Nat.le_refl _ | (show _ + 1 ≤ 4294967296; omega) | (dsimp only; omega) | (show (_ : Int) ≤ (_ : Int); omega) | (show _ < List.length _; simp only [List.length_set, List.length_append, List.length_take]; omega) | (show wantB _ _ = true; simp; done) | (show wantB _ _ = true; simp; omega) | (show (_ : Bool) = _; simp_all; done) | (exfalso; omega) | refine aRegion_auto (by decide +kernel) ?_ | fail))
      refine ⟨_, _, REnt.drop ⟨rfl, rfl⟩, ?_⟩
      have ev : ((m : Int)) = (if sgn (bl w) = 1 then -(m : Int) else m) := by rw [hif] <;> omega
      by_cases he : Lib.itoa ((m : Int)) = bl w
      · have hK := h1 ((m : Int)) (by
          rw [ev] at he ⊢
          exact ref_num (by rw [hs, bl_len]; omega) (by rw [hs]; exact hd') he)
        have e : ((bs (Lib.itoa ((m : Int)))).toList == w.toList) = true := by rw [str_eq]; exact decide_eq_true he
        show K (.tup [.fz int ((m : Int)), .fz .bool ((bs (Lib.itoa ((m : Int)))).toList == w.toList)]) []
        rw [e]; exact hK
      · have hK := h0 ((m : Int)) (by
          rw [ev] at he
          exact ref_none (by rw [hs]; exact hd') he)
        have e : ((bs (Lib.itoa ((m : Int)))).toList == w.toList) = false := by rw [str_eq]; exact decide_eq_false he
        show K (.tup [.fz int ((m : Int)), .fz .bool ((bs (Lib.itoa ((m : Int)))).toList == w.toList)]) []
        rw [e]; exact hK
end Go.Proofs.YtgjjooophigkoaaGreatDoor
/-
  The document's lines.
-/
namespace Go.Proofs.YtgjjooophigkoaaGreatDoor
open Go Go.Ab Go.RowKit Go.Proofs.YtgjjooophigkoaaGreatDoor.Tx
set_option maxRecDepth 100000
theorem ext_bs (s : ByteArray) (a b : Nat) : s.extract a b = bs (((bl s).drop a).take (b - a)) := by
  have : (s.extract a b).data.toList = ((bl s).drop a).take (b - a) := by simp [bl]
  rw [← this, bs_of]
theorem cur_snoc {l : List UInt8} {fr i : Nat} (h : fr ≤ i) (hi : i < l.length) : (l.drop fr).take (i + 1 - fr) = (l.drop fr).take (i - fr) ++ [l.getD i 0] := by
  rw [show i + 1 - fr = i - fr + 1 by omega, List.take_succ_eq_append_getElem (by rw [List.length_drop]; omega)]
  congr 1
  rw [List.getElem_drop]
  simp [List.getD, show fr + (i - fr) = i by omega, hi]
theorem drop_at {l : List UInt8} {i : Nat} (hi : i < l.length) : l.drop i = l.getD i 0 :: l.drop (i + 1) := by
  rw [List.drop_eq_getElem_cons hi]; simp [List.getD, hi]
/-- a byte that is no end -/
theorem cut_go {c : UInt8} {l : List UInt8} {fr i : Nat} (h : fr ≤ i) (hi : i < l.length) (hc : l.getD i 0 ≠ c) : cutG c ((l.drop fr).take (i - fr)) (l.drop i) = cutG c ((l.drop fr).take (i + 1 - fr)) (l.drop (i + 1)) := by
  rw [drop_at hi, cutG, if_neg hc, cur_snoc h hi]
/-- an end -/
theorem cut_at {c : UInt8} {l : List UInt8} {fr i : Nat} (hi : i < l.length) (hc : l.getD i 0 = c) : cutG c ((l.drop fr).take (i - fr)) (l.drop i) = (l.drop fr).take (i - fr) :: cutG c ((l.drop (i + 1)).take (i + 1 - (i + 1))) (l.drop (i + 1)) := by
  rw [drop_at hi, cutG, if_pos hc]; simp
theorem cut_end {c : UInt8} {l : List UInt8} {fr : Nat} : cutG c ((l.drop fr).take (l.length - fr)) (l.drop l.length) = [(l.drop fr).take (l.length - fr)] := by
  rw [List.drop_length, cutG]
theorem nums_nil : Tx.numsL [] = some [] := rfl
set_option maxHeartbeats 4000000 in
theorem numbersOf_any (G : List (Nat × Value)) (s : ByteArray) (hw : ByteArray.size s ≤ 1000000) (K : AV → List AO → Prop) (h1 : ∀ l, numsOf (bl s) = some l → K (.tup [.fz (.list int) l, .fz .bool true]) []) (h0 : numsOf (bl s) = none → K (.tup [.fz (.list int) [], .fz .bool false]) []) :
    ACall Tryz.prog G 55 [.fz .str s] [] K := by
  have hl := bl_len s
  refine acall_mk (E := envAt G 42 0) (envOk _ _ _) Tryz.func55 rfl rfl rfl rfl rfl ?_
  (repeat' (first | exact trivial | exact fun h => h | refine And.intro ?_ ?_ | (intro hb; first | (simp at hb; done) | (simp at hb) | skip) | omega | exact rfl | exact Nat.le_refl _ | (show _ + 1 ≤ 4294967296; omega) | (dsimp only; omega) | (show (_ : Int) ≤ (_ : Int); omega) | (show _ < List.length _; simp only [List.length_set, List.length_append, List.length_take]; omega) | (show wantB _ _ = true; simp; done) | (show wantB _ _ = true; simp; omega) | (show (_ : Bool) = _; simp_all; done) | (exfalso; omega) | refine aRegion_auto (by decide +kernel) ?_ | fail))
  refine ⟨List (List UInt8) × List Int × Nat × Nat, fun q => ⟨[(0, .fz .str s), (4, .ref 0 0 q.2.1.length), (5, .fz int (q.2.2.1 : Int)), (6, .fz int (q.2.2.2 : Int))], [.row int q.2.1]⟩, fun q => Tx.numsL q.1 = some q.2.1 ∧ q.2.2.1 ≤ q.2.2.2 ∧ q.2.1.length ≤ q.2.2.2 ∧ ((q.2.2.2 ≤ ByteArray.size s ∧ q.1 ++ cutG 32 (((bl s).drop q.2.2.1).take (q.2.2.2 - q.2.2.1)) ((bl s).drop q.2.2.2) = cut 32 (bl s)) ∨ (q.2.2.2 = ByteArray.size s + 1 ∧ q.1 = cut 32 (bl s))), fun q => ByteArray.size s + 1 - q.2.2.2, ([], [], 0, 0), ⟨rfl, Nat.le_refl _, Nat.le_refl _, .inl ⟨Nat.zero_le _, rfl⟩⟩, (Ent.nil 4 int rfl).trans (Ent.sub rfl ?_), ?_⟩
  · (repeat' (first | exact trivial | exact rfl | refine And.intro ?_ ?_))
  intro ⟨ws, l, fr, i⟩ ⟨hn, hf, hli, hc⟩
  have hn : Tx.numsL ws = some l := hn
  have hf : fr ≤ i := hf
  have hli : l.length ≤ i := hli
  have hc : (i ≤ ByteArray.size s ∧ ws ++ cutG 32 (((bl s).drop fr).take (i - fr)) ((bl s).drop i) = cut 32 (bl s)) ∨ (i = ByteArray.size s + 1 ∧ ws = cut 32 (bl s)) := hc
  show awp _ _ _ ⟨[(0, .fz .str s), (4, .ref 0 0 l.length), (5, .fz int (fr : Int)), (6, .fz int (i : Int))], [.row int l]⟩
  have hg : (ByteArray.data s).toList.getD (Int.toNat (i : Int)) 0 = (bl s).getD i 0 := rfl
  have hg2 : (bl s).getD i 0 = s.data[i]?.getD 0 := by simp [List.getD, bl]
  rcases hc with ⟨hi, hcut⟩ | ⟨rfl, hcut⟩
  · by_cases hgo : i < ByteArray.size s ∧ ¬ ((s.data[i]?.getD 0).toNat : Int) = 32
    · have hne : (bl s).getD i 0 ≠ 32 := fun e => hgo.2 (by rw [← hg2, e]; rfl)
      (repeat' (first | exact trivial | exact fun h => h | refine And.intro ?_ ?_ | (intro hb; first | (simp at hb; done) | (simp at hb) | skip) | omega | exact rfl | exact Nat.le_refl _ | (show _ + 1 ≤ 4294967296; omega) | (dsimp only; omega) | (show (_ : Int) ≤ (_ : Int); omega) | (show _ < List.length _; simp only [List.length_set, List.length_append, List.length_take]; omega) | (show wantB _ _ = true; simp; done) | (show wantB _ _ = true; simp; omega) | (show (_ : Bool) = _; simp_all; done) | (exfalso; omega) | refine aRegion_auto (by decide +kernel) ?_ | fail))
      refine ⟨(ws, l, fr, i + 1), ⟨hn, by show fr ≤ i + 1; omega, by show l.length ≤ i + 1; omega, .inl ⟨by show i + 1 ≤ _; omega, by rw [← hcut, cut_go hf (show i < ByteArray.size s from hgo.1) hne]⟩⟩, by show _ - (i + 1) < _ - i; omega, Ent.sub rfl ?_⟩
      (repeat' (first | exact trivial | exact rfl | refine And.intro ?_ ?_))
    · obtain ⟨rest, hrest, hin⟩ : ∃ rest, cutG 32 (((bl s).drop fr).take (i - fr)) ((bl s).drop i) = ((bl s).drop fr).take (i - fr) :: rest ∧ ((i < ByteArray.size s ∧ rest = cutG 32 (((bl s).drop (i + 1)).take (i + 1 - (i + 1))) ((bl s).drop (i + 1))) ∨ (i = ByteArray.size s ∧ rest = [])) := by
        by_cases hlt : i < ByteArray.size s
        · have he : (bl s).getD i 0 = 32 := by
            have : ((s.data[i]?.getD 0).toNat : Int) = 32 := by
              by_cases h : ((s.data[i]?.getD 0).toNat : Int) = 32
              · exact h
              · exact absurd ⟨hlt, h⟩ hgo
            rw [hg2]; exact UInt8.toNat_inj.1 (by simp; omega)
          exact ⟨_, cut_at (by rw [bl_len]; exact hlt) he, .inl ⟨hlt, rfl⟩⟩
        · obtain rfl : i = ByteArray.size s := by omega
          exact ⟨[], cut_end (c := 32) (l := bl s) (fr := fr), .inr ⟨rfl, rfl⟩⟩
      have hcl : (((bl s).drop fr).take (i - fr)).length ≤ 1000000 := by rw [List.length_take, List.length_drop, bl_len]; omega
      (repeat' (first | exact trivial | exact fun h => h | refine And.intro ?_ ?_ | (intro hb; first | (simp at hb; done) | (simp at hb) | skip) | omega | exact rfl | exact Nat.le_refl _ | (show _ + 1 ≤ 4294967296; omega) | (dsimp only; omega) | (show (_ : Int) ≤ (_ : Int); omega) | (show _ < List.length _; simp only [List.length_set, List.length_append, List.length_take]; omega) | (show wantB _ _ = true; simp; done) | (show wantB _ _ = true; simp; omega) | (show (_ : Bool) = _; simp_all; done) | (exfalso; omega) | refine aRegion_auto (by decide +kernel) ?_ | fail))
      refine acall_frame0 rfl (acall_arg (numberOf_any G (bs (((bl s).drop fr).take (i - fr))) (by rw [← bl_len, bl, bs_list]; exact hcl) _ (fun v hv => ?_) (fun v hv => ?_)) (congrArg (fun x => [AV.fz .str x]) (ext_bs s fr i).symm))
      · rw [bl, bs_list] at hv
        (repeat' (first | exact trivial | exact fun h => h | refine And.intro ?_ ?_ | (intro hb; first | (simp at hb; done) | (simp at hb) | skip) | omega | exact rfl | exact Nat.le_refl _ | (show _ + 1 ≤ 4294967296; omega) | (dsimp only; omega) | (show (_ : Int) ≤ (_ : Int); omega) | (show _ < List.length _; simp only [List.length_set, List.length_append, List.length_take]; omega) | (show wantB _ _ = true; simp; done) | (show wantB _ _ = true; simp; omega) | (show (_ : Bool) = _; simp_all; done) | (exfalso; omega) | refine aRegion_auto (by decide +kernel) ?_ | fail))
        refine ⟨(ws ++ [((bl s).drop fr).take (i - fr)], l ++ [v], i + 1, i + 1), ⟨numsL_snoc hn hv, Nat.le_refl _, by show (l ++ [v]).length ≤ i + 1; simp; omega, ?_⟩, by show _ - (i + 1) < _ - i; omega, Ent.ren [2] rfl ?_ ?_⟩
        · show (i + 1 ≤ ByteArray.size s ∧ (ws ++ [((bl s).drop fr).take (i - fr)]) ++ cutG 32 (((bl s).drop (i + 1)).take (i + 1 - (i + 1))) ((bl s).drop (i + 1)) = cut 32 (bl s)) ∨ (i + 1 = ByteArray.size s + 1 ∧ ws ++ [((bl s).drop fr).take (i - fr)] = cut 32 (bl s))
          rw [hrest] at hcut
          rcases hin with ⟨h1, rfl⟩ | ⟨rfl, rfl⟩
          · exact .inl ⟨by omega, by rw [List.append_assoc]; exact hcut⟩
          · exact .inr ⟨rfl, hcut⟩
        · (repeat' (first | exact trivial | exact rfl | refine And.intro ?_ ?_))
          exact congrArg (fun x => some (AO.row int (x ++ [v]))) (List.take_length (l := l))
        · (repeat' (first | exact trivial | exact rfl | refine And.intro ?_ ?_))
          exact congrArg (AV.ref 2 0) (show l.length + 1 = (l ++ [v]).length by simp)
      · rw [bl, bs_list] at hv
        (repeat' (first | exact trivial | exact fun h => h | refine And.intro ?_ ?_ | (intro hb; first | (simp at hb; done) | (simp at hb) | skip) | omega | exact rfl | exact Nat.le_refl _ | (show _ + 1 ≤ 4294967296; omega) | (dsimp only; omega) | (show (_ : Int) ≤ (_ : Int); omega) | (show _ < List.length _; simp only [List.length_set, List.length_append, List.length_take]; omega) | (show wantB _ _ = true; simp; done) | (show wantB _ _ = true; simp; omega) | (show (_ : Bool) = _; simp_all; done) | (exfalso; omega) | refine aRegion_auto (by decide +kernel) ?_ | fail))
        refine ⟨_, _, (REnt.conv [.dat (.list int), .keep] _ rfl ?_).trans (REnt.drop ⟨rfl, rfl⟩), ?_⟩
        · (repeat' (first | exact trivial | refine And.intro ?_ ?_ | (show _ ≤ _; omega) | (show _ ≤ _; simp; done)))
        refine h0 ?_
        unfold numsOf
        rw [← hcut, hrest]
        exact numsL_bad hv
  · (repeat' (first | exact trivial | exact fun h => h | refine And.intro ?_ ?_ | (intro hb; first | (simp at hb; done) | (simp at hb) | skip) | omega | exact rfl | exact Nat.le_refl _ | (show _ + 1 ≤ 4294967296; omega) | (dsimp only; omega) | (show (_ : Int) ≤ (_ : Int); omega) | (show _ < List.length _; simp only [List.length_set, List.length_append, List.length_take]; omega) | (show wantB _ _ = true; simp; done) | (show wantB _ _ = true; simp; omega) | (show (_ : Bool) = _; simp_all; done) | (exfalso; omega) | refine aRegion_auto (by decide +kernel) ?_ | fail))
    refine ⟨_, _, (REnt.conv [.dat (.list int), .keep] _ rfl ?_).trans (REnt.drop ⟨rfl, rfl⟩), ?_⟩
    · (repeat' (first | exact trivial | refine And.intro ?_ ?_ | (show _ ≤ _; omega) | (show _ ≤ _; simp; done)))
    have hK := h1 l (by unfold numsOf; rw [← hcut]; exact hn)
    rw [← List.take_length (l := l)] at hK
    exact hK
set_option maxHeartbeats 4000000 in
theorem linesOf_any (G : List (Nat × Value)) (s : ByteArray) (hw : ByteArray.size s ≤ 1000000) (K : AV → List AO → Prop) (h1 : ∀ ws rest, cut 10 (bl s) = ws ++ [rest] → K (.tup [.fz (.list .str) (ws.map bs), .fz .str (bs rest)]) []) :
    ACall Tryz.prog G 54 [.fz .str s] [] K := by
  have hl := bl_len s
  refine acall_mk (E := envAt G 30 0) (envOk _ _ _) Tryz.func54 rfl rfl rfl rfl rfl ?_
  (repeat' (first | exact trivial | exact fun h => h | refine And.intro ?_ ?_ | (intro hb; first | (simp at hb; done) | (simp at hb) | skip) | omega | exact rfl | exact Nat.le_refl _ | (show _ + 1 ≤ 4294967296; omega) | (dsimp only; omega) | (show (_ : Int) ≤ (_ : Int); omega) | (show _ < List.length _; simp only [List.length_set, List.length_append, List.length_take]; omega) | (show wantB _ _ = true; simp; done) | (show wantB _ _ = true; simp; omega) | (show (_ : Bool) = _; simp_all; done) | (exfalso; omega) | refine aRegion_auto (by decide +kernel) ?_ | fail))
  refine ⟨List (List UInt8) × Nat × Nat, fun q => ⟨[(0, .fz .str s), (4, .ref 0 0 (q.1.map bs).length), (5, .fz int (q.2.1 : Int)), (6, .fz int (q.2.2 : Int))], [.row .str (q.1.map bs)]⟩, fun q => q.2.1 ≤ q.2.2 ∧ q.1.length ≤ q.2.2 ∧ q.2.2 ≤ ByteArray.size s ∧ q.1 ++ cutG 10 (((bl s).drop q.2.1).take (q.2.2 - q.2.1)) ((bl s).drop q.2.2) = cut 10 (bl s), fun q => ByteArray.size s - q.2.2, ([], 0, 0), ⟨Nat.le_refl _, Nat.le_refl _, Nat.zero_le _, rfl⟩, (Ent.nil 4 .str rfl).trans (Ent.sub rfl ?_), ?_⟩
  · (repeat' (first | exact trivial | exact rfl | refine And.intro ?_ ?_))
  intro ⟨ws, fr, i⟩ ⟨hf, hli, hi, hcut⟩
  have hf : fr ≤ i := hf
  have hli : ws.length ≤ i := hli
  have hi : i ≤ ByteArray.size s := hi
  have hcut : ws ++ cutG 10 (((bl s).drop fr).take (i - fr)) ((bl s).drop i) = cut 10 (bl s) := hcut
  have hml : (ws.map bs).length = ws.length := by simp
  show awp _ _ _ ⟨[(0, .fz .str s), (4, .ref 0 0 (ws.map bs).length), (5, .fz int (fr : Int)), (6, .fz int (i : Int))], [.row .str (ws.map bs)]⟩
  have hg : (ByteArray.data s).toList.getD (Int.toNat (i : Int)) 0 = (bl s).getD i 0 := rfl
  have hg2 : (bl s).getD i 0 = s.data[i]?.getD 0 := by simp [List.getD, bl]
  by_cases hlt : i < ByteArray.size s
  · by_cases hten : ((s.data[i]?.getD 0).toNat : Int) = 10
    · have he : (bl s).getD i 0 = 10 := by rw [hg2]; exact UInt8.toNat_inj.1 (by simp; omega)
      (repeat' (first | exact trivial | exact fun h => h | refine And.intro ?_ ?_ | (intro hb; first | (simp at hb; done) | (simp at hb) | skip) | omega | exact rfl | exact Nat.le_refl _ | (show _ + 1 ≤ 4294967296; omega) | (dsimp only; omega) | (show (_ : Int) ≤ (_ : Int); omega) | (show _ < List.length _; simp only [List.length_set, List.length_append, List.length_take]; omega) | (show wantB _ _ = true; simp; done) | (show wantB _ _ = true; simp; omega) | (show (_ : Bool) = _; simp_all; done) | (exfalso; omega) | refine aRegion_auto (by decide +kernel) ?_ | fail))
      refine ⟨(ws ++ [((bl s).drop fr).take (i - fr)], i + 1, i + 1), ⟨Nat.le_refl _, by show (ws ++ [_]).length ≤ i + 1; simp; omega, by show i + 1 ≤ _; omega, by rw [← hcut, cut_at (show i < ByteArray.size s from hlt) he, List.append_assoc]; rfl⟩, by show _ - (i + 1) < _ - i; omega, Ent.ren [2] rfl ?_ ?_⟩
      · (repeat' (first | exact trivial | exact rfl | refine And.intro ?_ ?_))
        exact congrArg (fun x => some (AO.row .str x)) (show List.take (ws.map bs).length (ws.map bs) ++ [s.extract fr i] = (ws ++ [((bl s).drop fr).take (i - fr)]).map bs by rw [List.take_length, List.map_append, ext_bs]; rfl)
      · (repeat' (first | exact trivial | exact rfl | refine And.intro ?_ ?_))
        exact congrArg (AV.ref 2 0) (show (ws.map bs).length + 1 = ((ws ++ [((bl s).drop fr).take (i - fr)]).map bs).length by simp)
    · have hne : (bl s).getD i 0 ≠ 10 := fun e => hten (by rw [← hg2, e]; rfl)
      (repeat' (first | exact trivial | exact fun h => h | refine And.intro ?_ ?_ | (intro hb; first | (simp at hb; done) | (simp at hb) | skip) | omega | exact rfl | exact Nat.le_refl _ | (show _ + 1 ≤ 4294967296; omega) | (dsimp only; omega) | (show (_ : Int) ≤ (_ : Int); omega) | (show _ < List.length _; simp only [List.length_set, List.length_append, List.length_take]; omega) | (show wantB _ _ = true; simp; done) | (show wantB _ _ = true; simp; omega) | (show (_ : Bool) = _; simp_all; done) | (exfalso; omega) | refine aRegion_auto (by decide +kernel) ?_ | fail))
      refine ⟨(ws, fr, i + 1), ⟨by show fr ≤ i + 1; omega, by show ws.length ≤ i + 1; omega, by show i + 1 ≤ _; omega, by rw [← hcut, cut_go hf (show i < ByteArray.size s from hlt) hne]⟩, by show _ - (i + 1) < _ - i; omega, Ent.sub rfl ?_⟩
      (repeat' (first | exact trivial | exact rfl | refine And.intro ?_ ?_))
  · obtain rfl : i = ByteArray.size s := by omega
    rw [show ByteArray.size s = (bl s).length from rfl, cut_end] at hcut
    have hK := h1 ws _ hcut.symm
    (repeat' (first | exact trivial | exact fun h => h | refine And.intro ?_ ?_ | (intro hb; first | (simp at hb; done) | (simp at hb) | skip) | omega | exact rfl | exact Nat.le_refl _ | (show _ + 1 ≤ 4294967296; omega) | (dsimp only; omega) | (show (_ : Int) ≤ (_ : Int); omega) | (show _ < List.length _; simp only [List.length_set, List.length_append, List.length_take]; omega) | (show wantB _ _ = true; simp; done) | (show wantB _ _ = true; simp; omega) | (show (_ : Bool) = _; simp_all; done) | (exfalso; omega) | refine aRegion_auto (by decide +kernel) ?_ | fail))
    · show (fr : Int) ≤ ((ByteArray.size s : Nat) : Int); omega
    · show ((ByteArray.size s : Nat) : Int) ≤ ((ByteArray.size s : Nat) : Int); omega
    (repeat' (first | exact trivial | exact fun h => h | refine And.intro ?_ ?_ | (intro hb; first | (simp at hb; done) | (simp at hb) | skip) | omega | exact rfl | exact Nat.le_refl _ | (show _ + 1 ≤ 4294967296; omega) | (dsimp only; omega) | (show (_ : Int) ≤ (_ : Int); omega) | (show _ < List.length _; simp only [List.length_set, List.length_append, List.length_take]; omega) | (show wantB _ _ = true; simp; done) | (show wantB _ _ = true; simp; omega) | (show (_ : Bool) = _; simp_all; done) | (exfalso; omega) | refine aRegion_auto (by decide +kernel) ?_ | fail))
    refine ⟨_, _, (REnt.conv [.dat (.list .str), .keep] _ rfl ?_).trans (REnt.drop ⟨rfl, rfl⟩), ?_⟩
    · (repeat' (first | exact trivial | refine And.intro ?_ ?_ | (show _ ≤ _; omega) | (show _ ≤ _; simp; done)))
    rw [← List.take_length (l := ws.map bs), ← ext_bs] at hK
    exact hK
end Go.Proofs.YtgjjooophigkoaaGreatDoor
/-
  The program's lines.
-/
namespace Go.Proofs.YtgjjooophigkoaaGreatDoor
open Go Go.Ab Go.RowKit Go.Proofs.YtgjjooophigkoaaGreatDoor.Tx
set_option maxRecDepth 100000
theorem getD_map (l : List (List UInt8)) (k : Nat) (hk : k < l.length) : List.getD (l.map bs) k ByteArray.empty = bs (l.getD k []) := by simp [List.getD, hk]
theorem bs_size (l : List UInt8) : ByteArray.size (bs l) = l.length := by simp [bs, ByteArray.size]
theorem str_neq (l m : List UInt8) : ((bs l).toList == (bs m).toList) = decide (l = m) := by rw [str_eq, bl, bs_list]
set_option maxHeartbeats 4000000 in
theorem numbers_any {E : Errs} {sy ra : Addr} {mx : Int} (s : ByteArray) (hw : ByteArray.size s ≤ 1000000) (K : AV → List AO → Prop) (h1 : ∀ l, numsOf (bl s) = some l → K (.tup [.fz (.list int) l, .fz .bool true]) []) (h0 : numsOf (bl s) = none → K (.tup [.fz (.list int) [], .fz .bool false]) []) :
    ACall Tryz.prog (GT E sy ra mx) 52 [.fz .str s] [] K := by
  generalize hG : GT E sy ra mx = G
  refine acall_mk (E := envAt G 41 0) (envOk _ _ _) Tryz.func52 rfl rfl rfl rfl rfl ?_
  subst hG
  have hpl : 0 < (cut 32 (bl s)).length ∧ (cut 32 (bl s)).length ≤ (bl s).length + 1 := cutG_len 32 (bl s) []
  have hps : ∀ w, w ∈ cut 32 (bl s) → w.length ≤ ([] : List UInt8).length + (bl s).length := cutG_size 32 (bl s) []
  have hbl := bl_len s
  unfold numsOf at h1 h0
  (repeat' (first | exact trivial | exact fun h => h | refine And.intro ?_ ?_ | (intro hb; first | (simp at hb; done) | (simp at hb) | skip) | omega | exact rfl | exact Nat.le_refl _ | (show _ + 1 ≤ 4294967296; omega) | (dsimp only; omega) | (show (_ : Int) ≤ (_ : Int); omega) | (show _ < List.length _; simp only [List.length_set, List.length_append, List.length_take]; omega) | (show wantB _ _ = true; simp; done) | (show wantB _ _ = true; simp; omega) | (show (_ : Bool) = _; simp_all; done) | (exfalso; omega) | refine aRegion_auto (by decide +kernel) ?_ | fail))
  refine acall_frame0 rfl (split_any s 32 _ rfl hw _ ?_)
  generalize cut 32 (bl s) = ps at *
  have hml : (ps.map bs).length = ps.length := by simp
  (repeat' (first | exact trivial | exact fun h => h | refine And.intro ?_ ?_ | (intro hb; first | (simp at hb; done) | (simp at hb) | skip) | omega | exact rfl | exact Nat.le_refl _ | (show _ + 1 ≤ 4294967296; omega) | (dsimp only; omega) | (show (_ : Int) ≤ (_ : Int); omega) | (show _ < List.length _; simp only [List.length_set, List.length_append, List.length_take]; omega) | (show wantB _ _ = true; simp; done) | (show wantB _ _ = true; simp; omega) | (show (_ : Bool) = _; simp_all; done) | (exfalso; omega) | refine aRegion_auto (by decide +kernel) ?_ | fail))
  refine ⟨List Int × Nat, fun q => ⟨[(4, .ref 0 0 q.1.length), (10, .fz (.list .str) (ps.map bs)), (11, .fz int (ps.map bs).length), (12, .fz int (q.2 : Int))], [.row int q.1]⟩, fun q => q.2 ≤ ps.length ∧ numsL (ps.take q.2) = some q.1, fun q => ps.length - q.2, ([], 0), ⟨Nat.zero_le _, rfl⟩, (Ent.nil 4 int rfl).trans (Ent.sub rfl ?_), ?_⟩
  · (repeat' (first | exact trivial | exact rfl | refine And.intro ?_ ?_))
  intro ⟨l, k⟩ ⟨hk, hn⟩
  have hk : k ≤ ps.length := hk
  have hn : numsL (ps.take k) = some l := hn
  have hll := numsL_len hn
  rw [List.length_take] at hll
  show awp _ _ _ ⟨[(4, .ref 0 0 l.length), (10, .fz (.list .str) (ps.map bs)), (11, .fz int (ps.map bs).length), (12, .fz int (k : Int))], [.row int l]⟩
  by_cases hlt : k < ps.length
  · have hmem : ps.getD k [] ∈ ps := by simp [List.getD, hlt]
    have hsz := hps _ hmem
    have hsp : ps.take (k + 1) = ps.take k ++ [ps.getD k []] := by rw [List.take_succ_eq_append_getElem hlt]; simp [List.getD, hlt]
    have hall : ps = ps.take k ++ ps.getD k [] :: ps.drop (k + 1) := by
      rw [show ps.getD k [] = ps[k] by simp [List.getD, hlt], ← List.drop_eq_getElem_cons hlt, List.take_append_drop]
    have hat : List.getD (ps.map bs) (Int.toNat (k : Int)) ByteArray.empty = bs (ps.getD k []) := getD_map ps k hlt
    generalize ps.getD k [] = w at *
    have HALL := Lib.hid hall
    have HSP := Lib.hid hsp
    clear hall hsp
    (repeat' (first | exact trivial | exact fun h => h | refine And.intro ?_ ?_ | (intro hb; first | (simp at hb; done) | (simp at hb) | skip) | omega | exact rfl | exact Nat.le_refl _ | (show _ + 1 ≤ 4294967296; omega) | (dsimp only; omega) | (show (_ : Int) ≤ (_ : Int); omega) | (show _ < List.length _; simp only [List.length_set, List.length_append, List.length_take]; omega) | (show wantB _ _ = true; simp; done) | (show wantB _ _ = true; simp; omega) | (show (_ : Bool) = _; simp_all; done) | (exfalso; omega) | refine aRegion_auto (by decide +kernel) ?_ | fail))
    refine acall_frame0 rfl (acall_arg (atoi_any (bs w) (by rw [bs_size]; simp at hsz; omega) _ (fun v hv => ?_) (fun v T p hv => ?_)) (congrArg (fun x => [AV.fz .str x]) hat.symm))
    · rw [bs_list] at hv
      have hvb := Lib.atoiAll_bounds hv
      (repeat' (first | exact trivial | exact fun h => h | refine And.intro ?_ ?_ | (intro hb; first | (simp at hb; done) | (simp at hb) | skip) | omega | exact rfl | exact Nat.le_refl _ | (show _ + 1 ≤ 4294967296; omega) | (dsimp only; omega) | (show (_ : Int) ≤ (_ : Int); omega) | (show _ < List.length _; simp only [List.length_set, List.length_append, List.length_take]; omega) | (show wantB _ _ = true; simp; done) | (show wantB _ _ = true; simp; omega) | (show (_ : Bool) = _; simp_all; done) | (exfalso; omega) | refine aRegion_auto (by decide +kernel) ?_ | fail))
      refine acall_frame0 rfl (itoa_any v hvb _ ?_)
      have hcmp0 : (Lib.itoa v = ByteArray.toList ((Option.map bs ps[k]?).getD Ty.str.dft)) ↔ Lib.itoa v = w := by
        have e : (Option.map bs ps[k]?).getD Ty.str.dft = bs w := by rw [← hat]; simp [List.getD, Ty.dft]
        rw [e, ByteArray.toList_eq, bs_list]
      have hcmp := Lib.hid hcmp0
      clear hcmp0
      by_cases he : Lib.itoa v = w
      · (repeat' (first | exact trivial | exact fun h => h | refine And.intro ?_ ?_ | (intro hb; first | (simp at hb; done) | (simp at hb) | skip) | omega | exact rfl | exact Nat.le_refl _ | (show _ + 1 ≤ 4294967296; omega) | (dsimp only; omega) | (show (_ : Int) ≤ (_ : Int); omega) | (show _ < List.length _; simp only [List.length_set, List.length_append, List.length_take]; omega) | (show wantB _ _ = true; simp; done) | (show wantB _ _ = true; simp; omega) | (show (_ : Bool) = _; simp_all; done) | (exfalso; omega) | refine aRegion_auto (by decide +kernel) ?_ | fail))
        rotate_left 1
        · contradiction
        · contradiction
        · exact absurd (hcmp.out.2 he) (by assumption)
        refine acall_frame0 rfl (acall_arg (trim_any _ (bs w) ⟨#[45]⟩ _ ?_) (congrArg (fun x => [AV.fz .str x, AV.fz .str ⟨#[45]⟩]) hat.symm))
        rw [bs_list]
        have hts : ByteArray.size (bs (Lib.trimPrefix w [45])) = (Lib.trimPrefix w [45]).length := bs_size _
        by_cases h9 : (Lib.trimPrefix w [45]).length ≤ 9
        · have hnum : numOf w = some v := num_of_all he h9
          (repeat' (first | exact trivial | exact fun h => h | refine And.intro ?_ ?_ | (intro hb; first | (simp at hb; done) | (simp at hb) | skip) | omega | exact rfl | exact Nat.le_refl _ | (show _ + 1 ≤ 4294967296; omega) | (dsimp only; omega) | (show (_ : Int) ≤ (_ : Int); omega) | (show _ < List.length _; simp only [List.length_set, List.length_append, List.length_take]; omega) | (show wantB _ _ = true; simp; done) | (show wantB _ _ = true; simp; omega) | (show (_ : Bool) = _; simp_all; done) | (exfalso; omega) | refine aRegion_auto (by decide +kernel) ?_ | fail))
          · exfalso
            rcases hb with q | q
            · contradiction
            · omega
          refine ⟨(l ++ [v], k + 1), ⟨by show k + 1 ≤ _; omega, by show numsL (ps.take (k + 1)) = some (l ++ [v]); rw [HSP.out]; exact numsL_snoc hn hnum⟩, by show _ - (k + 1) < _ - k; omega, Ent.ren [2] rfl ?_ ?_⟩
          · (repeat' (first | exact trivial | exact rfl | refine And.intro ?_ ?_))
            exact congrArg (fun x => some (AO.row int (x ++ [v]))) (List.take_length (l := l))
          · (repeat' (first | exact trivial | exact rfl | refine And.intro ?_ ?_))
            exact congrArg (AV.ref 2 0) (show l.length + 1 = (l ++ [v]).length by simp)
        · have hbad : numOf w = none := by
            cases h : numOf w with
            | none => rfl
            | some n => exact absurd (num_all h).2.2 h9
          (repeat' (first | exact trivial | exact fun h => h | refine And.intro ?_ ?_ | (intro hb; first | (simp at hb; done) | (simp at hb) | skip) | omega | exact rfl | exact Nat.le_refl _ | (show _ + 1 ≤ 4294967296; omega) | (dsimp only; omega) | (show (_ : Int) ≤ (_ : Int); omega) | (show _ < List.length _; simp only [List.length_set, List.length_append, List.length_take]; omega) | (show wantB _ _ = true; simp; done) | (show wantB _ _ = true; simp; omega) | (show (_ : Bool) = _; simp_all; done) | (exfalso; omega) | refine aRegion_auto (by decide +kernel) ?_ | fail))
          · refine ⟨_, _, (REnt.conv [.dat (.list int), .keep] _ rfl ?_).trans (REnt.drop ⟨rfl, rfl⟩), ?_⟩
            · (repeat' (first | exact trivial | refine And.intro ?_ ?_ | (show _ ≤ _; omega) | (show _ ≤ _; simp; done)))
            refine h0 ?_
            rw [HALL.out]
            exact numsL_bad hbad
          all_goals (exfalso; omega)
      · have hbad : numOf w = none := by
          cases h : numOf w with
          | none => rfl
          | some n =>
            have q := num_all h
            rw [hv] at q
            cases q.1
            exact absurd q.2.1 he
        (repeat' (first | exact trivial | exact fun h => h | refine And.intro ?_ ?_ | (intro hb; first | (simp at hb; done) | (simp at hb) | skip) | omega | exact rfl | exact Nat.le_refl _ | (show _ + 1 ≤ 4294967296; omega) | (dsimp only; omega) | (show (_ : Int) ≤ (_ : Int); omega) | (show _ < List.length _; simp only [List.length_set, List.length_append, List.length_take]; omega) | (show wantB _ _ = true; simp; done) | (show wantB _ _ = true; simp; omega) | (show (_ : Bool) = _; simp_all; done) | (exfalso; omega) | refine aRegion_auto (by decide +kernel) ?_ | fail))
        · exact absurd (hcmp.out.1 (by assumption)) he
        · contradiction
        · contradiction
        refine ⟨_, _, (REnt.conv [.dat (.list int), .keep] _ rfl ?_).trans (REnt.drop ⟨rfl, rfl⟩), ?_⟩
        · (repeat' (first | exact trivial | refine And.intro ?_ ?_ | (show _ ≤ _; omega) | (show _ ≤ _; simp; done)))
        refine h0 ?_
        rw [HALL.out]
        exact numsL_bad hbad
    · rw [bs_list] at hv
      have hbad : numOf w = none := by
        cases h : numOf w with
        | none => rfl
        | some n => exact absurd (num_all h).1 (hv n)
      (repeat' (first | exact trivial | exact fun h => h | refine And.intro ?_ ?_ | (intro hb; first | (simp at hb; done) | (simp at hb) | skip) | omega | exact rfl | exact Nat.le_refl _ | (show _ + 1 ≤ 4294967296; omega) | (dsimp only; omega) | (show (_ : Int) ≤ (_ : Int); omega) | (show _ < List.length _; simp only [List.length_set, List.length_append, List.length_take]; omega) | (show wantB _ _ = true; simp; done) | (show wantB _ _ = true; simp; omega) | (show (_ : Bool) = _; simp_all; done) | (exfalso; omega) | refine aRegion_auto (by decide +kernel) ?_ | fail))
      refine ⟨_, _, (REnt.conv [.dat (.list int), .keep] _ rfl ?_).trans (REnt.drop ⟨rfl, rfl⟩), ?_⟩
      · (repeat' (first | exact trivial | refine And.intro ?_ ?_ | (show _ ≤ _; omega) | (show _ ≤ _; simp; done)))
      refine h0 ?_
      rw [HALL.out]
      exact numsL_bad hbad
  · obtain rfl : k = ps.length := by omega
    rw [List.take_length] at hn
    (repeat' (first | exact trivial | exact fun h => h | refine And.intro ?_ ?_ | (intro hb; first | (simp at hb; done) | (simp at hb) | skip) | omega | exact rfl | exact Nat.le_refl _ | (show _ + 1 ≤ 4294967296; omega) | (dsimp only; omega) | (show (_ : Int) ≤ (_ : Int); omega) | (show _ < List.length _; simp only [List.length_set, List.length_append, List.length_take]; omega) | (show wantB _ _ = true; simp; done) | (show wantB _ _ = true; simp; omega) | (show (_ : Bool) = _; simp_all; done) | (exfalso; omega) | refine aRegion_auto (by decide +kernel) ?_ | fail))
    refine ⟨_, _, (REnt.conv [.dat (.list int), .keep] _ rfl ?_).trans (REnt.drop ⟨rfl, rfl⟩), ?_⟩
    · (repeat' (first | exact trivial | refine And.intro ?_ ?_ | (show _ ≤ _; omega) | (show _ ≤ _; simp; done)))
    have hK := h1 l hn
    rw [← List.take_length (l := l)] at hK
    exact hK
end Go.Proofs.YtgjjooophigkoaaGreatDoor
/-
  Read a raster: the program.
-/
namespace Go.Proofs.YtgjjooophigkoaaGreatDoor
open Go Go.Ab Go.RowKit Go.Proofs.YtgjjooophigkoaaGreatDoor.Tx
set_option maxRecDepth 100000
abbrev badR (E : Errs) (e : Nat) (at_ : Int) (K : AV → List AO → Prop) : Prop := K (.tup [.fz RasT noRas, .ifc 107 (.ptr 0 0)]) [.box [.fz int at_, .fz .raw (er E e)]]
theorem wrong_any (G : List (Nat × Value)) (n : Int) (v : Value) (K : AV → List AO → Prop) (hK : K (.tup [.fz RasT noRas, .ifc 107 (.ptr 0 0)]) [.box [.fz int n, .fz .raw v]]) :
    ACall Tryz.prog G 50 [.fz int n, .fz .raw v] [] K := by
  refine acall_mk (E := envAt G 12 0) (envOk _ _ _) Tryz.func50 rfl rfl rfl rfl rfl ?_
  (repeat' (first | exact trivial | exact fun h => h | refine And.intro ?_ ?_ | (intro hb; first | (simp at hb; done) | (simp at hb) | skip) | omega | exact rfl | exact Nat.le_refl _ | (show _ + 1 ≤ 4294967296; omega) | (dsimp only; omega) | (show (_ : Int) ≤ (_ : Int); omega) | (show _ < List.length _; simp only [List.length_set, List.length_append, List.length_take]; omega) | (show wantB _ _ = true; simp; done) | (show wantB _ _ = true; simp; omega) | (show (_ : Bool) = _; simp_all; done) | (exfalso; omega) | refine aRegion_auto (by decide +kernel) ?_ | fail))
  refine ⟨_, _, (REnt.conv [.dat RasT, .keep] _ rfl ?_).trans (REnt.ren [1] rfl ?_ ⟨rfl, rfl⟩), hK⟩
  · (repeat' (first | exact trivial | refine And.intro ?_ ?_ | (show _ ≤ _; omega) | (show _ ≤ _; simp; done)))
  · (repeat' (first | exact trivial | exact rfl | refine And.intro ?_ ?_))
theorem side_any (G : List (Nat × Value)) (n : Int) (K : AV → List AO → Prop) (hK : K (.fz .bool (decide (1 ≤ n ∧ n ≤ 128))) []) : ACall Tryz.prog G 53 [.fz int n] [] K := by
  refine acall_mk (E := envAt G 9 0) (envOk _ _ _) Tryz.func53 rfl rfl rfl rfl rfl ?_
  (repeat' (first | exact trivial | exact fun h => h | refine And.intro ?_ ?_ | (intro hb; first | (simp at hb; done) | (simp at hb) | skip) | omega | exact rfl | exact Nat.le_refl _ | (show _ + 1 ≤ 4294967296; omega) | (dsimp only; omega) | (show (_ : Int) ≤ (_ : Int); omega) | (show _ < List.length _; simp only [List.length_set, List.length_append, List.length_take]; omega) | (show wantB _ _ = true; simp; done) | (show wantB _ _ = true; simp; omega) | (show (_ : Bool) = _; simp_all; done) | (exfalso; omega) | refine aRegion_auto (by decide +kernel) ?_ | refine ⟨_, _, REnt.drop ⟨rfl, rfl⟩, ?_⟩ | fail))
  refine kb hK ?_
  by_cases h1 : 1 ≤ n <;> by_cases h2 : n ≤ 128 <;> simp [h1, h2] <;> omega
theorem side_yes (G : List (Nat × Value)) (n : Int) (h : 1 ≤ n ∧ n ≤ 128) (K : AV → List AO → Prop) (hK : K (.fz .bool true) []) : ACall Tryz.prog G 53 [.fz int n] [] K :=
  side_any G n K (by rw [decide_eq_true h]; exact hK)
theorem side_no (G : List (Nat × Value)) (n : Int) (h : ¬ (1 ≤ n ∧ n ≤ 128)) (K : AV → List AO → Prop) (hK : K (.fz .bool false) []) : ACall Tryz.prog G 53 [.fz int n] [] K :=
  side_any G n K (by rw [decide_eq_false h]; exact hK)
set_option maxHeartbeats 4000000 in
theorem read_any {E : Errs} {sy ra : Addr} {mx : Int} (s : ByteArray) (hw : ByteArray.size s ≤ 1000000) (K : AV → List AO → Prop) (hG : ∀ r, rdQ (bl s) = ((0, -1), r) → K (.tup [.fz RasT r, .fz .raw .nilIface]) [])
    (hB : ∀ (e : Nat) (n : Int), 0 < e → e ≤ 8 → rdQ (bl s) = ((e, n), noRas) → badR E e n K) :
    ACall Tryz.prog (GT E sy ra mx) 14 [.fz .str s] [] K := by
  generalize hGT : GT E sy ra mx = G
  refine acall_mk (E := envAt G 147 0) (envOk _ _ _) Tryz.func14 rfl rfl rfl rfl rfl ?_
  subst hGT
  have hbl := bl_len s
  unfold rdQ at hG hB
  have hpl : 0 < (cut 10 (bl s)).length ∧ (cut 10 (bl s)).length ≤ (bl s).length + 1 := cutG_len 10 (bl s) []
  have hps : ∀ w, w ∈ cut 10 (bl s) → w.length ≤ ([] : List UInt8).length + (bl s).length := cutG_size 10 (bl s) []
  by_cases hbig : 200000 < ByteArray.size s
  · rw [if_pos (by rw [bl_len]; exact hbig)] at hB
    have hB := hB 2 0 (by decide) (by decide) rfl
    (repeat' (first | exact trivial | exact fun h => h | refine And.intro ?_ ?_ | (intro hb; first | (simp at hb; done) | (simp at hb) | skip) | omega | exact rfl | exact Nat.le_refl _ | (show _ + 1 ≤ 4294967296; omega) | (dsimp only; omega) | (show (_ : Int) ≤ (_ : Int); omega) | (show _ < List.length _; simp only [List.length_set, List.length_append, List.length_take]; omega) | (show wantB _ _ = true; simp; done) | (show wantB _ _ = true; simp; omega) | (show (_ : Bool) = _; simp_all; done) | (exfalso; omega) | refine aRegion_auto (by decide +kernel) ?_ | fail))
    refine acall_frame0 rfl (wrong_any _ 0 (errV E.bound) _ ?_)
    (repeat' (first | exact trivial | exact fun h => h | refine And.intro ?_ ?_ | (intro hb; first | (simp at hb; done) | (simp at hb) | skip) | omega | exact rfl | exact Nat.le_refl _ | (show _ + 1 ≤ 4294967296; omega) | (dsimp only; omega) | (show (_ : Int) ≤ (_ : Int); omega) | (show _ < List.length _; simp only [List.length_set, List.length_append, List.length_take]; omega) | (show wantB _ _ = true; simp; done) | (show wantB _ _ = true; simp; omega) | (show (_ : Bool) = _; simp_all; done) | (exfalso; omega) | refine aRegion_auto (by decide +kernel) ?_ | fail))
    refine ⟨_, _, (REnt.conv [.dat RasT, .keep] _ rfl ?_).trans (REnt.ren [1] rfl ?_ ⟨rfl, rfl⟩), hB⟩
    · (repeat' (first | exact trivial | refine And.intro ?_ ?_ | (show _ ≤ _; omega) | (show _ ≤ _; simp; done)))
    · (repeat' (first | exact trivial | exact rfl | refine And.intro ?_ ?_))
  rw [if_neg (by rw [bl_len]; exact hbig)] at hB hG
  (repeat' (first | exact trivial | exact fun h => h | refine And.intro ?_ ?_ | (intro hb; first | (simp at hb; done) | (simp at hb) | skip) | omega | exact rfl | exact Nat.le_refl _ | (show _ + 1 ≤ 4294967296; omega) | (dsimp only; omega) | (show (_ : Int) ≤ (_ : Int); omega) | (show _ < List.length _; simp only [List.length_set, List.length_append, List.length_take]; omega) | (show wantB _ _ = true; simp; done) | (show wantB _ _ = true; simp; omega) | (show (_ : Bool) = _; simp_all; done) | (exfalso; omega) | refine aRegion_auto (by decide +kernel) ?_ | fail))
  refine acall_frame0 rfl (split_any s 10 _ rfl hw _ ?_)
  generalize hcut : cut 10 (bl s) = ps at *
  have hml : (ps.map bs).length = ps.length := by simp
  have hat : ∀ k, k < ps.length → List.getD (ps.map bs) k ByteArray.empty = bs (ps.getD k []) := fun k hk => getD_map ps k hk
  have hsz : ∀ k, k < ps.length → (ps.getD k []).length ≤ 1000000 := fun k hk => by
    have := hps (ps.getD k []) (by simp [List.getD, hk])
    simp only [List.length_nil, Nat.zero_add] at this; omega
  (repeat' (first | exact trivial | exact fun h => h | refine And.intro ?_ ?_ | (intro hb; first | (simp at hb; done) | (simp at hb) | skip) | omega | exact rfl | exact Nat.le_refl _ | (show _ + 1 ≤ 4294967296; omega) | (dsimp only; omega) | (show (_ : Int) ≤ (_ : Int); omega) | (show _ < List.length _; simp only [List.length_set, List.length_append, List.length_take]; omega) | (show wantB _ _ = true; simp; done) | (show wantB _ _ = true; simp; omega) | (show (_ : Bool) = _; simp_all; done) | (exfalso; omega) | refine aRegion_auto (by decide +kernel) ?_ | fail))
  refine acall_frame0 rfl (acall_arg (numbers_any (bs (ps.getD 0 [])) (by rw [bs_size]; exact hsz 0 (by omega)) _ (fun l hl => ?_) (fun hl => ?_)) (congrArg (fun x => [AV.fz .str x]) (hat 0 (by omega)).symm))
  · rw [bl, bs_list] at hl
    have hlen := numsOf_len hl
    by_cases h2 : l.length = 2
    · obtain ⟨w, h, rfl⟩ : ∃ w h, l = [w, h] := by
        match l, h2 with
        | [w, h], _ => exact ⟨w, h, rfl⟩
      by_cases hside : (1 ≤ w ∧ w ≤ 128) ∧ (1 ≤ h ∧ h ≤ 128) ∧ 2 ≤ ps.length
      · obtain ⟨hwi, hhi, hlt⟩ := hside
        have hq : hdQ ps = some (w, h) := hdQ_some hl hlt hwi.1 hwi.2 hhi.1 hhi.2
        rw [hq] at hB hG
        simp only at hB hG
        obtain ⟨W, rfl⟩ : ∃ W : Nat, w = W := ⟨w.toNat, by omega⟩
        obtain ⟨H, rfl⟩ : ∃ H : Nat, h = H := ⟨h.toNat, by omega⟩
        rw [show ((H : Int)).toNat = H by omega] at hB hG
        have hBr : ∀ r : Nat, 1 ≤ r → rws ps W H 1 [] = (r, []) → badR E 1 r K := fun r hr e => by
          obtain ⟨r, rfl⟩ : ∃ q, r = q + 1 := ⟨r - 1, by omega⟩
          exact hB 1 ((r + 1 : Nat) : Int) (by decide) (by decide) (by rw [e]; rfl)
        (repeat' (first | exact trivial | exact fun h => h | refine And.intro ?_ ?_ | (intro hb; first | (simp at hb; done) | (simp at hb) | skip) | omega | exact rfl | exact Nat.le_refl _ | (show _ + 1 ≤ 4294967296; omega) | (dsimp only; omega) | (show (_ : Int) ≤ (_ : Int); omega) | (show _ < List.length _; simp only [List.length_set, List.length_append, List.length_take]; omega) | (show wantB _ _ = true; simp; done) | (show wantB _ _ = true; simp; omega) | (show (_ : Bool) = _; simp_all; done) | (exfalso; omega) | refine aRegion_auto (by decide +kernel) ?_ | fail))
        refine acall_frame0 rfl (side_yes _ (W : Int) hwi _ ?_)
        (repeat' (first | exact trivial | exact fun h => h | refine And.intro ?_ ?_ | (intro hb; first | (simp at hb; done) | (simp at hb) | skip) | omega | exact rfl | exact Nat.le_refl _ | (show _ + 1 ≤ 4294967296; omega) | (dsimp only; omega) | (show (_ : Int) ≤ (_ : Int); omega) | (show _ < List.length _; simp only [List.length_set, List.length_append, List.length_take]; omega) | (show wantB _ _ = true; simp; done) | (show wantB _ _ = true; simp; omega) | (show (_ : Bool) = _; simp_all; done) | (exfalso; omega) | refine aRegion_auto (by decide +kernel) ?_ | fail))
        refine acall_frame0 rfl (side_yes _ (H : Int) hhi _ ?_)
        (repeat' (first | exact trivial | exact fun h => h | refine And.intro ?_ ?_ | (intro hb; first | (simp at hb; done) | (simp at hb) | skip) | omega | exact rfl | exact Nat.le_refl _ | (show _ + 1 ≤ 4294967296; omega) | (dsimp only; omega) | (show (_ : Int) ≤ (_ : Int); omega) | (show _ < List.length _; simp only [List.length_set, List.length_append, List.length_take]; omega) | (show wantB _ _ = true; simp; done) | (show wantB _ _ = true; simp; omega) | (show (_ : Bool) = _; simp_all; done) | (exfalso; omega) | refine aRegion_auto (by decide +kernel) ?_ | fail))
        (apply exEff; focus (repeat' (first | exact ⟨rfl, rfl⟩ | exact trivial | refine And.intro ?_ ?_ | omega | exact Nat.le_refl _ | (show _ + 1 ≤ 4294967296; omega))))
        (repeat' (first | exact trivial | exact fun h => h | refine And.intro ?_ ?_ | (intro hb; first | (simp at hb; done) | (simp at hb) | skip) | omega | exact rfl | exact Nat.le_refl _ | (show _ + 1 ≤ 4294967296; omega) | (dsimp only; omega) | (show (_ : Int) ≤ (_ : Int); omega) | (show _ < List.length _; simp only [List.length_set, List.length_append, List.length_take]; omega) | (show wantB _ _ = true; simp; done) | (show wantB _ _ = true; simp; omega) | (show (_ : Bool) = _; simp_all; done) | (exfalso; omega) | refine aRegion_auto (by decide +kernel) ?_ | fail))
        (apply exEff; focus (repeat' (first | exact ⟨rfl, rfl⟩ | exact trivial | refine And.intro ?_ ?_ | omega | exact Nat.le_refl _ | (show _ + 1 ≤ 4294967296; omega))))
        (repeat' (first | exact trivial | exact fun h => h | refine And.intro ?_ ?_ | (intro hb; first | (simp at hb; done) | (simp at hb) | skip) | omega | exact rfl | exact Nat.le_refl _ | (show _ + 1 ≤ 4294967296; omega) | (dsimp only; omega) | (show (_ : Int) ≤ (_ : Int); omega) | (show _ < List.length _; simp only [List.length_set, List.length_append, List.length_take]; omega) | (show wantB _ _ = true; simp; done) | (show wantB _ _ = true; simp; omega) | (show (_ : Bool) = _; simp_all; done) | (exfalso; omega) | refine aRegion_auto (by decide +kernel) ?_ | fail))
        refine ⟨Nat × List Int, fun q => ⟨[(2, .ptr 0 0), (3, .fz .raw .nilIface), (4, .fn 50 []), (5, .fz (.list .str) (ps.map bs)), (6, .fz int (((ps.map bs).length : Int) - 1)), (10, .ptr 1 0), (11, .fz int (q.1 : Int))], [.box [.fz int 0, .fz int 0, .nilSl], .box [.fz int (W : Int), .fz int (H : Int), .ref 2 0 q.2.length], .row int q.2]⟩, fun q => 1 ≤ q.1 ∧ q.1 ≤ H + 1 ∧ q.1 ≤ ps.length - 1 ∧ q.2.length ≤ 128 * (q.1 - 1) ∧ rws ps W (H + 1 - q.1) q.1 q.2 = rws ps W H 1 [], fun q => H + 1 - q.1, (1, []), ⟨Nat.le_refl _, by show 1 ≤ H + 1; omega, by show 1 ≤ _; omega, Nat.zero_le _, rfl⟩, (Ent.nilBox 1 2 int rfl rfl).trans (Ent.sub rfl ?_), ?_⟩
        · (repeat' (first | exact trivial | exact rfl | refine And.intro ?_ ?_))
        intro ⟨r, L⟩ ⟨hr1, hr2, hr3, hLl, hrw⟩
        have hr1 : 1 ≤ r := hr1
        have hr2 : r ≤ H + 1 := hr2
        have hr3 : r ≤ ps.length - 1 := hr3
        have hLl : L.length ≤ 128 * (r - 1) := hLl
        have hrw : rws ps W (H + 1 - r) r L = rws ps W H 1 [] := hrw
        show awp _ _ _ ⟨[(2, .ptr 0 0), (3, .fz .raw .nilIface), (4, .fn 50 []), (5, .fz (.list .str) (ps.map bs)), (6, .fz int (((ps.map bs).length : Int) - 1)), (10, .ptr 1 0), (11, .fz int (r : Int))], [.box [.fz int 0, .fz int 0, .nilSl], .box [.fz int (W : Int), .fz int (H : Int), .ref 2 0 L.length], .row int L]⟩
        by_cases hrH : r ≤ H
        · obtain ⟨k, hk⟩ : ∃ k, H + 1 - r = k + 1 := ⟨H - r, by omega⟩
          rw [hk] at hrw
          by_cases hre : ps.length - 1 ≤ r
          · have hB := hBr r hr1 (by rw [← hrw]; exact rws_end _ _ _ _ _ hre)
            (repeat' (first | exact trivial | exact fun h => h | refine And.intro ?_ ?_ | (intro hb; first | (simp at hb; done) | (simp at hb) | skip) | omega | exact rfl | exact Nat.le_refl _ | (show _ + 1 ≤ 4294967296; omega) | (dsimp only; omega) | (show (_ : Int) ≤ (_ : Int); omega) | (show _ < List.length _; simp only [List.length_set, List.length_append, List.length_take]; omega) | (show wantB _ _ = true; simp; done) | (show wantB _ _ = true; simp; omega) | (show (_ : Bool) = _; simp_all; done) | (exfalso; omega) | refine aRegion_auto (by decide +kernel) ?_ | fail))
            refine acall_frame0 rfl (wrong_any _ (r : Int) (errV E.text) _ ?_)
            (repeat' (first | exact trivial | exact fun h => h | refine And.intro ?_ ?_ | (intro hb; first | (simp at hb; done) | (simp at hb) | skip) | omega | exact rfl | exact Nat.le_refl _ | (show _ + 1 ≤ 4294967296; omega) | (dsimp only; omega) | (show (_ : Int) ≤ (_ : Int); omega) | (show _ < List.length _; simp only [List.length_set, List.length_append, List.length_take]; omega) | (show wantB _ _ = true; simp; done) | (show wantB _ _ = true; simp; omega) | (show (_ : Bool) = _; simp_all; done) | (exfalso; omega) | refine aRegion_auto (by decide +kernel) ?_ | fail))
            refine ⟨_, _, (REnt.conv [.dat RasT, .keep] _ rfl ?_).trans (REnt.ren [3] rfl ?_ ⟨rfl, rfl⟩), hB⟩
            · (repeat' (first | exact trivial | refine And.intro ?_ ?_ | (show _ ≤ _; omega) | (show _ ≤ _; simp; done)))
            · (repeat' (first | exact trivial | exact rfl | refine And.intro ?_ ?_))
          · have hrl : r < ps.length := by omega
            (repeat' (first | exact trivial | exact fun h => h | refine And.intro ?_ ?_ | (intro hb; first | (simp at hb; done) | (simp at hb) | skip) | omega | exact rfl | exact Nat.le_refl _ | (show _ + 1 ≤ 4294967296; omega) | (dsimp only; omega) | (show (_ : Int) ≤ (_ : Int); omega) | (show _ < List.length _; simp only [List.length_set, List.length_append, List.length_take]; omega) | (show wantB _ _ = true; simp; done) | (show wantB _ _ = true; simp; omega) | (show (_ : Bool) = _; simp_all; done) | (exfalso; omega) | refine aRegion_auto (by decide +kernel) ?_ | fail))
            refine acall_frame0 rfl (acall_arg (numbers_any (bs (ps.getD r [])) (by rw [bs_size]; exact hsz r hrl) _ (fun l hl => ?_) (fun hl => ?_)) (congrArg (fun x => [AV.fz .str x]) (hat r hrl).symm))
            · rw [bl, bs_list] at hl
              by_cases hlw : (l.length : Int) = W
              · have hrw2 := hrw
                rw [rws_step _ _ _ _ _ l (by omega) hl hlw] at hrw2
                (repeat' (first | exact trivial | exact fun h => h | refine And.intro ?_ ?_ | (intro hb; first | (simp at hb; done) | (simp at hb) | skip) | omega | exact rfl | exact Nat.le_refl _ | (show _ + 1 ≤ 4294967296; omega) | (dsimp only; omega) | (show (_ : Int) ≤ (_ : Int); omega) | (show _ < List.length _; simp only [List.length_set, List.length_append, List.length_take]; omega) | (show wantB _ _ = true; simp; done) | (show wantB _ _ = true; simp; omega) | (show (_ : Bool) = _; simp_all; done) | (exfalso; omega) | refine aRegion_auto (by decide +kernel) ?_ | fail))
                refine ⟨(r + 1, L ++ l), ⟨by show 1 ≤ r + 1; omega, by show r + 1 ≤ H + 1; omega, by show r + 1 ≤ ps.length - 1; omega, by show (L ++ l).length ≤ 128 * (r + 1 - 1); rw [List.length_append]; omega, by show rws ps W (H + 1 - (r + 1)) (r + 1) (L ++ l) = _; rw [show H + 1 - (r + 1) = k by omega]; exact hrw2⟩, by show _ - (r + 1) < _ - r; omega, Ent.ren [0, 1, 3] rfl ?_ ?_⟩
                · (repeat' (first | exact trivial | exact rfl | refine And.intro ?_ ?_))
                  · exact congrArg (fun n => some (AO.box [.fz int (W : Int), .fz int (H : Int), .ref 3 0 n])) (show (L ++ l).length = L.length + l.length from List.length_append).symm
                  · exact congrArg (fun x => some (AO.row int (x ++ l))) (List.take_length (l := L))
                · (repeat' (first | exact trivial | exact rfl | refine And.intro ?_ ?_))
              · have hB := hBr r hr1 (by rw [← hrw]; exact rws_bad _ _ _ _ _ l (by omega) hl hlw)
                (repeat' (first | exact trivial | exact fun h => h | refine And.intro ?_ ?_ | (intro hb; first | (simp at hb; done) | (simp at hb) | skip) | omega | exact rfl | exact Nat.le_refl _ | (show _ + 1 ≤ 4294967296; omega) | (dsimp only; omega) | (show (_ : Int) ≤ (_ : Int); omega) | (show _ < List.length _; simp only [List.length_set, List.length_append, List.length_take]; omega) | (show wantB _ _ = true; simp; done) | (show wantB _ _ = true; simp; omega) | (show (_ : Bool) = _; simp_all; done) | (exfalso; omega) | refine aRegion_auto (by decide +kernel) ?_ | fail))
                refine acall_frame0 rfl (wrong_any _ (r : Int) (errV E.text) _ ?_)
                (repeat' (first | exact trivial | exact fun h => h | refine And.intro ?_ ?_ | (intro hb; first | (simp at hb; done) | (simp at hb) | skip) | omega | exact rfl | exact Nat.le_refl _ | (show _ + 1 ≤ 4294967296; omega) | (dsimp only; omega) | (show (_ : Int) ≤ (_ : Int); omega) | (show _ < List.length _; simp only [List.length_set, List.length_append, List.length_take]; omega) | (show wantB _ _ = true; simp; done) | (show wantB _ _ = true; simp; omega) | (show (_ : Bool) = _; simp_all; done) | (exfalso; omega) | refine aRegion_auto (by decide +kernel) ?_ | fail))
                refine ⟨_, _, (REnt.conv [.dat RasT, .keep] _ rfl ?_).trans (REnt.ren [3] rfl ?_ ⟨rfl, rfl⟩), hB⟩
                · (repeat' (first | exact trivial | refine And.intro ?_ ?_ | (show _ ≤ _; omega) | (show _ ≤ _; simp; done)))
                · (repeat' (first | exact trivial | exact rfl | refine And.intro ?_ ?_))
            · rw [bl, bs_list] at hl
              have hB := hBr r hr1 (by rw [← hrw]; exact rws_none _ _ _ _ _ (by omega) hl)
              (repeat' (first | exact trivial | exact fun h => h | refine And.intro ?_ ?_ | (intro hb; first | (simp at hb; done) | (simp at hb) | skip) | omega | exact rfl | exact Nat.le_refl _ | (show _ + 1 ≤ 4294967296; omega) | (dsimp only; omega) | (show (_ : Int) ≤ (_ : Int); omega) | (show _ < List.length _; simp only [List.length_set, List.length_append, List.length_take]; omega) | (show wantB _ _ = true; simp; done) | (show wantB _ _ = true; simp; omega) | (show (_ : Bool) = _; simp_all; done) | (exfalso; omega) | refine aRegion_auto (by decide +kernel) ?_ | fail))
              refine acall_frame0 rfl (wrong_any _ (r : Int) (errV E.text) _ ?_)
              (repeat' (first | exact trivial | exact fun h => h | refine And.intro ?_ ?_ | (intro hb; first | (simp at hb; done) | (simp at hb) | skip) | omega | exact rfl | exact Nat.le_refl _ | (show _ + 1 ≤ 4294967296; omega) | (dsimp only; omega) | (show (_ : Int) ≤ (_ : Int); omega) | (show _ < List.length _; simp only [List.length_set, List.length_append, List.length_take]; omega) | (show wantB _ _ = true; simp; done) | (show wantB _ _ = true; simp; omega) | (show (_ : Bool) = _; simp_all; done) | (exfalso; omega) | refine aRegion_auto (by decide +kernel) ?_ | fail))
              refine ⟨_, _, (REnt.conv [.dat RasT, .keep] _ rfl ?_).trans (REnt.ren [3] rfl ?_ ⟨rfl, rfl⟩), hB⟩
              · (repeat' (first | exact trivial | refine And.intro ?_ ?_ | (show _ ≤ _; omega) | (show _ ≤ _; simp; done)))
              · (repeat' (first | exact trivial | exact rfl | refine And.intro ?_ ?_))
        · obtain rfl : r = H + 1 := by omega
          have e0 : rws ps W H 1 [] = (0, L) := by rw [← hrw, Nat.sub_self]; rfl
          rw [e0] at hB hG
          simp only at hB hG
          have hlast : ByteArray.toList ((Option.map bs ps[ps.length - 1]?).getD Ty.str.dft) = ps.getD (ps.length - 1) [] := by
            have e : (Option.map bs ps[ps.length - 1]?).getD Ty.str.dft = bs (ps.getD (ps.length - 1) []) := by rw [← hat _ (by omega)]; simp [List.getD, Ty.dft]
            rw [e, ByteArray.toList_eq, bs_list]
          by_cases htail : (H : Int) + 1 < (ps.length : Int) - 1 ∨ ps.getD (ps.length - 1) [] ≠ []
          · rw [if_pos htail] at hB
            have hB := hB 1 ((H : Int) + 1) (by decide) (by decide) rfl
            (repeat' (first | exact trivial | exact fun h => h | refine And.intro ?_ ?_ | (intro hb; first | (simp at hb; done) | (simp at hb) | skip) | omega | exact rfl | exact Nat.le_refl _ | (show _ + 1 ≤ 4294967296; omega) | (dsimp only; omega) | (show (_ : Int) ≤ (_ : Int); omega) | (show _ < List.length _; simp only [List.length_set, List.length_append, List.length_take]; omega) | (show wantB _ _ = true; simp; done) | (show wantB _ _ = true; simp; omega) | (show (_ : Bool) = _; simp_all; done) | (exfalso; omega) | refine aRegion_auto (by decide +kernel) ?_ | fail))
            · refine acall_frame0 rfl (wrong_any _ ((H : Int) + 1) (errV E.text) _ ?_)
              (repeat' (first | exact trivial | exact fun h => h | refine And.intro ?_ ?_ | (intro hb; first | (simp at hb; done) | (simp at hb) | skip) | omega | exact rfl | exact Nat.le_refl _ | (show _ + 1 ≤ 4294967296; omega) | (dsimp only; omega) | (show (_ : Int) ≤ (_ : Int); omega) | (show _ < List.length _; simp only [List.length_set, List.length_append, List.length_take]; omega) | (show wantB _ _ = true; simp; done) | (show wantB _ _ = true; simp; omega) | (show (_ : Bool) = _; simp_all; done) | (exfalso; omega) | refine aRegion_auto (by decide +kernel) ?_ | fail))
              refine ⟨_, _, (REnt.conv [.dat RasT, .keep] _ rfl ?_).trans (REnt.ren [3] rfl ?_ ⟨rfl, rfl⟩), hB⟩
              · (repeat' (first | exact trivial | refine And.intro ?_ ?_ | (show _ ≤ _; omega) | (show _ ≤ _; simp; done)))
              · (repeat' (first | exact trivial | exact rfl | refine And.intro ?_ ?_))
            · exfalso
              rcases htail with q | q
              · omega
              · exact q (hlast.symm.trans hb.2)
          · rw [if_neg htail] at hB hG
            have hlen1 : ps.length - 1 = H + 1 := by omega
            have hl0 : ps.getD (ps.length - 1) [] = [] := Classical.byContradiction fun q => htail (.inr q)
            (repeat' (first | exact trivial | exact fun h => h | refine And.intro ?_ ?_ | (intro hb; first | (simp at hb; done) | (simp at hb) | skip) | omega | exact rfl | exact Nat.le_refl _ | (show _ + 1 ≤ 4294967296; omega) | (dsimp only; omega) | (show (_ : Int) ≤ (_ : Int); omega) | (show _ < List.length _; simp only [List.length_set, List.length_append, List.length_take]; omega) | (show wantB _ _ = true; simp; done) | (show wantB _ _ = true; simp; omega) | (show (_ : Bool) = _; simp_all; done) | (exfalso; omega) | refine aRegion_auto (by decide +kernel) ?_ | fail))
            · exfalso
              rcases hb with q | q
              · omega
              · exact q (hlast.trans hl0)
            have ea : (((W : Int), (H : Int), List.take L.length L) : Ras) = ((W : Int), (H : Int), L) := by rw [List.take_length]
            have hLen : (L.length : Int) = H * W := by
              have := rws_len ps W H 1 [] L (by decide) e0
              simpa using this
            have hmul := mul_bd (a := (H : Int)) (b := (W : Int)) (A := 128) (B := 128) (by omega) (by omega) (by omega) (by omega)
            (repeat' (first | exact trivial | exact fun h => h | refine And.intro ?_ ?_ | (intro hb; first | (simp at hb; done) | (simp at hb) | skip) | omega | exact rfl | exact Nat.le_refl _ | (show _ + 1 ≤ 4294967296; omega) | (dsimp only; omega) | (show (_ : Int) ≤ (_ : Int); omega) | (show _ < List.length _; simp only [List.length_set, List.length_append, List.length_take]; omega) | (show wantB _ _ = true; simp; done) | (show wantB _ _ = true; simp; omega) | (show (_ : Bool) = _; simp_all; done) | (exfalso; omega) | refine aRegion_auto (by decide +kernel) ?_ | fail))
            refine acall_lend [.dat RasT] _ _ _ rfl ?_ rfl ?_
            · (repeat' (first | exact trivial | refine And.intro ?_ ?_ | (show _ ≤ _; omega) | (show _ ≤ _; simp; done)))
            refine up_ge (valid_any E ((W : Int), (H : Int), List.take L.length L) (by show (List.take L.length L).length ≤ _; rw [List.take_length]; omega) _ (fun hv => ?_) (fun hv => ?_) (fun hv => ?_) (fun hv => ?_))
            · rw [ea] at hv
              rw [if_pos hv] at hG
              have hG := hG _ rfl
              refine And.intro rfl ?_
              (repeat' (first | exact trivial | exact fun h => h | refine And.intro ?_ ?_ | (intro hb; first | (simp at hb; done) | (simp at hb) | skip) | omega | exact rfl | exact Nat.le_refl _ | (show _ + 1 ≤ 4294967296; omega) | (dsimp only; omega) | (show (_ : Int) ≤ (_ : Int); omega) | (show _ < List.length _; simp only [List.length_set, List.length_append, List.length_take]; omega) | (show wantB _ _ = true; simp; done) | (show wantB _ _ = true; simp; omega) | (show (_ : Bool) = _; simp_all; done) | (exfalso; omega) | refine aRegion_auto (by decide +kernel) ?_ | fail))
              refine ⟨_, _, (REnt.conv [.dat RasT, .keep] _ rfl ?_).trans (REnt.drop ⟨rfl, rfl⟩), ?_⟩
              · (repeat' (first | exact trivial | refine And.intro ?_ ?_ | (show _ ≤ _; omega) | (show _ ≤ _; simp; done)))
              rw [← ea] at hG
              exact hG
            · exfalso
              rw [ea] at hv
              unfold rerr at hv
              rw [if_neg (by show ¬ ((128 : Int) < W ∨ (128 : Int) < H); omega)] at hv
              split at hv
              · omega
              · split at hv <;> omega
            · exfalso
              rw [ea] at hv
              unfold rerr at hv
              rw [if_neg (by show ¬ ((128 : Int) < W ∨ (128 : Int) < H); omega), if_neg (by show ¬ ((W : Int) < 1 ∨ (H : Int) < 1 ∨ (L.length : Int) ≠ W * H); rw [hLen, Int.mul_comm]; omega)] at hv
              split at hv <;> omega
            · rw [ea] at hv
              rw [if_neg (by omega)] at hB
              have hB := hB 4 0 (by decide) (by decide) rfl
              refine And.intro rfl ?_
              (repeat' (first | exact trivial | exact fun h => h | refine And.intro ?_ ?_ | (intro hb; first | (simp at hb; done) | (simp at hb) | skip) | omega | exact rfl | exact Nat.le_refl _ | (show _ + 1 ≤ 4294967296; omega) | (dsimp only; omega) | (show (_ : Int) ≤ (_ : Int); omega) | (show _ < List.length _; simp only [List.length_set, List.length_append, List.length_take]; omega) | (show wantB _ _ = true; simp; done) | (show wantB _ _ = true; simp; omega) | (show (_ : Bool) = _; simp_all; done) | (exfalso; omega) | refine aRegion_auto (by decide +kernel) ?_ | fail))
              refine acall_frame0 rfl (wrong_any _ 0 (errV E.range) _ ?_)
              (repeat' (first | exact trivial | exact fun h => h | refine And.intro ?_ ?_ | (intro hb; first | (simp at hb; done) | (simp at hb) | skip) | omega | exact rfl | exact Nat.le_refl _ | (show _ + 1 ≤ 4294967296; omega) | (dsimp only; omega) | (show (_ : Int) ≤ (_ : Int); omega) | (show _ < List.length _; simp only [List.length_set, List.length_append, List.length_take]; omega) | (show wantB _ _ = true; simp; done) | (show wantB _ _ = true; simp; omega) | (show (_ : Bool) = _; simp_all; done) | (exfalso; omega) | refine aRegion_auto (by decide +kernel) ?_ | fail))
              refine ⟨_, _, (REnt.conv [.dat RasT, .keep] _ rfl ?_).trans (REnt.ren [3] rfl ?_ ⟨rfl, rfl⟩), hB⟩
              · (repeat' (first | exact trivial | refine And.intro ?_ ?_ | (show _ ≤ _; omega) | (show _ ≤ _; simp; done)))
              · (repeat' (first | exact trivial | exact rfl | refine And.intro ?_ ?_))
      · have hq : hdQ ps = none := hdQ_bad (fun w' h' e => by rw [hl] at e; cases e; omega)
        rw [hq] at hB
        have hB := hB 1 0 (by decide) (by decide) rfl
        by_cases hwi : 1 ≤ w ∧ w ≤ 128
        · by_cases hhi : 1 ≤ h ∧ h ≤ 128
          · have hlt : ¬ 2 ≤ ps.length := fun q => hside ⟨hwi, hhi, q⟩
            (repeat' (first | exact trivial | exact fun h => h | refine And.intro ?_ ?_ | (intro hb; first | (simp at hb; done) | (simp at hb) | skip) | omega | exact rfl | exact Nat.le_refl _ | (show _ + 1 ≤ 4294967296; omega) | (dsimp only; omega) | (show (_ : Int) ≤ (_ : Int); omega) | (show _ < List.length _; simp only [List.length_set, List.length_append, List.length_take]; omega) | (show wantB _ _ = true; simp; done) | (show wantB _ _ = true; simp; omega) | (show (_ : Bool) = _; simp_all; done) | (exfalso; omega) | refine aRegion_auto (by decide +kernel) ?_ | fail))
            refine acall_frame0 rfl (wrong_any _ 0 (errV E.text) _ ?_)
            (repeat' (first | exact trivial | exact fun h => h | refine And.intro ?_ ?_ | (intro hb; first | (simp at hb; done) | (simp at hb) | skip) | omega | exact rfl | exact Nat.le_refl _ | (show _ + 1 ≤ 4294967296; omega) | (dsimp only; omega) | (show (_ : Int) ≤ (_ : Int); omega) | (show _ < List.length _; simp only [List.length_set, List.length_append, List.length_take]; omega) | (show wantB _ _ = true; simp; done) | (show wantB _ _ = true; simp; omega) | (show (_ : Bool) = _; simp_all; done) | (exfalso; omega) | refine aRegion_auto (by decide +kernel) ?_ | fail))
            refine ⟨_, _, (REnt.conv [.dat RasT, .keep] _ rfl ?_).trans (REnt.ren [1] rfl ?_ ⟨rfl, rfl⟩), hB⟩
            · (repeat' (first | exact trivial | refine And.intro ?_ ?_ | (show _ ≤ _; omega) | (show _ ≤ _; simp; done)))
            · (repeat' (first | exact trivial | exact rfl | refine And.intro ?_ ?_))
          · (repeat' (first | exact trivial | exact fun h => h | refine And.intro ?_ ?_ | (intro hb; first | (simp at hb; done) | (simp at hb) | skip) | omega | exact rfl | exact Nat.le_refl _ | (show _ + 1 ≤ 4294967296; omega) | (dsimp only; omega) | (show (_ : Int) ≤ (_ : Int); omega) | (show _ < List.length _; simp only [List.length_set, List.length_append, List.length_take]; omega) | (show wantB _ _ = true; simp; done) | (show wantB _ _ = true; simp; omega) | (show (_ : Bool) = _; simp_all; done) | (exfalso; omega) | refine aRegion_auto (by decide +kernel) ?_ | fail))
            · refine acall_frame0 rfl (side_yes _ w hwi _ ?_)
              (repeat' (first | exact trivial | exact fun h => h | refine And.intro ?_ ?_ | (intro hb; first | (simp at hb; done) | (simp at hb) | skip) | omega | exact rfl | exact Nat.le_refl _ | (show _ + 1 ≤ 4294967296; omega) | (dsimp only; omega) | (show (_ : Int) ≤ (_ : Int); omega) | (show _ < List.length _; simp only [List.length_set, List.length_append, List.length_take]; omega) | (show wantB _ _ = true; simp; done) | (show wantB _ _ = true; simp; omega) | (show (_ : Bool) = _; simp_all; done) | (exfalso; omega) | refine aRegion_auto (by decide +kernel) ?_ | fail))
              refine acall_frame0 rfl (side_no _ h hhi _ ?_)
              (repeat' (first | exact trivial | exact fun h => h | refine And.intro ?_ ?_ | (intro hb; first | (simp at hb; done) | (simp at hb) | skip) | omega | exact rfl | exact Nat.le_refl _ | (show _ + 1 ≤ 4294967296; omega) | (dsimp only; omega) | (show (_ : Int) ≤ (_ : Int); omega) | (show _ < List.length _; simp only [List.length_set, List.length_append, List.length_take]; omega) | (show wantB _ _ = true; simp; done) | (show wantB _ _ = true; simp; omega) | (show (_ : Bool) = _; simp_all; done) | (exfalso; omega) | refine aRegion_auto (by decide +kernel) ?_ | fail))
              refine acall_frame0 rfl (wrong_any _ 0 (errV E.text) _ ?_)
              (repeat' (first | exact trivial | exact fun h => h | refine And.intro ?_ ?_ | (intro hb; first | (simp at hb; done) | (simp at hb) | skip) | omega | exact rfl | exact Nat.le_refl _ | (show _ + 1 ≤ 4294967296; omega) | (dsimp only; omega) | (show (_ : Int) ≤ (_ : Int); omega) | (show _ < List.length _; simp only [List.length_set, List.length_append, List.length_take]; omega) | (show wantB _ _ = true; simp; done) | (show wantB _ _ = true; simp; omega) | (show (_ : Bool) = _; simp_all; done) | (exfalso; omega) | refine aRegion_auto (by decide +kernel) ?_ | fail))
              refine ⟨_, _, (REnt.conv [.dat RasT, .keep] _ rfl ?_).trans (REnt.ren [1] rfl ?_ ⟨rfl, rfl⟩), hB⟩
              · (repeat' (first | exact trivial | refine And.intro ?_ ?_ | (show _ ≤ _; omega) | (show _ ≤ _; simp; done)))
              · (repeat' (first | exact trivial | exact rfl | refine And.intro ?_ ?_))
            · refine acall_frame0 rfl (wrong_any _ 0 (errV E.text) _ ?_)
              (repeat' (first | exact trivial | exact fun h => h | refine And.intro ?_ ?_ | (intro hb; first | (simp at hb; done) | (simp at hb) | skip) | omega | exact rfl | exact Nat.le_refl _ | (show _ + 1 ≤ 4294967296; omega) | (dsimp only; omega) | (show (_ : Int) ≤ (_ : Int); omega) | (show _ < List.length _; simp only [List.length_set, List.length_append, List.length_take]; omega) | (show wantB _ _ = true; simp; done) | (show wantB _ _ = true; simp; omega) | (show (_ : Bool) = _; simp_all; done) | (exfalso; omega) | refine aRegion_auto (by decide +kernel) ?_ | fail))
              refine ⟨_, _, (REnt.conv [.dat RasT, .keep] _ rfl ?_).trans (REnt.ren [1] rfl ?_ ⟨rfl, rfl⟩), hB⟩
              · (repeat' (first | exact trivial | refine And.intro ?_ ?_ | (show _ ≤ _; omega) | (show _ ≤ _; simp; done)))
              · (repeat' (first | exact trivial | exact rfl | refine And.intro ?_ ?_))
        · (repeat' (first | exact trivial | exact fun h => h | refine And.intro ?_ ?_ | (intro hb; first | (simp at hb; done) | (simp at hb) | skip) | omega | exact rfl | exact Nat.le_refl _ | (show _ + 1 ≤ 4294967296; omega) | (dsimp only; omega) | (show (_ : Int) ≤ (_ : Int); omega) | (show _ < List.length _; simp only [List.length_set, List.length_append, List.length_take]; omega) | (show wantB _ _ = true; simp; done) | (show wantB _ _ = true; simp; omega) | (show (_ : Bool) = _; simp_all; done) | (exfalso; omega) | refine aRegion_auto (by decide +kernel) ?_ | fail))
          · refine acall_frame0 rfl (side_no _ w hwi _ ?_)
            (repeat' (first | exact trivial | exact fun h => h | refine And.intro ?_ ?_ | (intro hb; first | (simp at hb; done) | (simp at hb) | skip) | omega | exact rfl | exact Nat.le_refl _ | (show _ + 1 ≤ 4294967296; omega) | (dsimp only; omega) | (show (_ : Int) ≤ (_ : Int); omega) | (show _ < List.length _; simp only [List.length_set, List.length_append, List.length_take]; omega) | (show wantB _ _ = true; simp; done) | (show wantB _ _ = true; simp; omega) | (show (_ : Bool) = _; simp_all; done) | (exfalso; omega) | refine aRegion_auto (by decide +kernel) ?_ | fail))
            refine acall_frame0 rfl (wrong_any _ 0 (errV E.text) _ ?_)
            (repeat' (first | exact trivial | exact fun h => h | refine And.intro ?_ ?_ | (intro hb; first | (simp at hb; done) | (simp at hb) | skip) | omega | exact rfl | exact Nat.le_refl _ | (show _ + 1 ≤ 4294967296; omega) | (dsimp only; omega) | (show (_ : Int) ≤ (_ : Int); omega) | (show _ < List.length _; simp only [List.length_set, List.length_append, List.length_take]; omega) | (show wantB _ _ = true; simp; done) | (show wantB _ _ = true; simp; omega) | (show (_ : Bool) = _; simp_all; done) | (exfalso; omega) | refine aRegion_auto (by decide +kernel) ?_ | fail))
            refine ⟨_, _, (REnt.conv [.dat RasT, .keep] _ rfl ?_).trans (REnt.ren [1] rfl ?_ ⟨rfl, rfl⟩), hB⟩
            · (repeat' (first | exact trivial | refine And.intro ?_ ?_ | (show _ ≤ _; omega) | (show _ ≤ _; simp; done)))
            · (repeat' (first | exact trivial | exact rfl | refine And.intro ?_ ?_))
          · refine acall_frame0 rfl (wrong_any _ 0 (errV E.text) _ ?_)
            (repeat' (first | exact trivial | exact fun h => h | refine And.intro ?_ ?_ | (intro hb; first | (simp at hb; done) | (simp at hb) | skip) | omega | exact rfl | exact Nat.le_refl _ | (show _ + 1 ≤ 4294967296; omega) | (dsimp only; omega) | (show (_ : Int) ≤ (_ : Int); omega) | (show _ < List.length _; simp only [List.length_set, List.length_append, List.length_take]; omega) | (show wantB _ _ = true; simp; done) | (show wantB _ _ = true; simp; omega) | (show (_ : Bool) = _; simp_all; done) | (exfalso; omega) | refine aRegion_auto (by decide +kernel) ?_ | fail))
            refine ⟨_, _, (REnt.conv [.dat RasT, .keep] _ rfl ?_).trans (REnt.ren [1] rfl ?_ ⟨rfl, rfl⟩), hB⟩
            · (repeat' (first | exact trivial | refine And.intro ?_ ?_ | (show _ ≤ _; omega) | (show _ ≤ _; simp; done)))
            · (repeat' (first | exact trivial | exact rfl | refine And.intro ?_ ?_))
    · have hq : hdQ ps = none := hdQ_bad (fun w h e => by rw [hl] at e; cases e; exact absurd rfl h2)
      rw [hq] at hB
      have hB := hB 1 0 (by decide) (by decide) rfl
      have hn : ((l.length : Int) != 2) = true := by simp; omega
      (repeat' (first | exact trivial | exact fun h => h | refine And.intro ?_ ?_ | (intro hb; first | (simp at hb; done) | (simp at hb) | skip) | omega | exact rfl | exact Nat.le_refl _ | (show _ + 1 ≤ 4294967296; omega) | (dsimp only; omega) | (show (_ : Int) ≤ (_ : Int); omega) | (show _ < List.length _; simp only [List.length_set, List.length_append, List.length_take]; omega) | (show wantB _ _ = true; simp; done) | (show wantB _ _ = true; simp; omega) | (show (_ : Bool) = _; simp_all; done) | (exfalso; omega) | refine aRegion_auto (by decide +kernel) ?_ | fail))
      refine acall_frame0 rfl (wrong_any _ 0 (errV E.text) _ ?_)
      (repeat' (first | exact trivial | exact fun h => h | refine And.intro ?_ ?_ | (intro hb; first | (simp at hb; done) | (simp at hb) | skip) | omega | exact rfl | exact Nat.le_refl _ | (show _ + 1 ≤ 4294967296; omega) | (dsimp only; omega) | (show (_ : Int) ≤ (_ : Int); omega) | (show _ < List.length _; simp only [List.length_set, List.length_append, List.length_take]; omega) | (show wantB _ _ = true; simp; done) | (show wantB _ _ = true; simp; omega) | (show (_ : Bool) = _; simp_all; done) | (exfalso; omega) | refine aRegion_auto (by decide +kernel) ?_ | fail))
      refine ⟨_, _, (REnt.conv [.dat RasT, .keep] _ rfl ?_).trans (REnt.ren [1] rfl ?_ ⟨rfl, rfl⟩), hB⟩
      · (repeat' (first | exact trivial | refine And.intro ?_ ?_ | (show _ ≤ _; omega) | (show _ ≤ _; simp; done)))
      · (repeat' (first | exact trivial | exact rfl | refine And.intro ?_ ?_))
  · rw [bl, bs_list] at hl
    have hq : hdQ ps = none := hdQ_bad (fun w h e => by rw [hl] at e; cases e)
    rw [hq] at hB
    have hB := hB 1 0 (by decide) (by decide) rfl
    (repeat' (first | exact trivial | exact fun h => h | refine And.intro ?_ ?_ | (intro hb; first | (simp at hb; done) | (simp at hb) | skip) | omega | exact rfl | exact Nat.le_refl _ | (show _ + 1 ≤ 4294967296; omega) | (dsimp only; omega) | (show (_ : Int) ≤ (_ : Int); omega) | (show _ < List.length _; simp only [List.length_set, List.length_append, List.length_take]; omega) | (show wantB _ _ = true; simp; done) | (show wantB _ _ = true; simp; omega) | (show (_ : Bool) = _; simp_all; done) | (exfalso; omega) | refine aRegion_auto (by decide +kernel) ?_ | fail))
    refine acall_frame0 rfl (wrong_any _ 0 (errV E.text) _ ?_)
    (repeat' (first | exact trivial | exact fun h => h | refine And.intro ?_ ?_ | (intro hb; first | (simp at hb; done) | (simp at hb) | skip) | omega | exact rfl | exact Nat.le_refl _ | (show _ + 1 ≤ 4294967296; omega) | (dsimp only; omega) | (show (_ : Int) ≤ (_ : Int); omega) | (show _ < List.length _; simp only [List.length_set, List.length_append, List.length_take]; omega) | (show wantB _ _ = true; simp; done) | (show wantB _ _ = true; simp; omega) | (show (_ : Bool) = _; simp_all; done) | (exfalso; omega) | refine aRegion_auto (by decide +kernel) ?_ | fail))
    refine ⟨_, _, (REnt.conv [.dat RasT, .keep] _ rfl ?_).trans (REnt.ren [1] rfl ?_ ⟨rfl, rfl⟩), hB⟩
    · (repeat' (first | exact trivial | refine And.intro ?_ ?_ | (show _ ≤ _; omega) | (show _ ≤ _; simp; done)))
    · (repeat' (first | exact trivial | exact rfl | refine And.intro ?_ ?_))
end Go.Proofs.YtgjjooophigkoaaGreatDoor
/-
  Read a raster: the document.
-/
namespace Go.Proofs.YtgjjooophigkoaaGreatDoor
open Go Go.Ab Go.RowKit Go.Proofs.YtgjjooophigkoaaGreatDoor.Tx
set_option maxRecDepth 100000
abbrev FlT : Ty := .pair int int
set_option maxHeartbeats 4000000 in
theorem rasterOf_any (G : List (Nat × Value)) (s : ByteArray) (hw : ByteArray.size s ≤ 1000000) (K : AV → List AO → Prop) (hK : ∀ (e : Nat) (n : Int) (r : Ras), rdQ (bl s) = ((e, n), r) → K (.tup [.fptr RasT r, .fz FlT ((e : Int), n)]) []) :
    ACall Tryz.prog G 15 [.fz .str s] [] K := by
  refine acall_mk (E := envAt G 150 0) (envOk _ _ _) Tryz.func15 rfl rfl rfl rfl rfl ?_
  have hbl := bl_len s
  unfold rdQ at hK
  by_cases hbig : 200000 < ByteArray.size s
  · rw [if_pos (by rw [bl_len]; exact hbig)] at hK
    have hB := hK 2 0 noRas rfl
    (repeat' (first | exact trivial | exact fun h => h | refine And.intro ?_ ?_ | (intro hb; first | (simp at hb; done) | (simp at hb) | skip) | omega | exact rfl | exact Nat.le_refl _ | (show _ + 1 ≤ 4294967296; omega) | (dsimp only; omega) | (show (_ : Int) ≤ (_ : Int); omega) | (show _ < List.length _; simp only [List.length_set, List.length_append, List.length_take]; omega) | (show wantB _ _ = true; simp; done) | (show wantB _ _ = true; simp; omega) | (show (_ : Bool) = _; simp_all; done) | (exfalso; omega) | refine aRegion_auto (by decide +kernel) ?_ | fail))
    refine ⟨_, _, (REnt.conv [.pt RasT, .dat FlT] _ rfl ?_).trans (REnt.drop ⟨rfl, rfl⟩), hB⟩
    · (repeat' (first | exact trivial | refine And.intro ?_ ?_ | (show _ ≤ _; omega) | (show _ ≤ _; simp; done)))
  rw [if_neg (by rw [bl_len]; exact hbig)] at hK
  have hpl : 0 < (cut 10 (bl s)).length ∧ (cut 10 (bl s)).length ≤ (bl s).length + 1 := cutG_len 10 (bl s) []
  have hps : ∀ w, w ∈ cut 10 (bl s) → w.length ≤ ([] : List UInt8).length + (bl s).length := cutG_size 10 (bl s) []
  (repeat' (first | exact trivial | exact fun h => h | refine And.intro ?_ ?_ | (intro hb; first | (simp at hb; done) | (simp at hb) | skip) | omega | exact rfl | exact Nat.le_refl _ | (show _ + 1 ≤ 4294967296; omega) | (dsimp only; omega) | (show (_ : Int) ≤ (_ : Int); omega) | (show _ < List.length _; simp only [List.length_set, List.length_append, List.length_take]; omega) | (show wantB _ _ = true; simp; done) | (show wantB _ _ = true; simp; omega) | (show (_ : Bool) = _; simp_all; done) | (exfalso; omega) | refine aRegion_auto (by decide +kernel) ?_ | fail))
  refine acall_frame0 rfl (linesOf_any G s hw _ (fun ws rest hcut => ?_))
  rw [hcut] at hK hpl hps
  have hln : (ws ++ [rest]).length = ws.length + 1 := by simp
  have hml : (ws.map bs).length = ws.length := by simp
  have hat : ∀ k, k < ws.length → List.getD (ws.map bs) k ByteArray.empty = bs (ws.getD k []) := fun k hk => getD_map ws k hk
  have hgd : ∀ k, k < ws.length → (ws ++ [rest]).getD k [] = ws.getD k [] := fun k hk => by simp [List.getD, List.getElem?_append_left hk]
  have hsz : ∀ k, k < ws.length → (ws.getD k []).length ≤ 1000000 := fun k hk => by
    have := hps (ws.getD k []) (List.mem_append_left _ (by simp [List.getD, hk]))
    simp only [List.length_nil, Nat.zero_add] at this; omega
  clear hps
  by_cases hw0 : ws = []
  · subst hw0
    have hq : hdQ ([] ++ [rest]) = none := hdQ_bad (fun w h e q => by simp at q)
    rw [hq] at hK
    have hB := hK 1 0 noRas rfl
    (repeat' (first | exact trivial | exact fun h => h | refine And.intro ?_ ?_ | (intro hb; first | (simp at hb; done) | (simp at hb) | skip) | omega | exact rfl | exact Nat.le_refl _ | (show _ + 1 ≤ 4294967296; omega) | (dsimp only; omega) | (show (_ : Int) ≤ (_ : Int); omega) | (show _ < List.length _; simp only [List.length_set, List.length_append, List.length_take]; omega) | (show wantB _ _ = true; simp; done) | (show wantB _ _ = true; simp; omega) | (show (_ : Bool) = _; simp_all; done) | (exfalso; omega) | refine aRegion_auto (by decide +kernel) ?_ | fail))
    refine ⟨_, _, (REnt.conv [.pt RasT, .dat FlT] _ rfl ?_).trans (REnt.drop ⟨rfl, rfl⟩), hB⟩
    · (repeat' (first | exact trivial | refine And.intro ?_ ?_ | (show _ ≤ _; omega) | (show _ ≤ _; simp; done)))
  have hwl : 0 < ws.length := List.length_pos_iff.2 hw0
  (repeat' (first | exact trivial | exact fun h => h | refine And.intro ?_ ?_ | (intro hb; first | (simp at hb; done) | (simp at hb) | skip) | omega | exact rfl | exact Nat.le_refl _ | (show _ + 1 ≤ 4294967296; omega) | (dsimp only; omega) | (show (_ : Int) ≤ (_ : Int); omega) | (show _ < List.length _; simp only [List.length_set, List.length_append, List.length_take]; omega) | (show wantB _ _ = true; simp; done) | (show wantB _ _ = true; simp; omega) | (show (_ : Bool) = _; simp_all; done) | (exfalso; omega) | refine aRegion_auto (by decide +kernel) ?_ | fail))
  · exact absurd hb hw0
  refine acall_frame0 rfl (acall_arg (numbersOf_any G (bs (ws.getD 0 [])) (by rw [bs_size]; exact hsz 0 (by omega)) _ (fun l hl => ?_) (fun hl => ?_)) (congrArg (fun x => [AV.fz .str x]) (hat 0 (by omega)).symm))
  · rw [bl, bs_list, ← hgd 0 (by omega)] at hl
    by_cases h2 : l.length = 2
    · obtain ⟨w, h, rfl⟩ : ∃ w h, l = [w, h] := by
        match l, h2 with
        | [w, h], _ => exact ⟨w, h, rfl⟩
      by_cases hside : (1 ≤ w ∧ w ≤ 128) ∧ (1 ≤ h ∧ h ≤ 128)
      · obtain ⟨hwi, hhi⟩ := hside
        have hq : hdQ (ws ++ [rest]) = some (w, h) := hdQ_some hl (by omega) hwi.1 hwi.2 hhi.1 hhi.2
        rw [hq] at hK
        simp only at hK
        obtain ⟨W, rfl⟩ : ∃ W : Nat, w = W := ⟨w.toNat, by omega⟩
        obtain ⟨H, rfl⟩ : ∃ H : Nat, h = H := ⟨h.toNat, by omega⟩
        rw [show ((H : Int)).toNat = H by omega] at hK
        have hBr : ∀ r : Nat, 1 ≤ r → rws (ws ++ [rest]) W H 1 [] = (r, []) → K (.tup [.fptr RasT noRas, .fz FlT (((1 : Nat) : Int), (r : Int))]) [] := fun r hr e => by
          obtain ⟨r, rfl⟩ : ∃ q, r = q + 1 := ⟨r - 1, by omega⟩
          exact hK 1 ((r + 1 : Nat) : Int) noRas (by rw [e]; rfl)
        (repeat' (first | exact trivial | exact fun h => h | refine And.intro ?_ ?_ | (intro hb; first | (simp at hb; done) | (simp at hb) | skip) | omega | exact rfl | exact Nat.le_refl _ | (show _ + 1 ≤ 4294967296; omega) | (dsimp only; omega) | (show (_ : Int) ≤ (_ : Int); omega) | (show _ < List.length _; simp only [List.length_set, List.length_append, List.length_take]; omega) | (show wantB _ _ = true; simp; done) | (show wantB _ _ = true; simp; omega) | (show (_ : Bool) = _; simp_all; done) | (exfalso; omega) | refine aRegion_auto (by decide +kernel) ?_ | fail))
        (apply exEff; focus (repeat' (first | exact ⟨rfl, rfl⟩ | exact trivial | refine And.intro ?_ ?_ | omega | exact Nat.le_refl _ | (show _ + 1 ≤ 4294967296; omega))))
        (repeat' (first | exact trivial | exact fun h => h | refine And.intro ?_ ?_ | (intro hb; first | (simp at hb; done) | (simp at hb) | skip) | omega | exact rfl | exact Nat.le_refl _ | (show _ + 1 ≤ 4294967296; omega) | (dsimp only; omega) | (show (_ : Int) ≤ (_ : Int); omega) | (show _ < List.length _; simp only [List.length_set, List.length_append, List.length_take]; omega) | (show wantB _ _ = true; simp; done) | (show wantB _ _ = true; simp; omega) | (show (_ : Bool) = _; simp_all; done) | (exfalso; omega) | refine aRegion_auto (by decide +kernel) ?_ | fail))
        refine ⟨Nat × List Int, fun q => ⟨[(3, .ptr 0 0), (4, .ptr 1 0), (5, .fz (.list .str) (ws.map bs)), (6, .fz .str (bs rest)), (9, .ptr 2 0), (10, .fz int (q.1 : Int))], [.box [.fz int 0, .fz int 0], .box [.fz int 0, .fz int 0, .nilSl], .box [.fz int (W : Int), .fz int (H : Int), .ref 3 0 q.2.length], .row int q.2]⟩, fun q => 1 ≤ q.1 ∧ q.1 ≤ H + 1 ∧ q.1 ≤ ws.length ∧ q.2.length ≤ 128 * (q.1 - 1) ∧ rws (ws ++ [rest]) W (H + 1 - q.1) q.1 q.2 = rws (ws ++ [rest]) W H 1 [], fun q => H + 1 - q.1, (1, []), ⟨Nat.le_refl _, by show 1 ≤ H + 1; omega, by show 1 ≤ _; omega, Nat.zero_le _, rfl⟩, (Ent.nilBox 2 2 int rfl rfl).trans (Ent.sub rfl ?_), ?_⟩
        · (repeat' (first | exact trivial | exact rfl | refine And.intro ?_ ?_))
        intro ⟨r, L⟩ ⟨hr1, hr2, hr3, hLl, hrw⟩
        have hr1 : 1 ≤ r := hr1
        have hr2 : r ≤ H + 1 := hr2
        have hr3 : r ≤ ws.length := hr3
        have hLl : L.length ≤ 128 * (r - 1) := hLl
        have hrw : rws (ws ++ [rest]) W (H + 1 - r) r L = rws (ws ++ [rest]) W H 1 [] := hrw
        show awp _ _ _ ⟨[(3, .ptr 0 0), (4, .ptr 1 0), (5, .fz (.list .str) (ws.map bs)), (6, .fz .str (bs rest)), (9, .ptr 2 0), (10, .fz int (r : Int))], [.box [.fz int 0, .fz int 0], .box [.fz int 0, .fz int 0, .nilSl], .box [.fz int (W : Int), .fz int (H : Int), .ref 3 0 L.length], .row int L]⟩
        by_cases hrH : r ≤ H
        · obtain ⟨k, hk⟩ : ∃ k, H + 1 - r = k + 1 := ⟨H - r, by omega⟩
          rw [hk] at hrw
          by_cases hre : ws.length ≤ r
          · have hB := hBr r hr1 (by rw [← hrw]; exact rws_end _ _ _ _ _ (by omega))
            (repeat' (first | exact trivial | exact fun h => h | refine And.intro ?_ ?_ | (intro hb; first | (simp at hb; done) | (simp at hb) | skip) | omega | exact rfl | exact Nat.le_refl _ | (show _ + 1 ≤ 4294967296; omega) | (dsimp only; omega) | (show (_ : Int) ≤ (_ : Int); omega) | (show _ < List.length _; simp only [List.length_set, List.length_append, List.length_take]; omega) | (show wantB _ _ = true; simp; done) | (show wantB _ _ = true; simp; omega) | (show (_ : Bool) = _; simp_all; done) | (exfalso; omega) | refine aRegion_auto (by decide +kernel) ?_ | fail))
            refine ⟨_, _, (REnt.conv [.pt RasT, .dat FlT] _ rfl ?_).trans (REnt.drop ⟨rfl, rfl⟩), hB⟩
            · (repeat' (first | exact trivial | refine And.intro ?_ ?_ | (show _ ≤ _; omega) | (show _ ≤ _; simp; done)))
          · have hrl : r < ws.length := by omega
            (repeat' (first | exact trivial | exact fun h => h | refine And.intro ?_ ?_ | (intro hb; first | (simp at hb; done) | (simp at hb) | skip) | omega | exact rfl | exact Nat.le_refl _ | (show _ + 1 ≤ 4294967296; omega) | (dsimp only; omega) | (show (_ : Int) ≤ (_ : Int); omega) | (show _ < List.length _; simp only [List.length_set, List.length_append, List.length_take]; omega) | (show wantB _ _ = true; simp; done) | (show wantB _ _ = true; simp; omega) | (show (_ : Bool) = _; simp_all; done) | (exfalso; omega) | refine aRegion_auto (by decide +kernel) ?_ | fail))
            refine acall_frame0 rfl (acall_arg (numbersOf_any G (bs (ws.getD r [])) (by rw [bs_size]; exact hsz r hrl) _ (fun l hl => ?_) (fun hl => ?_)) (congrArg (fun x => [AV.fz .str x]) (hat r hrl).symm))
            · rw [bl, bs_list, ← hgd r hrl] at hl
              by_cases hlw : (l.length : Int) = W
              · have hrw2 := hrw
                rw [rws_step _ _ _ _ _ l (by omega) hl hlw] at hrw2
                (repeat' (first | exact trivial | exact fun h => h | refine And.intro ?_ ?_ | (intro hb; first | (simp at hb; done) | (simp at hb) | skip) | omega | exact rfl | exact Nat.le_refl _ | (show _ + 1 ≤ 4294967296; omega) | (dsimp only; omega) | (show (_ : Int) ≤ (_ : Int); omega) | (show _ < List.length _; simp only [List.length_set, List.length_append, List.length_take]; omega) | (show wantB _ _ = true; simp; done) | (show wantB _ _ = true; simp; omega) | (show (_ : Bool) = _; simp_all; done) | (exfalso; omega) | refine aRegion_auto (by decide +kernel) ?_ | fail))
                refine ⟨(r + 1, L ++ l), ⟨by show 1 ≤ r + 1; omega, by show r + 1 ≤ H + 1; omega, by show r + 1 ≤ ws.length; omega, by show (L ++ l).length ≤ 128 * (r + 1 - 1); rw [List.length_append]; omega, by show rws (ws ++ [rest]) W (H + 1 - (r + 1)) (r + 1) (L ++ l) = _; rw [show H + 1 - (r + 1) = k by omega]; exact hrw2⟩, by show _ - (r + 1) < _ - r; omega, Ent.ren [0, 1, 2, 4] rfl ?_ ?_⟩
                · (repeat' (first | exact trivial | exact rfl | refine And.intro ?_ ?_))
                  · exact congrArg (fun n => some (AO.box [.fz int (W : Int), .fz int (H : Int), .ref 4 0 n])) (show (L ++ l).length = L.length + l.length from List.length_append).symm
                  · exact congrArg (fun x => some (AO.row int (x ++ l))) (List.take_length (l := L))
                · (repeat' (first | exact trivial | exact rfl | refine And.intro ?_ ?_))
              · have hB := hBr r hr1 (by rw [← hrw]; exact rws_bad _ _ _ _ _ l (by omega) hl hlw)
                (repeat' (first | exact trivial | exact fun h => h | refine And.intro ?_ ?_ | (intro hb; first | (simp at hb; done) | (simp at hb) | skip) | omega | exact rfl | exact Nat.le_refl _ | (show _ + 1 ≤ 4294967296; omega) | (dsimp only; omega) | (show (_ : Int) ≤ (_ : Int); omega) | (show _ < List.length _; simp only [List.length_set, List.length_append, List.length_take]; omega) | (show wantB _ _ = true; simp; done) | (show wantB _ _ = true; simp; omega) | (show (_ : Bool) = _; simp_all; done) | (exfalso; omega) | refine aRegion_auto (by decide +kernel) ?_ | fail))
                refine ⟨_, _, (REnt.conv [.pt RasT, .dat FlT] _ rfl ?_).trans (REnt.drop ⟨rfl, rfl⟩), hB⟩
                · (repeat' (first | exact trivial | refine And.intro ?_ ?_ | (show _ ≤ _; omega) | (show _ ≤ _; simp; done)))
            · rw [bl, bs_list, ← hgd r hrl] at hl
              have hB := hBr r hr1 (by rw [← hrw]; exact rws_none _ _ _ _ _ (by omega) hl)
              (repeat' (first | exact trivial | exact fun h => h | refine And.intro ?_ ?_ | (intro hb; first | (simp at hb; done) | (simp at hb) | skip) | omega | exact rfl | exact Nat.le_refl _ | (show _ + 1 ≤ 4294967296; omega) | (dsimp only; omega) | (show (_ : Int) ≤ (_ : Int); omega) | (show _ < List.length _; simp only [List.length_set, List.length_append, List.length_take]; omega) | (show wantB _ _ = true; simp; done) | (show wantB _ _ = true; simp; omega) | (show (_ : Bool) = _; simp_all; done) | (exfalso; omega) | refine aRegion_auto (by decide +kernel) ?_ | fail))
              refine ⟨_, _, (REnt.conv [.pt RasT, .dat FlT] _ rfl ?_).trans (REnt.drop ⟨rfl, rfl⟩), hB⟩
              · (repeat' (first | exact trivial | refine And.intro ?_ ?_ | (show _ ≤ _; omega) | (show _ ≤ _; simp; done)))
        · obtain rfl : r = H + 1 := by omega
          have e0 : rws (ws ++ [rest]) W H 1 [] = (0, L) := by rw [← hrw, Nat.sub_self]; rfl
          rw [e0] at hK
          simp only at hK
          have hlast : (ws ++ [rest]).getD ((ws ++ [rest]).length - 1) [] = rest := by
            rw [hln]; simp [List.getD]
          have hrs : ((bs rest).toList = []) ↔ rest = [] := by rw [ByteArray.toList_eq, bs_list]
          rw [hlast, hln] at hK
          by_cases htail : (H : Int) + 1 < ((ws.length + 1 : Nat) : Int) - 1 ∨ rest ≠ []
          · rw [if_pos htail] at hK
            have hB := hK 1 ((H : Int) + 1) noRas rfl
            (repeat' (first | exact trivial | exact fun h => h | refine And.intro ?_ ?_ | (intro hb; first | (simp at hb; done) | (simp at hb) | skip) | omega | exact rfl | exact Nat.le_refl _ | (show _ + 1 ≤ 4294967296; omega) | (dsimp only; omega) | (show (_ : Int) ≤ (_ : Int); omega) | (show _ < List.length _; simp only [List.length_set, List.length_append, List.length_take]; omega) | (show wantB _ _ = true; simp; done) | (show wantB _ _ = true; simp; omega) | (show (_ : Bool) = _; simp_all; done) | (exfalso; omega) | refine aRegion_auto (by decide +kernel) ?_ | fail))
            · (apply exEff; focus (repeat' (first | exact ⟨rfl, rfl⟩ | exact trivial | refine And.intro ?_ ?_ | omega | exact Nat.le_refl _ | (show _ + 1 ≤ 4294967296; omega))))
              (repeat' (first | exact trivial | exact fun h => h | refine And.intro ?_ ?_ | (intro hb; first | (simp at hb; done) | (simp at hb) | skip) | omega | exact rfl | exact Nat.le_refl _ | (show _ + 1 ≤ 4294967296; omega) | (dsimp only; omega) | (show (_ : Int) ≤ (_ : Int); omega) | (show _ < List.length _; simp only [List.length_set, List.length_append, List.length_take]; omega) | (show wantB _ _ = true; simp; done) | (show wantB _ _ = true; simp; omega) | (show (_ : Bool) = _; simp_all; done) | (exfalso; omega) | refine aRegion_auto (by decide +kernel) ?_ | fail))
              refine ⟨_, _, (REnt.conv [.pt RasT, .dat FlT] _ rfl ?_).trans (REnt.drop ⟨rfl, rfl⟩), hB⟩
              · (repeat' (first | exact trivial | refine And.intro ?_ ?_ | (show _ ≤ _; omega) | (show _ ≤ _; simp; done)))
            · exfalso
              rcases htail with q | q
              · omega
              · exact q (hrs.1 hb.2)
          · rw [if_neg htail] at hK
            have hr0 : rest = [] := Classical.byContradiction fun q => htail (.inr q)
            have ea : (((W : Int), (H : Int), List.take L.length L) : Ras) = ((W : Int), (H : Int), L) := by rw [List.take_length]
            have hLen : (L.length : Int) = H * W := by
              have := rws_len (ws ++ [rest]) W H 1 [] L (by decide) e0
              simpa using this
            have hmul := mul_bd (a := (H : Int)) (b := (W : Int)) (A := 128) (B := 128) (by omega) (by omega) (by omega) (by omega)
            (repeat' (first | exact trivial | exact fun h => h | refine And.intro ?_ ?_ | (intro hb; first | (simp at hb; done) | (simp at hb) | skip) | omega | exact rfl | exact Nat.le_refl _ | (show _ + 1 ≤ 4294967296; omega) | (dsimp only; omega) | (show (_ : Int) ≤ (_ : Int); omega) | (show _ < List.length _; simp only [List.length_set, List.length_append, List.length_take]; omega) | (show wantB _ _ = true; simp; done) | (show wantB _ _ = true; simp; omega) | (show (_ : Bool) = _; simp_all; done) | (exfalso; omega) | refine aRegion_auto (by decide +kernel) ?_ | fail))
            · exfalso
              rcases hb with q | q
              · omega
              · exact q (hrs.2 hr0)
            refine acall_lend [.pt RasT] _ _ _ rfl ?_ rfl ?_
            · (repeat' (first | exact trivial | refine And.intro ?_ ?_ | (show _ ≤ _; omega) | (show _ ≤ _; simp; done)))
            refine rasterError_any G ((W : Int), (H : Int), List.take L.length L) (by show (List.take L.length L).length ≤ _; rw [List.take_length]; omega) _ ?_
            rw [ea]
            refine And.intro rfl ?_
            by_cases hv : rerr ((W : Int), (H : Int), L) = 0
            · rw [if_pos hv] at hK
              have hB := hK 0 (-1) ((W : Int), (H : Int), L) rfl
              rw [← ea] at hB
              rw [hv]
              (repeat' (first | exact trivial | exact fun h => h | refine And.intro ?_ ?_ | (intro hb; first | (simp at hb; done) | (simp at hb) | skip) | omega | exact rfl | exact Nat.le_refl _ | (show _ + 1 ≤ 4294967296; omega) | (dsimp only; omega) | (show (_ : Int) ≤ (_ : Int); omega) | (show _ < List.length _; simp only [List.length_set, List.length_append, List.length_take]; omega) | (show wantB _ _ = true; simp; done) | (show wantB _ _ = true; simp; omega) | (show (_ : Bool) = _; simp_all; done) | (exfalso; omega) | refine aRegion_auto (by decide +kernel) ?_ | fail))
              refine ⟨_, _, (REnt.conv [.pt RasT, .dat FlT] _ rfl ?_).trans (REnt.drop ⟨rfl, rfl⟩), hB⟩
              · (repeat' (first | exact trivial | refine And.intro ?_ ?_ | (show _ ≤ _; omega) | (show _ ≤ _; simp; done)))
            · rw [if_neg hv] at hK
              have hB := hK 4 0 noRas rfl
              (repeat' (first | exact trivial | exact fun h => h | refine And.intro ?_ ?_ | (intro hb; first | (simp at hb; done) | (simp at hb) | skip) | omega | exact rfl | exact Nat.le_refl _ | (show _ + 1 ≤ 4294967296; omega) | (dsimp only; omega) | (show (_ : Int) ≤ (_ : Int); omega) | (show _ < List.length _; simp only [List.length_set, List.length_append, List.length_take]; omega) | (show wantB _ _ = true; simp; done) | (show wantB _ _ = true; simp; omega) | (show (_ : Bool) = _; simp_all; done) | (exfalso; omega) | refine aRegion_auto (by decide +kernel) ?_ | fail))
              refine ⟨_, _, (REnt.conv [.pt RasT, .dat FlT] _ rfl ?_).trans (REnt.drop ⟨rfl, rfl⟩), hB⟩
              · (repeat' (first | exact trivial | refine And.intro ?_ ?_ | (show _ ≤ _; omega) | (show _ ≤ _; simp; done)))
      · have hq : hdQ (ws ++ [rest]) = none := hdQ_bad (fun w' h' e => by rw [hl] at e; cases e; omega)
        rw [hq] at hK
        have hB := hK 1 0 noRas rfl
        (repeat' (first | exact trivial | exact fun h => h | refine And.intro ?_ ?_ | (intro hb; first | (simp at hb; done) | (simp at hb) | skip) | omega | exact rfl | exact Nat.le_refl _ | (show _ + 1 ≤ 4294967296; omega) | (dsimp only; omega) | (show (_ : Int) ≤ (_ : Int); omega) | (show _ < List.length _; simp only [List.length_set, List.length_append, List.length_take]; omega) | (show wantB _ _ = true; simp; done) | (show wantB _ _ = true; simp; omega) | (show (_ : Bool) = _; simp_all; done) | (exfalso; omega) | refine aRegion_auto (by decide +kernel) ?_ | fail))
        refine ⟨_, _, (REnt.conv [.pt RasT, .dat FlT] _ rfl ?_).trans (REnt.drop ⟨rfl, rfl⟩), hB⟩
        · (repeat' (first | exact trivial | refine And.intro ?_ ?_ | (show _ ≤ _; omega) | (show _ ≤ _; simp; done)))
    · have hq : hdQ (ws ++ [rest]) = none := hdQ_bad (fun w h e => by rw [hl] at e; cases e; exact absurd rfl h2)
      rw [hq] at hK
      have hB := hK 1 0 noRas rfl
      (repeat' (first | exact trivial | exact fun h => h | refine And.intro ?_ ?_ | (intro hb; first | (simp at hb; done) | (simp at hb) | skip) | omega | exact rfl | exact Nat.le_refl _ | (show _ + 1 ≤ 4294967296; omega) | (dsimp only; omega) | (show (_ : Int) ≤ (_ : Int); omega) | (show _ < List.length _; simp only [List.length_set, List.length_append, List.length_take]; omega) | (show wantB _ _ = true; simp; done) | (show wantB _ _ = true; simp; omega) | (show (_ : Bool) = _; simp_all; done) | (exfalso; omega) | refine aRegion_auto (by decide +kernel) ?_ | fail))
      refine ⟨_, _, (REnt.conv [.pt RasT, .dat FlT] _ rfl ?_).trans (REnt.drop ⟨rfl, rfl⟩), hB⟩
      · (repeat' (first | exact trivial | refine And.intro ?_ ?_ | (show _ ≤ _; omega) | (show _ ≤ _; simp; done)))
  · rw [bl, bs_list, ← hgd 0 (by omega)] at hl
    have hq : hdQ (ws ++ [rest]) = none := hdQ_bad (fun w h e => by rw [hl] at e; cases e)
    rw [hq] at hK
    have hB := hK 1 0 noRas rfl
    (repeat' (first | exact trivial | exact fun h => h | refine And.intro ?_ ?_ | (intro hb; first | (simp at hb; done) | (simp at hb) | skip) | omega | exact rfl | exact Nat.le_refl _ | (show _ + 1 ≤ 4294967296; omega) | (dsimp only; omega) | (show (_ : Int) ≤ (_ : Int); omega) | (show _ < List.length _; simp only [List.length_set, List.length_append, List.length_take]; omega) | (show wantB _ _ = true; simp; done) | (show wantB _ _ = true; simp; omega) | (show (_ : Bool) = _; simp_all; done) | (exfalso; omega) | refine aRegion_auto (by decide +kernel) ?_ | fail))
    refine ⟨_, _, (REnt.conv [.pt RasT, .dat FlT] _ rfl ?_).trans (REnt.drop ⟨rfl, rfl⟩), hB⟩
    · (repeat' (first | exact trivial | refine And.intro ?_ ?_ | (show _ ≤ _; omega) | (show _ ≤ _; simp; done)))
end Go.Proofs.YtgjjooophigkoaaGreatDoor
