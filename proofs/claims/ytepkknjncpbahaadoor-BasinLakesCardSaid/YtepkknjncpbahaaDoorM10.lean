/-
  Lakes: all of them.
-/
import Derived.Test.YtepkknjncpbahaaDoorM9
import Derived.LaidHandle
import Derived.LaidSub
import Derived.Test.YtepkknjncpbahaaDoorChecked
import Derived.WalkKit
import Derived.ProofKit
import Derived.OpenShut
import Derived.Carry
import Derived.Test.YtepkknjncpbahaaDoorTie
import Derived.Test.YtepkknjncpbahaaDoorCards
import Derived.SevenTiedAt
import Derived.LaidMore
import Derived.Lay
import Derived.Deep.Slices
import Derived.Lib.SmallJoins
import Derived.Stop.Joined
namespace Go.Proofs.YtepkknjncpbahaaDoor
open Go Go.Ab
set_option maxRecDepth 100000
abbrev LI : Ty := .list int
/-- the heights to which the water rises -/
def flF (a : Ras) : Nat → Int := (flD a.1.toNat a.2.1.toNat (hts a)).fill
/-- the lakes of a raster, of which o numbers them -/
def lakQ (a : Ras) (o : Nat → Int) : List (List Int) := if rerr a = 0 then Lk.lks (a.1.toNat * a.2.1.toNat) o (a.1.toNat * a.2.1.toNat) else []
theorem lks_le (n : Nat) (o : Nat → Int) : ∀ k, (Lk.lks n o k).length ≤ k
  | 0 => Nat.le_refl _
  | k + 1 => by
    have := lks_le n o k
    rw [Lk.lks_succ, List.length_append]
    split <;> simp <;> omega
set_option maxHeartbeats 8000000 in
theorem lakes_ok (E : Errs) (a : Ras) (hv : rerr a = 0) {w h n : Nat} (R : RasN a w h) (ew : a.1.toNat = w) (eh : a.2.1.toNat = h) (hn : n = w * h) (hs : n ≤ 80) (o : Nat → Int) (ho : Lk.Lak n (wetF a (flF a)) (touchN w) o) (K : AV → List AO → Prop) (hK : K (.tup [.fz (.list LI) (Lk.lks n o n), .fz .raw .nilIface]) []) :
    ACall Tryd.prog (G8 E) 33 [.fz RasT a] [] K := by
  have hl := R.len
  have hwh := R.wh
  have eF : fillQ a = (a.1, a.2.1, lst n (flF a)) := by
    unfold fillQ; rw [if_pos hv]
    unfold flP; rw [if_pos hv, ew, eh]
    unfold flF; rw [ew, eh, hn]; rfl
  generalize flF a = fl at *
  rw [← hn] at hl hwh
  have hfl := lst_len n fl
  let bA : AO := .box [.fz int a.1, .fz int a.2.1, .fz (.list int) a.2.2]
  let bF : AO := .box [.fz int a.1, .fz int a.2.1, .fz (.list int) (lst n fl)]
  let fn : AV := .fn 48 [.ptr 1 0, .ptr 0 0, .ptr 3 0]
  refine acall_mk (E := envAt (G8 E) 42 0) (envOk _ _ _) Tryd.func33 rfl rfl rfl rfl rfl ?_
  (repeat' (first | exact trivial | exact fun h => h | refine And.intro ?_ ?_ | (intro hb; first | (simp at hb; done) | (simp at hb) | skip) | omega | exact rfl | exact Nat.le_refl _ | (show _ + 1 ≤ 4294967296; omega) | (dsimp only; omega) | (show (_ : Int) ≤ (_ : Int); omega) | (show _ < List.length _; simp only [List.length_set, List.length_append, List.length_take]; omega) | (show wantB _ _ = true; simp; done) | (show wantB _ _ = true; simp; omega) | (show (_ : Bool) = _; simp_all; done) | (exfalso; omega) | fail))
  refine acall_conv [.dat RasT] _ _ _ rfl trivial (acall_frame0 rfl (fill_one E a (by omega) _ ?_))
  rw [hv, eF]
  (repeat' (first | exact trivial | exact fun h => h | refine And.intro ?_ ?_ | (intro hb; first | (simp at hb; done) | (simp at hb) | skip) | omega | exact rfl | exact Nat.le_refl _ | (show _ + 1 ≤ 4294967296; omega) | (dsimp only; omega) | (show (_ : Int) ≤ (_ : Int); omega) | (show _ < List.length _; simp only [List.length_set, List.length_append, List.length_take]; omega) | (show wantB _ _ = true; simp; done) | (show wantB _ _ = true; simp; omega) | (show (_ : Bool) = _; simp_all; done) | (exfalso; omega) | fail))
  refine ⟨Nat, fun k => ⟨[(1, .ptr 0 0), (4, .ptr 1 0), (6, .ptr 3 0), (7, fn), (8, .ref 4 0 (Lk.lks n o k).length), (25, .fz int n), (26, .fz int k)], [bA, bF, .row .bool (lstb n (Lk.goneB (wetF a fl) o k)), .box [.ref 2 0 n], .row LI (Lk.lks n o k)]⟩, fun k => k ≤ n, fun k => n - k, 0, Nat.zero_le _, (Ent.nil 8 LI rfl).trans (Ent.sub ?_ ?_), ?_⟩
  · (repeat' (first | exact rfl | refine cons_eq ?_ ?_))
    · refine congrArg (AO.row .bool) (?_ : List.replicate a.2.2.length false = lstb n (Lk.goneB (wetF a fl) o 0))
      rw [hl, lstb_zero]
      refine lstb_congr fun j hj => ?_
      unfold Lk.goneB
      cases e : wetF a fl j
      · rfl
      · have := (ho.of.isWet hj).1 e
        rw [Bool.true_and, eq_comm, decide_eq_false_iff_not]
        omega
    · exact congrArg (fun z => AO.box [.ref 2 0 z]) hl
  · (repeat' (first | exact trivial | exact rfl | refine And.intro ?_ ?_))
    exact congrArg (fun z : Nat => AV.fz int (z : Int)) hl
  intro k hk
  have hk : k ≤ n := hk
  have hle := lks_le n o k
  have hgl := lstb_len n (Lk.goneB (wetF a fl) o k)
  show awp _ _ _ ⟨[(1, .ptr 0 0), (4, .ptr 1 0), (6, .ptr 3 0), (7, fn), (8, .ref 4 0 (Lk.lks n o k).length), (25, .fz int n), (26, .fz int k)], [bA, bF, .row .bool (lstb n (Lk.goneB (wetF a fl) o k)), .box [.ref 2 0 n], .row LI (Lk.lks n o k)]⟩
  by_cases hkn : k < n
  · (repeat' (first | exact trivial | exact fun h => h | refine And.intro ?_ ?_ | (intro hb; first | (simp at hb; done) | (simp at hb) | skip) | omega | exact rfl | exact Nat.le_refl _ | (show _ + 1 ≤ 4294967296; omega) | (dsimp only; omega) | (show (_ : Int) ≤ (_ : Int); omega) | (show _ < List.length _; simp only [List.length_set, List.length_append, List.length_take]; omega) | (show wantB _ _ = true; simp; done) | (show wantB _ _ = true; simp; omega) | (show (_ : Bool) = _; simp_all; done) | (exfalso; omega) | fail))
    refine acall_frame [3, 1, 0, 2] (lkA a n a.1 a.2.1 fl (lstb n (Lk.goneB (wetF a fl) o k))) [.fz int k, .ptr 1 0, .ptr 2 0, .ptr 0 0] rfl (by repeat' (first | exact rfl | exact trivial | refine And.intro ?_ ?_)) (by repeat' (first | exact rfl | exact trivial | refine And.intro ?_ ?_)) rfl (wet_any _ a n a.1 a.2.1 fl (Lk.goneB (wetF a fl) o k) hl (by omega) k hkn _ ?_)
    obtain ⟨v, hv2⟩ : ∃ v, v = (wetF a fl k && !(Lk.goneB (wetF a fl) o k k)) := ⟨_, rfl⟩
    rw [← hv2]
    cases v
    · have hsk := fun j hj => Lk.gone_skip ho (fun _ _ h => touchN_symm h) (j := j) hkn hj (by
        cases e : wetF a fl k
        · exact .inl rfl
        · rw [e] at hv2
          right
          simpa using hv2.symm)
      have e1 : Lk.lks n o (k + 1) = Lk.lks n o k := by
        rw [Lk.lks_succ, if_neg (hsk k hkn).1, List.append_nil]
      have e2 : lstb n (Lk.goneB (wetF a fl) o (k + 1)) = lstb n (Lk.goneB (wetF a fl) o k) := lstb_congr fun j hj => (hsk j hj).2
      (repeat' (first | exact trivial | exact fun h => h | refine And.intro ?_ ?_ | (intro hb; first | (simp at hb; done) | (simp at hb) | skip) | omega | exact rfl | exact Nat.le_refl _ | (show _ + 1 ≤ 4294967296; omega) | (dsimp only; omega) | (show (_ : Int) ≤ (_ : Int); omega) | (show _ < List.length _; simp only [List.length_set, List.length_append, List.length_take]; omega) | (show wantB _ _ = true; simp; done) | (show wantB _ _ = true; simp; omega) | (show (_ : Bool) = _; simp_all; done) | (exfalso; omega) | fail))
      refine ⟨k + 1, by show k + 1 ≤ n; omega, by show n - (k + 1) < n - k; omega, Ent.sub ?_ ?_⟩
      · rw [e1, e2]
        (repeat' (first | exact rfl | refine cons_eq ?_ ?_))
      · (repeat' (first | exact trivial | exact rfl | refine And.intro ?_ ?_))
        exact congrArg (AV.ref 4 0) (show (Lk.lks n o k).length = (Lk.lks n o (k + 1)).length by rw [e1])
    · have hw : wetF a fl k = true := by
        cases e : wetF a fl k
        · rw [e] at hv2; cases hv2
        · rfl
      have hg : Lk.goneB (wetF a fl) o k k = false := by
        rw [hw] at hv2
        simpa using hv2.symm
      have hok := Lk.gone_new ho hkn hw hg
      have e1 : Lk.lks n o (k + 1) = Lk.lks n o k ++ [lakeL n o k] := by
        rw [Lk.lks_succ, if_pos hok]; rfl
      (repeat' (first | exact trivial | exact fun h => h | refine And.intro ?_ ?_ | (intro hb; first | (simp at hb; done) | (simp at hb) | skip) | omega | exact rfl | exact Nat.le_refl _ | (show _ + 1 ≤ 4294967296; omega) | (dsimp only; omega) | (show (_ : Int) ≤ (_ : Int); omega) | (show _ < List.length _; simp only [List.length_set, List.length_append, List.length_take]; omega) | (show wantB _ _ = true; simp; done) | (show wantB _ _ = true; simp; omega) | (show (_ : Bool) = _; simp_all; done) | (exfalso; omega) | fail))
      refine acall_conv [.dat RasT, .keep, .keep, .keep] _ _ _ rfl ?_ (acall_frame [3, 1, 0, 2] (lkA a n a.1 a.2.1 fl (lstb n (Lk.goneB (wetF a fl) o k))) [.fz RasT a, .fz int k, .ref 3 0 n, .fn 48 [.ptr 1 0, .ptr 2 0, .ptr 0 0]] rfl (by repeat' (first | exact rfl | exact trivial | refine And.intro ?_ ?_)) (by repeat' (first | exact rfl | exact trivial | refine And.intro ?_ ?_)) rfl (spread_any _ a R n hn hs a.1 a.2.1 fl o ho k hkn hok _ ?_))
      · (repeat' (first | exact trivial | refine And.intro ?_ ?_ | (show _ ≤ _; omega) | (show _ ≤ _; simp; done)))
      (repeat' (first | exact trivial | exact fun h => h | refine And.intro ?_ ?_ | (intro hb; first | (simp at hb; done) | (simp at hb) | skip) | omega | exact rfl | exact Nat.le_refl _ | (show _ + 1 ≤ 4294967296; omega) | (dsimp only; omega) | (show (_ : Int) ≤ (_ : Int); omega) | (show _ < List.length _; simp only [List.length_set, List.length_append, List.length_take]; omega) | (show wantB _ _ = true; simp; done) | (show wantB _ _ = true; simp; omega) | (show (_ : Bool) = _; simp_all; done) | (exfalso; omega) | fail))
      refine ⟨k + 1, by show k + 1 ≤ n; omega, by show n - (k + 1) < n - k; omega, Ent.ren [0, 1, 2, 3, 6] rfl ?_ ?_⟩
      · (repeat' (first | exact trivial | exact rfl | refine And.intro ?_ ?_))
        refine congrArg (fun x => some (AO.row LI x)) (?_ : List.take (Lk.lks n o k).length (Lk.lks n o k) ++ [lakeL n o k] = Lk.lks n o (k + 1))
        rw [List.take_length, e1]
      · (repeat' (first | exact trivial | exact rfl | refine And.intro ?_ ?_))
        exact congrArg (AV.ref 6 0) (show (Lk.lks n o k).length + 1 = (Lk.lks n o (k + 1)).length by rw [e1]; simp)
  · have hkn : k = n := by omega
    subst hkn
    (repeat' (first | exact trivial | exact fun h => h | refine And.intro ?_ ?_ | (intro hb; first | (simp at hb; done) | (simp at hb) | skip) | omega | exact rfl | exact Nat.le_refl _ | (show _ + 1 ≤ 4294967296; omega) | (dsimp only; omega) | (show (_ : Int) ≤ (_ : Int); omega) | (show _ < List.length _; simp only [List.length_set, List.length_append, List.length_take]; omega) | (show wantB _ _ = true; simp; done) | (show wantB _ _ = true; simp; omega) | (show (_ : Bool) = _; simp_all; done) | (exfalso; omega) | fail))
    refine ⟨_, _, (REnt.conv [.dat (.list LI), .keep] _ rfl ?_).trans (REnt.drop ⟨rfl, rfl⟩), ?_⟩
    · (repeat' (first | exact trivial | refine And.intro ?_ ?_ | (show _ ≤ _; omega) | (show _ ≤ _; simp; done)))
    · refine (congrArg (fun x => K (.tup [.fz (.list LI) x, .fz .raw .nilIface]) []) (List.take_length (l := Lk.lks k o k))).mpr hK
theorem lakes_one (E : Errs) (a : Ras) (hl : a.2.2.length ≤ 80) (o : Nat → Int) (ho : rerr a = 0 → Lk.Lak (a.1.toNat * a.2.1.toNat) (wetF a (flF a)) (touchN a.1.toNat) o) (K : AV → List AO → Prop) (hK : K (.tup [.fz (.list LI) (lakQ a o), .fz .raw (er E (rerr a))]) []) :
    ACall Tryd.prog (G8 E) 33 [.fz RasT a] [] K := by
  unfold lakQ at hK
  by_cases hv : rerr a = 0
  · rw [if_pos hv, hv] at hK
    have R := RasN.mk' hv
    exact lakes_ok E a hv R rfl rfl rfl (by rw [← R.len]; exact hl) o (ho hv) K hK
  · rw [if_neg hv] at hK
    have h4 := rerr_in a
    refine acall_mk (E := envAt (G8 E) 42 0) (envOk _ _ _) Tryd.func33 rfl rfl rfl rfl rfl ?_
    (repeat' (first | exact trivial | exact fun h => h | refine And.intro ?_ ?_ | (intro hb; first | (simp at hb; done) | (simp at hb) | skip) | omega | exact rfl | exact Nat.le_refl _ | (show _ + 1 ≤ 4294967296; omega) | (dsimp only; omega) | (show (_ : Int) ≤ (_ : Int); omega) | (show _ < List.length _; simp only [List.length_set, List.length_append, List.length_take]; omega) | (show wantB _ _ = true; simp; done) | (show wantB _ _ = true; simp; omega) | (show (_ : Bool) = _; simp_all; done) | (exfalso; omega) | fail))
    refine acall_conv [.dat RasT] _ _ _ rfl trivial (acall_frame0 rfl (fill_one E a (by omega) _ ?_))
    obtain h | h | h | h : rerr a = 1 ∨ rerr a = 2 ∨ rerr a = 3 ∨ rerr a = 4 := by omega
    all_goals
      rw [h] at hK ⊢
      (repeat' (first | exact trivial | exact fun h => h | refine And.intro ?_ ?_ | (intro hb; first | (simp at hb; done) | (simp at hb) | skip) | omega | exact rfl | exact Nat.le_refl _ | (show _ + 1 ≤ 4294967296; omega) | (dsimp only; omega) | (show (_ : Int) ≤ (_ : Int); omega) | (show _ < List.length _; simp only [List.length_set, List.length_append, List.length_take]; omega) | (show wantB _ _ = true; simp; done) | (show wantB _ _ = true; simp; omega) | (show (_ : Bool) = _; simp_all; done) | (exfalso; omega) | fail))
      refine ⟨_, _, (REnt.conv [.dat (.list LI), .keep] _ rfl trivial).trans (REnt.drop ⟨rfl, rfl⟩), ?_⟩
      exact hK
end Go.Proofs.YtepkknjncpbahaaDoor
/-
  Lakes: how deep they are.
-/
namespace Go.Proofs.YtepkknjncpbahaaDoor
open Go Go.Ab
set_option maxRecDepth 100000
theorem flN_bd (w h : Nat) (L : Nat → Int) (hL : ∀ i, -1048576 ≤ L i ∧ L i ≤ 1048576) : ∀ k i, -1048576 ≤ (flN w h L k).fill i ∧ (flN w h L k).fill i ≤ 1048576
  | 0, i => by
    unfold flN fl0
    dsimp only
    split
    · exact hL i
    · omega
  | k + 1, i => by
    have ih := flN_bd w h L hL k
    rw [flN]
    unfold flS
    dsimp only
    split
    · have := hL i
      have := ih ((bestK (flN w h L k) (w * h)).getD 0)
      omega
    · exact ih i
theorem flF_bd (a : Ras) (hv : rerr a = 0) (i : Nat) : -1048576 ≤ flF a i ∧ flF a i ≤ 1048576 := flN_bd _ _ _ (fun i => (RasN.mk' hv).at i) _ i
theorem equal_any (G : List (Nat × Value)) (xs ys : List Int) (hx : xs.length ≤ 1000000000000) (_hy : ys.length ≤ 1000000000000) (K : AV → List AO → Prop) (hK : K (.fz .bool (decide (xs = ys))) []) :
    ACall Tryd.prog G 52 [.fz LI xs, .fz LI ys] [] K := by
  refine acall_mk (E := envAt G 26 0) (envOk _ _ _) Tryd.func52 rfl rfl rfl rfl rfl ?_
  by_cases hl : xs.length = ys.length
  · (repeat' (first | exact trivial | exact fun h => h | refine And.intro ?_ ?_ | (intro hb; first | (simp at hb; done) | (simp at hb) | skip) | omega | exact rfl | exact Nat.le_refl _ | (show _ + 1 ≤ 4294967296; omega) | (dsimp only; omega) | (show (_ : Int) ≤ (_ : Int); omega) | (show _ < List.length _; simp only [List.length_set, List.length_append, List.length_take]; omega) | (show wantB _ _ = true; simp; done) | (show wantB _ _ = true; simp; omega) | (show (_ : Bool) = _; simp_all; done) | (exfalso; omega) | refine aRegion_auto (by decide +kernel) ?_ | fail))
    refine ⟨Nat, fun k => ⟨[(0, .fz LI xs), (1, .fz LI ys), (12, .fz int xs.length), (13, .fz int k)], []⟩, fun k => k ≤ xs.length ∧ ∀ j, j < k → xs.getD j 0 = ys.getD j 0, fun k => xs.length - k, 0, ⟨Nat.zero_le _, fun j h => absurd h (Nat.not_lt_zero _)⟩, Ent.sub rfl ?_, ?_⟩
    · (repeat' (first | exact trivial | exact rfl | refine And.intro ?_ ?_))
    intro k ⟨hk, hp⟩
    by_cases hk2 : k < xs.length
    · (repeat' (first | exact trivial | exact fun h => h | refine And.intro ?_ ?_ | (intro hb; first | (simp at hb; done) | (simp at hb) | skip) | omega | exact rfl | exact Nat.le_refl _ | (show _ + 1 ≤ 4294967296; omega) | (dsimp only; omega) | (show (_ : Int) ≤ (_ : Int); omega) | (show _ < List.length _; simp only [List.length_set, List.length_append, List.length_take]; omega) | (show wantB _ _ = true; simp; done) | (show wantB _ _ = true; simp; omega) | (show (_ : Bool) = _; simp_all; done) | (exfalso; omega) | refine aRegion_auto (by decide +kernel) ?_ | fail))
      · have hne : xs ≠ ys := fun e => hb (by rw [e])
        refine ⟨_, _, REnt.refl _ _ _, ?_⟩
        rw [decide_eq_false hne] at hK
        exact hK
      · refine ⟨k + 1, ⟨by omega, fun j hj => ?_⟩, by show _ - _ < _ - _; omega, Ent.sub rfl ?_⟩
        · by_cases e : j = k
          · subst e; exact hb
          · exact hp j (by omega)
        · (repeat' (first | exact trivial | exact rfl | refine And.intro ?_ ?_))
    · have e : xs = ys := by
        apply List.ext_getElem hl
        intro j h1 h2
        have := hp j (by omega)
        rwa [← List.getElem_eq_getD (h := h1), ← List.getElem_eq_getD (h := h2)] at this
      rw [decide_eq_true e] at hK
      (repeat' (first | exact trivial | exact fun h => h | refine And.intro ?_ ?_ | (intro hb; first | (simp at hb; done) | (simp at hb) | skip) | omega | exact rfl | exact Nat.le_refl _ | (show _ + 1 ≤ 4294967296; omega) | (dsimp only; omega) | (show (_ : Int) ≤ (_ : Int); omega) | (show _ < List.length _; simp only [List.length_set, List.length_append, List.length_take]; omega) | (show wantB _ _ = true; simp; done) | (show wantB _ _ = true; simp; omega) | (show (_ : Bool) = _; simp_all; done) | (exfalso; omega) | refine aRegion_auto (by decide +kernel) ?_ | fail))
      refine ⟨_, _, REnt.refl _ _ _, hK⟩
  · rw [decide_eq_false (fun e => hl (by rw [e]))] at hK
    (repeat' (first | exact trivial | exact fun h => h | refine And.intro ?_ ?_ | (intro hb; first | (simp at hb; done) | (simp at hb) | skip) | omega | exact rfl | exact Nat.le_refl _ | (show _ + 1 ≤ 4294967296; omega) | (dsimp only; omega) | (show (_ : Int) ≤ (_ : Int); omega) | (show _ < List.length _; simp only [List.length_set, List.length_append, List.length_take]; omega) | (show wantB _ _ = true; simp; done) | (show wantB _ _ = true; simp; omega) | (show (_ : Bool) = _; simp_all; done) | (exfalso; omega) | refine aRegion_auto (by decide +kernel) ?_ | fail))
    refine ⟨_, _, REnt.refl _ _ _, hK⟩
theorem depth1_any (G : List (Nat × Value)) (xs ys : List Int) (hx : xs.length ≤ 1000000000000) (hy : ys.length ≤ 1000000000000) (K : AV → List AO → Prop) (hK : K (.fz .bool (decide (xs = ys))) [.box [.fz LI ys]]) :
    ACall Tryd.prog G 51 [.fz LI xs, .ptr 0 0] [.box [.fz LI ys]] K := by
  refine acall_mk (E := envAt G 7 1) (envOk _ _ _) Tryd.func51 rfl rfl rfl rfl rfl ?_
  (repeat' (first | exact trivial | exact fun h => h | refine And.intro ?_ ?_ | (intro hb; first | (simp at hb; done) | (simp at hb) | skip) | omega | exact rfl | exact Nat.le_refl _ | (show _ + 1 ≤ 4294967296; omega) | (dsimp only; omega) | (show (_ : Int) ≤ (_ : Int); omega) | (show _ < List.length _; simp only [List.length_set, List.length_append, List.length_take]; omega) | (show wantB _ _ = true; simp; done) | (show wantB _ _ = true; simp; omega) | (show (_ : Bool) = _; simp_all; done) | (exfalso; omega) | refine aRegion_auto (by decide +kernel) ?_ | fail))
  refine acall_frame0 rfl (equal_any _ xs ys hx hy _ ?_)
  (repeat' (first | exact trivial | exact fun h => h | refine And.intro ?_ ?_ | (intro hb; first | (simp at hb; done) | (simp at hb) | skip) | omega | exact rfl | exact Nat.le_refl _ | (show _ + 1 ≤ 4294967296; omega) | (dsimp only; omega) | (show (_ : Int) ≤ (_ : Int); omega) | (show _ < List.length _; simp only [List.length_set, List.length_append, List.length_take]; omega) | (show wantB _ _ = true; simp; done) | (show wantB _ _ = true; simp; omega) | (show (_ : Bool) = _; simp_all; done) | (exfalso; omega) | refine aRegion_auto (by decide +kernel) ?_ | fail))
  refine ⟨_, _, REnt.refl _ _ _, hK⟩
theorem idxL_any (G : List (Nat × Value)) (ls : List (List Int)) (ys : List Int) (hl : ls.length ≤ 1000000000000) (hls : ∀ l ∈ ls, l.length ≤ 1000000000000) (hy : ys.length ≤ 1000000000000) (K : AV → List AO → Prop) (h1 : ∀ k : Nat, ys ∈ ls → k ≤ 1000000000000 → K (.fz int k) [.box [.fz LI ys]]) (h2 : ys ∉ ls → K (.fz int (-1)) [.box [.fz LI ys]]) :
    ACall Tryd.prog G 64 [.fz (.list LI) ls, .fn 51 [.ptr 0 0]] [.box [.fz LI ys]] K := by
  let fn : AV := .fn 51 [.ptr 0 0]
  refine acall_mk (E := envAt G 19 1) (envOk _ _ _) Tryd.func64 rfl rfl rfl rfl rfl ?_
  (repeat' (first | exact trivial | exact fun h => h | refine And.intro ?_ ?_ | (intro hb; first | (simp at hb; done) | (simp at hb) | skip) | omega | exact rfl | exact Nat.le_refl _ | (show _ + 1 ≤ 4294967296; omega) | (dsimp only; omega) | (show (_ : Int) ≤ (_ : Int); omega) | (show _ < List.length _; simp only [List.length_set, List.length_append, List.length_take]; omega) | (show wantB _ _ = true; simp; done) | (show wantB _ _ = true; simp; omega) | (show (_ : Bool) = _; simp_all; done) | (exfalso; omega) | refine aRegion_auto (by decide +kernel) ?_ | fail))
  refine ⟨Nat, fun k => ⟨[(0, .fz (.list LI) ls), (1, fn), (7, .fz int ls.length), (8, .fz int k)], [.box [.fz LI ys]]⟩, fun k => k ≤ ls.length ∧ ∀ j (hj : j < ls.length), j < k → ls[j] ≠ ys, fun k => ls.length - k, 0, ⟨Nat.zero_le _, fun j _ h => absurd h (Nat.not_lt_zero _)⟩, Ent.sub rfl ?_, ?_⟩
  · (repeat' (first | exact trivial | exact rfl | refine And.intro ?_ ?_))
  intro k ⟨hk, hp⟩
  have hk : k ≤ ls.length := hk
  have hp : ∀ j (hj : j < ls.length), j < k → ls[j] ≠ ys := hp
  show awp _ _ _ ⟨[(0, .fz (.list LI) ls), (1, fn), (7, .fz int ls.length), (8, .fz int k)], [.box [.fz LI ys]]⟩
  by_cases hk2 : k < ls.length
  · have hm : ls[k] ∈ ls := List.getElem_mem _
    have ge : List.getD ls (Int.toNat (k : Int)) LI.dft = ls[k] := by rw [Int.toNat_natCast]; exact (List.getElem_eq_getD (h := hk2) _).symm
    have gl := hls _ hm
    (repeat' (first | exact trivial | exact fun h => h | refine And.intro ?_ ?_ | (intro hb; first | (simp at hb; done) | (simp at hb) | skip) | omega | exact rfl | exact Nat.le_refl _ | (show _ + 1 ≤ 4294967296; omega) | (dsimp only; omega) | (show (_ : Int) ≤ (_ : Int); omega) | (show _ < List.length _; simp only [List.length_set, List.length_append, List.length_take]; omega) | (show wantB _ _ = true; simp; done) | (show wantB _ _ = true; simp; omega) | (show (_ : Bool) = _; simp_all; done) | (exfalso; omega) | refine aRegion_auto (by decide +kernel) ?_ | fail))
    rw [ge]
    refine depth1_any _ ls[k] ys gl hy _ ?_
    by_cases e : ls[k] = ys
    · rw [decide_eq_true e]
      (repeat' (first | exact trivial | exact fun h => h | refine And.intro ?_ ?_ | (intro hb; first | (simp at hb; done) | (simp at hb) | skip) | omega | exact rfl | exact Nat.le_refl _ | (show _ + 1 ≤ 4294967296; omega) | (dsimp only; omega) | (show (_ : Int) ≤ (_ : Int); omega) | (show _ < List.length _; simp only [List.length_set, List.length_append, List.length_take]; omega) | (show wantB _ _ = true; simp; done) | (show wantB _ _ = true; simp; omega) | (show (_ : Bool) = _; simp_all; done) | (exfalso; omega) | refine aRegion_auto (by decide +kernel) ?_ | fail))
      refine ⟨_, _, REnt.refl _ _ _, h1 k (e ▸ hm) (by omega)⟩
    · rw [decide_eq_false e]
      (repeat' (first | exact trivial | exact fun h => h | refine And.intro ?_ ?_ | (intro hb; first | (simp at hb; done) | (simp at hb) | skip) | omega | exact rfl | exact Nat.le_refl _ | (show _ + 1 ≤ 4294967296; omega) | (dsimp only; omega) | (show (_ : Int) ≤ (_ : Int); omega) | (show _ < List.length _; simp only [List.length_set, List.length_append, List.length_take]; omega) | (show wantB _ _ = true; simp; done) | (show wantB _ _ = true; simp; omega) | (show (_ : Bool) = _; simp_all; done) | (exfalso; omega) | refine aRegion_auto (by decide +kernel) ?_ | fail))
      refine ⟨k + 1, ⟨by show k + 1 ≤ ls.length; omega, fun j hj h => ?_⟩, by show ls.length - (k + 1) < ls.length - k; omega, Ent.sub rfl ?_⟩
      · have h : j < k + 1 := h
        by_cases c : j = k
        · subst c; exact e
        · exact hp j hj (by omega)
      · (repeat' (first | exact trivial | exact rfl | refine And.intro ?_ ?_))
  · have hn : ys ∉ ls := fun h => by
      obtain ⟨j, hj, e⟩ := List.mem_iff_getElem.1 h
      exact hp j hj (by omega) e
    (repeat' (first | exact trivial | exact fun h => h | refine And.intro ?_ ?_ | (intro hb; first | (simp at hb; done) | (simp at hb) | skip) | omega | exact rfl | exact Nat.le_refl _ | (show _ + 1 ≤ 4294967296; omega) | (dsimp only; omega) | (show (_ : Int) ≤ (_ : Int); omega) | (show _ < List.length _; simp only [List.length_set, List.length_append, List.length_take]; omega) | (show wantB _ _ = true; simp; done) | (show wantB _ _ = true; simp; omega) | (show (_ : Bool) = _; simp_all; done) | (exfalso; omega) | refine aRegion_auto (by decide +kernel) ?_ | fail))
    refine ⟨_, _, REnt.refl _ _ _, h2 hn⟩
theorem conL_any (G : List (Nat × Value)) (ls : List (List Int)) (ys : List Int) (hl : ls.length ≤ 1000000000000) (hls : ∀ l ∈ ls, l.length ≤ 1000000000000) (hy : ys.length ≤ 1000000000000) (K : AV → List AO → Prop) (hK : K (.fz .bool (decide (ys ∈ ls))) [.box [.fz LI ys]]) :
    ACall Tryd.prog G 50 [.fz (.list LI) ls, .fn 51 [.ptr 0 0]] [.box [.fz LI ys]] K := by
  refine acall_mk (E := envAt G 9 1) (envOk _ _ _) Tryd.func50 rfl rfl rfl rfl rfl ?_
  (repeat' (first | exact trivial | exact fun h => h | refine And.intro ?_ ?_ | (intro hb; first | (simp at hb; done) | (simp at hb) | skip) | omega | exact rfl | exact Nat.le_refl _ | (show _ + 1 ≤ 4294967296; omega) | (dsimp only; omega) | (show (_ : Int) ≤ (_ : Int); omega) | (show _ < List.length _; simp only [List.length_set, List.length_append, List.length_take]; omega) | (show wantB _ _ = true; simp; done) | (show wantB _ _ = true; simp; omega) | (show (_ : Bool) = _; simp_all; done) | (exfalso; omega) | refine aRegion_auto (by decide +kernel) ?_ | fail))
  refine idxL_any _ ls ys hl hls hy _ (fun k hm hk => ?_) (fun hm => ?_)
  · (repeat' (first | exact trivial | exact fun h => h | refine And.intro ?_ ?_ | (intro hb; first | (simp at hb; done) | (simp at hb) | skip) | omega | exact rfl | exact Nat.le_refl _ | (show _ + 1 ≤ 4294967296; omega) | (dsimp only; omega) | (show (_ : Int) ≤ (_ : Int); omega) | (show _ < List.length _; simp only [List.length_set, List.length_append, List.length_take]; omega) | (show wantB _ _ = true; simp; done) | (show wantB _ _ = true; simp; omega) | (show (_ : Bool) = _; simp_all; done) | (exfalso; omega) | refine aRegion_auto (by decide +kernel) ?_ | fail))
    refine ⟨_, _, REnt.refl _ _ _, ?_⟩
    rw [decide_eq_true hm] at hK
    exact (congrArg (fun q => K (.fz .bool q) [.box [.fz LI ys]]) (decide_eq_true (Int.natCast_nonneg k))).mpr hK
  · (repeat' (first | exact trivial | exact fun h => h | refine And.intro ?_ ?_ | (intro hb; first | (simp at hb; done) | (simp at hb) | skip) | omega | exact rfl | exact Nat.le_refl _ | (show _ + 1 ≤ 4294967296; omega) | (dsimp only; omega) | (show (_ : Int) ≤ (_ : Int); omega) | (show _ < List.length _; simp only [List.length_set, List.length_append, List.length_take]; omega) | (show wantB _ _ = true; simp; done) | (show wantB _ _ = true; simp; omega) | (show (_ : Bool) = _; simp_all; done) | (exfalso; omega) | refine aRegion_auto (by decide +kernel) ?_ | fail))
    refine ⟨_, _, REnt.refl _ _ _, ?_⟩
    rw [decide_eq_false hm] at hK
    exact hK
end Go.Proofs.YtepkknjncpbahaaDoor
/-
  Lakes: Depth.
-/
namespace Go.Proofs.YtepkknjncpbahaaDoor
open Go Go.Ab
set_option maxRecDepth 100000
def dM (g : Int → Int) (l : List Int) : Int := l.foldl (fun m k => max m (g k)) 0
def dS (g : Int → Int) (l : List Int) : Int := l.foldl (fun s k => s + g k) 0
theorem dM_add (g : Int → Int) (l : List Int) (x : Int) : dM g (l ++ [x]) = max (dM g l) (g x) := by simp [dM]
theorem dS_add (g : Int → Int) (l : List Int) (x : Int) : dS g (l ++ [x]) = dS g l + g x := by simp [dS]
theorem take_next (l : List Int) {k : Nat} (hk : k < l.length) : l.take (k + 1) = l.take k ++ [l[k]] := by simp
theorem d_bd (g : Int → Int) (hg : ∀ x, -4194304 ≤ g x ∧ g x ≤ 4194304) (l : List Int) : ∀ k, k ≤ l.length → (0 ≤ dM g (l.take k) ∧ dM g (l.take k) ≤ 4194304) ∧ -4194304 * (k : Int) ≤ dS g (l.take k) ∧ dS g (l.take k) ≤ 4194304 * (k : Int)
  | 0, _ => by simp [dM, dS]
  | k + 1, h => by
    have ih := d_bd g hg l k (by omega)
    rw [take_next l (by omega), dM_add, dS_add]
    have := hg (l[k])
    push_cast
    omega
/-- how deep a cell is -/
def gF (a : Ras) (k : Int) : Int := flF a k.toNat - hts a k.toNat
theorem gF_bd (a : Ras) (hv : rerr a = 0) (k : Int) : -4194304 ≤ gF a k ∧ gF a k ≤ 4194304 := by
  have := flF_bd a hv k.toNat
  have : -1048576 ≤ hts a k.toNat ∧ hts a k.toNat ≤ 1048576 := (RasN.mk' hv).at _
  unfold gF
  omega
theorem lks_mem {n : Nat} {o : Nat → Int} {k : Nat} {l : List Int} (h : l ∈ Lk.lks n o k) : ∃ i, i < k ∧ o i = i ∧ l = lakeL n o i := by
  unfold Lk.lks at h
  obtain ⟨i, hi, e⟩ := List.mem_map.1 h
  simp only [List.mem_filter, List.mem_range, decide_eq_true_eq] at hi
  exact ⟨i, hi.1, hi.2, e.symm⟩
theorem lake_at {n : Nat} {o : Nat → Int} {i : Nat} {x : Int} (h : x ∈ lakeL n o i) : ∃ j : Nat, x = j ∧ j < n ∧ o j = i := by
  unfold lakeL natL at h
  obtain ⟨j, hj, e⟩ := List.mem_map.1 h
  have := Lk.mem_cls.1 hj
  exact ⟨j, e.symm, this.1, this.2⟩
theorem lake_len (n : Nat) (o : Nat → Int) (i : Nat) : (lakeL n o i).length ≤ n := by
  unfold lakeL Lk.cls
  rw [natL_len]
  have := List.length_filter_le (fun j => decide (o j = (i : Int))) (List.range n)
  simpa using this
/-- what the program says of the depth of a lake -/
def dpE (a : Ras) (o : Nat → Int) (l : List Int) : Nat := if rerr a = 0 then (if l ∈ lakQ a o then 0 else 3) else rerr a
def dpM (a : Ras) (o : Nat → Int) (l : List Int) : Int := if dpE a o l = 0 then dM (gF a) l else 0
def dpS (a : Ras) (o : Nat → Int) (l : List Int) : Int := if dpE a o l = 0 then dS (gF a) l else 0
set_option maxHeartbeats 8000000 in
theorem depth_one (E : Errs) (a : Ras) (hl : a.2.2.length ≤ 80) (o : Nat → Int) (ho : rerr a = 0 → Lk.Lak (a.1.toNat * a.2.1.toNat) (wetF a (flF a)) (touchN a.1.toNat) o) (lake : List Int) (hlk : lake.length ≤ 1000000000000) (K : AV → List AO → Prop) (hK : K (.tup [.fz int (dpM a o lake), .fz int (dpS a o lake), .fz .raw (er E (dpE a o lake))]) []) :
    ACall Tryd.prog (G8 E) 34 [.fz RasT a, .fz LI lake] [] K := by
  unfold dpM dpS dpE at hK
  have hl4 := rerr_in a
  by_cases hv : rerr a = 0
  · rw [if_pos hv] at hK
    have R := RasN.mk' hv
    have hln := R.len
    obtain ⟨n, hn⟩ : ∃ n, n = a.1.toNat * a.2.1.toNat := ⟨_, rfl⟩
    have eL : lakQ a o = Lk.lks n o n := by unfold lakQ; rw [if_pos hv, hn]
    have eF : fillQ a = (a.1, a.2.1, lst n (flF a)) := by
      unfold fillQ; rw [if_pos hv]
      unfold flP; rw [if_pos hv, hn]; rfl
    have hgb := gF_bd a hv
    have hLl := lks_le n o n
    have hLe : ∀ l ∈ Lk.lks n o n, l.length ≤ 1000000000000 := fun l h => by
      obtain ⟨i, _, _, e⟩ := lks_mem h
      have := lake_len n o i
      rw [e]; omega
    refine acall_mk (E := envAt (G8 E) 57 0) (envOk _ _ _) Tryd.func34 rfl rfl rfl rfl rfl ?_
    (repeat' (first | exact trivial | exact fun h => h | refine And.intro ?_ ?_ | (intro hb; first | (simp at hb; done) | (simp at hb) | skip) | omega | exact rfl | exact Nat.le_refl _ | (show _ + 1 ≤ 4294967296; omega) | (dsimp only; omega) | (show (_ : Int) ≤ (_ : Int); omega) | (show _ < List.length _; simp only [List.length_set, List.length_append, List.length_take]; omega) | (show wantB _ _ = true; simp; done) | (show wantB _ _ = true; simp; omega) | (show (_ : Bool) = _; simp_all; done) | (exfalso; omega) | fail))
    refine acall_conv [.dat RasT] _ _ _ rfl trivial (acall_frame0 rfl (lakes_one E a hl o ho _ ?_))
    rw [hv, eL]
    rw [eL] at hK
    (repeat' (first | exact trivial | exact fun h => h | refine And.intro ?_ ?_ | (intro hb; first | (simp at hb; done) | (simp at hb) | skip) | omega | exact rfl | exact Nat.le_refl _ | (show _ + 1 ≤ 4294967296; omega) | (dsimp only; omega) | (show (_ : Int) ≤ (_ : Int); omega) | (show _ < List.length _; simp only [List.length_set, List.length_append, List.length_take]; omega) | (show wantB _ _ = true; simp; done) | (show wantB _ _ = true; simp; omega) | (show (_ : Bool) = _; simp_all; done) | (exfalso; omega) | fail))
    refine acall_frame [1] [.box [.fz LI lake]] [.fz (.list LI) (Lk.lks n o n), .fn 51 [.ptr 0 0]] rfl (by repeat' (first | exact rfl | exact trivial | refine And.intro ?_ ?_)) ⟨rfl, rfl⟩ rfl (conL_any _ _ lake (by omega) hLe hlk _ ?_)
    by_cases hm : lake ∈ Lk.lks n o n
    · rw [if_pos hm, if_pos rfl, if_pos rfl] at hK
      rw [decide_eq_true hm]
      obtain ⟨i0, hi0, ho0, elk⟩ := lks_mem hm
      have hll := lake_len n o i0
      rw [← elk] at hll
      have hfl := lst_len n (flF a)
      let bA : AO := .box [.fz int a.1, .fz int a.2.1, .fz (.list int) a.2.2]
      let bF : AO := .box [.fz int a.1, .fz int a.2.1, .fz (.list int) (lst n (flF a))]
      (repeat' (first | exact trivial | exact fun h => h | refine And.intro ?_ ?_ | (intro hb; first | (simp at hb; done) | (simp at hb) | skip) | omega | exact rfl | exact Nat.le_refl _ | (show _ + 1 ≤ 4294967296; omega) | (dsimp only; omega) | (show (_ : Int) ≤ (_ : Int); omega) | (show _ < List.length _; simp only [List.length_set, List.length_append, List.length_take]; omega) | (show wantB _ _ = true; simp; done) | (show wantB _ _ = true; simp; omega) | (show (_ : Bool) = _; simp_all; done) | (exfalso; omega) | fail))
      refine acall_conv [.dat RasT] _ _ _ rfl trivial (acall_frame0 rfl (fill_one E a (by omega) _ ?_))
      rw [hv, eF]
      (repeat' (first | exact trivial | exact fun h => h | refine And.intro ?_ ?_ | (intro hb; first | (simp at hb; done) | (simp at hb) | skip) | omega | exact rfl | exact Nat.le_refl _ | (show _ + 1 ≤ 4294967296; omega) | (dsimp only; omega) | (show (_ : Int) ≤ (_ : Int); omega) | (show _ < List.length _; simp only [List.length_set, List.length_append, List.length_take]; omega) | (show wantB _ _ = true; simp; done) | (show wantB _ _ = true; simp; omega) | (show (_ : Bool) = _; simp_all; done) | (exfalso; omega) | fail))
      refine ⟨Nat, fun k => ⟨[(2, .ptr 0 0), (3, .ptr 1 0), (4, .fz int (dM (gF a) (lake.take k))), (5, .fz int (dS (gF a) (lake.take k))), (6, .fz .raw .nilIface), (8, .ptr 2 0), (31, .fz LI lake), (32, .fz int lake.length), (33, .fz int k)], [bA, .box [.fz LI lake], bF]⟩, fun k => k ≤ lake.length, fun k => lake.length - k, 0, Nat.zero_le _, Ent.sub rfl ?_, ?_⟩
      · (repeat' (first | exact trivial | exact rfl | refine And.intro ?_ ?_))
      intro k hk
      have hk : k ≤ lake.length := hk
      have hdb := d_bd (gF a) hgb lake k hk
      show awp _ _ _ ⟨[(2, .ptr 0 0), (3, .ptr 1 0), (4, .fz int (dM (gF a) (lake.take k))), (5, .fz int (dS (gF a) (lake.take k))), (6, .fz .raw .nilIface), (8, .ptr 2 0), (31, .fz LI lake), (32, .fz int lake.length), (33, .fz int k)], [bA, .box [.fz LI lake], bF]⟩
      by_cases hk2 : k < lake.length
      · obtain ⟨j, ej, hj, _⟩ := lake_at (n := n) (o := o) (i := i0) (x := lake[k]) (by rw [← elk]; exact List.getElem_mem _)
        have g1 : lake[k]?.getD int.dft = (j : Int) := by rw [List.getElem?_eq_getElem hk2, ← ej]; rfl
        have g1' : List.getD lake (Int.toNat (k : Int)) int.dft = (j : Int) := by rw [Int.toNat_natCast, List.getD_eq_getElem?_getD, g1]
        have g2 : (lst n (flF a))[j]?.getD int.dft = flF a j := lst_get _ hj
        have hbj := hgb j
        have eg : flF a j - hts a j = gF a j := by unfold gF; rw [Int.toNat_natCast]
        have en1 : dM (gF a) (lake.take (k + 1)) = max (dM (gF a) (lake.take k)) (gF a j) := by rw [take_next lake hk2, dM_add, ej]
        have en2 : dS (gF a) (lake.take (k + 1)) = dS (gF a) (lake.take k) + gF a j := by rw [take_next lake hk2, dS_add, ej]
        have hD : List.getD (lst n (flF a)) (Int.toNat (List.getD lake (Int.toNat (k : Int)) int.dft)) int.dft - List.getD a.2.2 (Int.toNat (List.getD lake (Int.toNat (k : Int)) int.dft)) int.dft = gF a j := by
          rw [g1', Int.toNat_natCast, List.getD_eq_getElem?_getD, g2]; exact eg
        generalize dM (gF a) (lake.take k) = M at *
        generalize dS (gF a) (lake.take k) = S at *
        (repeat' (first | exact trivial | exact fun h => h | refine And.intro ?_ ?_ | (intro hb; first | (simp at hb; done) | (simp at hb) | skip) | omega | exact rfl | exact Nat.le_refl _ | (show _ + 1 ≤ 4294967296; omega) | (dsimp only; omega) | (show (_ : Int) ≤ (_ : Int); omega) | (show _ < List.length _; simp only [List.length_set, List.length_append, List.length_take]; omega) | (show wantB _ _ = true; simp; done) | (show wantB _ _ = true; simp; omega) | (show (_ : Bool) = _; simp_all; done) | (exfalso; omega) | refine aRegion_auto (by decide +kernel) ?_ | fail))
        refine ⟨k + 1, by show k + 1 ≤ lake.length; omega, by show lake.length - (k + 1) < lake.length - k; omega, Ent.sub rfl ?_⟩
        (repeat' (first | exact trivial | exact rfl | refine And.intro ?_ ?_))
        · exact congrArg (AV.fz int) ((congrArg (max M) hD).trans en1.symm)
        · exact congrArg (AV.fz int) ((congrArg (S + ·) hD).trans en2.symm)
      · have hk3 : k = lake.length := by omega
        subst hk3
        rw [List.take_length]
        (repeat' (first | exact trivial | exact fun h => h | refine And.intro ?_ ?_ | (intro hb; first | (simp at hb; done) | (simp at hb) | skip) | omega | exact rfl | exact Nat.le_refl _ | (show _ + 1 ≤ 4294967296; omega) | (dsimp only; omega) | (show (_ : Int) ≤ (_ : Int); omega) | (show _ < List.length _; simp only [List.length_set, List.length_append, List.length_take]; omega) | (show wantB _ _ = true; simp; done) | (show wantB _ _ = true; simp; omega) | (show (_ : Bool) = _; simp_all; done) | (exfalso; omega) | refine aRegion_auto (by decide +kernel) ?_ | fail))
        refine ⟨_, _, REnt.drop ⟨rfl, rfl⟩, ?_⟩
        exact hK
    · rw [if_neg hm] at hK
      rw [decide_eq_false hm]
      (repeat' (first | exact trivial | exact fun h => h | refine And.intro ?_ ?_ | (intro hb; first | (simp at hb; done) | (simp at hb) | skip) | omega | exact rfl | exact Nat.le_refl _ | (show _ + 1 ≤ 4294967296; omega) | (dsimp only; omega) | (show (_ : Int) ≤ (_ : Int); omega) | (show _ < List.length _; simp only [List.length_set, List.length_append, List.length_take]; omega) | (show wantB _ _ = true; simp; done) | (show wantB _ _ = true; simp; omega) | (show (_ : Bool) = _; simp_all; done) | (exfalso; omega) | refine aRegion_auto (by decide +kernel) ?_ | fail))
      refine ⟨_, _, REnt.drop ⟨rfl, rfl⟩, ?_⟩
      exact hK
  · rw [if_neg hv] at hK
    refine acall_mk (E := envAt (G8 E) 57 0) (envOk _ _ _) Tryd.func34 rfl rfl rfl rfl rfl ?_
    (repeat' (first | exact trivial | exact fun h => h | refine And.intro ?_ ?_ | (intro hb; first | (simp at hb; done) | (simp at hb) | skip) | omega | exact rfl | exact Nat.le_refl _ | (show _ + 1 ≤ 4294967296; omega) | (dsimp only; omega) | (show (_ : Int) ≤ (_ : Int); omega) | (show _ < List.length _; simp only [List.length_set, List.length_append, List.length_take]; omega) | (show wantB _ _ = true; simp; done) | (show wantB _ _ = true; simp; omega) | (show (_ : Bool) = _; simp_all; done) | (exfalso; omega) | fail))
    refine acall_conv [.dat RasT] _ _ _ rfl trivial (acall_frame0 rfl (lakes_one E a hl o ho _ ?_))
    obtain h | h | h | h : rerr a = 1 ∨ rerr a = 2 ∨ rerr a = 3 ∨ rerr a = 4 := by omega
    all_goals
      rw [h] at hK ⊢
      (repeat' (first | exact trivial | exact fun h => h | refine And.intro ?_ ?_ | (intro hb; first | (simp at hb; done) | (simp at hb) | skip) | omega | exact rfl | exact Nat.le_refl _ | (show _ + 1 ≤ 4294967296; omega) | (dsimp only; omega) | (show (_ : Int) ≤ (_ : Int); omega) | (show _ < List.length _; simp only [List.length_set, List.length_append, List.length_take]; omega) | (show wantB _ _ = true; simp; done) | (show wantB _ _ = true; simp; omega) | (show (_ : Bool) = _; simp_all; done) | (exfalso; omega) | fail))
      refine ⟨_, _, REnt.drop ⟨rfl, rfl⟩, ?_⟩
      exact hK
end Go.Proofs.YtepkknjncpbahaaDoor
/-
  Lakes: the document's.
-/
namespace Go.Proofs.YtepkknjncpbahaaDoor
open Go Go.Ab
set_option maxRecDepth 100000
namespace Lk
def sumo (o : Nat → Int) : Nat → Nat
  | 0 => 0
  | n + 1 => sumo o n + (o n + 1).toNat
theorem sumo_congr {o o' : Nat → Int} : ∀ n, (∀ j, j < n → o j = o' j) → sumo o n = sumo o' n
  | 0, _ => rfl
  | n + 1, h => by rw [sumo, sumo, sumo_congr n fun j hj => h j (by omega), h n (by omega)]
theorem sumo_lt {o : Nat → Int} {k : Nat} {v : Int} (h0 : 0 ≤ v) (hv : v < o k) : ∀ n, k < n → sumo (fun j => if j = k then v else o j) n < sumo o n
  | 0, h => absurd h (Nat.not_lt_zero _)
  | n + 1, h => by
    rw [sumo, sumo]
    by_cases e : k = n
    · subst e
      rw [sumo_congr k (o' := o) fun j hj => if_neg (by omega), if_pos rfl]
      omega
    · rw [if_neg (fun c => e c.symm)]
      have := sumo_lt h0 hv n (by omega)
      omega
def PS (n : Nat) (t : Nat → Nat → Prop) (o : Nat → Int) (i k : Nat) : Prop := ∀ i' k', i' < n → k' < n → (i' < i ∨ (i' = i ∧ k' < k)) → t i' k' → 0 ≤ o i' → o k' ≤ o i'
theorem PS.start {n : Nat} {t : Nat → Nat → Prop} {o : Nat → Int} : PS n t o 0 0 := fun i' k' _ _ h => by omega
theorem PS.row {n : Nat} {t : Nat → Nat → Prop} {o : Nat → Int} {i : Nat} (h : PS n t o i n) : PS n t o (i + 1) 0 := fun i' k' h1 h2 h3 => h i' k' h1 h2 (by omega)
theorem PS.next {n : Nat} {t : Nat → Nat → Prop} {o : Nat → Int} {i k : Nat} (h : PS n t o i k) (hs : t i k → 0 ≤ o i → o k ≤ o i) : PS n t o i (k + 1) := fun i' k' h1 h2 h3 => by
  by_cases e : i' = i ∧ k' = k
  · rw [e.1, e.2]; exact hs
  · exact h i' k' h1 h2 (by omega)
end Lk
/-- each wet cell by itself, up to a cell -/
def loF (wet : Nat → Bool) (k j : Nat) : Int := if j < k then (if wet j then (j : Int) else -1) else 0
set_option maxHeartbeats 8000000 in
theorem lakesOf_any (G : List (Nat × Value)) (a : Ras) {w h n : Nat} (R : RasN a w h) (hn : n = w * h) (fl : Nat → Int) (t r : List Int) (o : Nat → Int) (ho : Lk.Lak n (wetF a fl) (touchN w) o) (K : AV → List AO → Prop) (hK : K (.fz LI (lst n o)) []) :
    ACall Tryd.prog G 35 [.fptr RasT a, .fz FT (lst n fl, t, r)] [] K := by
  have hl := R.len
  have hwh := R.wh
  rw [← hn] at hl hwh
  have hfl := lst_len n fl
  let bf : AO := .box [.fz LI (lst n fl), .fz LI t, .fz LI r]
  refine acall_mk (E := envAt G 86 0) (envOk _ _ _) Tryd.func35 rfl rfl rfl rfl rfl ?_
  (repeat' (first | exact trivial | exact fun h => h | refine And.intro ?_ ?_ | (intro hb; first | (simp at hb; done) | (simp at hb) | skip) | omega | exact rfl | exact Nat.le_refl _ | (show _ + 1 ≤ 4294967296; omega) | (dsimp only; omega) | (show (_ : Int) ≤ (_ : Int); omega) | (show _ < List.length _; simp only [List.length_set, List.length_append, List.length_take]; omega) | (show wantB _ _ = true; simp; done) | (show wantB _ _ = true; simp; omega) | (show (_ : Bool) = _; simp_all; done) | (exfalso; omega) | refine aRegion_auto (by decide +kernel) ?_ | fail))
  refine ⟨Nat, fun k => ⟨[(0, .fptr RasT a), (3, .ptr 0 0), (5, .fz int n), (6, .ref 1 0 n), (7, .fz int k)], [bf, .row int (lst n (loF (wetF a fl) k))]⟩, fun k => k ≤ n, fun k => n - k, 0, Nat.zero_le _, Ent.sub ?_ ?_, ?_⟩
  · (repeat' (first | exact rfl | refine cons_eq ?_ ?_))
    refine congrArg (AO.row int) (?_ : List.replicate a.2.2.length 0 = lst n (loF (wetF a fl) 0))
    rw [hl, lst_zero]; rfl
  · (repeat' (first | exact trivial | exact rfl | refine And.intro ?_ ?_))
    · exact congrArg (fun z : Nat => AV.fz int (z : Int)) hl
    · exact congrArg (AV.ref 1 0) hl
  · intro k hk
    have hk : k ≤ n := hk
    have hB := lst_len n (loF (wetF a fl) k)
    show awp _ _ _ ⟨[(0, .fptr RasT a), (3, .ptr 0 0), (5, .fz int n), (6, .ref 1 0 n), (7, .fz int k)], [bf, .row int (lst n (loF (wetF a fl) k))]⟩
    by_cases hk2 : k < n
    · have g1 : (lst n fl)[k]?.getD int.dft = fl k := lst_get _ hk2
      have g3 : a.2.2[k]?.getD int.dft = hts a k := rfl
      by_cases hw : hts a k < fl k
      · (repeat' (first | exact trivial | exact fun h => h | refine And.intro ?_ ?_ | (intro hb; first | (simp at hb; done) | (simp at hb) | skip) | omega | exact rfl | exact Nat.le_refl _ | (show _ + 1 ≤ 4294967296; omega) | (dsimp only; omega) | (show (_ : Int) ≤ (_ : Int); omega) | (show _ < List.length _; simp only [List.length_set, List.length_append, List.length_take]; omega) | (show wantB _ _ = true; simp; done) | (show wantB _ _ = true; simp; omega) | (show (_ : Bool) = _; simp_all; done) | (exfalso; omega) | refine aRegion_auto (by decide +kernel) ?_ | fail))
        refine ⟨k + 1, by show k + 1 ≤ n; omega, by show n - (k + 1) < n - k; omega, Ent.sub ?_ ?_⟩
        · (repeat' (first | exact rfl | refine cons_eq ?_ ?_))
          refine row_set2 (k : Int) rfl fun j hj => ?_
          unfold loF
          by_cases e : j = k
          · subst e; rw [if_pos rfl, if_pos (by omega), if_pos (by unfold wetF; exact decide_eq_true hw)]
          · rw [if_neg e]
            by_cases e2 : j < k
            · rw [if_pos e2, if_pos (by omega : j < k + 1)]
            · rw [if_neg e2, if_neg (by omega : ¬ j < k + 1)]
        · (repeat' (first | exact trivial | exact rfl | refine And.intro ?_ ?_))
      · (repeat' (first | exact trivial | exact fun h => h | refine And.intro ?_ ?_ | (intro hb; first | (simp at hb; done) | (simp at hb) | skip) | omega | exact rfl | exact Nat.le_refl _ | (show _ + 1 ≤ 4294967296; omega) | (dsimp only; omega) | (show (_ : Int) ≤ (_ : Int); omega) | (show _ < List.length _; simp only [List.length_set, List.length_append, List.length_take]; omega) | (show wantB _ _ = true; simp; done) | (show wantB _ _ = true; simp; omega) | (show (_ : Bool) = _; simp_all; done) | (exfalso; omega) | refine aRegion_auto (by decide +kernel) ?_ | fail))
        refine ⟨k + 1, by show k + 1 ≤ n; omega, by show n - (k + 1) < n - k; omega, Ent.sub ?_ ?_⟩
        · (repeat' (first | exact rfl | refine cons_eq ?_ ?_))
          refine row_set1 (-1) rfl fun j hj => ?_
          unfold loF
          by_cases e : j = k
          · subst e; rw [if_pos rfl, if_pos (by omega), if_neg (by unfold wetF; simpa using hw)]
          · rw [if_neg e]
            by_cases e2 : j < k
            · rw [if_pos e2, if_pos (by omega : j < k + 1)]
            · rw [if_neg e2, if_neg (by omega : ¬ j < k + 1)]
        · (repeat' (first | exact trivial | exact rfl | refine And.intro ?_ ?_))
    · have hk3 : k = n := by omega
      subst hk3
      (repeat' (first | exact trivial | exact fun h => h | refine And.intro ?_ ?_ | (intro hb; first | (simp at hb; done) | (simp at hb) | skip) | omega | exact rfl | exact Nat.le_refl _ | (show _ + 1 ≤ 4294967296; omega) | (dsimp only; omega) | (show (_ : Int) ≤ (_ : Int); omega) | (show _ < List.length _; simp only [List.length_set, List.length_append, List.length_take]; omega) | (show wantB _ _ = true; simp; done) | (show wantB _ _ = true; simp; omega) | (show (_ : Bool) = _; simp_all; done) | (exfalso; omega) | refine aRegion_auto (by decide +kernel) ?_ | fail))
      refine ⟨(Nat → Int) × Bool, fun x => ⟨[(0, .fptr RasT a), (3, .ptr 0 0), (5, .fz int k), (6, .ref 1 0 k), (8, .fz .bool x.2)], [bf, .row int (lst k x.1)]⟩, fun x => Lk.OfI k (wetF a fl) (touchN w) x.1 ∧ (x.2 = false → Lk.Stb k (touchN w) x.1), fun x => if x.2 then Lk.sumo x.1 k + 1 else 0, (fun i => if wetF a fl i then (i : Int) else -1, true), ⟨.start, fun h => by cases h⟩, Ent.sub ?_ ?_, ?_⟩
      · (repeat' (first | exact rfl | refine cons_eq ?_ ?_))
        refine row_lst fun j hj => ?_
        unfold loF; rw [if_pos hj]
      · (repeat' (first | exact trivial | exact rfl | refine And.intro ?_ ?_))
      clear hk hB
      rintro ⟨p, ag⟩ ⟨hp, hst⟩
      have hp : Lk.OfI k (wetF a fl) (touchN w) p := hp
      have hst : ag = false → Lk.Stb k (touchN w) p := hst
      have hpl := lst_len k p
      show awp _ _ _ ⟨[(0, .fptr RasT a), (3, .ptr 0 0), (5, .fz int k), (6, .ref 1 0 k), (8, .fz .bool ag)], [bf, .row int (lst k p)]⟩
      cases ag
      · have e : lst k p = lst k o := lst_congr fun j hj => Lk.Lak.uniq ⟨hp, hst rfl⟩ ho (fun _ _ h => touchN_symm h) hj
        rw [e]
        have hol := lst_len k o
        (repeat' (first | exact trivial | exact fun h => h | refine And.intro ?_ ?_ | (intro hb; first | (simp at hb; done) | (simp at hb) | skip) | omega | exact rfl | exact Nat.le_refl _ | (show _ + 1 ≤ 4294967296; omega) | (dsimp only; omega) | (show (_ : Int) ≤ (_ : Int); omega) | (show _ < List.length _; simp only [List.length_set, List.length_append, List.length_take]; omega) | (show wantB _ _ = true; simp; done) | (show wantB _ _ = true; simp; omega) | (show (_ : Bool) = _; simp_all; done) | (exfalso; omega) | refine aRegion_auto (by decide +kernel) ?_ | fail))
        refine ⟨_, _, (REnt.conv1 (.dat LI) _ rfl ?_).trans (REnt.drop ⟨rfl, rfl⟩), ?_⟩
        · show 0 + _ ≤ _
          omega
        · refine (congrArg (fun l => K (.fz LI l) []) (List.take_of_length_le (l := lst k o) (Nat.le_of_eq hol))).mpr hK
      · (repeat' (first | exact trivial | exact fun h => h | refine And.intro ?_ ?_ | (intro hb; first | (simp at hb; done) | (simp at hb) | skip) | omega | exact rfl | exact Nat.le_refl _ | (show _ + 1 ≤ 4294967296; omega) | (dsimp only; omega) | (show (_ : Int) ≤ (_ : Int); omega) | (show _ < List.length _; simp only [List.length_set, List.length_append, List.length_take]; omega) | (show wantB _ _ = true; simp; done) | (show wantB _ _ = true; simp; omega) | (show (_ : Bool) = _; simp_all; done) | (exfalso; omega) | refine aRegion_auto (by decide +kernel) ?_ | fail))
        refine ⟨(Nat → Int) × Bool × Nat, fun x => ⟨[(0, .fptr RasT a), (3, .ptr 0 0), (5, .fz int k), (6, .ref 1 0 k), (8, .fz .bool x.2.1), (9, .fz int x.2.2)], [bf, .row int (lst k x.1)]⟩, fun x => x.2.2 ≤ k ∧ Lk.OfI k (wetF a fl) (touchN w) x.1 ∧ Lk.sumo x.1 k ≤ Lk.sumo p k ∧ (x.2.1 = true → Lk.sumo x.1 k < Lk.sumo p k) ∧ (x.2.1 = false → Lk.PS k (touchN w) x.1 x.2.2 0), fun x => k - x.2.2, (p, false, 0), ⟨Nat.zero_le _, hp, Nat.le_refl _, (fun h => nomatch h), fun _ => .start⟩, Ent.sub rfl ?_, ?_⟩
        · (repeat' (first | exact trivial | exact rfl | refine And.intro ?_ ?_))
        rintro ⟨q, ag, i⟩ ⟨hi, hq, hs1, hs2, hs3⟩
        have hi : i ≤ k := hi
        have hq : Lk.OfI k (wetF a fl) (touchN w) q := hq
        have hs1 : Lk.sumo q k ≤ Lk.sumo p k := hs1
        have hs2 : ag = true → Lk.sumo q k < Lk.sumo p k := hs2
        have hs3 : ag = false → Lk.PS k (touchN w) q i 0 := hs3
        have hql := lst_len k q
        show awp _ _ _ ⟨[(0, .fptr RasT a), (3, .ptr 0 0), (5, .fz int k), (6, .ref 1 0 k), (8, .fz .bool ag), (9, .fz int i)], [bf, .row int (lst k q)]⟩
        by_cases hi2 : i < k
        · (repeat' (first | exact trivial | exact fun h => h | refine And.intro ?_ ?_ | (intro hb; first | (simp at hb; done) | (simp at hb) | skip) | omega | exact rfl | exact Nat.le_refl _ | (show _ + 1 ≤ 4294967296; omega) | (dsimp only; omega) | (show (_ : Int) ≤ (_ : Int); omega) | (show _ < List.length _; simp only [List.length_set, List.length_append, List.length_take]; omega) | (show wantB _ _ = true; simp; done) | (show wantB _ _ = true; simp; omega) | (show (_ : Bool) = _; simp_all; done) | (exfalso; omega) | refine aRegion_auto (by decide +kernel) ?_ | fail))
          refine ⟨(Nat → Int) × Bool × Nat, fun x => ⟨[(0, .fptr RasT a), (3, .ptr 0 0), (5, .fz int k), (6, .ref 1 0 k), (8, .fz .bool x.2.1), (9, .fz int i), (10, .fz int x.2.2)], [bf, .row int (lst k x.1)]⟩, fun x => x.2.2 ≤ k ∧ Lk.OfI k (wetF a fl) (touchN w) x.1 ∧ Lk.sumo x.1 k ≤ Lk.sumo p k ∧ (x.2.1 = true → Lk.sumo x.1 k < Lk.sumo p k) ∧ (x.2.1 = false → Lk.PS k (touchN w) x.1 i x.2.2), fun x => k - x.2.2, (q, ag, 0), ⟨Nat.zero_le _, hq, hs1, hs2, hs3⟩, Ent.sub rfl ?_, ?_⟩
          · (repeat' (first | exact trivial | exact rfl | refine And.intro ?_ ?_))
          clear hq hs1 hs2 hs3 hql
          rintro ⟨q, ag, j⟩ ⟨hj, hq, hs1, hs2, hs3⟩
          have hj : j ≤ k := hj
          have hq : Lk.OfI k (wetF a fl) (touchN w) q := hq
          have hs1 : Lk.sumo q k ≤ Lk.sumo p k := hs1
          have hs2 : ag = true → Lk.sumo q k < Lk.sumo p k := hs2
          have hs3 : ag = false → Lk.PS k (touchN w) q i j := hs3
          have hql := lst_len k q
          show awp _ _ _ ⟨[(0, .fptr RasT a), (3, .ptr 0 0), (5, .fz int k), (6, .ref 1 0 k), (8, .fz .bool ag), (9, .fz int i), (10, .fz int j)], [bf, .row int (lst k q)]⟩
          by_cases hj2 : j < k
          · have g1 : (lst k q)[i]?.getD int.dft = q i := lst_get _ hi2
            have g2 : (lst k q)[j]?.getD int.dft = q j := lst_get _ hj2
            have next : (touchN w i j → 0 ≤ q i → q j ≤ q i) → ag = false → Lk.PS k (touchN w) q i (j + 1) := fun h e => (hs3 e).next h
            (repeat' (first | exact trivial | exact fun h => h | refine And.intro ?_ ?_ | (intro hb; first | (simp at hb; done) | (simp at hb) | skip) | omega | exact rfl | exact Nat.le_refl _ | (show _ + 1 ≤ 4294967296; omega) | (dsimp only; omega) | (show (_ : Int) ≤ (_ : Int); omega) | (show _ < List.length _; simp only [List.length_set, List.length_append, List.length_take]; omega) | (show wantB _ _ = true; simp; done) | (show wantB _ _ = true; simp; omega) | (show (_ : Bool) = _; simp_all; done) | (exfalso; omega) | refine aRegion_auto (by decide +kernel) ?_ | fail))
            refine acall_frame0 rfl (touch_any _ a R i j (by omega) (by omega) _ ?_)
            by_cases ht : touchN w i j
            · rw [decide_eq_true ht]
              by_cases h0 : 0 ≤ q i
              · by_cases hlt : q i < q j
                · (repeat' (first | exact trivial | exact fun h => h | refine And.intro ?_ ?_ | (intro hb; first | (simp at hb; done) | (simp at hb) | skip) | omega | exact rfl | exact Nat.le_refl _ | (show _ + 1 ≤ 4294967296; omega) | (dsimp only; omega) | (show (_ : Int) ≤ (_ : Int); omega) | (show _ < List.length _; simp only [List.length_set, List.length_append, List.length_take]; omega) | (show wantB _ _ = true; simp; done) | (show wantB _ _ = true; simp; omega) | (show (_ : Bool) = _; simp_all; done) | (exfalso; omega) | refine aRegion_auto (by decide +kernel) ?_ | fail))
                  have hsl := Lk.sumo_lt (o := q) h0 hlt k hj2
                  refine ⟨(fun x => if x = j then q i else q x, true, j + 1), ⟨by show j + 1 ≤ k; omega, hq.step hi2 hj2 ht h0 hlt, by show Lk.sumo (fun x => if x = j then q i else q x) k ≤ _; omega, fun _ => by show Lk.sumo (fun x => if x = j then q i else q x) k < _; omega, fun h => nomatch h⟩, by show k - (j + 1) < k - j; omega, Ent.sub ?_ ?_⟩
                  · (repeat' (first | exact rfl | refine cons_eq ?_ ?_))
                    refine row_set1 (q i) ?_ fun x hx => rfl
                    show List.getD (lst k q) (0 + Int.toNat (i : Int)) int.dft = q i
                    rw [Nat.zero_add, Int.toNat_natCast, List.getD_eq_getElem?_getD, g1]
                  · (repeat' (first | exact trivial | exact rfl | refine And.intro ?_ ?_))
                · (repeat' (first | exact trivial | exact fun h => h | refine And.intro ?_ ?_ | (intro hb; first | (simp at hb; done) | (simp at hb) | skip) | omega | exact rfl | exact Nat.le_refl _ | (show _ + 1 ≤ 4294967296; omega) | (dsimp only; omega) | (show (_ : Int) ≤ (_ : Int); omega) | (show _ < List.length _; simp only [List.length_set, List.length_append, List.length_take]; omega) | (show wantB _ _ = true; simp; done) | (show wantB _ _ = true; simp; omega) | (show (_ : Bool) = _; simp_all; done) | (exfalso; omega) | refine aRegion_auto (by decide +kernel) ?_ | fail))
                  refine ⟨(q, ag, j + 1), ⟨by show j + 1 ≤ k; omega, hq, hs1, hs2, next fun _ _ => by omega⟩, by show k - (j + 1) < k - j; omega, Ent.sub rfl ?_⟩
                  (repeat' (first | exact trivial | exact rfl | refine And.intro ?_ ?_))
              · (repeat' (first | exact trivial | exact fun h => h | refine And.intro ?_ ?_ | (intro hb; first | (simp at hb; done) | (simp at hb) | skip) | omega | exact rfl | exact Nat.le_refl _ | (show _ + 1 ≤ 4294967296; omega) | (dsimp only; omega) | (show (_ : Int) ≤ (_ : Int); omega) | (show _ < List.length _; simp only [List.length_set, List.length_append, List.length_take]; omega) | (show wantB _ _ = true; simp; done) | (show wantB _ _ = true; simp; omega) | (show (_ : Bool) = _; simp_all; done) | (exfalso; omega) | refine aRegion_auto (by decide +kernel) ?_ | fail))
                refine ⟨(q, ag, j + 1), ⟨by show j + 1 ≤ k; omega, hq, hs1, hs2, next fun _ h => absurd h h0⟩, by show k - (j + 1) < k - j; omega, Ent.sub rfl ?_⟩
                (repeat' (first | exact trivial | exact rfl | refine And.intro ?_ ?_))
            · rw [decide_eq_false ht]
              (repeat' (first | exact trivial | exact fun h => h | refine And.intro ?_ ?_ | (intro hb; first | (simp at hb; done) | (simp at hb) | skip) | omega | exact rfl | exact Nat.le_refl _ | (show _ + 1 ≤ 4294967296; omega) | (dsimp only; omega) | (show (_ : Int) ≤ (_ : Int); omega) | (show _ < List.length _; simp only [List.length_set, List.length_append, List.length_take]; omega) | (show wantB _ _ = true; simp; done) | (show wantB _ _ = true; simp; omega) | (show (_ : Bool) = _; simp_all; done) | (exfalso; omega) | refine aRegion_auto (by decide +kernel) ?_ | fail))
              refine ⟨(q, ag, j + 1), ⟨by show j + 1 ≤ k; omega, hq, hs1, hs2, next fun h => absurd h ht⟩, by show k - (j + 1) < k - j; omega, Ent.sub rfl ?_⟩
              (repeat' (first | exact trivial | exact rfl | refine And.intro ?_ ?_))
          · have hj3 : j = k := by omega
            subst hj3
            (repeat' (first | exact trivial | exact fun h => h | refine And.intro ?_ ?_ | (intro hb; first | (simp at hb; done) | (simp at hb) | skip) | omega | exact rfl | exact Nat.le_refl _ | (show _ + 1 ≤ 4294967296; omega) | (dsimp only; omega) | (show (_ : Int) ≤ (_ : Int); omega) | (show _ < List.length _; simp only [List.length_set, List.length_append, List.length_take]; omega) | (show wantB _ _ = true; simp; done) | (show wantB _ _ = true; simp; omega) | (show (_ : Bool) = _; simp_all; done) | (exfalso; omega) | refine aRegion_auto (by decide +kernel) ?_ | fail))
            refine ⟨(q, ag, i + 1), ⟨hi2, hq, hs1, hs2, fun e => (hs3 e).row⟩, by show j - (i + 1) < j - i; omega, Ent.sub rfl ?_⟩
            (repeat' (first | exact trivial | exact rfl | refine And.intro ?_ ?_))
        · have hi3 : i = k := by omega
          subst hi3
          (repeat' (first | exact trivial | exact fun h => h | refine And.intro ?_ ?_ | (intro hb; first | (simp at hb; done) | (simp at hb) | skip) | omega | exact rfl | exact Nat.le_refl _ | (show _ + 1 ≤ 4294967296; omega) | (dsimp only; omega) | (show (_ : Int) ≤ (_ : Int); omega) | (show _ < List.length _; simp only [List.length_set, List.length_append, List.length_take]; omega) | (show wantB _ _ = true; simp; done) | (show wantB _ _ = true; simp; omega) | (show (_ : Bool) = _; simp_all; done) | (exfalso; omega) | refine aRegion_auto (by decide +kernel) ?_ | fail))
          refine ⟨(q, ag), ⟨hq, fun e i' k' h1 h2 ht h0 => hs3 e i' k' h1 h2 (by omega) ht h0⟩, ?_, Ent.sub rfl ?_⟩
          · show (if ag then Lk.sumo q i + 1 else 0) < Lk.sumo p i + 1
            cases ag
            · simp
            · have := hs2 rfl
              simp; omega
          · (repeat' (first | exact trivial | exact rfl | refine And.intro ?_ ?_))
end Go.Proofs.YtepkknjncpbahaaDoor
/-
  BasinParts: divides, and the walk.
-/
namespace Go.Proofs.YtepkknjncpbahaaDoor
open Go Go.Ab
set_option maxRecDepth 100000
abbrev D2 : Ty := .arr 2 int
def pr (i k : Nat) : List Int := [(i : Int), (k : Int)]
/-- the divides of one cell: to the east, to the south -/
def dv1 (w : Nat) (b : Nat → Int) (i : Nat) : List (List Int) := if (i + 1) % w ≠ 0 ∧ b i ≠ b (i + 1) then [pr i (i + 1)] else []
def dv2 (w n : Nat) (b : Nat → Int) (i : Nat) : List (List Int) := if i + w < n ∧ b i ≠ b (i + w) then [pr i (i + w)] else []
def dvs (w n : Nat) (b : Nat → Int) : Nat → List (List Int)
  | 0 => []
  | k + 1 => dvs w n b k ++ (dv1 w b k ++ dv2 w n b k)
theorem dv_le (w n : Nat) (b : Nat → Int) (i : Nat) : (dv1 w b i).length ≤ 1 ∧ (dv2 w n b i).length ≤ 1 := by
  unfold dv1 dv2
  constructor <;> split <;> simp
theorem dvs_le (w n : Nat) (b : Nat → Int) : ∀ k, (dvs w n b k).length ≤ 2 * k
  | 0 => Nat.le_refl _
  | k + 1 => by
    have := dvs_le w n b k
    have := dv_le w n b k
    unfold dvs; simp; omega
set_option maxHeartbeats 4000000 in
theorem divides_ok (E : Errs) (a : Ras) (hv : rerr a = 0) {w h : Nat} (R : RasN a w h) (b : Nat → Int) (hb : basQ a = lst (w * h) b) (K : AV → List AO → Prop) (hK : K (.tup [.fz (.list D2) (dvs w (w * h) b (w * h)), .fz .raw .nilIface]) []) :
    ACall Tryd.prog (G8 E) 26 [.fz RasT a] [] K := by
  have hl := R.len
  have hwh := R.wh
  have wz := R.wide
  have w1 := R.w1
  have w0 := R.w0
  obtain ⟨n, hn⟩ : ∃ n, n = w * h := ⟨_, rfl⟩
  rw [← hn] at hl hwh hb hK
  have hbl := lst_len n b
  let bA : AO := .box [.fz int a.1, .fz int a.2.1, .fz (.list int) a.2.2]
  refine acall_mk (E := envAt (G8 E) 74 0) (envOk _ _ _) Tryd.func26 rfl rfl rfl rfl rfl ?_
  (repeat' (first | exact trivial | exact fun h => h | refine And.intro ?_ ?_ | (intro hb; first | (simp at hb; done) | (simp at hb) | skip) | omega | exact rfl | exact Nat.le_refl _ | (show _ + 1 ≤ 4294967296; omega) | (dsimp only; omega) | (show (_ : Int) ≤ (_ : Int); omega) | (show _ < List.length _; simp only [List.length_set, List.length_append, List.length_take]; omega) | (show wantB _ _ = true; simp; done) | (show wantB _ _ = true; simp; omega) | (show (_ : Bool) = _; simp_all; done) | (exfalso; omega) | fail))
  refine acall_conv [.dat RasT] _ _ _ rfl trivial (acall_frame0 rfl (basins_one E a (by omega) _ ?_))
  rw [hv, hb]
  (repeat' (first | exact trivial | exact fun h => h | refine And.intro ?_ ?_ | (intro hb; first | (simp at hb; done) | (simp at hb) | skip) | omega | exact rfl | exact Nat.le_refl _ | (show _ + 1 ≤ 4294967296; omega) | (dsimp only; omega) | (show (_ : Int) ≤ (_ : Int); omega) | (show _ < List.length _; simp only [List.length_set, List.length_append, List.length_take]; omega) | (show wantB _ _ = true; simp; done) | (show wantB _ _ = true; simp; omega) | (show (_ : Bool) = _; simp_all; done) | (exfalso; omega) | fail))
  refine ⟨Nat, fun k => ⟨[(1, .ptr 0 0), (4, .fz (.list int) (lst n b)), (6, .ref 1 0 (dvs w n b k).length), (18, .fz int n), (19, .fz int k)], [bA, .row D2 (dvs w n b k)]⟩, fun k => k ≤ n, fun k => n - k, 0, Nat.zero_le _, (Ent.nil 6 D2 rfl).trans (Ent.sub rfl ?_), ?_⟩
  · (repeat' (first | exact trivial | exact rfl | refine And.intro ?_ ?_))
    exact congrArg (fun z : Nat => AV.fz int (z : Int)) hbl
  intro k hk
  have hdl := dvs_le w n b k
  by_cases hkn : k < n
  · have g0 : (lst n b)[k]?.getD int.dft = b k := lst_get _ hkn
    have g1 : k + 1 < n → (lst n b)[k + 1]?.getD int.dft = b (k + 1) := fun h => lst_get _ h
    have g2 : k + w < n → (lst n b)[k + w]?.getD int.dft = b (k + w) := fun h => lst_get _ h
    have m1 : Int.tmod ((k : Int) + 1) a.1 = (((k + 1) % w : Nat) : Int) := by rw [wz]; rfl
    have hz : a.1 ≠ 0 := by omega
    have ek : ((k : Int) + a.1).toNat = k + w := by omega
    have epr : [(k : Int), (k : Int) + a.1] = pr k (k + w) := by unfold pr; rw [wz]; rfl
    have epr1 : [(k : Int), (k : Int) + 1] = pr k (k + 1) := rfl
    have sth : ∀ L, dv2 w n b k = L → ∀ M, dv1 w b k = M → dvs w n b (k + 1) = dvs w n b k ++ (M ++ L) := fun L e1 M e2 => by rw [dvs, e1, e2]
    -- a cell that is not the last one of its row has one to its east
    have heast : (k + 1) % w ≠ 0 → k + 1 < n := fun he => by
      rcases Nat.lt_or_ge (k + 1) n with h' | h'
      · exact h'
      · exfalso; apply he
        have : k + 1 = w * h := by omega
        rw [this]; simp
    by_cases he : (k + 1) % w = 0
    · have hm0 : Int.tmod ((k : Int) + 1) a.1 = 0 := by rw [m1, he]; rfl
      have e1 : dv1 w b k = [] := by unfold dv1; rw [if_neg (fun x => x.1 he)]
      (repeat' (first | exact trivial | exact fun h => h | refine And.intro ?_ ?_ | (intro hb; first | (simp at hb; done) | (simp at hb) | skip) | omega | exact rfl | exact Nat.le_refl _ | (show _ + 1 ≤ 4294967296; omega) | (dsimp only; omega) | (show (_ : Int) ≤ (_ : Int); omega) | (show _ < List.length _; simp only [List.length_set, List.length_append, List.length_take]; omega) | (show wantB _ _ = true; simp; done) | (show wantB _ _ = true; simp; omega) | (show (_ : Bool) = _; simp_all; done) | (exfalso; omega) | refine aRegion_auto (by decide +kernel) ?_ | fail))
      · have e2 := sth _ (by unfold dv2; rw [if_pos ⟨by omega, fun e => hb.2 (by rw [g0, ek, g2 (by omega), e])⟩] : dv2 w n b k = [pr k (k + w)]) _ e1
        refine ⟨k + 1, by show k + 1 ≤ n; omega, by show n - (k + 1) < n - k; omega, Ent.ren [0, 3] rfl ?_ ?_⟩
        · (repeat' (first | exact trivial | exact rfl | refine And.intro ?_ ?_))
          refine congrArg (fun l => some (AO.row D2 l)) (?_ : List.take (dvs w n b k).length (dvs w n b k) ++ [[(k : Int), (k : Int) + a.1]] = dvs w n b (k + 1))
          rw [List.take_length, epr, e2]; rfl
        · (repeat' (first | exact trivial | exact rfl | refine And.intro ?_ ?_))
          refine congrArg (AV.ref 3 0) (?_ : (dvs w n b k).length + 1 = (dvs w n b (k + 1)).length)
          rw [e2]; simp
      · have e2 := sth [] (by unfold dv2; rw [if_neg (fun x => x.2 (by have := hb (by omega); rw [g0, ek, g2 (by omega)] at this; exact this))]) _ e1
        rw [List.append_nil, List.append_nil] at e2
        refine ⟨k + 1, by show k + 1 ≤ n; omega, by show n - (k + 1) < n - k; omega, Ent.sub ?_ ?_⟩
        · show [bA, AO.row D2 (dvs w n b k)] = [bA, AO.row D2 (dvs w n b (k + 1))]
          rw [e2]
        · (repeat' (first | exact trivial | exact rfl | refine And.intro ?_ ?_))
          exact congrArg (AV.ref 1 0) (by rw [e2])
    · have hm0 : Int.tmod ((k : Int) + 1) a.1 ≠ 0 := by rw [m1]; omega
      have hk1 := heast he
      have g1 := g1 hk1
      by_cases hbe : b k = b (k + 1)
      · have e1 : dv1 w b k = [] := by unfold dv1; rw [if_neg (fun x => x.2 hbe)]
        (repeat' (first | exact trivial | exact fun h => h | refine And.intro ?_ ?_ | (intro hb; first | (simp at hb; done) | (simp at hb) | skip) | omega | exact rfl | exact Nat.le_refl _ | (show _ + 1 ≤ 4294967296; omega) | (dsimp only; omega) | (show (_ : Int) ≤ (_ : Int); omega) | (show _ < List.length _; simp only [List.length_set, List.length_append, List.length_take]; omega) | (show wantB _ _ = true; simp; done) | (show wantB _ _ = true; simp; omega) | (show (_ : Bool) = _; simp_all; done) | (exfalso; omega) | refine aRegion_auto (by decide +kernel) ?_ | fail))
        · have e2 := sth _ (by unfold dv2; rw [if_pos ⟨by omega, fun e => hb.2 (by rw [g0, ek, g2 (by omega), e])⟩] : dv2 w n b k = [pr k (k + w)]) _ e1
          refine ⟨k + 1, by show k + 1 ≤ n; omega, by show n - (k + 1) < n - k; omega, Ent.ren [0, 3] rfl ?_ ?_⟩
          · (repeat' (first | exact trivial | exact rfl | refine And.intro ?_ ?_))
            refine congrArg (fun l => some (AO.row D2 l)) (?_ : List.take (dvs w n b k).length (dvs w n b k) ++ [[(k : Int), (k : Int) + a.1]] = dvs w n b (k + 1))
            rw [List.take_length, epr, e2]; rfl
          · (repeat' (first | exact trivial | exact rfl | refine And.intro ?_ ?_))
            refine congrArg (AV.ref 3 0) (?_ : (dvs w n b k).length + 1 = (dvs w n b (k + 1)).length)
            rw [e2]; simp
        · have e2 := sth [] (by unfold dv2; rw [if_neg (fun x => x.2 (by have := hb (by omega); rw [g0, ek, g2 (by omega)] at this; exact this))]) _ e1
          rw [List.append_nil, List.append_nil] at e2
          refine ⟨k + 1, by show k + 1 ≤ n; omega, by show n - (k + 1) < n - k; omega, Ent.sub ?_ ?_⟩
          · show [bA, AO.row D2 (dvs w n b k)] = [bA, AO.row D2 (dvs w n b (k + 1))]
            rw [e2]
          · (repeat' (first | exact trivial | exact rfl | refine And.intro ?_ ?_))
            exact congrArg (AV.ref 1 0) (by rw [e2])
      · have e1 : dv1 w b k = [pr k (k + 1)] := by unfold dv1; rw [if_pos ⟨he, hbe⟩]
        (repeat' (first | exact trivial | exact fun h => h | refine And.intro ?_ ?_ | (intro hb; first | (simp at hb; done) | (simp at hb) | skip) | omega | exact rfl | exact Nat.le_refl _ | (show _ + 1 ≤ 4294967296; omega) | (dsimp only; omega) | (show (_ : Int) ≤ (_ : Int); omega) | (show _ < List.length _; simp only [List.length_set, List.length_append, List.length_take]; omega) | (show wantB _ _ = true; simp; done) | (show wantB _ _ = true; simp; omega) | (show (_ : Bool) = _; simp_all; done) | (exfalso; omega) | refine aRegion_auto (by decide +kernel) ?_ | fail))
        · show (dvs w n b k).length + 1 ≤ List.length (List.take (dvs w n b k).length (dvs w n b k) ++ [_])
          simp
        · show (dvs w n b k).length + 1 + 1 ≤ 4294967296
          omega
        · have e2 := sth _ (by unfold dv2; rw [if_pos ⟨by omega, fun e => hb.2 (by rw [g0, ek, g2 (by omega), e])⟩] : dv2 w n b k = [pr k (k + w)]) _ e1
          refine ⟨k + 1, by show k + 1 ≤ n; omega, by show n - (k + 1) < n - k; omega, Ent.ren [0, 5] rfl ?_ ?_⟩
          · (repeat' (first | exact trivial | exact rfl | refine And.intro ?_ ?_))
            refine congrArg (fun l => some (AO.row D2 l)) (?_ : List.take ((dvs w n b k).length + 1) (List.take (dvs w n b k).length (dvs w n b k) ++ [[(k : Int), (k : Int) + 1]]) ++ [[(k : Int), (k : Int) + a.1]] = dvs w n b (k + 1))
            rw [List.take_length, List.take_of_length_le (by simp), epr, epr1, e2]; simp
          · (repeat' (first | exact trivial | exact rfl | refine And.intro ?_ ?_))
            refine congrArg (AV.ref 5 0) (?_ : (dvs w n b k).length + 1 + 1 = (dvs w n b (k + 1)).length)
            rw [e2]; simp
        · have e2 := sth [] (by unfold dv2; rw [if_neg (fun x => x.2 (by have := hb (by omega); rw [g0, ek, g2 (by omega)] at this; exact this))]) _ e1
          rw [List.append_nil] at e2
          refine ⟨k + 1, by show k + 1 ≤ n; omega, by show n - (k + 1) < n - k; omega, Ent.ren [0, 3] rfl ?_ ?_⟩
          · (repeat' (first | exact trivial | exact rfl | refine And.intro ?_ ?_))
            refine congrArg (fun l => some (AO.row D2 l)) (?_ : List.take (dvs w n b k).length (dvs w n b k) ++ [[(k : Int), (k : Int) + 1]] = dvs w n b (k + 1))
            rw [List.take_length, epr1, e2]
          · (repeat' (first | exact trivial | exact rfl | refine And.intro ?_ ?_))
            refine congrArg (AV.ref 3 0) (?_ : (dvs w n b k).length + 1 = (dvs w n b (k + 1)).length)
            rw [e2]; simp
  · have hkn : k = n := by omega
    subst hkn
    (repeat' (first | exact trivial | exact fun h => h | refine And.intro ?_ ?_ | (intro hb; first | (simp at hb; done) | (simp at hb) | skip) | omega | exact rfl | exact Nat.le_refl _ | (show _ + 1 ≤ 4294967296; omega) | (dsimp only; omega) | (show (_ : Int) ≤ (_ : Int); omega) | (show _ < List.length _; simp only [List.length_set, List.length_append, List.length_take]; omega) | (show wantB _ _ = true; simp; done) | (show wantB _ _ = true; simp; omega) | (show (_ : Bool) = _; simp_all; done) | (exfalso; omega) | fail))
    refine ⟨_, _, (REnt.conv [.dat (.list D2), .keep] _ rfl ?_).trans (REnt.drop ⟨rfl, rfl⟩), ?_⟩
    · show 0 + _ ≤ _
      omega
    · refine (congrArg (fun l => K (.tup [.fz (.list D2) l, .fz .raw .nilIface]) []) (?_ : _ = List.take (dvs w k b k).length (List.drop 0 (dvs w k b k)))).mp hK
      rw [List.drop_zero, List.take_length]
end Go.Proofs.YtepkknjncpbahaaDoor
/-
  BasinParts: the walk.
-/
namespace Go.Proofs.YtepkknjncpbahaaDoor
open Go Go.Ab
set_option maxRecDepth 100000
abbrev hmI (a : Ras) (i : Nat) : Int := ((homeN a.1.toNat a.2.1.toNat (flD a.1.toNat a.2.1.toNat (hts a)).to i : Nat) : Int)
def divQ (a : Ras) : List (List Int) := if rerr a = 0 then dvs a.1.toNat (a.1.toNat * a.2.1.toNat) (hmI a) (a.1.toNat * a.2.1.toNat) else []
theorem divides_one (E : Errs) (a : Ras) (hl : a.2.2.length ≤ 1000000000000) (K : AV → List AO → Prop) (hK : K (.tup [.fz (.list D2) (divQ a), .fz .raw (er E (rerr a))]) []) :
    ACall Tryd.prog (G8 E) 26 [.fz RasT a] [] K := by
  unfold divQ at hK
  by_cases hv : rerr a = 0
  · rw [if_pos hv, hv] at hK
    exact divides_ok E a hv (RasN.mk' hv) (hmI a) (by unfold basQ; rw [if_pos hv]) K hK
  · rw [if_neg hv] at hK
    have h4 := rerr_in a
    refine acall_mk (E := envAt (G8 E) 74 0) (envOk _ _ _) Tryd.func26 rfl rfl rfl rfl rfl ?_
    (repeat' (first | exact trivial | exact fun h => h | refine And.intro ?_ ?_ | (intro hb; first | (simp at hb; done) | (simp at hb) | skip) | omega | exact rfl | exact Nat.le_refl _ | (show _ + 1 ≤ 4294967296; omega) | (dsimp only; omega) | (show (_ : Int) ≤ (_ : Int); omega) | (show _ < List.length _; simp only [List.length_set, List.length_append, List.length_take]; omega) | (show wantB _ _ = true; simp; done) | (show wantB _ _ = true; simp; omega) | (show (_ : Bool) = _; simp_all; done) | (exfalso; omega) | fail))
    refine acall_conv [.dat RasT] _ _ _ rfl trivial (acall_frame0 rfl (basins_one E a hl _ ?_))
    obtain h | h | h | h : rerr a = 1 ∨ rerr a = 2 ∨ rerr a = 3 ∨ rerr a = 4 := by omega
    all_goals
      rw [h] at hK ⊢
      (repeat' (first | exact trivial | exact fun h => h | refine And.intro ?_ ?_ | (intro hb; first | (simp at hb; done) | (simp at hb) | skip) | omega | exact rfl | exact Nat.le_refl _ | (show _ + 1 ≤ 4294967296; omega) | (dsimp only; omega) | (show (_ : Int) ≤ (_ : Int); omega) | (show _ < List.length _; simp only [List.length_set, List.length_append, List.length_take]; omega) | (show wantB _ _ = true; simp; done) | (show wantB _ _ = true; simp; omega) | (show (_ : Bool) = _; simp_all; done) | (exfalso; omega) | fail))
      refine ⟨_, _, (REnt.conv [.dat (.list D2), .keep] _ rfl trivial).trans (REnt.drop ⟨rfl, rfl⟩), ?_⟩
      exact hK
def a21 : Ras := (2, 1, [1, 2])
theorem a21_ok : rerr a21 = 0 := by decide
theorem a21_b : basQ a21 = [0, 1] := by
  unfold basQ
  rw [if_pos a21_ok]
  have F := flowN 2 1 (hts a21) (by omega)
  have h0 : homeN 2 1 (flD 2 1 (hts a21)).to 0 = 0 := F.home_rim (by omega) ((F.rim 0 (by omega)).2 (by decide))
  have h1 : homeN 2 1 (flD 2 1 (hts a21)).to 1 = 1 := F.home_rim (by omega) ((F.rim 1 (by omega)).2 (by decide))
  show [((homeN 2 1 (flD 2 1 (hts a21)).to 0 : Nat) : Int), ((homeN 2 1 (flD 2 1 (hts a21)).to 1 : Nat) : Int)] = [0, 1]
  rw [h0, h1]; rfl
theorem based_any (E : Errs) (K : AV → List AO → Prop) (hK : K (.fz .bool true) []) : ACall Tryd.prog (G8 E) 24 [] [] K := by
  have h0 : List.getD (basQ a21) (Int.toNat 0) int.dft = 0 := by rw [a21_b]; rfl
  have h1 : List.getD (basQ a21) (Int.toNat 1) int.dft = 1 := by rw [a21_b]; rfl
  have hl : (basQ a21).length = 2 := by rw [a21_b]; rfl
  refine acall_mk (E := envAt (G8 E) 28 0) (envOk _ _ _) Tryd.func24 rfl rfl rfl rfl rfl ?_
  (repeat' (first | exact trivial | exact fun h => h | refine And.intro ?_ ?_ | (intro hb; first | (simp at hb; done) | (simp at hb) | skip) | omega | exact rfl | exact Nat.le_refl _ | (show _ + 1 ≤ 4294967296; omega) | (dsimp only; omega) | (show (_ : Int) ≤ (_ : Int); omega) | (show _ < List.length _; simp only [List.length_set, List.length_append, List.length_take]; omega) | (show wantB _ _ = true; simp; done) | (show wantB _ _ = true; simp; omega) | (show (_ : Bool) = _; simp_all; done) | (exfalso; omega) | fail))
  refine acall_conv [.dat RasT] _ _ _ rfl ?_ (acall_frame0 rfl (basins_one E a21 (by decide) _ ?_))
  · (repeat' (first | exact trivial | refine And.intro ?_ ?_ | (show _ ≤ _; omega) | (show _ ≤ _; simp; done)))
  rw [a21_ok]
  generalize basQ a21 = l at *
  (repeat' (first | exact trivial | exact fun h => h | refine And.intro ?_ ?_ | (intro hb; first | (simp at hb; done) | (simp at hb) | skip) | omega | exact rfl | exact Nat.le_refl _ | (show _ + 1 ≤ 4294967296; omega) | (dsimp only; omega) | (show (_ : Int) ≤ (_ : Int); omega) | (show _ < List.length _; simp only [List.length_set, List.length_append, List.length_take]; omega) | (show wantB _ _ = true; simp; done) | (show wantB _ _ = true; simp; omega) | (show (_ : Bool) = _; simp_all; done) | (exfalso; omega) | fail))
  refine ⟨_, _, REnt.drop ⟨rfl, rfl⟩, ?_⟩
  refine kbl hK ?_
  rw [h0, h1, hl]
  rfl
theorem dvs_split (w n : Nat) (b : Nat → Int) (i : Nat) : ∀ m : Nat, i < m → ∃ R, dvs w n b m = dvs w n b i ++ (dv1 w b i ++ (dv2 w n b i ++ R))
  | 0, h => by omega
  | m + 1, h => by
    by_cases e : i = m
    · subst e; exact ⟨[], by rw [dvs, List.append_nil]⟩
    · obtain ⟨R, hR⟩ := dvs_split w n b i m (by omega)
      exact ⟨R ++ (dv1 w b m ++ dv2 w n b m), by rw [dvs, hR]; simp only [List.append_assoc]⟩
theorem get_after {α : Type} (d x : α) (l r : List α) : (l ++ (x :: r))[l.length]?.getD d = x := by simp
set_option maxHeartbeats 8000000 in
theorem basinParts_some {E : Errs} (hE : (EL E).Nodup) (a : Ras) (hla : a.2.2.length ≤ 9223372036854775807) (K : AV → List AO → Prop) (hK : K (.fz .bool true) []) :
    ACall Tryd.prog (G8 E) 5 [.fptr RasT a] [] K := by
  refine acall_mk (E := envAt (G8 E) 164 0) (envOk _ _ _) Tryd.func5 rfl rfl rfl rfl rfl ?_
  (repeat' (first | exact trivial | exact fun h => h | refine And.intro ?_ ?_ | (intro hb; first | (simp at hb; done) | (simp at hb) | skip) | omega | exact rfl | exact Nat.le_refl _ | (show _ + 1 ≤ 4294967296; omega) | (dsimp only; omega) | (show (_ : Int) ≤ (_ : Int); omega) | (show _ < List.length _; simp only [List.length_set, List.length_append, List.length_take]; omega) | (show wantB _ _ = true; simp; done) | (show wantB _ _ = true; simp; omega) | (show (_ : Bool) = _; simp_all; done) | (exfalso; omega) | refine aRegion_auto (by decide +kernel) ?_ | refine ⟨_, _, REnt.drop ⟨rfl, rfl⟩, ?_⟩ | fail))
  refine acall_frame0 rfl (based_any E _ ?_)
  (repeat' (first | exact trivial | exact fun h => h | refine And.intro ?_ ?_ | (intro hb; first | (simp at hb; done) | (simp at hb) | skip) | omega | exact rfl | exact Nat.le_refl _ | (show _ + 1 ≤ 4294967296; omega) | (dsimp only; omega) | (show (_ : Int) ≤ (_ : Int); omega) | (show _ < List.length _; simp only [List.length_set, List.length_append, List.length_take]; omega) | (show wantB _ _ = true; simp; done) | (show wantB _ _ = true; simp; omega) | (show (_ : Bool) = _; simp_all; done) | (exfalso; omega) | refine aRegion_auto (by decide +kernel) ?_ | refine ⟨_, _, REnt.drop ⟨rfl, rfl⟩, ?_⟩ | fail))
  refine acall_frame0 rfl (small80_any _ a _ ?_)
  (repeat' (first | exact trivial | exact fun h => h | refine And.intro ?_ ?_ | (intro hb; first | (simp at hb; done) | (simp at hb) | skip) | omega | exact rfl | exact Nat.le_refl _ | (show _ + 1 ≤ 4294967296; omega) | (dsimp only; omega) | (show (_ : Int) ≤ (_ : Int); omega) | (show _ < List.length _; simp only [List.length_set, List.length_append, List.length_take]; omega) | (show wantB _ _ = true; simp; done) | (show wantB _ _ = true; simp; omega) | (show (_ : Bool) = _; simp_all; done) | (exfalso; omega) | refine aRegion_auto (by decide +kernel) ?_ | refine ⟨_, _, REnt.drop ⟨rfl, rfl⟩, ?_⟩ | fail))
  · exact hK
  have hl : a.2.2.length ≤ 80 := by omega
  refine acall_frame0 rfl (basins_one E a (by omega) _ ?_)
  (repeat' (first | exact trivial | exact fun h => h | refine And.intro ?_ ?_ | (intro hb; first | (simp at hb; done) | (simp at hb) | skip) | omega | exact rfl | exact Nat.le_refl _ | (show _ + 1 ≤ 4294967296; omega) | (dsimp only; omega) | (show (_ : Int) ≤ (_ : Int); omega) | (show _ < List.length _; simp only [List.length_set, List.length_append, List.length_take]; omega) | (show wantB _ _ = true; simp; done) | (show wantB _ _ = true; simp; omega) | (show (_ : Bool) = _; simp_all; done) | (exfalso; omega) | refine aRegion_auto (by decide +kernel) ?_ | refine ⟨_, _, REnt.drop ⟨rfl, rfl⟩, ?_⟩ | fail))
  refine acall_frame0 rfl (divides_one E a (by omega) _ ?_)
  (repeat' (first | exact trivial | exact fun h => h | refine And.intro ?_ ?_ | (intro hb; first | (simp at hb; done) | (simp at hb) | skip) | omega | exact rfl | exact Nat.le_refl _ | (show _ + 1 ≤ 4294967296; omega) | (dsimp only; omega) | (show (_ : Int) ≤ (_ : Int); omega) | (show _ < List.length _; simp only [List.length_set, List.length_append, List.length_take]; omega) | (show wantB _ _ = true; simp; done) | (show wantB _ _ = true; simp; omega) | (show (_ : Bool) = _; simp_all; done) | (exfalso; omega) | refine aRegion_auto (by decide +kernel) ?_ | refine ⟨_, _, REnt.drop ⟨rfl, rfl⟩, ?_⟩ | fail))
  refine acall_frame0 rfl (rasterError_any _ a (by omega) _ ?_)
  (repeat' (first | exact trivial | exact fun h => h | refine And.intro ?_ ?_ | (intro hb; first | (simp at hb; done) | (simp at hb) | skip) | omega | exact rfl | exact Nat.le_refl _ | (show _ + 1 ≤ 4294967296; omega) | (dsimp only; omega) | (show (_ : Int) ≤ (_ : Int); omega) | (show _ < List.length _; simp only [List.length_set, List.length_append, List.length_take]; omega) | (show wantB _ _ = true; simp; done) | (show wantB _ _ = true; simp; omega) | (show (_ : Bool) = _; simp_all; done) | (exfalso; omega) | refine aRegion_auto (by decide +kernel) ?_ | refine ⟨_, _, REnt.drop ⟨rfl, rfl⟩, ?_⟩ | fail))
  · have h4 := rerr_in a
    have hne : rerr a ≠ 0 := by omega
    have e1 : basQ a = [] := by unfold basQ; rw [if_neg hne]
    have e2 : divQ a = [] := by unfold divQ; rw [if_neg hne]
    refine acall_frame0 rfl (coded_mercatorlaw4 hE (by omega) (rerr a) _ ?_)
    rw [decide_eq_true rfl, e1, e2]
    (repeat' (first | exact trivial | exact fun h => h | refine And.intro ?_ ?_ | (intro hb; first | (simp at hb; done) | (simp at hb) | skip) | omega | exact rfl | exact Nat.le_refl _ | (show _ + 1 ≤ 4294967296; omega) | (dsimp only; omega) | (show (_ : Int) ≤ (_ : Int); omega) | (show _ < List.length _; simp only [List.length_set, List.length_append, List.length_take]; omega) | (show wantB _ _ = true; simp; done) | (show wantB _ _ = true; simp; omega) | (show (_ : Bool) = _; simp_all; done) | (exfalso; omega) | refine aRegion_auto (by decide +kernel) ?_ | refine ⟨_, _, REnt.drop ⟨rfl, rfl⟩, ?_⟩ | fail))
    refine acall_frame0 rfl (coded_mercatorlaw4 hE (by omega) (rerr a) _ ?_)
    rw [decide_eq_true rfl]
    (repeat' (first | exact trivial | exact fun h => h | refine And.intro ?_ ?_ | (intro hb; first | (simp at hb; done) | (simp at hb) | skip) | omega | exact rfl | exact Nat.le_refl _ | (show _ + 1 ≤ 4294967296; omega) | (dsimp only; omega) | (show (_ : Int) ≤ (_ : Int); omega) | (show _ < List.length _; simp only [List.length_set, List.length_append, List.length_take]; omega) | (show wantB _ _ = true; simp; done) | (show wantB _ _ = true; simp; omega) | (show (_ : Bool) = _; simp_all; done) | (exfalso; omega) | refine aRegion_auto (by decide +kernel) ?_ | refine ⟨_, _, REnt.drop ⟨rfl, rfl⟩, ?_⟩ | fail))
    exact hK
  · have hv : rerr a = 0 := by omega
    have R := RasN.mk' hv
    rw [hv]
    (repeat' (first | exact trivial | exact fun h => h | refine And.intro ?_ ?_ | (intro hb; first | (simp at hb; done) | (simp at hb) | skip) | omega | exact rfl | exact Nat.le_refl _ | (show _ + 1 ≤ 4294967296; omega) | (dsimp only; omega) | (show (_ : Int) ≤ (_ : Int); omega) | (show _ < List.length _; simp only [List.length_set, List.length_append, List.length_take]; omega) | (show wantB _ _ = true; simp; done) | (show wantB _ _ = true; simp; omega) | (show (_ : Bool) = _; simp_all; done) | (exfalso; omega) | refine aRegion_auto (by decide +kernel) ?_ | refine ⟨_, _, REnt.drop ⟨rfl, rfl⟩, ?_⟩ | fail))
    refine acall_frame0 rfl (floodOf_any _ a R _ ?_)
    have F := flowN a.1.toNat a.2.1.toNat (hts a) R.w0
    have hln := R.len
    have hwh := R.wh
    have hw1 := R.w1
    have hw0 := R.w0
    have wz := R.wide
    (repeat' (first | exact trivial | exact fun h => h | refine And.intro ?_ ?_ | (intro hb; first | (simp at hb; done) | (simp at hb) | skip) | omega | exact rfl | exact Nat.le_refl _ | (show _ + 1 ≤ 4294967296; omega) | (dsimp only; omega) | (show (_ : Int) ≤ (_ : Int); omega) | (show _ < List.length _; simp only [List.length_set, List.length_append, List.length_take]; omega) | (show wantB _ _ = true; simp; done) | (show wantB _ _ = true; simp; omega) | (show (_ : Bool) = _; simp_all; done) | (exfalso; omega) | refine aRegion_auto (by decide +kernel) ?_ | refine ⟨_, _, REnt.drop ⟨rfl, rfl⟩, ?_⟩ | fail))
    refine acall_frame0 rfl (homes_any _ a (fRes a.1.toNat a.2.1.toNat a) F hwh hln rfl _ ?_)
    have e1 : basQ a = lst (a.1.toNat * a.2.1.toNat) (hmI a) := by unfold basQ; rw [if_pos hv]
    have e2 : divQ a = dvs a.1.toNat (a.1.toNat * a.2.1.toNat) (hmI a) (a.1.toNat * a.2.1.toNat) := by unfold divQ; rw [if_pos hv]
    have eH : (lst (a.1.toNat * a.2.1.toNat) (fun i => ((homeN a.1.toNat a.2.1.toNat (flD a.1.toNat a.2.1.toNat (hts a)).to i : Nat) : Int))) = lst (a.1.toNat * a.2.1.toNat) (hmI a) := rfl
    rw [eH, e1, e2]
    obtain ⟨n, hn⟩ : ∃ n, n = a.1.toNat * a.2.1.toNat := ⟨_, rfl⟩
    rw [← hn] at hln hwh ⊢
    have hB : (lst n (hmI a)).length = n := lst_len _ _
    have hbv : ∀ i, i < n → (lst n (hmI a))[i]?.getD int.dft = hmI a i := fun i hi => lst_get _ hi
    have hD := dvs_le a.1.toNat n (hmI a) n
    have hsp := fun (i : Nat) (hi : i < n) => dvs_split a.1.toNat n (hmI a) i n hi
    generalize hDD : dvs a.1.toNat n (hmI a) n = D at *
    generalize hmI a = b at *
    (repeat' (first | exact trivial | exact fun h => h | refine And.intro ?_ ?_ | (intro hb; first | (simp at hb; done) | (simp at hb) | skip) | omega | exact rfl | exact Nat.le_refl _ | (show _ + 1 ≤ 4294967296; omega) | (dsimp only; omega) | (show (_ : Int) ≤ (_ : Int); omega) | (show _ < List.length _; simp only [List.length_set, List.length_append, List.length_take]; omega) | (show wantB _ _ = true; simp; done) | (show wantB _ _ = true; simp; omega) | (show (_ : Bool) = _; simp_all; done) | (exfalso; omega) | refine aRegion_auto (by decide +kernel) ?_ | refine ⟨_, _, REnt.drop ⟨rfl, rfl⟩, ?_⟩ | fail))
    refine acall_frame0 rfl (sameInts_mercatorlaw4 _ (lst n b) (lst n b) (by omega) _ ?_)
    rw [decide_eq_true rfl]
    (repeat' (first | exact trivial | exact fun h => h | refine And.intro ?_ ?_ | (intro hb; first | (simp at hb; done) | (simp at hb) | skip) | omega | exact rfl | exact Nat.le_refl _ | (show _ + 1 ≤ 4294967296; omega) | (dsimp only; omega) | (show (_ : Int) ≤ (_ : Int); omega) | (show _ < List.length _; simp only [List.length_set, List.length_append, List.length_take]; omega) | (show wantB _ _ = true; simp; done) | (show wantB _ _ = true; simp; omega) | (show (_ : Bool) = _; simp_all; done) | (exfalso; omega) | refine aRegion_auto (by decide +kernel) ?_ | refine ⟨_, _, REnt.drop ⟨rfl, rfl⟩, ?_⟩ | fail))
    refine ⟨Nat, fun i => ⟨[(0, .fptr RasT a), (7, .fz (.list D2) D), (10, .fz (.list int) (lst n b)), (12, .fz int (dvs a.1.toNat n b i).length), (13, .fz int i)], []⟩, fun i => i ≤ n, fun i => n - i, 0, Nat.zero_le _, Ent.sub rfl ?_, ?_⟩
    · (repeat' (first | exact trivial | exact rfl | refine And.intro ?_ ?_))
    intro i hi
    have hdi := dvs_le a.1.toNat n b i
    by_cases hin : i < n
    · obtain ⟨Rs, hRs⟩ := hsp i hin
      have m1 : Int.tmod ((i : Int) + 1) a.1 = (((i + 1) % a.1.toNat : Nat) : Int) := by
        have : a.1 = (a.1.toNat : Int) := wz
        rw [this]; rfl
      have hz : a.1 ≠ 0 := by omega
      have ek : ((i : Int) + a.1).toNat = i + a.1.toNat := by omega
      have heast : (i + 1) % a.1.toNat ≠ 0 → i + 1 < n := fun he => by
        rcases Nat.lt_or_ge (i + 1) n with h' | h'
        · exact h'
        · exfalso; apply he
          have : i + 1 = a.1.toNat * a.2.1.toNat := by omega
          rw [this]; simp
      have hdv := dv_le a.1.toNat n b i
      (repeat' (first | exact trivial | exact fun h => h | refine And.intro ?_ ?_ | (intro hb; first | (simp at hb; done) | (simp at hb) | skip) | omega | exact rfl | exact Nat.le_refl _ | (show _ + 1 ≤ 4294967296; omega) | (dsimp only; omega) | (show (_ : Int) ≤ (_ : Int); omega) | (show _ < List.length _; simp only [List.length_set, List.length_append, List.length_take]; omega) | (show wantB _ _ = true; simp; done) | (show wantB _ _ = true; simp; omega) | (show (_ : Bool) = _; simp_all; done) | (exfalso; omega) | refine aRegion_auto (by decide +kernel) ?_ | refine ⟨_, _, REnt.drop ⟨rfl, rfl⟩, ?_⟩ | fail))
      refine ⟨Nat × Nat, fun x => ⟨[(0, .fptr RasT a), (7, .fz (.list D2) D), (10, .fz (.list int) (lst n b)), (12, .fz int x.2), (13, .fz int i), (14, .ref 0 0 2), (15, .fz int x.1)], [.row int [(i : Int) + 1, (i : Int) + a.1]]⟩, fun x => x.1 ≤ 2 ∧ (x.1 = 0 → x.2 = (dvs a.1.toNat n b i).length) ∧ (x.1 = 1 → x.2 = (dvs a.1.toNat n b i).length + (dv1 a.1.toNat b i).length) ∧ (x.1 = 2 → x.2 = (dvs a.1.toNat n b (i + 1)).length), fun x => 2 - x.1, (0, (dvs a.1.toNat n b i).length), ⟨Nat.zero_le _, (fun _ => rfl), (fun h => absurd h (show ¬ (0 : Nat) = 1 by omega)), (fun h => absurd h (show ¬ (0 : Nat) = 2 by omega))⟩, Ent.sub rfl ?_, ?_⟩
      · (repeat' (first | exact trivial | exact rfl | refine And.intro ?_ ?_))
      rintro ⟨j, k⟩ ⟨hj, hk0, hk1, hk2⟩
      simp only at hj hk0 hk1 hk2
      obtain rfl | rfl | rfl : j = 0 ∨ j = 1 ∨ j = 2 := by omega
      · have ek0 := hk0 rfl
        clear hk0 hk1 hk2
        show awp _ _ _ ⟨[(0, .fptr RasT a), (7, .fz (.list D2) D), (10, .fz (.list int) (lst n b)), (12, .fz int k), (13, .fz int i), (14, .ref 0 0 2), (15, .fz int ((0 : Nat) : Int))], [.row int [(i : Int) + 1, (i : Int) + a.1]]⟩
        have g0 := hbv i hin
        by_cases he : (i + 1) % a.1.toNat = 0
        · have hm0 : Int.tmod ((i : Int) + 1) a.1 = 0 := by rw [m1, he]; rfl
          have f1 : dv1 a.1.toNat b i = [] := by unfold dv1; rw [if_neg (fun x => x.1 he)]
          (repeat' (first | exact trivial | exact fun h => h | refine And.intro ?_ ?_ | (intro hb; first | (simp at hb; done) | (simp at hb) | skip) | omega | exact rfl | exact Nat.le_refl _ | (show _ + 1 ≤ 4294967296; omega) | (dsimp only; omega) | (show (_ : Int) ≤ (_ : Int); omega) | (show _ < List.length _; simp only [List.length_set, List.length_append, List.length_take]; omega) | (show wantB _ _ = true; simp; done) | (show wantB _ _ = true; simp; omega) | (show (_ : Bool) = _; simp_all; done) | (exfalso; omega) | refine aRegion_auto (by decide +kernel) ?_ | refine ⟨_, _, REnt.drop ⟨rfl, rfl⟩, ?_⟩ | fail))
          all_goals first | (show 0 + Int.toNat _ < List.length _; exact Nat.le_of_ble_eq_true rfl) | (show (0 : Int) ≤ (i : Int) + 1; omega) | (show (i : Int) + 1 < _; omega) | skip
          · refine ⟨(1, k), ⟨Nat.le_of_ble_eq_true rfl, (fun h => absurd h (show ¬ (1 : Nat) = 0 by omega)), (fun _ => by show k = _ + (dv1 a.1.toNat b i).length; rw [f1, ek0]; rfl), (fun h => absurd h (show ¬ (1 : Nat) = 2 by omega))⟩, Nat.le_of_ble_eq_true rfl, Ent.sub rfl ?_⟩
            (repeat' (first | exact trivial | exact rfl | refine And.intro ?_ ?_))
        · have hm0 : Int.tmod ((i : Int) + 1) a.1 ≠ 0 := by rw [m1]; omega
          have hk1 := heast he
          have g1 := hbv (i + 1) hk1
          by_cases hbe : b i = b (i + 1)
          · have f1 : dv1 a.1.toNat b i = [] := by unfold dv1; rw [if_neg (fun x => x.2 hbe)]
            (repeat' (first | exact trivial | exact fun h => h | refine And.intro ?_ ?_ | (intro hb; first | (simp at hb; done) | (simp at hb) | skip) | omega | exact rfl | exact Nat.le_refl _ | (show _ + 1 ≤ 4294967296; omega) | (dsimp only; omega) | (show (_ : Int) ≤ (_ : Int); omega) | (show _ < List.length _; simp only [List.length_set, List.length_append, List.length_take]; omega) | (show wantB _ _ = true; simp; done) | (show wantB _ _ = true; simp; omega) | (show (_ : Bool) = _; simp_all; done) | (exfalso; omega) | refine aRegion_auto (by decide +kernel) ?_ | refine ⟨_, _, REnt.drop ⟨rfl, rfl⟩, ?_⟩ | fail))
            all_goals first | (show 0 + Int.toNat _ < List.length _; exact Nat.le_of_ble_eq_true rfl) | (show (0 : Int) ≤ (i : Int) + 1; omega) | (show (i : Int) + 1 < _; omega) | skip
            · refine ⟨(1, k), ⟨Nat.le_of_ble_eq_true rfl, (fun h => absurd h (show ¬ (1 : Nat) = 0 by omega)), (fun _ => by show k = _ + (dv1 a.1.toNat b i).length; rw [f1, ek0]; rfl), (fun h => absurd h (show ¬ (1 : Nat) = 2 by omega))⟩, Nat.le_of_ble_eq_true rfl, Ent.sub rfl ?_⟩
              (repeat' (first | exact trivial | exact rfl | refine And.intro ?_ ?_))
          · have f1 : dv1 a.1.toNat b i = [pr i (i + 1)] := by unfold dv1; rw [if_pos ⟨he, hbe⟩]
            rw [f1] at hRs hdv
            have hDl : k < D.length := by rw [hRs, ek0]; simp
            have q0 : D[k]?.getD D2.dft = pr i (i + 1) := by rw [hRs, ek0]; exact get_after _ _ _ _
            have c0 : (D[k]?.getD D2.dft)[0]?.getD int.dft = (i : Int) := by rw [q0]; rfl
            have c1 : (D[k]?.getD D2.dft)[1]?.getD int.dft = (i : Int) + 1 := by rw [q0]; rfl
            (repeat' (first | exact trivial | exact fun h => h | refine And.intro ?_ ?_ | (intro hb; first | (simp at hb; done) | (simp at hb) | skip) | omega | exact rfl | exact Nat.le_refl _ | (show _ + 1 ≤ 4294967296; omega) | (dsimp only; omega) | (show (_ : Int) ≤ (_ : Int); omega) | (show _ < List.length _; simp only [List.length_set, List.length_append, List.length_take]; omega) | (show wantB _ _ = true; simp; done) | (show wantB _ _ = true; simp; omega) | (show (_ : Bool) = _; simp_all; done) | (exfalso; omega) | refine aRegion_auto (by decide +kernel) ?_ | refine ⟨_, _, REnt.drop ⟨rfl, rfl⟩, ?_⟩ | fail))
            · exact Nat.le_of_ble_eq_true rfl
            · exact Nat.le_of_ble_eq_true rfl
            · show (0 : Int) ≤ (i : Int) + 1; omega
            · show (i : Int) + 1 < _; omega
            · exact Nat.le_of_ble_eq_true rfl
            · exfalso
              rcases hb with (h | h) | h
              · omega
              · exact h c0
              · exact h c1
            · (repeat' (first | exact trivial | exact fun h => h | refine And.intro ?_ ?_ | (intro hb; first | (simp at hb; done) | (simp at hb) | skip) | omega | exact rfl | exact Nat.le_refl _ | (show _ + 1 ≤ 4294967296; omega) | (dsimp only; omega) | (show (_ : Int) ≤ (_ : Int); omega) | (show _ < List.length _; simp only [List.length_set, List.length_append, List.length_take]; omega) | (show wantB _ _ = true; simp; done) | (show wantB _ _ = true; simp; omega) | (show (_ : Bool) = _; simp_all; done) | (exfalso; omega) | refine aRegion_auto (by decide +kernel) ?_ | refine ⟨_, _, REnt.drop ⟨rfl, rfl⟩, ?_⟩ | fail))
              refine ⟨(1, k + 1), ⟨Nat.le_of_ble_eq_true rfl, (fun h => absurd h (show ¬ (1 : Nat) = 0 by omega)), (fun _ => by show k + 1 = _ + (dv1 a.1.toNat b i).length; rw [f1, ek0]; rfl), (fun h => absurd h (show ¬ (1 : Nat) = 2 by omega))⟩, Nat.le_of_ble_eq_true rfl, Ent.sub rfl ?_⟩
              (repeat' (first | exact trivial | exact rfl | refine And.intro ?_ ?_))
      · have ek0 := hk1 rfl
        clear hk0 hk1 hk2
        show awp _ _ _ ⟨[(0, .fptr RasT a), (7, .fz (.list D2) D), (10, .fz (.list int) (lst n b)), (12, .fz int k), (13, .fz int i), (14, .ref 0 0 2), (15, .fz int ((1 : Nat) : Int))], [.row int [(i : Int) + 1, (i : Int) + a.1]]⟩
        have g0 := hbv i hin
        by_cases hs : i + a.1.toNat < n ∧ b i ≠ b (i + a.1.toNat)
        · have f2 : dv2 a.1.toNat n b i = [pr i (i + a.1.toNat)] := by unfold dv2; rw [if_pos hs]
          rw [f2] at hRs hdv
          have g1 : (lst n b)[((i : Int) + a.1).toNat]?.getD int.dft = b (i + a.1.toNat) := by rw [ek]; exact hbv _ hs.1
          have hss := hs.1
          have hsn := hs.2
          have hDs : D = (dvs a.1.toNat n b i ++ dv1 a.1.toNat b i) ++ (pr i (i + a.1.toNat) :: Rs) := by rw [hRs]; simp
          have ek1 : k = (dvs a.1.toNat n b i ++ dv1 a.1.toNat b i).length := by rw [ek0, List.length_append]
          have hDl : k < D.length := by rw [hDs, ek1]; simp
          have q0 : D[k]?.getD D2.dft = pr i (i + a.1.toNat) := by rw [hDs, ek1]; exact get_after _ _ _ _
          have c0 : (D[k]?.getD D2.dft)[0]?.getD int.dft = (i : Int) := by rw [q0]; rfl
          have c1 : (D[k]?.getD D2.dft)[1]?.getD int.dft = (i : Int) + a.1 := by rw [q0]; show ((i + a.1.toNat : Nat) : Int) = _; omega
          (repeat' (first | exact trivial | exact fun h => h | refine And.intro ?_ ?_ | (intro hb; first | (simp at hb; done) | (simp at hb) | skip) | omega | exact rfl | exact Nat.le_refl _ | (show _ + 1 ≤ 4294967296; omega) | (dsimp only; omega) | (show (_ : Int) ≤ (_ : Int); omega) | (show _ < List.length _; simp only [List.length_set, List.length_append, List.length_take]; omega) | (show wantB _ _ = true; simp; done) | (show wantB _ _ = true; simp; omega) | (show (_ : Bool) = _; simp_all; done) | (exfalso; omega) | refine aRegion_auto (by decide +kernel) ?_ | refine ⟨_, _, REnt.drop ⟨rfl, rfl⟩, ?_⟩ | fail))
          · show (0 : Int) ≤ (i : Int) + a.1; omega
          · show (i : Int) + a.1 < _; omega
          · exfalso
            rcases hb with (h | h) | h
            · omega
            · exact h c0
            · exact h c1
          · (repeat' (first | exact trivial | exact fun h => h | refine And.intro ?_ ?_ | (intro hb; first | (simp at hb; done) | (simp at hb) | skip) | omega | exact rfl | exact Nat.le_refl _ | (show _ + 1 ≤ 4294967296; omega) | (dsimp only; omega) | (show (_ : Int) ≤ (_ : Int); omega) | (show _ < List.length _; simp only [List.length_set, List.length_append, List.length_take]; omega) | (show wantB _ _ = true; simp; done) | (show wantB _ _ = true; simp; omega) | (show (_ : Bool) = _; simp_all; done) | (exfalso; omega) | refine aRegion_auto (by decide +kernel) ?_ | refine ⟨_, _, REnt.drop ⟨rfl, rfl⟩, ?_⟩ | fail))
            refine ⟨(2, k + 1), ⟨Nat.le_of_ble_eq_true rfl, (fun h => absurd h (show ¬ (2 : Nat) = 0 by omega)), (fun h => absurd h (show ¬ (2 : Nat) = 1 by omega)), (fun _ => by show k + 1 = (dvs a.1.toNat n b i ++ (dv1 a.1.toNat b i ++ dv2 a.1.toNat n b i)).length; rw [f2, ek0]; simp; omega)⟩, Nat.le_of_ble_eq_true rfl, Ent.sub rfl ?_⟩
            (repeat' (first | exact trivial | exact rfl | refine And.intro ?_ ?_))
        · have f2 : dv2 a.1.toNat n b i = [] := by unfold dv2; rw [if_neg hs]
          by_cases hss : i + a.1.toNat < n
          · have g1 : (lst n b)[((i : Int) + a.1).toNat]?.getD int.dft = b (i + a.1.toNat) := by rw [ek]; exact hbv _ hss
            have hsn : b i = b (i + a.1.toNat) := Classical.byContradiction fun h => hs ⟨hss, h⟩
            (repeat' (first | exact trivial | exact fun h => h | refine And.intro ?_ ?_ | (intro hb; first | (simp at hb; done) | (simp at hb) | skip) | omega | exact rfl | exact Nat.le_refl _ | (show _ + 1 ≤ 4294967296; omega) | (dsimp only; omega) | (show (_ : Int) ≤ (_ : Int); omega) | (show _ < List.length _; simp only [List.length_set, List.length_append, List.length_take]; omega) | (show wantB _ _ = true; simp; done) | (show wantB _ _ = true; simp; omega) | (show (_ : Bool) = _; simp_all; done) | (exfalso; omega) | refine aRegion_auto (by decide +kernel) ?_ | refine ⟨_, _, REnt.drop ⟨rfl, rfl⟩, ?_⟩ | fail))
            · show (0 : Int) ≤ (i : Int) + a.1; omega
            · show (i : Int) + a.1 < _; omega
            · (repeat' (first | exact trivial | exact fun h => h | refine And.intro ?_ ?_ | (intro hb; first | (simp at hb; done) | (simp at hb) | skip) | omega | exact rfl | exact Nat.le_refl _ | (show _ + 1 ≤ 4294967296; omega) | (dsimp only; omega) | (show (_ : Int) ≤ (_ : Int); omega) | (show _ < List.length _; simp only [List.length_set, List.length_append, List.length_take]; omega) | (show wantB _ _ = true; simp; done) | (show wantB _ _ = true; simp; omega) | (show (_ : Bool) = _; simp_all; done) | (exfalso; omega) | refine aRegion_auto (by decide +kernel) ?_ | refine ⟨_, _, REnt.drop ⟨rfl, rfl⟩, ?_⟩ | fail))
              refine ⟨(2, k), ⟨Nat.le_of_ble_eq_true rfl, (fun h => absurd h (show ¬ (2 : Nat) = 0 by omega)), (fun h => absurd h (show ¬ (2 : Nat) = 1 by omega)), (fun _ => by show k = (dvs a.1.toNat n b i ++ (dv1 a.1.toNat b i ++ dv2 a.1.toNat n b i)).length; rw [f2, ek0]; simp)⟩, Nat.le_of_ble_eq_true rfl, Ent.sub rfl ?_⟩
              (repeat' (first | exact trivial | exact rfl | refine And.intro ?_ ?_))
          · (repeat' (first | exact trivial | exact fun h => h | refine And.intro ?_ ?_ | (intro hb; first | (simp at hb; done) | (simp at hb) | skip) | omega | exact rfl | exact Nat.le_refl _ | (show _ + 1 ≤ 4294967296; omega) | (dsimp only; omega) | (show (_ : Int) ≤ (_ : Int); omega) | (show _ < List.length _; simp only [List.length_set, List.length_append, List.length_take]; omega) | (show wantB _ _ = true; simp; done) | (show wantB _ _ = true; simp; omega) | (show (_ : Bool) = _; simp_all; done) | (exfalso; omega) | refine aRegion_auto (by decide +kernel) ?_ | refine ⟨_, _, REnt.drop ⟨rfl, rfl⟩, ?_⟩ | fail))
            (repeat' (first | exact trivial | exact fun h => h | refine And.intro ?_ ?_ | (intro hb; first | (simp at hb; done) | (simp at hb) | skip) | omega | exact rfl | exact Nat.le_refl _ | (show _ + 1 ≤ 4294967296; omega) | (dsimp only; omega) | (show (_ : Int) ≤ (_ : Int); omega) | (show _ < List.length _; simp only [List.length_set, List.length_append, List.length_take]; omega) | (show wantB _ _ = true; simp; done) | (show wantB _ _ = true; simp; omega) | (show (_ : Bool) = _; simp_all; done) | (exfalso; omega) | refine aRegion_auto (by decide +kernel) ?_ | refine ⟨_, _, REnt.drop ⟨rfl, rfl⟩, ?_⟩ | fail))
            refine ⟨(2, k), ⟨Nat.le_of_ble_eq_true rfl, (fun h => absurd h (show ¬ (2 : Nat) = 0 by omega)), (fun h => absurd h (show ¬ (2 : Nat) = 1 by omega)), (fun _ => by show k = (dvs a.1.toNat n b i ++ (dv1 a.1.toNat b i ++ dv2 a.1.toNat n b i)).length; rw [f2, ek0]; simp)⟩, Nat.le_of_ble_eq_true rfl, Ent.sub rfl ?_⟩
            (repeat' (first | exact trivial | exact rfl | refine And.intro ?_ ?_))
      · obtain rfl := hk2 rfl
        clear hk0 hk1 hk2
        (repeat' (first | exact trivial | exact fun h => h | refine And.intro ?_ ?_ | (intro hb; first | (simp at hb; done) | (simp at hb) | skip) | omega | exact rfl | exact Nat.le_refl _ | (show _ + 1 ≤ 4294967296; omega) | (dsimp only; omega) | (show (_ : Int) ≤ (_ : Int); omega) | (show _ < List.length _; simp only [List.length_set, List.length_append, List.length_take]; omega) | (show wantB _ _ = true; simp; done) | (show wantB _ _ = true; simp; omega) | (show (_ : Bool) = _; simp_all; done) | (exfalso; omega) | refine aRegion_auto (by decide +kernel) ?_ | refine ⟨_, _, REnt.drop ⟨rfl, rfl⟩, ?_⟩ | fail))
        refine ⟨i + 1, by show i + 1 ≤ n; omega, by show n - (i + 1) < n - i; omega, Ent.ren [] rfl trivial ?_⟩
        (repeat' (first | exact trivial | exact rfl | refine And.intro ?_ ?_))
    · have hin : i = n := by omega
      subst hin
      (repeat' (first | exact trivial | exact fun h => h | refine And.intro ?_ ?_ | (intro hb; first | (simp at hb; done) | (simp at hb) | skip) | omega | exact rfl | exact Nat.le_refl _ | (show _ + 1 ≤ 4294967296; omega) | (dsimp only; omega) | (show (_ : Int) ≤ (_ : Int); omega) | (show _ < List.length _; simp only [List.length_set, List.length_append, List.length_take]; omega) | (show wantB _ _ = true; simp; done) | (show wantB _ _ = true; simp; omega) | (show (_ : Bool) = _; simp_all; done) | (exfalso; omega) | refine aRegion_auto (by decide +kernel) ?_ | refine ⟨_, _, REnt.drop ⟨rfl, rfl⟩, ?_⟩ | fail))
      rw [hDD]
      exact kbl hK (by simp)
theorem basinParts_nil {E : Errs} (K : AV → List AO → Prop) (hK : K (.fz .bool true) []) :
    ACall Tryd.prog (G8 E) 5 [.fz .raw (.pointer none)] [] K := by
  refine acall_mk (E := envAt (G8 E) 164 0) (envOk _ _ _) Tryd.func5 rfl rfl rfl rfl rfl ?_
  (repeat' (first | exact trivial | exact fun h => h | refine And.intro ?_ ?_ | (intro hb; first | (simp at hb; done) | (simp at hb) | skip) | omega | exact rfl | exact Nat.le_refl _ | (show _ + 1 ≤ 4294967296; omega) | (dsimp only; omega) | (show (_ : Int) ≤ (_ : Int); omega) | (show _ < List.length _; simp only [List.length_set, List.length_append, List.length_take]; omega) | (show wantB _ _ = true; simp; done) | (show wantB _ _ = true; simp; omega) | (show (_ : Bool) = _; simp_all; done) | (exfalso; omega) | refine aRegion_auto (by decide +kernel) ?_ | refine ⟨_, _, REnt.drop ⟨rfl, rfl⟩, ?_⟩ | fail))
  refine acall_frame0 rfl (based_any E _ ?_)
  (repeat' (first | exact trivial | exact fun h => h | refine And.intro ?_ ?_ | (intro hb; first | (simp at hb; done) | (simp at hb) | skip) | omega | exact rfl | exact Nat.le_refl _ | (show _ + 1 ≤ 4294967296; omega) | (dsimp only; omega) | (show (_ : Int) ≤ (_ : Int); omega) | (show _ < List.length _; simp only [List.length_set, List.length_append, List.length_take]; omega) | (show wantB _ _ = true; simp; done) | (show wantB _ _ = true; simp; omega) | (show (_ : Bool) = _; simp_all; done) | (exfalso; omega) | refine aRegion_auto (by decide +kernel) ?_ | refine ⟨_, _, REnt.drop ⟨rfl, rfl⟩, ?_⟩ | fail))
  refine acall_frame0 rfl (small80_nil _ _ ?_)
  (repeat' (first | exact trivial | exact fun h => h | refine And.intro ?_ ?_ | (intro hb; first | (simp at hb; done) | (simp at hb) | skip) | omega | exact rfl | exact Nat.le_refl _ | (show _ + 1 ≤ 4294967296; omega) | (dsimp only; omega) | (show (_ : Int) ≤ (_ : Int); omega) | (show _ < List.length _; simp only [List.length_set, List.length_append, List.length_take]; omega) | (show wantB _ _ = true; simp; done) | (show wantB _ _ = true; simp; omega) | (show (_ : Bool) = _; simp_all; done) | (exfalso; omega) | refine aRegion_auto (by decide +kernel) ?_ | refine ⟨_, _, REnt.drop ⟨rfl, rfl⟩, ?_⟩ | fail))
  exact hK
end Go.Proofs.YtepkknjncpbahaaDoor
/-
  BasinLakes: the walk.
-/
namespace Go.Proofs.YtepkknjncpbahaaDoor
open Go Go.Ab
set_option maxRecDepth 100000
theorem lakeL_succ (j : Nat) (o : Nat → Int) (i : Nat) : lakeL (j + 1) o i = lakeL j o i ++ (if o j = i then [((j : Nat) : Int)] else []) := by
  unfold lakeL Lk.cls
  rw [List.range_succ, List.filter_append, natL_add]
  by_cases e : o j = i
  · simp [e, natL]
  · simp [e, natL]
theorem lks_split (n : Nat) (o : Nat → Int) {i : Nat} (ho : o i = i) : ∀ k, i + 1 ≤ k → ∃ R, Lk.lks n o k = Lk.lks n o i ++ (lakeL n o i :: R)
  | 0, h => absurd h (by omega)
  | k + 1, h => by
    rw [Lk.lks_succ]
    by_cases e : i = k
    · subst e
      rw [if_pos ho]
      exact ⟨[], rfl⟩
    · obtain ⟨R, hR⟩ := lks_split n o ho k (by omega)
      rw [hR]
      refine ⟨R ++ (if o k = k then [(Lk.cls n o k).map fun j : Nat => (j : Int)] else []), ?_⟩
      simp
set_option maxHeartbeats 8000000 in
theorem basinLakes_some {E : Errs} (hE : (EL E).Nodup) (a : Ras) (other : List Int) (hla : a.2.2.length ≤ 9223372036854775807) (hol : other.length ≤ 9223372036854775807) (K : AV → List AO → Prop) (hK : K (.fz .bool true) []) :
    ACall Tryd.prog (G8 E) 8 [.fptr RasT a, .fz LI other] [] K := by
  obtain ⟨o, ho⟩ : ∃ o, rerr a = 0 → Lk.Lak (a.1.toNat * a.2.1.toNat) (wetF a (flF a)) (touchN a.1.toNat) o := by
    obtain ⟨o, h⟩ := Lk.lak_ex (n := a.1.toNat * a.2.1.toNat) (wet := wetF a (flF a)) (t := touchN a.1.toNat)
    exact ⟨o, fun _ => h⟩
  refine acall_mk (E := envAt (G8 E) 201 0) (envOk _ _ _) Tryd.func8 rfl rfl rfl rfl rfl ?_
  (repeat' (first | exact trivial | exact fun h => h | refine And.intro ?_ ?_ | (intro hb; first | (simp at hb; done) | (simp at hb) | skip) | omega | exact rfl | exact Nat.le_refl _ | (show _ + 1 ≤ 4294967296; omega) | (dsimp only; omega) | (show (_ : Int) ≤ (_ : Int); omega) | (show _ < List.length _; simp only [List.length_set, List.length_append, List.length_take]; omega) | (show wantB _ _ = true; simp; done) | (show wantB _ _ = true; simp; omega) | (show (_ : Bool) = _; simp_all; done) | (exfalso; omega) | refine aRegion_auto (by decide +kernel) ?_ | refine ⟨_, _, REnt.drop ⟨rfl, rfl⟩, ?_⟩ | fail))
  refine acall_frame0 rfl (based_any E _ ?_)
  (repeat' (first | exact trivial | exact fun h => h | refine And.intro ?_ ?_ | (intro hb; first | (simp at hb; done) | (simp at hb) | skip) | omega | exact rfl | exact Nat.le_refl _ | (show _ + 1 ≤ 4294967296; omega) | (dsimp only; omega) | (show (_ : Int) ≤ (_ : Int); omega) | (show _ < List.length _; simp only [List.length_set, List.length_append, List.length_take]; omega) | (show wantB _ _ = true; simp; done) | (show wantB _ _ = true; simp; omega) | (show (_ : Bool) = _; simp_all; done) | (exfalso; omega) | refine aRegion_auto (by decide +kernel) ?_ | refine ⟨_, _, REnt.drop ⟨rfl, rfl⟩, ?_⟩ | fail))
  refine acall_frame0 rfl (small80_any _ a _ ?_)
  (repeat' (first | exact trivial | exact fun h => h | refine And.intro ?_ ?_ | (intro hb; first | (simp at hb; done) | (simp at hb) | skip) | omega | exact rfl | exact Nat.le_refl _ | (show _ + 1 ≤ 4294967296; omega) | (dsimp only; omega) | (show (_ : Int) ≤ (_ : Int); omega) | (show _ < List.length _; simp only [List.length_set, List.length_append, List.length_take]; omega) | (show wantB _ _ = true; simp; done) | (show wantB _ _ = true; simp; omega) | (show (_ : Bool) = _; simp_all; done) | (exfalso; omega) | refine aRegion_auto (by decide +kernel) ?_ | refine ⟨_, _, REnt.drop ⟨rfl, rfl⟩, ?_⟩ | fail))
  all_goals first | exact hK | skip
  have hl : a.2.2.length ≤ 80 := by omega
  have ho2 : other.length ≤ 200 := by omega
  refine acall_conv [.dat RasT] _ _ _ rfl trivial (acall_frame0 rfl (lakes_one E a hl o ho _ ?_))
  (repeat' (first | exact trivial | exact fun h => h | refine And.intro ?_ ?_ | (intro hb; first | (simp at hb; done) | (simp at hb) | skip) | omega | exact rfl | exact Nat.le_refl _ | (show _ + 1 ≤ 4294967296; omega) | (dsimp only; omega) | (show (_ : Int) ≤ (_ : Int); omega) | (show _ < List.length _; simp only [List.length_set, List.length_append, List.length_take]; omega) | (show wantB _ _ = true; simp; done) | (show wantB _ _ = true; simp; omega) | (show (_ : Bool) = _; simp_all; done) | (exfalso; omega) | refine aRegion_auto (by decide +kernel) ?_ | refine ⟨_, _, REnt.drop ⟨rfl, rfl⟩, ?_⟩ | fail))
  refine acall_conv [.dat RasT, .keep] _ _ _ rfl trivial (acall_frame0 rfl (depth_one E a hl o ho other (by omega) _ ?_))
  (repeat' (first | exact trivial | exact fun h => h | refine And.intro ?_ ?_ | (intro hb; first | (simp at hb; done) | (simp at hb) | skip) | omega | exact rfl | exact Nat.le_refl _ | (show _ + 1 ≤ 4294967296; omega) | (dsimp only; omega) | (show (_ : Int) ≤ (_ : Int); omega) | (show _ < List.length _; simp only [List.length_set, List.length_append, List.length_take]; omega) | (show wantB _ _ = true; simp; done) | (show wantB _ _ = true; simp; omega) | (show (_ : Bool) = _; simp_all; done) | (exfalso; omega) | refine aRegion_auto (by decide +kernel) ?_ | refine ⟨_, _, REnt.drop ⟨rfl, rfl⟩, ?_⟩ | fail))
  refine acall_frame0 rfl (rasterError_any _ a (by omega) _ ?_)
  (repeat' (first | exact trivial | exact fun h => h | refine And.intro ?_ ?_ | (intro hb; first | (simp at hb; done) | (simp at hb) | skip) | omega | exact rfl | exact Nat.le_refl _ | (show _ + 1 ≤ 4294967296; omega) | (dsimp only; omega) | (show (_ : Int) ≤ (_ : Int); omega) | (show _ < List.length _; simp only [List.length_set, List.length_append, List.length_take]; omega) | (show wantB _ _ = true; simp; done) | (show wantB _ _ = true; simp; omega) | (show (_ : Bool) = _; simp_all; done) | (exfalso; omega) | refine aRegion_auto (by decide +kernel) ?_ | refine ⟨_, _, REnt.drop ⟨rfl, rfl⟩, ?_⟩ | fail))
  · have h4 := rerr_in a
    have hne : rerr a ≠ 0 := by omega
    have e1 : dpE a o other = rerr a := by unfold dpE; rw [if_neg hne]
    have e2 : lakQ a o = [] := by unfold lakQ; rw [if_neg hne]
    have e3 : dpM a o other = 0 := by unfold dpM; rw [e1, if_neg hne]
    have e4 : dpS a o other = 0 := by unfold dpS; rw [e1, if_neg hne]
    rw [e1, e2, e3, e4]
    refine acall_frame0 rfl (coded_mercatorlaw4 hE (by omega) (rerr a) _ ?_)
    rw [decide_eq_true rfl]
    (repeat' (first | exact trivial | exact fun h => h | refine And.intro ?_ ?_ | (intro hb; first | (simp at hb; done) | (simp at hb) | skip) | omega | exact rfl | exact Nat.le_refl _ | (show _ + 1 ≤ 4294967296; omega) | (dsimp only; omega) | (show (_ : Int) ≤ (_ : Int); omega) | (show _ < List.length _; simp only [List.length_set, List.length_append, List.length_take]; omega) | (show wantB _ _ = true; simp; done) | (show wantB _ _ = true; simp; omega) | (show (_ : Bool) = _; simp_all; done) | (exfalso; omega) | refine aRegion_auto (by decide +kernel) ?_ | refine ⟨_, _, REnt.drop ⟨rfl, rfl⟩, ?_⟩ | fail))
    refine acall_frame0 rfl (coded_mercatorlaw4 hE (by omega) (rerr a) _ ?_)
    rw [decide_eq_true rfl]
    (repeat' (first | exact trivial | exact fun h => h | refine And.intro ?_ ?_ | (intro hb; first | (simp at hb; done) | (simp at hb) | skip) | omega | exact rfl | exact Nat.le_refl _ | (show _ + 1 ≤ 4294967296; omega) | (dsimp only; omega) | (show (_ : Int) ≤ (_ : Int); omega) | (show _ < List.length _; simp only [List.length_set, List.length_append, List.length_take]; omega) | (show wantB _ _ = true; simp; done) | (show wantB _ _ = true; simp; omega) | (show (_ : Bool) = _; simp_all; done) | (exfalso; omega) | refine aRegion_auto (by decide +kernel) ?_ | refine ⟨_, _, REnt.drop ⟨rfl, rfl⟩, ?_⟩ | fail))
    exact hK
  · have hv : rerr a = 0 := by omega
    have R := RasN.mk' hv
    rw [hv]
    (repeat' (first | exact trivial | exact fun h => h | refine And.intro ?_ ?_ | (intro hb; first | (simp at hb; done) | (simp at hb) | skip) | omega | exact rfl | exact Nat.le_refl _ | (show _ + 1 ≤ 4294967296; omega) | (dsimp only; omega) | (show (_ : Int) ≤ (_ : Int); omega) | (show _ < List.length _; simp only [List.length_set, List.length_append, List.length_take]; omega) | (show wantB _ _ = true; simp; done) | (show wantB _ _ = true; simp; omega) | (show (_ : Bool) = _; simp_all; done) | (exfalso; omega) | refine aRegion_auto (by decide +kernel) ?_ | refine ⟨_, _, REnt.drop ⟨rfl, rfl⟩, ?_⟩ | fail))
    have hln := R.len
    refine acall_frame0 rfl (floodOf_any _ a R _ ?_)
    have hg := gF_bd a hv
    have ho := ho hv
    have eFR : fRes a.1.toNat a.2.1.toNat a = (lst (a.1.toNat * a.2.1.toNat) (flF a), lst (a.1.toNat * a.2.1.toNat) (fun i => ((flD a.1.toNat a.2.1.toNat (hts a)).to i : Nat)), natL (flD a.1.toNat a.2.1.toNat (hts a)).ord) := rfl
    have eL : lakQ a o = Lk.lks (a.1.toNat * a.2.1.toNat) o (a.1.toNat * a.2.1.toNat) := by unfold lakQ; rw [if_pos hv]
    have hD : ∀ l, l ∈ lakQ a o → dpE a o l = 0 ∧ dpM a o l = dM (gF a) l ∧ dpS a o l = dS (gF a) l := fun l h => by
      have e : dpE a o l = 0 := by unfold dpE; rw [if_pos hv, if_pos h]
      exact ⟨e, by unfold dpM; rw [if_pos e], by unfold dpS; rw [if_pos e]⟩
    have hN : other ∉ lakQ a o → dpE a o other = 3 ∧ dpM a o other = 0 ∧ dpS a o other = 0 := fun h => by
      have e : dpE a o other = 3 := by unfold dpE; rw [if_pos hv, if_neg h]
      exact ⟨e, by unfold dpM; rw [if_neg (by omega)], by unfold dpS; rw [if_neg (by omega)]⟩
    rw [eL] at hD hN ⊢
    generalize dpE a o other = e0 at *
    generalize dpM a o other = M0 at *
    generalize dpS a o other = S0 at *
    rw [eFR]
    generalize lst (a.1.toNat * a.2.1.toNat) (fun i => ((flD a.1.toNat a.2.1.toNat (hts a)).to i : Nat)) = tl
    generalize natL (flD a.1.toNat a.2.1.toNat (hts a)).ord = rl
    clear eFR
    have hol2 := hl
    obtain ⟨n, hn⟩ : ∃ n, n = a.1.toNat * a.2.1.toNat := ⟨_, rfl⟩
    rw [← hn] at ho hln eL hD hN ⊢
    have hfl := lst_len n (flF a)
    have hlo := lst_len n o
    let bF : AO := .box [.fz LI (lst n (flF a)), .fz LI tl, .fz LI rl]
    (repeat' (first | exact trivial | exact fun h => h | refine And.intro ?_ ?_ | (intro hb; first | (simp at hb; done) | (simp at hb) | skip) | omega | exact rfl | exact Nat.le_refl _ | (show _ + 1 ≤ 4294967296; omega) | (dsimp only; omega) | (show (_ : Int) ≤ (_ : Int); omega) | (show _ < List.length _; simp only [List.length_set, List.length_append, List.length_take]; omega) | (show wantB _ _ = true; simp; done) | (show wantB _ _ = true; simp; omega) | (show (_ : Bool) = _; simp_all; done) | (exfalso; omega) | refine aRegion_auto (by decide +kernel) ?_ | refine ⟨_, _, REnt.drop ⟨rfl, rfl⟩, ?_⟩ | fail))
    refine acall_conv [.keep, .dat FT] _ _ _ rfl ?_ (acall_frame0 rfl (lakesOf_any _ a R hn (flF a) tl rl o ho _ ?_))
    · (repeat' (first | exact trivial | refine And.intro ?_ ?_ | (show _ ≤ _; omega) | (show _ ≤ _; simp; done)))
    (repeat' (first | exact trivial | exact fun h => h | refine And.intro ?_ ?_ | (intro hb; first | (simp at hb; done) | (simp at hb) | skip) | omega | exact rfl | exact Nat.le_refl _ | (show _ + 1 ≤ 4294967296; omega) | (dsimp only; omega) | (show (_ : Int) ≤ (_ : Int); omega) | (show _ < List.length _; simp only [List.length_set, List.length_append, List.length_take]; omega) | (show wantB _ _ = true; simp; done) | (show wantB _ _ = true; simp; omega) | (show (_ : Bool) = _; simp_all; done) | (exfalso; omega) | refine aRegion_auto (by decide +kernel) ?_ | refine ⟨_, _, REnt.drop ⟨rfl, rfl⟩, ?_⟩ | fail))
    refine ⟨Nat, fun i => ⟨[(0, .fptr RasT a), (1, .fz LI other), (7, .fz (.list LI) (Lk.lks n o n)), (8, .fz .raw .nilIface), (9, .fz int M0), (10, .fz int S0), (11, .fz .raw (er E e0)), (13, .ptr 0 0), (14, .fz LI (lst n o)), (15, .fz int (Lk.lks n o i).length), (16, .fz .bool (decide (other ∈ Lk.lks n o i))), (17, .fz int i)], [bF]⟩, fun i => i ≤ n, fun i => n - i, 0, Nat.zero_le _, Ent.sub rfl ?_, ?_⟩
    · (repeat' (first | exact trivial | exact rfl | refine And.intro ?_ ?_))
    intro i hi
    have hi : i ≤ n := hi
    have hLi := lks_le n o i
    have hLn := lks_le n o n
    have hLo : Lk.lks n o (i + 1) = Lk.lks n o i ++ (if o i = i then [lakeL n o i] else []) := Lk.lks_succ o i
    show awp _ _ _ ⟨[(0, .fptr RasT a), (1, .fz LI other), (7, .fz (.list LI) (Lk.lks n o n)), (8, .fz .raw .nilIface), (9, .fz int M0), (10, .fz int S0), (11, .fz .raw (er E e0)), (13, .ptr 0 0), (14, .fz LI (lst n o)), (15, .fz int (Lk.lks n o i).length), (16, .fz .bool (decide (other ∈ Lk.lks n o i))), (17, .fz int i)], [bF]⟩
    by_cases hi2 : i < n
    · have g1 : (lst n o)[i]?.getD int.dft = o i := lst_get _ hi2
      by_cases hoi : o i = i
      · obtain ⟨R', hR'⟩ := lks_split n o hoi n (by omega)
        rw [if_pos hoi] at hLo
        have hkl : (Lk.lks n o i).length < (Lk.lks n o n).length := by rw [hR']; simp
        have gl : List.getD (Lk.lks n o n) (Lk.lks n o i).length LI.dft = lakeL n o i := by rw [hR', List.getD_eq_getElem?_getD, get_after]
        have hmem : lakeL n o i ∈ Lk.lks n o n := by rw [hR']; simp
        (repeat' (first | exact trivial | exact fun h => h | refine And.intro ?_ ?_ | (intro hb; first | (simp at hb; done) | (simp at hb) | skip) | omega | exact rfl | exact Nat.le_refl _ | (show _ + 1 ≤ 4294967296; omega) | (dsimp only; omega) | (show (_ : Int) ≤ (_ : Int); omega) | (show _ < List.length _; simp only [List.length_set, List.length_append, List.length_take]; omega) | (show wantB _ _ = true; simp; done) | (show wantB _ _ = true; simp; omega) | (show (_ : Bool) = _; simp_all; done) | (exfalso; omega) | refine aRegion_auto (by decide +kernel) ?_ | fail))
        refine ⟨Nat, fun j => ⟨[(0, .fptr RasT a), (1, .fz LI other), (7, .fz (.list LI) (Lk.lks n o n)), (8, .fz .raw .nilIface), (9, .fz int M0), (10, .fz int S0), (11, .fz .raw (er E e0)), (13, .ptr 0 0), (14, .fz LI (lst n o)), (15, .fz int (Lk.lks n o i).length), (16, .fz .bool (decide (other ∈ Lk.lks n o i))), (17, .fz int i), (18, .ref 1 0 (lakeL j o i).length), (19, .fz int (dM (gF a) (lakeL j o i))), (20, .fz int (dS (gF a) (lakeL j o i))), (21, .fz int j)], [bF, .row int (lakeL j o i)]⟩, fun j => j ≤ n, fun j => n - j, 0, Nat.zero_le _, (Ent.nil 18 int rfl).trans (Ent.sub rfl ?_), ?_⟩
        · (repeat' (first | exact trivial | exact rfl | refine And.intro ?_ ?_))
        intro j hj
        have hj : j ≤ n := hj
        have hll := lake_len j o i
        have hdb := d_bd (gF a) hg (lakeL j o i) _ (Nat.le_refl _)
        rw [List.take_length] at hdb
        show awp _ _ _ ⟨[(0, .fptr RasT a), (1, .fz LI other), (7, .fz (.list LI) (Lk.lks n o n)), (8, .fz .raw .nilIface), (9, .fz int M0), (10, .fz int S0), (11, .fz .raw (er E e0)), (13, .ptr 0 0), (14, .fz LI (lst n o)), (15, .fz int (Lk.lks n o i).length), (16, .fz .bool (decide (other ∈ Lk.lks n o i))), (17, .fz int i), (18, .ref 1 0 (lakeL j o i).length), (19, .fz int (dM (gF a) (lakeL j o i))), (20, .fz int (dS (gF a) (lakeL j o i))), (21, .fz int j)], [bF, .row int (lakeL j o i)]⟩
        by_cases hj2 : j < n
        · have g2 : (lst n o)[j]?.getD int.dft = o j := lst_get _ hj2
          have g3 : (lst n (flF a))[j]?.getD int.dft = flF a j := lst_get _ hj2
          have eg : flF a j - hts a j = gF a j := by unfold gF; rw [Int.toNat_natCast]
          have hgj := hg j
          by_cases hoj : o j = i
          · have e1 : lakeL (j + 1) o i = lakeL j o i ++ [(j : Int)] := by rw [lakeL_succ, if_pos hoj]
            have eM : dM (gF a) (lakeL (j + 1) o i) = max (dM (gF a) (lakeL j o i)) (gF a j) := by rw [e1, dM_add]
            have eS : dS (gF a) (lakeL (j + 1) o i) = dS (gF a) (lakeL j o i) + gF a j := by rw [e1, dS_add]
            have hDj : List.getD (lst n (flF a)) (Int.toNat (j : Int)) int.dft - List.getD a.2.2 (Int.toNat (j : Int)) int.dft = gF a j := by
              rw [Int.toNat_natCast, List.getD_eq_getElem?_getD, g3]; exact eg
            generalize dM (gF a) (lakeL j o i) = M at *
            generalize dS (gF a) (lakeL j o i) = S at *
            have hDq : (lst n (flF a))[j]?.getD int.dft - a.2.2[j]?.getD int.dft = gF a j := by rw [g3]; exact eg
            have eR : List.take (lakeL j o i).length (lakeL j o i) ++ [(j : Int)] = lakeL (j + 1) o i := by rw [List.take_length, e1]
            have eLn : (lakeL j o i).length + 1 = (lakeL (j + 1) o i).length := by rw [e1]; simp
            (repeat' (first | exact trivial | exact fun h => h | refine And.intro ?_ ?_ | (intro hb; first | (simp at hb; done) | (simp at hb) | skip) | omega | exact rfl | exact Nat.le_refl _ | (show _ + 1 ≤ 4294967296; omega) | (dsimp only; omega) | (show (_ : Int) ≤ (_ : Int); omega) | (show _ < List.length _; simp only [List.length_set, List.length_append, List.length_take]; omega) | (show wantB _ _ = true; simp; done) | (show wantB _ _ = true; simp; omega) | (show (_ : Bool) = _; simp_all; done) | (exfalso; omega) | refine aRegion_auto (by decide +kernel) ?_ | fail))
            · refine ⟨j + 1, by show j + 1 ≤ n; omega, by show n - (j + 1) < n - j; omega, Ent.ren [0, 3] rfl ?_ ?_⟩
              · (repeat' (first | exact trivial | exact rfl | refine And.intro ?_ ?_))
                exact congrArg (fun x => some (AO.row int x)) eR
              · (repeat' (first | exact trivial | exact rfl | refine And.intro ?_ ?_))
                · exact congrArg (AV.ref 3 0) eLn
                · exact congrArg (AV.fz int) (hDj.trans (show gF a j = _ by rw [eM]; omega))
                · exact congrArg (AV.fz int) ((congrArg (S + ·) hDj).trans eS.symm)
            · refine ⟨j + 1, by show j + 1 ≤ n; omega, by show n - (j + 1) < n - j; omega, Ent.ren [0, 3] rfl ?_ ?_⟩
              · (repeat' (first | exact trivial | exact rfl | refine And.intro ?_ ?_))
                exact congrArg (fun x => some (AO.row int x)) eR
              · (repeat' (first | exact trivial | exact rfl | refine And.intro ?_ ?_))
                · exact congrArg (AV.ref 3 0) eLn
                · exact congrArg (AV.fz int) (show M = _ by rw [eM]; omega)
                · exact congrArg (AV.fz int) ((congrArg (S + ·) hDj).trans eS.symm)
          · have e1 : lakeL (j + 1) o i = lakeL j o i := by rw [lakeL_succ, if_neg hoj, List.append_nil]
            (repeat' (first | exact trivial | exact fun h => h | refine And.intro ?_ ?_ | (intro hb; first | (simp at hb; done) | (simp at hb) | skip) | omega | exact rfl | exact Nat.le_refl _ | (show _ + 1 ≤ 4294967296; omega) | (dsimp only; omega) | (show (_ : Int) ≤ (_ : Int); omega) | (show _ < List.length _; simp only [List.length_set, List.length_append, List.length_take]; omega) | (show wantB _ _ = true; simp; done) | (show wantB _ _ = true; simp; omega) | (show (_ : Bool) = _; simp_all; done) | (exfalso; omega) | refine aRegion_auto (by decide +kernel) ?_ | fail))
            refine ⟨j + 1, by show j + 1 ≤ n; omega, by show n - (j + 1) < n - j; omega, Ent.sub (by rw [e1]) ?_⟩
            (repeat' (first | exact trivial | exact rfl | refine And.intro ?_ ?_))
            · exact congrArg (AV.ref 1 0) (show (lakeL j o i).length = (lakeL (j + 1) o i).length by rw [e1])
            · exact congrArg (AV.fz int) (show dM (gF a) (lakeL j o i) = dM (gF a) (lakeL (j + 1) o i) by rw [e1])
            · exact congrArg (AV.fz int) (show dS (gF a) (lakeL j o i) = dS (gF a) (lakeL (j + 1) o i) by rw [e1])
        · have hj3 : j = n := by omega
          subst hj3
          obtain ⟨d1, d2, d3⟩ := hD (lakeL j o i) hmem
          (repeat' (first | exact trivial | exact fun h => h | refine And.intro ?_ ?_ | (intro hb; first | (simp at hb; done) | (simp at hb) | skip) | omega | exact rfl | exact Nat.le_refl _ | (show _ + 1 ≤ 4294967296; omega) | (dsimp only; omega) | (show (_ : Int) ≤ (_ : Int); omega) | (show _ < List.length _; simp only [List.length_set, List.length_append, List.length_take]; omega) | (show wantB _ _ = true; simp; done) | (show wantB _ _ = true; simp; omega) | (show (_ : Bool) = _; simp_all; done) | (exfalso; omega) | refine aRegion_auto (by decide +kernel) ?_ | fail))
          refine acall_lend [.keep, .dat LI] _ _ _ rfl ?_ rfl ?_
          · (repeat' (first | exact trivial | refine And.intro ?_ ?_ | (show _ ≤ _; omega) | (show _ ≤ _; simp; done)))
          have tl1 : List.take (lakeL j o i).length (lakeL j o i) = lakeL j o i := List.take_length
          refine acall_arg (sameInts_mercatorlaw4 _ (lakeL j o i) (lakeL j o i) (by omega) _ ⟨rfl, ?_⟩) (show [AV.fz LI (lakeL j o i), AV.fz LI (lakeL j o i)] = [AV.fz LI (List.getD (Lk.lks j o j) (Int.toNat ((Lk.lks j o i).length : Int)) LI.dft), AV.fz LI (List.take (lakeL j o i).length (lakeL j o i))] by rw [Int.toNat_natCast, gl, tl1])
          rw [decide_eq_true rfl]
          (repeat' (first | exact trivial | exact fun h => h | refine And.intro ?_ ?_ | (intro hb; first | (simp at hb; done) | (simp at hb) | skip) | omega | exact rfl | exact Nat.le_refl _ | (show _ + 1 ≤ 4294967296; omega) | (dsimp only; omega) | (show (_ : Int) ≤ (_ : Int); omega) | (show _ < List.length _; simp only [List.length_set, List.length_append, List.length_take]; omega) | (show wantB _ _ = true; simp; done) | (show wantB _ _ = true; simp; omega) | (show (_ : Bool) = _; simp_all; done) | (exfalso; omega) | refine aRegion_auto (by decide +kernel) ?_ | fail))
          refine acall_conv [.dat RasT, .keep] _ _ _ rfl ?_ (acall_lend [.keep, .dat LI] _ _ _ rfl ?_ rfl (acall_arg (depth_one E a hl o (fun _ => hn ▸ ho) (lakeL j o i) (by omega) _ ⟨rfl, ?_⟩) (show [AV.fz RasT a, AV.fz LI (lakeL j o i)] = [AV.fz RasT a, AV.fz LI (List.take (lakeL j o i).length (lakeL j o i))] by rw [tl1])))
          · (repeat' (first | exact trivial | refine And.intro ?_ ?_ | (show _ ≤ _; omega) | (show _ ≤ _; simp; done)))
          · (repeat' (first | exact trivial | refine And.intro ?_ ?_ | (show _ ≤ _; omega) | (show _ ≤ _; simp; done)))
          rw [d1, d2, d3]
          (repeat' (first | exact trivial | exact fun h => h | refine And.intro ?_ ?_ | (intro hb; first | (simp at hb; done) | (simp at hb) | skip) | omega | exact rfl | exact Nat.le_refl _ | (show _ + 1 ≤ 4294967296; omega) | (dsimp only; omega) | (show (_ : Int) ≤ (_ : Int); omega) | (show _ < List.length _; simp only [List.length_set, List.length_append, List.length_take]; omega) | (show wantB _ _ = true; simp; done) | (show wantB _ _ = true; simp; omega) | (show (_ : Bool) = _; simp_all; done) | (exfalso; omega) | refine aRegion_auto (by decide +kernel) ?_ | fail))
          refine acall_lend [.keep, .dat LI] _ _ _ rfl ?_ rfl ?_
          · (repeat' (first | exact trivial | refine And.intro ?_ ?_ | (show _ ≤ _; omega) | (show _ ≤ _; simp; done)))
          refine acall_arg (sameInts_mercatorlaw4 _ other (lakeL j o i) (by omega) _ ⟨rfl, ?_⟩) (show [AV.fz LI other, AV.fz LI (lakeL j o i)] = [AV.fz LI other, AV.fz LI (List.take (lakeL j o i).length (lakeL j o i))] by rw [tl1])
          (repeat' (first | exact trivial | exact fun h => h | refine And.intro ?_ ?_ | (intro hb; first | (simp at hb; done) | (simp at hb) | skip) | omega | exact rfl | exact Nat.le_refl _ | (show _ + 1 ≤ 4294967296; omega) | (dsimp only; omega) | (show (_ : Int) ≤ (_ : Int); omega) | (show _ < List.length _; simp only [List.length_set, List.length_append, List.length_take]; omega) | (show wantB _ _ = true; simp; done) | (show wantB _ _ = true; simp; omega) | (show (_ : Bool) = _; simp_all; done) | (exfalso; omega) | refine aRegion_auto (by decide +kernel) ?_ | fail))
          refine ⟨i + 1, by show i + 1 ≤ j; omega, by show j - (i + 1) < j - i; omega, Ent.ren [0] rfl ?_ ?_⟩
          · (repeat' (first | exact trivial | exact rfl | refine And.intro ?_ ?_))
          · (repeat' (first | exact trivial | exact rfl | refine And.intro ?_ ?_))
            · exact congrArg (AV.fz int) (show ((Lk.lks j o i).length : Int) + 1 = ((Lk.lks j o (i + 1)).length : Nat) by rw [hLo]; simp)
            · refine congrArg (AV.fz .bool) (?_ : (bif decide (other ∈ Lk.lks j o i) then true else decide (other = lakeL j o i)) = decide (other ∈ Lk.lks j o (i + 1)))
              rw [hLo]
              by_cases c1 : other ∈ Lk.lks j o i
              · simp [c1]
              · by_cases c2 : other = lakeL j o i
                · simp [c2]
                · simp [c1, c2]
      · rw [if_neg hoi, List.append_nil] at hLo
        (repeat' (first | exact trivial | exact fun h => h | refine And.intro ?_ ?_ | (intro hb; first | (simp at hb; done) | (simp at hb) | skip) | omega | exact rfl | exact Nat.le_refl _ | (show _ + 1 ≤ 4294967296; omega) | (dsimp only; omega) | (show (_ : Int) ≤ (_ : Int); omega) | (show _ < List.length _; simp only [List.length_set, List.length_append, List.length_take]; omega) | (show wantB _ _ = true; simp; done) | (show wantB _ _ = true; simp; omega) | (show (_ : Bool) = _; simp_all; done) | (exfalso; omega) | refine aRegion_auto (by decide +kernel) ?_ | fail))
        refine ⟨i + 1, by show i + 1 ≤ n; omega, by show n - (i + 1) < n - i; omega, Ent.sub rfl ?_⟩
        (repeat' (first | exact trivial | exact rfl | refine And.intro ?_ ?_))
        · exact congrArg (fun z : Nat => AV.fz int (z : Int)) (show (Lk.lks n o i).length = (Lk.lks n o (i + 1)).length by rw [hLo])
        · exact congrArg (AV.fz .bool) (show decide (other ∈ Lk.lks n o i) = decide (other ∈ Lk.lks n o (i + 1)) by rw [hLo])
    · have hi3 : i = n := by omega
      subst hi3
      by_cases hm : other ∈ Lk.lks i o i
      · rw [decide_eq_true hm]
        (repeat' (first | exact trivial | exact fun h => h | refine And.intro ?_ ?_ | (intro hb; first | (simp at hb; done) | (simp at hb) | skip) | omega | exact rfl | exact Nat.le_refl _ | (show _ + 1 ≤ 4294967296; omega) | (dsimp only; omega) | (show (_ : Int) ≤ (_ : Int); omega) | (show _ < List.length _; simp only [List.length_set, List.length_append, List.length_take]; omega) | (show wantB _ _ = true; simp; done) | (show wantB _ _ = true; simp; omega) | (show (_ : Bool) = _; simp_all; done) | (exfalso; omega) | refine aRegion_auto (by decide +kernel) ?_ | fail))
        refine ⟨_, _, REnt.drop ⟨rfl, rfl⟩, ?_⟩
        exact hK
      · obtain ⟨d1, d2, d3⟩ := hN hm
        rw [decide_eq_false hm, d1, d2, d3]
        (repeat' (first | exact trivial | exact fun h => h | refine And.intro ?_ ?_ | (intro hb; first | (simp at hb; done) | (simp at hb) | skip) | omega | exact rfl | exact Nat.le_refl _ | (show _ + 1 ≤ 4294967296; omega) | (dsimp only; omega) | (show (_ : Int) ≤ (_ : Int); omega) | (show _ < List.length _; simp only [List.length_set, List.length_append, List.length_take]; omega) | (show wantB _ _ = true; simp; done) | (show wantB _ _ = true; simp; omega) | (show (_ : Bool) = _; simp_all; done) | (exfalso; omega) | refine aRegion_auto (by decide +kernel) ?_ | fail))
        refine acall_frame0 rfl (coded_mercatorlaw4 hE (by omega) 3 _ ?_)
        rw [show decide (((3 : Nat) : Int) = 3) = true from rfl]
        (repeat' (first | exact trivial | exact fun h => h | refine And.intro ?_ ?_ | (intro hb; first | (simp at hb; done) | (simp at hb) | skip) | omega | exact rfl | exact Nat.le_refl _ | (show _ + 1 ≤ 4294967296; omega) | (dsimp only; omega) | (show (_ : Int) ≤ (_ : Int); omega) | (show _ < List.length _; simp only [List.length_set, List.length_append, List.length_take]; omega) | (show wantB _ _ = true; simp; done) | (show wantB _ _ = true; simp; omega) | (show (_ : Bool) = _; simp_all; done) | (exfalso; omega) | refine aRegion_auto (by decide +kernel) ?_ | fail))
        refine ⟨_, _, REnt.drop ⟨rfl, rfl⟩, ?_⟩
        exact hK
theorem basinLakes_nil {E : Errs} (other : List Int) (K : AV → List AO → Prop) (hK : K (.fz .bool true) []) :
    ACall Tryd.prog (G8 E) 8 [.fz .raw (.pointer none), .fz LI other] [] K := by
  refine acall_mk (E := envAt (G8 E) 201 0) (envOk _ _ _) Tryd.func8 rfl rfl rfl rfl rfl ?_
  (repeat' (first | exact trivial | exact fun h => h | refine And.intro ?_ ?_ | (intro hb; first | (simp at hb; done) | (simp at hb) | skip) | omega | exact rfl | exact Nat.le_refl _ | (show _ + 1 ≤ 4294967296; omega) | (dsimp only; omega) | (show (_ : Int) ≤ (_ : Int); omega) | (show _ < List.length _; simp only [List.length_set, List.length_append, List.length_take]; omega) | (show wantB _ _ = true; simp; done) | (show wantB _ _ = true; simp; omega) | (show (_ : Bool) = _; simp_all; done) | (exfalso; omega) | refine aRegion_auto (by decide +kernel) ?_ | refine ⟨_, _, REnt.drop ⟨rfl, rfl⟩, ?_⟩ | fail))
  refine acall_frame0 rfl (based_any E _ ?_)
  (repeat' (first | exact trivial | exact fun h => h | refine And.intro ?_ ?_ | (intro hb; first | (simp at hb; done) | (simp at hb) | skip) | omega | exact rfl | exact Nat.le_refl _ | (show _ + 1 ≤ 4294967296; omega) | (dsimp only; omega) | (show (_ : Int) ≤ (_ : Int); omega) | (show _ < List.length _; simp only [List.length_set, List.length_append, List.length_take]; omega) | (show wantB _ _ = true; simp; done) | (show wantB _ _ = true; simp; omega) | (show (_ : Bool) = _; simp_all; done) | (exfalso; omega) | refine aRegion_auto (by decide +kernel) ?_ | refine ⟨_, _, REnt.drop ⟨rfl, rfl⟩, ?_⟩ | fail))
  refine acall_frame0 rfl (small80_nil _ _ ?_)
  (repeat' (first | exact trivial | exact fun h => h | refine And.intro ?_ ?_ | (intro hb; first | (simp at hb; done) | (simp at hb) | skip) | omega | exact rfl | exact Nat.le_refl _ | (show _ + 1 ≤ 4294967296; omega) | (dsimp only; omega) | (show (_ : Int) ≤ (_ : Int); omega) | (show _ < List.length _; simp only [List.length_set, List.length_append, List.length_take]; omega) | (show wantB _ _ = true; simp; done) | (show wantB _ _ = true; simp; omega) | (show (_ : Bool) = _; simp_all; done) | (exfalso; omega) | refine aRegion_auto (by decide +kernel) ?_ | refine ⟨_, _, REnt.drop ⟨rfl, rfl⟩, ?_⟩ | fail))
  exact hK
end Go.Proofs.YtepkknjncpbahaaDoor
/-
  What the laid variables give: eight errors, all different, and the handle of type error.
-/
namespace Go.Proofs.YtepkknjncpbahaaDoor
open Go Go.Ab Go.RowKit Go.ChangeShapes
set_option maxRecDepth 100000
theorem star : "*" ++ "errors.errorString" = "*errors.errorString" := by decide
theorem names_at (u : TypeId) (h : Tryd.prog.typeName? 3 u = some "*errors.errorString") : u = 171 :=
  typeName_ptr_named (nm := "errors.errorString") (by rw [star]; kernel_rfl) (by kernel_rfl) (by decide) u (by rw [star]; exact h)
theorem cells_es : Tryd.prog.cellsOf 194 = 1 := by kernel_rfl
theorem cells_str : Tryd.prog.cellsOf 9 = 1 := by kernel_rfl
theorem glob_ty (g : Nat) (hg : g ∈ [2, 3, 0, 1, 4, 5, 6, 7]) :
    ∃ ti ms, (Tryd.prog.globals[g]?).map (·.type) = some ti ∧ Tryd.prog.underlying ti = some (.interface ms) := by
  have : ([2, 3, 0, 1, 4, 5, 6, 7].all fun g => (Tryd.prog.globals[g]?).map (·.type) == some 30) = true := by kernel_rfl
  exact ⟨30, _, by simpa using List.all_eq_true.1 this g hg, Tryd.underlying30⟩
theorem et_at : Tryd.prog.globalNamed "errors.errorType" = some 8 := by kernel_rfl
theorem rt_at : (Tryd.prog.cutTypes.find? (·.1 == "internal/reflectlite.rtype")).map (·.2) = some 138 := by kernel_rfl
theorem one_row : ((List.range Tryd.prog.types.size).filter fun t => Tryd.prog.rowNamed t [101, 114, 114, 111, 114]) = [30] := by kernel_rfl
/-- of a list of the eight errors and the handle -/
theorem globs8 {W : World} {l : List (String × DataW Unit)} {x1 x2 x3 x4 x5 x6 x7 x8 : List UInt8} (h : laidMetH Tryd.prog l W)
    (hl : (l.filter fun x => x.2.handleName?.isNone) = [("mercator/api.ErrText", errD x1), ("mercator/api.ErrBound", errD x2), ("mercator/api.ErrShape", errD x3), ("mercator/api.ErrRange", errD x4), ("mercator/api.ErrName", errD x5), ("mercator/api.ErrNone", errD x6), ("mercator/api.ErrOrder", errD x7), ("mercator/api.ErrFile", errD x8)])
    (hh : (l.filter fun x => x.2.handleName?.isSome) = [("errors.errorType", .iface "internal/reflectlite.rtype" (.agg [.ptr (.lit (.string [101, 114, 114, 111, 114]))]))]) :
    ∃ E : Errs, (EL E).Nodup ∧ ∀ g v, gk (G8 E) g = some v → Glo0 W g v := by
  obtain ⟨h1, h2⟩ := laidMetH_iff.1 h
  rw [hl] at h1
  rw [hh] at h2
  obtain ⟨ps, hv, hn, hall⟩ := h1
  obtain ⟨al, k1, k2, k3, _⟩ := laid_errs names_at Tryd.underlying171 Tryd.underlying194 rfl rfl Tryd.underlying9 cells_es cells_str
    [("mercator/api.ErrText", x1), ("mercator/api.ErrBound", x2), ("mercator/api.ErrShape", x3), ("mercator/api.ErrRange", x4), ("mercator/api.ErrName", x5), ("mercator/api.ErrNone", x6), ("mercator/api.ErrOrder", x7), ("mercator/api.ErrFile", x8)]
    [2, 3, 0, 1, 4, 5, 6, 7] ps hv hn hall (by kernel_rfl) glob_ty
  obtain ⟨a1, a2, a3, a4, a5, a6, a7, a8, rfl⟩ : ∃ a1 a2 a3 a4 a5 a6 a7 a8, al = [a1, a2, a3, a4, a5, a6, a7, a8] := by
    match al, k1 with
    | [a1, a2, a3, a4, a5, a6, a7, a8], _ => exact ⟨a1, a2, a3, a4, a5, a6, a7, a8, rfl⟩
  have hE : Glo0 W 8 asK.errType := by
    obtain ⟨name, u, ty, e1, e2, e3, e4, e5⟩ := h2 _ (List.mem_singleton.2 rfl)
    have en : name = [101, 114, 114, 111, 114] := (Option.some.inj e1).symm
    subst en
    obtain rfl := Option.some.inj (rt_at.symm.trans e2)
    have hm : ty ∈ (List.range Tryd.prog.types.size).filter fun t => Tryd.prog.rowNamed t [101, 114, 114, 111, 114] := List.mem_filter.2 ⟨List.mem_range.2 e3, e4⟩
    rw [one_row] at hm
    obtain rfl := List.mem_singleton.1 hm
    have hh : typeHandle Tryd.prog 30 = .pointer (some ⟨9, 30, none⟩) := by kernel_rfl
    rw [hh] at e5
    exact ⟨by simpa [asK.errType] using World.var?_cell et_at e5 0, rfl, fun T a e => by cases e⟩
  refine ⟨⟨a1, a2, a3, a4, a5, a6, a7, a8⟩, k2, fun g v hg => ?_⟩
  unfold G8 gk at hg
  split at hg
  · rename_i e; subst e; cases hg; exact k3 2 _ _ rfl rfl
  unfold gk at hg
  split at hg
  · rename_i e; subst e; cases hg; exact k3 3 _ _ rfl rfl
  unfold gk at hg
  split at hg
  · rename_i e; subst e; cases hg; exact k3 1 _ _ rfl rfl
  unfold gk at hg
  split at hg
  · rename_i e; subst e; cases hg; exact k3 0 _ _ rfl rfl
  unfold gk at hg
  split at hg
  · rename_i e; subst e; cases hg; exact k3 4 _ _ rfl rfl
  unfold gk at hg
  split at hg
  · rename_i e; subst e; cases hg; exact k3 5 _ _ rfl rfl
  unfold gk at hg
  split at hg
  · rename_i e; subst e; cases hg; exact k3 6 _ _ rfl rfl
  unfold gk at hg
  split at hg
  · rename_i e; subst e; cases hg; exact k3 7 _ _ rfl rfl
  unfold gk at hg
  split at hg
  · rename_i e; subst e; cases hg; exact hE
  · cases hg
end Go.Proofs.YtepkknjncpbahaaDoor
/-
  Arguments read again behind a call that leaves old memory alone; a slice of points opened.
-/
namespace Go.Proofs.YtepkknjncpbahaaDoor
open Go Go.ChangeShapes Go.WideShapes Go.ChangeAt Go.RowKit
theorem trodAll_below {H : Type} {enc : TypeId × Value → H} {P : Program} (hl : laidOutB P = true) {W W' : World} (hb : Below W.heap.size W W') :
    ∀ (ts : List TypeId) (vs : List Value) (ds : List (DataW H)) (ps : List MemPlace), (∀ t ∈ ts, P.readableRec t = true ∧ t < P.types.size) →
      DataW.TrodAll enc P W 0 (fun _ => true) true ts vs ds ps → (∀ x ∈ ps, x.block < W.heap.size) →
      DataW.TrodAll enc P W' 0 (fun b => decide (b < W.heap.size)) true ts vs ds ps
  | [], [], [], ps, _, h, _ => h
  | [], [], _ :: _, _, _, h, _ => h.elim
  | [], _ :: _, _, _, _, h, _ => h.elim
  | _ :: _, [], _, _, _, h, _ => h.elim
  | _ :: _, _ :: _, [], _, _, h, _ => h.elim
  | t :: ts, v :: vs, d :: ds, ps, hr, h, hlt => by
    obtain ⟨p, q, h1, h2, rfl⟩ := h
    refine ⟨p, q, Below.trod hl (hr t (List.mem_cons_self ..)).1 (hr t (List.mem_cons_self ..)).2 h1 hb (fun x hx => hlt x (List.mem_append.2 (.inl hx))), ?_, rfl⟩
    exact trodAll_below hl hb ts vs ds q (fun t ht => hr t (List.mem_cons_of_mem _ ht)) h2 (fun x hx => hlt x (List.mem_append.2 (.inr hx)))
end Go.Proofs.YtepkknjncpbahaaDoor
/-
  BasinLakes answers true, whatever it is asked (no condition).
-/
namespace Go.Proofs.YtepkknjncpbahaaDoor.basinLakes
open Go Go.ChangeShapes Go.WideShapes Go.ChangeAt Go.RowKit Go.Ab
set_option maxRecDepth 100000
theorem own : ownKnob Tryd.prog.godebug = none := by kernel_rfl
theorem laidOut : laidOutB Tryd.prog = true := by kernel_rfl
theorem lifted (os : Os) (started : os.Started) (H : Type) (enc : TypeId × Value → H) :
    ReturnsInHanded {} Tryd.checked os 8 .any (fun w args => (Rows.basinLakesSpec.pre enc Tryd.prog Tryd.f8 [] false w args ∧ laidMetH Tryd.prog Rows.basinLakesRow.laid w) ∧ sizedMet enc Tryd.prog Tryd.f8 (OpenSpec.ofChange Rows.basinLakesSpec) false w args)
      (Rows.basinLakesSpec.post enc Tryd.prog Tryd.f8 false true false false) := by
  refine returnsInHanded_of_change_and (C := Tryd.checked) (X := fun w _ => laidMetH Tryd.prog Rows.basinLakesRow.laid w) (fun _ _ _ hh h => h.of_heap hh) own started (by kernel_rfl) Tryd.func8
    (ChangeSpec.witness_shaped (enc := enc) (C := Tryd.checked) (os := os) (X := fun w _ => laidMetH Tryd.prog Rows.basinLakesRow.laid w) false (World.doorLaid Tryd.prog 400 os) #[.pointer none, .slice none 0 0] 8 rfl (World.shaped_of_RefB (by kernel_rfl) (by kernel_rfl)) (by kernel_rfl) (by kernel_rfl) (by kernel_rfl)
      (laidMetH_of_parts3 (fuel := 8) (laidMet_of_run' 8 (by kernel_rfl) (by kernel_rfl)) (by kernel_rfl) (by kernel_rfl))) ?_
  intro W base args ds gs before hval0 hW _ _ hL _
  have hval : ∀ (j : Nat) t v, Tryd.f8.params[j]? = some t → args[j]? = some v → Value.okWide Tryd.prog W .any base t v := hval0
  have hW' := hW
  obtain ⟨p, q, hA0, hV, rfl, hfz, hnd⟩ := hW
  have hA : DataW.TrodAll enc Tryd.prog W 0 (fun _ => true) true Tryd.f8.params.toList args.toList ds p := hA0
  obtain ⟨rfl, rfl⟩ := trodVars_none hV
  simp only [List.append_nil] at hW'
  have hAll : ∀ W', Below W.heap.size W W' → DataW.TrodAll enc Tryd.prog W' 0 (fun b => decide (b < W.heap.size)) true Tryd.f8.params.toList args.toList ds p :=
    fun W' hb => trodAll_below laidOut hb _ _ _ _ (by rw [Tryd.params8]; exact of_decide_eq_true (by kernel_rfl)) hA (fun x hx => hW'.lt x hx)
  rw [Tryd.params8] at hA hval
  obtain ⟨v0, vs0, d0, ds0, p0, q0, hargs, rfl, rfl, h0, t0⟩ := trodAll_cons hA
  obtain ⟨v1, vs1, d1, ds1, p1, q1, rfl, rfl, rfl, h1, t1⟩ := trodAll_cons t0
  obtain ⟨rfl, rfl, rfl⟩ := trodAll_nil t1
  obtain rfl : args = #[v0, v1] := by cases args; simp_all
  clear hA0 hval0
  obtain ⟨E, hN, hE⟩ := globs8 hL rfl rfl
  have o0 := open_ptr (n := 4) (ty := RasT) tabOk (show tptrTo tab 22 = some 28 by kernel_rfl) (by kernel_rfl) (G8 E) (hval 0 _ v0 rfl rfl) h0
  obtain ⟨y1, r1, b1⟩ := open_val (n := 3) (ty := (.list int)) tabOk (by kernel_rfl) (G8 E) (hval 1 _ v1 rfl rfl) h1
  have fin : Calls Tryd.prog 8 #[v0, v1] W fun e w' => e = .returned (.bool true) ∧ Below W.heap.size W w' := by
    have hl1 : y1.length ≤ 9223372036854775807 := by have := b1.1; unfold maxLen at this; omega
    rcases o0 with rfl | ⟨y0, r0, b0⟩
    · exact acall_true (vs := [.pointer none, v1]) (basinLakes_nil y1 _ rfl) hE ⟨_, _, rfl, (rel_raw rfl).2 rfl, _, _, rfl, r1, rfl⟩
    · have hl0 : y0.2.2.length ≤ 9223372036854775807 := by have := b0.2.2.1; unfold maxLen at this; omega
      exact acall_true (vs := [v0, v1]) (basinLakes_some hN y0 y1 hl0 hl1 _ rfl) hE ⟨_, _, rfl, r0, _, _, rfl, r1, rfl⟩
  refine fin.mono fun e W' ⟨he, hg⟩ => ?_
  subst he
  exact ⟨_, rfl, _, _, _, [], _, [], hW', trodAll_mk1 (shut_bool Tryd.underlying4 _), hAll W' hg, rfl, hg.frame _, fun h => by cases h⟩
theorem row : Rows.BasinLakesSaid :=
  OpenClaim.holds_of_wide 8 Tryd.f8 rfl rfl rfl rfl rfl rfl rfl ⟨rfl, rfl, rfl, rfl, rfl⟩ rfl rfl rfl rfl rfl (by kernel_rfl) Tryd.func8 (by kernel_rfl)
    (of_decide_eq_true (by kernel_rfl)) (by unfold Func.isWrapper; first | (rw [if_pos (by decide +kernel)]; kernel_rfl) | (rw [if_neg (by decide +kernel)]; exact ⟨rfl, rfl⟩))
    (fun os started H enc _ => lifted os started H enc)
theorem proved : Rows.BasinLakesCardSaid :=
  Claim7.holds_tied_plain_at .later [] [.handle, .sentinel, .sentinel, .sentinel, .sentinel, .sentinel, .sentinel, .sentinel, .sentinel] true (true, "2c6a993363151e49d24002e89860878e7966fcc3637518dfcc0da44657d94591") true
    row (fun _ h => by cases h) (by kernel_rfl) (fun _ h => by cases h) basinLakes_row_tie rfl ⟨rfl, rfl⟩ (by kernel_rfl) rfl
    (fun f fn hf hfn => by
      obtain rfl : f = 8 := Option.some.inj ((show Tryd.prog.funcNamed "mercator/mercatorlaw4.BasinLakes" = some 8 by kernel_rfl).symm.trans hf) |>.symm
      obtain rfl : fn = Tryd.f8 := (Option.some.inj (Tryd.func8.symm.trans hfn)).symm
      exact ⟨by kernel_rfl, fun j t ht => by
        rw [Tryd.params8] at ht
        have hm : t ∈ [22, 23] := by simpa using Array.mem_of_getElem? ht
        have hall : ([22, 23].all fun u => !Tryd.prog.wantsStandIn u) = true := by kernel_rfl
        exact (show Tryd.prog.wantsStandIn t = false by simpa using List.all_eq_true.1 hall t hm)⟩)
    (by kernel_rfl)
end Go.Proofs.YtepkknjncpbahaaDoor.basinLakes
