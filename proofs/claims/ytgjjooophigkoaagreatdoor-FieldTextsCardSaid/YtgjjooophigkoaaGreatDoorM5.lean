/-
  Rasters: heights, sizes.
-/
import Derived.Test.YtgjjooophigkoaaGreatDoorM4
import Derived.Shelf.Strings.Builder1
import Derived.Shelf.Strconv.Atoi
import Derived.Shelf.Strconv.Itoa0
import Derived.Shelf.Strconv.Itoa1
import Derived.Shelf.LaysM
import Derived.Shelf.Strconv.Itoa2
import Derived.Shelf.Strconv.Itoa3
import Derived.Shelf.Strconv.AtoiErrFast
import Derived.Shelf.Strconv.ParseIntEmpty
import Derived.Shelf.Strconv.AtoiFail
import Derived.Shelf.Strconv.Clone
import Derived.Shelf.Strconv.SyntaxError
import Derived.Shelf.LaysC
import Derived.Shelf.Strconv.ToError
import Derived.Shelf.Strconv.Lower
import Derived.Shelf.Strconv.ParseUint10
import Derived.Shelf.Strconv.ParseUint10Empty
import Derived.Shelf.Strconv.ParseUint10Any
import Derived.Shelf.Strconv.ParseInt10
import Derived.Shelf.Strconv.AtoiLong
import Derived.Shelf.Strconv.AtoiInnerAll
import Derived.Shelf.Strconv.RangeError
import Derived.Shelf.Strconv.ToErrorRange
import Derived.Shelf.Strconv.AtoiAll
import Derived.Shelf.Strconv.ErrVarAll
import Derived.Shelf.Strings.Search1
import Derived.Shelf.Strings.Search2
import Derived.Shelf.Strings.Search3
import Derived.Shelf.Strings.Count
import Derived.Shelf.Strings.Shaped
import Derived.Shelf.Strings.Prefix
import Derived.Shelf.Strings.Split
import Derived.Shelf.Strings.SplitShaped
import Derived.Shelf.Unicode.DecodeSlow
import Derived.Test.YtgjjooophigkoaaGreatDoorProg
import Derived.Test.YtgjjooophigkoaaGreatDoorChecked
import Derived.WalkKit
import Derived.LaidEql
import Derived.Stop.Asserts
import Derived.RowKitTokens
import Derived.Below
import Derived.LaidHandle
import Derived.LaidSub
import Derived.Lib.Walk
import Derived.Deep.RegionWith
import Derived.Lib.AppendIntMem
namespace Go.Proofs.YtgjjooophigkoaaGreatDoor
open Go Go.Ab
set_option maxRecDepth 100000
abbrev int : Ty := .int .i64
abbrev RasT : Ty := .pair int (.pair int (.list int))
def bigB (h : Int) : Bool := decide (1048576 < h) || decide (h < -1048576)
theorem bif_or (a b : Bool) : (bif a then true else b) = (a || b) := by cases a <;> rfl
theorem bif_and (a b : Bool) : (bif a then b else false) = (a && b) := by cases a <;> rfl
theorem great_any (G : List (Nat × Value)) (h : Int) (K : AV → List AO → Prop) (hK : K (.fz .bool (bigB h)) []) : ACall Tryz.prog G 64 [.fz int h] [] K := by
  refine acall_mk (E := envAt G 9 0) (envOk _ _ _) Tryz.func64 rfl rfl rfl rfl rfl ?_
  (repeat' (first | exact trivial | exact fun h => h | refine And.intro ?_ ?_ | (intro hb; first | (simp at hb; done) | (simp at hb) | skip) | omega | exact rfl | exact Nat.le_refl _ | (show _ + 1 ≤ 4294967296; omega) | (dsimp only; omega) | (show (_ : Int) ≤ (_ : Int); omega) | (show _ < List.length _; simp only [List.length_set, List.length_append, List.length_take]; omega) | (show wantB _ _ = true; simp; done) | (show wantB _ _ = true; simp; omega) | (show (_ : Bool) = _; simp_all; done) | (exfalso; omega) | refine aRegion_auto (by decide +kernel) ?_ | fail))
  refine ⟨_, _, REnt.refl _ _ _, ?_⟩
  rw [bif_or]; exact hK
theorem big1_any (G : List (Nat × Value)) (h : Int) (K : AV → List AO → Prop) (hK : K (.fz .bool (bigB h)) []) : ACall Tryz.prog G 93 [.fz int h] [] K := by
  refine acall_mk (E := envAt G 9 0) (envOk _ _ _) Tryz.func93 rfl rfl rfl rfl rfl ?_
  (repeat' (first | exact trivial | exact fun h => h | refine And.intro ?_ ?_ | (intro hb; first | (simp at hb; done) | (simp at hb) | skip) | omega | exact rfl | exact Nat.le_refl _ | (show _ + 1 ≤ 4294967296; omega) | (dsimp only; omega) | (show (_ : Int) ≤ (_ : Int); omega) | (show _ < List.length _; simp only [List.length_set, List.length_append, List.length_take]; omega) | (show wantB _ _ = true; simp; done) | (show wantB _ _ = true; simp; omega) | (show (_ : Bool) = _; simp_all; done) | (exfalso; omega) | refine aRegion_auto (by decide +kernel) ?_ | fail))
  refine ⟨_, _, REnt.refl _ _ _, ?_⟩
  rw [bif_or]; exact hK
def idxF (p : Int → Bool) (xs : List Int) : Int := match xs.findIdx? p with
  | some i => (i : Nat)
  | none => -1
theorem indexFunc_any (G : List (Nat × Value)) (xs : List Int) (g : FuncId) (p : Int → Bool) (hg : ∀ h K, K (.fz .bool (p h)) [] → ACall Tryz.prog G g [.fz int h] [] K) (hl : xs.length ≤ 1000000000000) (K : AV → List AO → Prop) (hK : K (.fz int (idxF p xs)) []) :
    ACall Tryz.prog G 126 [.fz (.list int) xs, .fn g []] [] K := by
  refine acall_mk (E := envAt G 19 0) (envOk _ _ _) Tryz.func126 rfl rfl rfl rfl rfl ?_
  (repeat' (first | exact trivial | exact fun h => h | refine And.intro ?_ ?_ | (intro hb; first | (simp at hb; done) | (simp at hb) | skip) | omega | exact rfl | exact Nat.le_refl _ | (show _ + 1 ≤ 4294967296; omega) | (dsimp only; omega) | (show (_ : Int) ≤ (_ : Int); omega) | (show _ < List.length _; simp only [List.length_set, List.length_append, List.length_take]; omega) | (show wantB _ _ = true; simp; done) | (show wantB _ _ = true; simp; omega) | (show (_ : Bool) = _; simp_all; done) | (exfalso; omega) | refine aRegion_auto (by decide +kernel) ?_ | fail))
  refine ⟨Nat, fun k => ⟨[(0, .fz (.list int) xs), (1, .fn g []), (7, .fz int xs.length), (8, .fz int k)], []⟩, fun k => k ≤ xs.length ∧ ∀ j, j < k → p (xs.getD j 0) = false, fun k => xs.length - k, 0, ⟨Nat.zero_le _, fun j h => absurd h (Nat.not_lt_zero _)⟩, Ent.sub rfl ⟨rfl, rfl, rfl, rfl⟩, ?_⟩
  intro k ⟨hk, hp⟩
  (repeat' (first | exact trivial | exact fun h => h | refine And.intro ?_ ?_ | (intro hb; first | (simp at hb; done) | (simp at hb) | skip) | omega | exact rfl | exact Nat.le_refl _ | (show _ + 1 ≤ 4294967296; omega) | (dsimp only; omega) | (show (_ : Int) ≤ (_ : Int); omega) | (show _ < List.length _; simp only [List.length_set, List.length_append, List.length_take]; omega) | (show wantB _ _ = true; simp; done) | (show wantB _ _ = true; simp; omega) | (show (_ : Bool) = _; simp_all; done) | (exfalso; omega) | refine aRegion_auto (by decide +kernel) ?_ | fail))
  · refine acall_frame0 rfl (hg _ _ ?_)
    (repeat' (first | exact trivial | exact fun h => h | refine And.intro ?_ ?_ | (intro hb; first | (simp at hb; done) | (simp at hb) | skip) | omega | exact rfl | exact Nat.le_refl _ | (show _ + 1 ≤ 4294967296; omega) | (dsimp only; omega) | (show (_ : Int) ≤ (_ : Int); omega) | (show _ < List.length _; simp only [List.length_set, List.length_append, List.length_take]; omega) | (show wantB _ _ = true; simp; done) | (show wantB _ _ = true; simp; omega) | (show (_ : Bool) = _; simp_all; done) | (exfalso; omega) | refine aRegion_auto (by decide +kernel) ?_ | fail))
    · refine ⟨_, _, REnt.refl _ _ _, ?_⟩
      have : idxF p xs = k := by
        unfold idxF
        have : xs.findIdx? p = some k := by
          rw [List.findIdx?_eq_some_iff_getElem]
          refine ⟨by assumption, ?_, fun j hj => ?_⟩
          · simpa [List.getD, show k < xs.length by assumption] using hb
          · have := hp j hj
            have hlt : j < xs.length := by omega
            simpa [List.getD, hlt] using this
        rw [this]
      rw [this] at hK; exact hK
    · refine ⟨k + 1, ⟨by omega, fun j hj => ?_⟩, by show _ - _ < _ - _; omega, Ent.sub rfl ⟨rfl, rfl, rfl, rfl⟩⟩
      by_cases h : j = k
      · subst h; exact hb
      · exact hp j (by omega)
  · refine ⟨_, _, REnt.refl _ _ _, ?_⟩
    have : idxF p xs = -1 := by
      unfold idxF
      have : xs.findIdx? p = none := by
        rw [List.findIdx?_eq_none_iff]
        intro x hx
        obtain ⟨j, hj, rfl⟩ := List.getElem_of_mem hx
        have := hp j (by omega)
        simpa [List.getD, hj] using this
      rw [this]
    rw [this] at hK; exact hK
theorem containsFunc_any (G : List (Nat × Value)) (xs : List Int) (g : FuncId) (p : Int → Bool) (hg : ∀ h K, K (.fz .bool (p h)) [] → ACall Tryz.prog G g [.fz int h] [] K) (hl : xs.length ≤ 1000000000000) (K : AV → List AO → Prop) (hK : K (.fz .bool (xs.any p)) []) :
    ACall Tryz.prog G 92 [.fz (.list int) xs, .fn g []] [] K := by
  refine acall_mk (E := envAt G 9 0) (envOk _ _ _) Tryz.func92 rfl rfl rfl rfl rfl ?_
  (repeat' (first | exact trivial | exact fun h => h | refine And.intro ?_ ?_ | (intro hb; first | (simp at hb; done) | (simp at hb) | skip) | omega | exact rfl | exact Nat.le_refl _ | (show _ + 1 ≤ 4294967296; omega) | (dsimp only; omega) | (show (_ : Int) ≤ (_ : Int); omega) | (show _ < List.length _; simp only [List.length_set, List.length_append, List.length_take]; omega) | (show wantB _ _ = true; simp; done) | (show wantB _ _ = true; simp; omega) | (show (_ : Bool) = _; simp_all; done) | (exfalso; omega) | refine aRegion_auto (by decide +kernel) ?_ | fail))
  refine acall_frame0 rfl (indexFunc_any G xs g p hg hl _ ?_)
  (repeat' (first | exact trivial | exact fun h => h | refine And.intro ?_ ?_ | (intro hb; first | (simp at hb; done) | (simp at hb) | skip) | omega | exact rfl | exact Nat.le_refl _ | (show _ + 1 ≤ 4294967296; omega) | (dsimp only; omega) | (show (_ : Int) ≤ (_ : Int); omega) | (show _ < List.length _; simp only [List.length_set, List.length_append, List.length_take]; omega) | (show wantB _ _ = true; simp; done) | (show wantB _ _ = true; simp; omega) | (show (_ : Bool) = _; simp_all; done) | (exfalso; omega) | refine aRegion_auto (by decide +kernel) ?_ | fail))
  refine ⟨_, _, REnt.refl _ _ _, ?_⟩
  have : decide ((0 : Int) ≤ idxF p xs) = xs.any p := by
    unfold idxF
    cases h : xs.findIdx? p with
    | none =>
      rw [List.findIdx?_eq_none_iff] at h
      simp; intro x hx; simpa using h x hx
    | some i =>
      obtain ⟨h1, h2, _⟩ := List.findIdx?_eq_some_iff_getElem.1 h
      simp; exact ⟨_, List.getElem_mem h1, h2⟩
  rw [this]; exact hK
end Go.Proofs.YtgjjooophigkoaaGreatDoor
/-
  Rasters: are they right?
-/
namespace Go.Proofs.YtgjjooophigkoaaGreatDoor
open Go Go.Ab
set_option maxRecDepth 100000
/-- where the errors lie -/
structure Errs where
  text : Addr
  bound : Addr
  shape : Addr
  range : Addr
  name : Addr
  none : Addr
  order : Addr
  file : Addr
abbrev errV (a : Addr) : Value := .iface 293 (.pointer (some a))
abbrev GE (E : Errs) : List (Nat × Value) := [(0, errV E.shape), (3, errV E.range), (1, errV E.bound)]
/-! ### is a raster right? -/
abbrev Ras := Int × Int × List Int
/-- 0, or the number of an error -/
def rerr (a : Ras) : Nat := if 128 < a.1 ∨ 128 < a.2.1 then 2 else if a.1 < 1 ∨ a.2.1 < 1 ∨ (a.2.2.length : Int) ≠ a.1 * a.2.1 then 3 else if a.2.2.any bigB then 4 else 0
theorem mul_bd {a b A B : Int} (h1 : 0 ≤ a) (h2 : a ≤ A) (h3 : 0 ≤ b) (h4 : b ≤ B) : 0 ≤ a * b ∧ a * b ≤ A * B :=
  ⟨Int.mul_nonneg h1 h3, Int.mul_le_mul h2 h4 h3 (Int.le_trans h1 h2)⟩
theorem valid_any (E : Errs) (a : Ras) (hl : a.2.2.length ≤ 1000000000000) (K : AV → List AO → Prop)
    (h0 : rerr a = 0 → K (.fz .raw .nilIface) []) (h2 : rerr a = 2 → K (.fz .raw (errV E.bound)) []) (h3 : rerr a = 3 → K (.fz .raw (errV E.shape)) []) (h4 : rerr a = 4 → K (.fz .raw (errV E.range)) []) : ACall Tryz.prog (GE E) 42 [.fz RasT a] [] K := by
  refine acall_mk (E := envAt (GE E) 36 0) (envOk _ _ _) Tryz.func42 rfl rfl rfl rfl rfl ?_
  (repeat' (first | exact trivial | exact fun h => h | refine And.intro ?_ ?_ | (intro hb; first | (simp at hb; done) | (simp at hb) | skip) | omega | exact rfl | exact Nat.le_refl _ | (show _ + 1 ≤ 4294967296; omega) | (dsimp only; omega) | (show (_ : Int) ≤ (_ : Int); omega) | (show _ < List.length _; simp only [List.length_set, List.length_append, List.length_take]; omega) | (show wantB _ _ = true; simp; done) | (show wantB _ _ = true; simp; omega) | (show (_ : Bool) = _; simp_all; done) | (exfalso; omega) | refine aRegion_auto (by decide +kernel) ?_ | fail))
  · refine ⟨_, _, REnt.drop ⟨rfl, rfl⟩, ?_⟩
    exact h2 (by unfold rerr; rw [if_pos hb])
  · have := mul_bd (a := a.1) (b := a.2.1) (A := 128) (B := 128) (by omega) (by omega) (by omega) (by omega); omega
  · have := mul_bd (a := a.1) (b := a.2.1) (A := 128) (B := 128) (by omega) (by omega) (by omega) (by omega); omega
  · refine ⟨_, _, REnt.drop ⟨rfl, rfl⟩, ?_⟩
    exact h3 (by unfold rerr; rw [if_neg (by omega), if_pos (by omega)])
  · refine acall_frame0 rfl (containsFunc_any (GE E) a.2.2 _ bigB (big1_any (GE E)) hl _ ?_)
    (repeat' (first | exact trivial | exact fun h => h | refine And.intro ?_ ?_ | (intro hb; first | (simp at hb; done) | (simp at hb) | skip) | omega | exact rfl | exact Nat.le_refl _ | (show _ + 1 ≤ 4294967296; omega) | (dsimp only; omega) | (show (_ : Int) ≤ (_ : Int); omega) | (show _ < List.length _; simp only [List.length_set, List.length_append, List.length_take]; omega) | (show wantB _ _ = true; simp; done) | (show wantB _ _ = true; simp; omega) | (show (_ : Bool) = _; simp_all; done) | (exfalso; omega) | refine aRegion_auto (by decide +kernel) ?_ | fail))
    · refine ⟨_, _, REnt.drop ⟨rfl, rfl⟩, ?_⟩
      exact h4 (by unfold rerr; rw [if_neg (by omega), if_neg (by omega), if_pos (by simpa using hb)])
    · refine ⟨_, _, REnt.drop ⟨rfl, rfl⟩, ?_⟩
      exact h0 (by unfold rerr; rw [if_neg (by omega), if_neg (by omega), if_neg (by simpa using hb)])
end Go.Proofs.YtgjjooophigkoaaGreatDoor
/-
  A raster's text, and what a text's raster is, told plainly: the raster of a raster's text is the raster.
-/
namespace Go.Proofs.YtgjjooophigkoaaGreatDoor.Tx
open Go
/-! ### print -/
def bdy (W : Nat) : Nat → List Int → List UInt8
  | _, [] => []
  | i, h :: l => (if i % W = 0 then 10 else 32) :: (Lib.itoa h ++ bdy W (i + 1) l)
theorem bdy_snoc (W : Nat) : ∀ (l : List Int) (i : Nat) (h : Int), bdy W i (l ++ [h]) = bdy W i l ++ (if (i + l.length) % W = 0 then 10 else 32) :: Lib.itoa h
  | [], i, h => by simp [bdy]
  | x :: l, i, h => by
    rw [List.cons_append, bdy, bdy_snoc W l (i + 1) h, bdy]
    simp [Nat.add_assoc, Nat.add_comm 1]
def txt (a : Ras) : List UInt8 := Lib.itoa a.1 ++ (32 :: Lib.itoa a.2.1) ++ bdy a.1.toNat 0 a.2.2 ++ [10]
theorem itoa_len21 {n : Int} (h : -999999999 ≤ n ∧ n ≤ 999999999) : (Lib.itoa n).length ≤ 10 := itoa_len h
theorem bdy_len (W : Nat) : ∀ (l : List Int) (i : Nat), (∀ x ∈ l, -999999999 ≤ x ∧ x ≤ 999999999) → (bdy W i l).length ≤ 11 * l.length
  | [], _, _ => by simp [bdy]
  | x :: l, i, h => by
    have h1 := itoa_len (h x (by simp))
    have h2 := bdy_len W l (i + 1) (fun y hy => h y (by simp [hy]))
    simp [bdy]; omega
/-! ### parse -/
abbrev noRas : Ras := (0, 0, [])
def hdQ (ls : List (List UInt8)) : Option (Int × Int) := match numsOf (ls.getD 0 []) with
  | some [w, h] => if 2 ≤ ls.length ∧ 1 ≤ w ∧ w ≤ 128 ∧ 1 ≤ h ∧ h ≤ 128 then some (w, h) else none
  | _ => none
theorem hdQ_some {ls : List (List UInt8)} {w h : Int} (h0 : numsOf (ls.getD 0 []) = some [w, h]) (h1 : 2 ≤ ls.length) (h2 : 1 ≤ w) (h3 : w ≤ 128) (h4 : 1 ≤ h) (h5 : h ≤ 128) : hdQ ls = some (w, h) := by
  unfold hdQ; rw [h0]; simp only; rw [if_pos ⟨h1, h2, h3, h4, h5⟩]
theorem hdQ_bad {ls : List (List UInt8)} (h : ∀ w h, numsOf (ls.getD 0 []) = some [w, h] → ¬ (2 ≤ ls.length ∧ 1 ≤ w ∧ w ≤ 128 ∧ 1 ≤ h ∧ h ≤ 128)) : hdQ ls = none := by
  unfold hdQ
  split
  · rename_i w h' e; rw [if_neg (h w h' e)]
  · rfl
/-- the bad row, or 0; the heights -/
def rws (ls : List (List UInt8)) (W : Int) : Nat → Nat → List Int → Nat × List Int
  | 0, _, L => (0, L)
  | k + 1, r, L => if ls.length - 1 ≤ r then (r, []) else match numsOf (ls.getD r []) with
    | none => (r, [])
    | some l => if (l.length : Int) = W then rws ls W k (r + 1) (L ++ l) else (r, [])
theorem rws_end (ls : List (List UInt8)) (W : Int) (k r : Nat) (L : List Int) (h : ls.length - 1 ≤ r) : rws ls W (k + 1) r L = (r, []) := by rw [rws, if_pos h]
theorem rws_none (ls : List (List UInt8)) (W : Int) (k r : Nat) (L : List Int) (h : r < ls.length - 1) (h1 : numsOf (ls.getD r []) = none) : rws ls W (k + 1) r L = (r, []) := by rw [rws, if_neg (by omega), h1]
theorem rws_bad (ls : List (List UInt8)) (W : Int) (k r : Nat) (L l : List Int) (h : r < ls.length - 1) (h1 : numsOf (ls.getD r []) = some l) (h2 : (l.length : Int) ≠ W) : rws ls W (k + 1) r L = (r, []) := by rw [rws, if_neg (by omega), h1]; simp only; rw [if_neg h2]
theorem rws_step (ls : List (List UInt8)) (W : Int) (k r : Nat) (L l : List Int) (h : r < ls.length - 1) (h1 : numsOf (ls.getD r []) = some l) (h2 : (l.length : Int) = W) : rws ls W (k + 1) r L = rws ls W k (r + 1) (L ++ l) := by rw [rws, if_neg (by omega), h1]; simp only; rw [if_pos h2]
theorem rws_len (ls : List (List UInt8)) (W : Int) : ∀ (k r : Nat) (L M : List Int), 0 < r → rws ls W k r L = (0, M) → (M.length : Int) = L.length + k * W
  | 0, r, L, M, _, h => by simp only [rws, Prod.mk.injEq] at h; rw [← h.2]; simp
  | k + 1, r, L, M, hr, h => by
    rw [rws] at h
    split at h
    · simp only [Prod.mk.injEq] at h; omega
    · split at h
      · simp only [Prod.mk.injEq] at h; omega
      · split at h
        · rename_i l _ hl
          have := rws_len ls W k (r + 1) _ M (by omega) h
          rw [List.length_append] at this
          push_cast at this ⊢
          rw [this, hl, Int.add_mul]; omega
        · simp only [Prod.mk.injEq] at h; omega
def rdQ (s : List UInt8) : (Nat × Int) × Ras :=
  if 200000 < s.length then ((2, 0), noRas) else
  match hdQ (cut 10 s) with
  | none => ((1, 0), noRas)
  | some (w, h) => match rws (cut 10 s) w h.toNat 1 [] with
    | (0, L) => if h + 1 < ((cut 10 s).length : Int) - 1 ∨ (cut 10 s).getD ((cut 10 s).length - 1) [] ≠ [] then ((1, h + 1), noRas) else if rerr (w, h, L) = 0 then ((0, -1), (w, h, L)) else ((4, 0), noRas)
    | (r + 1, _) => ((1, (r : Int) + 1), noRas)
/-! ### parse of print -/
def jt : List Int → List UInt8
  | [] => []
  | h :: l => 32 :: (Lib.itoa h ++ jt l)
def jn : List Int → List UInt8
  | [] => []
  | h :: l => Lib.itoa h ++ jt l
theorem itoa_no {n : Int} {c : UInt8} (hc : c = 10 ∨ c = 32) : c ∉ Lib.itoa n := by
  intro h
  unfold Lib.itoa at h
  have key : ∀ u, c ∈ Lib.decDigits u → False := fun u hu => by
    have := digits_in u u (Nat.le_refl _) c hu
    rcases hc with rfl | rfl <;> simp at this
  split at h
  · rcases List.mem_cons.1 h with e | h
    · rcases hc with rfl | rfl <;> simp at e
    · exact key _ h
  · exact key _ h
theorem jt_no10 : ∀ l : List Int, (10 : UInt8) ∉ jt l
  | [] => by simp [jt]
  | h :: l => by
    rw [jt]
    simp only [List.mem_cons, List.mem_append, not_or]
    exact ⟨by decide, itoa_no (.inl rfl), jt_no10 l⟩
theorem jn_no10 (l : List Int) : (10 : UInt8) ∉ jn l := by
  cases l with
  | nil => simp [jn]
  | cons h l =>
    rw [jn]
    simp only [List.mem_append, not_or]
    exact ⟨itoa_no (.inl rfl), jt_no10 l⟩
theorem cut_words : ∀ (l : List Int) (h : Int), cut 32 (Lib.itoa h ++ jt l) = Lib.itoa h :: l.map Lib.itoa
  | [], h => by rw [jt, List.append_nil, cut, cutG_none _ _ _ (itoa_no (.inr rfl))]; rfl
  | x :: l, h => by rw [jt, cut, cutG_some _ _ _ _ (itoa_no (.inr rfl)), ← cut, cut_words l x]; rfl
theorem numsL_map : ∀ l : List Int, (∀ x ∈ l, -999999999 ≤ x ∧ x ≤ 999999999) → numsL (l.map Lib.itoa) = some l
  | [], _ => rfl
  | x :: l, h => by
    rw [List.map_cons, numsL, numOf_iff.2 ⟨rfl, h x (by simp)⟩, numsL_map l (fun y hy => h y (by simp [hy]))]
theorem nums_jn {l : List Int} (hl : l ≠ []) (h : ∀ x ∈ l, -999999999 ≤ x ∧ x ≤ 999999999) : numsOf (jn l) = some l := by
  cases l with
  | nil => exact absurd rfl hl
  | cons x l => rw [numsOf, jn, cut_words, ← List.map_cons]; exact numsL_map _ h
theorem cut_lines : ∀ (rows : List (List UInt8)) (x : List UInt8), (10 : UInt8) ∉ x → (∀ r ∈ rows, (10 : UInt8) ∉ r) → cut 10 (x ++ (rows.flatMap (fun r => 10 :: r) ++ [10])) = (x :: rows) ++ [[]]
  | [], x, hx, _ => by
    rw [List.flatMap_nil, List.nil_append, cut, cutG_some _ _ _ _ hx]; rfl
  | r :: rows, x, hx, h => by
    rw [List.flatMap_cons, List.cons_append, List.cons_append, cut, cutG_some _ _ _ _ hx, List.append_assoc, ← cut, cut_lines rows r (h r (by simp)) (fun y hy => h y (by simp [hy]))]; rfl
def rowsOf (W : Nat) : Nat → List Int → List (List UInt8)
  | 0, _ => []
  | k + 1, L => jn (L.take W) :: rowsOf W k (L.drop W)
theorem rowsOf_len (W : Nat) : ∀ (k : Nat) (L : List Int), (rowsOf W k L).length = k
  | 0, _ => rfl
  | k + 1, L => by rw [rowsOf, List.length_cons, rowsOf_len W k]
theorem rowsOf_no (W : Nat) : ∀ (k : Nat) (L : List Int), ∀ r ∈ rowsOf W k L, (10 : UInt8) ∉ r
  | 0, _, r, h => by simp [rowsOf] at h
  | k + 1, L, r, h => by
    rw [rowsOf] at h
    rcases List.mem_cons.1 h with rfl | h
    · exact jn_no10 _
    · exact rowsOf_no W k _ r h
theorem bdy_tail (W i : Nat) (hi : i % W = 0) (rest : List Int) : ∀ (l : List Int) (t : Nat), 1 ≤ t → t + l.length ≤ W → bdy W (i + t) (l ++ rest) = jt l ++ bdy W (i + t + l.length) rest
  | [], t, _, _ => by simp [jt]
  | x :: l, t, h1, h2 => by
    simp only [List.length_cons] at h2
    have hm : (i + t) % W = t := by
      rw [Nat.add_mod, hi, Nat.zero_add, Nat.mod_mod, Nat.mod_eq_of_lt (by omega)]
    rw [List.cons_append, bdy, hm, if_neg (by omega), show i + t + 1 = i + (t + 1) by omega, bdy_tail W i hi rest l (t + 1) (by omega) (by omega), jt]
    simp [Nat.add_assoc, Nat.add_comm 1]
theorem bdy_row (W i : Nat) (hi : i % W = 0) (hW : 1 ≤ W) (row rest : List Int) (hr : row.length = W) : bdy W i (row ++ rest) = 10 :: (jn row ++ bdy W (i + W) rest) := by
  cases row with
  | nil => simp at hr; omega
  | cons x l =>
    simp only [List.length_cons] at hr
    rw [List.cons_append, bdy, if_pos hi, bdy_tail W i hi rest l 1 (by omega) (by omega), jn]
    rw [show i + 1 + l.length = i + W by omega]; simp
theorem bdy_rows (W : Nat) (hW : 1 ≤ W) : ∀ (k i : Nat) (L : List Int), i % W = 0 → L.length = k * W → bdy W i L = (rowsOf W k L).flatMap fun r => 10 :: r
  | 0, i, L, _, hl => by
    have : L = [] := List.eq_nil_of_length_eq_zero (by omega)
    subst this; rfl
  | k + 1, i, L, hi, hl => by
    rw [Nat.succ_mul] at hl
    have h := bdy_row W i hi hW (L.take W) (L.drop W) (by rw [List.length_take]; omega)
    rw [List.take_append_drop] at h
    rw [h, bdy_rows W hW k (i + W) (L.drop W) (by rw [Nat.add_mod_right]; exact hi) (by rw [List.length_drop]; omega), rowsOf, List.flatMap_cons]; rfl
theorem rws_rows (W : Nat) (hW : 1 ≤ W) : ∀ (k : Nat) (pre : List (List UInt8)) (L acc : List Int), L.length = k * W → (∀ x ∈ L, -999999999 ≤ x ∧ x ≤ 999999999) → rws (pre ++ (rowsOf W k L ++ [[]])) W k pre.length acc = (0, acc ++ L)
  | 0, pre, L, acc, hl, _ => by
    have : L = [] := List.eq_nil_of_length_eq_zero (by omega)
    subst this; simp [rws]
  | k + 1, pre, L, acc, hl, h => by
    rw [Nat.succ_mul] at hl
    have htl : (L.take W).length = W := by rw [List.length_take]; omega
    have hn : numsOf (jn (L.take W)) = some (L.take W) := nums_jn (fun e => by rw [e] at htl; simp at htl; omega) (fun x hx => h x (List.mem_of_mem_take hx))
    rw [rws_step _ _ _ _ _ (L.take W) (by rw [rowsOf]; simp [rowsOf_len]) (by rw [rowsOf]; simp [List.getD, hn]) (by rw [List.length_take]; omega)]
    have := rws_rows W hW k (pre ++ [jn (L.take W)]) (L.drop W) (acc ++ L.take W) (by rw [List.length_drop]; omega) (fun x hx => h x (List.mem_of_mem_drop hx))
    rw [rowsOf]
    simp only [List.append_assoc, List.length_append, List.length_cons, List.length_nil, List.take_append_drop] at this
    simpa using this
theorem read_text {a : Ras} (hv : rerr a = 0) (hs : (txt a).length ≤ 200000) : rdQ (txt a) = ((0, -1), a) := by
  have hv0 := hv
  obtain ⟨w, h, L⟩ := a
  unfold rerr at hv
  simp only at hv
  split at hv
  · omega
  split at hv
  · omega
  split at hv
  · omega
  rename_i h1 h2 h3
  have hL : L.length = h.toNat * w.toNat := by
    have e : (L.length : Int) = w * h := by omega
    have : ((h.toNat * w.toNat : Nat) : Int) = w * h := by
      push_cast
      rw [show ((h.toNat : Nat) : Int) = h by omega, show ((w.toNat : Nat) : Int) = w by omega, Int.mul_comm]
    omega
  have hb : ∀ x ∈ L, -999999999 ≤ x ∧ x ≤ 999999999 := by
    intro x hx
    have : bigB x = false := by
      cases hq : bigB x with
      | false => rfl
      | true => exact absurd (List.any_eq_true.2 ⟨x, hx, hq⟩) h3
    unfold bigB at this
    simp only [Bool.or_eq_false_iff, decide_eq_false_iff_not] at this
    omega
  have hjn : Lib.itoa w ++ (32 :: Lib.itoa h) = jn [w, h] := by simp [jn, jt]
  have hc : cut 10 (txt (w, h, L)) = (jn [w, h] :: rowsOf w.toNat h.toNat L) ++ [[]] := by
    unfold txt
    simp only
    rw [hjn, bdy_rows w.toNat (by omega) h.toNat 0 L (Nat.zero_mod _) hL, List.append_assoc]
    exact cut_lines _ _ (jn_no10 _) (rowsOf_no _ _ _)
  have hl := rowsOf_len w.toNat h.toNat L
  have hd : hdQ (cut 10 (txt (w, h, L))) = some (w, h) := by
    refine hdQ_some ?_ ?_ (by omega) (by omega) (by omega) (by omega)
    · rw [hc]
      exact nums_jn (l := [w, h]) (by simp) (by intro x hx; simp only [List.mem_cons, List.not_mem_nil, or_false] at hx; omega)
    · rw [hc]; simp
  have hr : rws (cut 10 (txt (w, h, L))) w h.toNat 1 [] = (0, L) := by
    rw [hc]
    have := rws_rows w.toNat (by omega) h.toNat [jn [w, h]] L [] hL hb
    rw [show ((w.toNat : Nat) : Int) = w by omega] at this
    exact this
  unfold rdQ
  rw [if_neg (by omega), hd]
  simp only
  rw [hr]
  simp only
  have e1 : (cut 10 (txt (w, h, L))).length = h.toNat + 2 := by rw [hc]; simp [hl]
  have e2 : (cut 10 (txt (w, h, L))).getD ((cut 10 (txt (w, h, L))).length - 1) [] = [] := by
    rw [e1, hc]
    have hi : (jn [w, h] :: rowsOf w.toNat h.toNat L).length = h.toNat + 1 := by simp [hl]
    rw [show h.toNat + 2 - 1 = (jn [w, h] :: rowsOf w.toNat h.toNat L).length by omega]
    simp [List.getD]
  rw [if_neg (fun q => by rcases q with q | q; (rw [e1] at q; omega); exact q e2), if_pos hv0]
end Go.Proofs.YtgjjooophigkoaaGreatDoor.Tx
/-
  DERIVED: THE SHELF's CONTRACTS AT THIS DUMP, IN PLAIN WORDS (tools/lay-plain.mjs out of 'TryzShelfP.lean', which tools/lay-shelf.mjs wrote): THE SAME DECLARATIONS UNDER THE SAME NAMES: 'import', 'namespace', 'open', 'def', 'theorem' AND NOTHING ELSE: no command of the shelf's: FOR A HAND-IN. Each laying: the table of numbers ('.._ren') and one theorem, a field a fact of the dump's own or the kernel's comparison; each contract: ONE APPLICATION.
-/
namespace Go.Proofs
open Go.Shelf
def Tryz.lays169_ren : Go.Shelf.Ren := ⟨fun | 169 => 47 | n => n, fun | 70 => 97 | 9 => 9 | 0 => 0 | 72 => 100 | 37 => 98 | 127 => 159 | 3 => 3 | 5 => 5 | n => n, fun | n => n⟩
theorem Tryz.lays169 : Go.Proofs.Lays.n169 Tryz.prog Tryz.lays169_ren := {
  mixed := by kernel_rfl
  f169 := Tryz.func47.trans (congrArg some (by kernel_rfl))
  t0 := Tryz.underlying0
  a0 := Tryz.isAgg0
  z0 := Tryz.sizeOf0
  v0 := Tryz.zeroValue0
  t3 := Tryz.underlying3
  a3 := Tryz.isAgg3
  z3 := Tryz.sizeOf3
  v3 := Tryz.zeroValue3
  t9 := Tryz.underlying9
  a9 := Tryz.isAgg9
  z9 := Tryz.sizeOf9
  v9 := Tryz.zeroValue9
  t37 := Tryz.underlying98
  a37 := Tryz.isAgg98
  z37 := Tryz.sizeOf98
  v37 := Tryz.zeroValue98
  t70 := Tryz.underlying97
  a70 := Tryz.isAgg97
  z70 := Tryz.sizeOf97
  v70 := Tryz.zeroValue97
  t72 := Tryz.underlying100
  a72 := Tryz.isAgg100
  z72 := Tryz.sizeOf100
  v72 := Tryz.zeroValue100
  t127 := Tryz.underlying159
  a127 := Tryz.isAgg159
  z127 := Tryz.sizeOf159
  v127 := Tryz.zeroValue159 }
theorem Tryz.Builder_Extra_169 : Builder.Extra Tryz.prog Tryz.lays169_ren := {
  sizeBuilder := by kernel_rfl
  liesBuilder := by kernel_rfl
  t5 := Tryz.underlying5
  a5 := Tryz.isAgg5
  z5 := Tryz.sizeOf5
  v5 := Tryz.zeroValue5
  infoByte := by kernel_rfl
  cellsByte := by kernel_rfl
  sizeByte := by kernel_rfl
  neB5 := by decide }
open Go.RowKit in
/-- (*strings.Builder).String: "String returns the accumulated string.": OF A BUILDER THAT HOLDS AT LEAST ONE BYTE. ✋ THE MODEL FREEZES THOSE BYTES IN THE BUFFER (unsafe.String): a later write INTO them ends the model's run without an answer; a later append BEHIND them goes on. The statement's order of evaluation is drawn: one draw. (LAID: no walk: one application.) -/
theorem Tryz.Builder_String (B b : Nat) (l : List UInt8) (w : World) (h : Lib.IsBuilder 100 5 B b (Lib.byteCells l) w) (h0 : l ≠ []) :
    Calls Tryz.prog 47 #[.pointer (some ⟨b, 0, none⟩)] w fun e w' => e = .returned (.string ⟨l.toArray⟩) ∧ Below B w w' := Any.Builder_String Tryz.lays169 Tryz.Builder_Extra_169 B b l w h h0
def Tryz.laysM171_ren : Go.Shelf.Ren := ⟨fun | 171 => 44 | 243 => 95 | 246 => 128 | 283 => 160 | 284 => 161 | 285 => 162 | 286 => 163 | 129 => 119 | 317 => 186 | 318 => 187 | 319 => 188 | 320 => 189 | 337 => 202 | 338 => 203 | n => n, fun | 3 => 3 | 9 => 9 | 2 => 2 | 4 => 4 | 171 => 235 | 0 => 0 | 53 => 80 | 37 => 98 | 5 => 5 | 173 => 237 | 212 => 267 | 51 => 83 | 20 => 20 | 213 => 268 | 46 => 140 | 232 => 296 | 233 => 297 | n => n, fun | 17 => 9 | 18 => 15 | 19 => 16 | n => n⟩
theorem Tryz.laysM171 : Go.Proofs.LaysM.n171 Tryz.prog Tryz.laysM171_ren := {
  mixed := by kernel_rfl
  f129 := Tryz.func119.trans (congrArg some (by kernel_rfl))
  f171 := Tryz.func44.trans (congrArg some (by kernel_rfl))
  f243 := Tryz.func95.trans (congrArg some (by kernel_rfl))
  f246 := Tryz.func128.trans (congrArg some (by kernel_rfl))
  f283 := Tryz.func160.trans (congrArg some (by kernel_rfl))
  f284 := Tryz.func161.trans (congrArg some (by kernel_rfl))
  f285 := Tryz.func162.trans (congrArg some (by kernel_rfl))
  f286 := Tryz.func163.trans (congrArg some (by kernel_rfl))
  f317 := Tryz.func186.trans (congrArg some (by kernel_rfl))
  f318 := Tryz.func187.trans (congrArg some (by kernel_rfl))
  f319 := Tryz.func188.trans (congrArg some (by kernel_rfl))
  f320 := Tryz.func189.trans (congrArg some (by kernel_rfl))
  f337 := Tryz.func202.trans (congrArg some (by kernel_rfl))
  f338 := Tryz.func203.trans (congrArg some (by kernel_rfl))
  t0 := Tryz.underlying0
  a0 := Tryz.isAgg0
  z0 := Tryz.sizeOf0
  v0 := Tryz.zeroValue0
  t2 := Tryz.underlying2
  a2 := Tryz.isAgg2
  z2 := Tryz.sizeOf2
  v2 := Tryz.zeroValue2
  t3 := Tryz.underlying3
  a3 := Tryz.isAgg3
  z3 := Tryz.sizeOf3
  v3 := Tryz.zeroValue3
  t4 := Tryz.underlying4
  a4 := Tryz.isAgg4
  z4 := Tryz.sizeOf4
  v4 := Tryz.zeroValue4
  t5 := Tryz.underlying5
  a5 := Tryz.isAgg5
  z5 := Tryz.sizeOf5
  v5 := Tryz.zeroValue5
  t9 := Tryz.underlying9
  a9 := Tryz.isAgg9
  z9 := Tryz.sizeOf9
  v9 := Tryz.zeroValue9
  t20 := Tryz.underlying20
  a20 := Tryz.isAgg20
  z20 := Tryz.sizeOf20
  v20 := Tryz.zeroValue20
  t37 := Tryz.underlying98
  a37 := Tryz.isAgg98
  z37 := Tryz.sizeOf98
  v37 := Tryz.zeroValue98
  t46 := Tryz.underlying140
  a46 := Tryz.isAgg140
  z46 := Tryz.sizeOf140
  v46 := Tryz.zeroValue140
  t51 := Tryz.underlying83
  a51 := Tryz.isAgg83
  z51 := Tryz.sizeOf83
  v51 := Tryz.zeroValue83
  t53 := Tryz.underlying80
  a53 := Tryz.isAgg80
  z53 := Tryz.sizeOf80
  v53 := Tryz.zeroValue80
  t171 := Tryz.underlying235
  a171 := Tryz.isAgg235
  z171 := Tryz.sizeOf235
  v171 := Tryz.zeroValue235
  t173 := Tryz.underlying237
  a173 := Tryz.isAgg237
  z173 := Tryz.sizeOf237
  v173 := Tryz.zeroValue237
  t212 := Tryz.underlying267
  a212 := Tryz.isAgg267
  z212 := Tryz.sizeOf267
  v212 := Tryz.zeroValue267
  t213 := Tryz.underlying268
  a213 := Tryz.isAgg268
  z213 := Tryz.sizeOf268
  t232 := Tryz.underlying296
  a232 := Tryz.isAgg296
  z232 := Tryz.sizeOf296
  v232 := Tryz.zeroValue296
  t233 := Tryz.underlying297
  a233 := Tryz.isAgg297
  z233 := Tryz.sizeOf297
  v233 := Tryz.zeroValue297
  g17 := by kernel_rfl
  g18 := by kernel_rfl
  g19 := by kernel_rfl
  i0 := by kernel_rfl
  i2 := by kernel_rfl
  i3 := by kernel_rfl
  i4 := by kernel_rfl
  i5 := by kernel_rfl
  i9 := by kernel_rfl
  i20 := by kernel_rfl
  i37 := by kernel_rfl
  i46 := by kernel_rfl
  i51 := by kernel_rfl
  i53 := by kernel_rfl
  i171 := by kernel_rfl
  i173 := by kernel_rfl
  i212 := by kernel_rfl
  i232 := by kernel_rfl
  i233 := by kernel_rfl
  m17 := by kernel_rfl
  m18 := by kernel_rfl
  m19 := by kernel_rfl }
open Go.RowKit Go.Sort Go.Lib in
/-- strconv.Itoa: "Itoa is equivalent to FormatInt(int64(i), 10).": i's DECIMAL NUMERAL ('Lib.itoa': a '-' where i is negative, then the digits), FOR EVERY int. The world behind the call: the world before it, new blocks behind the heap (the library's 'var a [24]byte'), draws. (LAID: no walk: one application.) -/
theorem Tryz.strconv_Itoa (n : Int) (h0 : -9223372036854775808 ≤ n) (h1 : n ≤ 9223372036854775807) (w : World) (htab : Lib.TabIs Tryz.prog w "internal/strconv.uint64pow10" .u64 Lib.pow10Tab) :
    Calls Tryz.prog 44 #[.int .i64 n] w fun e w' => e = .returned (.string ⟨(Lib.itoa n).toArray⟩) ∧ ∃ k os, w' = grow (w.drewN k) os := Any.strconv_Itoa Tryz.laysM171 n h0 h1 w htab
def Tryz.laysC172_ren : Go.Shelf.Ren := ⟨fun | 172 => 97 | 244 => 132 | 245 => 133 | 247 => 168 | 279 => 169 | 280 => 170 | 281 => 171 | 282 => 172 | 287 => 195 | 316 => 196 | 171 => 44 | 205 => 197 | 321 => 206 | 322 => 207 | 243 => 95 | 246 => 128 | 283 => 160 | 284 => 161 | 285 => 162 | 286 => 163 | 129 => 119 | 317 => 186 | 318 => 187 | 319 => 188 | 320 => 189 | 337 => 202 | 338 => 203 | n => n, fun | 9 => 9 | 3 => 3 | 75 => 27 | 76 => 101 | 4 => 4 | 5 => 5 | 167 => 243 | 37 => 98 | 0 => 0 | 85 => 244 | 2 => 2 | 168 => 246 | 53 => 80 | 175 => 269 | 46 => 140 | 210 => 273 | 127 => 159 | 145 => 295 | 143 => 293 | 21 => 21 | 171 => 235 | 173 => 237 | 212 => 267 | 51 => 83 | 20 => 20 | 213 => 268 | 232 => 296 | 233 => 297 | 80 => 106 | n => n, fun | 15 => 11 | 16 => 12 | 17 => 9 | 18 => 15 | 19 => 16 | n => n⟩
theorem Tryz.laysC172 : Go.Proofs.LaysC.n172 Tryz.prog Tryz.laysC172_ren := {
  mixed := by kernel_rfl
  f129 := Tryz.func119.trans (congrArg some (by kernel_rfl))
  f171 := Tryz.func44.trans (congrArg some (by kernel_rfl))
  f172 := Tryz.func97.trans (congrArg some (by kernel_rfl))
  f205 := Tryz.func197.trans (congrArg some (by kernel_rfl))
  f243 := Tryz.func95.trans (congrArg some (by kernel_rfl))
  f244 := Tryz.func132.trans (congrArg some (by kernel_rfl))
  f245 := Tryz.func133.trans (congrArg some (by kernel_rfl))
  f246 := Tryz.func128.trans (congrArg some (by kernel_rfl))
  f247 := Tryz.func168.trans (congrArg some (by kernel_rfl))
  f279 := Tryz.func169.trans (congrArg some (by kernel_rfl))
  f280 := Tryz.func170.trans (congrArg some (by kernel_rfl))
  f281 := Tryz.func171.trans (congrArg some (by kernel_rfl))
  f282 := Tryz.func172.trans (congrArg some (by kernel_rfl))
  f283 := Tryz.func160.trans (congrArg some (by kernel_rfl))
  f284 := Tryz.func161.trans (congrArg some (by kernel_rfl))
  f285 := Tryz.func162.trans (congrArg some (by kernel_rfl))
  f286 := Tryz.func163.trans (congrArg some (by kernel_rfl))
  f287 := Tryz.func195.trans (congrArg some (by kernel_rfl))
  f316 := Tryz.func196.trans (congrArg some (by kernel_rfl))
  f317 := Tryz.func186.trans (congrArg some (by kernel_rfl))
  f318 := Tryz.func187.trans (congrArg some (by kernel_rfl))
  f319 := Tryz.func188.trans (congrArg some (by kernel_rfl))
  f320 := Tryz.func189.trans (congrArg some (by kernel_rfl))
  f321 := Tryz.func206.trans (congrArg some (by kernel_rfl))
  f322 := Tryz.func207.trans (congrArg some (by kernel_rfl))
  f337 := Tryz.func202.trans (congrArg some (by kernel_rfl))
  f338 := Tryz.func203.trans (congrArg some (by kernel_rfl))
  t0 := Tryz.underlying0
  a0 := Tryz.isAgg0
  z0 := Tryz.sizeOf0
  v0 := Tryz.zeroValue0
  t2 := Tryz.underlying2
  a2 := Tryz.isAgg2
  z2 := Tryz.sizeOf2
  v2 := Tryz.zeroValue2
  t3 := Tryz.underlying3
  a3 := Tryz.isAgg3
  z3 := Tryz.sizeOf3
  v3 := Tryz.zeroValue3
  t4 := Tryz.underlying4
  a4 := Tryz.isAgg4
  z4 := Tryz.sizeOf4
  v4 := Tryz.zeroValue4
  t5 := Tryz.underlying5
  a5 := Tryz.isAgg5
  z5 := Tryz.sizeOf5
  v5 := Tryz.zeroValue5
  t9 := Tryz.underlying9
  a9 := Tryz.isAgg9
  z9 := Tryz.sizeOf9
  v9 := Tryz.zeroValue9
  t20 := Tryz.underlying20
  a20 := Tryz.isAgg20
  z20 := Tryz.sizeOf20
  v20 := Tryz.zeroValue20
  t21 := Tryz.underlying21
  a21 := Tryz.isAgg21
  z21 := Tryz.sizeOf21
  v21 := Tryz.zeroValue21
  t37 := Tryz.underlying98
  a37 := Tryz.isAgg98
  z37 := Tryz.sizeOf98
  v37 := Tryz.zeroValue98
  t46 := Tryz.underlying140
  a46 := Tryz.isAgg140
  z46 := Tryz.sizeOf140
  v46 := Tryz.zeroValue140
  t51 := Tryz.underlying83
  a51 := Tryz.isAgg83
  z51 := Tryz.sizeOf83
  v51 := Tryz.zeroValue83
  t53 := Tryz.underlying80
  a53 := Tryz.isAgg80
  z53 := Tryz.sizeOf80
  v53 := Tryz.zeroValue80
  t75 := Tryz.underlying27
  a75 := Tryz.isAgg27
  z75 := Tryz.sizeOf27
  v75 := Tryz.zeroValue27
  t76 := Tryz.underlying101
  a76 := Tryz.isAgg101
  z76 := Tryz.sizeOf101
  v76 := Tryz.zeroValue101
  t85 := Tryz.underlying244
  a85 := Tryz.isAgg244
  z85 := Tryz.sizeOf244
  v85 := Tryz.zeroValue244
  t127 := Tryz.underlying159
  a127 := Tryz.isAgg159
  z127 := Tryz.sizeOf159
  v127 := Tryz.zeroValue159
  t143 := Tryz.underlying293
  a143 := Tryz.isAgg293
  z143 := Tryz.sizeOf293
  v143 := Tryz.zeroValue293
  t145 := Tryz.underlying295
  a145 := Tryz.isAgg295
  z145 := Tryz.sizeOf295
  v145 := Tryz.zeroValue295
  t167 := Tryz.underlying243
  a167 := Tryz.isAgg243
  z167 := Tryz.sizeOf243
  v167 := Tryz.zeroValue243
  t168 := Tryz.underlying246
  a168 := Tryz.isAgg246
  z168 := Tryz.sizeOf246
  v168 := Tryz.zeroValue246
  t171 := Tryz.underlying235
  a171 := Tryz.isAgg235
  z171 := Tryz.sizeOf235
  v171 := Tryz.zeroValue235
  t173 := Tryz.underlying237
  a173 := Tryz.isAgg237
  z173 := Tryz.sizeOf237
  v173 := Tryz.zeroValue237
  t175 := Tryz.underlying269
  a175 := Tryz.isAgg269
  z175 := Tryz.sizeOf269
  v175 := Tryz.zeroValue269
  t210 := Tryz.underlying273
  a210 := Tryz.isAgg273
  z210 := Tryz.sizeOf273
  v210 := Tryz.zeroValue273
  t212 := Tryz.underlying267
  a212 := Tryz.isAgg267
  z212 := Tryz.sizeOf267
  v212 := Tryz.zeroValue267
  t213 := Tryz.underlying268
  a213 := Tryz.isAgg268
  z213 := Tryz.sizeOf268
  t232 := Tryz.underlying296
  a232 := Tryz.isAgg296
  z232 := Tryz.sizeOf296
  v232 := Tryz.zeroValue296
  t233 := Tryz.underlying297
  a233 := Tryz.isAgg297
  z233 := Tryz.sizeOf297
  v233 := Tryz.zeroValue297
  g15 := by kernel_rfl
  g16 := by kernel_rfl
  g17 := by kernel_rfl
  g18 := by kernel_rfl
  g19 := by kernel_rfl
  t80 := Tryz.underlying106
  a80 := Tryz.isAgg106
  z80 := Tryz.sizeOf106
  v80 := Tryz.zeroValue106
  i0 := by kernel_rfl
  i2 := by kernel_rfl
  i3 := by kernel_rfl
  i4 := by kernel_rfl
  i5 := by kernel_rfl
  i9 := by kernel_rfl
  i20 := by kernel_rfl
  i21 := by kernel_rfl
  i37 := by kernel_rfl
  i46 := by kernel_rfl
  i51 := by kernel_rfl
  i53 := by kernel_rfl
  i75 := by kernel_rfl
  i76 := by kernel_rfl
  i80 := by kernel_rfl
  i85 := by kernel_rfl
  i127 := by kernel_rfl
  i143 := by kernel_rfl
  i145 := by kernel_rfl
  i167 := by kernel_rfl
  i168 := by kernel_rfl
  i171 := by kernel_rfl
  i173 := by kernel_rfl
  i175 := by kernel_rfl
  i210 := by kernel_rfl
  i212 := by kernel_rfl
  i232 := by kernel_rfl
  i233 := by kernel_rfl
  m15 := by kernel_rfl
  m16 := by kernel_rfl
  m17 := by kernel_rfl
  m18 := by kernel_rfl
  m19 := by kernel_rfl
  c0 := by kernel_rfl
  c2 := by kernel_rfl
  c3 := by kernel_rfl
  c4 := by kernel_rfl
  c5 := by kernel_rfl
  c9 := by kernel_rfl
  c20 := by kernel_rfl
  c21 := by kernel_rfl
  c37 := by kernel_rfl
  c46 := by kernel_rfl
  c51 := by kernel_rfl
  c53 := by kernel_rfl
  c75 := by kernel_rfl
  c76 := by kernel_rfl
  c80 := by kernel_rfl
  c85 := by kernel_rfl
  c127 := by kernel_rfl
  c143 := by kernel_rfl
  c145 := by kernel_rfl
  c167 := by kernel_rfl
  c168 := by kernel_rfl
  c171 := by kernel_rfl
  c173 := by kernel_rfl
  c175 := by kernel_rfl
  c210 := by kernel_rfl
  c212 := by kernel_rfl
  c213 := by kernel_rfl
  c232 := by kernel_rfl
  c233 := by kernel_rfl }
open Go.RowKit in
/-- strconv.Atoi, AT EVERY STRING THAT SPELLS AN int ('Lib.atoiAll .. = .ok v'; of whatever length: leading zeros count): v, AND NO ERROR. The world: as it was, or with the one new row that '[]byte(..)' lays. (LAID: no walk: one application.) -/
theorem Tryz.strconv_Atoi_ok (s : ByteArray) (hmax : s.size ≤ 9223372036854775806) (v : Int) (h : Lib.atoiAll s.data.toList = .ok v) (w : World) :
    Calls Tryz.prog 97 #[.string s] w fun e w' => e = .returned (.tuple #[.int .i64 v, .nilIface]) ∧ (w' = w ∨ ∃ t, w' = Lib.bytesWorld w 5 t) := Any.strconv_Atoi_ok Tryz.laysC172 s hmax v h w
open Go.RowKit in
/-- strconv.Atoi, AT EVERY STRING THAT IS NO DECIMAL NUMERAL ('.syntax'): 0, AND AN ERROR THAT IS NOT nil: a *NumError in a new block N: {Func: "Atoi", Num: s's bytes, Err: what the variable ErrSyntax holds}. Of what was there nothing has turned. (LAID: no walk: one application.) -/
theorem Tryz.strconv_Atoi_syntax (s : ByteArray) (hlim : s.size ≤ 281474976710656) (h1 : ∀ v, Lib.atoiAll s.data.toList ≠ .ok v) (h2 : Lib.atoiAll s.data.toList ≠ .range) (ev : Value) (w : World) (hv : w.cell? ⟨11, 0, none⟩ = some ev) (hev : ev = .nilIface ∨ ∃ te pe, ev = .iface te pe) :
    Calls Tryz.prog 97 #[.string s] w fun e w' => ∃ N, e = .returned (.tuple #[.int .i64 (0), .iface 246 (.pointer (some ⟨N, 0, none⟩))]) ∧ w.heap.size ≤ N ∧ w'.heap[N]? = some (.cells #[.string ⟨#[65, 116, 111, 105]⟩, .string s, ev] 273 (0, 0)) ∧ Below w.heap.size w w' := Any.strconv_Atoi_syntax Tryz.laysC172 s hlim (by rcases hx : Lib.atoiAll s.data.toList with v | _ | _ <;> first | rfl | exact absurd hx (h1 _) | exact absurd hx h2) ev w hv hev
open Go.RowKit in
/-- strconv.Atoi, AT EVERY NUMERAL THAT NO int HOLDS ('.range'): THE GREATEST OR THE LEAST int, BY THE SIGN ('Lib.atoiSat'), AND AN ERROR THAT IS NOT nil: a *NumError in a new block N: {Func: "Atoi", Num: s's bytes, Err: what the variable ErrRange holds}. Of what was there nothing has turned. (LAID: no walk: one application.) -/
theorem Tryz.strconv_Atoi_range (s : ByteArray) (hlim : s.size ≤ 281474976710656) (h : Lib.atoiAll s.data.toList = .range) (ev : Value) (w : World) (hv : w.cell? ⟨12, 0, none⟩ = some ev) (hev : ev = .nilIface ∨ ∃ te pe, ev = .iface te pe) :
    Calls Tryz.prog 97 #[.string s] w fun e w' => ∃ N, e = .returned (.tuple #[.int .i64 (Lib.atoiSat s.data.toList), .iface 246 (.pointer (some ⟨N, 0, none⟩))]) ∧ w.heap.size ≤ N ∧ w'.heap[N]? = some (.cells #[.string ⟨#[65, 116, 111, 105]⟩, .string s, ev] 273 (0, 0)) ∧ Below w.heap.size w w' := Any.strconv_Atoi_range Tryz.laysC172 s hlim h ev w hv hev
def Tryz.lays101_ren : Go.Shelf.Ren := ⟨fun | 101 => 98 | 208 => 134 | 206 => 173 | n => n, fun | 9 => 9 | 4 => 4 | 3 => 3 | n => n, fun | n => n⟩
theorem Tryz.lays101 : Go.Proofs.Lays.n101 Tryz.prog Tryz.lays101_ren := {
  mixed := by kernel_rfl
  f101 := Tryz.func98.trans (congrArg some (by kernel_rfl))
  f206 := Tryz.func173.trans (congrArg some (by kernel_rfl))
  f208 := Tryz.func134.trans (congrArg some (by kernel_rfl))
  t3 := Tryz.underlying3
  a3 := Tryz.isAgg3
  z3 := Tryz.sizeOf3
  v3 := Tryz.zeroValue3
  t4 := Tryz.underlying4
  a4 := Tryz.isAgg4
  z4 := Tryz.sizeOf4
  v4 := Tryz.zeroValue4
  t9 := Tryz.underlying9
  a9 := Tryz.isAgg9
  z9 := Tryz.sizeOf9
  v9 := Tryz.zeroValue9 }
open Go.RowKit Go.Lib in
/-- strings.TrimPrefix: "TrimPrefix returns s without the provided leading prefix string. If s doesn't start with prefix, s is returned unchanged.": IT RETURNS 'Lib.trimPrefix s prefix'; the world is as it was. (LAID: no walk: one application.) -/
theorem Tryz.strings_TrimPrefix (s p : ByteArray) (w : World) :
    Calls Tryz.prog 98 #[.string s, .string p] w fun e w' => e = .returned (.string ⟨(Lib.trimPrefix s.data.toList p.data.toList).toArray⟩) ∧ w' = w := Any.strings_TrimPrefix Tryz.lays101 s p w
def Tryz.lays146_ren : Go.Shelf.Ren := ⟨fun | 146 => 51 | 221 => 96 | 268 => 129 | 138 => 130 | 143 => 131 | 195 => 164 | 197 => 165 | 218 => 166 | 219 => 167 | 260 => 190 | 217 => 191 | 225 => 192 | 224 => 193 | 267 => 194 | 266 => 204 | 314 => 205 | n => n, fun | 9 => 9 | 31 => 111 | 3 => 3 | 4 => 4 | 0 => 0 | 105 => 240 | 21 => 21 | 5 => 5 | 46 => 140 | 119 => 285 | 139 => 288 | 138 => 287 | 146 => 289 | 51 => 83 | n => n, fun | 1 => 10 | 3 => 13 | 4 => 14 | n => n⟩
theorem Tryz.lays146 : Go.Proofs.Lays.n146 Tryz.prog Tryz.lays146_ren := {
  mixed := by kernel_rfl
  f138 := Tryz.func130.trans (congrArg some (by kernel_rfl))
  f143 := Tryz.func131.trans (congrArg some (by kernel_rfl))
  f146 := Tryz.func51.trans (congrArg some (by kernel_rfl))
  f195 := Tryz.func164.trans (congrArg some (by kernel_rfl))
  f197 := Tryz.func165.trans (congrArg some (by kernel_rfl))
  f217 := Tryz.func191.trans (congrArg some (by kernel_rfl))
  f218 := Tryz.func166.trans (congrArg some (by kernel_rfl))
  f219 := Tryz.func167.trans (congrArg some (by kernel_rfl))
  f221 := Tryz.func96.trans (congrArg some (by kernel_rfl))
  f224 := Tryz.func193.trans (congrArg some (by kernel_rfl))
  f225 := Tryz.func192.trans (congrArg some (by kernel_rfl))
  f260 := Tryz.func190.trans (congrArg some (by kernel_rfl))
  f266 := Tryz.func204.trans (congrArg some (by kernel_rfl))
  f267 := Tryz.func194.trans (congrArg some (by kernel_rfl))
  f268 := Tryz.func129.trans (congrArg some (by kernel_rfl))
  f314 := Tryz.func205.trans (congrArg some (by kernel_rfl))
  t0 := Tryz.underlying0
  a0 := Tryz.isAgg0
  z0 := Tryz.sizeOf0
  v0 := Tryz.zeroValue0
  t3 := Tryz.underlying3
  a3 := Tryz.isAgg3
  z3 := Tryz.sizeOf3
  v3 := Tryz.zeroValue3
  t4 := Tryz.underlying4
  a4 := Tryz.isAgg4
  z4 := Tryz.sizeOf4
  v4 := Tryz.zeroValue4
  t5 := Tryz.underlying5
  a5 := Tryz.isAgg5
  z5 := Tryz.sizeOf5
  v5 := Tryz.zeroValue5
  t9 := Tryz.underlying9
  a9 := Tryz.isAgg9
  z9 := Tryz.sizeOf9
  v9 := Tryz.zeroValue9
  t21 := Tryz.underlying21
  a21 := Tryz.isAgg21
  z21 := Tryz.sizeOf21
  v21 := Tryz.zeroValue21
  t31 := Tryz.underlying111
  a31 := Tryz.isAgg111
  z31 := Tryz.sizeOf111
  v31 := Tryz.zeroValue111
  t46 := Tryz.underlying140
  a46 := Tryz.isAgg140
  z46 := Tryz.sizeOf140
  v46 := Tryz.zeroValue140
  t51 := Tryz.underlying83
  a51 := Tryz.isAgg83
  z51 := Tryz.sizeOf83
  v51 := Tryz.zeroValue83
  t105 := Tryz.underlying240
  a105 := Tryz.isAgg240
  z105 := Tryz.sizeOf240
  v105 := Tryz.zeroValue240
  t119 := Tryz.underlying285
  a119 := Tryz.isAgg285
  z119 := Tryz.sizeOf285
  t138 := Tryz.underlying287
  a138 := Tryz.isAgg287
  z138 := Tryz.sizeOf287
  v138 := Tryz.zeroValue287
  t139 := Tryz.underlying288
  a139 := Tryz.isAgg288
  z139 := Tryz.sizeOf288
  v139 := Tryz.zeroValue288
  t146 := Tryz.underlying289
  a146 := Tryz.isAgg289
  z146 := Tryz.sizeOf289
  v146 := Tryz.zeroValue289
  g1 := by kernel_rfl
  g3 := by kernel_rfl
  g4 := by kernel_rfl }
open Go.RowKit Go.Lib in
/-- strings.Split. (LAID: no walk: one application.) -/
theorem Tryz.strings_Split (s sep : ByteArray) (m : Int) (w : World) (hs : s.size < 4294967281) (hm : w.cell? ⟨10, 0, none⟩ = some (.int .i64 m)) (h1 : 1 ≤ sep.size) :
    Calls Tryz.prog 51 #[.string s, .string sep] w fun e w' =>
      e = .returned (.slice (some ⟨w.heap.size, 0, none⟩) (Lib.countB s sep + 1) (Lib.countB s sep + 1)) ∧ w' = w.alloc (.cells ((Lib.splitB sep 0 (Lib.countB s sep) s).map Value.string).toArray 9) := Any.strings_Split Tryz.lays146 (by kernel_rfl) s sep m w hs hm h1
def Tryz.laysM146_ren : Go.Shelf.Ren := ⟨fun | 146 => 51 | 221 => 96 | 268 => 129 | 138 => 130 | 143 => 131 | 195 => 164 | 197 => 165 | 218 => 166 | 219 => 167 | 260 => 190 | 217 => 191 | 225 => 192 | 224 => 193 | 267 => 194 | 266 => 204 | 314 => 205 | n => n, fun | 9 => 9 | 31 => 111 | 3 => 3 | 4 => 4 | 0 => 0 | 105 => 240 | 21 => 21 | 5 => 5 | 46 => 140 | 119 => 285 | 139 => 288 | 138 => 287 | 146 => 289 | 51 => 83 | n => n, fun | 1 => 10 | 3 => 13 | 4 => 14 | n => n⟩
theorem Tryz.laysM146 : Go.Proofs.LaysM.n146 Tryz.prog Tryz.laysM146_ren := {
  mixed := by kernel_rfl
  f138 := Tryz.func130.trans (congrArg some (by kernel_rfl))
  f143 := Tryz.func131.trans (congrArg some (by kernel_rfl))
  f146 := Tryz.func51.trans (congrArg some (by kernel_rfl))
  f195 := Tryz.func164.trans (congrArg some (by kernel_rfl))
  f197 := Tryz.func165.trans (congrArg some (by kernel_rfl))
  f217 := Tryz.func191.trans (congrArg some (by kernel_rfl))
  f218 := Tryz.func166.trans (congrArg some (by kernel_rfl))
  f219 := Tryz.func167.trans (congrArg some (by kernel_rfl))
  f221 := Tryz.func96.trans (congrArg some (by kernel_rfl))
  f224 := Tryz.func193.trans (congrArg some (by kernel_rfl))
  f225 := Tryz.func192.trans (congrArg some (by kernel_rfl))
  f260 := Tryz.func190.trans (congrArg some (by kernel_rfl))
  f266 := Tryz.func204.trans (congrArg some (by kernel_rfl))
  f267 := Tryz.func194.trans (congrArg some (by kernel_rfl))
  f268 := Tryz.func129.trans (congrArg some (by kernel_rfl))
  f314 := Tryz.func205.trans (congrArg some (by kernel_rfl))
  t0 := Tryz.underlying0
  a0 := Tryz.isAgg0
  z0 := Tryz.sizeOf0
  v0 := Tryz.zeroValue0
  t3 := Tryz.underlying3
  a3 := Tryz.isAgg3
  z3 := Tryz.sizeOf3
  v3 := Tryz.zeroValue3
  t4 := Tryz.underlying4
  a4 := Tryz.isAgg4
  z4 := Tryz.sizeOf4
  v4 := Tryz.zeroValue4
  t5 := Tryz.underlying5
  a5 := Tryz.isAgg5
  z5 := Tryz.sizeOf5
  v5 := Tryz.zeroValue5
  t9 := Tryz.underlying9
  a9 := Tryz.isAgg9
  z9 := Tryz.sizeOf9
  v9 := Tryz.zeroValue9
  t21 := Tryz.underlying21
  a21 := Tryz.isAgg21
  z21 := Tryz.sizeOf21
  v21 := Tryz.zeroValue21
  t31 := Tryz.underlying111
  a31 := Tryz.isAgg111
  z31 := Tryz.sizeOf111
  v31 := Tryz.zeroValue111
  t46 := Tryz.underlying140
  a46 := Tryz.isAgg140
  z46 := Tryz.sizeOf140
  v46 := Tryz.zeroValue140
  t51 := Tryz.underlying83
  a51 := Tryz.isAgg83
  z51 := Tryz.sizeOf83
  v51 := Tryz.zeroValue83
  t105 := Tryz.underlying240
  a105 := Tryz.isAgg240
  z105 := Tryz.sizeOf240
  v105 := Tryz.zeroValue240
  t119 := Tryz.underlying285
  a119 := Tryz.isAgg285
  z119 := Tryz.sizeOf285
  t138 := Tryz.underlying287
  a138 := Tryz.isAgg287
  z138 := Tryz.sizeOf287
  v138 := Tryz.zeroValue287
  t139 := Tryz.underlying288
  a139 := Tryz.isAgg288
  z139 := Tryz.sizeOf288
  v139 := Tryz.zeroValue288
  t146 := Tryz.underlying289
  a146 := Tryz.isAgg289
  z146 := Tryz.sizeOf289
  v146 := Tryz.zeroValue289
  g1 := by kernel_rfl
  g3 := by kernel_rfl
  g4 := by kernel_rfl
  i0 := by kernel_rfl
  i3 := by kernel_rfl
  i4 := by kernel_rfl
  i5 := by kernel_rfl
  i9 := by kernel_rfl
  i21 := by kernel_rfl
  i31 := by kernel_rfl
  i46 := by kernel_rfl
  i51 := by kernel_rfl
  i105 := by kernel_rfl
  i138 := by kernel_rfl
  i139 := by kernel_rfl
  i146 := by kernel_rfl
  m1 := by kernel_rfl
  s1_3 := fun w h => Go.Proofs.cell_of_shapedOpen_int (zero := #[.int .i64 0]) (t := 3) h (of_decide_eq_true (by kernel_rfl)) (by kernel_rfl) rfl (by kernel_rfl) (by kernel_rfl) Tryz.underlying3
  m3 := by kernel_rfl
  m4 := by kernel_rfl }
end Go.Proofs
/-
  errors.Is of two errors of errors.New's make.
-/
namespace Go.Proofs.YtgjjooophigkoaaGreatDoor.isK
open Go Go.RowKit Go.Extern.Stop Go.Stop Go.Extern
set_option maxRecDepth 100000
theorem typeOf (v : Value) (w : World) : (Extern.ReflectliteType.typeOf #[.iface 293 v]).run Tryz.prog w = .ok (.iface 221 (.agg #[.pointer (some ⟨17, 293, none⟩)])) w := by kernel_rfl
theorem comparable (w : World) : ((Extern.ReflectliteType.method fun t => do Extern.Rtype.noPackHeld "Comparable" t; (fun a => Value.bool a.comparable) <$> typeInfo t) #[.agg #[.pointer (some ⟨17, 293, none⟩)]]).run Tryz.prog w = .ok (.bool true) w := by kernel_rfl
theorem mComparable (v : Value) (w : World) : (Go.method 431 221 v "Comparable").run Tryz.prog w = .ok (240, v) w := by kernel_rfl
theorem comp : (Tryz.prog.info? 293).map (·.comparable) = some true := by kernel_rfl
theorem size : (Tryz.prog.info? 295).map (·.size) = some 1 := by kernel_rfl
theorem noIs (v : Value) (xT : TypeId) (w : World) : (Instr.typeAssert (.iface 293 v) xT 232 true).run Tryz.prog w = .ok (.tuple #[.nilIface, .bool false]) w := run_typeAssert_lacksB Tryz.underlying232 (by kernel_rfl) (by kernel_rfl) v xT w
theorem noUnwrap (v : Value) (xT : TypeId) (w : World) : (Instr.typeAssert (.iface 293 v) xT 228 true).run Tryz.prog w = .ok (.tuple #[.nilIface, .bool false]) w := run_typeAssert_lacksB Tryz.underlying228 (by kernel_rfl) (by kernel_rfl) v xT w
theorem noUnwraps (v : Value) (xT : TypeId) (w : World) : (Instr.typeAssert (.iface 293 v) xT 230 true).run Tryz.prog w = .ok (.tuple #[.nilIface, .bool false]) w := run_typeAssert_lacksB Tryz.underlying230 (by kernel_rfl) (by kernel_rfl) v xT w
/-- errors.Is(x, x), x a pointer to an errors.errorString. -/
theorem is_same (a : Addr) (w : World) :
    Calls Tryz.prog 91 #[.iface 293 (.pointer (some a)), .iface 293 (.pointer (some a))] w fun e w' => e = .returned (.bool true) ∧ w' = w := by
  obtain ⟨i, hi, hcmp⟩ := Option.map_eq_some_iff.1 comp
  obtain ⟨j, hj, hjs⟩ := Option.map_eq_some_iff.1 size
  have h8 := @run_callFunc_extern Tryz.prog 124 _ Extern.ReflectliteType.typeOf Tryz.func124 (by kernel_rfl) (by kernel_rfl) (by kernel_rfl) (by kernel_rfl)
  have h32 := @run_callFunc_extern Tryz.prog 240 _ (Extern.ReflectliteType.method fun t => do Extern.Rtype.noPackHeld "Comparable" t; pure (.bool (← typeInfo t).comparable)) Tryz.func240 (by kernel_rfl) (by kernel_rfl) (by kernel_rfl) (by kernel_rfl)
  have tT := typeOf
  have cT := comparable
  have mR := mComparable
  have heq := run_eql_iface_ptr_same (P := Tryz.prog) w a Tryz.underlying27 Tryz.underlying293 hi hcmp hj
  go_enter Tryz.func91, Tryz.ntmps91
  go_wp2
  refine wp_loop_rounds 1 ?_
  rw [rounds_succ]
  go_wp2
  go_ret
  exact ⟨rfl, rfl⟩
/-- errors.Is(x, y), two different pointers to errors.errorString. -/
theorem is_other (a b : Addr) (ca cb : Array Value) (ta tb : TypeId) (w : World) (hne : a ≠ b) (ha : w.heap[a.block]? = some (.cells ca ta (0, 0))) (hb : w.heap[b.block]? = some (.cells cb tb (0, 0))) :
    Calls Tryz.prog 91 #[.iface 293 (.pointer (some a)), .iface 293 (.pointer (some b))] w fun e w' => e = .returned (.bool false) ∧ w' = w := by
  obtain ⟨i, hi, hcmp⟩ := Option.map_eq_some_iff.1 comp
  obtain ⟨j, hj, hjs⟩ := Option.map_eq_some_iff.1 size
  have h8 := @run_callFunc_extern Tryz.prog 124 _ Extern.ReflectliteType.typeOf Tryz.func124 (by kernel_rfl) (by kernel_rfl) (by kernel_rfl) (by kernel_rfl)
  have h32 := @run_callFunc_extern Tryz.prog 240 _ (Extern.ReflectliteType.method fun t => do Extern.Rtype.noPackHeld "Comparable" t; pure (.bool (← typeInfo t).comparable)) Tryz.func240 (by kernel_rfl) (by kernel_rfl) (by kernel_rfl) (by kernel_rfl)
  have tT := typeOf
  have cT := comparable
  have mR := mComparable
  have nE := noIs
  have uE := noUnwrap
  have vE := noUnwraps
  have heq := run_eql_iface_ptr_other (P := Tryz.prog) w Tryz.underlying27 Tryz.underlying293 hi hcmp hj (by rw [hjs]; decide) hne ha hb
  go_enter Tryz.func91, Tryz.ntmps91
  go_wp2
  refine wp_loop_rounds 1 ?_
  rw [rounds_succ]
  go_wp2
  go_ret
  exact ⟨rfl, rfl⟩
end Go.Proofs.YtgjjooophigkoaaGreatDoor.isK
/-
  errors.As of an error of errors.New's make, asked for a *api.Fault: false; only new blocks are laid.
-/
namespace Go.Proofs.YtgjjooophigkoaaGreatDoor.asK
open Go Go.RowKit Go.Extern.Stop Go.Stop Go.Extern
set_option maxRecDepth 100000
theorem valueOfPP (t : Addr) (w : World) : (ReflectliteValue.unpack (.iface 155 (.pointer (some t)))).run Tryz.prog w
    = .ok (.agg #[.pointer (some ⟨17, 155, none⟩), .pointer (some ⟨w.heap.size, 0, none⟩), .int .u64 150]) (w.alloc (.cells #[.pointer (some t)] 155)) := by kernel_rfl
theorem typePP (a : Addr) (w : World) : (ReflectliteValue.methodAny (ReflectliteValue.valueError "reflectlite.Value.Type" 0) (fun t _ _ _ => ReflectliteType.toType t) #[.agg #[.pointer (some ⟨17, 155, none⟩), .pointer (some a), .int .u64 150]]).run Tryz.prog w
    = .ok (.iface 221 (.agg #[.pointer (some ⟨17, 155, none⟩)])) w := by kernel_rfl
theorem mKind (h : Value) (w : World) : (Go.method 431 221 (.agg #[h]) "Kind").run Tryz.prog w = .ok (222, h) w := by kernel_rfl
theorem kindPP (w : World) : ((ReflectliteType.abiMethod fun t => (fun a : Nat => Value.int IntKind.u8 (a : Int)) <$> Rtype.kind t) #[.pointer (some ⟨17, 155, none⟩)]).run Tryz.prog w = .ok (.int .u8 22) w := by kernel_rfl
theorem kindP (w : World) : ((ReflectliteType.abiMethod fun t => (fun a : Nat => Value.int IntKind.u8 (a : Int)) <$> Rtype.kind t) #[.pointer (some ⟨17, 107, none⟩)]).run Tryz.prog w = .ok (.int .u8 22) w := by kernel_rfl
theorem rlm (z : Sem Value) (f : TypeId → Addr → Nat → Nat → Sem Value) (v : Value) :
    ReflectliteValue.method z f #[v] = (do match ← ReflectliteValue.parts v with | none => z | some (t, a, fl) => f t a fl (fl % 32)) := rfl
theorem partsPP (a : Addr) (w : World) : (ReflectliteValue.parts (.agg #[.pointer (some ⟨17, 155, none⟩), .pointer (some a), .int .u64 150])).run Tryz.prog w = .ok (some (155, a, 150)) w := by kernel_rfl
theorem isNilPP (a p : Addr) (W : World) (ha : W.cell? a = some (.pointer (some p))) :
    (ReflectliteValue.method (ReflectliteValue.valueError "reflectlite.Value.IsNil" 0) ReflectliteValue.isNil #[.agg #[.pointer (some ⟨17, 155, none⟩), .pointer (some a), .int .u64 150]]).run Tryz.prog W = .ok (.bool false) W := by
  rw [rlm]
  simp only [Sem.run_bind, partsPP, Result.andThen]
  simp [ReflectliteValue.isNil, loadVar, isAgg, underlying, Tryz.underlying155, ha, Result.andThen]
theorem mElem (h : Value) (w : World) : (Go.method 431 221 (.agg #[h]) "Elem").run Tryz.prog w = .ok (241, .agg #[h]) w := by kernel_rfl
theorem mImplements (h : Value) (w : World) : (Go.method 431 221 (.agg #[h]) "Implements").run Tryz.prog w = .ok (242, .agg #[h]) w := by kernel_rfl
theorem mAssignableTo (h : Value) (w : World) : (Go.method 431 221 (.agg #[h]) "AssignableTo").run Tryz.prog w = .ok (239, .agg #[h]) w := by kernel_rfl
theorem elemPP (w : World) : (ReflectliteType.method ReflectliteType.elem #[.agg #[.pointer (some ⟨17, 155, none⟩)]]).run Tryz.prog w = .ok (.iface 221 (.agg #[.pointer (some ⟨17, 107, none⟩)])) w := by kernel_rfl
theorem implementsP (w : World) : (ReflectliteType.relation "Implements" ReflectliteType.implements_ #[.agg #[.pointer (some ⟨17, 107, none⟩)], .iface 221 (.agg #[.pointer (some ⟨17, 27, none⟩)])]).run Tryz.prog w = .ok (.bool true) w := by kernel_rfl
theorem typeOfE (v : Value) (w : World) : (ReflectliteType.typeOf #[.iface 293 v]).run Tryz.prog w = .ok (.iface 221 (.agg #[.pointer (some ⟨17, 293, none⟩)])) w := by kernel_rfl
theorem assignableE (w : World) : (ReflectliteType.relation "AssignableTo" ReflectliteType.assignableTo #[.agg #[.pointer (some ⟨17, 293, none⟩)], .iface 221 (.agg #[.pointer (some ⟨17, 107, none⟩)])]).run Tryz.prog w = .ok (.bool false) w := by kernel_rfl
theorem noAs (v : Value) (xT : TypeId) (w : World) : (Instr.typeAssert (.iface 293 v) xT 225 true).run Tryz.prog w = .ok (.tuple #[.nilIface, .bool false]) w := run_typeAssert_lacksB Tryz.underlying225 (by kernel_rfl) (by kernel_rfl) v xT w
/-- the handle of type error, as errors.errorType holds it -/
def errType : Value := .iface 221 (.agg #[.pointer (some ⟨17, 27, none⟩)])
set_option maxHeartbeats 4000000 in
theorem as_other (e t : Addr) (w : World) (hg : w.cell? ⟨8, 0, none⟩ = some (.iface 221 (.agg #[.pointer (some ⟨17, 27, none⟩)]))) :
    Calls Tryz.prog 90 #[.iface 293 (.pointer (some e)), .iface 155 (.pointer (some t))] w fun ev w' => ev = .returned (.bool false) ∧ w' = ((w.alloc (.cells #[.pointer (some t)] 155)).alloc (.cells #[.pointer (some ⟨17, 155, none⟩), .pointer (some ⟨w.heap.size, 0, none⟩), .int .u64 150] 183)).alloc (.cells #[.pointer (some ⟨17, 155, none⟩), .pointer (some ⟨w.heap.size, 0, none⟩), .int .u64 150] 183) := by
  have h6 := @run_callFunc_extern Tryz.prog 120 _ (fun args => ReflectliteValue.unpack (args.getD 0 (.tuple #[]))) Tryz.func120 (by kernel_rfl) (by kernel_rfl) (by kernel_rfl) (by kernel_rfl)
  have h7 := @run_callFunc_extern Tryz.prog 121 _ (ReflectliteValue.methodAny (ReflectliteValue.valueError "reflectlite.Value.Type" 0) (fun t _ _ _ => ReflectliteType.toType t)) Tryz.func121 (by kernel_rfl) (by kernel_rfl) (by kernel_rfl) (by kernel_rfl)
  have h8 := @run_callFunc_extern Tryz.prog 122 _ (ReflectliteValue.method (ReflectliteValue.valueError "reflectlite.Value.IsNil" 0) ReflectliteValue.isNil) Tryz.func122 (by kernel_rfl) (by kernel_rfl) (by kernel_rfl) (by kernel_rfl)
  have h27 := @run_callFunc_extern Tryz.prog 222 _ (ReflectliteType.abiMethod fun t => do pure (.int .u8 (← Rtype.kind t))) Tryz.func222 (by kernel_rfl) (by kernel_rfl) (by kernel_rfl) (by kernel_rfl)
  have h37 := @run_callFunc_extern Tryz.prog 241 _ (ReflectliteType.method ReflectliteType.elem) Tryz.func241 (by kernel_rfl) (by kernel_rfl) (by kernel_rfl) (by kernel_rfl)
  have h38 := @run_callFunc_extern Tryz.prog 242 _ (ReflectliteType.relation "Implements" ReflectliteType.implements_) Tryz.func242 (by kernel_rfl) (by kernel_rfl) (by kernel_rfl) (by kernel_rfl)
  have h10 := @run_callFunc_extern Tryz.prog 124 _ ReflectliteType.typeOf Tryz.func124 (by kernel_rfl) (by kernel_rfl) (by kernel_rfl) (by kernel_rfl)
  have h35 := @run_callFunc_extern Tryz.prog 239 _ (ReflectliteType.relation "AssignableTo" ReflectliteType.assignableTo) Tryz.func239 (by kernel_rfl) (by kernel_rfl) (by kernel_rfl) (by kernel_rfl)
  have tO := typeOfE
  have mA := mAssignableTo
  have aE := assignableE
  have f6 := valueOfPP
  have f7 := typePP
  have mK := mKind
  have mE := mElem
  have mI := mImplements
  have k27 := kindPP
  have k25 := kindP
  have e27 := elemPP
  have i25 := implementsP
  have nA := noAs
  have uE := isK.noUnwrap
  have vE := isK.noUnwraps
  have n8 := isNilPP ⟨w.heap.size, 0, none⟩ t ((w.alloc (.cells #[.pointer (some t)] 155)).alloc (.cells #[.pointer (some ⟨17, 155, none⟩), .pointer (some ⟨w.heap.size, 0, none⟩), .int .u64 150] 183)) (by simp)
  have hlt : 8 < w.heap.size := by
    rcases Nat.lt_or_ge 8 w.heap.size with h' | h'
    · exact h'
    · simp [World.cell?, Array.getElem?_eq_none h'] at hg
  have hg2 : ((w.alloc (.cells #[.pointer (some t)] 155)).alloc (.cells #[.pointer (some ⟨17, 155, none⟩), .pointer (some ⟨w.heap.size, 0, none⟩), .int .u64 150] 183)).cell? ⟨8, 0, none⟩ = some (.iface 221 (.agg #[.pointer (some ⟨17, 27, none⟩)])) := by
    rw [World.cell?_alloc_lt _ _ ⟨8, 0, none⟩ (by simp; omega), World.cell?_alloc_lt _ _ ⟨8, 0, none⟩ hlt]; exact hg
  go_enter Tryz.func90, Tryz.ntmps90
  go_wp2
  refine wp_loop_rounds 1 ?_
  rw [rounds_succ]
  go_wp2
  go_ret
  exact ⟨rfl, rfl⟩
end Go.Proofs.YtgjjooophigkoaaGreatDoor.asK
/-
  Contracts of functions that only lay new blocks, out of walks by hand.
-/
namespace Go.Ab
open Go Go.RowKit
theorem below_ext {c : Cx} (H : HR c) {w' : World} (hb : Below c.w.heap.size c.w w') : Ext c { c with w := w' } ∧ HR { c with w := w' } := by
  have hI : ∀ b, c.I b → b < c.w.heap.size → ({ c with w := w' } : Cx).I b ∧ w'.heap[b]? = c.w.heap[b]? := fun b h hl => ⟨h, hb.block b hl⟩
  have E : Ext c { c with w := w' } := by
    refine ⟨⟨hI, fun t ht => ?_, Nat.le_refl _⟩, rfl, rfl, fun b h => hb.block b (H.old b h), ⟨hb.os, hb.tape, hb.output⟩⟩
    have h0 := TokLe.refl (c := c) ht
    unfold TokLe at h0 ⊢
    show match c.A[t]? with | some (.row e _) => _ | some (.box _) => _ | some .dead => True | some .room => _ | none => False
    cases hA : c.A[t]? with
    | none => rw [hA] at h0; exact h0
    | some o =>
      rw [hA] at h0
      cases o with
      | dead => trivial
      | room => exact h0
      | row e xs =>
        simp only at h0 ⊢
        refine .inl ⟨⟨xs, rfl⟩, trivial, fun b cs et h1 h2 => ⟨cs, ?_, rfl⟩⟩
        show w'.heap[b]? = _
        rw [hb.block b (some_lt h2)]; exact h2
      | box vs => exact .inl ⟨⟨vs, rfl⟩, rfl⟩
  refine ⟨E, ⟨H.far, H.inj, fun t o h => ?_, fun b h => Nat.lt_of_lt_of_le (H.old b h) hb.size, fun g v h => (H.glo g v h).mono E.le.I⟩⟩
  refine objOk_ext E (H.obj t o h) fun hl b hr => hb.block b ?_
  exact H.lt ⟨o, h, hl⟩ hr
theorem acall_below {P : Program} {G : List (Nat × Value)} {f : FuncId} {args : List AV} {A : List AO} {K : AV → List AO → Prop} {r : AV} (hb : hasBody P f)
    (h : ∀ c, HR c → c.A = A → c.G = G → ∀ vs, RelL c args vs → Calls P f vs.toArray c.w fun e w' => ∃ v, e = .returned v ∧ Below c.w.heap.size c.w w' ∧ ∀ c', Ext c c' → c'.w = w' → Rel c' r v) (hK : K r A) : ACall P G f args A K := by
  refine ⟨trivial, fun c H hA hG vs hv => .inl ⟨hb, (h c H hA hG vs hv).mono fun e w' ⟨v, h1, h2, h3⟩ => ?_⟩⟩
  obtain ⟨k1, k2⟩ := below_ext H h2
  exact ⟨v, _, r, h1, rfl, k1, k2, h3 _ k1 rfl, by rw [show ({ c with w := w' } : Cx).A = A from hA]; exact hK⟩
end Go.Ab
/-
  The document's answer for a raster; most, least, sums.
-/
namespace Go.Proofs.YtgjjooophigkoaaGreatDoor
open Go Go.Ab
set_option maxRecDepth 100000
theorem rerr_in (a : Ras) : rerr a ≤ 4 := by unfold rerr; split; omega; split; omega; split <;> omega
theorem take_any (p : Int → Bool) (l : List Int) (k : Nat) (hk : k < l.length) : (l.take (k + 1)).any p = ((l.take k).any p || p (l.getD k 0)) := by
  rw [List.take_succ_eq_append_getElem hk, List.any_append]; simp [List.getD, hk]
theorem any_in (p : Int → Bool) (l : List Int) (k : Nat) (hk : k < l.length) (h : p (l.getD k 0) = true) : l.any p = true := by
  rw [List.any_eq_true]; exact ⟨l[k], List.getElem_mem hk, by simpa [List.getD, hk] using h⟩
theorem rasterError_any (G : List (Nat × Value)) (a : Ras) (hl : a.2.2.length ≤ 1000000000000) (K : AV → List AO → Prop) (hK : K (.fz int (rerr a)) []) :
    ACall Tryz.prog G 22 [.fptr RasT a] [] K := by
  refine acall_mk (E := envAt G 64 0) (envOk _ _ _) Tryz.func22 rfl rfl rfl rfl rfl ?_
  (repeat' (first | exact trivial | exact fun h => h | refine And.intro ?_ ?_ | (intro hb; first | (simp at hb; done) | (simp at hb) | skip) | omega | exact rfl | exact Nat.le_refl _ | (show _ + 1 ≤ 4294967296; omega) | (dsimp only; omega) | (show (_ : Int) ≤ (_ : Int); omega) | (show _ < List.length _; simp only [List.length_set, List.length_append, List.length_take]; omega) | (show wantB _ _ = true; simp; done) | (show wantB _ _ = true; simp; omega) | (show (_ : Bool) = _; simp_all; done) | (exfalso; omega) | refine aRegion_auto (by decide +kernel) ?_ | fail))
  · refine ⟨_, _, REnt.drop ⟨rfl, rfl⟩, ?_⟩
    have : rerr a = 2 := by unfold rerr; rw [if_pos hb]
    rw [this] at hK; exact hK
  · have := mul_bd (a := a.1) (b := a.2.1) (A := 128) (B := 128) (by omega) (by omega) (by omega) (by omega); omega
  · have := mul_bd (a := a.1) (b := a.2.1) (A := 128) (B := 128) (by omega) (by omega) (by omega) (by omega); omega
  · refine ⟨_, _, REnt.drop ⟨rfl, rfl⟩, ?_⟩
    have : rerr a = 3 := by unfold rerr; rw [if_neg (by omega), if_pos (by omega)]
    rw [this] at hK; exact hK
  refine ⟨Nat, fun k => ⟨[(0, .fptr RasT a), (3, .fz int k)], []⟩, fun k => k ≤ a.2.2.length ∧ (a.2.2.take k).any bigB = false, fun k => a.2.2.length - k, 0, ⟨Nat.zero_le _, rfl⟩, Ent.sub rfl ⟨rfl, rfl⟩, ?_⟩
  intro k ⟨hk, hp⟩
  (repeat' (first | exact trivial | exact fun h => h | refine And.intro ?_ ?_ | (intro hb; first | (simp at hb; done) | (simp at hb) | skip) | omega | exact rfl | exact Nat.le_refl _ | (show _ + 1 ≤ 4294967296; omega) | (dsimp only; omega) | (show (_ : Int) ≤ (_ : Int); omega) | (show _ < List.length _; simp only [List.length_set, List.length_append, List.length_take]; omega) | (show wantB _ _ = true; simp; done) | (show wantB _ _ = true; simp; omega) | (show (_ : Bool) = _; simp_all; done) | (exfalso; omega) | refine aRegion_auto (by decide +kernel) ?_ | fail))
  · refine acall_frame0 rfl (great_any G _ _ ?_)
    (repeat' (first | exact trivial | exact fun h => h | refine And.intro ?_ ?_ | (intro hb; first | (simp at hb; done) | (simp at hb) | skip) | omega | exact rfl | exact Nat.le_refl _ | (show _ + 1 ≤ 4294967296; omega) | (dsimp only; omega) | (show (_ : Int) ≤ (_ : Int); omega) | (show _ < List.length _; simp only [List.length_set, List.length_append, List.length_take]; omega) | (show wantB _ _ = true; simp; done) | (show wantB _ _ = true; simp; omega) | (show (_ : Bool) = _; simp_all; done) | (exfalso; omega) | refine aRegion_auto (by decide +kernel) ?_ | fail))
    · refine ⟨_, _, REnt.drop ⟨rfl, rfl⟩, ?_⟩
      have : rerr a = 4 := by unfold rerr; rw [if_neg (by omega), if_neg (by omega), if_pos (any_in bigB _ k (by omega) hb)]
      rw [this] at hK; exact hK
    · refine ⟨k + 1, ⟨by omega, ?_⟩, by show _ - _ < _ - _; omega, Ent.sub rfl ⟨rfl, rfl⟩⟩
      have hb : bigB (a.2.2.getD k 0) = false := hb
      rw [take_any _ _ _ (by omega), hp, hb]; rfl
  · refine ⟨_, _, REnt.drop ⟨rfl, rfl⟩, ?_⟩
    have : rerr a = 0 := by
      have hk : k = a.2.2.length := by omega
      subst hk
      rw [List.take_length] at hp
      unfold rerr; rw [if_neg (by omega), if_neg (by omega), if_neg (by simp [hp])]
    rw [this] at hK; exact hK
def maxL : List Int → Int
  | [] => 0
  | x :: l => l.foldl max x
def minL : List Int → Int
  | [] => 0
  | x :: l => l.foldl min x
theorem foldl_take (f : Int → Int → Int) (l : List Int) (k : Nat) (hk : k < l.length) (x : Int) : (l.take (k + 1)).foldl f x = f ((l.take k).foldl f x) (l.getD k 0) := by
  rw [List.take_succ_eq_append_getElem hk, List.foldl_append]; simp [List.getD, hk]
end Go.Proofs.YtgjjooophigkoaaGreatDoor
/-
  errors.Is, errors.As, plain.Code of plain errors, as contracts.
-/
namespace Go.Proofs.YtgjjooophigkoaaGreatDoor
open Go Go.Ab Go.RowKit
set_option maxRecDepth 100000
/-- all errors, and the handle that errors.As looks at -/
def EL (E : Errs) : List Addr := [E.text, E.bound, E.shape, E.range, E.name, E.none, E.order, E.file]
abbrev G8 (E : Errs) : List (Nat × Value) := [(0, errV E.shape), (3, errV E.range), (1, errV E.bound), (2, errV E.text), (4, errV E.name), (5, errV E.none), (6, errV E.order), (7, errV E.file), (8, asK.errType)]
theorem gk_sub {E : Errs} (g : Nat) (v : Value) (h : gk (GE E) g = some v) : gk (G8 E) g = some v := by
  unfold GE gk at h
  unfold G8 gk
  split at h
  · rename_i e; rw [if_pos e]; exact h
  rename_i e; rw [if_neg e]
  unfold gk at h ⊢
  split at h
  · rename_i e; rw [if_pos e]; exact h
  rename_i e; rw [if_neg e]
  unfold gk at h ⊢
  split at h
  · rename_i e; rw [if_pos e]; exact h
  · cases h
theorem up8 {E : Errs} {f : FuncId} {args : List AV} {A : List AO} {K : AV → List AO → Prop} (h : ACall Tryz.prog (GE E) f args A K) : ACall Tryz.prog (G8 E) f args A K := acall_more h gk_sub
/-- the errors that a law tells apart; 0: nil -/
def er (E : Errs) (e : Nat) : Value := match e with
  | 0 => .nilIface
  | 1 => errV E.text
  | 2 => errV E.bound
  | 3 => errV E.shape
  | 4 => errV E.range
  | 5 => errV E.name
  | 6 => errV E.none
  | 7 => errV E.order
  | _ => errV E.file
def ea (E : Errs) (e : Nat) : Addr := match e with
  | 0 => E.text
  | 1 => E.text
  | 2 => E.bound
  | 3 => E.shape
  | 4 => E.range
  | 5 => E.name
  | 6 => E.none
  | 7 => E.order
  | _ => E.file
theorem er_ea (E : Errs) {e : Nat} (h : 0 < e) : er E e = errV (ea E e) := by
  unfold er ea; split <;> first | omega | rfl
theorem er_in (E : Errs) {e : Nat} (h : 0 < e) (h8 : e ≤ 8) : ∃ g, gk (G8 E) g = some (errV (ea E e)) := by
  obtain rfl | rfl | rfl | rfl | rfl | rfl | rfl | rfl : e = 1 ∨ e = 2 ∨ e = 3 ∨ e = 4 ∨ e = 5 ∨ e = 6 ∨ e = 7 ∨ e = 8 := by omega
  · exact ⟨2, rfl⟩
  · exact ⟨1, rfl⟩
  · exact ⟨0, rfl⟩
  · exact ⟨3, rfl⟩
  · exact ⟨4, rfl⟩
  · exact ⟨5, rfl⟩
  · exact ⟨6, rfl⟩
  · exact ⟨7, rfl⟩
theorem ea_at (E : Errs) {e : Nat} (h : 0 < e) (h8 : e ≤ 8) : (EL E)[e - 1]? = some (ea E e) := by
  obtain rfl | rfl | rfl | rfl | rfl | rfl | rfl | rfl : e = 1 ∨ e = 2 ∨ e = 3 ∨ e = 4 ∨ e = 5 ∨ e = 6 ∨ e = 7 ∨ e = 8 := by omega
  all_goals rfl
theorem ea_ne {E : Errs} (hE : (EL E).Nodup) {e d : Nat} (h : 0 < e) (h8 : e ≤ 8) (k : 0 < d) (k8 : d ≤ 8) (hne : e ≠ d) : ea E e ≠ ea E d := by
  intro he
  have h1 := ea_at E h h8
  have h2 := ea_at E k k8
  rw [he] at h1
  have h3 : e - 1 = d - 1 := by
    have hl : e - 1 < (EL E).length := by show e - 1 < 8; omega
    exact (List.getElem?_inj hl hE).1 (h1.trans h2.symm)
  omega
theorem errIs_any {E : Errs} (hE : (EL E).Nodup) {e d : Nat} (h : 0 < e) (h8 : e ≤ 8) (k : 0 < d) (k8 : d ≤ 8) (A : List AO) (K : AV → List AO → Prop) (hK : K (.fz .bool (decide (e = d))) A) :
    ACall Tryz.prog (G8 E) 91 [.fz .raw (errV (ea E e)), .fz .raw (errV (ea E d))] A K := by
  refine acall_below ⟨_, Tryz.func91, rfl, rfl⟩ (fun c H hA hG vs hv => ?_) hK
  obtain ⟨v, r, rfl, h1, v2, r2, rfl, h2, h3⟩ := hv
  unfold RelL at h3
  subst h3
  rw [(rel_raw rfl).1 h1, (rel_raw rfl).1 h2]
  by_cases he : e = d
  · subst he
    refine (isK.is_same _ _).mono fun x w' ⟨e1, e2⟩ => ⟨_, e1, by rw [e2]; exact Below.refl _ _, fun c' _ _ => ?_⟩
    rw [rel_bool]; simp
  · obtain ⟨g1, q1⟩ := er_in E h h8
    obtain ⟨g2, q2⟩ := er_in E k k8
    obtain ⟨_, cs1, t1, j1⟩ := (H.glo g1 _ (by rw [hG]; exact q1)).tgt _ _ rfl
    obtain ⟨_, cs2, t2, j2⟩ := (H.glo g2 _ (by rw [hG]; exact q2)).tgt _ _ rfl
    refine (isK.is_other _ _ _ _ _ _ _ (ea_ne hE h h8 k k8 he) j1 j2).mono fun x w' ⟨e1, e2⟩ => ⟨_, e1, by rw [e2]; exact Below.refl _ _, fun c' _ _ => ?_⟩
    rw [rel_bool]; simp [he]
theorem errAs_any {E : Errs} (a : Addr) (vs : List AV) (K : AV → List AO → Prop) (hK : K (.fz .bool false) [.box vs]) :
    ACall Tryz.prog (G8 E) 90 [.fz .raw (errV a), .ifc 155 (.ptr 0 0)] [.box vs] K := by
  refine acall_below ⟨_, Tryz.func90, rfl, rfl⟩ (fun c H hA hG vs hv => ?_) hK
  obtain ⟨v, r, rfl, h1, v2, r2, rfl, h2, h3⟩ := hv
  unfold RelL at h3
  subst h3
  rw [(rel_raw rfl).1 h1]
  obtain ⟨u, rfl, h2⟩ := h2
  unfold Rel at h2
  rw [hA] at h2
  obtain ⟨b, _, rfl⟩ := h2
  have hg := (H.glo 8 asK.errType (by rw [hG]; rfl)).cell rfl
  refine (asK.as_other _ _ _ hg).mono fun x w' ⟨e1, e2⟩ => ⟨_, e1, ?_, fun c' _ _ => rel_bool.2 rfl⟩
  subst e2
  exact (((Below.refl _ _).alloc (Nat.le_refl _) _).alloc (by simp) _).alloc (by simp; omega) _
end Go.Proofs.YtgjjooophigkoaaGreatDoor
/-
  plain.Code, coded: what number an error has.
-/
namespace Go.Proofs.YtgjjooophigkoaaGreatDoor
open Go Go.Ab Go.RowKit
set_option maxRecDepth 100000
theorem code_nil (E : Errs) (K : AV → List AO → Prop) (hK : K (.tup [.fz int 0, .fz int (-1)]) []) : ACall Tryz.prog (G8 E) 41 [.fz .raw .nilIface] [] K := by
  refine acall_mk (E := envAt (G8 E) 39 0) (envOk _ _ _) Tryz.func41 rfl rfl rfl rfl rfl ?_
  (repeat' (first | exact trivial | exact fun h => h | refine And.intro ?_ ?_ | (intro hb; first | (simp at hb; done) | (simp at hb) | skip) | omega | exact rfl | exact Nat.le_refl _ | (show _ + 1 ≤ 4294967296; omega) | (dsimp only; omega) | (show (_ : Int) ≤ (_ : Int); omega) | (show _ < List.length _; simp only [List.length_set, List.length_append, List.length_take]; omega) | (show wantB _ _ = true; simp; done) | (show wantB _ _ = true; simp; omega) | (show (_ : Bool) = _; simp_all; done) | (exfalso; omega) | refine aRegion_auto (by decide +kernel) ?_ | refine ⟨_, _, REnt.drop ⟨rfl, rfl⟩, ?_⟩ | fail))
  exact hK
abbrev errs (E : Errs) : List Value := [errV E.text, errV E.bound, errV E.shape, errV E.range, errV E.name, errV E.none, errV E.order, errV E.file]
theorem errs_at (E : Errs) {k : Nat} (h : k < 8) : List.getD (errs E) k (Ty.dft .raw) = errV (ea E (k + 1)) := by
  obtain rfl | rfl | rfl | rfl | rfl | rfl | rfl | rfl : k = 0 ∨ k = 1 ∨ k = 2 ∨ k = 3 ∨ k = 4 ∨ k = 5 ∨ k = 6 ∨ k = 7 := by omega
  all_goals rfl
set_option maxHeartbeats 4000000 in
theorem code_any {E : Errs} (hE : (EL E).Nodup) {e : Nat} (h : 0 < e) (h8 : e ≤ 8) (K : AV → List AO → Prop) (hK : K (.tup [.fz int e, .fz int (-1)]) []) :
    ACall Tryz.prog (G8 E) 41 [.fz .raw (errV (ea E e))] [] K := by
  refine acall_mk (E := envAt (G8 E) 39 0) (envOk _ _ _) Tryz.func41 rfl rfl rfl rfl rfl ?_
  (repeat' (first | exact trivial | exact fun h => h | refine And.intro ?_ ?_ | (intro hb; first | (simp at hb; done) | (simp at hb) | skip) | omega | exact rfl | exact Nat.le_refl _ | (show _ + 1 ≤ 4294967296; omega) | (dsimp only; omega) | (show (_ : Int) ≤ (_ : Int); omega) | (show _ < List.length _; simp only [List.length_set, List.length_append, List.length_take]; omega) | (show wantB _ _ = true; simp; done) | (show wantB _ _ = true; simp; omega) | (show (_ : Bool) = _; simp_all; done) | (exfalso; omega) | refine aRegion_auto (by decide +kernel) ?_ | refine ⟨_, _, REnt.drop ⟨rfl, rfl⟩, ?_⟩ | fail))
  refine acall_frame [0] [.box [.fz .raw (.pointer none)]] [.fz .raw (errV (ea E e)), .ifc 155 (.ptr 0 0)] rfl ⟨⟨rfl, rfl⟩, trivial⟩ ⟨rfl, rfl⟩ rfl (errAs_any (ea E e) _ _ ?_)
  (repeat' (first | exact trivial | exact fun h => h | refine And.intro ?_ ?_ | (intro hb; first | (simp at hb; done) | (simp at hb) | skip) | omega | exact rfl | exact Nat.le_refl _ | (show _ + 1 ≤ 4294967296; omega) | (dsimp only; omega) | (show (_ : Int) ≤ (_ : Int); omega) | (show _ < List.length _; simp only [List.length_set, List.length_append, List.length_take]; omega) | (show wantB _ _ = true; simp; done) | (show wantB _ _ = true; simp; omega) | (show (_ : Bool) = _; simp_all; done) | (exfalso; omega) | refine aRegion_auto (by decide +kernel) ?_ | refine ⟨_, _, REnt.drop ⟨rfl, rfl⟩, ?_⟩ | fail))
  refine ⟨Nat, fun k => ⟨[(0, .fz .raw (errV (ea E e))), (3, .fz int (-1)), (24, .ref 1 0 8), (25, .fz int 8), (26, .fz int k)], [.box [.fz .raw (.pointer none)], .row .raw (errs E)]⟩, fun k => k < e, fun k => e - k, 0, h, Ent.sub rfl ?_, ?_⟩
  · (repeat' (first | exact trivial | exact rfl | refine And.intro ?_ ?_))
  intro k hk
  have hk8 : 0 + Int.toNat (k : Int) < (errs E).length := by show 0 + Int.toNat (k : Int) < 8; omega
  (repeat' (first | exact trivial | exact fun h => h | refine And.intro ?_ ?_ | (intro hb; first | (simp at hb; done) | (simp at hb) | skip) | omega | exact rfl | exact Nat.le_refl _ | (show _ + 1 ≤ 4294967296; omega) | (dsimp only; omega) | (show (_ : Int) ≤ (_ : Int); omega) | (show _ < List.length _; simp only [List.length_set, List.length_append, List.length_take]; omega) | (show wantB _ _ = true; simp; done) | (show wantB _ _ = true; simp; omega) | (show (_ : Bool) = _; simp_all; done) | (exfalso; omega) | refine aRegion_auto (by decide +kernel) ?_ | refine ⟨_, _, REnt.drop ⟨rfl, rfl⟩, ?_⟩ | fail))
  · refine acall_frame0 rfl (acall_arg (errIs_any hE h h8 (Nat.succ_pos k) (by omega) _ _ ?_) (congrArg (fun v => [AV.fz .raw (errV (ea E e)), AV.fz .raw v]) ((errs_at E (k := k) (by omega)).symm.trans (congrArg (fun i => List.getD (errs E) i (Ty.dft .raw)) (show k = 0 + Int.toNat (k : Int) by omega)))))
    (repeat' (first | exact trivial | exact fun h => h | refine And.intro ?_ ?_ | (intro hb; first | (simp at hb; done) | (simp at hb) | skip) | omega | exact rfl | exact Nat.le_refl _ | (show _ + 1 ≤ 4294967296; omega) | (dsimp only; omega) | (show (_ : Int) ≤ (_ : Int); omega) | (show _ < List.length _; simp only [List.length_set, List.length_append, List.length_take]; omega) | (show wantB _ _ = true; simp; done) | (show wantB _ _ = true; simp; omega) | (show (_ : Bool) = _; simp_all; done) | (exfalso; omega) | refine aRegion_auto (by decide +kernel) ?_ | refine ⟨_, _, REnt.drop ⟨rfl, rfl⟩, ?_⟩ | fail))
    · have hb : e = k + 1 := by simpa using hb
      subst hb
      exact hK
    · have hb : ¬ e = k + 1 := by simpa using hb
      refine ⟨k + 1, by omega, by show _ - _ < _ - _; omega, Ent.sub rfl ?_⟩
      (repeat' (first | exact trivial | exact rfl | refine And.intro ?_ ?_))
theorem coded_mercatorlaw3 {E : Errs} (hE : (EL E).Nodup) {e : Nat} (h8 : e ≤ 8) (n : Int) (K : AV → List AO → Prop) (hK : K (.fz .bool (decide ((e : Int) = n))) []) : ACall Tryz.prog (G8 E) 10 [.fz .raw (er E e), .fz int n] [] K := by
  refine acall_mk (E := envAt (G8 E) 15 0) (envOk _ _ _) Tryz.func10 rfl rfl rfl rfl rfl ?_
  (repeat' (first | exact trivial | exact fun h => h | refine And.intro ?_ ?_ | (intro hb; first | (simp at hb; done) | (simp at hb) | skip) | omega | exact rfl | exact Nat.le_refl _ | (show _ + 1 ≤ 4294967296; omega) | (dsimp only; omega) | (show (_ : Int) ≤ (_ : Int); omega) | (show _ < List.length _; simp only [List.length_set, List.length_append, List.length_take]; omega) | (show wantB _ _ = true; simp; done) | (show wantB _ _ = true; simp; omega) | (show (_ : Bool) = _; simp_all; done) | (exfalso; omega) | refine aRegion_auto (by decide +kernel) ?_ | refine ⟨_, _, REnt.drop ⟨rfl, rfl⟩, ?_⟩ | fail))
  by_cases h : e = 0
  · subst h
    refine acall_frame0 rfl (code_nil E _ ?_)
    (repeat' (first | exact trivial | exact fun h => h | refine And.intro ?_ ?_ | (intro hb; first | (simp at hb; done) | (simp at hb) | skip) | omega | exact rfl | exact Nat.le_refl _ | (show _ + 1 ≤ 4294967296; omega) | (dsimp only; omega) | (show (_ : Int) ≤ (_ : Int); omega) | (show _ < List.length _; simp only [List.length_set, List.length_append, List.length_take]; omega) | (show wantB _ _ = true; simp; done) | (show wantB _ _ = true; simp; omega) | (show (_ : Bool) = _; simp_all; done) | (exfalso; omega) | refine aRegion_auto (by decide +kernel) ?_ | refine ⟨_, _, REnt.drop ⟨rfl, rfl⟩, ?_⟩ | fail))
    exact hK
  · refine acall_frame0 rfl (acall_arg (code_any hE (Nat.pos_of_ne_zero h) h8 _ ?_) (congrArg (fun v => [AV.fz .raw v]) (er_ea E (Nat.pos_of_ne_zero h)).symm))
    (repeat' (first | exact trivial | exact fun h => h | refine And.intro ?_ ?_ | (intro hb; first | (simp at hb; done) | (simp at hb) | skip) | omega | exact rfl | exact Nat.le_refl _ | (show _ + 1 ≤ 4294967296; omega) | (dsimp only; omega) | (show (_ : Int) ≤ (_ : Int); omega) | (show _ < List.length _; simp only [List.length_set, List.length_append, List.length_take]; omega) | (show wantB _ _ = true; simp; done) | (show wantB _ _ = true; simp; omega) | (show (_ : Bool) = _; simp_all; done) | (exfalso; omega) | refine aRegion_auto (by decide +kernel) ?_ | refine ⟨_, _, REnt.drop ⟨rfl, rfl⟩, ?_⟩ | fail))
    exact hK
theorem coded_mercatorlaw4 {E : Errs} (hE : (EL E).Nodup) {e : Nat} (h8 : e ≤ 8) (n : Int) (K : AV → List AO → Prop) (hK : K (.fz .bool (decide ((e : Int) = n))) []) : ACall Tryz.prog (G8 E) 23 [.fz .raw (er E e), .fz int n] [] K := by
  refine acall_mk (E := envAt (G8 E) 15 0) (envOk _ _ _) Tryz.func23 rfl rfl rfl rfl rfl ?_
  (repeat' (first | exact trivial | exact fun h => h | refine And.intro ?_ ?_ | (intro hb; first | (simp at hb; done) | (simp at hb) | skip) | omega | exact rfl | exact Nat.le_refl _ | (show _ + 1 ≤ 4294967296; omega) | (dsimp only; omega) | (show (_ : Int) ≤ (_ : Int); omega) | (show _ < List.length _; simp only [List.length_set, List.length_append, List.length_take]; omega) | (show wantB _ _ = true; simp; done) | (show wantB _ _ = true; simp; omega) | (show (_ : Bool) = _; simp_all; done) | (exfalso; omega) | refine aRegion_auto (by decide +kernel) ?_ | refine ⟨_, _, REnt.drop ⟨rfl, rfl⟩, ?_⟩ | fail))
  by_cases h : e = 0
  · subst h
    refine acall_frame0 rfl (code_nil E _ ?_)
    (repeat' (first | exact trivial | exact fun h => h | refine And.intro ?_ ?_ | (intro hb; first | (simp at hb; done) | (simp at hb) | skip) | omega | exact rfl | exact Nat.le_refl _ | (show _ + 1 ≤ 4294967296; omega) | (dsimp only; omega) | (show (_ : Int) ≤ (_ : Int); omega) | (show _ < List.length _; simp only [List.length_set, List.length_append, List.length_take]; omega) | (show wantB _ _ = true; simp; done) | (show wantB _ _ = true; simp; omega) | (show (_ : Bool) = _; simp_all; done) | (exfalso; omega) | refine aRegion_auto (by decide +kernel) ?_ | refine ⟨_, _, REnt.drop ⟨rfl, rfl⟩, ?_⟩ | fail))
    exact hK
  · refine acall_frame0 rfl (acall_arg (code_any hE (Nat.pos_of_ne_zero h) h8 _ ?_) (congrArg (fun v => [AV.fz .raw v]) (er_ea E (Nat.pos_of_ne_zero h)).symm))
    (repeat' (first | exact trivial | exact fun h => h | refine And.intro ?_ ?_ | (intro hb; first | (simp at hb; done) | (simp at hb) | skip) | omega | exact rfl | exact Nat.le_refl _ | (show _ + 1 ≤ 4294967296; omega) | (dsimp only; omega) | (show (_ : Int) ≤ (_ : Int); omega) | (show _ < List.length _; simp only [List.length_set, List.length_append, List.length_take]; omega) | (show wantB _ _ = true; simp; done) | (show wantB _ _ = true; simp; omega) | (show (_ : Bool) = _; simp_all; done) | (exfalso; omega) | refine aRegion_auto (by decide +kernel) ?_ | refine ⟨_, _, REnt.drop ⟨rfl, rfl⟩, ?_⟩ | fail))
    exact hK
end Go.Proofs.YtgjjooophigkoaaGreatDoor
/-
  What the laid variables give: eight errors, all different, and the handle of type error.
-/
namespace Go.Proofs.YtgjjooophigkoaaGreatDoor
open Go Go.Ab Go.RowKit Go.ChangeShapes
set_option maxRecDepth 100000
theorem star : "*" ++ "errors.errorString" = "*errors.errorString" := by decide
theorem names_at (u : TypeId) (h : Tryz.prog.typeName? 3 u = some "*errors.errorString") : u = 293 :=
  typeName_ptr_named (nm := "errors.errorString") (by rw [star]; kernel_rfl) (by kernel_rfl) (by decide) u (by rw [star]; exact h)
theorem cells_es : Tryz.prog.cellsOf 295 = 1 := by kernel_rfl
theorem cells_str : Tryz.prog.cellsOf 9 = 1 := by kernel_rfl
theorem glob_ty (g : Nat) (hg : g ∈ [2, 1, 0, 3, 4, 5, 6, 7]) :
    ∃ ti ms, (Tryz.prog.globals[g]?).map (·.type) = some ti ∧ Tryz.prog.underlying ti = some (.interface ms) := by
  have : ([2, 1, 0, 3, 4, 5, 6, 7].all fun g => (Tryz.prog.globals[g]?).map (·.type) == some 27) = true := by kernel_rfl
  exact ⟨27, _, by simpa using List.all_eq_true.1 this g hg, Tryz.underlying27⟩
theorem et_at : Tryz.prog.globalNamed "errors.errorType" = some 8 := by kernel_rfl
theorem rt_at : (Tryz.prog.cutTypes.find? (·.1 == "internal/reflectlite.rtype")).map (·.2) = some 221 := by kernel_rfl
theorem one_row : ((List.range Tryz.prog.types.size).filter fun t => Tryz.prog.rowNamed t [101, 114, 114, 111, 114]) = [27] := by kernel_rfl
/-- of a list of the eight errors and the handle -/
theorem globs8 {W : World} {l : List (String × DataW Unit)} {x1 x2 x3 x4 x5 x6 x7 x8 : List UInt8} (h : laidMetH Tryz.prog l W)
    (hl : (l.filter fun x => x.2.handleName?.isNone) = [("mercator/api.ErrText", errD x1), ("mercator/api.ErrBound", errD x2), ("mercator/api.ErrShape", errD x3), ("mercator/api.ErrRange", errD x4), ("mercator/api.ErrName", errD x5), ("mercator/api.ErrNone", errD x6), ("mercator/api.ErrOrder", errD x7), ("mercator/api.ErrFile", errD x8)])
    (hh : (l.filter fun x => x.2.handleName?.isSome) = [("errors.errorType", .iface "internal/reflectlite.rtype" (.agg [.ptr (.lit (.string [101, 114, 114, 111, 114]))]))]) :
    ∃ E : Errs, (EL E).Nodup ∧ ∀ g v, gk (G8 E) g = some v → Glo0 W g v := by
  obtain ⟨h1, h2⟩ := laidMetH_iff.1 h
  rw [hl] at h1
  rw [hh] at h2
  obtain ⟨ps, hv, hn, hall⟩ := h1
  obtain ⟨al, k1, k2, k3, _⟩ := laid_errs names_at Tryz.underlying293 Tryz.underlying295 rfl rfl Tryz.underlying9 cells_es cells_str
    [("mercator/api.ErrText", x1), ("mercator/api.ErrBound", x2), ("mercator/api.ErrShape", x3), ("mercator/api.ErrRange", x4), ("mercator/api.ErrName", x5), ("mercator/api.ErrNone", x6), ("mercator/api.ErrOrder", x7), ("mercator/api.ErrFile", x8)]
    [2, 1, 0, 3, 4, 5, 6, 7] ps hv hn hall (by kernel_rfl) glob_ty
  obtain ⟨a1, a2, a3, a4, a5, a6, a7, a8, rfl⟩ : ∃ a1 a2 a3 a4 a5 a6 a7 a8, al = [a1, a2, a3, a4, a5, a6, a7, a8] := by
    match al, k1 with
    | [a1, a2, a3, a4, a5, a6, a7, a8], _ => exact ⟨a1, a2, a3, a4, a5, a6, a7, a8, rfl⟩
  have hE : Glo0 W 8 asK.errType := by
    obtain ⟨name, u, ty, e1, e2, e3, e4, e5⟩ := h2 _ (List.mem_singleton.2 rfl)
    have en : name = [101, 114, 114, 111, 114] := (Option.some.inj e1).symm
    subst en
    obtain rfl := Option.some.inj (rt_at.symm.trans e2)
    have hm : ty ∈ (List.range Tryz.prog.types.size).filter fun t => Tryz.prog.rowNamed t [101, 114, 114, 111, 114] := List.mem_filter.2 ⟨List.mem_range.2 e3, e4⟩
    rw [one_row] at hm
    obtain rfl := List.mem_singleton.1 hm
    have hh : typeHandle Tryz.prog 27 = .pointer (some ⟨17, 27, none⟩) := by kernel_rfl
    rw [hh] at e5
    exact ⟨by simpa [asK.errType] using World.var?_cell et_at e5 0, rfl, fun T a e => by cases e⟩
  refine ⟨⟨a1, a2, a3, a4, a5, a6, a7, a8⟩, k2, fun g v hg => ?_⟩
  unfold G8 gk at hg
  split at hg
  · rename_i e; subst e; cases hg; exact k3 2 _ _ rfl rfl
  unfold gk at hg
  split at hg
  · rename_i e; subst e; cases hg; exact k3 3 _ _ rfl rfl
  unfold gk at hg
  split at hg
  · rename_i e; subst e; cases hg; exact k3 1 _ _ rfl rfl
  unfold gk at hg
  split at hg
  · rename_i e; subst e; cases hg; exact k3 0 _ _ rfl rfl
  unfold gk at hg
  split at hg
  · rename_i e; subst e; cases hg; exact k3 4 _ _ rfl rfl
  unfold gk at hg
  split at hg
  · rename_i e; subst e; cases hg; exact k3 5 _ _ rfl rfl
  unfold gk at hg
  split at hg
  · rename_i e; subst e; cases hg; exact k3 6 _ _ rfl rfl
  unfold gk at hg
  split at hg
  · rename_i e; subst e; cases hg; exact k3 7 _ _ rfl rfl
  unfold gk at hg
  split at hg
  · rename_i e; subst e; cases hg; exact hE
  · cases hg
end Go.Proofs.YtgjjooophigkoaaGreatDoor
/-
  strconv.Itoa, strconv.Atoi, strings.Split, strings.TrimPrefix as contracts.
-/
namespace Go.Proofs.YtgjjooophigkoaaGreatDoor
open Go Go.Ab Go.RowKit
set_option maxRecDepth 100000
/-- the table of powers of ten -/
def tab10 : Value := .agg (Lib.pow10Tab.map fun z => Value.int .u64 z).toArray
/-- what a text's reader knows besides: two errors of strconv, a table, a bound of bytealg's -/
abbrev GT (E : Errs) (sy ra : Addr) (mx : Int) : List (Nat × Value) := [(0, errV E.shape), (3, errV E.range), (1, errV E.bound), (2, errV E.text), (4, errV E.name), (5, errV E.none), (6, errV E.order), (7, errV E.file), (8, asK.errType), (11, errV sy), (12, errV ra), (9, tab10), (10, .int .i64 mx)]
theorem gt_sub {E : Errs} {sy ra : Addr} {mx : Int} (g : Nat) (v : Value) (h : gk (G8 E) g = some v) : gk (GT E sy ra mx) g = some v := by
  unfold G8 at h
  unfold GT
  iterate 9
    unfold gk at h ⊢
    split at h
    · rename_i e; rw [if_pos e]; exact h
    rename_i e; rw [if_neg e]
  cases h
theorem upT {E : Errs} {sy ra : Addr} {mx : Int} {f : FuncId} {args : List AV} {A : List AO} {K : AV → List AO → Prop} (h : ACall Tryz.prog (G8 E) f args A K) : ACall Tryz.prog (GT E sy ra mx) f args A K := acall_more h gt_sub
theorem tab_at : Tryz.prog.globalNamed "internal/strconv.uint64pow10" = some 9 := by kernel_rfl
theorem tab_is {w : World} {et : TypeId} {fr : Nat × Nat} (h : w.heap[9]? = some (.cells (Lib.pow10Tab.map fun z => Value.int .u64 z).toArray et fr)) : Lib.TabIs Tryz.prog w "internal/strconv.uint64pow10" .u64 Lib.pow10Tab := by
  unfold Lib.TabIs World.var?
  rw [tab_at]
  simp only [Option.bind_some, h]
/-- a walk by hand that lays new blocks alone; the answer may depend on them -/
theorem acall_belowR {P : Program} {G : List (Nat × Value)} {f : FuncId} {args : List AV} {A : List AO} {K : AV → List AO → Prop} (hb : hasBody P f)
    (h : ∀ c, HR c → c.A = A → c.G = G → ∀ vs, RelL c args vs → Calls P f vs.toArray c.w fun e w' => ∃ v r, e = .returned v ∧ Below c.w.heap.size c.w w' ∧ (Ext c { c with w := w' } → HR { c with w := w' } → Rel { c with w := w' } r v) ∧ K r A) : ACall P G f args A K := by
  refine ⟨trivial, fun c H hA hG vs hv => .inl ⟨hb, (h c H hA hG vs hv).mono fun e w' ⟨v, r, h1, h2, h3, h4⟩ => ?_⟩⟩
  obtain ⟨k1, k2⟩ := below_ext H h2
  exact ⟨v, _, r, h1, rfl, k1, k2, h3 k1 k2, by rw [show ({ c with w := w' } : Cx).A = A from hA]; exact h4⟩
theorem itoa_any {E : Errs} {sy ra : Addr} {mx : Int} (n : Int) (hn : -9223372036854775808 ≤ n ∧ n ≤ 9223372036854775807) (K : AV → List AO → Prop) (hK : K (.fz .str ⟨(Lib.itoa n).toArray⟩) []) :
    ACall Tryz.prog (GT E sy ra mx) 44 [.fz int n] [] K := by
  refine acall_belowR ⟨_, Tryz.func44, rfl, rfl⟩ (fun c H hA hG vs hv => ?_)
  obtain ⟨v, r, rfl, h1, h2⟩ := hv
  unfold RelL at h2
  subst h2
  obtain rfl := rel_int.1 h1
  obtain ⟨et, fr, ht⟩ := (H.glo 9 tab10 (by rw [hG]; rfl)).tab _ rfl
  refine (Tryz.strconv_Itoa n hn.1 hn.2 c.w (tab_is ht)).mono fun e w' ⟨e1, k, os, e2⟩ => ⟨_, .fz .str ⟨(Lib.itoa n).toArray⟩, e1, ?_, fun _ _ => rel_str.2 rfl, hK⟩
  rw [e2]
  refine ⟨rfl, rfl, rfl, by simp [Sort.grow], fun i hi => ?_⟩
  show ((c.w.drewN k).heap ++ os)[i]? = _
  rw [Array.getElem?_append_left (by show i < c.w.heap.size; omega)]
  rfl
theorem atoi_any {E : Errs} {sy ra : Addr} {mx : Int} (s : ByteArray) (hs : s.size ≤ 281474976710656) (K : AV → List AO → Prop) (h0 : ∀ v, Lib.atoiAll s.data.toList = .ok v → K (.tup [.fz int v, .fz .raw .nilIface]) [])
    (h1 : ∀ v T p, (∀ n, Lib.atoiAll s.data.toList ≠ .ok n) → K (.tup [.fz int v, .fz .raw (.iface T p)]) []) :
    ACall Tryz.prog (GT E sy ra mx) 97 [.fz .str s] [] K := by
  refine acall_belowR ⟨_, Tryz.func97, rfl, rfl⟩ (fun c H hA hG vs hv => ?_)
  obtain ⟨v, r, rfl, q1, q2⟩ := hv
  unfold RelL at q2
  subst q2
  obtain rfl := rel_str.1 q1
  have tupR : ∀ (c' : Cx) (n : Int) (u : Value), ocell u = true → Rel c' (.tup [.fz int n, .fz .raw u]) (.tuple #[.int .i64 n, u]) := fun c' n u hu => by
    unfold Rel
    refine ⟨[.int .i64 n, u], rfl, ?_⟩
    unfold RelL
    refine ⟨_, _, rfl, rel_int.2 rfl, ?_⟩
    unfold RelL
    refine ⟨_, _, rfl, (rel_raw hu).2 rfl, ?_⟩
    unfold RelL; rfl
  rcases ha : Lib.atoiAll s.data.toList with v | _ | _
  rotate_left
  · have hv := (H.glo 11 (errV sy) (by rw [hG]; rfl)).cell rfl
    refine (Tryz.strconv_Atoi_syntax s hs (fun v e => by rw [ha] at e; cases e) (fun e => by rw [ha] at e; cases e) _ c.w hv (.inr ⟨_, _, rfl⟩)).mono fun e w' ⟨N, e1, _, _, e2⟩ => ⟨_, .tup [.fz int 0, .fz .raw (.iface _ (.pointer (some ⟨N, 0, none⟩)))], e1, e2, fun _ _ => tupR _ _ _ rfl, h1 0 _ _ (fun n => by rw [ha]; intro e; cases e)⟩
  · have hv := (H.glo 12 (errV ra) (by rw [hG]; rfl)).cell rfl
    refine (Tryz.strconv_Atoi_range s hs ha _ c.w hv (.inr ⟨_, _, rfl⟩)).mono fun e w' ⟨N, e1, _, _, e2⟩ => ⟨_, .tup [.fz int (Lib.atoiSat s.data.toList), .fz .raw (.iface _ (.pointer (some ⟨N, 0, none⟩)))], e1, e2, fun _ _ => tupR _ _ _ rfl, h1 _ _ _ (fun n => by rw [ha]; intro e; cases e)⟩
  · refine (Tryz.strconv_Atoi_ok s (by omega) v ha c.w).mono fun e w' ⟨e1, e2⟩ => ⟨_, .tup [.fz int v, .fz .raw .nilIface], e1, ?_, fun _ _ => tupR _ _ _ rfl, h0 v ha⟩
    rcases e2 with rfl | ⟨t, rfl⟩
    · exact Below.refl _ _
    · exact Lib.bytesWorld_below _ _ _
/-- bytes of a text -/
def bs (l : List UInt8) : ByteArray := ⟨l.toArray⟩
theorem bs_list (l : List UInt8) : (bs l).data.toList = l := by simp [bs]
theorem bs_of (b : ByteArray) : bs b.data.toList = b := by simp [bs]
theorem trim_any (G : List (Nat × Value)) (s p : ByteArray) (K : AV → List AO → Prop) (hK : K (.fz .str (bs (Lib.trimPrefix s.data.toList p.data.toList))) []) :
    ACall Tryz.prog G 98 [.fz .str s, .fz .str p] [] K := by
  refine acall_belowR ⟨_, Tryz.func98, rfl, rfl⟩ (fun c H hA hG vs hv => ?_)
  obtain ⟨v, r, rfl, q1, v2, r2, rfl, q2, q3⟩ := hv
  unfold RelL at q3
  subst q3
  obtain rfl := rel_str.1 q1
  obtain rfl := rel_str.1 q2
  exact (Tryz.strings_TrimPrefix s p c.w).mono fun e w' ⟨e1, e2⟩ => ⟨_, _, e1, by rw [e2]; exact Below.refl _ _, fun _ _ => rel_str.2 rfl, hK⟩
theorem split_any {E : Errs} {sy ra : Addr} {mx : Int} (s : ByteArray) (ch : UInt8) (sep : ByteArray) (hsep : sep = ⟨#[ch]⟩) (hs : s.size ≤ 1000000) (K : AV → List AO → Prop) (hK : K (.fz (.list .str) ((Tx.cut ch s.data.toList).map bs)) []) :
    ACall Tryz.prog (GT E sy ra mx) 51 [.fz .str s, .fz .str sep] [] K := by
  subst hsep
  refine acall_belowR ⟨_, Tryz.func51, rfl, rfl⟩ (fun c H hA hG vs hv => ?_)
  obtain ⟨v, r, rfl, q1, v2, r2, rfl, q2, q3⟩ := hv
  unfold RelL at q3
  subst q3
  obtain rfl := rel_str.1 q1
  obtain rfl := rel_str.1 q2
  have hv := (H.glo 10 (.int .i64 mx) (by rw [hG]; rfl)).cell rfl
  refine (Tryz.strings_Split s ⟨#[ch]⟩ mx c.w (by omega) hv (Nat.le_refl 1)).mono fun e w' ⟨e1, e2⟩ => ⟨_, .fz (.list .str) ((Tx.cut ch s.data.toList).map bs), e1, ?_, fun _ H' => ?_, hK⟩
  · rw [e2]; exact (Below.refl _ _).alloc (Nat.le_refl _) _
  · have hp : (Tx.cut ch s.data.toList).map bs = Lib.splitB ⟨#[ch]⟩ 0 (Lib.countB s ⟨#[ch]⟩) s := by
      rw [← Tx.split_bytes, List.map_map]
      conv => rhs; rw [← List.map_id (Lib.splitB _ _ _ _)]
      exact List.map_congr_left fun b _ => bs_of b
    have hl : (Lib.splitB ⟨#[ch]⟩ 0 (Lib.countB s ⟨#[ch]⟩) s).length = Lib.countB s ⟨#[ch]⟩ + 1 := Lib.splitB_all ⟨#[ch]⟩ (Nat.le_refl 1) 0 _ s rfl
    rw [hp]
    generalize Lib.splitB ⟨#[ch]⟩ 0 (Lib.countB s ⟨#[ch]⟩) s = L at *
    unfold Rel
    refine ⟨[.slice (some ⟨c.w.heap.size, 0, none⟩) (Lib.countB s ⟨#[ch]⟩ + 1) (Lib.countB s ⟨#[ch]⟩ + 1)], ?_, rfl⟩
    refine ⟨some ⟨c.w.heap.size, 0, none⟩, Lib.countB s ⟨#[ch]⟩ + 1, by rw [hl], by rw [hl]; exact Nat.le_refl _, fun i hi => ⟨c.w.heap.size, 0, [.string L[i]], rfl, ?_, ?_, rfl, ?_⟩⟩
    · refine ⟨fun hx => absurd (H.old _ hx) (Nat.lt_irrefl _), fun t ht he => ?_⟩
      exact absurd (H.lt (c := c) ht he) (Nat.lt_irrefl _)
    · show c.w.heap.size < w'.heap.size
      rw [e2]; simp
    · intro j hj
      have hj0 : j = 0 := by simpa using hj
      subst hj0
      show w'.cell? ⟨c.w.heap.size, 0 + i * 1 + 0, none⟩ = _
      rw [e2, World.cell?_alloc_at _ _ _ _ rfl]
      simp [hi]
end Go.Proofs.YtgjjooophigkoaaGreatDoor
/-
  The library's contracts for strings.Builder at this program.
-/
namespace Go.Proofs
open Go.Shelf
def Tryz.layB_ren : Go.Shelf.Ren := ⟨fun | 240 => 94 | 276 => 127 | 166 => 43 | 167 => 45 | 169 => 47 | 170 => 46 | n => n, fun | 0 => 0 | 3 => 3 | 4 => 4 | 5 => 5 | 9 => 9 | 20 => 20 | 37 => 98 | 70 => 97 | 72 => 100 | 75 => 27 | 80 => 106 | 164 => 135 | 127 => 159 | n => n, fun | n => n⟩
theorem Tryz.layB240 : Go.Proofs.Lays.n240 Tryz.prog Tryz.layB_ren := {
  mixed := by kernel_rfl
  f240 := Tryz.func94.trans (congrArg some (by kernel_rfl))
  f276 := Tryz.func127.trans (congrArg some (by kernel_rfl))
  t0 := Tryz.underlying0
  a0 := Tryz.isAgg0
  z0 := Tryz.sizeOf0
  v0 := Tryz.zeroValue0
  t4 := Tryz.underlying4
  a4 := Tryz.isAgg4
  z4 := Tryz.sizeOf4
  v4 := Tryz.zeroValue4
  t9 := Tryz.underlying9
  a9 := Tryz.isAgg9
  z9 := Tryz.sizeOf9
  v9 := Tryz.zeroValue9
  t20 := Tryz.underlying20
  a20 := Tryz.isAgg20
  z20 := Tryz.sizeOf20
  v20 := Tryz.zeroValue20
  t70 := Tryz.underlying97
  a70 := Tryz.isAgg97
  z70 := Tryz.sizeOf97
  v70 := Tryz.zeroValue97
  t72 := Tryz.underlying100
  a72 := Tryz.isAgg100
  z72 := Tryz.sizeOf100
  v72 := Tryz.zeroValue100
  t164 := Tryz.underlying135
  a164 := Tryz.isAgg135
  z164 := Tryz.sizeOf135
  v164 := Tryz.zeroValue135 }
theorem Tryz.layB167 : Go.Proofs.Lays.n167 Tryz.prog Tryz.layB_ren := {
  mixed := by kernel_rfl
  f167 := Tryz.func45.trans (congrArg some (by kernel_rfl))
  f240 := Tryz.func94.trans (congrArg some (by kernel_rfl))
  f276 := Tryz.func127.trans (congrArg some (by kernel_rfl))
  t0 := Tryz.underlying0
  a0 := Tryz.isAgg0
  z0 := Tryz.sizeOf0
  v0 := Tryz.zeroValue0
  t4 := Tryz.underlying4
  a4 := Tryz.isAgg4
  z4 := Tryz.sizeOf4
  v4 := Tryz.zeroValue4
  t5 := Tryz.underlying5
  a5 := Tryz.isAgg5
  z5 := Tryz.sizeOf5
  v5 := Tryz.zeroValue5
  t9 := Tryz.underlying9
  a9 := Tryz.isAgg9
  z9 := Tryz.sizeOf9
  v9 := Tryz.zeroValue9
  t20 := Tryz.underlying20
  a20 := Tryz.isAgg20
  z20 := Tryz.sizeOf20
  v20 := Tryz.zeroValue20
  t37 := Tryz.underlying98
  a37 := Tryz.isAgg98
  z37 := Tryz.sizeOf98
  v37 := Tryz.zeroValue98
  t70 := Tryz.underlying97
  a70 := Tryz.isAgg97
  z70 := Tryz.sizeOf97
  v70 := Tryz.zeroValue97
  t72 := Tryz.underlying100
  a72 := Tryz.isAgg100
  z72 := Tryz.sizeOf100
  v72 := Tryz.zeroValue100
  t75 := Tryz.underlying27
  a75 := Tryz.isAgg27
  z75 := Tryz.sizeOf27
  v75 := Tryz.zeroValue27
  t164 := Tryz.underlying135
  a164 := Tryz.isAgg135
  z164 := Tryz.sizeOf135
  v164 := Tryz.zeroValue135 }
theorem Tryz.layB166 : Go.Proofs.Lays.n166 Tryz.prog Tryz.layB_ren := {
  mixed := by kernel_rfl
  f166 := Tryz.func43.trans (congrArg some (by kernel_rfl))
  f240 := Tryz.func94.trans (congrArg some (by kernel_rfl))
  f276 := Tryz.func127.trans (congrArg some (by kernel_rfl))
  t0 := Tryz.underlying0
  a0 := Tryz.isAgg0
  z0 := Tryz.sizeOf0
  v0 := Tryz.zeroValue0
  t3 := Tryz.underlying3
  a3 := Tryz.isAgg3
  z3 := Tryz.sizeOf3
  v3 := Tryz.zeroValue3
  t4 := Tryz.underlying4
  a4 := Tryz.isAgg4
  z4 := Tryz.sizeOf4
  v4 := Tryz.zeroValue4
  t9 := Tryz.underlying9
  a9 := Tryz.isAgg9
  z9 := Tryz.sizeOf9
  v9 := Tryz.zeroValue9
  t20 := Tryz.underlying20
  a20 := Tryz.isAgg20
  z20 := Tryz.sizeOf20
  v20 := Tryz.zeroValue20
  t37 := Tryz.underlying98
  a37 := Tryz.isAgg98
  z37 := Tryz.sizeOf98
  v37 := Tryz.zeroValue98
  t70 := Tryz.underlying97
  a70 := Tryz.isAgg97
  z70 := Tryz.sizeOf97
  v70 := Tryz.zeroValue97
  t72 := Tryz.underlying100
  a72 := Tryz.isAgg100
  z72 := Tryz.sizeOf100
  v72 := Tryz.zeroValue100
  t75 := Tryz.underlying27
  a75 := Tryz.isAgg27
  z75 := Tryz.sizeOf27
  v75 := Tryz.zeroValue27
  t164 := Tryz.underlying135
  a164 := Tryz.isAgg135
  z164 := Tryz.sizeOf135
  v164 := Tryz.zeroValue135 }
theorem Tryz.layB169 : Go.Proofs.Lays.n169 Tryz.prog Tryz.layB_ren := {
  mixed := by kernel_rfl
  f169 := Tryz.func47.trans (congrArg some (by kernel_rfl))
  t0 := Tryz.underlying0
  a0 := Tryz.isAgg0
  z0 := Tryz.sizeOf0
  v0 := Tryz.zeroValue0
  t3 := Tryz.underlying3
  a3 := Tryz.isAgg3
  z3 := Tryz.sizeOf3
  v3 := Tryz.zeroValue3
  t9 := Tryz.underlying9
  a9 := Tryz.isAgg9
  z9 := Tryz.sizeOf9
  v9 := Tryz.zeroValue9
  t37 := Tryz.underlying98
  a37 := Tryz.isAgg98
  z37 := Tryz.sizeOf98
  v37 := Tryz.zeroValue98
  t70 := Tryz.underlying97
  a70 := Tryz.isAgg97
  z70 := Tryz.sizeOf97
  v70 := Tryz.zeroValue97
  t72 := Tryz.underlying100
  a72 := Tryz.isAgg100
  z72 := Tryz.sizeOf100
  v72 := Tryz.zeroValue100
  t127 := Tryz.underlying159
  a127 := Tryz.isAgg159
  z127 := Tryz.sizeOf159
  v127 := Tryz.zeroValue159 }
theorem Tryz.layB170 : Go.Proofs.Lays.n170 Tryz.prog Tryz.layB_ren := {
  mixed := by kernel_rfl
  f170 := Tryz.func46.trans (congrArg some (by kernel_rfl))
  t0 := Tryz.underlying0
  a0 := Tryz.isAgg0
  z0 := Tryz.sizeOf0
  v0 := Tryz.zeroValue0
  t3 := Tryz.underlying3
  a3 := Tryz.isAgg3
  z3 := Tryz.sizeOf3
  v3 := Tryz.zeroValue3
  t37 := Tryz.underlying98
  a37 := Tryz.isAgg98
  z37 := Tryz.sizeOf98
  v37 := Tryz.zeroValue98
  t70 := Tryz.underlying97
  a70 := Tryz.isAgg97
  z70 := Tryz.sizeOf97
  v70 := Tryz.zeroValue97
  t72 := Tryz.underlying100
  a72 := Tryz.isAgg100
  z72 := Tryz.sizeOf100
  v72 := Tryz.zeroValue100 }
theorem Tryz.layBX : Builder.X72 Tryz.prog Tryz.layB_ren := {
  sizeBuilder := by kernel_rfl
  liesBuilder := by kernel_rfl }
theorem Tryz.layBE : Builder.Extra Tryz.prog Tryz.layB_ren := {
  sizeBuilder := by kernel_rfl
  liesBuilder := by kernel_rfl
  t5 := Tryz.underlying5
  a5 := Tryz.isAgg5
  z5 := Tryz.sizeOf5
  v5 := Tryz.zeroValue5
  infoByte := by kernel_rfl
  cellsByte := by kernel_rfl
  sizeByte := by kernel_rfl
  neB5 := by decide }
open Go.RowKit
theorem Tryz.bld_WriteByte (B b : Nat) (bs : List Value) (c : Int) (w : World) (h : Lib.IsBuilder 100 5 B b bs w) (hlen : bs.length + 1 ≤ 140737488355328) (hBw : B ≤ w.heap.size) :
    Calls Tryz.prog 45 #[.pointer (some ⟨b, 0, none⟩), .int .u8 c] w fun e w' => e = .returned .nilIface ∧ (Lib.BuilderAt 100 5 B b (.pointer (some ⟨b, 0, none⟩)) (bs ++ [.int .u8 c]) w' ∧ Below B w w') := Any.Builder_WriteByte Tryz.layB167 Tryz.layBE B b bs c w h hlen hBw
theorem Tryz.bld_WriteString (B b : Nat) (bs : List Value) (s : ByteArray) (w : World) (h : Lib.IsBuilder 100 5 B b bs w) (hlen : bs.length + s.size ≤ 140737488355328) (hBw : B ≤ w.heap.size) :
    Calls Tryz.prog 43 #[.pointer (some ⟨b, 0, none⟩), .string s] w fun e w' => e = .returned (.tuple #[.int .i64 s.size, .nilIface]) ∧ (Lib.BuilderAt 100 5 B b (.pointer (some ⟨b, 0, none⟩)) (bs ++ Lib.strCells s) w' ∧ Below B w w') := Any.Builder_WriteString Tryz.layB166 Tryz.layBE B b bs s w h hlen hBw
theorem Tryz.bld_Len (B b : Nat) (bs : List Value) (w : World) (h : Lib.IsBuilder 100 5 B b bs w) :
    Calls Tryz.prog 46 #[.pointer (some ⟨b, 0, none⟩)] w fun e w' => e = .returned (.int .i64 bs.length) ∧ w' = w := Any.Builder_Len Tryz.layB170 B b bs w h
theorem Tryz.bld_String (B b : Nat) (l : List UInt8) (w : World) (h : Lib.IsBuilder 100 5 B b (Lib.byteCells l) w) (h0 : l ≠ []) :
    Calls Tryz.prog 47 #[.pointer (some ⟨b, 0, none⟩)] w fun e w' => e = .returned (.string ⟨l.toArray⟩) ∧ Below B w w' := Any.Builder_String Tryz.layB169 Tryz.layBE B b l w h h0
end Go.Proofs
/-
  A raster's text: the walk, by hand over the library's contracts.
-/
namespace Go.Proofs.YtgjjooophigkoaaGreatDoor.txK
open Go Go.RowKit Go.Proofs.YtgjjooophigkoaaGreatDoor.Tx
set_option maxRecDepth 100000
/-- a builder stands while all old blocks stand -/
theorem bld_old {T e : TypeId} {B b : Nat} {xs : List Value} {W W' : World} (h : Lib.IsBuilder T e B b xs W) (hb : Below W.heap.size W W') : Lib.IsBuilder T e B b xs W' := by
  have key : ∀ p, Lib.BuilderAt T e B b p xs W → Lib.BuilderAt T e B b p xs W' := fun p h => by
    have hl := h.lt
    obtain ⟨h1, v, h2, h3, h4⟩ := h
    refine ⟨h1, v, by rw [hb.block b hl]; exact h2, ⟨h3.1, ?_⟩, h4⟩
    rcases h3.2 with q | ⟨g, cap, cur, q1, q2, q3, q4⟩
    · exact .inl q
    · refine .inr ⟨g, cap, cur, q1, q2, ?_, q4⟩
      have : g < W.heap.size := by
        rcases Nat.lt_or_ge g W.heap.size with h' | h'
        · exact h'
        · rw [Array.getElem?_eq_none h'] at q3; cases q3
      rw [hb.block g this]; exact q3
  rcases h with h | h
  · exact .inl (key _ h)
  · exact .inr (key _ h)
theorem below_like (a : World) {x y : World} (h : Below x.heap.size x y) (hx : x.heap = a.heap ∧ x.os = a.os ∧ x.tape = a.tape ∧ x.output = a.output) : Below a.heap.size a y := by
  obtain ⟨h1, h2, h3, h4⟩ := hx
  refine ⟨h.os.trans h2, h.tape.trans h3, h.output.trans h4, by have := h.size; rw [h1] at this; exact this, fun k hk => ?_⟩
  have := h.block k (by rw [h1]; exact hk)
  rw [h1] at this; exact this
theorem str_cells (l : List UInt8) : Lib.strCells ⟨l.toArray⟩ = Lib.byteCells l := by rw [Lib.strCells_eq]
theorem add_cells (l t : List UInt8) (c : UInt8) : Lib.byteCells l ++ [.int .u8 (c.toNat : Int)] ++ Lib.strCells ⟨t.toArray⟩ = Lib.byteCells (l ++ c :: t) := by
  rw [str_cells]; simp [Lib.byteCells]
theorem itoa_calls (n : Int) (h0 : -9223372036854775808 ≤ n) (h1 : n ≤ 9223372036854775807) (w : World) (htab : Lib.TabIs Tryz.prog w "internal/strconv.uint64pow10" .u64 Lib.pow10Tab) :
    Calls Tryz.prog 44 #[.int .i64 n] w fun e w' => e = .returned (.string ⟨(Lib.itoa n).toArray⟩) ∧ Below w.heap.size w w' :=
  (Tryz.strconv_Itoa n h0 h1 w htab).mono fun e w' ⟨e1, k, os, e2⟩ => ⟨e1, by
    rw [e2]
    refine ⟨rfl, rfl, rfl, by simp [Sort.grow], fun i hi => ?_⟩
    show ((w.drewN k).heap ++ os)[i]? = _
    rw [Array.getElem?_append_left (by show i < w.heap.size; omega)]
    rfl⟩
set_option maxHeartbeats 4000000 in
theorem text_walk (W H : Int) (L : List Int) (p : Option Addr) (cap : Nat) (w : World) (hW : 1 ≤ W ∧ W ≤ 128) (hH : 1 ≤ H ∧ H ≤ 128) (hL : L.length ≤ 16384) (hb : ∀ x ∈ L, -999999999 ≤ x ∧ x ≤ 999999999)
    (hp : ∀ i (h : i < L.length), ∃ b o, p = some ⟨b, o, none⟩ ∧ b < w.heap.size ∧ w.cell? ⟨b, o + i, none⟩ = some (.int .i64 L[i]))
    (htab : Lib.TabIs Tryz.prog w "internal/strconv.uint64pow10" .u64 Lib.pow10Tab)
    (hval : ∀ W', Below w.heap.size w W' → Calls Tryz.prog 42 #[.agg #[.int .i64 W, .int .i64 H, .slice p L.length cap]] W' fun e w'' => e = .returned .nilIface ∧ Below W'.heap.size W' w'') :
    Calls Tryz.prog 12 #[.agg #[.int .i64 W, .int .i64 H, .slice p L.length cap]] w fun e w' => e = .returned (.tuple #[.string ⟨(txt (W, H, L)).toArray⟩, .nilIface]) ∧ Below w.heap.size w w' := by
  have hA : Below w.heap.size w (w.alloc (.cells #[.int .i64 W, .int .i64 H, .slice p L.length cap] 32)) := (Below.refl _ _).alloc (Nat.le_refl _) _
  go_enter Tryz.func12, Tryz.ntmps12
  go_wp2_with (go_at_call 42; refine (hval _ hA).mono ?_; rintro e w1 ⟨rfl, hb1⟩; refine Hid.out ?_)
  have k0 : w1.cell? ⟨w.heap.size, 0, none⟩ = some (.int .i64 W) := by rw [Ab.cell_heap (hb1.block _ (by simp))]; simp
  have k1 : w1.cell? ⟨w.heap.size, 1, none⟩ = some (.int .i64 H) := by rw [Ab.cell_heap (hb1.block _ (by simp))]; simp
  have k2 : w1.cell? ⟨w.heap.size, 2, none⟩ = some (.slice p L.length cap) := by rw [Ab.cell_heap (hb1.block _ (by simp))]; simp
  have hlt : w.heap.size < w1.heap.size := by have := hb1.size; simp at this; omega
  have hw1 : Below w.heap.size w w1 := hA.trans (hb1.mono (by simp))
  have kb : w1.heap[w.heap.size]? = some (.cells #[.int .i64 W, .int .i64 H, .slice p L.length cap] 32) := by rw [hb1.block _ (by simp)]; exact heap_alloc_new _ _
  clear hb1 hA
  refine Lib.hid ?_
  go_wp2
  have hI := Lib.fresh_isBuilder 100 5 w1
  have hw2 : Below w.heap.size w (w1.alloc (.cells #[.pointer none, .slice none 0 0] 100)) := hw1.alloc (Nat.le_of_lt hlt) _
  have j0 : ∀ W', Below (w1.alloc (.cells #[.pointer none, .slice none 0 0] 100)).heap.size (w1.alloc (.cells #[.pointer none, .slice none 0 0] 100)) W' → W'.cell? ⟨w.heap.size, 0, none⟩ = some (.int .i64 W) ∧ W'.cell? ⟨w.heap.size, 1, none⟩ = some (.int .i64 H) := fun W' h => by
    rw [Ab.cell_heap (h.block w.heap.size (by simp; omega)), Ab.cell_heap (h.block w.heap.size (by simp; omega)), World.cell?_alloc_lt _ _ ⟨w.heap.size, 0, none⟩ hlt, World.cell?_alloc_lt _ _ ⟨w.heap.size, 1, none⟩ hlt]
    exact ⟨k0, k1⟩
  have jt : ∀ W', Below w.heap.size w W' → Lib.TabIs Tryz.prog W' "internal/strconv.uint64pow10" .u64 Lib.pow10Tab := Lib.tabBelow_of_tabIs htab
  have kb2 : (w1.alloc (.cells #[.pointer none, .slice none 0 0] 100)).heap[w.heap.size]? = some (.cells #[.int .i64 W, .int .i64 H, .slice p L.length cap] 32) := by rw [heap_alloc_old _ _ hlt]; exact kb
  have hs2 : (w1.alloc (.cells #[.pointer none, .slice none 0 0] 100)).heap.size = w1.heap.size + 1 := by simp
  generalize w1.alloc (.cells #[.pointer none, .slice none 0 0] 100) = w2 at *
  have l0 := (j0 _ (Below.refl _ _)).1
  have l1 := (j0 _ (Below.refl _ _)).2
  have hbl : ∀ j, (Lib.itoa W ++ (32 :: Lib.itoa H) ++ bdy W.toNat 0 (L.take j)).length ≤ 180300 := fun j => by
    have q1 := itoa_len (n := W) (by omega)
    have q2 := itoa_len (n := H) (by omega)
    have q3 := bdy_len W.toNat (L.take j) 0 (fun x hx => hb x (List.mem_of_mem_take hx))
    have q4 : (L.take j).length ≤ 16384 := by rw [List.length_take]; omega
    simp only [List.length_append, List.length_cons]
    omega
  have hsz : ((⟨(Lib.itoa W).toArray⟩ : ByteArray) ++ ⟨#[32]⟩ ++ ⟨(Lib.itoa H).toArray⟩).size ≤ 100 := by
    have q1 := itoa_len (n := W) (by omega)
    have q2 := itoa_len (n := H) (by omega)
    rw [ByteArray.size_append, ByteArray.size_append]
    show (Lib.itoa W).toArray.size + 1 + (Lib.itoa H).toArray.size ≤ 100
    simp; omega
  have e1 : ∀ w, (Op.stringOp .add ⟨(Lib.itoa W).toArray⟩ ⟨#[32]⟩).run Tryz.prog w = .ok (.string (⟨(Lib.itoa W).toArray⟩ ++ ⟨#[32]⟩)) w := fun w => by
    have q := hsz
    rw [ByteArray.size_append, ByteArray.size_append] at q
    exact run_string_add_sum w _ _ (by omega)
  have e2 : ∀ w, (Op.stringOp .add (⟨(Lib.itoa W).toArray⟩ ++ ⟨#[32]⟩) ⟨(Lib.itoa H).toArray⟩).run Tryz.prog w = .ok (.string (⟨(Lib.itoa W).toArray⟩ ++ ⟨#[32]⟩ ++ ⟨(Lib.itoa H).toArray⟩)) w := fun w => by
    have q := hsz
    rw [ByteArray.size_append] at q
    exact run_string_add_sum w _ _ (by omega)
  go_region_with (first
    | (go_at_call 44; have hq := hd3; refine (itoa_calls _ (by omega) (by omega) _ (jt _ (by first | exact hc3 | exact hc3.drew | exact hc3.drew.drew))).mono ?_; rintro e w4 ⟨rfl, hb4⟩; have hz4 := below_like w3 hb4 ⟨rfl, rfl, rfl, rfl⟩; have hd4 := hd3.trans (hz4.mono hd3.size); have hc4 := hc3.trans (hz4.mono hc3.size); have l4 := (j0 _ hd4).1; have l5 := (j0 _ hd4).2)
    | (go_at_call 44; refine (itoa_calls _ (by omega) (by omega) _ (jt _ (by first | exact hw2 | exact hw2.drew | exact hw2.drew.drew))).mono ?_; rintro e w3 ⟨rfl, hb3⟩; have hd3 := below_like w2 hb3 ⟨rfl, rfl, rfl, rfl⟩; have hc3 := hw2.trans (hd3.mono hw2.size); have l2 := (j0 _ hd3).1; have l3 := (j0 _ hd3).2)
    | (go_at_call 43; refine (Tryz.bld_WriteString w1.heap.size w1.heap.size [] _ _ (by first | exact bld_old hI hd4 | exact bld_old hI hd4.drew | exact bld_old hI hd4.drew.drew) (by simp only [List.length_nil, Nat.zero_add]; omega) (by show _ ≤ w4.heap.size; have := hd4.size; omega)).mono ?_; rintro e w5 ⟨rfl, hI5, hb5⟩))
  all_goals
    have hc5 : Below w.heap.size w w5 := by first | exact hc4.trans (hb5.mono (Nat.le_of_lt hlt)) | exact hc4.drew.trans (hb5.mono (Nat.le_of_lt hlt)) | exact hc4.drew.drew.trans (hb5.mono (Nat.le_of_lt hlt))
    have hz5 : w5.heap[w.heap.size]? = some (.cells #[.int .i64 W, .int .i64 H, .slice p L.length cap] 32) := by
      refine (hb5.block _ hlt).trans ?_
      show w4.heap[w.heap.size]? = _
      rw [hd4.block _ (by omega)]; exact kb2
    have hs5 : w1.heap.size ≤ w5.heap.size := by have := hb5.size; have h2 : w1.heap.size ≤ w4.heap.size := by have := hd4.size; omega
                                                 exact Nat.le_trans h2 this
    have hI5' : Lib.IsBuilder 100 5 w1.heap.size w1.heap.size (Lib.byteCells (Lib.itoa W ++ (32 :: Lib.itoa H) ++ bdy W.toNat 0 (L.take 0))) w5 := by
      have : ([] : List Value) ++ Lib.strCells (⟨(Lib.itoa W).toArray⟩ ++ ⟨#[32]⟩ ++ ⟨(Lib.itoa H).toArray⟩) = Lib.byteCells (Lib.itoa W ++ (32 :: Lib.itoa H) ++ bdy W.toNat 0 (L.take 0)) := by
        rw [List.nil_append, Lib.strCells_eq]
        congr 1
        simp [bdy]
      rw [this] at hI5
      exact .inr hI5
    clear hI5 hb5 hI hw2 j0 hs2 l0 l1 e1 e2 hc4 hb4 hz4 hd4 l4 l5 hq l2 l3 hd3 hc3 hb3 kb2
    have m2 : w5.cell? ⟨w.heap.size, 2, none⟩ = some (.slice p L.length cap) := by rw [World.cell?, hz5]; rfl
    go_wp2
    go_loopw [25] (fun i wr => ∃ k : Nat, k ≤ L.length ∧ i = .int .i64 k ∧ Lib.IsBuilder 100 5 w1.heap.size w1.heap.size (Lib.byteCells (Lib.itoa W ++ (32 :: Lib.itoa H) ++ bdy W.toNat 0 (L.take k))) wr ∧ Below w.heap.size w wr ∧ wr.heap[w.heap.size]? = some (.cells #[.int .i64 W, .int .i64 H, .slice p L.length cap] 32) ∧ w1.heap.size ≤ wr.heap.size)
      (fun i _ => L.length - (intOf i).toNat)
    case atStart => exact ⟨0, Nat.zero_le _, rfl, hI5', hc5, hz5, hs5⟩
    case round =>
      obtain ⟨k, hk, rfl, hIr, hcr, hzr, hsr⟩ := hrel
      have r0 : wr.cell? ⟨w.heap.size, 0, none⟩ = some (.int .i64 W) := by rw [World.cell?, hzr]; rfl
      by_cases hkl : k < L.length
      · obtain ⟨pb, po, rfl, hpb, hpc⟩ := hp k hkl
        have r1 : wr.cell? ⟨pb, po + k, none⟩ = some (.int .i64 L[k]) := by rw [Ab.cell_heap (hcr.block _ hpb)]; exact hpc
        have hx := hb L[k] (List.getElem_mem hkl)
        have hrem : (((k : Int) % W == 0) = true) ↔ k % W.toNat = 0 := by
          obtain ⟨m, rfl⟩ : ∃ m : Nat, W = m := ⟨W.toNat, by omega⟩
          rw [beq_iff_eq]
          show ((k : Int) % (m : Int)) = 0 ↔ k % m = 0
          omega
        have hsn : L.take (k + 1) = L.take k ++ [L[k]] := List.take_succ_eq_append_getElem hkl
        have htl : (L.take k).length = k := by rw [List.length_take]; omega
        by_cases hm : k % W.toNat = 0
        · have hcd : ((k : Int) % W == 0) = true := hrem.2 hm
          go_wp2_with (first
            | (go_at_call 45; refine (Tryz.bld_WriteByte w1.heap.size w1.heap.size _ _ _ hIr (by rw [Lib.byteCells_length]; have := hbl k; omega) hsr).mono ?_; rintro e wA ⟨rfl, hIA, hbA⟩; have hcA := hcr.trans (hbA.mono (Nat.le_of_lt hlt)))
            | (go_at_call 44; refine (itoa_calls _ (by omega) (by omega) _ (jt _ hcA)).mono ?_; rintro e wB ⟨rfl, hbB⟩)
            | (go_at_call 43; refine (Tryz.bld_WriteString w1.heap.size w1.heap.size _ _ wB (bld_old (.inr hIA) hbB) (by have q1 := hbl k; have q2 := itoa_len hx; rw [List.length_append, Lib.byteCells_length]; show _ + (Lib.itoa L[k]).toArray.size ≤ _; simp only [List.size_toArray, List.length_singleton]; omega) (Nat.le_trans (Nat.le_trans hsr hbA.size) hbB.size)).mono ?_; rintro e wC ⟨rfl, hIC, hbC⟩))
          have hcC := hcA.trans ((hbB.mono (Nat.le_trans (Nat.le_of_lt hlt) (Nat.le_trans hsr hbA.size))).trans (hbC.mono (Nat.le_of_lt hlt)))
          have hzC : wC.heap[w.heap.size]? = wr.heap[w.heap.size]? := (hbC.block _ hlt).trans ((hbB.block _ (Nat.lt_of_lt_of_le hlt (Nat.le_trans hsr hbA.size))).trans (hbA.block _ hlt))
          refine ⟨⟨k + 1, by omega, by simp, ?_, hcC, hzC.trans hzr, Nat.le_trans (Nat.le_trans (Nat.le_trans hsr hbA.size) hbB.size) hbC.size⟩, by simp [intOf]; omega⟩
          rw [hsn, bdy_snoc, Nat.zero_add, htl, if_pos hm, ← List.append_assoc, ← add_cells]
          exact .inr hIC
        · have hcd : ((k : Int) % W == 0) = false := (by rw [← Bool.not_eq_true]; exact fun e => hm (hrem.1 e))
          go_wp2_with (first
            | (go_at_call 45; refine (Tryz.bld_WriteByte w1.heap.size w1.heap.size _ _ _ hIr (by rw [Lib.byteCells_length]; have := hbl k; omega) hsr).mono ?_; rintro e wA ⟨rfl, hIA, hbA⟩; have hcA := hcr.trans (hbA.mono (Nat.le_of_lt hlt)))
            | (go_at_call 44; refine (itoa_calls _ (by omega) (by omega) _ (jt _ hcA)).mono ?_; rintro e wB ⟨rfl, hbB⟩)
            | (go_at_call 43; refine (Tryz.bld_WriteString w1.heap.size w1.heap.size _ _ wB (bld_old (.inr hIA) hbB) (by have q1 := hbl k; have q2 := itoa_len hx; rw [List.length_append, Lib.byteCells_length]; show _ + (Lib.itoa L[k]).toArray.size ≤ _; simp only [List.size_toArray, List.length_singleton]; omega) (Nat.le_trans (Nat.le_trans hsr hbA.size) hbB.size)).mono ?_; rintro e wC ⟨rfl, hIC, hbC⟩))
          have hcC := hcA.trans ((hbB.mono (Nat.le_trans (Nat.le_of_lt hlt) (Nat.le_trans hsr hbA.size))).trans (hbC.mono (Nat.le_of_lt hlt)))
          have hzC : wC.heap[w.heap.size]? = wr.heap[w.heap.size]? := (hbC.block _ hlt).trans ((hbB.block _ (Nat.lt_of_lt_of_le hlt (Nat.le_trans hsr hbA.size))).trans (hbA.block _ hlt))
          refine ⟨⟨k + 1, by omega, by simp, ?_, hcC, hzC.trans hzr, Nat.le_trans (Nat.le_trans (Nat.le_trans hsr hbA.size) hbB.size) hbC.size⟩, by simp [intOf]; omega⟩
          rw [hsn, bdy_snoc, Nat.zero_add, htl, if_neg hm, ← List.append_assoc, ← add_cells]
          exact .inr hIC
      · obtain rfl : k = L.length := by omega
        have hfull : L.take L.length = L := List.take_length
        have hbk := hbl L.length
        rw [hfull] at hIr hbk
        go_wp2_with (go_at_call 45; refine (Tryz.bld_WriteByte w1.heap.size w1.heap.size _ _ _ hIr (by rw [Lib.byteCells_length]; omega) hsr).mono ?_; rintro e wA ⟨rfl, hIA, hbA⟩; have hcA := hcr.trans (hbA.mono (Nat.le_of_lt hlt)); refine Hid.out ?_)
        have hIL : Lib.IsBuilder 100 5 w1.heap.size w1.heap.size (Lib.byteCells (txt (W, H, L))) wA := by
          have e : Lib.byteCells (Lib.itoa W ++ (32 :: Lib.itoa H) ++ bdy W.toNat 0 L) ++ [.int .u8 10] = Lib.byteCells (txt (W, H, L)) := by
            unfold txt; simp [Lib.byteCells]
          rw [e] at hIA; exact .inr hIA
        have hne : txt (W, H, L) ≠ [] := by unfold txt; simp
        have hle : (txt (W, H, L)).length ≤ 180301 := by
          have e0 : txt (W, H, L) = Lib.itoa W ++ (32 :: Lib.itoa H) ++ bdy W.toNat 0 L ++ [10] := rfl
          rw [e0, List.length_append]
          show _ + 1 ≤ _
          omega
        clear hIA
        obtain ⟨l, hl⟩ : ∃ l, l = txt (W, H, L) := ⟨_, rfl⟩
        rw [← hl] at hIL hne hle
        have HL := Lib.hid hl
        clear hl
        have hno : ¬ ((200000 : Int) < (l.length : Int)) := by omega
        have hbc : (Lib.byteCells l).length = l.length := Lib.byteCells_length l
        refine Lib.hid ?_
        go_wp2_with (first
          | (go_at_call 46; refine (Tryz.bld_Len w1.heap.size w1.heap.size _ _ hIL).mono ?_; rintro e wL ⟨rfl, rfl⟩)
          | (go_at_call 47; refine (Tryz.bld_String w1.heap.size w1.heap.size l _ hIL hne).mono ?_; rintro e wS ⟨rfl, hbS⟩))
        have hl := HL.out
        go_ret2
        subst hl
        exact ⟨rfl, hcA.trans (hbS.mono (Nat.le_of_lt hlt))⟩
end Go.Proofs.YtgjjooophigkoaaGreatDoor.txK
/-
  Around each cell: the walk.
-/
namespace Go.Proofs.YtgjjooophigkoaaGreatDoor
open Go Go.Ab
set_option maxRecDepth 100000
def errA (E : Errs) : Nat → Addr
  | 1 => E.text
  | 2 => E.bound
  | 3 => E.shape
  | 4 => E.range
  | _ => E.none
theorem valid_err (E : Errs) (a : Ras) (hl : a.2.2.length ≤ 1000000000000) (K : AV → List AO → Prop)
    (h0 : rerr a = 0 → K (.fz .raw .nilIface) []) (he : ∀ e, rerr a = e → 0 < e → K (.fz .raw (errV (errA E e))) []) : ACall Tryz.prog (GE E) 42 [.fz RasT a] [] K :=
  valid_any E a hl K h0 (fun h => he 2 h (by decide)) (fun h => he 3 h (by decide)) (fun h => he 4 h (by decide))
def aerr (a : Ras) (reach : Int) : Nat := if 0 < rerr a then rerr a else if reach < 0 ∨ 128 < reach then 3 else 0
def seg (a : Ras) (reach : Int) (c : Nat) (y : Int) : List Int := (a.2.2.drop (y * a.1 + max 0 (c - reach)).toNat).take ((y * a.1 + min (a.1 - 1) (c + reach) + 1).toNat - (y * a.1 + max 0 (c - reach)).toNat)
def segs (a : Ras) (reach : Int) (c : Nat) (lo : Int) : Nat → List Int
  | 0 => []
  | k + 1 => segs a reach c lo k ++ seg a reach c (lo + k)
/-- the cells around one -/
def winW (a : Ras) (reach : Int) (r c : Nat) : List Int := segs a reach c (max 0 (r - reach)) (min (a.2.1 - 1) (r + reach) + 1 - max 0 (r - reach)).toNat
def rowW (F : List Int → Int) (a : Ras) (reach : Int) (r : Nat) : Nat → List Int
  | 0 => []
  | c + 1 => rowW F a reach r c ++ [F (winW a reach r c)]
def allW (F : List Int → Int) (a : Ras) (reach : Int) : Nat → List Int
  | 0 => []
  | r + 1 => allW F a reach r ++ rowW F a reach r a.1.toNat
theorem row_bd {y H W : Int} (h1 : 0 ≤ y) (h2 : y + 1 ≤ H) (hW : 0 ≤ W) : 0 ≤ y * W ∧ y * W + W ≤ W * H := by
  have h3 := Int.mul_nonneg h1 hW
  have h4 : (y + 1) * W ≤ H * W := Int.mul_le_mul_of_nonneg_right h2 hW
  rw [Int.add_mul, Int.one_mul, Int.mul_comm H W] at h4
  exact ⟨h3, h4⟩
theorem seg_len {a : Ras} (h : a.1 ≤ 128) (reach : Int) (c : Nat) (y : Int) : (seg a reach c y).length ≤ 128 := by
  unfold seg; rw [List.length_take]; omega
theorem segs_len {a : Ras} (h : a.1 ≤ 128) (reach : Int) (c : Nat) (lo : Int) : ∀ k, (segs a reach c lo k).length ≤ k * 128
  | 0 => Nat.le_refl _
  | k + 1 => by
    have h1 := segs_len h reach c lo k
    have h2 := seg_len h reach c (lo + k)
    unfold segs; rw [List.length_append]; omega
theorem seg_mem {a : Ras} {reach : Int} {c : Nat} {y x : Int} (h : x ∈ seg a reach c y) : x ∈ a.2.2 := List.mem_of_mem_drop (List.mem_of_mem_take h)
theorem segs_mem {a : Ras} {reach : Int} {c : Nat} {lo x : Int} : ∀ {k}, x ∈ segs a reach c lo k → x ∈ a.2.2
  | 0, h => by cases h
  | k + 1, h => by
    unfold segs at h
    rcases List.mem_append.1 h with h | h
    · exact segs_mem h
    · exact seg_mem h
theorem win_ne {a : Ras} {reach : Int} {r c : Nat} (h0 : 0 ≤ reach) (hr : (r : Int) < a.2.1) (hc : (c : Int) < a.1) (hl : (a.2.2.length : Int) = a.1 * a.2.1) : winW a reach r c ≠ [] := by
  unfold winW
  obtain ⟨k, hk⟩ : ∃ k : Nat, (min (a.2.1 - 1) (r + reach) + 1 - max 0 (r - reach)).toNat = k + 1 := ⟨(min (a.2.1 - 1) (r + reach) + 1 - max 0 (r - reach)).toNat - 1, by omega⟩
  rw [hk]
  unfold segs
  have := row_bd (y := max 0 (r - reach) + k) (H := a.2.1) (W := a.1) (by omega) (by omega) (by omega)
  have h1 : 0 < (seg a reach c (max 0 (r - reach) + k)).length := by unfold seg; rw [List.length_take, List.length_drop]; omega
  intro he
  rw [List.append_eq_nil_iff] at he
  rw [he.2] at h1; simp at h1
theorem rerr_ok {a : Ras} (hv : rerr a = 0) : (1 ≤ a.1 ∧ 1 ≤ a.2.1 ∧ a.1 ≤ 128 ∧ a.2.1 ≤ 128 ∧ (a.2.2.length : Int) = a.1 * a.2.1) ∧ ∀ x ∈ a.2.2, bigB x = false := by
  unfold rerr at hv
  split at hv; omega
  split at hv; omega
  split at hv; omega
  rename_i h1 h2 h3
  refine ⟨by omega, fun x hx => ?_⟩
  simp only [List.any_eq_true, not_exists, not_and, Bool.not_eq_true] at h3
  exact h3 x hx
theorem rowW_len (F : List Int → Int) (a : Ras) (reach : Int) (r : Nat) : ∀ c, (rowW F a reach r c).length = c
  | 0 => rfl
  | c + 1 => by unfold rowW; rw [List.length_append, rowW_len F a reach r c]; rfl
theorem allW_len (F : List Int → Int) (a : Ras) (reach : Int) : ∀ r, (allW F a reach r).length = r * a.1.toNat
  | 0 => by simp [allW]
  | r + 1 => by unfold allW; rw [List.length_append, allW_len F a reach r, rowW_len, Nat.succ_mul]
end Go.Proofs.YtgjjooophigkoaaGreatDoor
/-
  Most, least; opened, closed; two rasters.
-/
namespace Go.Proofs.YtgjjooophigkoaaGreatDoor
open Go Go.Ab
set_option maxRecDepth 100000
abbrev RE (a : Ras) (v : Value) : AV := .tup [.fz RasT a, .fz .raw v]
/-- most, least of a raster -/
def onR (F : List Int → Int) (a : Ras) (reach : Int) : Ras := (a.1, a.2.1, allW F a reach a.2.1.toNat)
theorem onR_len {F : List Int → Int} {a : Ras} {reach : Int} (h : rerr a = 0) : (onR F a reach).2.2.length = a.2.2.length := by
  obtain ⟨⟨h1, h2, _, _, h3⟩, _⟩ := rerr_ok h
  show (allW F a reach a.2.1.toNat).length = _
  rw [allW_len]
  have : ((a.2.1.toNat * a.1.toNat : Nat) : Int) = a.2.1 * a.1 := by rw [Int.natCast_mul]; congr 1 <;> omega
  rw [Int.mul_comm] at this; omega
end Go.Proofs.YtgjjooophigkoaaGreatDoor
/-
  The same numbers; a raster of such a size; two rasters.
-/
namespace Go.Proofs.YtgjjooophigkoaaGreatDoor
open Go Go.Ab
set_option maxRecDepth 100000
theorem sameInts_any (G : List (Nat × Value)) (xs ys : List Int) (hl : xs.length ≤ 1000000000000) (K : AV → List AO → Prop) (hK : K (.fz .bool (decide (xs = ys))) []) :
    ACall Tryz.prog G 56 [.fz (.list int) xs, .fz (.list int) ys] [] K := by
  refine acall_mk (E := envAt G 26 0) (envOk _ _ _) Tryz.func56 rfl rfl rfl rfl rfl ?_
  (repeat' (first | exact trivial | exact fun h => h | refine And.intro ?_ ?_ | (intro hb; first | (simp at hb; done) | (simp at hb) | skip) | omega | exact rfl | exact Nat.le_refl _ | (show _ + 1 ≤ 4294967296; omega) | (dsimp only; omega) | (show (_ : Int) ≤ (_ : Int); omega) | (show _ < List.length _; simp only [List.length_set, List.length_append, List.length_take]; omega) | (show wantB _ _ = true; simp; done) | (show wantB _ _ = true; simp; omega) | (show (_ : Bool) = _; simp_all; done) | (exfalso; omega) | refine aRegion_auto (by decide +kernel) ?_ | fail))
  · refine ⟨_, _, REnt.drop ⟨rfl, rfl⟩, ?_⟩
    have : decide (xs = ys) = false := by simp; intro h; subst h; exact hb rfl
    rw [this] at hK; exact hK
  refine ⟨Nat, fun k => ⟨[(0, .fz (.list int) xs), (1, .fz (.list int) ys), (5, .fz int k)], []⟩, fun k => k ≤ xs.length ∧ ∀ j, j < k → xs.getD j 0 = ys.getD j 0, fun k => xs.length - k, 0, ⟨Nat.zero_le _, fun j h => absurd h (Nat.not_lt_zero _)⟩, Ent.sub rfl ⟨rfl, rfl, rfl⟩, ?_⟩
  intro k ⟨hk, hp⟩
  (repeat' (first | exact trivial | exact fun h => h | refine And.intro ?_ ?_ | (intro hb; first | (simp at hb; done) | (simp at hb) | skip) | omega | exact rfl | exact Nat.le_refl _ | (show _ + 1 ≤ 4294967296; omega) | (dsimp only; omega) | (show (_ : Int) ≤ (_ : Int); omega) | (show _ < List.length _; simp only [List.length_set, List.length_append, List.length_take]; omega) | (show wantB _ _ = true; simp; done) | (show wantB _ _ = true; simp; omega) | (show (_ : Bool) = _; simp_all; done) | (exfalso; omega) | refine aRegion_auto (by decide +kernel) ?_ | fail))
  · refine ⟨_, _, REnt.drop ⟨rfl, rfl⟩, ?_⟩
    have : decide (xs = ys) = false := by
      simp; intro h; subst h
      exact hb rfl
    rw [this] at hK; exact hK
  · refine ⟨k + 1, ⟨by omega, fun j hj => ?_⟩, by show _ - _ < _ - _; omega, Ent.sub rfl ⟨rfl, rfl, rfl⟩⟩
    by_cases h : j = k
    · subst h; exact hb
    · exact hp j (by omega)
  · refine ⟨_, _, REnt.drop ⟨rfl, rfl⟩, ?_⟩
    have : decide (xs = ys) = true := by
      simp
      refine List.ext_getElem (by omega) fun i h1 h2 => ?_
      have := hp i (by omega)
      simpa [List.getD, h1, h2] using this
    rw [this] at hK; exact hK
def isB (a : Ras) (w h : Int) (l : List Int) : Bool := decide (a.1 = w) && decide (a.2.1 = h) && decide (a.2.2 = l)
theorem is_any (G : List (Nat × Value)) (a : Ras) (w h : Int) (l : List Int) (hl : a.2.2.length ≤ 1000000000000) (K : AV → List AO → Prop) (hK : K (.fz .bool (isB a w h l)) []) :
    ACall Tryz.prog G 17 [.fz RasT a, .fz int w, .fz int h, .fz (.list int) l] [] K := by
  refine acall_mk (E := envAt G 25 0) (envOk _ _ _) Tryz.func17 rfl rfl rfl rfl rfl ?_
  (repeat' (first | exact trivial | exact fun h => h | refine And.intro ?_ ?_ | (intro hb; first | (simp at hb; done) | (simp at hb) | skip) | omega | exact rfl | exact Nat.le_refl _ | (show _ + 1 ≤ 4294967296; omega) | (dsimp only; omega) | (show (_ : Int) ≤ (_ : Int); omega) | (show _ < List.length _; simp only [List.length_set, List.length_append, List.length_take]; omega) | (show wantB _ _ = true; simp; done) | (show wantB _ _ = true; simp; omega) | (show (_ : Bool) = _; simp_all; done) | (exfalso; omega) | refine aRegion_auto (by decide +kernel) ?_ | refine ⟨_, _, REnt.drop ⟨rfl, rfl⟩, ?_⟩ | fail))
  · refine acall_frame0 rfl (sameInts_any _ _ _ hl _ ?_)
    (repeat' (first | exact trivial | exact fun h => h | refine And.intro ?_ ?_ | (intro hb; first | (simp at hb; done) | (simp at hb) | skip) | omega | exact rfl | exact Nat.le_refl _ | (show _ + 1 ≤ 4294967296; omega) | (dsimp only; omega) | (show (_ : Int) ≤ (_ : Int); omega) | (show _ < List.length _; simp only [List.length_set, List.length_append, List.length_take]; omega) | (show wantB _ _ = true; simp; done) | (show wantB _ _ = true; simp; omega) | (show (_ : Bool) = _; simp_all; done) | (exfalso; omega) | refine aRegion_auto (by decide +kernel) ?_ | refine ⟨_, _, REnt.drop ⟨rfl, rfl⟩, ?_⟩ | fail))
    have e : isB a w h l = decide (a.2.2 = l) := by simp [isB, hb]
    simp only [hb, beq_self_eq_true, cond_true]
    rw [e] at hK; exact hK
  · have e : isB a w h l = false := by
      unfold isB
      by_cases h1 : a.1 = w
      · simp [h1, hb h1]
      · simp [h1]
    rw [e] at hK; exact hK
end Go.Proofs.YtgjjooophigkoaaGreatDoor
/-
  Two rasters, cell by cell.
-/
namespace Go.Proofs.YtgjjooophigkoaaGreatDoor
open Go Go.Ab
set_option maxRecDepth 100000
theorem kb {K : AV → List AO → Prop} {b b' : Bool} (h : K (.fz .bool b) []) (e : b = b') : K (.fz .bool b') [] := e ▸ h
theorem kz {K : AV → List AO → Prop} {b b' : Int} (h : K (.fz int b) []) (e : b = b') : K (.fz int b') [] := e ▸ h
def perr (a b : Ras) : Nat := if 0 < rerr a then rerr a else if 0 < rerr b then rerr b else if a.1 ≠ b.1 ∨ a.2.1 ≠ b.2.1 then 3 else 0
theorem alike_any (E : Errs) (a b : Ras) (ha : a.2.2.length ≤ 1000000000000) (hb : b.2.2.length ≤ 1000000000000) (K : AV → List AO → Prop)
    (h0 : perr a b = 0 → K (.fz .raw .nilIface) []) (he : ∀ e, perr a b = e → 0 < e → K (.fz .raw (errV (errA E e))) []) : ACall Tryz.prog (GE E) 30 [.fz RasT a, .fz RasT b] [] K := by
  refine acall_mk (E := envAt (GE E) 35 0) (envOk _ _ _) Tryz.func30 rfl rfl rfl rfl rfl ?_
  (repeat' (first | exact trivial | exact fun h => h | refine And.intro ?_ ?_ | (intro hb; first | (simp at hb; done) | (simp at hb) | skip) | omega | exact rfl | exact Nat.le_refl _ | (show _ + 1 ≤ 4294967296; omega) | (dsimp only; omega) | (show (_ : Int) ≤ (_ : Int); omega) | (show _ < List.length _; simp only [List.length_set, List.length_append, List.length_take]; omega) | (show wantB _ _ = true; simp; done) | (show wantB _ _ = true; simp; omega) | (show (_ : Bool) = _; simp_all; done) | (exfalso; omega) | refine aRegion_auto (by decide +kernel) ?_ | refine ⟨_, _, REnt.drop ⟨rfl, rfl⟩, ?_⟩ | fail))
  refine ⟨Nat, fun k => ⟨[(2, .ptr 0 0), (3, .ptr 1 0), (4, .fz .raw .nilIface), (10, .ref 2 0 2), (11, .fz int 2), (12, .fz int k)], [.box [.fz int a.1, .fz int a.2.1, .fz (.list int) a.2.2], .box [.fz int b.1, .fz int b.2.1, .fz (.list int) b.2.2], .row RasT [a, b]]⟩, fun k => k ≤ 2 ∧ ∀ j, j < k → rerr (([a, b] : List Ras).getD j a) = 0, fun k => 2 - k, 0, ⟨Nat.zero_le _, fun j h => absurd h (Nat.not_lt_zero _)⟩, Ent.sub rfl ⟨rfl, rfl, rfl, rfl, rfl, rfl⟩, ?_⟩
  intro k ⟨hk, hp⟩
  have hl2 : List.length ([a, b] : List RasT.den) = 2 := rfl
  (repeat' (first | exact trivial | exact fun h => h | refine And.intro ?_ ?_ | (intro hb; first | (simp at hb; done) | (simp at hb) | skip) | omega | exact rfl | exact Nat.le_refl _ | (show _ + 1 ≤ 4294967296; omega) | (dsimp only; omega) | (show (_ : Int) ≤ (_ : Int); omega) | (show _ < List.length _; simp only [List.length_set, List.length_append, List.length_take]; omega) | (show wantB _ _ = true; simp; done) | (show wantB _ _ = true; simp; omega) | (show (_ : Bool) = _; simp_all; done) | (exfalso; omega) | refine aRegion_auto (by decide +kernel) ?_ | refine ⟨_, _, REnt.drop ⟨rfl, rfl⟩, ?_⟩ | fail))
  · have hx : ∀ P : Ras → Prop, P a → P b → P (([a, b] : List Ras).getD (0 + Int.toNat (k : Int)) (Ty.dft RasT)) := by
      intro P h1 h2
      rcases (show k = 0 ∨ k = 1 by omega) with rfl | rfl
      · exact h1
      · exact h2
    refine acall_conv [.dat RasT] _ _ _ rfl trivial (acall_frame0 rfl (valid_err E _ (hx (fun x => x.2.2.length ≤ 1000000000000) ha (by assumption)) _ (fun h => ?_) (fun e h1 h2 => ?_)))
    · (repeat' (first | exact trivial | exact fun h => h | refine And.intro ?_ ?_ | (intro hb; first | (simp at hb; done) | (simp at hb) | skip) | omega | exact rfl | exact Nat.le_refl _ | (show _ + 1 ≤ 4294967296; omega) | (dsimp only; omega) | (show (_ : Int) ≤ (_ : Int); omega) | (show _ < List.length _; simp only [List.length_set, List.length_append, List.length_take]; omega) | (show wantB _ _ = true; simp; done) | (show wantB _ _ = true; simp; omega) | (show (_ : Bool) = _; simp_all; done) | (exfalso; omega) | refine aRegion_auto (by decide +kernel) ?_ | refine ⟨_, _, REnt.drop ⟨rfl, rfl⟩, ?_⟩ | fail))
      refine ⟨k + 1, ⟨by omega, fun j hj => ?_⟩, by show _ - _ < _ - _; omega, Ent.ren [0, 1, 2] rfl ?_ ?_⟩
      · by_cases hjk : j = k
        · subst hjk
          rcases (show j = 0 ∨ j = 1 by omega) with rfl | rfl
          · exact h
          · exact h
        · exact hp j (by omega)
      · (repeat' (first | exact trivial | exact rfl | refine And.intro ?_ ?_))
      · (repeat' (first | exact trivial | exact rfl | refine And.intro ?_ ?_))
    · (repeat' (first | exact trivial | exact fun h => h | refine And.intro ?_ ?_ | (intro hb; first | (simp at hb; done) | (simp at hb) | skip) | omega | exact rfl | exact Nat.le_refl _ | (show _ + 1 ≤ 4294967296; omega) | (dsimp only; omega) | (show (_ : Int) ≤ (_ : Int); omega) | (show _ < List.length _; simp only [List.length_set, List.length_append, List.length_take]; omega) | (show wantB _ _ = true; simp; done) | (show wantB _ _ = true; simp; omega) | (show (_ : Bool) = _; simp_all; done) | (exfalso; omega) | refine aRegion_auto (by decide +kernel) ?_ | refine ⟨_, _, REnt.drop ⟨rfl, rfl⟩, ?_⟩ | fail))
      refine he e ?_ h2
      rcases (show k = 0 ∨ k = 1 by omega) with rfl | rfl
      · have h1 : rerr a = e := h1
        unfold perr; rw [if_pos (by omega)]; exact h1
      · have h1 : rerr b = e := h1
        have h3 := hp 0 (by omega)
        simp at h3
        unfold perr; rw [if_neg (by omega), if_pos (by omega)]; exact h1
  · refine he 3 ?_ (by decide)
    have h1 := hp 0 (by omega)
    have h2 := hp 1 (by omega)
    simp at h1 h2
    unfold perr; rw [if_neg (by omega), if_neg (by omega), if_pos hb]
  · refine h0 ?_
    have h1 := hp 0 (by omega)
    have h2 := hp 1 (by omega)
    simp at h1 h2
    unfold perr; rw [if_neg (by omega), if_neg (by omega), if_neg (by omega)]
end Go.Proofs.YtgjjooophigkoaaGreatDoor
