/-
  The document's answer for a raster; most, least, sums.
-/
import Derived.Test.YtidhgdipnfhoeaaDoorE2
namespace Go.Proofs.YtidhgdipnfhoeaaDoor
open Go Go.Ab
set_option maxRecDepth 100000
theorem rerr_in (a : Ras) : rerr a ≤ 4 := by unfold rerr; split; omega; split; omega; split <;> omega
theorem take_any (p : Int → Bool) (l : List Int) (k : Nat) (hk : k < l.length) : (l.take (k + 1)).any p = ((l.take k).any p || p (l.getD k 0)) := by
  rw [List.take_succ_eq_append_getElem hk, List.any_append]; simp [List.getD, hk]
theorem any_in (p : Int → Bool) (l : List Int) (k : Nat) (hk : k < l.length) (h : p (l.getD k 0) = true) : l.any p = true := by
  rw [List.any_eq_true]; exact ⟨l[k], List.getElem_mem hk, by simpa [List.getD, hk] using h⟩
theorem rasterError_any (G : List (Nat × Value)) (a : Ras) (hl : a.2.2.length ≤ 1000000000000) (K : AV → List AO → Prop) (hK : K (.fz int (rerr a)) []) :
    ACall Tryd.prog G 10 [.fptr RasT a] [] K := by
  refine acall_mk (E := envAt G 64 0) (envOk _ _ _) Tryd.func10 rfl rfl rfl rfl rfl ?_
  (repeat' (first | exact trivial | exact fun h => h | refine And.intro ?_ ?_ | (intro hb; first | (simp at hb; done) | (simp at hb) | skip) | omega | exact rfl | exact Nat.le_refl _ | (show _ + 1 ≤ 4294967296; omega) | (dsimp only; omega) | (show wantB _ _ = true; simp; done) | (show wantB _ _ = true; simp; omega) | (show (_ : Bool) = _; simp_all; done) | (exfalso; omega) | refine aRegion_auto (by decide +kernel) ?_ | fail))
  · refine ⟨_, _, REnt.drop ⟨rfl, rfl⟩, ?_⟩
    have : rerr a = 2 := by unfold rerr; rw [if_pos hb]
    rw [this] at hK; exact hK
  · have := mul_bd (a := a.1) (b := a.2.1) (A := 128) (B := 128) (by omega) (by omega) (by omega) (by omega); omega
  · have := mul_bd (a := a.1) (b := a.2.1) (A := 128) (B := 128) (by omega) (by omega) (by omega) (by omega); omega
  · refine ⟨_, _, REnt.drop ⟨rfl, rfl⟩, ?_⟩
    have : rerr a = 3 := by unfold rerr; rw [if_neg (by omega), if_pos (by omega)]
    rw [this] at hK; exact hK
  refine ⟨Nat, fun k => ⟨[(0, .fptr RasT a), (3, .fz int k)], []⟩, fun k => k ≤ a.2.2.length ∧ (a.2.2.take k).any bigB = false, fun k => a.2.2.length - k, 0, ⟨Nat.zero_le _, rfl⟩, Ent.sub rfl ⟨rfl, rfl⟩, ?_⟩
  intro k ⟨hk, hp⟩
  (repeat' (first | exact trivial | exact fun h => h | refine And.intro ?_ ?_ | (intro hb; first | (simp at hb; done) | (simp at hb) | skip) | omega | exact rfl | exact Nat.le_refl _ | (show _ + 1 ≤ 4294967296; omega) | (dsimp only; omega) | (show wantB _ _ = true; simp; done) | (show wantB _ _ = true; simp; omega) | (show (_ : Bool) = _; simp_all; done) | (exfalso; omega) | refine aRegion_auto (by decide +kernel) ?_ | fail))
  · refine acall_frame0 rfl (great_any G _ _ ?_)
    (repeat' (first | exact trivial | exact fun h => h | refine And.intro ?_ ?_ | (intro hb; first | (simp at hb; done) | (simp at hb) | skip) | omega | exact rfl | exact Nat.le_refl _ | (show _ + 1 ≤ 4294967296; omega) | (dsimp only; omega) | (show wantB _ _ = true; simp; done) | (show wantB _ _ = true; simp; omega) | (show (_ : Bool) = _; simp_all; done) | (exfalso; omega) | refine aRegion_auto (by decide +kernel) ?_ | fail))
    · refine ⟨_, _, REnt.drop ⟨rfl, rfl⟩, ?_⟩
      have : rerr a = 4 := by unfold rerr; rw [if_neg (by omega), if_neg (by omega), if_pos (any_in bigB _ k (by omega) hb)]
      rw [this] at hK; exact hK
    · refine ⟨k + 1, ⟨by omega, ?_⟩, by show _ - _ < _ - _; omega, Ent.sub rfl ⟨rfl, rfl⟩⟩
      have hb : bigB (a.2.2.getD k 0) = false := hb
      rw [take_any _ _ _ (by omega), hp, hb]; rfl
  · refine ⟨_, _, REnt.drop ⟨rfl, rfl⟩, ?_⟩
    have : rerr a = 0 := by
      have hk : k = a.2.2.length := by omega
      subst hk
      rw [List.take_length] at hp
      unfold rerr; rw [if_neg (by omega), if_neg (by omega), if_neg (by simp [hp])]
    rw [this] at hK; exact hK
def maxL : List Int → Int
  | [] => 0
  | x :: l => l.foldl max x
def minL : List Int → Int
  | [] => 0
  | x :: l => l.foldl min x
theorem foldl_take (f : Int → Int → Int) (l : List Int) (k : Nat) (hk : k < l.length) (x : Int) : (l.take (k + 1)).foldl f x = f ((l.take k).foldl f x) (l.getD k 0) := by
  rw [List.take_succ_eq_append_getElem hk, List.foldl_append]; simp [List.getD, hk]
theorem max_any (G : List (Nat × Value)) (xs : List Int) (hn : xs ≠ []) (hl : xs.length ≤ 1000000000000) (K : AV → List AO → Prop) (hK : K (.fz int (maxL xs)) []) :
    ACall Tryd.prog G 41 [.fz (.list int) xs] [] K := by
  refine acall_mk (E := envAt G 25 0) (envOk _ _ _) Tryd.func41 rfl rfl rfl rfl rfl ?_
  obtain ⟨x, l, rfl⟩ := List.exists_cons_of_ne_nil hn
  have h0 : (x :: l).length = l.length + 1 := rfl
  (repeat' (first | exact trivial | exact fun h => h | refine And.intro ?_ ?_ | (intro hb; first | (simp at hb; done) | (simp at hb) | skip) | omega | exact rfl | exact Nat.le_refl _ | (show _ + 1 ≤ 4294967296; omega) | (dsimp only; omega) | (show wantB _ _ = true; simp; done) | (show wantB _ _ = true; simp; omega) | (show (_ : Bool) = _; simp_all; done) | (exfalso; omega) | refine aRegion_auto (by decide +kernel) ?_ | fail))
  refine ⟨Nat, fun k => ⟨[(0, .fz (.list int) (x :: l)), (4, .fz int ((k : Int) + 1)), (3, .fz int ((l.take k).foldl max x))], []⟩, fun k => k ≤ l.length, fun k => l.length - k, 0, Nat.zero_le _, Ent.sub rfl ⟨rfl, rfl, rfl⟩, ?_⟩
  intro k hk
  (repeat' (first | exact trivial | exact fun h => h | refine And.intro ?_ ?_ | (intro hb; first | (simp at hb; done) | (simp at hb) | skip) | omega | exact rfl | exact Nat.le_refl _ | (show _ + 1 ≤ 4294967296; omega) | (dsimp only; omega) | (show wantB _ _ = true; simp; done) | (show wantB _ _ = true; simp; omega) | (show (_ : Bool) = _; simp_all; done) | (exfalso; omega) | refine aRegion_auto (by decide +kernel) ?_ | fail))
  · refine ⟨k + 1, by omega, by show _ - _ < _ - _; omega, Ent.sub rfl ⟨rfl, rfl, ?_⟩⟩
    rw [foldl_take _ _ _ (by omega)]; rfl
  · refine ⟨_, _, REnt.drop ⟨rfl, rfl⟩, ?_⟩
    have hk : k = l.length := by omega
    subst hk
    rw [List.take_length]; exact hK
theorem min_any (G : List (Nat × Value)) (xs : List Int) (hn : xs ≠ []) (hl : xs.length ≤ 1000000000000) (K : AV → List AO → Prop) (hK : K (.fz int (minL xs)) []) :
    ACall Tryd.prog G 42 [.fz (.list int) xs] [] K := by
  refine acall_mk (E := envAt G 25 0) (envOk _ _ _) Tryd.func42 rfl rfl rfl rfl rfl ?_
  obtain ⟨x, l, rfl⟩ := List.exists_cons_of_ne_nil hn
  have h0 : (x :: l).length = l.length + 1 := rfl
  (repeat' (first | exact trivial | exact fun h => h | refine And.intro ?_ ?_ | (intro hb; first | (simp at hb; done) | (simp at hb) | skip) | omega | exact rfl | exact Nat.le_refl _ | (show _ + 1 ≤ 4294967296; omega) | (dsimp only; omega) | (show wantB _ _ = true; simp; done) | (show wantB _ _ = true; simp; omega) | (show (_ : Bool) = _; simp_all; done) | (exfalso; omega) | refine aRegion_auto (by decide +kernel) ?_ | fail))
  refine ⟨Nat, fun k => ⟨[(0, .fz (.list int) (x :: l)), (4, .fz int ((k : Int) + 1)), (3, .fz int ((l.take k).foldl min x))], []⟩, fun k => k ≤ l.length, fun k => l.length - k, 0, Nat.zero_le _, Ent.sub rfl ⟨rfl, rfl, rfl⟩, ?_⟩
  intro k hk
  (repeat' (first | exact trivial | exact fun h => h | refine And.intro ?_ ?_ | (intro hb; first | (simp at hb; done) | (simp at hb) | skip) | omega | exact rfl | exact Nat.le_refl _ | (show _ + 1 ≤ 4294967296; omega) | (dsimp only; omega) | (show wantB _ _ = true; simp; done) | (show wantB _ _ = true; simp; omega) | (show (_ : Bool) = _; simp_all; done) | (exfalso; omega) | refine aRegion_auto (by decide +kernel) ?_ | fail))
  · refine ⟨k + 1, by omega, by show _ - _ < _ - _; omega, Ent.sub rfl ⟨rfl, rfl, ?_⟩⟩
    rw [foldl_take _ _ _ (by omega)]; rfl
  · refine ⟨_, _, REnt.drop ⟨rfl, rfl⟩, ?_⟩
    have hk : k = l.length := by omega
    subst hk
    rw [List.take_length]; exact hK
end Go.Proofs.YtidhgdipnfhoeaaDoor
