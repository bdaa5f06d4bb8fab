/-
  Opened, closed: the plain law (2): each cell of what was made.
-/
import Derived.Test.YtidhgdipnfhoeaaDoorE12
namespace Go.Proofs.YtidhgdipnfhoeaaDoor
open Go Go.Ab
set_option maxRecDepth 100000
/-- a cell's height -/
def hat (a : Ras) (y x : Nat) : Int := a.2.2.getD (y * a.1.toNat + x) 0
/-- do two cells lie no further from each other? -/
def nearP (r : Int) (y x y' x' : Nat) : Prop := (y' : Int) ≤ y + r ∧ (y : Int) ≤ y' + r ∧ (x' : Int) ≤ x + r ∧ (x : Int) ≤ x' + r
theorem mem_win {a : Ras} {r : Int} {y x : Nat} (hr : 0 ≤ r) (hy : (y : Int) < a.2.1) (hx : (x : Int) < a.1) (hl : (a.2.2.length : Int) = a.1 * a.2.1) (v : Int) :
    v ∈ winW a r y x ↔ ∃ y' x' : Nat, (y' : Int) < a.2.1 ∧ (x' : Int) < a.1 ∧ nearP r y x y' x' ∧ v = hat a y' x' := by
  unfold winW
  rw [mem_segs]
  constructor
  · rintro ⟨j, h1, h2⟩
    rw [mem_seg hr (by omega) (by omega) hx hl] at h2
    obtain ⟨x', k1, k2, k3, rfl⟩ := h2
    exact ⟨(max 0 ((y : Int) - r) + j).toNat, x', by omega, k1, ⟨by omega, by omega, by omega, by omega⟩, rfl⟩
  · rintro ⟨y', x', h1, h2, ⟨h3, h4, h5, h6⟩, rfl⟩
    refine ⟨y' - (max 0 ((y : Int) - r)).toNat, by omega, ?_⟩
    rw [mem_seg hr (by omega) (by omega) hx hl]
    refine ⟨x', h2, h5, h6, ?_⟩
    unfold hat
    congr 2
    have : (max 0 ((y : Int) - r) + ((y' - (max 0 ((y : Int) - r)).toNat : Nat) : Int)).toNat = y' := by omega
    rw [this]
theorem rowW_get (F : List Int → Int) (a : Ras) (r : Int) (y : Nat) : ∀ (c x : Nat), x < c → (rowW F a r y c).getD x 0 = F (winW a r y x)
  | 0, x, h => by omega
  | c + 1, x, h => by
    unfold rowW
    by_cases hx : x = c
    · subst hx
      rw [List.getD, List.getElem?_append_right (by rw [rowW_len]; exact Nat.le_refl _), rowW_len]; simp
    · have := rowW_get F a r y c x (by omega)
      rw [List.getD, List.getElem?_append_left (by rw [rowW_len]; omega)]; exact this
theorem allW_get (F : List Int → Int) (a : Ras) (r : Int) : ∀ (n y x : Nat), y < n → x < a.1.toNat → (allW F a r n).getD (y * a.1.toNat + x) 0 = F (winW a r y x)
  | 0, y, x, h, _ => by omega
  | n + 1, y, x, h, hx => by
    unfold allW
    by_cases hy : y = n
    · subst hy
      rw [List.getD, List.getElem?_append_right (by rw [allW_len]; omega), allW_len]
      have := rowW_get F a r y a.1.toNat x hx
      rw [show y * a.1.toNat + x - y * a.1.toNat = x by omega]; exact this
    · have := allW_get F a r n y x (by omega) hx
      have h2 : (y + 1) * a.1.toNat ≤ n * a.1.toNat := Nat.mul_le_mul_right _ (by omega)
      rw [Nat.succ_mul] at h2
      rw [List.getD, List.getElem?_append_left (by rw [allW_len]; omega)]; exact this
theorem hat_onR {F : List Int → Int} {a : Ras} {r : Int} {y x : Nat} (hy : (y : Int) < a.2.1) (hx : (x : Int) < a.1) : hat (onR F a r) y x = F (winW a r y x) :=
  allW_get F a r a.2.1.toNat y x (by omega) (by omega)
end Go.Proofs.YtidhgdipnfhoeaaDoor
