/-
  Opened, closed: the plain law (1): most and least of a list, of what lies around.
-/
import Derived.Test.YtidhgdipnfhoeaaDoorE10
namespace Go.Proofs.YtidhgdipnfhoeaaDoor
open Go Go.Ab
set_option maxRecDepth 100000
theorem fold_ge : ∀ (l : List Int) (x : Int), x ≤ l.foldl max x ∧ ∀ y ∈ l, y ≤ l.foldl max x
  | [], x => ⟨Int.le_refl _, fun y h => by cases h⟩
  | z :: l, x => by
    obtain ⟨h1, h2⟩ := fold_ge l (max x z)
    refine ⟨Int.le_trans (by omega) h1, fun y hy => ?_⟩
    rcases List.mem_cons.1 hy with rfl | hy
    · exact Int.le_trans (show y ≤ max x y by omega) h1
    · exact h2 y hy
theorem fold_mem : ∀ (l : List Int) (x : Int), l.foldl max x = x ∨ l.foldl max x ∈ l
  | [], x => .inl rfl
  | z :: l, x => by
    show l.foldl max (max x z) = x ∨ l.foldl max (max x z) ∈ z :: l
    rcases fold_mem l (max x z) with h | h
    · rw [h]
      rcases (show max x z = x ∨ max x z = z by omega) with h1 | h1
      · exact .inl h1
      · rw [h1]; exact .inr (List.mem_cons_self ..)
    · exact .inr (List.mem_cons_of_mem _ h)
theorem max_ge {l : List Int} {y : Int} (h : y ∈ l) : y ≤ maxL l := by
  cases l with
  | nil => cases h
  | cons x l =>
    obtain ⟨h1, h2⟩ := fold_ge l x
    rcases List.mem_cons.1 h with rfl | h
    · exact h1
    · exact h2 y h
theorem max_mem {l : List Int} (h : l ≠ []) : maxL l ∈ l := by
  cases l with
  | nil => exact absurd rfl h
  | cons x l =>
    rcases fold_mem l x with h | h
    · show l.foldl max x ∈ _; rw [h]; exact List.mem_cons_self ..
    · exact List.mem_cons_of_mem _ h
theorem fold_neg : ∀ (l : List Int) (x : Int), l.foldl min x = 0 - (l.map fun h => 0 - h).foldl max (0 - x)
  | [], x => by simp
  | z :: l, x => by
    show l.foldl min (min x z) = 0 - (l.map fun h => 0 - h).foldl max (max (0 - x) (0 - z))
    rw [fold_neg l (min x z), show max (0 - x) (0 - z) = 0 - min x z by omega]
theorem min_neg (l : List Int) : minL l = 0 - maxL (l.map fun h => 0 - h) := by
  cases l with
  | nil => rfl
  | cons x l => exact fold_neg l x
theorem min_le {l : List Int} {y : Int} (h : y ∈ l) : minL l ≤ y := by
  rw [min_neg]
  have := max_ge (l := l.map fun h => 0 - h) (y := 0 - y) (List.mem_map.2 ⟨y, h, rfl⟩)
  omega
theorem min_mem {l : List Int} (h : l ≠ []) : minL l ∈ l := by
  rw [min_neg]
  have := max_mem (l := l.map fun h => 0 - h) (by simpa using h)
  obtain ⟨y, h1, h2⟩ := List.mem_map.1 this
  rw [← h2, show 0 - (0 - y) = y by omega]; exact h1
/-- what lies in a row, around a column -/
theorem mem_seg {a : Ras} {reach : Int} {c : Nat} {y : Int} (hr : 0 ≤ reach) (hy : 0 ≤ y) (hy2 : y < a.2.1) (hc : (c : Int) < a.1) (hl : (a.2.2.length : Int) = a.1 * a.2.1) (v : Int) :
    v ∈ seg a reach c y ↔ ∃ x : Nat, (x : Int) < a.1 ∧ (x : Int) ≤ c + reach ∧ (c : Int) ≤ x + reach ∧ v = a.2.2.getD (y.toNat * a.1.toNat + x) 0 := by
  have hb := row_bd (y := y) (H := a.2.1) (W := a.1) hy (by omega) (by omega)
  have hp : ((y.toNat * a.1.toNat : Nat) : Int) = y * a.1 := by rw [Int.natCast_mul]; congr 1 <;> omega
  unfold seg
  rw [List.mem_take_iff_getElem]
  constructor
  · rintro ⟨i, hi, rfl⟩
    rw [List.length_drop] at hi
    refine ⟨(max 0 ((c : Int) - reach)).toNat + i, by omega, by omega, by omega, ?_⟩
    rw [List.getElem_drop, List.getD, List.getElem?_eq_getElem (by omega)]
    simp only [Option.getD_some]
    congr 1
    omega
  · rintro ⟨x, h1, h2, h3, rfl⟩
    refine ⟨x - (max 0 ((c : Int) - reach)).toNat, by rw [List.length_drop]; omega, ?_⟩
    rw [List.getElem_drop, List.getD, List.getElem?_eq_getElem (by omega)]
    simp only [Option.getD_some]
    congr 1
    omega
theorem mem_segs {a : Ras} {reach : Int} {c : Nat} {lo : Int} {v : Int} : ∀ k, v ∈ segs a reach c lo k ↔ ∃ j : Nat, j < k ∧ v ∈ seg a reach c (lo + j)
  | 0 => by simp [segs]
  | k + 1 => by
    unfold segs
    rw [List.mem_append, mem_segs k]
    constructor
    · rintro (⟨j, h1, h2⟩ | h)
      · exact ⟨j, by omega, h2⟩
      · exact ⟨k, by omega, h⟩
    · rintro ⟨j, h1, h2⟩
      by_cases h : j = k
      · subst h; exact .inr h2
      · exact .inl ⟨j, by omega, h2⟩
end Go.Proofs.YtidhgdipnfhoeaaDoor
