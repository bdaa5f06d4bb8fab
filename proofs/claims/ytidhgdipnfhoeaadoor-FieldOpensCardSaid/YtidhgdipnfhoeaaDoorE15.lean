/-
  Opened, closed: the plain law (4): all of it.
-/
import Derived.Test.YtidhgdipnfhoeaaDoorE14
namespace Go.Proofs.YtidhgdipnfhoeaaDoor
open Go Go.Ab
set_option maxRecDepth 100000
theorem cell_of {a : Ras} (h : rerr a = 0) {i : Nat} (hi : i < a.2.2.length) : ∃ y x : Nat, (y : Int) < a.2.1 ∧ (x : Int) < a.1 ∧ i = y * a.1.toNat + x := by
  obtain ⟨⟨h1, h2, h3, h4, h5⟩, _⟩ := rerr_ok h
  have hn : a.2.2.length = a.2.1.toNat * a.1.toNat := by
    have : ((a.2.1.toNat * a.1.toNat : Nat) : Int) = a.2.1 * a.1 := by rw [Int.natCast_mul]; congr 1 <;> omega
    rw [Int.mul_comm] at this; omega
  refine ⟨i / a.1.toNat, i % a.1.toNat, ?_, ?_, ?_⟩
  · have : i / a.1.toNat < a.2.1.toNat := Nat.div_lt_of_lt_mul (by rw [Nat.mul_comm]; omega)
    omega
  · have := Nat.mod_lt i (show 0 < a.1.toNat by omega)
    omega
  · have := Nat.div_add_mod i a.1.toNat
    rw [Nat.mul_comm] at this; omega
theorem ras_ext {a b : Ras} (ha : rerr a = 0) (hw : b.1 = a.1) (hl : b.2.2.length = a.2.2.length) (h : ∀ y x : Nat, (y : Int) < a.2.1 → (x : Int) < a.1 → hat b y x = hat a y x) : b.2.2 = a.2.2 := by
  refine List.ext_getElem hl fun i h1 h2 => ?_
  obtain ⟨y, x, hy, hx, rfl⟩ := cell_of ha h2
  have := h y x hy hx
  unfold hat at this
  rw [hw] at this
  simpa [List.getD, h1, h2] using this
theorem seg_neg (a : Ras) (r : Int) (c : Nat) (y : Int) : seg (neg a) r c y = (seg a r c y).map fun h => 0 - h := by
  show List.take _ (List.drop _ (List.map _ _)) = _
  unfold seg
  rw [List.map_take, List.map_drop]
  rfl
theorem segs_neg (a : Ras) (r : Int) (c : Nat) (lo : Int) : ∀ k, segs (neg a) r c lo k = (segs a r c lo k).map fun h => 0 - h
  | 0 => rfl
  | k + 1 => by unfold segs; rw [List.map_append, segs_neg a r c lo k, seg_neg]
theorem rowW_neg {F G : List Int → Int} (h : ∀ l, F (l.map fun h => 0 - h) = 0 - G l) (a : Ras) (r : Int) (y : Nat) : ∀ c, rowW F (neg a) r y c = (rowW G a r y c).map fun h => 0 - h
  | 0 => rfl
  | c + 1 => by
    unfold rowW
    rw [List.map_append, rowW_neg h a r y c]
    congr 1
    show [F (segs (neg a) r c _ _)] = [0 - G _]
    rw [segs_neg, h]; rfl
theorem allW_neg {F G : List Int → Int} (h : ∀ l, F (l.map fun h => 0 - h) = 0 - G l) (a : Ras) (r : Int) : ∀ n, allW F (neg a) r n = (allW G a r n).map fun h => 0 - h
  | 0 => rfl
  | n + 1 => by
    unfold allW
    rw [List.map_append, allW_neg h a r n, rowW_neg h]; rfl
theorem onR_neg {F G : List Int → Int} (h : ∀ l, F (l.map fun h => 0 - h) = 0 - G l) (a : Ras) (r : Int) : onR F (neg a) r = neg (onR G a r) := by
  show (a.1, a.2.1, allW F (neg a) r a.2.1.toNat) = (a.1, a.2.1, (allW G a r a.2.1.toNat).map fun h => 0 - h)
  rw [allW_neg h]
theorem map_neg_neg (l : List Int) : (l.map fun h => 0 - h).map (fun h => 0 - h) = l := by
  rw [List.map_map]
  have : ((fun h : Int => 0 - h) ∘ fun h => 0 - h) = id := by funext x; show 0 - (0 - x) = x; omega
  rw [this, List.map_id]
theorem max_neg (l : List Int) : maxL (l.map fun h => 0 - h) = 0 - minL l := by rw [min_neg]; omega
theorem min_neg2 (l : List Int) : minL (l.map fun h => 0 - h) = 0 - maxL l := by rw [min_neg, map_neg_neg]
theorem cls_negE (a : Ras) (r : Int) : cls (neg a) r = neg (opn a r) := by
  unfold cls opn
  rw [onR_neg max_neg, onR_neg min_neg2]
theorem neg_ok {a : Ras} (h : rerr a = 0) : rerr (neg a) = 0 := by
  obtain ⟨h1, hb⟩ := rerr_ok h
  refine rerr_mk (by show 1 ≤ a.1 ∧ 1 ≤ a.2.1 ∧ a.1 ≤ 128 ∧ a.2.1 ≤ 128 ∧ ((List.map _ a.2.2).length : Int) = _; rw [List.length_map]; exact h1) fun x hx => ?_
  obtain ⟨y, hy, rfl⟩ := List.mem_map.1 (show x ∈ a.2.2.map fun h => 0 - h from hx)
  have := hb y hy
  unfold bigB at *
  simp at this ⊢; omega
theorem opens_plain {a : Ras} {r : Int} (ha : rerr a = 0) (hr : 0 ≤ r) : OpensPlain a r := by
  have e1 := onR_ok (F := minL) (fun _ => min_mem) ha hr
  have e2 := onR_ok (F := maxL) (fun _ => max_mem) ha hr
  have e3 : rerr (opn a r) = 0 := onR_ok (fun _ => max_mem) e1 hr
  have e4 : rerr (cls a r) = 0 := onR_ok (fun _ => min_mem) e2 hr
  have l1 := onR_len (F := minL) (reach := r) ha
  have l2 := onR_len (F := maxL) (reach := r) ha
  have l3 : (opn a r).2.2.length = a.2.2.length := (onR_len e1).trans l1
  have l4 : (cls a r).2.2.length = a.2.2.length := (onR_len e2).trans l2
  have n1 := neg_ok ha
  refine ⟨e1, e2, e3, e4, onR_ok (fun _ => min_mem) e3 hr, onR_ok (fun _ => max_mem) e4 hr, n1, onR_ok (fun _ => max_mem) n1 hr, fun i hi => ?_, fun i hi => ?_, fun i hi => ?_, ?_, ?_⟩
  · obtain ⟨y, x, hy, hx, rfl⟩ := cell_of ha hi
    exact opn_hat ha hr hy hx
  · obtain ⟨y, x, hy, hx, rfl⟩ := cell_of ha hi
    exact cls_hat ha hr hy hx
  · rw [cls_negE]
    show ((opn a r).2.2.map fun h => 0 - h).getD i 0 = _
    have h1 : i < (opn a r).2.2.length := by omega
    simp [List.getD, h1]
  · have : (onR minL (opn a r) r) = (onR minL a r) := by
      have := ras_ext (a := onR minL a r) (b := onR minL (opn a r) r) e1 rfl ((onR_len e3).trans (l3.trans l1.symm)) (fun y x hy hx => ero_opn ha hr hy hx)
      exact Prod.ext rfl (Prod.ext rfl this)
    show (onR maxL (onR minL (opn a r) r) r).2.2 = (onR maxL (onR minL a r) r).2.2
    rw [this]
  · have : (onR maxL (cls a r) r) = (onR maxL a r) := by
      have := ras_ext (a := onR maxL a r) (b := onR maxL (cls a r) r) e2 rfl ((onR_len e4).trans (l4.trans l2.symm)) (fun y x hy hx => dil_cls ha hr hy hx)
      exact Prod.ext rfl (Prod.ext rfl this)
    show (onR minL (onR maxL (cls a r) r) r).2.2 = (onR minL (onR maxL a r) r).2.2
    rw [this]
end Go.Proofs.YtidhgdipnfhoeaaDoor
