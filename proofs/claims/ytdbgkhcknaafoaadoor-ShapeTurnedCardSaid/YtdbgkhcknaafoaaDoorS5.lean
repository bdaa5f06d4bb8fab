/-
  Two slices of points that one loop builds; rings gone around the other way.
-/
import Derived.Test.YtdbgkhcknaafoaaDoorS4
import Derived.Maps.AppendAt
import Derived.Deep.AppendLies
import Derived.OwnWalk
namespace Go.Proofs.YtdbgkhcknaafoaaDoor
open Go Go.RowKit Shp
set_option maxRecDepth 100000
def fl : List Sp → List Value
  | [] => []
  | p :: l => .int .i64 p.1 :: .int .i64 p.2 :: fl l
theorem fl_append (a b : List Sp) : fl (a ++ b) = fl a ++ fl b := by
  induction a with
  | nil => rfl
  | cons p l ih => simp [fl, ih]
theorem fl_take (L : List Sp) (k : Nat) (h : k < L.length) : fl (L.take (k + 1)) = fl (L.take k) ++ [.int .i64 (at_ L k).1, .int .i64 (at_ L k).2] := by
  rw [List.take_add_one, fl_append]
  have e : L[k]?.toList = [at_ L k] := by unfold at_; rw [List.getD_eq_getElem?_getD, List.getElem?_eq_getElem h]; rfl
  rw [e]; rfl
theorem fl_at : ∀ (L : List Sp) (i : Nat), i < L.length → (fl L)[i * 2]? = some (.int .i64 (at_ L i).1) ∧ (fl L)[i * 2 + 1]? = some (.int .i64 (at_ L i).2)
  | [], i, h => absurd h (Nat.not_lt_zero i)
  | p :: l, 0, _ => ⟨rfl, rfl⟩
  | p :: l, i + 1, h => by
    have ih := fl_at l i (Nat.lt_of_succ_lt_succ h)
    rw [show (i + 1) * 2 = i * 2 + 1 + 1 by omega]
    exact ⟨ih.1, ih.2⟩
/-- two rows of the call's own, apart -/
def Two (W : World) (B : Nat) (lb lm : List Sp) (kb km : Nat) (vb vm : Value) (w : World) : Prop :=
  w.ownsRow B 24 2 vb kb (fl (lb.take kb)) ∧ w.ownsRow B 24 2 vm km (fl (lm.take km)) ∧ (vb.ownBlock = none ∨ vb.ownBlock ≠ vm.ownBlock) ∧ Below B W w ∧ B ≤ w.heap.size
theorem Two.alloc {W : World} {B : Nat} {lb lm : List Sp} {kb km : Nat} {vb vm : Value} {w : World} (h : Two W B lb lm kb km vb vm w) (o : Obj) : Two W B lb lm kb km vb vm (w.alloc o) :=
  ⟨h.1.alloc o, h.2.1.alloc o, h.2.2.1, h.2.2.2.1.alloc h.2.2.2.2 o, by rw [World.size_alloc]; exact Nat.le_succ_of_le h.2.2.2.2⟩
theorem Two.left {W : World} {B : Nat} {lb lm : List Sp} {kb km : Nat} {vb vm v' : Value} {w w1 : World} (h : Two W B lb lm kb km vb vm w) (hl : kb < lb.length)
    (hown : w1.ownsRow B 24 2 v' (kb + 1) (fl (lb.take kb) ++ [.int .i64 (at_ lb kb).1, .int .i64 (at_ lb kb).2])) (hg : w.grownBy w1 vb.ownBlock) (hat : v'.ownBlock = vb.ownBlock ∨ v'.ownBlock = some w.heap.size) :
    Two W B lb lm (kb + 1) km v' vm w1 := by
  obtain ⟨h1, h2, h3, h4, h5⟩ := h
  refine ⟨by rw [fl_take _ _ hl]; exact hown, h2.kept hg ?_, ?_, h4.grown hg h5 (fun j hj => (h1.lt j hj).1), Nat.le_trans h5 hg.size⟩
  · rcases h3 with h3 | h3
    · rw [h3]; cases vm.ownBlock <;> simp
    · exact .inr (fun e => h3 e.symm)
  · rcases hat with e | e
    · rw [e]; exact h3
    · refine .inr (fun e2 => ?_)
      have := (h2.lt w.heap.size (by rw [← e2, e])).2
      omega
theorem Two.right {W : World} {B : Nat} {lb lm : List Sp} {kb km : Nat} {vb vm v' : Value} {w w1 : World} (h : Two W B lb lm kb km vb vm w) (hl : km < lm.length)
    (hown : w1.ownsRow B 24 2 v' (km + 1) (fl (lm.take km) ++ [.int .i64 (at_ lm km).1, .int .i64 (at_ lm km).2])) (hg : w.grownBy w1 vm.ownBlock) (hat : v'.ownBlock = vm.ownBlock ∨ v'.ownBlock = some w.heap.size) :
    Two W B lb lm kb (km + 1) vb v' w1 := by
  obtain ⟨h1, h2, h3, h4, h5⟩ := h
  refine ⟨h1.kept hg h3, by rw [fl_take _ _ hl]; exact hown, ?_, h4.grown hg h5 (fun j hj => (h2.lt j hj).1), Nat.le_trans h5 hg.size⟩
  rcases h3 with h3 | h3
  · exact .inl h3
  · rcases hat with e | e
    · rw [e]; exact .inr h3
    · refine .inr (fun e2 => ?_)
      have := (h1.lt w.heap.size (by rw [e2, e])).2
      omega
theorem own_at {w : World} {B : Nat} {L : List Sp} {v : Value} (h : w.ownsRow B 24 2 v L.length (fl (L.take L.length))) (hn : 0 < L.length) :
    ∃ g cap, v = .slice (some ⟨g, 0, none⟩) L.length cap ∧ g < w.heap.size ∧ At w g 0 L := by
  obtain ⟨g, cap, rfl, _, hlt⟩ := h.form hn
  rw [List.take_length] at h
  refine ⟨g, cap, rfl, hlt, fun i hi => ?_⟩
  have hf := fl_at L i hi
  rw [Nat.zero_add]
  exact ⟨(h.cellAt (i * 2) (by omega)).trans hf.1, (h.cellAt (i * 2 + 1) (by omega)).trans hf.2⟩
theorem ring_back {l : List Sp} (h : Ring l) : Ring (back l) := by
  have hb := back_length l
  refine ⟨by rw [hb]; exact h.1, by rw [hb]; exact h.2.1, fun i hi => ?_⟩
  rw [hb] at hi
  have h3 := h.1
  unfold Good
  have hnx : nx (back l) i < l.length := by unfold nx; rw [hb]; exact Nat.mod_lt _ (by omega)
  rw [at_back l i hi, at_back l _ hnx]
  have e : nx (back l) i = if i + 1 = l.length then 0 else i + 1 := by
    unfold nx; rw [hb]; split
    · rename_i h; rw [h, Nat.mod_self]
    · exact Nat.mod_eq_of_lt (by omega)
  refine ⟨(h.2.2 _ (by omega)).1, ?_⟩
  by_cases hl : i + 1 = l.length
  · rw [e, if_pos hl]
    have hg := (h.2.2 (l.length - 1) (by omega)).2
    have e2 : nx l (l.length - 1) = 0 := by unfold nx; rw [show l.length - 1 + 1 = l.length by omega, Nat.mod_self]
    rw [e2] at hg
    rw [show l.length - 1 - i = 0 by omega, Nat.sub_zero]
    exact hg.symm
  · rw [e, if_neg hl]
    have hg := (h.2.2 (l.length - 1 - (i + 1)) (by omega)).2
    have e2 : nx l (l.length - 1 - (i + 1)) = l.length - 1 - i := by unfold nx; rw [show l.length - 1 - (i + 1) + 1 = l.length - 1 - i by omega]; exact Nat.mod_eq_of_lt (by omega)
    rw [e2] at hg
    exact hg.symm
end Go.Proofs.YtdbgkhcknaafoaaDoor
