/-
  Quotients rounded down, sums, means; what is around each cell, each answer in one piece.
-/
import Derived.Test.YtidhgdipnfhoeaaDoorM4
import Derived.LaidHandle
import Derived.LaidSub
import Derived.Test.YtidhgdipnfhoeaaDoorChecked
import Derived.WalkKit
import Derived.ProofKit
import Derived.OpenShut
import Derived.Carry
import Derived.Test.YtidhgdipnfhoeaaDoorTie
import Derived.Test.YtidhgdipnfhoeaaDoorCards
import Derived.SevenTiedAt
import Derived.LaidMore
import Derived.Lay
import Derived.Deep.Slices
import Derived.Lib.SmallJoins
import Derived.Stop.Joined
namespace Go.Proofs.YtidhgdipnfhoeaaDoor
open Go Go.Ab
set_option maxRecDepth 100000
theorem quo_facts (a : Int) {b : Int} (hb : 0 < b) : (0 ≤ a → 0 ≤ a.tdiv b ∧ a.tdiv b ≤ a ∧ a.tdiv b * b ≤ a ∧ a / b = a.tdiv b) ∧
    (a < 0 → a ≤ a.tdiv b ∧ a.tdiv b ≤ 0 ∧ a.tdiv b * b < a + b ∧ a ≤ a.tdiv b * b ∧ (a.tdiv b * b = a → a / b = a.tdiv b) ∧ (a < a.tdiv b * b → a / b = a.tdiv b - 1)) := by
  have e1 := Int.mul_tdiv_add_tmod a b
  rw [Int.mul_comm] at e1
  refine ⟨fun h => ?_, fun h => ?_⟩
  · have h1 := Int.tmod_nonneg b h
    have h2 := Int.tdiv_eq_ediv_of_nonneg (b := b) h
    have h3 : 0 ≤ a / b := Int.ediv_nonneg h (by omega)
    have h4 : a / b ≤ a := Int.ediv_le_self b h
    exact ⟨by omega, by omega, by omega, h2.symm⟩
  · have hn : 0 ≤ -a := by omega
    have h1 := Int.tmod_nonneg b hn
    have h2 := Int.tdiv_eq_ediv_of_nonneg (b := b) hn
    have h3 : 0 ≤ (-a) / b := Int.ediv_nonneg hn (by omega)
    have h4 : (-a) / b ≤ -a := Int.ediv_le_self b hn
    have h5 := Int.tmod_lt_of_pos (-a) hb
    have e2 := Int.neg_tdiv a b
    have e3 := Int.mul_tdiv_add_tmod (-a) b
    rw [e2, Int.mul_neg, Int.mul_comm] at e3
    refine ⟨by omega, by omega, by omega, by omega, fun he => ?_, fun he => ?_⟩
    · exact ((Int.ediv_emod_unique (r := 0) hb).2 ⟨by rw [Int.mul_comm]; omega, Int.le_refl 0, hb⟩).1
    · refine ((Int.ediv_emod_unique (r := a - a.tdiv b * b + b) hb).2 ⟨?_, by omega, by omega⟩).1
      rw [Int.mul_sub, Int.mul_one, Int.mul_comm b]; omega
/-- field.Down -/
theorem downA_any (G : List (Nat × Value)) (a b : Int) (h0b : 0 < b) (hb2 : b ≤ 1000000000000) (ha : -4000000000000000000 ≤ a ∧ a ≤ 4000000000000000000) (K : AV → List AO → Prop) (hK : K (.fz int (a / b)) []) : ACall Tryd.prog G 47 [.fz int a, .fz int b] [] K := by
  refine acall_mk (E := envAt G 17 0) (envOk _ _ _) Tryd.func47 rfl rfl rfl rfl rfl ?_
  obtain ⟨f1, f2⟩ := quo_facts a h0b
  have e1 := Int.mul_tdiv_add_tmod a b
  rw [Int.mul_comm] at e1
  by_cases h : 0 ≤ a
  · obtain ⟨g1, g2, g3, g4⟩ := f1 h
    have g5 := Int.mul_nonneg g1 (Int.le_of_lt h0b)
    (repeat' (first | exact trivial | exact fun h => h | refine And.intro ?_ ?_ | (intro hb; first | (simp at hb; done) | (simp at hb) | skip) | omega | exact rfl | exact Nat.le_refl _ | (show _ + 1 ≤ 4294967296; omega) | (dsimp only; omega) | (show wantB _ _ = true; simp; done) | (show wantB _ _ = true; simp; omega) | (show (_ : Bool) = _; simp_all; done) | (exfalso; omega) | refine aRegion_auto (by decide +kernel) ?_ | refine ⟨_, _, REnt.drop ⟨rfl, rfl⟩, ?_⟩ | fail))
    exact kz hK g4
  · obtain ⟨g1, g2, g3, g4, g5, g6⟩ := f2 (by omega)
    (repeat' (first | exact trivial | exact fun h => h | refine And.intro ?_ ?_ | (intro hb; first | (simp at hb; done) | (simp at hb) | skip) | omega | exact rfl | exact Nat.le_refl _ | (show _ + 1 ≤ 4294967296; omega) | (dsimp only; omega) | (show wantB _ _ = true; simp; done) | (show wantB _ _ = true; simp; omega) | (show (_ : Bool) = _; simp_all; done) | (exfalso; omega) | refine aRegion_auto (by decide +kernel) ?_ | refine ⟨_, _, REnt.drop ⟨rfl, rfl⟩, ?_⟩ | fail))
    · exact kz hK (g6 (by omega))
    · exact kz hK (g5 (by omega))
/-- the document's Down -/
theorem downB_any (G : List (Nat × Value)) (a b : Int) (h0b : 0 < b) (hb2 : b ≤ 1000000000000) (ha : -4000000000000000000 ≤ a ∧ a ≤ 4000000000000000000) (K : AV → List AO → Prop) (hK : K (.fz int (a / b)) []) : ACall Tryd.prog G 38 [.fz int a, .fz int b] [] K := by
  refine acall_mk (E := envAt G 18 0) (envOk _ _ _) Tryd.func38 rfl rfl rfl rfl rfl ?_
  by_cases h : 0 ≤ a
  · obtain ⟨g1, g2, g3, g4⟩ := (quo_facts a h0b).1 h
    (repeat' (first | exact trivial | exact fun h => h | refine And.intro ?_ ?_ | (intro hb; first | (simp at hb; done) | (simp at hb) | skip) | omega | exact rfl | exact Nat.le_refl _ | (show _ + 1 ≤ 4294967296; omega) | (dsimp only; omega) | (show wantB _ _ = true; simp; done) | (show wantB _ _ = true; simp; omega) | (show (_ : Bool) = _; simp_all; done) | (exfalso; omega) | refine aRegion_auto (by decide +kernel) ?_ | refine ⟨_, _, REnt.drop ⟨rfl, rfl⟩, ?_⟩ | fail))
    exact kz hK g4
  · obtain ⟨g1, g2, g3, g4⟩ := (quo_facts (0 - a + b - 1) h0b).1 (by omega)
    (repeat' (first | exact trivial | exact fun h => h | refine And.intro ?_ ?_ | (intro hb; first | (simp at hb; done) | (simp at hb) | skip) | omega | exact rfl | exact Nat.le_refl _ | (show _ + 1 ≤ 4294967296; omega) | (dsimp only; omega) | (show wantB _ _ = true; simp; done) | (show wantB _ _ = true; simp; omega) | (show (_ : Bool) = _; simp_all; done) | (exfalso; omega) | refine aRegion_auto (by decide +kernel) ?_ | refine ⟨_, _, REnt.drop ⟨rfl, rfl⟩, ?_⟩ | fail))
    refine kz hK ?_
    have e1 := Int.mul_tdiv_add_tmod (0 - a + b - 1) b
    have e2 := Int.tmod_nonneg b (show 0 ≤ 0 - a + b - 1 by omega)
    have e3 := Int.tmod_lt_of_pos (0 - a + b - 1) h0b
    refine ((Int.ediv_emod_unique (r := a - b * (0 - (0 - a + b - 1).tdiv b)) h0b).2 ⟨by omega, ?_, ?_⟩).1
    · rw [Int.mul_sub]; omega
    · rw [Int.mul_sub]; omega
def sumL (l : List Int) : Int := l.foldl (· + ·) 0
theorem fold_add (l : List Int) : ∀ x : Int, l.foldl (· + ·) x = x + sumL l := by
  induction l with
  | nil => intro x; simp [sumL]
  | cons y l ih => intro x; unfold sumL; rw [List.foldl_cons, List.foldl_cons, ih, ih (0 + y)]; omega
theorem sumL_app (l m : List Int) : sumL (l ++ m) = sumL l + sumL m := by unfold sumL; rw [List.foldl_append, fold_add]; rfl
theorem sumL_one (x : Int) : sumL [x] = x := by simp [sumL]
theorem sumL_bd : ∀ (l : List Int), (∀ x ∈ l, bigB x = false) → -(1048576 * (l.length : Int)) ≤ sumL l ∧ sumL l ≤ 1048576 * (l.length : Int)
  | [], _ => by simp [sumL]
  | x :: l, h => by
    have h1 := h x (List.mem_cons_self ..)
    have ih := sumL_bd l fun y hy => h y (List.mem_cons_of_mem _ hy)
    unfold bigB at h1
    simp at h1
    have : sumL (x :: l) = x + sumL l := by unfold sumL; rw [List.foldl_cons, fold_add, fold_add]; simp [sumL]
    rw [this, List.length_cons]; omega
theorem sumL_take {l : List Int} {k : Nat} (hk : k < l.length) : sumL (l.take (k + 1)) = sumL (l.take k) + l.getD k 0 := by
  rw [List.take_succ_eq_append_getElem hk, sumL_app, sumL_one]; simp [List.getD, hk]
def meanL (l : List Int) : Int := sumL l / (l.length : Int)
theorem mean_any (G : List (Nat × Value)) (xs : List Int) (hn : xs ≠ []) (hl : xs.length ≤ 1000000000000) (hxb : ∀ x ∈ xs, bigB x = false) (K : AV → List AO → Prop) (hK : K (.fz int (meanL xs)) []) :
    ACall Tryd.prog G 37 [.fz (.list int) xs] [] K := by
  refine acall_mk (E := envAt G 20 0) (envOk _ _ _) Tryd.func37 rfl rfl rfl rfl rfl ?_
  have hpos : 0 < xs.length := List.length_pos_iff.2 hn
  (repeat' (first | exact trivial | exact fun h => h | refine And.intro ?_ ?_ | (intro hb; first | (simp at hb; done) | (simp at hb) | skip) | omega | exact rfl | exact Nat.le_refl _ | (show _ + 1 ≤ 4294967296; omega) | (dsimp only; omega) | (show wantB _ _ = true; simp; done) | (show wantB _ _ = true; simp; omega) | (show (_ : Bool) = _; simp_all; done) | (exfalso; omega) | refine aRegion_auto (by decide +kernel) ?_ | refine ⟨_, _, REnt.drop ⟨rfl, rfl⟩, ?_⟩ | fail))
  refine ⟨Nat, fun k => ⟨[(0, .fz (.list int) xs), (3, .fz int (sumL (xs.take k))), (6, .fz (.list int) xs), (7, .fz int xs.length), (8, .fz int k)], []⟩, fun k => k ≤ xs.length, fun k => xs.length - k, 0, Nat.zero_le _, Ent.sub rfl ?_, ?_⟩
  · (repeat' (first | exact trivial | exact rfl | refine And.intro ?_ ?_))
  intro k hk
  have hs := sumL_bd (xs.take k) fun x hx => hxb x (List.mem_of_mem_take hx)
  have hg := getD_big hxb (Int.toNat (k : Int))
  rw [List.length_take, Nat.min_eq_left hk] at hs
  (repeat' (first | exact trivial | exact fun h => h | refine And.intro ?_ ?_ | (intro hb; first | (simp at hb; done) | (simp at hb) | skip) | omega | exact rfl | exact Nat.le_refl _ | (show _ + 1 ≤ 4294967296; omega) | (dsimp only; omega) | (show wantB _ _ = true; simp; done) | (show wantB _ _ = true; simp; omega) | (show (_ : Bool) = _; simp_all; done) | (exfalso; omega) | refine aRegion_auto (by decide +kernel) ?_ | refine ⟨_, _, REnt.drop ⟨rfl, rfl⟩, ?_⟩ | fail))
  · refine ⟨k + 1, by show _ ≤ _; omega, by show _ - _ < _ - _; omega, Ent.sub rfl ?_⟩
    (repeat' (first | exact trivial | exact rfl | refine And.intro ?_ ?_))
    exact congrArg (AV.fz int) (sumL_take (by omega)).symm
  · have hk2 : k = xs.length := by omega
    subst hk2
    rw [List.take_length] at hs ⊢
    refine acall_frame0 rfl (downA_any _ _ _ (by omega) (by omega) (by omega) _ ?_)
    (repeat' (first | exact trivial | exact fun h => h | refine And.intro ?_ ?_ | (intro hb; first | (simp at hb; done) | (simp at hb) | skip) | omega | exact rfl | exact Nat.le_refl _ | (show _ + 1 ≤ 4294967296; omega) | (dsimp only; omega) | (show wantB _ _ = true; simp; done) | (show wantB _ _ = true; simp; omega) | (show (_ : Bool) = _; simp_all; done) | (exfalso; omega) | refine aRegion_auto (by decide +kernel) ?_ | refine ⟨_, _, REnt.drop ⟨rfl, rfl⟩, ?_⟩ | fail))
    exact hK
theorem Mean_any (E : Errs) (a : Ras) (reach : Int) (hl : a.2.2.length ≤ 1000000000000) (hr : I64 reach) (K : AV → List AO → Prop)
    (h0 : rerr a = 0 → 0 ≤ reach → reach ≤ 128 → K (RE (a.1, a.2.1, allW meanL a reach a.2.1.toNat) .nilIface) [])
    (he : ∀ e, aerr a reach = e → 0 < e → K (RE (0, 0, []) (errV (errA E e))) []) : ACall Tryd.prog (GE E) 27 [.fz RasT a, .fz int reach] [] K := by
  refine acall_mk (E := envAt (GE E) 11 0) (envOk _ _ _) Tryd.func27 rfl rfl rfl rfl rfl ?_
  (repeat' (first | exact trivial | exact fun h => h | refine And.intro ?_ ?_ | (intro hb; first | (simp at hb; done) | (simp at hb) | skip) | omega | exact rfl | exact Nat.le_refl _ | (show _ + 1 ≤ 4294967296; omega) | (dsimp only; omega) | (show wantB _ _ = true; simp; done) | (show wantB _ _ = true; simp; omega) | (show (_ : Bool) = _; simp_all; done) | (exfalso; omega) | refine aRegion_auto (by decide +kernel) ?_ | fail))
  refine acall_conv [.dat RasT, .keep, .keep] _ _ _ rfl trivial (acall_frame0 rfl (around_any E a reach _ meanL (fun xs K hn hs hb hK => mean_any _ xs hn (by omega) hb K hK) hl hr _ (fun h1 h2 h3 => ?_) (fun e h1 h2 => ?_)))
  · (repeat' (first | exact trivial | exact fun h => h | refine And.intro ?_ ?_ | (intro hb; first | (simp at hb; done) | (simp at hb) | skip) | omega | exact rfl | exact Nat.le_refl _ | (show _ + 1 ≤ 4294967296; omega) | (dsimp only; omega) | (show wantB _ _ = true; simp; done) | (show wantB _ _ = true; simp; omega) | (show (_ : Bool) = _; simp_all; done) | (exfalso; omega) | refine aRegion_auto (by decide +kernel) ?_ | fail))
    refine ⟨_, _, (REnt.conv [.dat RasT, .keep] _ rfl trivial).trans (REnt.drop ⟨rfl, rfl⟩), ?_⟩
    exact h0 h1 h2 h3
  · (repeat' (first | exact trivial | exact fun h => h | refine And.intro ?_ ?_ | (intro hb; first | (simp at hb; done) | (simp at hb) | skip) | omega | exact rfl | exact Nat.le_refl _ | (show _ + 1 ≤ 4294967296; omega) | (dsimp only; omega) | (show wantB _ _ = true; simp; done) | (show wantB _ _ = true; simp; omega) | (show (_ : Bool) = _; simp_all; done) | (exfalso; omega) | refine aRegion_auto (by decide +kernel) ?_ | fail))
    refine ⟨_, _, (REnt.conv [.dat RasT, .keep] _ rfl trivial).trans (REnt.drop ⟨rfl, rfl⟩), ?_⟩
    exact he e h1 h2
theorem aerr_ge {a : Ras} {reach : Int} : (aerr a reach = 0 ∨ 2 ≤ aerr a reach) ∧ aerr a reach ≤ 4 := by
  have h1 := rerr_in a
  unfold aerr
  split
  · have := rerr_ge (a := a) (by assumption); omega
  split <;> omega
theorem aerr_zero {a : Ras} {reach : Int} : aerr a reach = 0 ↔ rerr a = 0 ∧ 0 ≤ reach ∧ reach ≤ 128 := by
  unfold aerr
  split
  · omega
  split <;> omega
def onQ (F : List Int → Int) (a : Ras) (reach : Int) : Ras := if aerr a reach = 0 then onR F a reach else (0, 0, [])
theorem one_of {E : Errs} {F : List Int → Int} {a : Ras} {reach : Int} {K : AV → List AO → Prop} (hK : K (RE (onQ F a reach) (er E (aerr a reach))) []) :
    (rerr a = 0 → 0 ≤ reach → reach ≤ 128 → K (RE (a.1, a.2.1, allW F a reach a.2.1.toNat) .nilIface) []) ∧ ∀ e, aerr a reach = e → 0 < e → K (RE (0, 0, []) (errV (errA E e))) [] := by
  refine ⟨fun h1 h2 h3 => ?_, fun e h h0 => ?_⟩
  · have h := aerr_zero.2 ⟨h1, h2, h3⟩
    unfold onQ at hK; rw [if_pos h, h] at hK; exact hK
  · have := aerr_ge (a := a) (reach := reach)
    unfold onQ at hK; rw [if_neg (by omega), h] at hK; rw [errA_er E (by omega) (by omega)]; exact hK
theorem mean_one (E : Errs) (a : Ras) (reach : Int) (hl : a.2.2.length ≤ 1000000000000) (hr : I64 reach) (K : AV → List AO → Prop) (hK : K (RE (onQ meanL a reach) (er E (aerr a reach))) []) :
    ACall Tryd.prog (G8 E) 27 [.fz RasT a, .fz int reach] [] K := up8 (Mean_any E a reach hl hr K (one_of hK).1 (one_of hK).2)
theorem most_one (E : Errs) (a : Ras) (reach : Int) (hl : a.2.2.length ≤ 1000000000000) (hr : I64 reach) (K : AV → List AO → Prop) (hK : K (RE (onQ maxL a reach) (er E (aerr a reach))) []) :
    ACall Tryd.prog (G8 E) 28 [.fz RasT a, .fz int reach] [] K := up8 (most_any E a reach hl hr K (one_of hK).1 (one_of hK).2)
theorem least_one (E : Errs) (a : Ras) (reach : Int) (hl : a.2.2.length ≤ 1000000000000) (hr : I64 reach) (K : AV → List AO → Prop) (hK : K (RE (onQ minL a reach) (er E (aerr a reach))) []) :
    ACall Tryd.prog (G8 E) 29 [.fz RasT a, .fz int reach] [] K := up8 (least_any E a reach hl hr K (one_of hK).1 (one_of hK).2)
end Go.Proofs.YtidhgdipnfhoeaaDoor
/-
  The document's answer around a cell: the walk.
-/
namespace Go.Proofs.YtidhgdipnfhoeaaDoor
open Go Go.Ab
set_option maxRecDepth 100000
def inW (y x : Nat) (r c reach : Int) : Bool := decide ((y : Int) - r ≤ reach) && decide (r - y ≤ reach) && decide ((x : Int) - c ≤ reach) && decide (c - x ≤ reach)
def rowP (a : Ras) (reach r c : Int) (y : Nat) : Nat → List Int
  | 0 => []
  | x + 1 => rowP a reach r c y x ++ (if inW y x r c reach = true then [a.2.2.getD (y * a.1.toNat + x) 0] else [])
def allP (a : Ras) (reach r c : Int) : Nat → List Int
  | 0 => []
  | y + 1 => allP a reach r c y ++ rowP a reach r c y a.1.toNat
def stepB (kind best h : Int) : Int := if (kind = 1 ∧ best < h) ∨ (kind = 2 ∧ h < best) then h else best
def bestL (kind b : Int) (l : List Int) : Int := l.foldl (stepB kind) b
theorem bestL_app (kind b : Int) (l : List Int) (h : Int) : bestL kind b (l ++ [h]) = stepB kind (bestL kind b l) h := by unfold bestL; rw [List.foldl_append]; rfl
theorem rowP_len (a : Ras) (reach r c : Int) (y : Nat) : ∀ x, (rowP a reach r c y x).length ≤ x
  | 0 => Nat.le_refl _
  | x + 1 => by
    have := rowP_len a reach r c y x
    unfold rowP; rw [List.length_append]
    split <;> simp <;> omega
theorem allP_len (a : Ras) (reach r c : Int) : ∀ y, (allP a reach r c y).length ≤ y * a.1.toNat
  | 0 => by simp [allP]
  | y + 1 => by
    have h1 := allP_len a reach r c y
    have h2 := rowP_len a reach r c y a.1.toNat
    unfold allP; rw [List.length_append, Nat.succ_mul]; omega
theorem getD_ok {l : List Int} (h : ∀ x ∈ l, bigB x = false) (i : Nat) : bigB (l.getD i 0) = false := by
  by_cases hi : i < l.length
  · have := h _ (List.getElem_mem hi); simpa [List.getD, hi] using this
  · rw [List.getD, List.getElem?_eq_none (by omega)]; rfl
theorem rowP_ok {a : Ras} (ha : ∀ x ∈ a.2.2, bigB x = false) (reach r c : Int) (y : Nat) : ∀ x, ∀ v ∈ rowP a reach r c y x, bigB v = false
  | 0, v, h => by cases h
  | x + 1, v, h => by
    unfold rowP at h
    rcases List.mem_append.1 h with h | h
    · exact rowP_ok ha reach r c y x v h
    · split at h
      · rw [List.mem_singleton.1 h]; exact getD_ok ha _
      · cases h
theorem allP_ok {a : Ras} (ha : ∀ x ∈ a.2.2, bigB x = false) (reach r c : Int) : ∀ y, ∀ v ∈ allP a reach r c y, bigB v = false
  | 0, v, h => by cases h
  | y + 1, v, h => by
    unfold allP at h
    rcases List.mem_append.1 h with h | h
    · exact allP_ok ha reach r c y v h
    · exact rowP_ok ha reach r c y _ v h
theorem bestL_ok {kind : Int} : ∀ (l : List Int) {b : Int}, bigB b = false → (∀ v ∈ l, bigB v = false) → bigB (bestL kind b l) = false
  | [], b, h, _ => h
  | x :: l, b, h, hl => by
    refine bestL_ok (kind := kind) l (b := stepB kind b x) ?_ fun v hv => hl v (List.mem_cons_of_mem _ hv)
    unfold stepB; split
    · exact hl x (List.mem_cons_self ..)
    · exact h
theorem bigB_bd {x : Int} (h : bigB x = false) : -1048576 ≤ x ∧ x ≤ 1048576 := by unfold bigB at h; simp at h; omega
/-- what a walk over the cells has found -/
structure Found (l : List Int) (kind b0 sum n best : Int) : Prop where
  sum : sum = sumL l
  n : n = (l.length : Int)
  best : best = bestL kind b0 l
def preP (a : Ras) (reach r c : Int) (y x : Nat) : List Int := allP a reach r c y ++ rowP a reach r c y x
theorem preP_end {a : Ras} {reach r c : Int} {y x : Nat} (h : x = a.1.toNat) : preP a reach r c y x = preP a reach r c (y + 1) 0 := by
  subst h; unfold preP; show _ = allP a reach r c (y + 1) ++ []; rw [List.append_nil]; rfl
theorem preP_skip {a : Ras} {reach r c : Int} {y x : Nat} (h : inW y x r c reach = false) : preP a reach r c y (x + 1) = preP a reach r c y x := by
  unfold preP; show _ ++ (rowP a reach r c y x ++ _) = _; rw [h]; simp
theorem preP_take {a : Ras} {reach r c : Int} {y x : Nat} (h : inW y x r c reach = true) : preP a reach r c y (x + 1) = preP a reach r c y x ++ [a.2.2.getD (y * a.1.toNat + x) 0] := by
  unfold preP; show _ ++ (rowP a reach r c y x ++ _) = _; rw [h]; simp
def winP (a : Ras) (reach : Int) (i : Nat) : List Int := preP a reach (Int.tdiv i a.1) (Int.tmod i a.1) a.2.1.toNat 0
def aroundP (a : Ras) (reach kind : Int) (i : Nat) : Int := if kind = 0 then meanL (winP a reach i) else bestL kind (a.2.2.getD i 0) (winP a reach i)
set_option maxHeartbeats 4000000 in
theorem aroundOf_any (G : List (Nat × Value)) (a : Ras) (i : Nat) (reach kind : Int) (hv : rerr a = 0) (hi : i < a.2.2.length) (h0 : 0 ≤ reach) (h1 : reach ≤ 128) (hw : winP a reach i ≠ []) (K : AV → List AO → Prop) (hK : K (.fz int (aroundP a reach kind i)) []) :
    ACall Tryd.prog G 43 [.fptr RasT a, .fz int i, .fz int reach, .fz int kind] [] K := by
  refine acall_mk (E := envAt G 120 0) (envOk _ _ _) Tryd.func43 rfl rfl rfl rfl rfl ?_
  obtain ⟨⟨hW1, hH1, hW2, hH2, hlen⟩, hbig⟩ := rerr_ok hv
  have hm := mul_bd (a := a.1) (b := a.2.1) (A := 128) (B := 128) (by omega) (by omega) (by omega) (by omega)
  obtain ⟨q1, q2, q3, q4⟩ := (quo_facts (i : Int) (b := a.1) (by omega)).1 (by omega)
  have m1 := Int.tmod_nonneg (a := (i : Int)) a.1 (by omega)
  have m2 := Int.tmod_lt_of_pos (i : Int) (b := a.1) (by omega)
  have gi := getD_big hbig (Int.toNat (i : Int))
  generalize hr : Int.tdiv (i : Int) a.1 = r at *
  generalize hc : Int.tmod (i : Int) a.1 = c at *
  (repeat' (first | exact trivial | exact fun h => h | refine And.intro ?_ ?_ | (intro hb; first | (simp at hb; done) | (simp at hb) | skip) | omega | exact rfl | exact Nat.le_refl _ | (show _ + 1 ≤ 4294967296; omega) | (dsimp only; omega) | (show wantB _ _ = true; simp; done) | (show wantB _ _ = true; simp; omega) | (show (_ : Bool) = _; simp_all; done) | (exfalso; omega) | refine aRegion_auto (by decide +kernel) ?_ | refine ⟨_, _, REnt.drop ⟨rfl, rfl⟩, ?_⟩ | fail))
  have bd : ∀ y x : Nat, (y : Int) ≤ a.2.1 → (x : Int) ≤ a.1 → (preP a reach r c y x).length ≤ 17000 ∧ (-17825792000 ≤ sumL (preP a reach r c y x) ∧ sumL (preP a reach r c y x) ≤ 17825792000) ∧ -1048576 ≤ bestL kind (a.2.2.getD i 0) (preP a reach r c y x) ∧ bestL kind (a.2.2.getD i 0) (preP a reach r c y x) ≤ 1048576 := by
    intro y x hy hx
    have hok : ∀ v ∈ preP a reach r c y x, bigB v = false := fun v hv => by
      unfold preP at hv
      rcases List.mem_append.1 hv with h | h
      · exact allP_ok hbig _ _ _ _ v h
      · exact rowP_ok hbig _ _ _ _ _ v h
    have l1 := allP_len a reach r c y
    have l2 := rowP_len a reach r c y x
    have l3 : y * a.1.toNat ≤ 128 * 128 := Nat.mul_le_mul (by omega) (by omega)
    have l4 : (preP a reach r c y x).length ≤ 17000 := by unfold preP; rw [List.length_append]; omega
    have s := sumL_bd _ hok
    exact ⟨l4, by omega, bigB_bd (bestL_ok _ (getD_ok hbig i) hok)⟩
  refine ⟨Nat, fun y => ⟨[(0, .fptr RasT a), (2, .fz int reach), (3, .fz int kind), (9, .fz int c), (10, .fz int r), (11, .fz int (sumL (preP a reach r c y 0))), (12, .fz int (preP a reach r c y 0).length), (13, .fz int (bestL kind (a.2.2.getD i 0) (preP a reach r c y 0))), (14, .fz int y)], []⟩, fun y => (y : Int) ≤ a.2.1, fun y => a.2.1.toNat - y, 0, by show ((0 : Nat) : Int) ≤ _; omega, Ent.sub rfl ?_, ?_⟩
  · (repeat' (first | exact trivial | exact rfl | refine And.intro ?_ ?_))
    · exact congrArg (AV.fz int) hc
    · exact congrArg (AV.fz int) hr
  intro y hy
  obtain ⟨b1, b2, b3⟩ := bd y 0 hy (by show ((0 : Nat) : Int) ≤ _; omega)
  (repeat' (first | exact trivial | exact fun h => h | refine And.intro ?_ ?_ | (intro hb; first | (simp at hb; done) | (simp at hb) | skip) | omega | exact rfl | exact Nat.le_refl _ | (show _ + 1 ≤ 4294967296; omega) | (dsimp only; omega) | (show wantB _ _ = true; simp; done) | (show wantB _ _ = true; simp; omega) | (show (_ : Bool) = _; simp_all; done) | (exfalso; omega) | refine aRegion_auto (by decide +kernel) ?_ | refine ⟨_, _, REnt.drop ⟨rfl, rfl⟩, ?_⟩ | fail))
  · refine ⟨Nat, fun x => ⟨[(0, .fptr RasT a), (2, .fz int reach), (3, .fz int kind), (9, .fz int c), (10, .fz int r), (11, .fz int (sumL (preP a reach r c y x))), (12, .fz int (preP a reach r c y x).length), (13, .fz int (bestL kind (a.2.2.getD i 0) (preP a reach r c y x))), (14, .fz int y), (15, .fz int x)], []⟩, fun x => (x : Int) ≤ a.1, fun x => a.1.toNat - x, 0, by show ((0 : Nat) : Int) ≤ _; omega, Ent.sub rfl ?_, ?_⟩
    · (repeat' (first | exact trivial | exact rfl | refine And.intro ?_ ?_))
    intro x hx
    obtain ⟨b1, b2, b3⟩ := bd y x hy hx
    have hyx := row_bd (y := (y : Int)) (H := a.2.1) (W := a.1) (by omega) (by omega) (by omega)
    have gyx := getD_big hbig (Int.toNat ((y : Int) * a.1 + x))
    have eyx : Int.toNat ((y : Int) * a.1 + x) = y * a.1.toNat + x := by
      have : ((y * a.1.toNat : Nat) : Int) = (y : Int) * a.1 := by rw [Int.natCast_mul]; congr 1; omega
      omega
    have step : ∀ h : Int, h = a.2.2.getD (y * a.1.toNat + x) 0 → inW y x r c reach = true → sumL (preP a reach r c y (x + 1)) = sumL (preP a reach r c y x) + h ∧ ((preP a reach r c y (x + 1)).length : Int) = ((preP a reach r c y x).length : Int) + 1 ∧
        bestL kind (a.2.2.getD i 0) (preP a reach r c y (x + 1)) = stepB kind (bestL kind (a.2.2.getD i 0) (preP a reach r c y x)) h := by
      intro h hh hin
      rw [preP_take hin, sumL_app, sumL_one, bestL_app, List.length_append, hh]
      exact ⟨rfl, by simp, rfl⟩
    have gE : List.getD a.2.2 (Int.toNat ((y : Int) * a.1 + x)) (Ty.dft int) = a.2.2.getD (y * a.1.toNat + x) 0 := by rw [eyx]; rfl
    (repeat' (first | exact trivial | exact fun h => h | refine And.intro ?_ ?_ | (intro hb; first | (simp at hb; done) | (simp at hb) | skip) | omega | exact rfl | exact Nat.le_refl _ | (show _ + 1 ≤ 4294967296; omega) | (dsimp only; omega) | (show wantB _ _ = true; simp; done) | (show wantB _ _ = true; simp; omega) | (show (_ : Bool) = _; simp_all; done) | (exfalso; omega) | refine aRegion_auto (by decide +kernel) ?_ | refine ⟨_, _, REnt.drop ⟨rfl, rfl⟩, ?_⟩ | fail))
    · have hin : inW y x r c reach = false := by unfold inW; simp; omega
      have e := preP_skip (a := a) hin
      refine ⟨x + 1, by show ((x + 1 : Nat) : Int) ≤ _; omega, by show _ - _ < _ - _; omega, Ent.sub rfl ?_⟩
      rw [e]
      (repeat' (first | exact trivial | exact rfl | refine And.intro ?_ ?_))
    · have hin : inW y x r c reach = true := by unfold inW; simp; omega
      obtain ⟨e1, e2, e3⟩ := step _ gE hin
      refine ⟨x + 1, by show ((x + 1 : Nat) : Int) ≤ _; omega, by show _ - _ < _ - _; omega, Ent.sub rfl ?_⟩
      rw [e1, e2, e3]
      (repeat' (first | exact trivial | exact rfl | refine And.intro ?_ ?_))
      exact congrArg (AV.fz int) (by unfold stepB; rw [if_pos (by simp only [← List.getD_eq_getElem?_getD, gE] at hb; omega)])
    · have hin : inW y x r c reach = true := by unfold inW; simp; omega
      obtain ⟨e1, e2, e3⟩ := step _ gE hin
      refine ⟨x + 1, by show ((x + 1 : Nat) : Int) ≤ _; omega, by show _ - _ < _ - _; omega, Ent.sub rfl ?_⟩
      rw [e1, e2, e3]
      (repeat' (first | exact trivial | exact rfl | refine And.intro ?_ ?_))
      exact congrArg (AV.fz int) (by unfold stepB; rw [if_neg (by simp only [← List.getD_eq_getElem?_getD, gE] at hb; omega)])
    · refine ⟨y + 1, by show ((y + 1 : Nat) : Int) ≤ _; omega, by show _ - _ < _ - _; omega, Ent.sub rfl ?_⟩
      rw [preP_end (by omega)]
      (repeat' (first | exact trivial | exact rfl | refine And.intro ?_ ?_))
  · have ew : preP a reach r c y 0 = winP a reach i := by
      unfold winP; rw [hr, hc]; congr 1; omega
    have hwl : 0 < (winP a reach i).length := List.length_pos_iff.2 hw
    rw [ew] at b1 b2 ⊢
    refine acall_frame0 rfl (downB_any _ _ _ (by omega) (by omega) (by omega) _ ?_)
    (repeat' (first | exact trivial | exact fun h => h | refine And.intro ?_ ?_ | (intro hb; first | (simp at hb; done) | (simp at hb) | skip) | omega | exact rfl | exact Nat.le_refl _ | (show _ + 1 ≤ 4294967296; omega) | (dsimp only; omega) | (show wantB _ _ = true; simp; done) | (show wantB _ _ = true; simp; omega) | (show (_ : Bool) = _; simp_all; done) | (exfalso; omega) | refine aRegion_auto (by decide +kernel) ?_ | refine ⟨_, _, REnt.drop ⟨rfl, rfl⟩, ?_⟩ | fail))
    exact kz hK (by unfold aroundP; rw [if_pos (by assumption)]; rfl)
  · have ew : preP a reach r c y 0 = winP a reach i := by
      unfold winP; rw [hr, hc]; congr 1; omega
    exact kz hK (by unfold aroundP; rw [if_neg (by assumption), ew])
end Go.Proofs.YtidhgdipnfhoeaaDoor
/-
  What is around a cell: both ways to find it find the same.
-/
namespace Go.Proofs.YtidhgdipnfhoeaaDoor
open Go Go.Ab
set_option maxRecDepth 100000
/-- some cells of a row, from one on -/
def slc (l : List Int) (s n : Nat) : List Int := (List.range n).map fun k => l.getD (s + k) 0
theorem slc_eq {l : List Int} {s n : Nat} (h : s + n ≤ l.length) : (l.drop s).take n = slc l s n := by
  unfold slc
  apply List.ext_getElem
  · simp; omega
  · intro i h1 h2
    simp at h1 h2 ⊢
    rw [List.getElem?_eq_getElem (by omega)]; rfl
theorem rowP_slc (a : Ras) (reach : Int) (r c : Nat) (y : Nat) (hy : (y : Int) - r ≤ reach ∧ (r : Int) - y ≤ reach) (h0 : 0 ≤ reach) :
    ∀ x, rowP a reach r c y x = slc a.2.2 (y * a.1.toNat + ((c : Int) - reach).toNat) (min x ((c : Int) + reach + 1).toNat - ((c : Int) - reach).toNat)
  | 0 => by simp [rowP, slc]
  | x + 1 => by
    unfold rowP
    rw [rowP_slc a reach r c y hy h0 x]
    by_cases h : inW y x r c reach = true
    · rw [if_pos h]
      unfold inW at h
      simp at h
      have e : min (x + 1) ((c : Int) + reach + 1).toNat - ((c : Int) - reach).toNat = (min x ((c : Int) + reach + 1).toNat - ((c : Int) - reach).toNat) + 1 := by omega
      rw [e]
      unfold slc
      rw [List.range_succ, List.map_append]
      congr 1
      simp only [List.map_cons, List.map_nil]
      congr 2; omega
    · rw [if_neg h, List.append_nil]
      unfold inW at h
      simp at h
      congr 1; omega
theorem rowP_none (a : Ras) (reach : Int) (r c : Nat) (y : Nat) (hy : ¬ ((y : Int) - r ≤ reach ∧ (r : Int) - y ≤ reach)) : ∀ x, rowP a reach r c y x = []
  | 0 => rfl
  | x + 1 => by
    unfold rowP
    rw [rowP_none a reach r c y hy x, if_neg]
    · rfl
    · unfold inW; simp; omega
theorem seg_slc {a : Ras} {reach : Int} {c : Nat} {y : Nat} (h0 : 0 ≤ reach) (hW : 1 ≤ a.1) (hc : (c : Int) < a.1) (hl : (y : Int) * a.1 + a.1 ≤ (a.2.2.length : Int)) :
    seg a reach c y = slc a.2.2 (y * a.1.toNat + ((c : Int) - reach).toNat) (min a.1.toNat ((c : Int) + reach + 1).toNat - ((c : Int) - reach).toNat) := by
  have e0 : ((y * a.1.toNat : Nat) : Int) = (y : Int) * a.1 := by rw [Int.natCast_mul]; congr 1; omega
  unfold seg
  rw [show ((y : Int) * a.1 + max 0 ((c : Int) - reach)).toNat = y * a.1.toNat + ((c : Int) - reach).toNat by omega,
    show ((y : Int) * a.1 + min (a.1 - 1) ((c : Int) + reach) + 1).toNat - (y * a.1.toNat + ((c : Int) - reach).toNat) = min a.1.toNat ((c : Int) + reach + 1).toNat - ((c : Int) - reach).toNat by omega]
  exact slc_eq (by omega)
/-- all rows up to one, by the rows that count -/
theorem allP_segs {a : Ras} {reach : Int} {r c : Nat} (h0 : 0 ≤ reach) (hW : 1 ≤ a.1) (hc : (c : Int) < a.1) (hl : (a.2.2.length : Int) = a.1 * a.2.1) :
    ∀ y : Nat, (y : Int) ≤ a.2.1 → allP a reach r c y = segs a reach c (max 0 ((r : Int) - reach)) (min y ((r : Int) + reach + 1).toNat - ((r : Int) - reach).toNat)
  | 0, _ => by simp [allP, segs]
  | y + 1, hy => by
    have ih := allP_segs (r := r) h0 hW hc hl y (by omega)
    unfold allP
    rw [ih]
    by_cases h : (y : Int) - r ≤ reach ∧ (r : Int) - y ≤ reach
    · rw [rowP_slc a reach r c y h h0]
      have e : min (y + 1) ((r : Int) + reach + 1).toNat - ((r : Int) - reach).toNat = (min y ((r : Int) + reach + 1).toNat - ((r : Int) - reach).toNat) + 1 := by omega
      have e2 : max 0 ((r : Int) - reach) + ((min y ((r : Int) + reach + 1).toNat - ((r : Int) - reach).toNat : Nat) : Int) = (y : Int) := by omega
      have hb := row_bd (y := (y : Int)) (H := a.2.1) (W := a.1) (by omega) (by omega) (by omega)
      rw [e, segs.eq_2, e2, seg_slc h0 hW hc (by omega)]
    · rw [rowP_none a reach r c y h, List.append_nil]
      congr 1; omega
theorem winP_winW {a : Ras} {reach : Int} {r c : Nat} (h0 : 0 ≤ reach) (hv : rerr a = 0) (hr : (r : Int) < a.2.1) (hc : (c : Int) < a.1) : winP a reach (r * a.1.toNat + c) = winW a reach r c := by
  obtain ⟨⟨hW1, hH1, hW2, hH2, hlen⟩, _⟩ := rerr_ok hv
  obtain ⟨W, hW⟩ : ∃ W : Nat, a.1 = (W : Int) := ⟨a.1.toNat, by omega⟩
  have e1 : Int.tdiv ((r * a.1.toNat + c : Nat) : Int) a.1 = (r : Int) := by
    rw [Int.tdiv_eq_ediv_of_nonneg (by omega), hW]
    have : (r * W + c) / W = r := by rw [Nat.mul_comm, Nat.mul_add_div (by omega), Nat.div_eq_of_lt (by omega), Nat.add_zero]
    simpa using congrArg (fun n : Nat => (n : Int)) this
  have e2 : Int.tmod ((r * a.1.toNat + c : Nat) : Int) a.1 = (c : Int) := by
    rw [Int.tmod_eq_emod_of_nonneg (by omega), hW]
    have : (r * W + c) % W = c := by rw [Nat.mul_comm, Nat.mul_add_mod, Nat.mod_eq_of_lt (by omega)]
    simpa using congrArg (fun n : Nat => (n : Int)) this
  unfold winP
  rw [e1, e2]
  unfold preP
  show allP a reach r c a.2.1.toNat ++ [] = _
  rw [List.append_nil, allP_segs h0 hW1 hc hlen a.2.1.toNat (by omega)]
  unfold winW
  congr 1; omega
theorem fold_max_mem : ∀ (l : List Int) (b : Int), (∀ x ∈ l, x ≤ b) → l.foldl max b = b
  | [], b, _ => rfl
  | x :: l, b, h => by
    rw [List.foldl_cons, show max b x = b by have := h x (List.mem_cons_self ..); omega]
    exact fold_max_mem l b fun y hy => h y (List.mem_cons_of_mem _ hy)
/-- the greatest of those that there are is the greatest, from one of them on -/
theorem max_props (l : List Int) : ∀ b : Int, b ≤ l.foldl max b ∧ (∀ x ∈ l, x ≤ l.foldl max b) ∧ (l.foldl max b = b ∨ l.foldl max b ∈ l) := by
  induction l with
  | nil => intro b; exact ⟨Int.le_refl _, fun x h => (by cases h), .inl rfl⟩
  | cons y l ih =>
    intro b
    obtain ⟨h1, h2, h3⟩ := ih (max b y)
    rw [List.foldl_cons]
    refine ⟨by omega, fun x hx => ?_, ?_⟩
    · rcases List.mem_cons.1 hx with rfl | hx
      · omega
      · exact h2 x hx
    · rcases h3 with h3 | h3
      · by_cases h : b < y
        · exact .inr (by rw [h3, show max b y = y by omega]; exact List.mem_cons_self ..)
        · exact .inl (by rw [h3]; omega)
      · exact .inr (List.mem_cons_of_mem _ h3)
theorem min_props (l : List Int) : ∀ b : Int, l.foldl min b ≤ b ∧ (∀ x ∈ l, l.foldl min b ≤ x) ∧ (l.foldl min b = b ∨ l.foldl min b ∈ l) := by
  induction l with
  | nil => intro b; exact ⟨Int.le_refl _, fun x h => (by cases h), .inl rfl⟩
  | cons y l ih =>
    intro b
    obtain ⟨h1, h2, h3⟩ := ih (min b y)
    rw [List.foldl_cons]
    refine ⟨by omega, fun x hx => ?_, ?_⟩
    · rcases List.mem_cons.1 hx with rfl | hx
      · omega
      · exact h2 x hx
    · rcases h3 with h3 | h3
      · by_cases h : y < b
        · exact .inr (by rw [h3, show min b y = y by omega]; exact List.mem_cons_self ..)
        · exact .inl (by rw [h3]; omega)
      · exact .inr (List.mem_cons_of_mem _ h3)
theorem step_max : stepB 1 = max := by funext b h; unfold stepB; split <;> omega
theorem step_min : stepB 2 = min := by funext b h; unfold stepB; split <;> omega
theorem best_max {l : List Int} {b : Int} (h : b ∈ l) : bestL 1 b l = maxL l := by
  unfold bestL
  rw [step_max]
  cases l with
  | nil => cases h
  | cons x l =>
    show (x :: l).foldl max b = l.foldl max x
    obtain ⟨p1, p2, p3⟩ := max_props (x :: l) b
    obtain ⟨q1, q2, q3⟩ := max_props l x
    have hin : ∀ y ∈ x :: l, y ≤ l.foldl max x := fun y hy => by
      rcases List.mem_cons.1 hy with rfl | hy
      · exact q1
      · exact q2 y hy
    have h1 : (x :: l).foldl max b ≤ l.foldl max x := by
      rcases p3 with p3 | p3
      · rw [p3]; exact hin b h
      · exact hin _ p3
    have h2 : l.foldl max x ≤ (x :: l).foldl max b := by
      rcases q3 with q3 | q3
      · rw [q3]; exact p2 x (List.mem_cons_self ..)
      · exact p2 _ (List.mem_cons_of_mem _ q3)
    omega
theorem best_min {l : List Int} {b : Int} (h : b ∈ l) : bestL 2 b l = minL l := by
  unfold bestL
  rw [step_min]
  cases l with
  | nil => cases h
  | cons x l =>
    show (x :: l).foldl min b = l.foldl min x
    obtain ⟨p1, p2, p3⟩ := min_props (x :: l) b
    obtain ⟨q1, q2, q3⟩ := min_props l x
    have hin : ∀ y ∈ x :: l, l.foldl min x ≤ y := fun y hy => by
      rcases List.mem_cons.1 hy with rfl | hy
      · exact q1
      · exact q2 y hy
    have h1 : l.foldl min x ≤ (x :: l).foldl min b := by
      rcases p3 with p3 | p3
      · rw [p3]; exact hin b h
      · exact hin _ p3
    have h2 : (x :: l).foldl min b ≤ l.foldl min x := by
      rcases q3 with q3 | q3
      · rw [q3]; exact p2 x (List.mem_cons_self ..)
      · exact p2 _ (List.mem_cons_of_mem _ q3)
    omega
/-- the cell itself is around itself -/
theorem self_in {a : Ras} {reach : Int} {r c : Nat} (h0 : 0 ≤ reach) (hr : (r : Int) < a.2.1) (hc : (c : Int) < a.1) : a.2.2.getD (r * a.1.toNat + c) 0 ∈ allP a reach r c a.2.1.toNat := by
  have hrow : ∀ x : Nat, c < x → a.2.2.getD (r * a.1.toNat + c) 0 ∈ rowP a reach r c r x := by
    intro x
    induction x with
    | zero => intro h; omega
    | succ x ih =>
      intro h
      unfold rowP
      by_cases hx : c < x
      · exact List.mem_append_left _ (ih hx)
      · obtain rfl : c = x := by omega
        refine List.mem_append_right _ ?_
        rw [if_pos (by unfold inW; simp; omega)]
        exact List.mem_singleton.2 rfl
  have hall : ∀ y : Nat, r < y → a.2.2.getD (r * a.1.toNat + c) 0 ∈ allP a reach r c y := by
    intro y
    induction y with
    | zero => intro h; omega
    | succ y ih =>
      intro h
      unfold allP
      by_cases hy : r < y
      · exact List.mem_append_left _ (ih hy)
      · obtain rfl : r = y := by omega
        exact List.mem_append_right _ (hrow _ (by omega))
  exact hall _ (by omega)
/-- what kinds of answers there are -/
def kindF (kind : Int) : List Int → Int := if kind = 0 then meanL else if kind = 1 then maxL else minL
theorem aroundP_eq {a : Ras} {reach kind : Int} {r c : Nat} (h0 : 0 ≤ reach) (hv : rerr a = 0) (hr : (r : Int) < a.2.1) (hc : (c : Int) < a.1) (hk : kind = 0 ∨ kind = 1 ∨ kind = 2) :
    winP a reach (r * a.1.toNat + c) ≠ [] ∧ aroundP a reach kind (r * a.1.toNat + c) = kindF kind (winW a reach r c) := by
  have e := winP_winW h0 hv hr hc
  obtain ⟨⟨hW1, hH1, hW2, hH2, hlen⟩, _⟩ := rerr_ok hv
  have hin : a.2.2.getD (r * a.1.toNat + c) 0 ∈ winW a reach r c := by
    have := self_in (reach := reach) h0 hr hc
    rw [allP_segs h0 hW1 hc hlen a.2.1.toNat (by omega)] at this
    unfold winW
    rwa [show (min (a.2.1 - 1) ((r : Int) + reach) + 1 - max 0 ((r : Int) - reach)).toNat = min a.2.1.toNat ((r : Int) + reach + 1).toNat - ((r : Int) - reach).toNat by omega]
  refine ⟨by rw [e]; exact List.ne_nil_of_mem hin, ?_⟩
  unfold aroundP kindF
  rw [e]
  rcases hk with rfl | rfl | rfl
  · rfl
  · rw [if_neg (by decide), if_neg (by decide), if_pos rfl]; exact best_max hin
  · rw [if_neg (by decide), if_neg (by decide), if_neg (by decide)]; exact best_min hin
/-- the answers, cell by cell -/
def allK (a : Ras) (reach kind : Int) (n : Nat) : List Int := (List.range n).map fun i => aroundP a reach kind i
theorem rowW_map (F : List Int → Int) (a : Ras) (reach : Int) (r : Nat) : ∀ c, rowW F a reach r c = (List.range c).map fun c => F (winW a reach r c)
  | 0 => rfl
  | c + 1 => by unfold rowW; rw [rowW_map F a reach r c, List.range_succ, List.map_append]; rfl
theorem allW_allK {a : Ras} {reach kind : Int} (h0 : 0 ≤ reach) (hv : rerr a = 0) (hk : kind = 0 ∨ kind = 1 ∨ kind = 2) : ∀ r : Nat, (r : Int) ≤ a.2.1 → allW (kindF kind) a reach r = allK a reach kind (r * a.1.toNat)
  | 0, _ => by simp [allW, allK]
  | r + 1, h => by
    have ih := allW_allK h0 hv hk r (by omega)
    unfold allW
    rw [ih, rowW_map]
    unfold allK
    rw [Nat.succ_mul, List.range_add, List.map_append]
    congr 1
    rw [List.map_map]
    refine List.map_congr_left fun c hc => ?_
    have := List.mem_range.1 hc
    exact (aroundP_eq (reach := reach) (kind := kind) h0 hv (show (r : Int) < a.2.1 by omega) (by omega) hk).2.symm
theorem around_both {a : Ras} {reach kind : Int} (h0 : 0 ≤ reach) (hv : rerr a = 0) (hk : kind = 0 ∨ kind = 1 ∨ kind = 2) : (onR (kindF kind) a reach).2.2 = allK a reach kind a.2.2.length := by
  obtain ⟨⟨hW1, hH1, hW2, hH2, hlen⟩, _⟩ := rerr_ok hv
  show allW _ _ _ _ = _
  rw [allW_allK h0 hv hk _ (by omega)]
  congr 1
  have : ((a.2.1.toNat * a.1.toNat : Nat) : Int) = a.2.1 * a.1 := by rw [Int.natCast_mul]; congr 1 <;> omega
  rw [Int.mul_comm] at this; omega
theorem around_ne {a : Ras} {reach : Int} (h0 : 0 ≤ reach) (hv : rerr a = 0) {i : Nat} (hi : i < a.2.2.length) : winP a reach i ≠ [] := by
  obtain ⟨⟨hW1, hH1, hW2, hH2, hlen⟩, _⟩ := rerr_ok hv
  have h1 : i % a.1.toNat < a.1.toNat := Nat.mod_lt _ (by omega)
  have h2 : i / a.1.toNat < a.2.1.toNat := by
    rw [Nat.div_lt_iff_lt_mul (by omega)]
    have : ((a.2.1.toNat * a.1.toNat : Nat) : Int) = a.2.1 * a.1 := by rw [Int.natCast_mul]; congr 1 <;> omega
    rw [Int.mul_comm] at this; omega
  have := (aroundP_eq (kind := 0) (r := i / a.1.toNat) (c := i % a.1.toNat) h0 hv (by omega) (by omega) (.inl rfl)).1
  rwa [Nat.mul_comm, Nat.div_add_mod] at this
end Go.Proofs.YtidhgdipnfhoeaaDoor
/-
  FieldAround: the walk.
-/
namespace Go.Proofs.YtidhgdipnfhoeaaDoor
open Go Go.Ab
set_option maxRecDepth 100000
theorem allK_len (a : Ras) (reach kind : Int) (n : Nat) : (allK a reach kind n).length = n := by simp [allK]
theorem allK_step (a : Ras) (reach kind : Int) (n : Nat) : List.take n (allK a reach kind n) ++ [aroundP a reach kind n] = allK a reach kind (n + 1) := by
  rw [List.take_of_length_le (by rw [allK_len]; exact Nat.le_refl _)]
  unfold allK; rw [List.range_succ, List.map_append]; rfl
set_option maxHeartbeats 4000000 in
theorem allAround_any (G : List (Nat × Value)) (a : Ras) (reach kind : Int) (hv : rerr a = 0) (h0 : 0 ≤ reach) (h1 : reach ≤ 128) (K : AV → List AO → Prop) (hK : K (.fz (.list int) (allK a reach kind a.2.2.length)) []) :
    ACall Tryd.prog G 30 [.fptr RasT a, .fz int reach, .fz int kind] [] K := by
  refine acall_mk (E := envAt G 27 0) (envOk _ _ _) Tryd.func30 rfl rfl rfl rfl rfl ?_
  obtain ⟨⟨hW1, hH1, hW2, hH2, hlen⟩, hbig⟩ := rerr_ok hv
  have hm := mul_bd (a := a.1) (b := a.2.1) (A := 128) (B := 128) (by omega) (by omega) (by omega) (by omega)
  (repeat' (first | exact trivial | exact fun h => h | refine And.intro ?_ ?_ | (intro hb; first | (simp at hb; done) | (simp at hb) | skip) | omega | exact rfl | exact Nat.le_refl _ | (show _ + 1 ≤ 4294967296; omega) | (dsimp only; omega) | (show wantB _ _ = true; simp; done) | (show wantB _ _ = true; simp; omega) | (show (_ : Bool) = _; simp_all; done) | (exfalso; omega) | refine aRegion_auto (by decide +kernel) ?_ | refine ⟨_, _, REnt.drop ⟨rfl, rfl⟩, ?_⟩ | fail))
  refine ⟨Nat, fun i => ⟨[(0, .fptr RasT a), (1, .fz int reach), (2, .fz int kind), (7, .ref 0 0 i), (8, .fz int i)], [.row int (allK a reach kind i)]⟩, fun i => i ≤ a.2.2.length, fun i => a.2.2.length - i, 0, Nat.zero_le _, (Ent.nil 7 int rfl).trans (Ent.sub rfl ?_), ?_⟩
  · (repeat' (first | exact trivial | exact rfl | refine And.intro ?_ ?_))
  intro i hi
  have hri := allK_len a reach kind i
  (repeat' (first | exact trivial | exact fun h => h | refine And.intro ?_ ?_ | (intro hb; first | (simp at hb; done) | (simp at hb) | skip) | omega | exact rfl | exact Nat.le_refl _ | (show _ + 1 ≤ 4294967296; omega) | (dsimp only; omega) | (show wantB _ _ = true; simp; done) | (show wantB _ _ = true; simp; omega) | (show (_ : Bool) = _; simp_all; done) | (exfalso; omega) | refine aRegion_auto (by decide +kernel) ?_ | refine ⟨_, _, REnt.drop ⟨rfl, rfl⟩, ?_⟩ | fail))
  · refine acall_frame0 rfl (aroundOf_any _ a i reach kind hv (by omega) h0 h1 (around_ne h0 hv (by omega)) _ ?_)
    (repeat' (first | exact trivial | exact fun h => h | refine And.intro ?_ ?_ | (intro hb; first | (simp at hb; done) | (simp at hb) | skip) | omega | exact rfl | exact Nat.le_refl _ | (show _ + 1 ≤ 4294967296; omega) | (dsimp only; omega) | (show wantB _ _ = true; simp; done) | (show wantB _ _ = true; simp; omega) | (show (_ : Bool) = _; simp_all; done) | (exfalso; omega) | refine aRegion_auto (by decide +kernel) ?_ | refine ⟨_, _, REnt.drop ⟨rfl, rfl⟩, ?_⟩ | fail))
    refine ⟨i + 1, by show _ ≤ _; omega, by show _ - _ < _ - _; omega, Ent.ren [2] rfl ?_ ?_⟩
    · (repeat' (first | exact trivial | exact rfl | refine And.intro ?_ ?_))
      exact congrArg (fun l => some (AO.row int l)) (allK_step a reach kind i)
    · (repeat' (first | exact trivial | exact rfl | refine And.intro ?_ ?_))
  · have hi2 : i = a.2.2.length := by omega
    subst hi2
    refine ⟨_, _, (REnt.conv1 (.dat (.list int)) _ rfl ?_).trans (REnt.drop ⟨rfl, rfl⟩), ?_⟩
    · (repeat' (first | exact trivial | refine And.intro ?_ ?_ | (show _ ≤ _; omega) | (show _ ≤ _; simp; done)))
    exact (congrArg (fun l => K (.fz (.list int) l) []) (List.take_of_length_le (by rw [List.drop_zero, hri]; exact Nat.le_refl _))).mpr hK
set_option maxHeartbeats 4000000 in
theorem fieldAround_some {E : Errs} (hE : (EL E).Nodup) (a : Ras) (reach : Int) (hla : a.2.2.length ≤ 9223372036854775807) (hr : I64 reach) (K : AV → List AO → Prop) (hK : K (.fz .bool true) []) :
    ACall Tryd.prog (G8 E) 7 [.fptr RasT a, .fz int reach] [] K := by
  refine acall_mk (E := envAt (G8 E) 154 0) (envOk _ _ _) Tryd.func7 rfl rfl rfl rfl rfl ?_
  (repeat' (first | exact trivial | exact fun h => h | refine And.intro ?_ ?_ | (intro hb; first | (simp at hb; done) | (simp at hb) | skip) | omega | exact rfl | exact Nat.le_refl _ | (show _ + 1 ≤ 4294967296; omega) | (dsimp only; omega) | (show wantB _ _ = true; simp; done) | (show wantB _ _ = true; simp; omega) | (show (_ : Bool) = _; simp_all; done) | (exfalso; omega) | refine aRegion_auto (by decide +kernel) ?_ | refine ⟨_, _, REnt.drop ⟨rfl, rfl⟩, ?_⟩ | fail))
  refine acall_frame0 rfl (up8 (rasters_any E _ ?_))
  (repeat' (first | exact trivial | exact fun h => h | refine And.intro ?_ ?_ | (intro hb; first | (simp at hb; done) | (simp at hb) | skip) | omega | exact rfl | exact Nat.le_refl _ | (show _ + 1 ≤ 4294967296; omega) | (dsimp only; omega) | (show wantB _ _ = true; simp; done) | (show wantB _ _ = true; simp; omega) | (show (_ : Bool) = _; simp_all; done) | (exfalso; omega) | refine aRegion_auto (by decide +kernel) ?_ | refine ⟨_, _, REnt.drop ⟨rfl, rfl⟩, ?_⟩ | fail))
  refine acall_frame0 rfl (small_any _ a _ ?_)
  (repeat' (first | exact trivial | exact fun h => h | refine And.intro ?_ ?_ | (intro hb; first | (simp at hb; done) | (simp at hb) | skip) | omega | exact rfl | exact Nat.le_refl _ | (show _ + 1 ≤ 4294967296; omega) | (dsimp only; omega) | (show wantB _ _ = true; simp; done) | (show wantB _ _ = true; simp; omega) | (show (_ : Bool) = _; simp_all; done) | (exfalso; omega) | refine aRegion_auto (by decide +kernel) ?_ | refine ⟨_, _, REnt.drop ⟨rfl, rfl⟩, ?_⟩ | fail))
  · exact hK
  have hl2 : a.2.2.length ≤ 200 := hb
  refine acall_frame0 rfl (mean_one E a reach (by omega) hr _ ?_)
  (repeat' (first | exact trivial | exact fun h => h | refine And.intro ?_ ?_ | (intro hb; first | (simp at hb; done) | (simp at hb) | skip) | omega | exact rfl | exact Nat.le_refl _ | (show _ + 1 ≤ 4294967296; omega) | (dsimp only; omega) | (show wantB _ _ = true; simp; done) | (show wantB _ _ = true; simp; omega) | (show (_ : Bool) = _; simp_all; done) | (exfalso; omega) | refine aRegion_auto (by decide +kernel) ?_ | refine ⟨_, _, REnt.drop ⟨rfl, rfl⟩, ?_⟩ | fail))
  refine acall_frame0 rfl (most_one E a reach (by omega) hr _ ?_)
  (repeat' (first | exact trivial | exact fun h => h | refine And.intro ?_ ?_ | (intro hb; first | (simp at hb; done) | (simp at hb) | skip) | omega | exact rfl | exact Nat.le_refl _ | (show _ + 1 ≤ 4294967296; omega) | (dsimp only; omega) | (show wantB _ _ = true; simp; done) | (show wantB _ _ = true; simp; omega) | (show (_ : Bool) = _; simp_all; done) | (exfalso; omega) | refine aRegion_auto (by decide +kernel) ?_ | refine ⟨_, _, REnt.drop ⟨rfl, rfl⟩, ?_⟩ | fail))
  refine acall_frame0 rfl (least_one E a reach (by omega) hr _ ?_)
  (repeat' (first | exact trivial | exact fun h => h | refine And.intro ?_ ?_ | (intro hb; first | (simp at hb; done) | (simp at hb) | skip) | omega | exact rfl | exact Nat.le_refl _ | (show _ + 1 ≤ 4294967296; omega) | (dsimp only; omega) | (show wantB _ _ = true; simp; done) | (show wantB _ _ = true; simp; omega) | (show (_ : Bool) = _; simp_all; done) | (exfalso; omega) | refine aRegion_auto (by decide +kernel) ?_ | refine ⟨_, _, REnt.drop ⟨rfl, rfl⟩, ?_⟩ | fail))
  refine acall_frame0 rfl (rasterError_any _ a (by omega) _ ?_)
  have hz : ∀ F : List Int → Int, aerr a reach ≠ 0 → onQ F a reach = (0, 0, []) := fun F h => by unfold onQ; rw [if_neg h]
  have hg := aerr_ge (a := a) (reach := reach)
  (repeat' (first | exact trivial | exact fun h => h | refine And.intro ?_ ?_ | (intro hb; first | (simp at hb; done) | (simp at hb) | skip) | omega | exact rfl | exact Nat.le_refl _ | (show _ + 1 ≤ 4294967296; omega) | (dsimp only; omega) | (show wantB _ _ = true; simp; done) | (show wantB _ _ = true; simp; omega) | (show (_ : Bool) = _; simp_all; done) | (exfalso; omega) | refine aRegion_auto (by decide +kernel) ?_ | refine ⟨_, _, REnt.drop ⟨rfl, rfl⟩, ?_⟩ | fail))
  · rename_i hc _
    have ea : aerr a reach = 3 := by unfold aerr; rw [if_neg (by omega), if_pos (by omega)]
    refine acall_frame0 rfl (coded_mercatorlaw3 hE (by omega) 3 _ ?_)
    rw [decide_eq_true (show ((aerr a reach : Nat) : Int) = 3 by omega)]
    (repeat' (first | exact trivial | exact fun h => h | refine And.intro ?_ ?_ | (intro hb; first | (simp at hb; done) | (simp at hb) | skip) | omega | exact rfl | exact Nat.le_refl _ | (show _ + 1 ≤ 4294967296; omega) | (dsimp only; omega) | (show wantB _ _ = true; simp; done) | (show wantB _ _ = true; simp; omega) | (show (_ : Bool) = _; simp_all; done) | (exfalso; omega) | refine aRegion_auto (by decide +kernel) ?_ | refine ⟨_, _, REnt.drop ⟨rfl, rfl⟩, ?_⟩ | fail))
    refine acall_conv [.dat RasT] _ _ _ rfl trivial (acall_frame0 rfl (nothing_any _ (onQ meanL a reach) _ ?_))
    rw [hz meanL (by omega)]
    (repeat' (first | exact trivial | exact fun h => h | refine And.intro ?_ ?_ | (intro hb; first | (simp at hb; done) | (simp at hb) | skip) | omega | exact rfl | exact Nat.le_refl _ | (show _ + 1 ≤ 4294967296; omega) | (dsimp only; omega) | (show wantB _ _ = true; simp; done) | (show wantB _ _ = true; simp; omega) | (show (_ : Bool) = _; simp_all; done) | (exfalso; omega) | refine aRegion_auto (by decide +kernel) ?_ | refine ⟨_, _, REnt.drop ⟨rfl, rfl⟩, ?_⟩ | fail))
    refine acall_frame0 rfl (coded_mercatorlaw3 hE (by omega) 3 _ ?_)
    rw [decide_eq_true (show ((aerr a reach : Nat) : Int) = 3 by omega)]
    (repeat' (first | exact trivial | exact fun h => h | refine And.intro ?_ ?_ | (intro hb; first | (simp at hb; done) | (simp at hb) | skip) | omega | exact rfl | exact Nat.le_refl _ | (show _ + 1 ≤ 4294967296; omega) | (dsimp only; omega) | (show wantB _ _ = true; simp; done) | (show wantB _ _ = true; simp; omega) | (show (_ : Bool) = _; simp_all; done) | (exfalso; omega) | refine aRegion_auto (by decide +kernel) ?_ | refine ⟨_, _, REnt.drop ⟨rfl, rfl⟩, ?_⟩ | fail))
    refine acall_conv [.dat RasT] _ _ _ rfl trivial (acall_frame0 rfl (nothing_any _ (onQ maxL a reach) _ ?_))
    rw [hz maxL (by omega)]
    (repeat' (first | exact trivial | exact fun h => h | refine And.intro ?_ ?_ | (intro hb; first | (simp at hb; done) | (simp at hb) | skip) | omega | exact rfl | exact Nat.le_refl _ | (show _ + 1 ≤ 4294967296; omega) | (dsimp only; omega) | (show wantB _ _ = true; simp; done) | (show wantB _ _ = true; simp; omega) | (show (_ : Bool) = _; simp_all; done) | (exfalso; omega) | refine aRegion_auto (by decide +kernel) ?_ | refine ⟨_, _, REnt.drop ⟨rfl, rfl⟩, ?_⟩ | fail))
    refine acall_frame0 rfl (coded_mercatorlaw3 hE (by omega) 3 _ ?_)
    rw [decide_eq_true (show ((aerr a reach : Nat) : Int) = 3 by omega)]
    (repeat' (first | exact trivial | exact fun h => h | refine And.intro ?_ ?_ | (intro hb; first | (simp at hb; done) | (simp at hb) | skip) | omega | exact rfl | exact Nat.le_refl _ | (show _ + 1 ≤ 4294967296; omega) | (dsimp only; omega) | (show wantB _ _ = true; simp; done) | (show wantB _ _ = true; simp; omega) | (show (_ : Bool) = _; simp_all; done) | (exfalso; omega) | refine aRegion_auto (by decide +kernel) ?_ | refine ⟨_, _, REnt.drop ⟨rfl, rfl⟩, ?_⟩ | fail))
    refine acall_conv [.dat RasT] _ _ _ rfl trivial (acall_frame0 rfl (nothing_any _ (onQ minL a reach) _ ?_))
    rw [hz minL (by omega)]
    (repeat' (first | exact trivial | exact fun h => h | refine And.intro ?_ ?_ | (intro hb; first | (simp at hb; done) | (simp at hb) | skip) | omega | exact rfl | exact Nat.le_refl _ | (show _ + 1 ≤ 4294967296; omega) | (dsimp only; omega) | (show wantB _ _ = true; simp; done) | (show wantB _ _ = true; simp; omega) | (show (_ : Bool) = _; simp_all; done) | (exfalso; omega) | refine aRegion_auto (by decide +kernel) ?_ | refine ⟨_, _, REnt.drop ⟨rfl, rfl⟩, ?_⟩ | fail))
    exact kb hK (by simp)
  · rename_i hc
    have ea : aerr a reach = rerr a := by unfold aerr; rw [if_pos (by omega)]
    refine acall_frame0 rfl (coded_mercatorlaw3 hE (by omega) (rerr a) _ ?_)
    rw [decide_eq_true (show ((aerr a reach : Nat) : Int) = (rerr a) by omega)]
    (repeat' (first | exact trivial | exact fun h => h | refine And.intro ?_ ?_ | (intro hb; first | (simp at hb; done) | (simp at hb) | skip) | omega | exact rfl | exact Nat.le_refl _ | (show _ + 1 ≤ 4294967296; omega) | (dsimp only; omega) | (show wantB _ _ = true; simp; done) | (show wantB _ _ = true; simp; omega) | (show (_ : Bool) = _; simp_all; done) | (exfalso; omega) | refine aRegion_auto (by decide +kernel) ?_ | refine ⟨_, _, REnt.drop ⟨rfl, rfl⟩, ?_⟩ | fail))
    refine acall_conv [.dat RasT] _ _ _ rfl trivial (acall_frame0 rfl (nothing_any _ (onQ meanL a reach) _ ?_))
    rw [hz meanL (by omega)]
    (repeat' (first | exact trivial | exact fun h => h | refine And.intro ?_ ?_ | (intro hb; first | (simp at hb; done) | (simp at hb) | skip) | omega | exact rfl | exact Nat.le_refl _ | (show _ + 1 ≤ 4294967296; omega) | (dsimp only; omega) | (show wantB _ _ = true; simp; done) | (show wantB _ _ = true; simp; omega) | (show (_ : Bool) = _; simp_all; done) | (exfalso; omega) | refine aRegion_auto (by decide +kernel) ?_ | refine ⟨_, _, REnt.drop ⟨rfl, rfl⟩, ?_⟩ | fail))
    refine acall_frame0 rfl (coded_mercatorlaw3 hE (by omega) (rerr a) _ ?_)
    rw [decide_eq_true (show ((aerr a reach : Nat) : Int) = (rerr a) by omega)]
    (repeat' (first | exact trivial | exact fun h => h | refine And.intro ?_ ?_ | (intro hb; first | (simp at hb; done) | (simp at hb) | skip) | omega | exact rfl | exact Nat.le_refl _ | (show _ + 1 ≤ 4294967296; omega) | (dsimp only; omega) | (show wantB _ _ = true; simp; done) | (show wantB _ _ = true; simp; omega) | (show (_ : Bool) = _; simp_all; done) | (exfalso; omega) | refine aRegion_auto (by decide +kernel) ?_ | refine ⟨_, _, REnt.drop ⟨rfl, rfl⟩, ?_⟩ | fail))
    refine acall_conv [.dat RasT] _ _ _ rfl trivial (acall_frame0 rfl (nothing_any _ (onQ maxL a reach) _ ?_))
    rw [hz maxL (by omega)]
    (repeat' (first | exact trivial | exact fun h => h | refine And.intro ?_ ?_ | (intro hb; first | (simp at hb; done) | (simp at hb) | skip) | omega | exact rfl | exact Nat.le_refl _ | (show _ + 1 ≤ 4294967296; omega) | (dsimp only; omega) | (show wantB _ _ = true; simp; done) | (show wantB _ _ = true; simp; omega) | (show (_ : Bool) = _; simp_all; done) | (exfalso; omega) | refine aRegion_auto (by decide +kernel) ?_ | refine ⟨_, _, REnt.drop ⟨rfl, rfl⟩, ?_⟩ | fail))
    refine acall_frame0 rfl (coded_mercatorlaw3 hE (by omega) (rerr a) _ ?_)
    rw [decide_eq_true (show ((aerr a reach : Nat) : Int) = (rerr a) by omega)]
    (repeat' (first | exact trivial | exact fun h => h | refine And.intro ?_ ?_ | (intro hb; first | (simp at hb; done) | (simp at hb) | skip) | omega | exact rfl | exact Nat.le_refl _ | (show _ + 1 ≤ 4294967296; omega) | (dsimp only; omega) | (show wantB _ _ = true; simp; done) | (show wantB _ _ = true; simp; omega) | (show (_ : Bool) = _; simp_all; done) | (exfalso; omega) | refine aRegion_auto (by decide +kernel) ?_ | refine ⟨_, _, REnt.drop ⟨rfl, rfl⟩, ?_⟩ | fail))
    refine acall_conv [.dat RasT] _ _ _ rfl trivial (acall_frame0 rfl (nothing_any _ (onQ minL a reach) _ ?_))
    rw [hz minL (by omega)]
    (repeat' (first | exact trivial | exact fun h => h | refine And.intro ?_ ?_ | (intro hb; first | (simp at hb; done) | (simp at hb) | skip) | omega | exact rfl | exact Nat.le_refl _ | (show _ + 1 ≤ 4294967296; omega) | (dsimp only; omega) | (show wantB _ _ = true; simp; done) | (show wantB _ _ = true; simp; omega) | (show (_ : Bool) = _; simp_all; done) | (exfalso; omega) | refine aRegion_auto (by decide +kernel) ?_ | refine ⟨_, _, REnt.drop ⟨rfl, rfl⟩, ?_⟩ | fail))
    exact kb hK (by simp)
  · rename_i hc
    have hv : rerr a = 0 := hb
    obtain ⟨hr0, hr1⟩ := hc hv
    have ea : aerr a reach = 0 := aerr_zero.2 ⟨hv, hr0, hr1⟩
    have hq : ∀ F : List Int → Int, onQ F a reach = onR F a reach := fun F => by unfold onQ; rw [if_pos ea]
    have hl3 : ∀ F : List Int → Int, (onQ F a reach).2.2.length ≤ 1000000000000 := fun F => by rw [hq, onR_len hv]; omega
    have hi3 : ∀ (F : List Int → Int) (kind : Int), (kind = 0 ∨ kind = 1 ∨ kind = 2) → kindF kind = F → isB (onQ F a reach) a.1 a.2.1 (allK a reach kind a.2.2.length) = true := fun F kind hk hF => by
      rw [hq, ← hF]
      unfold isB
      rw [around_both hr0 hv hk]
      simp [onR]
    rw [ea]
    (repeat' (first | exact trivial | exact fun h => h | refine And.intro ?_ ?_ | (intro hb; first | (simp at hb; done) | (simp at hb) | skip) | omega | exact rfl | exact Nat.le_refl _ | (show _ + 1 ≤ 4294967296; omega) | (dsimp only; omega) | (show wantB _ _ = true; simp; done) | (show wantB _ _ = true; simp; omega) | (show (_ : Bool) = _; simp_all; done) | (exfalso; omega) | refine aRegion_auto (by decide +kernel) ?_ | refine ⟨_, _, REnt.drop ⟨rfl, rfl⟩, ?_⟩ | fail))
    apply exEff
    · refine And.intro (fun _ => ?_) (fun h => by simp at h)
      refine And.intro (by simp) ?_
      refine acall_frame0 rfl (allAround_any _ a reach 0 hv hr0 hr1 _ ?_)
      exact ⟨rfl, rfl⟩
    (repeat' (first | exact trivial | exact fun h => h | refine And.intro ?_ ?_ | (intro hb; first | (simp at hb; done) | (simp at hb) | skip) | omega | exact rfl | exact Nat.le_refl _ | (show _ + 1 ≤ 4294967296; omega) | (dsimp only; omega) | (show wantB _ _ = true; simp; done) | (show wantB _ _ = true; simp; omega) | (show (_ : Bool) = _; simp_all; done) | (exfalso; omega) | refine aRegion_auto (by decide +kernel) ?_ | refine ⟨_, _, REnt.drop ⟨rfl, rfl⟩, ?_⟩ | fail))
    apply exEff
    · refine And.intro (fun _ => ?_) (fun h => by simp at h)
      refine And.intro (by simp) ?_
      refine acall_conv [.dat RasT, .keep, .keep, .keep] _ _ _ rfl trivial (acall_frame0 rfl (is_any _ (onQ meanL a reach) a.1 a.2.1 (allK a reach 0 a.2.2.length) (hl3 meanL) _ ?_))
      rw [hi3 meanL 0 (by decide) rfl]
      exact ⟨rfl, rfl⟩
    (repeat' (first | exact trivial | exact fun h => h | refine And.intro ?_ ?_ | (intro hb; first | (simp at hb; done) | (simp at hb) | skip) | omega | exact rfl | exact Nat.le_refl _ | (show _ + 1 ≤ 4294967296; omega) | (dsimp only; omega) | (show wantB _ _ = true; simp; done) | (show wantB _ _ = true; simp; omega) | (show (_ : Bool) = _; simp_all; done) | (exfalso; omega) | refine aRegion_auto (by decide +kernel) ?_ | refine ⟨_, _, REnt.drop ⟨rfl, rfl⟩, ?_⟩ | fail))
    apply exEff
    · refine And.intro (fun _ => ?_) (fun h => by simp at h)
      refine And.intro (by simp) ?_
      refine acall_frame0 rfl (allAround_any _ a reach 1 hv hr0 hr1 _ ?_)
      exact ⟨rfl, rfl⟩
    (repeat' (first | exact trivial | exact fun h => h | refine And.intro ?_ ?_ | (intro hb; first | (simp at hb; done) | (simp at hb) | skip) | omega | exact rfl | exact Nat.le_refl _ | (show _ + 1 ≤ 4294967296; omega) | (dsimp only; omega) | (show wantB _ _ = true; simp; done) | (show wantB _ _ = true; simp; omega) | (show (_ : Bool) = _; simp_all; done) | (exfalso; omega) | refine aRegion_auto (by decide +kernel) ?_ | refine ⟨_, _, REnt.drop ⟨rfl, rfl⟩, ?_⟩ | fail))
    apply exEff
    · refine And.intro (fun _ => ?_) (fun h => by simp at h)
      refine And.intro (by simp) ?_
      refine acall_conv [.dat RasT, .keep, .keep, .keep] _ _ _ rfl trivial (acall_frame0 rfl (is_any _ (onQ maxL a reach) a.1 a.2.1 (allK a reach 1 a.2.2.length) (hl3 maxL) _ ?_))
      rw [hi3 maxL 1 (by decide) rfl]
      exact ⟨rfl, rfl⟩
    (repeat' (first | exact trivial | exact fun h => h | refine And.intro ?_ ?_ | (intro hb; first | (simp at hb; done) | (simp at hb) | skip) | omega | exact rfl | exact Nat.le_refl _ | (show _ + 1 ≤ 4294967296; omega) | (dsimp only; omega) | (show wantB _ _ = true; simp; done) | (show wantB _ _ = true; simp; omega) | (show (_ : Bool) = _; simp_all; done) | (exfalso; omega) | refine aRegion_auto (by decide +kernel) ?_ | refine ⟨_, _, REnt.drop ⟨rfl, rfl⟩, ?_⟩ | fail))
    apply exEff
    · refine And.intro (fun _ => ?_) (fun h => by simp at h)
      refine And.intro (by simp) ?_
      refine acall_frame0 rfl (allAround_any _ a reach 2 hv hr0 hr1 _ ?_)
      exact ⟨rfl, rfl⟩
    (repeat' (first | exact trivial | exact fun h => h | refine And.intro ?_ ?_ | (intro hb; first | (simp at hb; done) | (simp at hb) | skip) | omega | exact rfl | exact Nat.le_refl _ | (show _ + 1 ≤ 4294967296; omega) | (dsimp only; omega) | (show wantB _ _ = true; simp; done) | (show wantB _ _ = true; simp; omega) | (show (_ : Bool) = _; simp_all; done) | (exfalso; omega) | refine aRegion_auto (by decide +kernel) ?_ | refine ⟨_, _, REnt.drop ⟨rfl, rfl⟩, ?_⟩ | fail))
    apply exEff
    · refine And.intro (fun _ => ?_) (fun h => by simp at h)
      refine And.intro (by simp) ?_
      refine acall_conv [.dat RasT, .keep, .keep, .keep] _ _ _ rfl trivial (acall_frame0 rfl (is_any _ (onQ minL a reach) a.1 a.2.1 (allK a reach 2 a.2.2.length) (hl3 minL) _ ?_))
      rw [hi3 minL 2 (by decide) rfl]
      exact ⟨rfl, rfl⟩
    (repeat' (first | exact trivial | exact fun h => h | refine And.intro ?_ ?_ | (intro hb; first | (simp at hb; done) | (simp at hb) | skip) | omega | exact rfl | exact Nat.le_refl _ | (show _ + 1 ≤ 4294967296; omega) | (dsimp only; omega) | (show wantB _ _ = true; simp; done) | (show wantB _ _ = true; simp; omega) | (show (_ : Bool) = _; simp_all; done) | (exfalso; omega) | refine aRegion_auto (by decide +kernel) ?_ | refine ⟨_, _, REnt.drop ⟨rfl, rfl⟩, ?_⟩ | fail))
    exact hK
theorem fieldAround_nil {E : Errs} (reach : Int) (K : AV → List AO → Prop) (hK : K (.fz .bool true) []) :
    ACall Tryd.prog (G8 E) 7 [.fz .raw (.pointer none), .fz int reach] [] K := by
  refine acall_mk (E := envAt (G8 E) 154 0) (envOk _ _ _) Tryd.func7 rfl rfl rfl rfl rfl ?_
  (repeat' (first | exact trivial | exact fun h => h | refine And.intro ?_ ?_ | (intro hb; first | (simp at hb; done) | (simp at hb) | skip) | omega | exact rfl | exact Nat.le_refl _ | (show _ + 1 ≤ 4294967296; omega) | (dsimp only; omega) | (show wantB _ _ = true; simp; done) | (show wantB _ _ = true; simp; omega) | (show (_ : Bool) = _; simp_all; done) | (exfalso; omega) | refine aRegion_auto (by decide +kernel) ?_ | refine ⟨_, _, REnt.drop ⟨rfl, rfl⟩, ?_⟩ | fail))
  refine acall_frame0 rfl (up8 (rasters_any E _ ?_))
  (repeat' (first | exact trivial | exact fun h => h | refine And.intro ?_ ?_ | (intro hb; first | (simp at hb; done) | (simp at hb) | skip) | omega | exact rfl | exact Nat.le_refl _ | (show _ + 1 ≤ 4294967296; omega) | (dsimp only; omega) | (show wantB _ _ = true; simp; done) | (show wantB _ _ = true; simp; omega) | (show (_ : Bool) = _; simp_all; done) | (exfalso; omega) | refine aRegion_auto (by decide +kernel) ?_ | refine ⟨_, _, REnt.drop ⟨rfl, rfl⟩, ?_⟩ | fail))
  refine acall_frame0 rfl (small_nil _ _ ?_)
  (repeat' (first | exact trivial | exact fun h => h | refine And.intro ?_ ?_ | (intro hb; first | (simp at hb; done) | (simp at hb) | skip) | omega | exact rfl | exact Nat.le_refl _ | (show _ + 1 ≤ 4294967296; omega) | (dsimp only; omega) | (show wantB _ _ = true; simp; done) | (show wantB _ _ = true; simp; omega) | (show (_ : Bool) = _; simp_all; done) | (exfalso; omega) | refine aRegion_auto (by decide +kernel) ?_ | refine ⟨_, _, REnt.drop ⟨rfl, rfl⟩, ?_⟩ | fail))
  exact hK
end Go.Proofs.YtidhgdipnfhoeaaDoor
/-
  What the laid variables give: eight errors, all different, and the handle of type error.
-/
namespace Go.Proofs.YtidhgdipnfhoeaaDoor
open Go Go.Ab Go.RowKit Go.ChangeShapes
set_option maxRecDepth 100000
theorem star : "*" ++ "errors.errorString" = "*errors.errorString" := by decide
theorem names_at (u : TypeId) (h : Tryd.prog.typeName? 3 u = some "*errors.errorString") : u = 102 :=
  typeName_ptr_named (nm := "errors.errorString") (by rw [star]; kernel_rfl) (by kernel_rfl) (by decide) u (by rw [star]; exact h)
theorem cells_es : Tryd.prog.cellsOf 126 = 1 := by kernel_rfl
theorem cells_str : Tryd.prog.cellsOf 9 = 1 := by kernel_rfl
theorem glob_ty (g : Nat) (hg : g ∈ [4, 2, 0, 1, 5, 6, 7, 3]) :
    ∃ ti ms, (Tryd.prog.globals[g]?).map (·.type) = some ti ∧ Tryd.prog.underlying ti = some (.interface ms) := by
  have : ([4, 2, 0, 1, 5, 6, 7, 3].all fun g => (Tryd.prog.globals[g]?).map (·.type) == some 30) = true := by kernel_rfl
  exact ⟨30, _, by simpa using List.all_eq_true.1 this g hg, Tryd.underlying30⟩
theorem et_at : Tryd.prog.globalNamed "errors.errorType" = some 8 := by kernel_rfl
theorem rt_at : (Tryd.prog.cutTypes.find? (·.1 == "internal/reflectlite.rtype")).map (·.2) = some 88 := by kernel_rfl
theorem one_row : ((List.range Tryd.prog.types.size).filter fun t => Tryd.prog.rowNamed t [101, 114, 114, 111, 114]) = [30] := by kernel_rfl
/-- of a list of the eight errors and the handle -/
theorem globs8 {W : World} {l : List (String × DataW Unit)} {x1 x2 x3 x4 x5 x6 x7 x8 : List UInt8} (h : laidMetH Tryd.prog l W)
    (hl : (l.filter fun x => x.2.handleName?.isNone) = [("mercator/api.ErrText", errD x1), ("mercator/api.ErrBound", errD x2), ("mercator/api.ErrShape", errD x3), ("mercator/api.ErrRange", errD x4), ("mercator/api.ErrName", errD x5), ("mercator/api.ErrNone", errD x6), ("mercator/api.ErrOrder", errD x7), ("mercator/api.ErrFile", errD x8)])
    (hh : (l.filter fun x => x.2.handleName?.isSome) = [("errors.errorType", .iface "internal/reflectlite.rtype" (.agg [.ptr (.lit (.string [101, 114, 114, 111, 114]))]))]) :
    ∃ E : Errs, (EL E).Nodup ∧ ∀ g v, gk (G8 E) g = some v → Glo0 W g v := by
  obtain ⟨h1, h2⟩ := laidMetH_iff.1 h
  rw [hl] at h1
  rw [hh] at h2
  obtain ⟨ps, hv, hn, hall⟩ := h1
  obtain ⟨al, k1, k2, k3, _⟩ := laid_errs names_at Tryd.underlying102 Tryd.underlying126 rfl rfl Tryd.underlying9 cells_es cells_str
    [("mercator/api.ErrText", x1), ("mercator/api.ErrBound", x2), ("mercator/api.ErrShape", x3), ("mercator/api.ErrRange", x4), ("mercator/api.ErrName", x5), ("mercator/api.ErrNone", x6), ("mercator/api.ErrOrder", x7), ("mercator/api.ErrFile", x8)]
    [4, 2, 0, 1, 5, 6, 7, 3] ps hv hn hall (by kernel_rfl) glob_ty
  obtain ⟨a1, a2, a3, a4, a5, a6, a7, a8, rfl⟩ : ∃ a1 a2 a3 a4 a5 a6 a7 a8, al = [a1, a2, a3, a4, a5, a6, a7, a8] := by
    match al, k1 with
    | [a1, a2, a3, a4, a5, a6, a7, a8], _ => exact ⟨a1, a2, a3, a4, a5, a6, a7, a8, rfl⟩
  have hE : Glo0 W 8 asK.errType := by
    obtain ⟨name, u, ty, e1, e2, e3, e4, e5⟩ := h2 _ (List.mem_singleton.2 rfl)
    have en : name = [101, 114, 114, 111, 114] := (Option.some.inj e1).symm
    subst en
    obtain rfl := Option.some.inj (rt_at.symm.trans e2)
    have hm : ty ∈ (List.range Tryd.prog.types.size).filter fun t => Tryd.prog.rowNamed t [101, 114, 114, 111, 114] := List.mem_filter.2 ⟨List.mem_range.2 e3, e4⟩
    rw [one_row] at hm
    obtain rfl := List.mem_singleton.1 hm
    have hh : typeHandle Tryd.prog 30 = .pointer (some ⟨9, 30, none⟩) := by kernel_rfl
    rw [hh] at e5
    exact ⟨by simpa [asK.errType] using World.var?_cell et_at e5 0, rfl, fun T a e => by cases e⟩
  refine ⟨⟨a1, a2, a3, a4, a5, a6, a7, a8⟩, k2, fun g v hg => ?_⟩
  unfold G8 gk at hg
  split at hg
  · rename_i e; subst e; cases hg; exact k3 2 _ _ rfl rfl
  unfold gk at hg
  split at hg
  · rename_i e; subst e; cases hg; exact k3 3 _ _ rfl rfl
  unfold gk at hg
  split at hg
  · rename_i e; subst e; cases hg; exact k3 1 _ _ rfl rfl
  unfold gk at hg
  split at hg
  · rename_i e; subst e; cases hg; exact k3 0 _ _ rfl rfl
  unfold gk at hg
  split at hg
  · rename_i e; subst e; cases hg; exact k3 4 _ _ rfl rfl
  unfold gk at hg
  split at hg
  · rename_i e; subst e; cases hg; exact k3 5 _ _ rfl rfl
  unfold gk at hg
  split at hg
  · rename_i e; subst e; cases hg; exact k3 6 _ _ rfl rfl
  unfold gk at hg
  split at hg
  · rename_i e; subst e; cases hg; exact k3 7 _ _ rfl rfl
  unfold gk at hg
  split at hg
  · rename_i e; subst e; cases hg; exact hE
  · cases hg
end Go.Proofs.YtidhgdipnfhoeaaDoor
/-
  Arguments read again behind a call that leaves old memory alone; a slice of points opened.
-/
namespace Go.Proofs.YtidhgdipnfhoeaaDoor
open Go Go.ChangeShapes Go.WideShapes Go.ChangeAt Go.RowKit
theorem trodAll_below {H : Type} {enc : TypeId × Value → H} {P : Program} (hl : laidOutB P = true) {W W' : World} (hb : Below W.heap.size W W') :
    ∀ (ts : List TypeId) (vs : List Value) (ds : List (DataW H)) (ps : List MemPlace), (∀ t ∈ ts, P.readableRec t = true ∧ t < P.types.size) →
      DataW.TrodAll enc P W 0 (fun _ => true) true ts vs ds ps → (∀ x ∈ ps, x.block < W.heap.size) →
      DataW.TrodAll enc P W' 0 (fun b => decide (b < W.heap.size)) true ts vs ds ps
  | [], [], [], ps, _, h, _ => h
  | [], [], _ :: _, _, _, h, _ => h.elim
  | [], _ :: _, _, _, _, h, _ => h.elim
  | _ :: _, [], _, _, _, h, _ => h.elim
  | _ :: _, _ :: _, [], _, _, h, _ => h.elim
  | t :: ts, v :: vs, d :: ds, ps, hr, h, hlt => by
    obtain ⟨p, q, h1, h2, rfl⟩ := h
    refine ⟨p, q, Below.trod hl (hr t (List.mem_cons_self ..)).1 (hr t (List.mem_cons_self ..)).2 h1 hb (fun x hx => hlt x (List.mem_append.2 (.inl hx))), ?_, rfl⟩
    exact trodAll_below hl hb ts vs ds q (fun t ht => hr t (List.mem_cons_of_mem _ ht)) h2 (fun x hx => hlt x (List.mem_append.2 (.inr hx)))
end Go.Proofs.YtidhgdipnfhoeaaDoor
/-
  FieldAround answers true, whatever it is asked (no condition).
-/
namespace Go.Proofs.YtidhgdipnfhoeaaDoor.fieldAround
open Go Go.ChangeShapes Go.WideShapes Go.ChangeAt Go.RowKit Go.Ab
set_option maxRecDepth 100000
theorem own : ownKnob Tryd.prog.godebug = none := by kernel_rfl
theorem laidOut : laidOutB Tryd.prog = true := by kernel_rfl
theorem lifted (os : Os) (started : os.Started) (H : Type) (enc : TypeId × Value → H) :
    ReturnsInHanded {} Tryd.checked os 7 .any (fun w args => (Rows.fieldAroundSpec.pre enc Tryd.prog Tryd.f7 [] false w args ∧ laidMetH Tryd.prog Rows.fieldAroundRow.laid w) ∧ sizedMet enc Tryd.prog Tryd.f7 (OpenSpec.ofChange Rows.fieldAroundSpec) false w args)
      (Rows.fieldAroundSpec.post enc Tryd.prog Tryd.f7 false true false false) := by
  refine returnsInHanded_of_change_and (C := Tryd.checked) (X := fun w _ => laidMetH Tryd.prog Rows.fieldAroundRow.laid w) (fun _ _ _ hh h => h.of_heap hh) own started (by kernel_rfl) Tryd.func7
    (ChangeSpec.witness_shaped (enc := enc) (C := Tryd.checked) (os := os) (X := fun w _ => laidMetH Tryd.prog Rows.fieldAroundRow.laid w) false (World.doorLaid Tryd.prog 400 os) #[.pointer none, .int .i64 0] 8 rfl (World.shaped_of_RefB (by kernel_rfl) (by kernel_rfl)) (by kernel_rfl) (by kernel_rfl) (by kernel_rfl)
      (laidMetH_of_parts3 (fuel := 8) (laidMet_of_run' 8 (by kernel_rfl) (by kernel_rfl)) (by kernel_rfl) (by kernel_rfl))) ?_
  intro W base args ds gs before hval0 hW _ _ hL _
  have hval : ∀ (j : Nat) t v, Tryd.f7.params[j]? = some t → args[j]? = some v → Value.okWide Tryd.prog W .any base t v := hval0
  have hW' := hW
  obtain ⟨p, q, hA0, hV, rfl, hfz, hnd⟩ := hW
  have hA : DataW.TrodAll enc Tryd.prog W 0 (fun _ => true) true Tryd.f7.params.toList args.toList ds p := hA0
  obtain ⟨rfl, rfl⟩ := trodVars_none hV
  simp only [List.append_nil] at hW'
  have hAll : ∀ W', Below W.heap.size W W' → DataW.TrodAll enc Tryd.prog W' 0 (fun b => decide (b < W.heap.size)) true Tryd.f7.params.toList args.toList ds p :=
    fun W' hb => trodAll_below laidOut hb _ _ _ _ (by rw [Tryd.params7]; exact of_decide_eq_true (by kernel_rfl)) hA (fun x hx => hW'.lt x hx)
  rw [Tryd.params7] at hA hval
  obtain ⟨v0, vs0, d0, ds0, p0, q0, hargs, rfl, rfl, h0, t0⟩ := trodAll_cons hA
  obtain ⟨v1, vs1, d1, ds1, p1, q1, rfl, rfl, rfl, h1, t1⟩ := trodAll_cons t0
  obtain ⟨rfl, rfl, rfl⟩ := trodAll_nil t1
  obtain rfl : args = #[v0, v1] := by cases args; simp_all
  clear hA0 hval0
  obtain ⟨E, hN, hE⟩ := globs8 hL rfl rfl
  have o0 := open_ptr (n := 4) (ty := RasT) tabOk (show tptrTo tab 22 = some 28 by kernel_rfl) (by kernel_rfl) (G8 E) (hval 0 _ v0 rfl rfl) h0
  obtain ⟨y1, r1, b1⟩ := open_val (n := 2) (ty := int) tabOk (by kernel_rfl) (G8 E) (hval 1 _ v1 rfl rfl) h1
  have fin : Calls Tryd.prog 7 #[v0, v1] W fun e w' => e = .returned (.bool true) ∧ Below W.heap.size W w' := by
    have hh : I64 y1 := b1
    rcases o0 with rfl | ⟨y0, r0, b0⟩
    · exact acall_true (vs := [.pointer none, v1]) (fieldAround_nil y1 _ rfl) hE ⟨_, _, rfl, (rel_raw rfl).2 rfl, _, _, rfl, r1, rfl⟩
    · have hl0 : y0.2.2.length ≤ 9223372036854775807 := by have := b0.2.2.1; unfold maxLen at this; omega
      exact acall_true (vs := [v0, v1]) (fieldAround_some hN y0 y1 hl0 hh _ rfl) hE ⟨_, _, rfl, r0, _, _, rfl, r1, rfl⟩
  refine fin.mono fun e W' ⟨he, hg⟩ => ?_
  subst he
  exact ⟨_, rfl, _, _, _, [], _, [], hW', trodAll_mk1 (shut_bool Tryd.underlying4 _), hAll W' hg, rfl, hg.frame _, fun h => by cases h⟩
theorem row : Rows.FieldAroundSaid :=
  OpenClaim.holds_of_wide 7 Tryd.f7 rfl rfl rfl rfl rfl rfl rfl ⟨rfl, rfl, rfl, rfl, rfl⟩ rfl rfl rfl rfl rfl (by kernel_rfl) Tryd.func7 (by kernel_rfl)
    (of_decide_eq_true (by kernel_rfl)) (by unfold Func.isWrapper; first | (rw [if_pos (by decide +kernel)]; kernel_rfl) | (rw [if_neg (by decide +kernel)]; exact ⟨rfl, rfl⟩))
    (fun os started H enc _ => lifted os started H enc)
theorem proved : Rows.FieldAroundCardSaid :=
  Claim7.holds_tied_plain_at .later [] [.handle, .sentinel, .sentinel, .sentinel, .sentinel, .sentinel, .sentinel, .sentinel, .sentinel] true (true, "d9ba17cb8c775913e4e79aa0abcab4e8278fdccc2206235b70534f3ffca94fc6") true
    row (fun _ h => by cases h) (by kernel_rfl) (fun _ h => by cases h) fieldAround_row_tie rfl ⟨rfl, rfl⟩ (by kernel_rfl) rfl
    (fun f fn hf hfn => by
      obtain rfl : f = 7 := Option.some.inj ((show Tryd.prog.funcNamed "mercator/mercatorlaw3.FieldAround" = some 7 by kernel_rfl).symm.trans hf) |>.symm
      obtain rfl : fn = Tryd.f7 := (Option.some.inj (Tryd.func7.symm.trans hfn)).symm
      exact ⟨by kernel_rfl, fun j t ht => by
        rw [Tryd.params7] at ht
        have hm : t ∈ [22, 3] := by simpa using Array.mem_of_getElem? ht
        have hall : ([22, 3].all fun u => !Tryd.prog.wantsStandIn u) = true := by kernel_rfl
        exact (show Tryd.prog.wantsStandIn t = false by simpa using List.all_eq_true.1 hall t hm)⟩)
    (by kernel_rfl)
end Go.Proofs.YtidhgdipnfhoeaaDoor.fieldAround
