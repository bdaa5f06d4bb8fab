/-
  Quotients rounded down, sums, means; what is around each cell, each answer in one piece.
-/
import Derived.Test.YtidhgdipnfhoeaaDoorM4
namespace Go.Proofs.YtidhgdipnfhoeaaDoor
open Go Go.Ab
set_option maxRecDepth 100000
theorem quo_facts (a : Int) {b : Int} (hb : 0 < b) : (0 ≤ a → 0 ≤ a.tdiv b ∧ a.tdiv b ≤ a ∧ a.tdiv b * b ≤ a ∧ a / b = a.tdiv b) ∧
    (a < 0 → a ≤ a.tdiv b ∧ a.tdiv b ≤ 0 ∧ a.tdiv b * b < a + b ∧ a ≤ a.tdiv b * b ∧ (a.tdiv b * b = a → a / b = a.tdiv b) ∧ (a < a.tdiv b * b → a / b = a.tdiv b - 1)) := by
  have e1 := Int.mul_tdiv_add_tmod a b
  rw [Int.mul_comm] at e1
  refine ⟨fun h => ?_, fun h => ?_⟩
  · have h1 := Int.tmod_nonneg b h
    have h2 := Int.tdiv_eq_ediv_of_nonneg (b := b) h
    have h3 : 0 ≤ a / b := Int.ediv_nonneg h (by omega)
    have h4 : a / b ≤ a := Int.ediv_le_self b h
    exact ⟨by omega, by omega, by omega, h2.symm⟩
  · have hn : 0 ≤ -a := by omega
    have h1 := Int.tmod_nonneg b hn
    have h2 := Int.tdiv_eq_ediv_of_nonneg (b := b) hn
    have h3 : 0 ≤ (-a) / b := Int.ediv_nonneg hn (by omega)
    have h4 : (-a) / b ≤ -a := Int.ediv_le_self b hn
    have h5 := Int.tmod_lt_of_pos (-a) hb
    have e2 := Int.neg_tdiv a b
    have e3 := Int.mul_tdiv_add_tmod (-a) b
    rw [e2, Int.mul_neg, Int.mul_comm] at e3
    refine ⟨by omega, by omega, by omega, by omega, fun he => ?_, fun he => ?_⟩
    · exact ((Int.ediv_emod_unique (r := 0) hb).2 ⟨by rw [Int.mul_comm]; omega, Int.le_refl 0, hb⟩).1
    · refine ((Int.ediv_emod_unique (r := a - a.tdiv b * b + b) hb).2 ⟨?_, by omega, by omega⟩).1
      rw [Int.mul_sub, Int.mul_one, Int.mul_comm b]; omega
/-- field.Down -/
theorem downA_any (G : List (Nat × Value)) (a b : Int) (h0b : 0 < b) (hb2 : b ≤ 1000000000000) (ha : -4000000000000000000 ≤ a ∧ a ≤ 4000000000000000000) (K : AV → List AO → Prop) (hK : K (.fz int (a / b)) []) : ACall Tryd.prog G 47 [.fz int a, .fz int b] [] K := by
  refine acall_mk (E := envAt G 17 0) (envOk _ _ _) Tryd.func47 rfl rfl rfl rfl rfl ?_
  obtain ⟨f1, f2⟩ := quo_facts a h0b
  have e1 := Int.mul_tdiv_add_tmod a b
  rw [Int.mul_comm] at e1
  by_cases h : 0 ≤ a
  · obtain ⟨g1, g2, g3, g4⟩ := f1 h
    have g5 := Int.mul_nonneg g1 (Int.le_of_lt h0b)
    (repeat' (first | exact trivial | exact fun h => h | refine And.intro ?_ ?_ | (intro hb; first | (simp at hb; done) | (simp at hb) | skip) | omega | exact rfl | exact Nat.le_refl _ | (show _ + 1 ≤ 4294967296; omega) | (dsimp only; omega) | (show wantB _ _ = true; simp; done) | (show wantB _ _ = true; simp; omega) | (show (_ : Bool) = _; simp_all; done) | (exfalso; omega) | refine aRegion_auto (by decide +kernel) ?_ | refine ⟨_, _, REnt.drop ⟨rfl, rfl⟩, ?_⟩ | fail))
    exact kz hK g4
  · obtain ⟨g1, g2, g3, g4, g5, g6⟩ := f2 (by omega)
    (repeat' (first | exact trivial | exact fun h => h | refine And.intro ?_ ?_ | (intro hb; first | (simp at hb; done) | (simp at hb) | skip) | omega | exact rfl | exact Nat.le_refl _ | (show _ + 1 ≤ 4294967296; omega) | (dsimp only; omega) | (show wantB _ _ = true; simp; done) | (show wantB _ _ = true; simp; omega) | (show (_ : Bool) = _; simp_all; done) | (exfalso; omega) | refine aRegion_auto (by decide +kernel) ?_ | refine ⟨_, _, REnt.drop ⟨rfl, rfl⟩, ?_⟩ | fail))
    · exact kz hK (g6 (by omega))
    · exact kz hK (g5 (by omega))
/-- the document's Down -/
theorem downB_any (G : List (Nat × Value)) (a b : Int) (h0b : 0 < b) (hb2 : b ≤ 1000000000000) (ha : -4000000000000000000 ≤ a ∧ a ≤ 4000000000000000000) (K : AV → List AO → Prop) (hK : K (.fz int (a / b)) []) : ACall Tryd.prog G 38 [.fz int a, .fz int b] [] K := by
  refine acall_mk (E := envAt G 18 0) (envOk _ _ _) Tryd.func38 rfl rfl rfl rfl rfl ?_
  by_cases h : 0 ≤ a
  · obtain ⟨g1, g2, g3, g4⟩ := (quo_facts a h0b).1 h
    (repeat' (first | exact trivial | exact fun h => h | refine And.intro ?_ ?_ | (intro hb; first | (simp at hb; done) | (simp at hb) | skip) | omega | exact rfl | exact Nat.le_refl _ | (show _ + 1 ≤ 4294967296; omega) | (dsimp only; omega) | (show wantB _ _ = true; simp; done) | (show wantB _ _ = true; simp; omega) | (show (_ : Bool) = _; simp_all; done) | (exfalso; omega) | refine aRegion_auto (by decide +kernel) ?_ | refine ⟨_, _, REnt.drop ⟨rfl, rfl⟩, ?_⟩ | fail))
    exact kz hK g4
  · obtain ⟨g1, g2, g3, g4⟩ := (quo_facts (0 - a + b - 1) h0b).1 (by omega)
    (repeat' (first | exact trivial | exact fun h => h | refine And.intro ?_ ?_ | (intro hb; first | (simp at hb; done) | (simp at hb) | skip) | omega | exact rfl | exact Nat.le_refl _ | (show _ + 1 ≤ 4294967296; omega) | (dsimp only; omega) | (show wantB _ _ = true; simp; done) | (show wantB _ _ = true; simp; omega) | (show (_ : Bool) = _; simp_all; done) | (exfalso; omega) | refine aRegion_auto (by decide +kernel) ?_ | refine ⟨_, _, REnt.drop ⟨rfl, rfl⟩, ?_⟩ | fail))
    refine kz hK ?_
    have e1 := Int.mul_tdiv_add_tmod (0 - a + b - 1) b
    have e2 := Int.tmod_nonneg b (show 0 ≤ 0 - a + b - 1 by omega)
    have e3 := Int.tmod_lt_of_pos (0 - a + b - 1) h0b
    refine ((Int.ediv_emod_unique (r := a - b * (0 - (0 - a + b - 1).tdiv b)) h0b).2 ⟨by omega, ?_, ?_⟩).1
    · rw [Int.mul_sub]; omega
    · rw [Int.mul_sub]; omega
def sumL (l : List Int) : Int := l.foldl (· + ·) 0
theorem fold_add (l : List Int) : ∀ x : Int, l.foldl (· + ·) x = x + sumL l := by
  induction l with
  | nil => intro x; simp [sumL]
  | cons y l ih => intro x; unfold sumL; rw [List.foldl_cons, List.foldl_cons, ih, ih (0 + y)]; omega
theorem sumL_app (l m : List Int) : sumL (l ++ m) = sumL l + sumL m := by unfold sumL; rw [List.foldl_append, fold_add]; rfl
theorem sumL_one (x : Int) : sumL [x] = x := by simp [sumL]
theorem sumL_bd : ∀ (l : List Int), (∀ x ∈ l, bigB x = false) → -(1048576 * (l.length : Int)) ≤ sumL l ∧ sumL l ≤ 1048576 * (l.length : Int)
  | [], _ => by simp [sumL]
  | x :: l, h => by
    have h1 := h x (List.mem_cons_self ..)
    have ih := sumL_bd l fun y hy => h y (List.mem_cons_of_mem _ hy)
    unfold bigB at h1
    simp at h1
    have : sumL (x :: l) = x + sumL l := by unfold sumL; rw [List.foldl_cons, fold_add, fold_add]; simp [sumL]
    rw [this, List.length_cons]; omega
theorem sumL_take {l : List Int} {k : Nat} (hk : k < l.length) : sumL (l.take (k + 1)) = sumL (l.take k) + l.getD k 0 := by
  rw [List.take_succ_eq_append_getElem hk, sumL_app, sumL_one]; simp [List.getD, hk]
def meanL (l : List Int) : Int := sumL l / (l.length : Int)
theorem mean_any (G : List (Nat × Value)) (xs : List Int) (hn : xs ≠ []) (hl : xs.length ≤ 1000000000000) (hxb : ∀ x ∈ xs, bigB x = false) (K : AV → List AO → Prop) (hK : K (.fz int (meanL xs)) []) :
    ACall Tryd.prog G 37 [.fz (.list int) xs] [] K := by
  refine acall_mk (E := envAt G 20 0) (envOk _ _ _) Tryd.func37 rfl rfl rfl rfl rfl ?_
  have hpos : 0 < xs.length := List.length_pos_iff.2 hn
  (repeat' (first | exact trivial | exact fun h => h | refine And.intro ?_ ?_ | (intro hb; first | (simp at hb; done) | (simp at hb) | skip) | omega | exact rfl | exact Nat.le_refl _ | (show _ + 1 ≤ 4294967296; omega) | (dsimp only; omega) | (show wantB _ _ = true; simp; done) | (show wantB _ _ = true; simp; omega) | (show (_ : Bool) = _; simp_all; done) | (exfalso; omega) | refine aRegion_auto (by decide +kernel) ?_ | refine ⟨_, _, REnt.drop ⟨rfl, rfl⟩, ?_⟩ | fail))
  refine ⟨Nat, fun k => ⟨[(0, .fz (.list int) xs), (3, .fz int (sumL (xs.take k))), (6, .fz (.list int) xs), (7, .fz int xs.length), (8, .fz int k)], []⟩, fun k => k ≤ xs.length, fun k => xs.length - k, 0, Nat.zero_le _, Ent.sub rfl ?_, ?_⟩
  · (repeat' (first | exact trivial | exact rfl | refine And.intro ?_ ?_))
  intro k hk
  have hs := sumL_bd (xs.take k) fun x hx => hxb x (List.mem_of_mem_take hx)
  have hg := getD_big hxb (Int.toNat (k : Int))
  rw [List.length_take, Nat.min_eq_left hk] at hs
  (repeat' (first | exact trivial | exact fun h => h | refine And.intro ?_ ?_ | (intro hb; first | (simp at hb; done) | (simp at hb) | skip) | omega | exact rfl | exact Nat.le_refl _ | (show _ + 1 ≤ 4294967296; omega) | (dsimp only; omega) | (show wantB _ _ = true; simp; done) | (show wantB _ _ = true; simp; omega) | (show (_ : Bool) = _; simp_all; done) | (exfalso; omega) | refine aRegion_auto (by decide +kernel) ?_ | refine ⟨_, _, REnt.drop ⟨rfl, rfl⟩, ?_⟩ | fail))
  · refine ⟨k + 1, by show _ ≤ _; omega, by show _ - _ < _ - _; omega, Ent.sub rfl ?_⟩
    (repeat' (first | exact trivial | exact rfl | refine And.intro ?_ ?_))
    exact congrArg (AV.fz int) (sumL_take (by omega)).symm
  · have hk2 : k = xs.length := by omega
    subst hk2
    rw [List.take_length] at hs ⊢
    refine acall_frame0 rfl (downA_any _ _ _ (by omega) (by omega) (by omega) _ ?_)
    (repeat' (first | exact trivial | exact fun h => h | refine And.intro ?_ ?_ | (intro hb; first | (simp at hb; done) | (simp at hb) | skip) | omega | exact rfl | exact Nat.le_refl _ | (show _ + 1 ≤ 4294967296; omega) | (dsimp only; omega) | (show wantB _ _ = true; simp; done) | (show wantB _ _ = true; simp; omega) | (show (_ : Bool) = _; simp_all; done) | (exfalso; omega) | refine aRegion_auto (by decide +kernel) ?_ | refine ⟨_, _, REnt.drop ⟨rfl, rfl⟩, ?_⟩ | fail))
    exact hK
theorem Mean_any (E : Errs) (a : Ras) (reach : Int) (hl : a.2.2.length ≤ 1000000000000) (hr : I64 reach) (K : AV → List AO → Prop)
    (h0 : rerr a = 0 → 0 ≤ reach → reach ≤ 128 → K (RE (a.1, a.2.1, allW meanL a reach a.2.1.toNat) .nilIface) [])
    (he : ∀ e, aerr a reach = e → 0 < e → K (RE (0, 0, []) (errV (errA E e))) []) : ACall Tryd.prog (GE E) 27 [.fz RasT a, .fz int reach] [] K := by
  refine acall_mk (E := envAt (GE E) 11 0) (envOk _ _ _) Tryd.func27 rfl rfl rfl rfl rfl ?_
  (repeat' (first | exact trivial | exact fun h => h | refine And.intro ?_ ?_ | (intro hb; first | (simp at hb; done) | (simp at hb) | skip) | omega | exact rfl | exact Nat.le_refl _ | (show _ + 1 ≤ 4294967296; omega) | (dsimp only; omega) | (show wantB _ _ = true; simp; done) | (show wantB _ _ = true; simp; omega) | (show (_ : Bool) = _; simp_all; done) | (exfalso; omega) | refine aRegion_auto (by decide +kernel) ?_ | fail))
  refine acall_conv [.dat RasT, .keep, .keep] _ _ _ rfl trivial (acall_frame0 rfl (around_any E a reach _ meanL (fun xs K hn hs hb hK => mean_any _ xs hn (by omega) hb K hK) hl hr _ (fun h1 h2 h3 => ?_) (fun e h1 h2 => ?_)))
  · (repeat' (first | exact trivial | exact fun h => h | refine And.intro ?_ ?_ | (intro hb; first | (simp at hb; done) | (simp at hb) | skip) | omega | exact rfl | exact Nat.le_refl _ | (show _ + 1 ≤ 4294967296; omega) | (dsimp only; omega) | (show wantB _ _ = true; simp; done) | (show wantB _ _ = true; simp; omega) | (show (_ : Bool) = _; simp_all; done) | (exfalso; omega) | refine aRegion_auto (by decide +kernel) ?_ | fail))
    refine ⟨_, _, (REnt.conv [.dat RasT, .keep] _ rfl trivial).trans (REnt.drop ⟨rfl, rfl⟩), ?_⟩
    exact h0 h1 h2 h3
  · (repeat' (first | exact trivial | exact fun h => h | refine And.intro ?_ ?_ | (intro hb; first | (simp at hb; done) | (simp at hb) | skip) | omega | exact rfl | exact Nat.le_refl _ | (show _ + 1 ≤ 4294967296; omega) | (dsimp only; omega) | (show wantB _ _ = true; simp; done) | (show wantB _ _ = true; simp; omega) | (show (_ : Bool) = _; simp_all; done) | (exfalso; omega) | refine aRegion_auto (by decide +kernel) ?_ | fail))
    refine ⟨_, _, (REnt.conv [.dat RasT, .keep] _ rfl trivial).trans (REnt.drop ⟨rfl, rfl⟩), ?_⟩
    exact he e h1 h2
theorem aerr_ge {a : Ras} {reach : Int} : (aerr a reach = 0 ∨ 2 ≤ aerr a reach) ∧ aerr a reach ≤ 4 := by
  have h1 := rerr_in a
  unfold aerr
  split
  · have := rerr_ge (a := a) (by assumption); omega
  split <;> omega
theorem aerr_zero {a : Ras} {reach : Int} : aerr a reach = 0 ↔ rerr a = 0 ∧ 0 ≤ reach ∧ reach ≤ 128 := by
  unfold aerr
  split
  · omega
  split <;> omega
def onQ (F : List Int → Int) (a : Ras) (reach : Int) : Ras := if aerr a reach = 0 then onR F a reach else (0, 0, [])
theorem one_of {E : Errs} {F : List Int → Int} {a : Ras} {reach : Int} {K : AV → List AO → Prop} (hK : K (RE (onQ F a reach) (er E (aerr a reach))) []) :
    (rerr a = 0 → 0 ≤ reach → reach ≤ 128 → K (RE (a.1, a.2.1, allW F a reach a.2.1.toNat) .nilIface) []) ∧ ∀ e, aerr a reach = e → 0 < e → K (RE (0, 0, []) (errV (errA E e))) [] := by
  refine ⟨fun h1 h2 h3 => ?_, fun e h h0 => ?_⟩
  · have h := aerr_zero.2 ⟨h1, h2, h3⟩
    unfold onQ at hK; rw [if_pos h, h] at hK; exact hK
  · have := aerr_ge (a := a) (reach := reach)
    unfold onQ at hK; rw [if_neg (by omega), h] at hK; rw [errA_er E (by omega) (by omega)]; exact hK
theorem mean_one (E : Errs) (a : Ras) (reach : Int) (hl : a.2.2.length ≤ 1000000000000) (hr : I64 reach) (K : AV → List AO → Prop) (hK : K (RE (onQ meanL a reach) (er E (aerr a reach))) []) :
    ACall Tryd.prog (G8 E) 27 [.fz RasT a, .fz int reach] [] K := up8 (Mean_any E a reach hl hr K (one_of hK).1 (one_of hK).2)
theorem most_one (E : Errs) (a : Ras) (reach : Int) (hl : a.2.2.length ≤ 1000000000000) (hr : I64 reach) (K : AV → List AO → Prop) (hK : K (RE (onQ maxL a reach) (er E (aerr a reach))) []) :
    ACall Tryd.prog (G8 E) 28 [.fz RasT a, .fz int reach] [] K := up8 (most_any E a reach hl hr K (one_of hK).1 (one_of hK).2)
theorem least_one (E : Errs) (a : Ras) (reach : Int) (hl : a.2.2.length ≤ 1000000000000) (hr : I64 reach) (K : AV → List AO → Prop) (hK : K (RE (onQ minL a reach) (er E (aerr a reach))) []) :
    ACall Tryd.prog (G8 E) 29 [.fz RasT a, .fz int reach] [] K := up8 (least_any E a reach hl hr K (one_of hK).1 (one_of hK).2)
end Go.Proofs.YtidhgdipnfhoeaaDoor
/-
  The document's answer around a cell: the walk.
-/
namespace Go.Proofs.YtidhgdipnfhoeaaDoor
open Go Go.Ab
set_option maxRecDepth 100000
def inW (y x : Nat) (r c reach : Int) : Bool := decide ((y : Int) - r ≤ reach) && decide (r - y ≤ reach) && decide ((x : Int) - c ≤ reach) && decide (c - x ≤ reach)
def rowP (a : Ras) (reach r c : Int) (y : Nat) : Nat → List Int
  | 0 => []
  | x + 1 => rowP a reach r c y x ++ (if inW y x r c reach = true then [a.2.2.getD (y * a.1.toNat + x) 0] else [])
def allP (a : Ras) (reach r c : Int) : Nat → List Int
  | 0 => []
  | y + 1 => allP a reach r c y ++ rowP a reach r c y a.1.toNat
def stepB (kind best h : Int) : Int := if (kind = 1 ∧ best < h) ∨ (kind = 2 ∧ h < best) then h else best
def bestL (kind b : Int) (l : List Int) : Int := l.foldl (stepB kind) b
theorem bestL_app (kind b : Int) (l : List Int) (h : Int) : bestL kind b (l ++ [h]) = stepB kind (bestL kind b l) h := by unfold bestL; rw [List.foldl_append]; rfl
theorem rowP_len (a : Ras) (reach r c : Int) (y : Nat) : ∀ x, (rowP a reach r c y x).length ≤ x
  | 0 => Nat.le_refl _
  | x + 1 => by
    have := rowP_len a reach r c y x
    unfold rowP; rw [List.length_append]
    split <;> simp <;> omega
theorem allP_len (a : Ras) (reach r c : Int) : ∀ y, (allP a reach r c y).length ≤ y * a.1.toNat
  | 0 => by simp [allP]
  | y + 1 => by
    have h1 := allP_len a reach r c y
    have h2 := rowP_len a reach r c y a.1.toNat
    unfold allP; rw [List.length_append, Nat.succ_mul]; omega
theorem getD_ok {l : List Int} (h : ∀ x ∈ l, bigB x = false) (i : Nat) : bigB (l.getD i 0) = false := by
  by_cases hi : i < l.length
  · have := h _ (List.getElem_mem hi); simpa [List.getD, hi] using this
  · rw [List.getD, List.getElem?_eq_none (by omega)]; rfl
theorem rowP_ok {a : Ras} (ha : ∀ x ∈ a.2.2, bigB x = false) (reach r c : Int) (y : Nat) : ∀ x, ∀ v ∈ rowP a reach r c y x, bigB v = false
  | 0, v, h => by cases h
  | x + 1, v, h => by
    unfold rowP at h
    rcases List.mem_append.1 h with h | h
    · exact rowP_ok ha reach r c y x v h
    · split at h
      · rw [List.mem_singleton.1 h]; exact getD_ok ha _
      · cases h
theorem allP_ok {a : Ras} (ha : ∀ x ∈ a.2.2, bigB x = false) (reach r c : Int) : ∀ y, ∀ v ∈ allP a reach r c y, bigB v = false
  | 0, v, h => by cases h
  | y + 1, v, h => by
    unfold allP at h
    rcases List.mem_append.1 h with h | h
    · exact allP_ok ha reach r c y v h
    · exact rowP_ok ha reach r c y _ v h
theorem bestL_ok {kind : Int} : ∀ (l : List Int) {b : Int}, bigB b = false → (∀ v ∈ l, bigB v = false) → bigB (bestL kind b l) = false
  | [], b, h, _ => h
  | x :: l, b, h, hl => by
    refine bestL_ok (kind := kind) l (b := stepB kind b x) ?_ fun v hv => hl v (List.mem_cons_of_mem _ hv)
    unfold stepB; split
    · exact hl x (List.mem_cons_self ..)
    · exact h
theorem bigB_bd {x : Int} (h : bigB x = false) : -1048576 ≤ x ∧ x ≤ 1048576 := by unfold bigB at h; simp at h; omega
/-- what a walk over the cells has found -/
structure Found (l : List Int) (kind b0 sum n best : Int) : Prop where
  sum : sum = sumL l
  n : n = (l.length : Int)
  best : best = bestL kind b0 l
def preP (a : Ras) (reach r c : Int) (y x : Nat) : List Int := allP a reach r c y ++ rowP a reach r c y x
theorem preP_end {a : Ras} {reach r c : Int} {y x : Nat} (h : x = a.1.toNat) : preP a reach r c y x = preP a reach r c (y + 1) 0 := by
  subst h; unfold preP; show _ = allP a reach r c (y + 1) ++ []; rw [List.append_nil]; rfl
theorem preP_skip {a : Ras} {reach r c : Int} {y x : Nat} (h : inW y x r c reach = false) : preP a reach r c y (x + 1) = preP a reach r c y x := by
  unfold preP; show _ ++ (rowP a reach r c y x ++ _) = _; rw [h]; simp
theorem preP_take {a : Ras} {reach r c : Int} {y x : Nat} (h : inW y x r c reach = true) : preP a reach r c y (x + 1) = preP a reach r c y x ++ [a.2.2.getD (y * a.1.toNat + x) 0] := by
  unfold preP; show _ ++ (rowP a reach r c y x ++ _) = _; rw [h]; simp
def winP (a : Ras) (reach : Int) (i : Nat) : List Int := preP a reach (Int.tdiv i a.1) (Int.tmod i a.1) a.2.1.toNat 0
def aroundP (a : Ras) (reach kind : Int) (i : Nat) : Int := if kind = 0 then meanL (winP a reach i) else bestL kind (a.2.2.getD i 0) (winP a reach i)
set_option maxHeartbeats 4000000 in
theorem aroundOf_any (G : List (Nat × Value)) (a : Ras) (i : Nat) (reach kind : Int) (hv : rerr a = 0) (hi : i < a.2.2.length) (h0 : 0 ≤ reach) (h1 : reach ≤ 128) (hw : winP a reach i ≠ []) (K : AV → List AO → Prop) (hK : K (.fz int (aroundP a reach kind i)) []) :
    ACall Tryd.prog G 43 [.fptr RasT a, .fz int i, .fz int reach, .fz int kind] [] K := by
  refine acall_mk (E := envAt G 120 0) (envOk _ _ _) Tryd.func43 rfl rfl rfl rfl rfl ?_
  obtain ⟨⟨hW1, hH1, hW2, hH2, hlen⟩, hbig⟩ := rerr_ok hv
  have hm := mul_bd (a := a.1) (b := a.2.1) (A := 128) (B := 128) (by omega) (by omega) (by omega) (by omega)
  obtain ⟨q1, q2, q3, q4⟩ := (quo_facts (i : Int) (b := a.1) (by omega)).1 (by omega)
  have m1 := Int.tmod_nonneg (a := (i : Int)) a.1 (by omega)
  have m2 := Int.tmod_lt_of_pos (i : Int) (b := a.1) (by omega)
  have gi := getD_big hbig (Int.toNat (i : Int))
  generalize hr : Int.tdiv (i : Int) a.1 = r at *
  generalize hc : Int.tmod (i : Int) a.1 = c at *
  (repeat' (first | exact trivial | exact fun h => h | refine And.intro ?_ ?_ | (intro hb; first | (simp at hb; done) | (simp at hb) | skip) | omega | exact rfl | exact Nat.le_refl _ | (show _ + 1 ≤ 4294967296; omega) | (dsimp only; omega) | (show wantB _ _ = true; simp; done) | (show wantB _ _ = true; simp; omega) | (show (_ : Bool) = _; simp_all; done) | (exfalso; omega) | refine aRegion_auto (by decide +kernel) ?_ | refine ⟨_, _, REnt.drop ⟨rfl, rfl⟩, ?_⟩ | fail))
  have bd : ∀ y x : Nat, (y : Int) ≤ a.2.1 → (x : Int) ≤ a.1 → (preP a reach r c y x).length ≤ 17000 ∧ (-17825792000 ≤ sumL (preP a reach r c y x) ∧ sumL (preP a reach r c y x) ≤ 17825792000) ∧ -1048576 ≤ bestL kind (a.2.2.getD i 0) (preP a reach r c y x) ∧ bestL kind (a.2.2.getD i 0) (preP a reach r c y x) ≤ 1048576 := by
    intro y x hy hx
    have hok : ∀ v ∈ preP a reach r c y x, bigB v = false := fun v hv => by
      unfold preP at hv
      rcases List.mem_append.1 hv with h | h
      · exact allP_ok hbig _ _ _ _ v h
      · exact rowP_ok hbig _ _ _ _ _ v h
    have l1 := allP_len a reach r c y
    have l2 := rowP_len a reach r c y x
    have l3 : y * a.1.toNat ≤ 128 * 128 := Nat.mul_le_mul (by omega) (by omega)
    have l4 : (preP a reach r c y x).length ≤ 17000 := by unfold preP; rw [List.length_append]; omega
    have s := sumL_bd _ hok
    exact ⟨l4, by omega, bigB_bd (bestL_ok _ (getD_ok hbig i) hok)⟩
  refine ⟨Nat, fun y => ⟨[(0, .fptr RasT a), (2, .fz int reach), (3, .fz int kind), (9, .fz int c), (10, .fz int r), (11, .fz int (sumL (preP a reach r c y 0))), (12, .fz int (preP a reach r c y 0).length), (13, .fz int (bestL kind (a.2.2.getD i 0) (preP a reach r c y 0))), (14, .fz int y)], []⟩, fun y => (y : Int) ≤ a.2.1, fun y => a.2.1.toNat - y, 0, by show ((0 : Nat) : Int) ≤ _; omega, Ent.sub rfl ?_, ?_⟩
  · (repeat' (first | exact trivial | exact rfl | refine And.intro ?_ ?_))
    · exact congrArg (AV.fz int) hc
    · exact congrArg (AV.fz int) hr
  intro y hy
  obtain ⟨b1, b2, b3⟩ := bd y 0 hy (by show ((0 : Nat) : Int) ≤ _; omega)
  (repeat' (first | exact trivial | exact fun h => h | refine And.intro ?_ ?_ | (intro hb; first | (simp at hb; done) | (simp at hb) | skip) | omega | exact rfl | exact Nat.le_refl _ | (show _ + 1 ≤ 4294967296; omega) | (dsimp only; omega) | (show wantB _ _ = true; simp; done) | (show wantB _ _ = true; simp; omega) | (show (_ : Bool) = _; simp_all; done) | (exfalso; omega) | refine aRegion_auto (by decide +kernel) ?_ | refine ⟨_, _, REnt.drop ⟨rfl, rfl⟩, ?_⟩ | fail))
  · refine ⟨Nat, fun x => ⟨[(0, .fptr RasT a), (2, .fz int reach), (3, .fz int kind), (9, .fz int c), (10, .fz int r), (11, .fz int (sumL (preP a reach r c y x))), (12, .fz int (preP a reach r c y x).length), (13, .fz int (bestL kind (a.2.2.getD i 0) (preP a reach r c y x))), (14, .fz int y), (15, .fz int x)], []⟩, fun x => (x : Int) ≤ a.1, fun x => a.1.toNat - x, 0, by show ((0 : Nat) : Int) ≤ _; omega, Ent.sub rfl ?_, ?_⟩
    · (repeat' (first | exact trivial | exact rfl | refine And.intro ?_ ?_))
    intro x hx
    obtain ⟨b1, b2, b3⟩ := bd y x hy hx
    have hyx := row_bd (y := (y : Int)) (H := a.2.1) (W := a.1) (by omega) (by omega) (by omega)
    have gyx := getD_big hbig (Int.toNat ((y : Int) * a.1 + x))
    have eyx : Int.toNat ((y : Int) * a.1 + x) = y * a.1.toNat + x := by
      have : ((y * a.1.toNat : Nat) : Int) = (y : Int) * a.1 := by rw [Int.natCast_mul]; congr 1; omega
      omega
    have step : ∀ h : Int, h = a.2.2.getD (y * a.1.toNat + x) 0 → inW y x r c reach = true → sumL (preP a reach r c y (x + 1)) = sumL (preP a reach r c y x) + h ∧ ((preP a reach r c y (x + 1)).length : Int) = ((preP a reach r c y x).length : Int) + 1 ∧
        bestL kind (a.2.2.getD i 0) (preP a reach r c y (x + 1)) = stepB kind (bestL kind (a.2.2.getD i 0) (preP a reach r c y x)) h := by
      intro h hh hin
      rw [preP_take hin, sumL_app, sumL_one, bestL_app, List.length_append, hh]
      exact ⟨rfl, by simp, rfl⟩
    have gE : List.getD a.2.2 (Int.toNat ((y : Int) * a.1 + x)) (Ty.dft int) = a.2.2.getD (y * a.1.toNat + x) 0 := by rw [eyx]; rfl
    (repeat' (first | exact trivial | exact fun h => h | refine And.intro ?_ ?_ | (intro hb; first | (simp at hb; done) | (simp at hb) | skip) | omega | exact rfl | exact Nat.le_refl _ | (show _ + 1 ≤ 4294967296; omega) | (dsimp only; omega) | (show wantB _ _ = true; simp; done) | (show wantB _ _ = true; simp; omega) | (show (_ : Bool) = _; simp_all; done) | (exfalso; omega) | refine aRegion_auto (by decide +kernel) ?_ | refine ⟨_, _, REnt.drop ⟨rfl, rfl⟩, ?_⟩ | fail))
    · have hin : inW y x r c reach = false := by unfold inW; simp; omega
      have e := preP_skip (a := a) hin
      refine ⟨x + 1, by show ((x + 1 : Nat) : Int) ≤ _; omega, by show _ - _ < _ - _; omega, Ent.sub rfl ?_⟩
      rw [e]
      (repeat' (first | exact trivial | exact rfl | refine And.intro ?_ ?_))
    · have hin : inW y x r c reach = true := by unfold inW; simp; omega
      obtain ⟨e1, e2, e3⟩ := step _ gE hin
      refine ⟨x + 1, by show ((x + 1 : Nat) : Int) ≤ _; omega, by show _ - _ < _ - _; omega, Ent.sub rfl ?_⟩
      rw [e1, e2, e3]
      (repeat' (first | exact trivial | exact rfl | refine And.intro ?_ ?_))
      exact congrArg (AV.fz int) (by unfold stepB; rw [if_pos (by simp only [← List.getD_eq_getElem?_getD, gE] at hb; omega)])
    · have hin : inW y x r c reach = true := by unfold inW; simp; omega
      obtain ⟨e1, e2, e3⟩ := step _ gE hin
      refine ⟨x + 1, by show ((x + 1 : Nat) : Int) ≤ _; omega, by show _ - _ < _ - _; omega, Ent.sub rfl ?_⟩
      rw [e1, e2, e3]
      (repeat' (first | exact trivial | exact rfl | refine And.intro ?_ ?_))
      exact congrArg (AV.fz int) (by unfold stepB; rw [if_neg (by simp only [← List.getD_eq_getElem?_getD, gE] at hb; omega)])
    · refine ⟨y + 1, by show ((y + 1 : Nat) : Int) ≤ _; omega, by show _ - _ < _ - _; omega, Ent.sub rfl ?_⟩
      rw [preP_end (by omega)]
      (repeat' (first | exact trivial | exact rfl | refine And.intro ?_ ?_))
  · have ew : preP a reach r c y 0 = winP a reach i := by
      unfold winP; rw [hr, hc]; congr 1; omega
    have hwl : 0 < (winP a reach i).length := List.length_pos_iff.2 hw
    rw [ew] at b1 b2 ⊢
    refine acall_frame0 rfl (downB_any _ _ _ (by omega) (by omega) (by omega) _ ?_)
    (repeat' (first | exact trivial | exact fun h => h | refine And.intro ?_ ?_ | (intro hb; first | (simp at hb; done) | (simp at hb) | skip) | omega | exact rfl | exact Nat.le_refl _ | (show _ + 1 ≤ 4294967296; omega) | (dsimp only; omega) | (show wantB _ _ = true; simp; done) | (show wantB _ _ = true; simp; omega) | (show (_ : Bool) = _; simp_all; done) | (exfalso; omega) | refine aRegion_auto (by decide +kernel) ?_ | refine ⟨_, _, REnt.drop ⟨rfl, rfl⟩, ?_⟩ | fail))
    exact kz hK (by unfold aroundP; rw [if_pos (by assumption)]; rfl)
  · have ew : preP a reach r c y 0 = winP a reach i := by
      unfold winP; rw [hr, hc]; congr 1; omega
    exact kz hK (by unfold aroundP; rw [if_neg (by assumption), ew])
end Go.Proofs.YtidhgdipnfhoeaaDoor
/-
  What is around a cell: both ways to find it find the same.
-/
namespace Go.Proofs.YtidhgdipnfhoeaaDoor
open Go Go.Ab
set_option maxRecDepth 100000
/-- some cells of a row, from one on -/
def slc (l : List Int) (s n : Nat) : List Int := (List.range n).map fun k => l.getD (s + k) 0
theorem slc_eq {l : List Int} {s n : Nat} (h : s + n ≤ l.length) : (l.drop s).take n = slc l s n := by
  unfold slc
  apply List.ext_getElem
  · simp; omega
  · intro i h1 h2
    simp at h1 h2 ⊢
    rw [List.getElem?_eq_getElem (by omega)]; rfl
theorem rowP_slc (a : Ras) (reach : Int) (r c : Nat) (y : Nat) (hy : (y : Int) - r ≤ reach ∧ (r : Int) - y ≤ reach) (h0 : 0 ≤ reach) :
    ∀ x, rowP a reach r c y x = slc a.2.2 (y * a.1.toNat + ((c : Int) - reach).toNat) (min x ((c : Int) + reach + 1).toNat - ((c : Int) - reach).toNat)
  | 0 => by simp [rowP, slc]
  | x + 1 => by
    unfold rowP
    rw [rowP_slc a reach r c y hy h0 x]
    by_cases h : inW y x r c reach = true
    · rw [if_pos h]
      unfold inW at h
      simp at h
      have e : min (x + 1) ((c : Int) + reach + 1).toNat - ((c : Int) - reach).toNat = (min x ((c : Int) + reach + 1).toNat - ((c : Int) - reach).toNat) + 1 := by omega
      rw [e]
      unfold slc
      rw [List.range_succ, List.map_append]
      congr 1
      simp only [List.map_cons, List.map_nil]
      congr 2; omega
    · rw [if_neg h, List.append_nil]
      unfold inW at h
      simp at h
      congr 1; omega
theorem rowP_none (a : Ras) (reach : Int) (r c : Nat) (y : Nat) (hy : ¬ ((y : Int) - r ≤ reach ∧ (r : Int) - y ≤ reach)) : ∀ x, rowP a reach r c y x = []
  | 0 => rfl
  | x + 1 => by
    unfold rowP
    rw [rowP_none a reach r c y hy x, if_neg]
    · rfl
    · unfold inW; simp; omega
theorem seg_slc {a : Ras} {reach : Int} {c : Nat} {y : Nat} (h0 : 0 ≤ reach) (hW : 1 ≤ a.1) (hc : (c : Int) < a.1) (hl : (y : Int) * a.1 + a.1 ≤ (a.2.2.length : Int)) :
    seg a reach c y = slc a.2.2 (y * a.1.toNat + ((c : Int) - reach).toNat) (min a.1.toNat ((c : Int) + reach + 1).toNat - ((c : Int) - reach).toNat) := by
  have e0 : ((y * a.1.toNat : Nat) : Int) = (y : Int) * a.1 := by rw [Int.natCast_mul]; congr 1; omega
  unfold seg
  rw [show ((y : Int) * a.1 + max 0 ((c : Int) - reach)).toNat = y * a.1.toNat + ((c : Int) - reach).toNat by omega,
    show ((y : Int) * a.1 + min (a.1 - 1) ((c : Int) + reach) + 1).toNat - (y * a.1.toNat + ((c : Int) - reach).toNat) = min a.1.toNat ((c : Int) + reach + 1).toNat - ((c : Int) - reach).toNat by omega]
  exact slc_eq (by omega)
/-- all rows up to one, by the rows that count -/
theorem allP_segs {a : Ras} {reach : Int} {r c : Nat} (h0 : 0 ≤ reach) (hW : 1 ≤ a.1) (hc : (c : Int) < a.1) (hl : (a.2.2.length : Int) = a.1 * a.2.1) :
    ∀ y : Nat, (y : Int) ≤ a.2.1 → allP a reach r c y = segs a reach c (max 0 ((r : Int) - reach)) (min y ((r : Int) + reach + 1).toNat - ((r : Int) - reach).toNat)
  | 0, _ => by simp [allP, segs]
  | y + 1, hy => by
    have ih := allP_segs (r := r) h0 hW hc hl y (by omega)
    unfold allP
    rw [ih]
    by_cases h : (y : Int) - r ≤ reach ∧ (r : Int) - y ≤ reach
    · rw [rowP_slc a reach r c y h h0]
      have e : min (y + 1) ((r : Int) + reach + 1).toNat - ((r : Int) - reach).toNat = (min y ((r : Int) + reach + 1).toNat - ((r : Int) - reach).toNat) + 1 := by omega
      have e2 : max 0 ((r : Int) - reach) + ((min y ((r : Int) + reach + 1).toNat - ((r : Int) - reach).toNat : Nat) : Int) = (y : Int) := by omega
      have hb := row_bd (y := (y : Int)) (H := a.2.1) (W := a.1) (by omega) (by omega) (by omega)
      rw [e, segs.eq_2, e2, seg_slc h0 hW hc (by omega)]
    · rw [rowP_none a reach r c y h, List.append_nil]
      congr 1; omega
theorem winP_winW {a : Ras} {reach : Int} {r c : Nat} (h0 : 0 ≤ reach) (hv : rerr a = 0) (hr : (r : Int) < a.2.1) (hc : (c : Int) < a.1) : winP a reach (r * a.1.toNat + c) = winW a reach r c := by
  obtain ⟨⟨hW1, hH1, hW2, hH2, hlen⟩, _⟩ := rerr_ok hv
  obtain ⟨W, hW⟩ : ∃ W : Nat, a.1 = (W : Int) := ⟨a.1.toNat, by omega⟩
  have e1 : Int.tdiv ((r * a.1.toNat + c : Nat) : Int) a.1 = (r : Int) := by
    rw [Int.tdiv_eq_ediv_of_nonneg (by omega), hW]
    have : (r * W + c) / W = r := by rw [Nat.mul_comm, Nat.mul_add_div (by omega), Nat.div_eq_of_lt (by omega), Nat.add_zero]
    simpa using congrArg (fun n : Nat => (n : Int)) this
  have e2 : Int.tmod ((r * a.1.toNat + c : Nat) : Int) a.1 = (c : Int) := by
    rw [Int.tmod_eq_emod_of_nonneg (by omega), hW]
    have : (r * W + c) % W = c := by rw [Nat.mul_comm, Nat.mul_add_mod, Nat.mod_eq_of_lt (by omega)]
    simpa using congrArg (fun n : Nat => (n : Int)) this
  unfold winP
  rw [e1, e2]
  unfold preP
  show allP a reach r c a.2.1.toNat ++ [] = _
  rw [List.append_nil, allP_segs h0 hW1 hc hlen a.2.1.toNat (by omega)]
  unfold winW
  congr 1; omega
theorem fold_max_mem : ∀ (l : List Int) (b : Int), (∀ x ∈ l, x ≤ b) → l.foldl max b = b
  | [], b, _ => rfl
  | x :: l, b, h => by
    rw [List.foldl_cons, show max b x = b by have := h x (List.mem_cons_self ..); omega]
    exact fold_max_mem l b fun y hy => h y (List.mem_cons_of_mem _ hy)
/-- the greatest of those that there are is the greatest, from one of them on -/
theorem max_props (l : List Int) : ∀ b : Int, b ≤ l.foldl max b ∧ (∀ x ∈ l, x ≤ l.foldl max b) ∧ (l.foldl max b = b ∨ l.foldl max b ∈ l) := by
  induction l with
  | nil => intro b; exact ⟨Int.le_refl _, fun x h => (by cases h), .inl rfl⟩
  | cons y l ih =>
    intro b
    obtain ⟨h1, h2, h3⟩ := ih (max b y)
    rw [List.foldl_cons]
    refine ⟨by omega, fun x hx => ?_, ?_⟩
    · rcases List.mem_cons.1 hx with rfl | hx
      · omega
      · exact h2 x hx
    · rcases h3 with h3 | h3
      · by_cases h : b < y
        · exact .inr (by rw [h3, show max b y = y by omega]; exact List.mem_cons_self ..)
        · exact .inl (by rw [h3]; omega)
      · exact .inr (List.mem_cons_of_mem _ h3)
theorem min_props (l : List Int) : ∀ b : Int, l.foldl min b ≤ b ∧ (∀ x ∈ l, l.foldl min b ≤ x) ∧ (l.foldl min b = b ∨ l.foldl min b ∈ l) := by
  induction l with
  | nil => intro b; exact ⟨Int.le_refl _, fun x h => (by cases h), .inl rfl⟩
  | cons y l ih =>
    intro b
    obtain ⟨h1, h2, h3⟩ := ih (min b y)
    rw [List.foldl_cons]
    refine ⟨by omega, fun x hx => ?_, ?_⟩
    · rcases List.mem_cons.1 hx with rfl | hx
      · omega
      · exact h2 x hx
    · rcases h3 with h3 | h3
      · by_cases h : y < b
        · exact .inr (by rw [h3, show min b y = y by omega]; exact List.mem_cons_self ..)
        · exact .inl (by rw [h3]; omega)
      · exact .inr (List.mem_cons_of_mem _ h3)
theorem step_max : stepB 1 = max := by funext b h; unfold stepB; split <;> omega
theorem step_min : stepB 2 = min := by funext b h; unfold stepB; split <;> omega
theorem best_max {l : List Int} {b : Int} (h : b ∈ l) : bestL 1 b l = maxL l := by
  unfold bestL
  rw [step_max]
  cases l with
  | nil => cases h
  | cons x l =>
    show (x :: l).foldl max b = l.foldl max x
    obtain ⟨p1, p2, p3⟩ := max_props (x :: l) b
    obtain ⟨q1, q2, q3⟩ := max_props l x
    have hin : ∀ y ∈ x :: l, y ≤ l.foldl max x := fun y hy => by
      rcases List.mem_cons.1 hy with rfl | hy
      · exact q1
      · exact q2 y hy
    have h1 : (x :: l).foldl max b ≤ l.foldl max x := by
      rcases p3 with p3 | p3
      · rw [p3]; exact hin b h
      · exact hin _ p3
    have h2 : l.foldl max x ≤ (x :: l).foldl max b := by
      rcases q3 with q3 | q3
      · rw [q3]; exact p2 x (List.mem_cons_self ..)
      · exact p2 _ (List.mem_cons_of_mem _ q3)
    omega
theorem best_min {l : List Int} {b : Int} (h : b ∈ l) : bestL 2 b l = minL l := by
  unfold bestL
  rw [step_min]
  cases l with
  | nil => cases h
  | cons x l =>
    show (x :: l).foldl min b = l.foldl min x
    obtain ⟨p1, p2, p3⟩ := min_props (x :: l) b
    obtain ⟨q1, q2, q3⟩ := min_props l x
    have hin : ∀ y ∈ x :: l, l.foldl min x ≤ y := fun y hy => by
      rcases List.mem_cons.1 hy with rfl | hy
      · exact q1
      · exact q2 y hy
    have h1 : l.foldl min x ≤ (x :: l).foldl min b := by
      rcases p3 with p3 | p3
      · rw [p3]; exact hin b h
      · exact hin _ p3
    have h2 : (x :: l).foldl min b ≤ l.foldl min x := by
      rcases q3 with q3 | q3
      · rw [q3]; exact p2 x (List.mem_cons_self ..)
      · exact p2 _ (List.mem_cons_of_mem _ q3)
    omega
/-- the cell itself is around itself -/
theorem self_in {a : Ras} {reach : Int} {r c : Nat} (h0 : 0 ≤ reach) (hr : (r : Int) < a.2.1) (hc : (c : Int) < a.1) : a.2.2.getD (r * a.1.toNat + c) 0 ∈ allP a reach r c a.2.1.toNat := by
  have hrow : ∀ x : Nat, c < x → a.2.2.getD (r * a.1.toNat + c) 0 ∈ rowP a reach r c r x := by
    intro x
    induction x with
    | zero => intro h; omega
    | succ x ih =>
      intro h
      unfold rowP
      by_cases hx : c < x
      · exact List.mem_append_left _ (ih hx)
      · obtain rfl : c = x := by omega
        refine List.mem_append_right _ ?_
        rw [if_pos (by unfold inW; simp; omega)]
        exact List.mem_singleton.2 rfl
  have hall : ∀ y : Nat, r < y → a.2.2.getD (r * a.1.toNat + c) 0 ∈ allP a reach r c y := by
    intro y
    induction y with
    | zero => intro h; omega
    | succ y ih =>
      intro h
      unfold allP
      by_cases hy : r < y
      · exact List.mem_append_left _ (ih hy)
      · obtain rfl : r = y := by omega
        exact List.mem_append_right _ (hrow _ (by omega))
  exact hall _ (by omega)
/-- what kinds of answers there are -/
def kindF (kind : Int) : List Int → Int := if kind = 0 then meanL else if kind = 1 then maxL else minL
theorem aroundP_eq {a : Ras} {reach kind : Int} {r c : Nat} (h0 : 0 ≤ reach) (hv : rerr a = 0) (hr : (r : Int) < a.2.1) (hc : (c : Int) < a.1) (hk : kind = 0 ∨ kind = 1 ∨ kind = 2) :
    winP a reach (r * a.1.toNat + c) ≠ [] ∧ aroundP a reach kind (r * a.1.toNat + c) = kindF kind (winW a reach r c) := by
  have e := winP_winW h0 hv hr hc
  obtain ⟨⟨hW1, hH1, hW2, hH2, hlen⟩, _⟩ := rerr_ok hv
  have hin : a.2.2.getD (r * a.1.toNat + c) 0 ∈ winW a reach r c := by
    have := self_in (reach := reach) h0 hr hc
    rw [allP_segs h0 hW1 hc hlen a.2.1.toNat (by omega)] at this
    unfold winW
    rwa [show (min (a.2.1 - 1) ((r : Int) + reach) + 1 - max 0 ((r : Int) - reach)).toNat = min a.2.1.toNat ((r : Int) + reach + 1).toNat - ((r : Int) - reach).toNat by omega]
  refine ⟨by rw [e]; exact List.ne_nil_of_mem hin, ?_⟩
  unfold aroundP kindF
  rw [e]
  rcases hk with rfl | rfl | rfl
  · rfl
  · rw [if_neg (by decide), if_neg (by decide), if_pos rfl]; exact best_max hin
  · rw [if_neg (by decide), if_neg (by decide), if_neg (by decide)]; exact best_min hin
/-- the answers, cell by cell -/
def allK (a : Ras) (reach kind : Int) (n : Nat) : List Int := (List.range n).map fun i => aroundP a reach kind i
theorem rowW_map (F : List Int → Int) (a : Ras) (reach : Int) (r : Nat) : ∀ c, rowW F a reach r c = (List.range c).map fun c => F (winW a reach r c)
  | 0 => rfl
  | c + 1 => by unfold rowW; rw [rowW_map F a reach r c, List.range_succ, List.map_append]; rfl
theorem allW_allK {a : Ras} {reach kind : Int} (h0 : 0 ≤ reach) (hv : rerr a = 0) (hk : kind = 0 ∨ kind = 1 ∨ kind = 2) : ∀ r : Nat, (r : Int) ≤ a.2.1 → allW (kindF kind) a reach r = allK a reach kind (r * a.1.toNat)
  | 0, _ => by simp [allW, allK]
  | r + 1, h => by
    have ih := allW_allK h0 hv hk r (by omega)
    unfold allW
    rw [ih, rowW_map]
    unfold allK
    rw [Nat.succ_mul, List.range_add, List.map_append]
    congr 1
    rw [List.map_map]
    refine List.map_congr_left fun c hc => ?_
    have := List.mem_range.1 hc
    exact (aroundP_eq (reach := reach) (kind := kind) h0 hv (show (r : Int) < a.2.1 by omega) (by omega) hk).2.symm
theorem around_both {a : Ras} {reach kind : Int} (h0 : 0 ≤ reach) (hv : rerr a = 0) (hk : kind = 0 ∨ kind = 1 ∨ kind = 2) : (onR (kindF kind) a reach).2.2 = allK a reach kind a.2.2.length := by
  obtain ⟨⟨hW1, hH1, hW2, hH2, hlen⟩, _⟩ := rerr_ok hv
  show allW _ _ _ _ = _
  rw [allW_allK h0 hv hk _ (by omega)]
  congr 1
  have : ((a.2.1.toNat * a.1.toNat : Nat) : Int) = a.2.1 * a.1 := by rw [Int.natCast_mul]; congr 1 <;> omega
  rw [Int.mul_comm] at this; omega
theorem around_ne {a : Ras} {reach : Int} (h0 : 0 ≤ reach) (hv : rerr a = 0) {i : Nat} (hi : i < a.2.2.length) : winP a reach i ≠ [] := by
  obtain ⟨⟨hW1, hH1, hW2, hH2, hlen⟩, _⟩ := rerr_ok hv
  have h1 : i % a.1.toNat < a.1.toNat := Nat.mod_lt _ (by omega)
  have h2 : i / a.1.toNat < a.2.1.toNat := by
    rw [Nat.div_lt_iff_lt_mul (by omega)]
    have : ((a.2.1.toNat * a.1.toNat : Nat) : Int) = a.2.1 * a.1 := by rw [Int.natCast_mul]; congr 1 <;> omega
    rw [Int.mul_comm] at this; omega
  have := (aroundP_eq (kind := 0) (r := i / a.1.toNat) (c := i % a.1.toNat) h0 hv (by omega) (by omega) (.inl rfl)).1
  rwa [Nat.mul_comm, Nat.div_add_mod] at this
end Go.Proofs.YtidhgdipnfhoeaaDoor
/-
  FieldAround: the walk.
-/
namespace Go.Proofs.YtidhgdipnfhoeaaDoor
open Go Go.Ab
set_option maxRecDepth 100000
theorem allK_len (a : Ras) (reach kind : Int) (n : Nat) : (allK a reach kind n).length = n := by simp [allK]
theorem allK_step (a : Ras) (reach kind : Int) (n : Nat) : List.take n (allK a reach kind n) ++ [aroundP a reach kind n] = allK a reach kind (n + 1) := by
  rw [List.take_of_length_le (by rw [allK_len]; exact Nat.le_refl _)]
  unfold allK; rw [List.range_succ, List.map_append]; rfl
set_option maxHeartbeats 4000000 in
theorem allAround_any (G : List (Nat × Value)) (a : Ras) (reach kind : Int) (hv : rerr a = 0) (h0 : 0 ≤ reach) (h1 : reach ≤ 128) (K : AV → List AO → Prop) (hK : K (.fz (.list int) (allK a reach kind a.2.2.length)) []) :
    ACall Tryd.prog G 30 [.fptr RasT a, .fz int reach, .fz int kind] [] K := by
  refine acall_mk (E := envAt G 27 0) (envOk _ _ _) Tryd.func30 rfl rfl rfl rfl rfl ?_
  obtain ⟨⟨hW1, hH1, hW2, hH2, hlen⟩, hbig⟩ := rerr_ok hv
  have hm := mul_bd (a := a.1) (b := a.2.1) (A := 128) (B := 128) (by omega) (by omega) (by omega) (by omega)
  (repeat' (first | exact trivial | exact fun h => h | refine And.intro ?_ ?_ | (intro hb; first | (simp at hb; done) | (simp at hb) | skip) | omega | exact rfl | exact Nat.le_refl _ | (show _ + 1 ≤ 4294967296; omega) | (dsimp only; omega) | (show wantB _ _ = true; simp; done) | (show wantB _ _ = true; simp; omega) | (show (_ : Bool) = _; simp_all; done) | (exfalso; omega) | refine aRegion_auto (by decide +kernel) ?_ | refine ⟨_, _, REnt.drop ⟨rfl, rfl⟩, ?_⟩ | fail))
  refine ⟨Nat, fun i => ⟨[(0, .fptr RasT a), (1, .fz int reach), (2, .fz int kind), (7, .ref 0 0 i), (8, .fz int i)], [.row int (allK a reach kind i)]⟩, fun i => i ≤ a.2.2.length, fun i => a.2.2.length - i, 0, Nat.zero_le _, (Ent.nil 7 int rfl).trans (Ent.sub rfl ?_), ?_⟩
  · (repeat' (first | exact trivial | exact rfl | refine And.intro ?_ ?_))
  intro i hi
  have hri := allK_len a reach kind i
  (repeat' (first | exact trivial | exact fun h => h | refine And.intro ?_ ?_ | (intro hb; first | (simp at hb; done) | (simp at hb) | skip) | omega | exact rfl | exact Nat.le_refl _ | (show _ + 1 ≤ 4294967296; omega) | (dsimp only; omega) | (show wantB _ _ = true; simp; done) | (show wantB _ _ = true; simp; omega) | (show (_ : Bool) = _; simp_all; done) | (exfalso; omega) | refine aRegion_auto (by decide +kernel) ?_ | refine ⟨_, _, REnt.drop ⟨rfl, rfl⟩, ?_⟩ | fail))
  · refine acall_frame0 rfl (aroundOf_any _ a i reach kind hv (by omega) h0 h1 (around_ne h0 hv (by omega)) _ ?_)
    (repeat' (first | exact trivial | exact fun h => h | refine And.intro ?_ ?_ | (intro hb; first | (simp at hb; done) | (simp at hb) | skip) | omega | exact rfl | exact Nat.le_refl _ | (show _ + 1 ≤ 4294967296; omega) | (dsimp only; omega) | (show wantB _ _ = true; simp; done) | (show wantB _ _ = true; simp; omega) | (show (_ : Bool) = _; simp_all; done) | (exfalso; omega) | refine aRegion_auto (by decide +kernel) ?_ | refine ⟨_, _, REnt.drop ⟨rfl, rfl⟩, ?_⟩ | fail))
    refine ⟨i + 1, by show _ ≤ _; omega, by show _ - _ < _ - _; omega, Ent.ren [2] rfl ?_ ?_⟩
    · (repeat' (first | exact trivial | exact rfl | refine And.intro ?_ ?_))
      exact congrArg (fun l => some (AO.row int l)) (allK_step a reach kind i)
    · (repeat' (first | exact trivial | exact rfl | refine And.intro ?_ ?_))
  · have hi2 : i = a.2.2.length := by omega
    subst hi2
    refine ⟨_, _, (REnt.conv1 (.dat (.list int)) _ rfl ?_).trans (REnt.drop ⟨rfl, rfl⟩), ?_⟩
    · (repeat' (first | exact trivial | refine And.intro ?_ ?_ | (show _ ≤ _; omega) | (show _ ≤ _; simp; done)))
    exact (congrArg (fun l => K (.fz (.list int) l) []) (List.take_of_length_le (by rw [List.drop_zero, hri]; exact Nat.le_refl _))).mpr hK
set_option maxHeartbeats 4000000 in
theorem fieldAround_some {E : Errs} (hE : (EL E).Nodup) (a : Ras) (reach : Int) (hla : a.2.2.length ≤ 9223372036854775807) (hr : I64 reach) (K : AV → List AO → Prop) (hK : K (.fz .bool true) []) :
    ACall Tryd.prog (G8 E) 7 [.fptr RasT a, .fz int reach] [] K := by
  refine acall_mk (E := envAt (G8 E) 154 0) (envOk _ _ _) Tryd.func7 rfl rfl rfl rfl rfl ?_
  (repeat' (first | exact trivial | exact fun h => h | refine And.intro ?_ ?_ | (intro hb; first | (simp at hb; done) | (simp at hb) | skip) | omega | exact rfl | exact Nat.le_refl _ | (show _ + 1 ≤ 4294967296; omega) | (dsimp only; omega) | (show wantB _ _ = true; simp; done) | (show wantB _ _ = true; simp; omega) | (show (_ : Bool) = _; simp_all; done) | (exfalso; omega) | refine aRegion_auto (by decide +kernel) ?_ | refine ⟨_, _, REnt.drop ⟨rfl, rfl⟩, ?_⟩ | fail))
  refine acall_frame0 rfl (up8 (rasters_any E _ ?_))
  (repeat' (first | exact trivial | exact fun h => h | refine And.intro ?_ ?_ | (intro hb; first | (simp at hb; done) | (simp at hb) | skip) | omega | exact rfl | exact Nat.le_refl _ | (show _ + 1 ≤ 4294967296; omega) | (dsimp only; omega) | (show wantB _ _ = true; simp; done) | (show wantB _ _ = true; simp; omega) | (show (_ : Bool) = _; simp_all; done) | (exfalso; omega) | refine aRegion_auto (by decide +kernel) ?_ | refine ⟨_, _, REnt.drop ⟨rfl, rfl⟩, ?_⟩ | fail))
  refine acall_frame0 rfl (small_any _ a _ ?_)
  (repeat' (first | exact trivial | exact fun h => h | refine And.intro ?_ ?_ | (intro hb; first | (simp at hb; done) | (simp at hb) | skip) | omega | exact rfl | exact Nat.le_refl _ | (show _ + 1 ≤ 4294967296; omega) | (dsimp only; omega) | (show wantB _ _ = true; simp; done) | (show wantB _ _ = true; simp; omega) | (show (_ : Bool) = _; simp_all; done) | (exfalso; omega) | refine aRegion_auto (by decide +kernel) ?_ | refine ⟨_, _, REnt.drop ⟨rfl, rfl⟩, ?_⟩ | fail))
  · exact hK
  have hl2 : a.2.2.length ≤ 200 := hb
  refine acall_frame0 rfl (mean_one E a reach (by omega) hr _ ?_)
  (repeat' (first | exact trivial | exact fun h => h | refine And.intro ?_ ?_ | (intro hb; first | (simp at hb; done) | (simp at hb) | skip) | omega | exact rfl | exact Nat.le_refl _ | (show _ + 1 ≤ 4294967296; omega) | (dsimp only; omega) | (show wantB _ _ = true; simp; done) | (show wantB _ _ = true; simp; omega) | (show (_ : Bool) = _; simp_all; done) | (exfalso; omega) | refine aRegion_auto (by decide +kernel) ?_ | refine ⟨_, _, REnt.drop ⟨rfl, rfl⟩, ?_⟩ | fail))
  refine acall_frame0 rfl (most_one E a reach (by omega) hr _ ?_)
  (repeat' (first | exact trivial | exact fun h => h | refine And.intro ?_ ?_ | (intro hb; first | (simp at hb; done) | (simp at hb) | skip) | omega | exact rfl | exact Nat.le_refl _ | (show _ + 1 ≤ 4294967296; omega) | (dsimp only; omega) | (show wantB _ _ = true; simp; done) | (show wantB _ _ = true; simp; omega) | (show (_ : Bool) = _; simp_all; done) | (exfalso; omega) | refine aRegion_auto (by decide +kernel) ?_ | refine ⟨_, _, REnt.drop ⟨rfl, rfl⟩, ?_⟩ | fail))
  refine acall_frame0 rfl (least_one E a reach (by omega) hr _ ?_)
  (repeat' (first | exact trivial | exact fun h => h | refine And.intro ?_ ?_ | (intro hb; first | (simp at hb; done) | (simp at hb) | skip) | omega | exact rfl | exact Nat.le_refl _ | (show _ + 1 ≤ 4294967296; omega) | (dsimp only; omega) | (show wantB _ _ = true; simp; done) | (show wantB _ _ = true; simp; omega) | (show (_ : Bool) = _; simp_all; done) | (exfalso; omega) | refine aRegion_auto (by decide +kernel) ?_ | refine ⟨_, _, REnt.drop ⟨rfl, rfl⟩, ?_⟩ | fail))
  refine acall_frame0 rfl (rasterError_any _ a (by omega) _ ?_)
  have hz : ∀ F : List Int → Int, aerr a reach ≠ 0 → onQ F a reach = (0, 0, []) := fun F h => by unfold onQ; rw [if_neg h]
  have hg := aerr_ge (a := a) (reach := reach)
  (repeat' (first | exact trivial | exact fun h => h | refine And.intro ?_ ?_ | (intro hb; first | (simp at hb; done) | (simp at hb) | skip) | omega | exact rfl | exact Nat.le_refl _ | (show _ + 1 ≤ 4294967296; omega) | (dsimp only; omega) | (show wantB _ _ = true; simp; done) | (show wantB _ _ = true; simp; omega) | (show (_ : Bool) = _; simp_all; done) | (exfalso; omega) | refine aRegion_auto (by decide +kernel) ?_ | refine ⟨_, _, REnt.drop ⟨rfl, rfl⟩, ?_⟩ | fail))
  · rename_i hc _
    have ea : aerr a reach = 3 := by unfold aerr; rw [if_neg (by omega), if_pos (by omega)]
    refine acall_frame0 rfl (coded_mercatorlaw3 hE (by omega) 3 _ ?_)
    rw [decide_eq_true (show ((aerr a reach : Nat) : Int) = 3 by omega)]
    (repeat' (first | exact trivial | exact fun h => h | refine And.intro ?_ ?_ | (intro hb; first | (simp at hb; done) | (simp at hb) | skip) | omega | exact rfl | exact Nat.le_refl _ | (show _ + 1 ≤ 4294967296; omega) | (dsimp only; omega) | (show wantB _ _ = true; simp; done) | (show wantB _ _ = true; simp; omega) | (show (_ : Bool) = _; simp_all; done) | (exfalso; omega) | refine aRegion_auto (by decide +kernel) ?_ | refine ⟨_, _, REnt.drop ⟨rfl, rfl⟩, ?_⟩ | fail))
    refine acall_conv [.dat RasT] _ _ _ rfl trivial (acall_frame0 rfl (nothing_any _ (onQ meanL a reach) _ ?_))
    rw [hz meanL (by omega)]
    (repeat' (first | exact trivial | exact fun h => h | refine And.intro ?_ ?_ | (intro hb; first | (simp at hb; done) | (simp at hb) | skip) | omega | exact rfl | exact Nat.le_refl _ | (show _ + 1 ≤ 4294967296; omega) | (dsimp only; omega) | (show wantB _ _ = true; simp; done) | (show wantB _ _ = true; simp; omega) | (show (_ : Bool) = _; simp_all; done) | (exfalso; omega) | refine aRegion_auto (by decide +kernel) ?_ | refine ⟨_, _, REnt.drop ⟨rfl, rfl⟩, ?_⟩ | fail))
    refine acall_frame0 rfl (coded_mercatorlaw3 hE (by omega) 3 _ ?_)
    rw [decide_eq_true (show ((aerr a reach : Nat) : Int) = 3 by omega)]
    (repeat' (first | exact trivial | exact fun h => h | refine And.intro ?_ ?_ | (intro hb; first | (simp at hb; done) | (simp at hb) | skip) | omega | exact rfl | exact Nat.le_refl _ | (show _ + 1 ≤ 4294967296; omega) | (dsimp only; omega) | (show wantB _ _ = true; simp; done) | (show wantB _ _ = true; simp; omega) | (show (_ : Bool) = _; simp_all; done) | (exfalso; omega) | refine aRegion_auto (by decide +kernel) ?_ | refine ⟨_, _, REnt.drop ⟨rfl, rfl⟩, ?_⟩ | fail))
    refine acall_conv [.dat RasT] _ _ _ rfl trivial (acall_frame0 rfl (nothing_any _ (onQ maxL a reach) _ ?_))
    rw [hz maxL (by omega)]
    (repeat' (first | exact trivial | exact fun h => h | refine And.intro ?_ ?_ | (intro hb; first | (simp at hb; done) | (simp at hb) | skip) | omega | exact rfl | exact Nat.le_refl _ | (show _ + 1 ≤ 4294967296; omega) | (dsimp only; omega) | (show wantB _ _ = true; simp; done) | (show wantB _ _ = true; simp; omega) | (show (_ : Bool) = _; simp_all; done) | (exfalso; omega) | refine aRegion_auto (by decide +kernel) ?_ | refine ⟨_, _, REnt.drop ⟨rfl, rfl⟩, ?_⟩ | fail))
    refine acall_frame0 rfl (coded_mercatorlaw3 hE (by omega) 3 _ ?_)
    rw [decide_eq_true (show ((aerr a reach : Nat) : Int) = 3 by omega)]
    (repeat' (first | exact trivial | exact fun h => h | refine And.intro ?_ ?_ | (intro hb; first | (simp at hb; done) | (simp at hb) | skip) | omega | exact rfl | exact Nat.le_refl _ | (show _ + 1 ≤ 4294967296; omega) | (dsimp only; omega) | (show wantB _ _ = true; simp; done) | (show wantB _ _ = true; simp; omega) | (show (_ : Bool) = _; simp_all; done) | (exfalso; omega) | refine aRegion_auto (by decide +kernel) ?_ | refine ⟨_, _, REnt.drop ⟨rfl, rfl⟩, ?_⟩ | fail))
    refine acall_conv [.dat RasT] _ _ _ rfl trivial (acall_frame0 rfl (nothing_any _ (onQ minL a reach) _ ?_))
    rw [hz minL (by omega)]
    (repeat' (first | exact trivial | exact fun h => h | refine And.intro ?_ ?_ | (intro hb; first | (simp at hb; done) | (simp at hb) | skip) | omega | exact rfl | exact Nat.le_refl _ | (show _ + 1 ≤ 4294967296; omega) | (dsimp only; omega) | (show wantB _ _ = true; simp; done) | (show wantB _ _ = true; simp; omega) | (show (_ : Bool) = _; simp_all; done) | (exfalso; omega) | refine aRegion_auto (by decide +kernel) ?_ | refine ⟨_, _, REnt.drop ⟨rfl, rfl⟩, ?_⟩ | fail))
    exact kb hK (by simp)
  · rename_i hc
    have ea : aerr a reach = rerr a := by unfold aerr; rw [if_pos (by omega)]
    refine acall_frame0 rfl (coded_mercatorlaw3 hE (by omega) (rerr a) _ ?_)
    rw [decide_eq_true (show ((aerr a reach : Nat) : Int) = (rerr a) by omega)]
    (repeat' (first | exact trivial | exact fun h => h | refine And.intro ?_ ?_ | (intro hb; first | (simp at hb; done) | (simp at hb) | skip) | omega | exact rfl | exact Nat.le_refl _ | (show _ + 1 ≤ 4294967296; omega) | (dsimp only; omega) | (show wantB _ _ = true; simp; done) | (show wantB _ _ = true; simp; omega) | (show (_ : Bool) = _; simp_all; done) | (exfalso; omega) | refine aRegion_auto (by decide +kernel) ?_ | refine ⟨_, _, REnt.drop ⟨rfl, rfl⟩, ?_⟩ | fail))
    refine acall_conv [.dat RasT] _ _ _ rfl trivial (acall_frame0 rfl (nothing_any _ (onQ meanL a reach) _ ?_))
    rw [hz meanL (by omega)]
    (repeat' (first | exact trivial | exact fun h => h | refine And.intro ?_ ?_ | (intro hb; first | (simp at hb; done) | (simp at hb) | skip) | omega | exact rfl | exact Nat.le_refl _ | (show _ + 1 ≤ 4294967296; omega) | (dsimp only; omega) | (show wantB _ _ = true; simp; done) | (show wantB _ _ = true; simp; omega) | (show (_ : Bool) = _; simp_all; done) | (exfalso; omega) | refine aRegion_auto (by decide +kernel) ?_ | refine ⟨_, _, REnt.drop ⟨rfl, rfl⟩, ?_⟩ | fail))
    refine acall_frame0 rfl (coded_mercatorlaw3 hE (by omega) (rerr a) _ ?_)
    rw [decide_eq_true (show ((aerr a reach : Nat) : Int) = (rerr a) by omega)]
    (repeat' (first | exact trivial | exact fun h => h | refine And.intro ?_ ?_ | (intro hb; first | (simp at hb; done) | (simp at hb) | skip) | omega | exact rfl | exact Nat.le_refl _ | (show _ + 1 ≤ 4294967296; omega) | (dsimp only; omega) | (show wantB _ _ = true; simp; done) | (show wantB _ _ = true; simp; omega) | (show (_ : Bool) = _; simp_all; done) | (exfalso; omega) | refine aRegion_auto (by decide +kernel) ?_ | refine ⟨_, _, REnt.drop ⟨rfl, rfl⟩, ?_⟩ | fail))
    refine acall_conv [.dat RasT] _ _ _ rfl trivial (acall_frame0 rfl (nothing_any _ (onQ maxL a reach) _ ?_))
    rw [hz maxL (by omega)]
    (repeat' (first | exact trivial | exact fun h => h | refine And.intro ?_ ?_ | (intro hb; first | (simp at hb; done) | (simp at hb) | skip) | omega | exact rfl | exact Nat.le_refl _ | (show _ + 1 ≤ 4294967296; omega) | (dsimp only; omega) | (show wantB _ _ = true; simp; done) | (show wantB _ _ = true; simp; omega) | (show (_ : Bool) = _; simp_all; done) | (exfalso; omega) | refine aRegion_auto (by decide +kernel) ?_ | refine ⟨_, _, REnt.drop ⟨rfl, rfl⟩, ?_⟩ | fail))
    refine acall_frame0 rfl (coded_mercatorlaw3 hE (by omega) (rerr a) _ ?_)
    rw [decide_eq_true (show ((aerr a reach : Nat) : Int) = (rerr a) by omega)]
    (repeat' (first | exact trivial | exact fun h => h | refine And.intro ?_ ?_ | (intro hb; first | (simp at hb; done) | (simp at hb) | skip) | omega | exact rfl | exact Nat.le_refl _ | (show _ + 1 ≤ 4294967296; omega) | (dsimp only; omega) | (show wantB _ _ = true; simp; done) | (show wantB _ _ = true; simp; omega) | (show (_ : Bool) = _; simp_all; done) | (exfalso; omega) | refine aRegion_auto (by decide +kernel) ?_ | refine ⟨_, _, REnt.drop ⟨rfl, rfl⟩, ?_⟩ | fail))
    refine acall_conv [.dat RasT] _ _ _ rfl trivial (acall_frame0 rfl (nothing_any _ (onQ minL a reach) _ ?_))
    rw [hz minL (by omega)]
    (repeat' (first | exact trivial | exact fun h => h | refine And.intro ?_ ?_ | (intro hb; first | (simp at hb; done) | (simp at hb) | skip) | omega | exact rfl | exact Nat.le_refl _ | (show _ + 1 ≤ 4294967296; omega) | (dsimp only; omega) | (show wantB _ _ = true; simp; done) | (show wantB _ _ = true; simp; omega) | (show (_ : Bool) = _; simp_all; done) | (exfalso; omega) | refine aRegion_auto (by decide +kernel) ?_ | refine ⟨_, _, REnt.drop ⟨rfl, rfl⟩, ?_⟩ | fail))
    exact kb hK (by simp)
  · rename_i hc
    have hv : rerr a = 0 := hb
    obtain ⟨hr0, hr1⟩ := hc hv
    have ea : aerr a reach = 0 := aerr_zero.2 ⟨hv, hr0, hr1⟩
    have hq : ∀ F : List Int → Int, onQ F a reach = onR F a reach := fun F => by unfold onQ; rw [if_pos ea]
    have hl3 : ∀ F : List Int → Int, (onQ F a reach).2.2.length ≤ 1000000000000 := fun F => by rw [hq, onR_len hv]; omega
    have hi3 : ∀ (F : List Int → Int) (kind : Int), (kind = 0 ∨ kind = 1 ∨ kind = 2) → kindF kind = F → isB (onQ F a reach) a.1 a.2.1 (allK a reach kind a.2.2.length) = true := fun F kind hk hF => by
      rw [hq, ← hF]
      unfold isB
      rw [around_both hr0 hv hk]
      simp [onR]
    rw [ea]
    (repeat' (first | exact trivial | exact fun h => h | refine And.intro ?_ ?_ | (intro hb; first | (simp at hb; done) | (simp at hb) | skip) | omega | exact rfl | exact Nat.le_refl _ | (show _ + 1 ≤ 4294967296; omega) | (dsimp only; omega) | (show wantB _ _ = true; simp; done) | (show wantB _ _ = true; simp; omega) | (show (_ : Bool) = _; simp_all; done) | (exfalso; omega) | refine aRegion_auto (by decide +kernel) ?_ | refine ⟨_, _, REnt.drop ⟨rfl, rfl⟩, ?_⟩ | fail))
    apply exEff
    · refine And.intro (fun _ => ?_) (fun h => by simp at h)
      refine And.intro (by simp) ?_
      refine acall_frame0 rfl (allAround_any _ a reach 0 hv hr0 hr1 _ ?_)
      exact ⟨rfl, rfl⟩
    (repeat' (first | exact trivial | exact fun h => h | refine And.intro ?_ ?_ | (intro hb; first | (simp at hb; done) | (simp at hb) | skip) | omega | exact rfl | exact Nat.le_refl _ | (show _ + 1 ≤ 4294967296; omega) | (dsimp only; omega) | (show wantB _ _ = true; simp; done) | (show wantB _ _ = true; simp; omega) | (show (_ : Bool) = _; simp_all; done) | (exfalso; omega) | refine aRegion_auto (by decide +kernel) ?_ | refine ⟨_, _, REnt.drop ⟨rfl, rfl⟩, ?_⟩ | fail))
    apply exEff
    · refine And.intro (fun _ => ?_) (fun h => by simp at h)
      refine And.intro (by simp) ?_
      refine acall_conv [.dat RasT, .keep, .keep, .keep] _ _ _ rfl trivial (acall_frame0 rfl (is_any _ (onQ meanL a reach) a.1 a.2.1 (allK a reach 0 a.2.2.length) (hl3 meanL) _ ?_))
      rw [hi3 meanL 0 (by decide) rfl]
      exact ⟨rfl, rfl⟩
    (repeat' (first | exact trivial | exact fun h => h | refine And.intro ?_ ?_ | (intro hb; first | (simp at hb; done) | (simp at hb) | skip) | omega | exact rfl | exact Nat.le_refl _ | (show _ + 1 ≤ 4294967296; omega) | (dsimp only; omega) | (show wantB _ _ = true; simp; done) | (show wantB _ _ = true; simp; omega) | (show (_ : Bool) = _; simp_all; done) | (exfalso; omega) | refine aRegion_auto (by decide +kernel) ?_ | refine ⟨_, _, REnt.drop ⟨rfl, rfl⟩, ?_⟩ | fail))
    apply exEff
    · refine And.intro (fun _ => ?_) (fun h => by simp at h)
      refine And.intro (by simp) ?_
      refine acall_frame0 rfl (allAround_any _ a reach 1 hv hr0 hr1 _ ?_)
      exact ⟨rfl, rfl⟩
    (repeat' (first | exact trivial | exact fun h => h | refine And.intro ?_ ?_ | (intro hb; first | (simp at hb; done) | (simp at hb) | skip) | omega | exact rfl | exact Nat.le_refl _ | (show _ + 1 ≤ 4294967296; omega) | (dsimp only; omega) | (show wantB _ _ = true; simp; done) | (show wantB _ _ = true; simp; omega) | (show (_ : Bool) = _; simp_all; done) | (exfalso; omega) | refine aRegion_auto (by decide +kernel) ?_ | refine ⟨_, _, REnt.drop ⟨rfl, rfl⟩, ?_⟩ | fail))
    apply exEff
    · refine And.intro (fun _ => ?_) (fun h => by simp at h)
      refine And.intro (by simp) ?_
      refine acall_conv [.dat RasT, .keep, .keep, .keep] _ _ _ rfl trivial (acall_frame0 rfl (is_any _ (onQ maxL a reach) a.1 a.2.1 (allK a reach 1 a.2.2.length) (hl3 maxL) _ ?_))
      rw [hi3 maxL 1 (by decide) rfl]
      exact ⟨rfl, rfl⟩
    (repeat' (first | exact trivial | exact fun h => h | refine And.intro ?_ ?_ | (intro hb; first | (simp at hb; done) | (simp at hb) | skip) | omega | exact rfl | exact Nat.le_refl _ | (show _ + 1 ≤ 4294967296; omega) | (dsimp only; omega) | (show wantB _ _ = true; simp; done) | (show wantB _ _ = true; simp; omega) | (show (_ : Bool) = _; simp_all; done) | (exfalso; omega) | refine aRegion_auto (by decide +kernel) ?_ | refine ⟨_, _, REnt.drop ⟨rfl, rfl⟩, ?_⟩ | fail))
    apply exEff
    · refine And.intro (fun _ => ?_) (fun h => by simp at h)
      refine And.intro (by simp) ?_
      refine acall_frame0 rfl (allAround_any _ a reach 2 hv hr0 hr1 _ ?_)
      exact ⟨rfl, rfl⟩
    (repeat' (first | exact trivial | exact fun h => h | refine And.intro ?_ ?_ | (intro hb; first | (simp at hb; done) | (simp at hb) | skip) | omega | exact rfl | exact Nat.le_refl _ | (show _ + 1 ≤ 4294967296; omega) | (dsimp only; omega) | (show wantB _ _ = true; simp; done) | (show wantB _ _ = true; simp; omega) | (show (_ : Bool) = _; simp_all; done) | (exfalso; omega) | refine aRegion_auto (by decide +kernel) ?_ | refine ⟨_, _, REnt.drop ⟨rfl, rfl⟩, ?_⟩ | fail))
    apply exEff
    · refine And.intro (fun _ => ?_) (fun h => by simp at h)
      refine And.intro (by simp) ?_
      refine acall_conv [.dat RasT, .keep, .keep, .keep] _ _ _ rfl trivial (acall_frame0 rfl (is_any _ (onQ minL a reach) a.1 a.2.1 (allK a reach 2 a.2.2.length) (hl3 minL) _ ?_))
      rw [hi3 minL 2 (by decide) rfl]
      exact ⟨rfl, rfl⟩
    (repeat' (first | exact trivial | exact fun h => h | refine And.intro ?_ ?_ | (intro hb; first | (simp at hb; done) | (simp at hb) | skip) | omega | exact rfl | exact Nat.le_refl _ | (show _ + 1 ≤ 4294967296; omega) | (dsimp only; omega) | (show wantB _ _ = true; simp; done) | (show wantB _ _ = true; simp; omega) | (show (_ : Bool) = _; simp_all; done) | (exfalso; omega) | refine aRegion_auto (by decide +kernel) ?_ | refine ⟨_, _, REnt.drop ⟨rfl, rfl⟩, ?_⟩ | fail))
    exact hK
theorem fieldAround_nil {E : Errs} (reach : Int) (K : AV → List AO → Prop) (hK : K (.fz .bool true) []) :
    ACall Tryd.prog (G8 E) 7 [.fz .raw (.pointer none), .fz int reach] [] K := by
  refine acall_mk (E := envAt (G8 E) 154 0) (envOk _ _ _) Tryd.func7 rfl rfl rfl rfl rfl ?_
  (repeat' (first | exact trivial | exact fun h => h | refine And.intro ?_ ?_ | (intro hb; first | (simp at hb; done) | (simp at hb) | skip) | omega | exact rfl | exact Nat.le_refl _ | (show _ + 1 ≤ 4294967296; omega) | (dsimp only; omega) | (show wantB _ _ = true; simp; done) | (show wantB _ _ = true; simp; omega) | (show (_ : Bool) = _; simp_all; done) | (exfalso; omega) | refine aRegion_auto (by decide +kernel) ?_ | refine ⟨_, _, REnt.drop ⟨rfl, rfl⟩, ?_⟩ | fail))
  refine acall_frame0 rfl (up8 (rasters_any E _ ?_))
  (repeat' (first | exact trivial | exact fun h => h | refine And.intro ?_ ?_ | (intro hb; first | (simp at hb; done) | (simp at hb) | skip) | omega | exact rfl | exact Nat.le_refl _ | (show _ + 1 ≤ 4294967296; omega) | (dsimp only; omega) | (show wantB _ _ = true; simp; done) | (show wantB _ _ = true; simp; omega) | (show (_ : Bool) = _; simp_all; done) | (exfalso; omega) | refine aRegion_auto (by decide +kernel) ?_ | refine ⟨_, _, REnt.drop ⟨rfl, rfl⟩, ?_⟩ | fail))
  refine acall_frame0 rfl (small_nil _ _ ?_)
  (repeat' (first | exact trivial | exact fun h => h | refine And.intro ?_ ?_ | (intro hb; first | (simp at hb; done) | (simp at hb) | skip) | omega | exact rfl | exact Nat.le_refl _ | (show _ + 1 ≤ 4294967296; omega) | (dsimp only; omega) | (show wantB _ _ = true; simp; done) | (show wantB _ _ = true; simp; omega) | (show (_ : Bool) = _; simp_all; done) | (exfalso; omega) | refine aRegion_auto (by decide +kernel) ?_ | refine ⟨_, _, REnt.drop ⟨rfl, rfl⟩, ?_⟩ | fail))
  exact hK
end Go.Proofs.YtidhgdipnfhoeaaDoor
/-
  Coarser rasters: the walk.
-/
namespace Go.Proofs.YtidhgdipnfhoeaaDoor
open Go Go.Ab
set_option maxRecDepth 100000
theorem cong2 {α β γ : Type} (f : α → β → γ) {a a' : α} {b b' : β} (h1 : a = a') (h2 : b = b') : f a b = f a' b' := by subst h1; subst h2; rfl
/-- how many blocks -/
def cd (n b : Nat) : Nat := (n + b - 1) / b
theorem cd_int {n b : Nat} (h : 1 ≤ n) : Int.tdiv ((n : Int) + b - 1) b = ((cd n b : Nat) : Int) := by
  unfold cd
  rw [show (n : Int) + b - 1 = ((n + b - 1 : Nat) : Int) by omega]
  exact (Int.ofNat_tdiv _ _).symm
theorem cd_lt {n b r : Nat} (h : 1 ≤ b) (hr : r < cd n b) : r * b < n := by
  unfold cd at hr
  have h1 : (r + 1) * b ≤ n + b - 1 := (Nat.le_div_iff_mul_le (by omega)).1 hr
  rw [Nat.succ_mul] at h1; omega
theorem cd_le {n b : Nat} (h : 1 ≤ b) (hn : 1 ≤ n) : cd n b ≤ n ∧ n ≤ cd n b * b ∧ 1 ≤ cd n b := by
  unfold cd
  have e := Nat.div_add_mod (n + b - 1) b
  have hm := Nat.mod_lt (n + b - 1) (show b > 0 by omega)
  refine ⟨?_, ?_, ?_⟩
  · rw [Nat.div_le_iff_le_mul_add_pred (by omega)]
    have : n * 1 ≤ b * n := by rw [Nat.mul_comm b]; exact Nat.mul_le_mul_left n h
    omega
  · rw [Nat.mul_comm]; omega
  · rw [Nat.le_div_iff_mul_le (by omega)]; omega
/-- how wide a block is -/
def bw (n b c : Nat) : Nat := min n ((c + 1) * b) - c * b
def brow (W b : Nat) (l : List Int) (c y : Nat) : List Int := slc l (y * W + c * b) (bw W b c)
def bl (W b : Nat) (l : List Int) (c s : Nat) : Nat → List Int
  | 0 => []
  | k + 1 => bl W b l c s k ++ brow W b l c (s + k)
/-- a block -/
def blk (W H b : Nat) (l : List Int) (r c : Nat) : List Int := bl W b l c (r * b) (bw H b r)
def crow (W H b : Nat) (l : List Int) (r : Nat) : Nat → List Int
  | 0 => []
  | c + 1 => crow W H b l r c ++ [meanL (blk W H b l r c)]
def call (W H b : Nat) (l : List Int) : Nat → List Int
  | 0 => []
  | r + 1 => call W H b l r ++ crow W H b l r (cd W b)
def coarseR (W H b : Nat) (l : List Int) : Ras := (((cd W b : Nat) : Int), ((cd H b : Nat) : Int), call W H b l (cd H b))
theorem slc_len (l : List Int) (s n : Nat) : (slc l s n).length = n := by simp [slc]
theorem slc_mem {l : List Int} {s n : Nat} {x : Int} (h : s + n ≤ l.length) (hx : x ∈ slc l s n) : x ∈ l := by
  rw [← slc_eq h] at hx
  exact List.mem_of_mem_drop (List.mem_of_mem_take hx)
theorem bl_len (W b : Nat) (l : List Int) (c s : Nat) : ∀ k, (bl W b l c s k).length = k * bw W b c
  | 0 => by simp [bl]
  | k + 1 => by unfold bl; rw [List.length_append, bl_len W b l c s k, Nat.succ_mul]; unfold brow; rw [slc_len]
theorem crow_len (W H b : Nat) (l : List Int) (r : Nat) : ∀ c, (crow W H b l r c).length = c
  | 0 => rfl
  | c + 1 => by unfold crow; rw [List.length_append, crow_len W H b l r c]; rfl
theorem call_len (W H b : Nat) (l : List Int) : ∀ r, (call W H b l r).length = r * cd W b
  | 0 => by simp [call]
  | r + 1 => by unfold call; rw [List.length_append, call_len W H b l r, crow_len, Nat.succ_mul]
theorem bw_facts {n b c : Nat} (hb : 1 ≤ b) (hc : c < cd n b) : 1 ≤ bw n b c ∧ bw n b c ≤ b ∧ c * b + bw n b c ≤ n ∧ (c + 1) * b = c * b + b ∧ (min (n : Int) (((c : Int) + 1) * b)) = ((c * b + bw n b c : Nat) : Int) := by
  have h := cd_lt hb hc
  have e := Nat.succ_mul c b
  unfold bw
  have e2 : ((c : Int) + 1) * b = (((c + 1) * b : Nat) : Int) := by simp
  rw [e2]
  simp only [Nat.succ_eq_add_one] at e
  omega
theorem row_in {W H y : Nat} {l : List Int} (hl : l.length = W * H) (hy : y < H) {s n : Nat} (h : s + n ≤ W) : y * W + s + n ≤ l.length := by
  rw [hl]
  have : (y + 1) * W ≤ H * W := Nat.mul_le_mul_right W hy
  rw [Nat.succ_mul, Nat.mul_comm H W] at this; omega
theorem bl_ok {W H b : Nat} {l : List Int} {c s : Nat} (hl : l.length = W * H) (hb : 1 ≤ b) (hc : c < cd W b) (hx : ∀ x ∈ l, bigB x = false) : ∀ k, s + k ≤ H → ∀ x ∈ bl W b l c s k, bigB x = false
  | 0, _, x, h => by cases h
  | k + 1, hk, x, h => by
    unfold bl at h
    rcases List.mem_append.1 h with h | h
    · exact bl_ok hl hb hc hx k (by omega) x h
    · have h1 := bw_facts hb hc
      have h2 := row_in hl (show s + k < H by omega) (s := c * b) (n := bw W b c) h1.2.2.1
      exact hx x (slc_mem (by omega) h)
set_option maxHeartbeats 4000000 in
theorem coarse_ok (E : Errs) (W H b : Nat) (l : List Int) (hv : rerr ((W : Int), (H : Int), l) = 0) (hb1 : 1 ≤ b) (hb2 : b ≤ 128) (K : AV → List AO → Prop) (hK : K (RE (coarseR W H b l) .nilIface) []) :
    ACall Tryd.prog (G8 E) 20 [.fz RasT ((W : Int), (H : Int), l), .fz int b] [] K := by
  obtain ⟨⟨hW1, hH1, hW2, hH2, hlen⟩, hbig⟩ := rerr_ok hv
  have hW1 : 1 ≤ W := by have : (1 : Int) ≤ (W : Int) := hW1; omega
  have hH1 : 1 ≤ H := by have : (1 : Int) ≤ (H : Int) := hH1; omega
  have hW2 : W ≤ 128 := by have : (W : Int) ≤ 128 := hW2; omega
  have hH2 : H ≤ 128 := by have : (H : Int) ≤ 128 := hH2; omega
  have hll : l.length = W * H := by have : (l.length : Int) = (W : Int) * H := hlen; rw [← Int.natCast_mul] at this; omega
  have hm : W * H ≤ 128 * 128 := Nat.mul_le_mul hW2 hH2
  have hbig : ∀ x ∈ l, bigB x = false := hbig
  obtain ⟨cW1, cW2, cW3⟩ := cd_le (n := W) hb1 hW1
  obtain ⟨cH1, cH2, cH3⟩ := cd_le (n := H) hb1 hH1
  refine acall_mk (E := envAt (G8 E) 100 0) (envOk _ _ _) Tryd.func20 rfl rfl rfl rfl rfl ?_
  (repeat' (first | exact trivial | exact fun h => h | refine And.intro ?_ ?_ | (intro hb; first | (simp at hb; done) | (simp at hb) | skip) | omega | exact rfl | exact Nat.le_refl _ | (show _ + 1 ≤ 4294967296; omega) | (dsimp only; omega) | (show wantB _ _ = true; simp; done) | (show wantB _ _ = true; simp; omega) | (show (_ : Bool) = _; simp_all; done) | (exfalso; omega) | refine aRegion_auto (by decide +kernel) ?_ | refine ⟨_, _, REnt.drop ⟨rfl, rfl⟩, ?_⟩ | fail))
  refine acall_conv [.dat RasT] _ _ _ rfl trivial (acall_frame0 rfl (valid_one E ((W : Int), (H : Int), l) (by show l.length ≤ _; omega) _ ?_))
  rw [hv]
  (repeat' (first | exact trivial | exact fun h => h | refine And.intro ?_ ?_ | (intro hb; first | (simp at hb; done) | (simp at hb) | skip) | omega | exact rfl | exact Nat.le_refl _ | (show _ + 1 ≤ 4294967296; omega) | (dsimp only; omega) | (show wantB _ _ = true; simp; done) | (show wantB _ _ = true; simp; omega) | (show (_ : Bool) = _; simp_all; done) | (exfalso; omega) | refine aRegion_auto (by decide +kernel) ?_ | refine ⟨_, _, REnt.drop ⟨rfl, rfl⟩, ?_⟩ | fail))
  · show -9223372036854775808 ≤ Int.tdiv ((W : Int) + b - 1) b
    rw [cd_int hW1]; omega
  · show Int.tdiv ((W : Int) + b - 1) b ≤ 9223372036854775807
    rw [cd_int hW1]; omega
  · show -9223372036854775808 ≤ Int.tdiv ((H : Int) + b - 1) b
    rw [cd_int hH1]; omega
  · show Int.tdiv ((H : Int) + b - 1) b ≤ 9223372036854775807
    rw [cd_int hH1]; omega
  (apply exEff; focus (repeat' (first | exact ⟨rfl, rfl⟩ | exact trivial | refine And.intro ?_ ?_ | omega | exact Nat.le_refl _ | (show _ + 1 ≤ 4294967296; omega))))
  (apply exEff; focus (repeat' (first | exact ⟨rfl, rfl⟩ | exact trivial | refine And.intro ?_ ?_ | omega | exact Nat.le_refl _ | (show _ + 1 ≤ 4294967296; omega))))
  (repeat' (first | exact trivial | exact fun h => h | refine And.intro ?_ ?_ | (intro hb; first | (simp at hb; done) | (simp at hb) | skip) | omega | exact rfl | exact Nat.le_refl _ | (show _ + 1 ≤ 4294967296; omega) | (dsimp only; omega) | (show wantB _ _ = true; simp; done) | (show wantB _ _ = true; simp; omega) | (show (_ : Bool) = _; simp_all; done) | (exfalso; omega) | refine aRegion_auto (by decide +kernel) ?_ | refine ⟨_, _, REnt.drop ⟨rfl, rfl⟩, ?_⟩ | fail))
  refine ⟨Nat, fun r => ⟨[(1, .fz int b), (2, .ptr 0 0), (4, .ptr 1 0), (7, .ptr 2 0), (42, .fz int (cd H b : Nat)), (43, .fz int r)], [.box [.fz int W, .fz int H, .fz (.list int) l], .box [.fz int 0, .fz int 0, .nilSl], .box [.fz int (cd W b : Nat), .fz int (cd H b : Nat), .ref 3 0 (call W H b l r).length], .row int (call W H b l r)]⟩, fun r => r ≤ cd H b, fun r => cd H b - r, 0, Nat.zero_le _, (Ent.nilBox 2 2 int rfl rfl).trans (Ent.sub ?_ ?_), ?_⟩
  · exact cong2 (fun x y => [AO.box [.fz int W, .fz int H, .fz (.list int) l], .box [.fz int 0, .fz int 0, .nilSl], .box [.fz int x, .fz int y, .ref 3 0 0], .row int []]) (cd_int hW1) (cd_int hH1)
  · (repeat' (first | exact trivial | exact rfl | refine And.intro ?_ ?_))
    exact congrArg (AV.fz int) (cd_int hH1)
  intro r hr
  have lr := call_len W H b l r
  have lr2 : r * cd W b ≤ 128 * 128 := Nat.mul_le_mul (by omega) (by omega)
  (repeat' (first | exact trivial | exact fun h => h | refine And.intro ?_ ?_ | (intro hb; first | (simp at hb; done) | (simp at hb) | skip) | omega | exact rfl | exact Nat.le_refl _ | (show _ + 1 ≤ 4294967296; omega) | (dsimp only; omega) | (show wantB _ _ = true; simp; done) | (show wantB _ _ = true; simp; omega) | (show (_ : Bool) = _; simp_all; done) | (exfalso; omega) | refine aRegion_auto (by decide +kernel) ?_ | refine ⟨_, _, REnt.drop ⟨rfl, rfl⟩, ?_⟩ | fail))
  · refine ⟨Nat, fun c => ⟨[(1, .fz int b), (2, .ptr 0 0), (4, .ptr 1 0), (7, .ptr 2 0), (42, .fz int (cd H b : Nat)), (43, .fz int r), (8, .fz int r), (47, .fz int (cd W b : Nat)), (48, .fz int c)], [.box [.fz int W, .fz int H, .fz (.list int) l], .box [.fz int 0, .fz int 0, .nilSl], .box [.fz int (cd W b : Nat), .fz int (cd H b : Nat), .ref 3 0 (call W H b l r ++ crow W H b l r c).length], .row int (call W H b l r ++ crow W H b l r c)]⟩, fun c => c ≤ cd W b, fun c => cd W b - c, 0, Nat.zero_le _, Ent.sub (by simp [crow]) ?_, ?_⟩
    · (repeat' (first | exact trivial | exact rfl | refine And.intro ?_ ?_))
    intro c hc
    have hcb : c * b ≤ 128 * 128 := Nat.mul_le_mul (by omega) hb2
    have hrb : r * b ≤ 128 * 128 := Nat.mul_le_mul (by omega) hb2
    (repeat' (first | exact trivial | exact fun h => h | refine And.intro ?_ ?_ | (intro hb; first | (simp at hb; done) | (simp at hb) | skip) | omega | exact rfl | exact Nat.le_refl _ | (show _ + 1 ≤ 4294967296; omega) | (dsimp only; omega) | (show wantB _ _ = true; simp; done) | (show wantB _ _ = true; simp; omega) | (show (_ : Bool) = _; simp_all; done) | (exfalso; omega) | refine aRegion_auto (by decide +kernel) ?_ | refine ⟨_, _, REnt.drop ⟨rfl, rfl⟩, ?_⟩ | fail))
    · have hr' : r < cd H b := by omega
      have hc' : c < cd W b := by omega
      obtain ⟨rf1, rf2, rf3, rf4, rf5⟩ := bw_facts hb1 hr'
      obtain ⟨cf1, cf2, cf3, cf4, cf5⟩ := bw_facts hb1 hc'
      refine ⟨Nat, fun k => ⟨[(1, .fz int b), (2, .ptr 0 0), (4, .ptr 1 0), (7, .ptr 2 0), (42, .fz int (cd H b : Nat)), (43, .fz int r), (8, .fz int r), (47, .fz int (cd W b : Nat)), (48, .fz int c), (9, .fz int c), (10, .ref 4 0 (bl W b l c (r * b) k).length), (11, .fz int ((r : Int) * b + k))], [.box [.fz int W, .fz int H, .fz (.list int) l], .box [.fz int 0, .fz int 0, .nilSl], .box [.fz int (cd W b : Nat), .fz int (cd H b : Nat), .ref 3 0 (call W H b l r ++ crow W H b l r c).length], .row int (call W H b l r ++ crow W H b l r c), .row int (bl W b l c (r * b) k)]⟩, fun k => k ≤ bw H b r, fun k => bw H b r - k, 0, Nat.zero_le _, (Ent.nil 10 int rfl).trans (Ent.sub rfl ?_), ?_⟩
      · (repeat' (first | exact trivial | exact rfl | refine And.intro ?_ ?_))
        try exact congrArg (AV.fz int) (show (r : Int) * b = (r : Int) * b + ((0 : Nat) : Int) by omega)
      intro k hk
      have lb := bl_len W b l c (r * b) k
      have lb2 : k * bw W b c ≤ 128 * 128 := Nat.mul_le_mul (by omega) (by omega)
      have hy : k < bw H b r → (r * b + k) * W + c * b + bw W b c ≤ l.length := fun h => row_in hll (by omega) cf3
      have ey : ((r : Int) * b + k) * W = (((r * b + k) * W : Nat) : Int) := by simp
      have hw2 : (r * b + k) * W ≤ 256 * 128 := Nat.mul_le_mul (by omega) hW2
      have rf6 : ((r : Int) + 1) * b = (r : Int) * b + b := by rw [Int.add_mul, Int.one_mul]
      have cf6 : ((c : Int) + 1) * b = (c : Int) * b + b := by rw [Int.add_mul, Int.one_mul]
      have sg : k < bw H b r → List.take ((((r : Int) * b + k) * W + min (W : Int) (((c : Int) + 1) * b)).toNat - (((r : Int) * b + k) * W + (c : Int) * b).toNat) (List.drop (((r : Int) * b + k) * W + (c : Int) * b).toNat l) = brow W b l c (r * b + k) := fun h => by
        have e1 : (((r : Int) * b + k) * W + (c : Int) * b).toNat = (r * b + k) * W + c * b := by rw [ey]; omega
        have e2 : (((r : Int) * b + k) * W + min (W : Int) (((c : Int) + 1) * b)).toNat = (r * b + k) * W + (c * b + bw W b c) := by rw [ey, cf5]; omega
        rw [e1, e2, show (r * b + k) * W + (c * b + bw W b c) - ((r * b + k) * W + c * b) = bw W b c by omega]
        exact slc_eq (by have := hy h; omega)
      have lbr : (brow W b l c (r * b + k)).length = bw W b c := slc_len ..
      (repeat' (first | exact trivial | exact fun h => h | refine And.intro ?_ ?_ | (intro hb; first | (simp at hb; done) | (simp at hb) | skip) | omega | exact rfl | exact Nat.le_refl _ | (show _ + 1 ≤ 4294967296; omega) | (dsimp only; omega) | (show wantB _ _ = true; simp; done) | (show wantB _ _ = true; simp; omega) | (show (_ : Bool) = _; simp_all; done) | (exfalso; omega) | refine aRegion_auto (by decide +kernel) ?_ | refine ⟨_, _, REnt.drop ⟨rfl, rfl⟩, ?_⟩ | fail))
      · show (bl W b l c (r * b) k).length + (List.take _ (List.drop _ l)).length ≤ 4294967296
        rw [sg (by omega)]; omega
      · refine ⟨k + 1, by show _ ≤ _; omega, by show _ - _ < _ - _; omega, Ent.ren [0, 1, 2, 3, 5] rfl ?_ ?_⟩
        · (repeat' (first | exact trivial | exact rfl | refine And.intro ?_ ?_))
          refine congrArg (fun l => some (AO.row int l)) (show List.take (bl W b l c (r * b) k).length (bl W b l c (r * b) k) ++ List.take _ (List.drop _ l) = bl W b l c (r * b) (k + 1) from ?_)
          rw [List.take_length, sg (by omega)]; rfl
        · (repeat' (first | exact trivial | exact rfl | refine And.intro ?_ ?_))
          · refine congrArg (AV.ref 5 0) (show (bl W b l c (r * b) k).length + (List.take _ (List.drop _ l)).length = (bl W b l c (r * b) (k + 1)).length from ?_)
            rw [sg (by omega)]; exact (List.length_append).symm
          try exact congrArg (AV.fz int) (show (r : Int) * b + (k : Int) + 1 = (r : Int) * b + ((k + 1 : Nat) : Int) by omega)
      have hk2 : k = bw H b r := by omega
      subst hk2
      have ebl : bl W b l c (r * b) (bw H b r) = blk W H b l r c := rfl
      have hpos : 0 < (blk W H b l r c).length := by rw [← ebl, lb]; exact Nat.mul_pos (by omega) (by omega)
      apply exEff
      · refine acall_lend [.dat (.list int)] _ _ _ rfl ?_ rfl ?_
        · (repeat' (first | exact trivial | refine And.intro ?_ ?_ | (show _ ≤ _; omega) | (show _ ≤ _; simp; done)))
        refine acall_arg (mean_any _ (blk W H b l r c) (List.length_pos_iff.1 hpos) (by rw [← ebl]; omega) (bl_ok hll hb1 hc' hbig _ (by omega)) _ ?_) (congrArg (fun l => [AV.fz (.list int) l]) (List.take_length (l := bl W b l c (r * b) (bw H b r))).symm)
        exact ⟨rfl, rfl, rfl⟩
      have hal : (call W H b l r ++ crow W H b l r c).length ≤ 17000 := by
        rw [List.length_append, crow_len]; omega
      (repeat' (first | exact trivial | exact fun h => h | refine And.intro ?_ ?_ | (intro hb; first | (simp at hb; done) | (simp at hb) | skip) | omega | exact rfl | exact Nat.le_refl _ | (show _ + 1 ≤ 4294967296; omega) | (dsimp only; omega) | (show wantB _ _ = true; simp; done) | (show wantB _ _ = true; simp; omega) | (show (_ : Bool) = _; simp_all; done) | (exfalso; omega) | refine aRegion_auto (by decide +kernel) ?_ | fail))
      (apply exEff; focus (repeat' (first | exact ⟨rfl, rfl⟩ | exact trivial | refine And.intro ?_ ?_ | omega | exact Nat.le_refl _ | (show _ + 1 ≤ 4294967296; omega))))
      (apply exEff; focus (repeat' (first | exact ⟨rfl, rfl⟩ | exact trivial | refine And.intro ?_ ?_ | omega | exact Nat.le_refl _ | (show _ + 1 ≤ 4294967296; omega))))
      (apply exEff; focus (repeat' (first | exact ⟨rfl, rfl⟩ | exact trivial | refine And.intro ?_ ?_ | omega | exact Nat.le_refl _ | (show _ + 1 ≤ 4294967296; omega))))
      (repeat' (first | exact trivial | exact fun h => h | refine And.intro ?_ ?_ | (intro hb; first | (simp at hb; done) | (simp at hb) | skip) | omega | exact rfl | exact Nat.le_refl _ | (show _ + 1 ≤ 4294967296; omega) | (dsimp only; omega) | (show wantB _ _ = true; simp; done) | (show wantB _ _ = true; simp; omega) | (show (_ : Bool) = _; simp_all; done) | (exfalso; omega) | refine aRegion_auto (by decide +kernel) ?_ | fail))
      refine ⟨c + 1, by show _ ≤ _; omega, by show _ - _ < _ - _; omega, Ent.ren [0, 1, 2, 6] rfl ?_ ?_⟩
      · (repeat' (first | exact trivial | exact rfl | refine And.intro ?_ ?_))
        · exact congrArg (fun n => some (AO.box [.fz int (cd W b : Nat), .fz int (cd H b : Nat), .ref 6 0 n])) (show (call W H b l r ++ crow W H b l r c).length + 1 = (call W H b l r ++ (crow W H b l r c ++ [meanL (blk W H b l r c)])).length by rw [← List.append_assoc, List.length_append (bs := [_])]; rfl)
        · exact congrArg (fun l => some (AO.row int l)) (show List.take (call W H b l r ++ crow W H b l r c).length (call W H b l r ++ crow W H b l r c) ++ [meanL (blk W H b l r c)] = call W H b l r ++ (crow W H b l r c ++ [meanL (blk W H b l r c)]) by rw [List.take_length, List.append_assoc])
      · (repeat' (first | exact trivial | exact rfl | refine And.intro ?_ ?_))
    · have hc2 : c = cd W b := by omega
      subst hc2
      refine ⟨r + 1, by show _ ≤ _; omega, by show _ - _ < _ - _; omega, Ent.sub rfl ?_⟩
      (repeat' (first | exact trivial | exact rfl | refine And.intro ?_ ?_))
  · have hr2 : r = cd H b := by omega
    subst hr2
    refine ⟨_, _, (REnt.conv [.dat RasT, .keep] _ rfl ?_).trans (REnt.drop ⟨rfl, rfl⟩), ?_⟩
    · (repeat' (first | exact trivial | refine And.intro ?_ ?_ | (show _ ≤ _; omega) | (show _ ≤ _; simp; done)))
    exact (congrArg (fun l => K (.tup [.fz RasT (((cd W b : Nat) : Int), ((cd H b : Nat) : Int), l), .fz .raw .nilIface]) []) List.take_length).mpr hK
end Go.Proofs.YtidhgdipnfhoeaaDoor
/-
  Coarser and finer rasters, each answer in one piece.
-/
namespace Go.Proofs.YtidhgdipnfhoeaaDoor
open Go Go.Ab
set_option maxRecDepth 100000
def cerr (a : Ras) (by_ : Int) : Nat := if 0 < rerr a then rerr a else if by_ < 1 ∨ 128 < by_ then 3 else 0
theorem cerr_le {a : Ras} {by_ : Int} : (cerr a by_ = 0 ∨ 2 ≤ cerr a by_) ∧ cerr a by_ ≤ 4 := by
  have h1 := rerr_in a
  unfold cerr
  split
  · have := rerr_ge (a := a) (by assumption); omega
  split <;> omega
theorem cerr_zero {a : Ras} {by_ : Int} : cerr a by_ = 0 ↔ rerr a = 0 ∧ 1 ≤ by_ ∧ by_ ≤ 128 := by
  unfold cerr
  split
  · omega
  split <;> omega
/-- a right raster's sides as they are -/
theorem ras_nat {a : Ras} (h : rerr a = 0) : a = (((a.1.toNat : Nat) : Int), ((a.2.1.toNat : Nat) : Int), a.2.2) := by
  obtain ⟨⟨h1, h2, _⟩, _⟩ := rerr_ok h
  obtain ⟨w, v, l⟩ := a
  simp only at h1 h2
  show (w, v, l) = (((w.toNat : Nat) : Int), ((v.toNat : Nat) : Int), l)
  rw [Int.toNat_of_nonneg (by omega), Int.toNat_of_nonneg (by omega)]
def coarseQ (a : Ras) (by_ : Int) : Ras := if cerr a by_ = 0 then coarseR a.1.toNat a.2.1.toNat by_.toNat a.2.2 else (0, 0, [])
theorem coarse_one (E : Errs) (a : Ras) (by_ : Int) (hl : a.2.2.length ≤ 1000000000000) (K : AV → List AO → Prop) (hK : K (RE (coarseQ a by_) (er E (cerr a by_))) []) :
    ACall Tryd.prog (G8 E) 20 [.fz RasT a, .fz int by_] [] K := by
  by_cases hv : rerr a = 0
  · by_cases hb : 1 ≤ by_ ∧ by_ ≤ 128
    · have hc := cerr_zero.2 ⟨hv, hb⟩
      unfold coarseQ at hK
      rw [if_pos hc, hc] at hK
      have e := ras_nat hv
      refine acall_arg (coarse_ok E a.1.toNat a.2.1.toNat by_.toNat a.2.2 (by rw [← e]; exact hv) (by omega) (by omega) K hK) ?_
      rw [← e, Int.toNat_of_nonneg (by omega)]
    · have hc : cerr a by_ = 3 := by unfold cerr; rw [if_neg (by omega), if_pos (by omega)]
      unfold coarseQ at hK
      rw [if_neg (by omega), hc] at hK
      refine acall_mk (E := envAt (G8 E) 100 0) (envOk _ _ _) Tryd.func20 rfl rfl rfl rfl rfl ?_
      (repeat' (first | exact trivial | exact fun h => h | refine And.intro ?_ ?_ | (intro hb; first | (simp at hb; done) | (simp at hb) | skip) | omega | exact rfl | exact Nat.le_refl _ | (show _ + 1 ≤ 4294967296; omega) | (dsimp only; omega) | (show wantB _ _ = true; simp; done) | (show wantB _ _ = true; simp; omega) | (show (_ : Bool) = _; simp_all; done) | (exfalso; omega) | refine aRegion_auto (by decide +kernel) ?_ | refine ⟨_, _, REnt.drop ⟨rfl, rfl⟩, ?_⟩ | fail))
      refine acall_conv [.dat RasT] _ _ _ rfl trivial (acall_frame0 rfl (valid_one E a hl _ ?_))
      rw [hv]
      (repeat' (first | exact trivial | exact fun h => h | refine And.intro ?_ ?_ | (intro hb; first | (simp at hb; done) | (simp at hb) | skip) | omega | exact rfl | exact Nat.le_refl _ | (show _ + 1 ≤ 4294967296; omega) | (dsimp only; omega) | (show wantB _ _ = true; simp; done) | (show wantB _ _ = true; simp; omega) | (show (_ : Bool) = _; simp_all; done) | (exfalso; omega) | refine aRegion_auto (by decide +kernel) ?_ | fail))
      (apply exEff; focus (repeat' (first | exact ⟨rfl, rfl⟩ | exact trivial | refine And.intro ?_ ?_ | omega | exact Nat.le_refl _ | (show _ + 1 ≤ 4294967296; omega))))
      (repeat' (first | exact trivial | exact fun h => h | refine And.intro ?_ ?_ | (intro hb; first | (simp at hb; done) | (simp at hb) | skip) | omega | exact rfl | exact Nat.le_refl _ | (show _ + 1 ≤ 4294967296; omega) | (dsimp only; omega) | (show wantB _ _ = true; simp; done) | (show wantB _ _ = true; simp; omega) | (show (_ : Bool) = _; simp_all; done) | (exfalso; omega) | refine aRegion_auto (by decide +kernel) ?_ | fail))
      refine ⟨_, _, (REnt.conv [.dat RasT, .keep] _ rfl trivial).trans (REnt.drop ⟨rfl, rfl⟩), ?_⟩
      exact hK
  · have hc : cerr a by_ = rerr a := by unfold cerr; rw [if_pos (by omega)]
    unfold coarseQ at hK
    rw [if_neg (by omega), hc, er_ea E (by omega)] at hK
    refine acall_mk (E := envAt (G8 E) 100 0) (envOk _ _ _) Tryd.func20 rfl rfl rfl rfl rfl ?_
    (repeat' (first | exact trivial | exact fun h => h | refine And.intro ?_ ?_ | (intro hb; first | (simp at hb; done) | (simp at hb) | skip) | omega | exact rfl | exact Nat.le_refl _ | (show _ + 1 ≤ 4294967296; omega) | (dsimp only; omega) | (show wantB _ _ = true; simp; done) | (show wantB _ _ = true; simp; omega) | (show (_ : Bool) = _; simp_all; done) | (exfalso; omega) | refine aRegion_auto (by decide +kernel) ?_ | refine ⟨_, _, REnt.drop ⟨rfl, rfl⟩, ?_⟩ | fail))
    refine acall_conv [.dat RasT] _ _ _ rfl trivial (acall_frame0 rfl (valid_one E a hl _ ?_))
    rw [er_ea E (by omega)]
    (repeat' (first | exact trivial | exact fun h => h | refine And.intro ?_ ?_ | (intro hb; first | (simp at hb; done) | (simp at hb) | skip) | omega | exact rfl | exact Nat.le_refl _ | (show _ + 1 ≤ 4294967296; omega) | (dsimp only; omega) | (show wantB _ _ = true; simp; done) | (show wantB _ _ = true; simp; omega) | (show (_ : Bool) = _; simp_all; done) | (exfalso; omega) | refine aRegion_auto (by decide +kernel) ?_ | fail))
    refine ⟨_, _, (REnt.conv [.dat RasT, .keep] _ rfl trivial).trans (REnt.drop ⟨rfl, rfl⟩), ?_⟩
    exact hK
/-! ### finer -/
def fv (W b : Nat) (l : List Int) (r c : Nat) : Int := l.getD (r / b * W + c / b) 0
def frow (W b : Nat) (l : List Int) (r : Nat) : Nat → List Int
  | 0 => []
  | c + 1 => frow W b l r c ++ [fv W b l r c]
def fall (W b : Nat) (l : List Int) : Nat → List Int
  | 0 => []
  | r + 1 => fall W b l r ++ frow W b l r (W * b)
def fineR (W H b : Nat) (l : List Int) : Ras := (((W * b : Nat) : Int), ((H * b : Nat) : Int), fall W b l (H * b))
theorem frow_len (W b : Nat) (l : List Int) (r : Nat) : ∀ c, (frow W b l r c).length = c
  | 0 => rfl
  | c + 1 => by unfold frow; rw [List.length_append, frow_len W b l r c]; rfl
theorem fall_len (W b : Nat) (l : List Int) : ∀ r, (fall W b l r).length = r * (W * b)
  | 0 => by simp [fall]
  | r + 1 => by unfold fall; rw [List.length_append, fall_len W b l r, frow_len, Nat.succ_mul]
def ferr (a : Ras) (by_ : Int) : Nat := if 0 < cerr a by_ then cerr a by_ else if 128 < a.1 * by_ ∨ 128 < a.2.1 * by_ then 2 else 0
theorem ferr_le {a : Ras} {by_ : Int} : (ferr a by_ = 0 ∨ 2 ≤ ferr a by_) ∧ ferr a by_ ≤ 4 := by
  have h1 := cerr_le (a := a) (by_ := by_)
  unfold ferr
  split
  · omega
  split <;> omega
set_option maxHeartbeats 4000000 in
theorem fine_ok (E : Errs) (W H b : Nat) (l : List Int) (hv : rerr ((W : Int), (H : Int), l) = 0) (hb1 : 1 ≤ b) (hb2 : b ≤ 128) (hWb : W * b ≤ 128) (hHb : H * b ≤ 128) (K : AV → List AO → Prop) (hK : K (RE (fineR W H b l) .nilIface) []) :
    ACall Tryd.prog (G8 E) 21 [.fz RasT ((W : Int), (H : Int), l), .fz int b] [] K := by
  obtain ⟨⟨hW1, hH1, hW2, hH2, hlen⟩, hbig⟩ := rerr_ok hv
  have hW1 : 1 ≤ W := by have : (1 : Int) ≤ (W : Int) := hW1; omega
  have hH1 : 1 ≤ H := by have : (1 : Int) ≤ (H : Int) := hH1; omega
  have hW2 : W ≤ 128 := by have : (W : Int) ≤ 128 := hW2; omega
  have hH2 : H ≤ 128 := by have : (H : Int) ≤ 128 := hH2; omega
  have hll : l.length = W * H := by have : (l.length : Int) = (W : Int) * H := hlen; rw [← Int.natCast_mul] at this; omega
  have hm : W * H ≤ 128 * 128 := Nat.mul_le_mul hW2 hH2
  have hbig : ∀ x ∈ l, bigB x = false := hbig
  have f1 : -9223372036854775808 ≤ ((W : Int), (H : Int), l).1 * (b : Int) := by show _ ≤ (W : Int) * b; omega
  have f2 : ((W : Int), (H : Int), l).1 * (b : Int) ≤ 128 := by show (W : Int) * b ≤ _; omega
  have f3 : -9223372036854775808 ≤ ((W : Int), (H : Int), l).2.1 * (b : Int) := by show _ ≤ (H : Int) * b; omega
  have f4 : ((W : Int), (H : Int), l).2.1 * (b : Int) ≤ 128 := by show (H : Int) * b ≤ _; omega
  refine acall_mk (E := envAt (G8 E) 75 0) (envOk _ _ _) Tryd.func21 rfl rfl rfl rfl rfl ?_
  (repeat' (first | exact trivial | exact fun h => h | refine And.intro ?_ ?_ | (intro hb; first | (simp at hb; done) | (simp at hb) | skip) | omega | exact rfl | exact Nat.le_refl _ | (show _ + 1 ≤ 4294967296; omega) | (dsimp only; omega) | (show wantB _ _ = true; simp; done) | (show wantB _ _ = true; simp; omega) | (show (_ : Bool) = _; simp_all; done) | (exfalso; omega) | refine aRegion_auto (by decide +kernel) ?_ | refine ⟨_, _, REnt.drop ⟨rfl, rfl⟩, ?_⟩ | fail))
  refine acall_conv [.dat RasT] _ _ _ rfl trivial (acall_frame0 rfl (valid_one E ((W : Int), (H : Int), l) (by show l.length ≤ _; omega) _ ?_))
  rw [hv]
  (repeat' (first | exact trivial | exact fun h => h | refine And.intro ?_ ?_ | (intro hb; first | (simp at hb; done) | (simp at hb) | skip) | omega | exact rfl | exact Nat.le_refl _ | (show _ + 1 ≤ 4294967296; omega) | (dsimp only; omega) | (show wantB _ _ = true; simp; done) | (show wantB _ _ = true; simp; omega) | (show (_ : Bool) = _; simp_all; done) | (exfalso; omega) | refine aRegion_auto (by decide +kernel) ?_ | refine ⟨_, _, REnt.drop ⟨rfl, rfl⟩, ?_⟩ | fail))
  refine ⟨Nat, fun r => ⟨[(1, .fz int b), (2, .ptr 0 0), (4, .ptr 1 0), (7, .ptr 2 0), (44, .fz int (H * b : Nat)), (45, .fz int r)], [.box [.fz int W, .fz int H, .fz (.list int) l], .box [.fz int 0, .fz int 0, .nilSl], .box [.fz int (W * b : Nat), .fz int (H * b : Nat), .ref 3 0 (fall W b l r).length], .row int (fall W b l r)]⟩, fun r => r ≤ H * b, fun r => H * b - r, 0, Nat.zero_le _, (Ent.nilBox 2 2 int rfl rfl).trans (Ent.sub ?_ ?_), ?_⟩
  · exact cong2 (fun x y => [AO.box [.fz int W, .fz int H, .fz (.list int) l], .box [.fz int 0, .fz int 0, .nilSl], .box [.fz int x, .fz int y, .ref 3 0 0], .row int []]) (Int.natCast_mul W b).symm (Int.natCast_mul H b).symm
  · (repeat' (first | exact trivial | exact rfl | refine And.intro ?_ ?_))
    try exact congrArg (AV.fz int) (Int.natCast_mul H b).symm
  intro r hr
  have lr := fall_len W b l r
  have lr2 : r * (W * b) ≤ 128 * 128 := Nat.mul_le_mul (by omega) hWb
  (repeat' (first | exact trivial | exact fun h => h | refine And.intro ?_ ?_ | (intro hb; first | (simp at hb; done) | (simp at hb) | skip) | omega | exact rfl | exact Nat.le_refl _ | (show _ + 1 ≤ 4294967296; omega) | (dsimp only; omega) | (show wantB _ _ = true; simp; done) | (show wantB _ _ = true; simp; omega) | (show (_ : Bool) = _; simp_all; done) | (exfalso; omega) | refine aRegion_auto (by decide +kernel) ?_ | refine ⟨_, _, REnt.drop ⟨rfl, rfl⟩, ?_⟩ | fail))
  · refine ⟨Nat, fun c => ⟨[(1, .fz int b), (2, .ptr 0 0), (4, .ptr 1 0), (7, .ptr 2 0), (44, .fz int (H * b : Nat)), (45, .fz int r), (8, .fz int r), (49, .fz int (W * b : Nat)), (50, .fz int c)], [.box [.fz int W, .fz int H, .fz (.list int) l], .box [.fz int 0, .fz int 0, .nilSl], .box [.fz int (W * b : Nat), .fz int (H * b : Nat), .ref 3 0 (fall W b l r ++ frow W b l r c).length], .row int (fall W b l r ++ frow W b l r c)]⟩, fun c => c ≤ W * b, fun c => W * b - c, 0, Nat.zero_le _, Ent.sub (by simp [frow]) ?_, ?_⟩
    · (repeat' (first | exact trivial | exact rfl | refine And.intro ?_ ?_))
    intro c hc
    have hal : (fall W b l r ++ frow W b l r c).length ≤ 17000 := by rw [List.length_append, frow_len]; omega
    obtain ⟨x, y, er, ec, efv, hx, hy, hxr, hyc⟩ : ∃ x y : Nat, Int.tdiv (r : Int) b = (x : Int) ∧ Int.tdiv (c : Int) b = (y : Int) ∧ fv W b l r c = l.getD (x * W + y) 0 ∧ (r < H * b → x < H) ∧ (c < W * b → y < W) ∧ x ≤ r ∧ y ≤ c :=
      ⟨r / b, c / b, (Int.ofNat_tdiv _ _).symm, (Int.ofNat_tdiv _ _).symm, rfl, fun h => by rw [Nat.div_lt_iff_lt_mul (by omega)]; exact h, fun h => by rw [Nat.div_lt_iff_lt_mul (by omega)]; exact h, Nat.div_le_self .., Nat.div_le_self ..⟩
    have e2 : Int.tdiv (r : Int) b * W = ((x * W : Nat) : Int) := by rw [er]; simp
    have ei : Int.toNat (Int.tdiv (r : Int) b * W + Int.tdiv (c : Int) b) = x * W + y := by rw [e2, ec]; omega
    have hin : r < H * b → c < W * b → x * W + y + 1 ≤ l.length := fun h1 h2 => row_in hll (hx h1) (by have := hy h2; omega)
    have gv := getD_big hbig (Int.toNat (Int.tdiv (r : Int) b * W + Int.tdiv (c : Int) b))
    have ew : x * W ≤ 128 * 128 := Nat.mul_le_mul (by omega) hW2
    (repeat' (first | exact trivial | exact fun h => h | refine And.intro ?_ ?_ | (intro hb; first | (simp at hb; done) | (simp at hb) | skip) | omega | exact rfl | exact Nat.le_refl _ | (show _ + 1 ≤ 4294967296; omega) | (dsimp only; omega) | (show wantB _ _ = true; simp; done) | (show wantB _ _ = true; simp; omega) | (show (_ : Bool) = _; simp_all; done) | (exfalso; omega) | refine aRegion_auto (by decide +kernel) ?_ | refine ⟨_, _, REnt.drop ⟨rfl, rfl⟩, ?_⟩ | fail))
    · (apply exEff; focus (repeat' (first | exact ⟨rfl, rfl⟩ | exact trivial | refine And.intro ?_ ?_ | omega | exact Nat.le_refl _ | (show _ + 1 ≤ 4294967296; omega))))
      (apply exEff; focus (repeat' (first | exact ⟨rfl, rfl⟩ | exact trivial | refine And.intro ?_ ?_ | omega | exact Nat.le_refl _ | (show _ + 1 ≤ 4294967296; omega))))
      (apply exEff; focus (repeat' (first | exact ⟨rfl, rfl⟩ | exact trivial | refine And.intro ?_ ?_ | omega | exact Nat.le_refl _ | (show _ + 1 ≤ 4294967296; omega))))
      (repeat' (first | exact trivial | exact fun h => h | refine And.intro ?_ ?_ | (intro hb; first | (simp at hb; done) | (simp at hb) | skip) | omega | exact rfl | exact Nat.le_refl _ | (show _ + 1 ≤ 4294967296; omega) | (dsimp only; omega) | (show wantB _ _ = true; simp; done) | (show wantB _ _ = true; simp; omega) | (show (_ : Bool) = _; simp_all; done) | (exfalso; omega) | refine aRegion_auto (by decide +kernel) ?_ | refine ⟨_, _, REnt.drop ⟨rfl, rfl⟩, ?_⟩ | fail))
      refine ⟨c + 1, by show _ ≤ _; omega, by show _ - _ < _ - _; omega, Ent.ren [0, 1, 2, 5] rfl ?_ ?_⟩
      · (repeat' (first | exact trivial | exact rfl | refine And.intro ?_ ?_))
        · exact congrArg (fun n => some (AO.box [.fz int (W * b : Nat), .fz int (H * b : Nat), .ref 5 0 n])) (show (fall W b l r ++ frow W b l r c).length + 1 = (fall W b l r ++ (frow W b l r c ++ [fv W b l r c])).length by rw [← List.append_assoc, List.length_append (bs := [_])]; rfl)
        · refine congrArg (fun l => some (AO.row int l)) (show List.take (fall W b l r ++ frow W b l r c).length (fall W b l r ++ frow W b l r c) ++ [List.getD l (Int.toNat (Int.tdiv (r : Int) b * W + Int.tdiv (c : Int) b)) 0] = fall W b l r ++ (frow W b l r c ++ [fv W b l r c]) from ?_)
          rw [List.take_length, List.append_assoc, ei, efv]
      · (repeat' (first | exact trivial | exact rfl | refine And.intro ?_ ?_))
    · have hc2 : c = W * b := by omega
      subst hc2
      refine ⟨r + 1, by show _ ≤ _; omega, by show _ - _ < _ - _; omega, Ent.sub rfl ?_⟩
      (repeat' (first | exact trivial | exact rfl | refine And.intro ?_ ?_))
  · have hr2 : r = H * b := by omega
    subst hr2
    refine ⟨_, _, (REnt.conv [.dat RasT, .keep] _ rfl ?_).trans (REnt.drop ⟨rfl, rfl⟩), ?_⟩
    · (repeat' (first | exact trivial | refine And.intro ?_ ?_ | (show _ ≤ _; omega) | (show _ ≤ _; simp; done)))
    exact (congrArg (fun l => K (.tup [.fz RasT (((W * b : Nat) : Int), ((H * b : Nat) : Int), l), .fz .raw .nilIface]) []) List.take_length).mpr hK
def fineQ (a : Ras) (by_ : Int) : Ras := if ferr a by_ = 0 then fineR a.1.toNat a.2.1.toNat by_.toNat a.2.2 else (0, 0, [])
theorem fine_one (E : Errs) (a : Ras) (by_ : Int) (hl : a.2.2.length ≤ 1000000000000) (K : AV → List AO → Prop) (hK : K (RE (fineQ a by_) (er E (ferr a by_))) []) :
    ACall Tryd.prog (G8 E) 21 [.fz RasT a, .fz int by_] [] K := by
  by_cases hv : rerr a = 0
  · obtain ⟨⟨hW1, hH1, hW2, hH2, _⟩, _⟩ := rerr_ok hv
    by_cases hb : 1 ≤ by_ ∧ by_ ≤ 128
    · have hc := cerr_zero.2 ⟨hv, hb⟩
      have m1 := mul_bd (a := a.1) (b := by_) (A := 128) (B := 128) (by omega) (by omega) (by omega) (by omega)
      have m2 := mul_bd (a := a.2.1) (b := by_) (A := 128) (B := 128) (by omega) (by omega) (by omega) (by omega)
      by_cases hf : 128 < a.1 * by_ ∨ 128 < a.2.1 * by_
      · have hc2 : ferr a by_ = 2 := by unfold ferr; rw [if_neg (by omega), if_pos hf]
        unfold fineQ at hK
        rw [if_neg (by omega), hc2] at hK
        refine acall_mk (E := envAt (G8 E) 75 0) (envOk _ _ _) Tryd.func21 rfl rfl rfl rfl rfl ?_
        (repeat' (first | exact trivial | exact fun h => h | refine And.intro ?_ ?_ | (intro hb; first | (simp at hb; done) | (simp at hb) | skip) | omega | exact rfl | exact Nat.le_refl _ | (show _ + 1 ≤ 4294967296; omega) | (dsimp only; omega) | (show wantB _ _ = true; simp; done) | (show wantB _ _ = true; simp; omega) | (show (_ : Bool) = _; simp_all; done) | (exfalso; omega) | refine aRegion_auto (by decide +kernel) ?_ | refine ⟨_, _, REnt.drop ⟨rfl, rfl⟩, ?_⟩ | fail))
        refine acall_conv [.dat RasT] _ _ _ rfl trivial (acall_frame0 rfl (valid_one E a hl _ ?_))
        rw [hv]
        (repeat' (first | exact trivial | exact fun h => h | refine And.intro ?_ ?_ | (intro hb; first | (simp at hb; done) | (simp at hb) | skip) | omega | exact rfl | exact Nat.le_refl _ | (show _ + 1 ≤ 4294967296; omega) | (dsimp only; omega) | (show wantB _ _ = true; simp; done) | (show wantB _ _ = true; simp; omega) | (show (_ : Bool) = _; simp_all; done) | (exfalso; omega) | refine aRegion_auto (by decide +kernel) ?_ | fail))
        · (apply exEff; focus (repeat' (first | exact ⟨rfl, rfl⟩ | exact trivial | refine And.intro ?_ ?_ | omega | exact Nat.le_refl _ | (show _ + 1 ≤ 4294967296; omega))))
          (repeat' (first | exact trivial | exact fun h => h | refine And.intro ?_ ?_ | (intro hb; first | (simp at hb; done) | (simp at hb) | skip) | omega | exact rfl | exact Nat.le_refl _ | (show _ + 1 ≤ 4294967296; omega) | (dsimp only; omega) | (show wantB _ _ = true; simp; done) | (show wantB _ _ = true; simp; omega) | (show (_ : Bool) = _; simp_all; done) | (exfalso; omega) | refine aRegion_auto (by decide +kernel) ?_ | fail))
          refine ⟨_, _, (REnt.conv [.dat RasT, .keep] _ rfl trivial).trans (REnt.drop ⟨rfl, rfl⟩), ?_⟩
          exact hK
      · have hc2 : ferr a by_ = 0 := by unfold ferr; rw [if_neg (by omega), if_neg hf]
        unfold fineQ at hK
        rw [if_pos hc2, hc2] at hK
        have e := ras_nat hv
        have n1 : ((a.1.toNat * by_.toNat : Nat) : Int) = a.1 * by_ := by rw [Int.natCast_mul]; congr 1 <;> omega
        have n2 : ((a.2.1.toNat * by_.toNat : Nat) : Int) = a.2.1 * by_ := by rw [Int.natCast_mul]; congr 1 <;> omega
        refine acall_arg (fine_ok E a.1.toNat a.2.1.toNat by_.toNat a.2.2 (by rw [← e]; exact hv) (by omega) (by omega) (by omega) (by omega) K hK) ?_
        rw [← e, Int.toNat_of_nonneg (by omega)]
    · have hc : cerr a by_ = 3 := by unfold cerr; rw [if_neg (by omega), if_pos (by omega)]
      have hc2 : ferr a by_ = 3 := by unfold ferr; rw [if_pos (by omega), hc]
      unfold fineQ at hK
      rw [if_neg (by omega), hc2] at hK
      refine acall_mk (E := envAt (G8 E) 75 0) (envOk _ _ _) Tryd.func21 rfl rfl rfl rfl rfl ?_
      (repeat' (first | exact trivial | exact fun h => h | refine And.intro ?_ ?_ | (intro hb; first | (simp at hb; done) | (simp at hb) | skip) | omega | exact rfl | exact Nat.le_refl _ | (show _ + 1 ≤ 4294967296; omega) | (dsimp only; omega) | (show wantB _ _ = true; simp; done) | (show wantB _ _ = true; simp; omega) | (show (_ : Bool) = _; simp_all; done) | (exfalso; omega) | refine aRegion_auto (by decide +kernel) ?_ | refine ⟨_, _, REnt.drop ⟨rfl, rfl⟩, ?_⟩ | fail))
      refine acall_conv [.dat RasT] _ _ _ rfl trivial (acall_frame0 rfl (valid_one E a hl _ ?_))
      rw [hv]
      (repeat' (first | exact trivial | exact fun h => h | refine And.intro ?_ ?_ | (intro hb; first | (simp at hb; done) | (simp at hb) | skip) | omega | exact rfl | exact Nat.le_refl _ | (show _ + 1 ≤ 4294967296; omega) | (dsimp only; omega) | (show wantB _ _ = true; simp; done) | (show wantB _ _ = true; simp; omega) | (show (_ : Bool) = _; simp_all; done) | (exfalso; omega) | refine aRegion_auto (by decide +kernel) ?_ | fail))
      (apply exEff; focus (repeat' (first | exact ⟨rfl, rfl⟩ | exact trivial | refine And.intro ?_ ?_ | omega | exact Nat.le_refl _ | (show _ + 1 ≤ 4294967296; omega))))
      (repeat' (first | exact trivial | exact fun h => h | refine And.intro ?_ ?_ | (intro hb; first | (simp at hb; done) | (simp at hb) | skip) | omega | exact rfl | exact Nat.le_refl _ | (show _ + 1 ≤ 4294967296; omega) | (dsimp only; omega) | (show wantB _ _ = true; simp; done) | (show wantB _ _ = true; simp; omega) | (show (_ : Bool) = _; simp_all; done) | (exfalso; omega) | refine aRegion_auto (by decide +kernel) ?_ | fail))
      refine ⟨_, _, (REnt.conv [.dat RasT, .keep] _ rfl trivial).trans (REnt.drop ⟨rfl, rfl⟩), ?_⟩
      exact hK
  · have hc : cerr a by_ = rerr a := by unfold cerr; rw [if_pos (by omega)]
    have hc2 : ferr a by_ = rerr a := by unfold ferr; rw [if_pos (by omega), hc]
    unfold fineQ at hK
    rw [if_neg (by omega), hc2, er_ea E (by omega)] at hK
    refine acall_mk (E := envAt (G8 E) 75 0) (envOk _ _ _) Tryd.func21 rfl rfl rfl rfl rfl ?_
    (repeat' (first | exact trivial | exact fun h => h | refine And.intro ?_ ?_ | (intro hb; first | (simp at hb; done) | (simp at hb) | skip) | omega | exact rfl | exact Nat.le_refl _ | (show _ + 1 ≤ 4294967296; omega) | (dsimp only; omega) | (show wantB _ _ = true; simp; done) | (show wantB _ _ = true; simp; omega) | (show (_ : Bool) = _; simp_all; done) | (exfalso; omega) | refine aRegion_auto (by decide +kernel) ?_ | refine ⟨_, _, REnt.drop ⟨rfl, rfl⟩, ?_⟩ | fail))
    refine acall_conv [.dat RasT] _ _ _ rfl trivial (acall_frame0 rfl (valid_one E a hl _ ?_))
    rw [er_ea E (by omega)]
    (repeat' (first | exact trivial | exact fun h => h | refine And.intro ?_ ?_ | (intro hb; first | (simp at hb; done) | (simp at hb) | skip) | omega | exact rfl | exact Nat.le_refl _ | (show _ + 1 ≤ 4294967296; omega) | (dsimp only; omega) | (show wantB _ _ = true; simp; done) | (show wantB _ _ = true; simp; omega) | (show (_ : Bool) = _; simp_all; done) | (exfalso; omega) | refine aRegion_auto (by decide +kernel) ?_ | fail))
    refine ⟨_, _, (REnt.conv [.dat RasT, .keep] _ rfl trivial).trans (REnt.drop ⟨rfl, rfl⟩), ?_⟩
    exact hK
end Go.Proofs.YtidhgdipnfhoeaaDoor
/-
  Coarser rasters, the document's way: the walk.
-/
namespace Go.Proofs.YtidhgdipnfhoeaaDoor
open Go Go.Ab
set_option maxRecDepth 100000
theorem len1 (l : List Int) (x : Int) : (l.length : Int) + 1 = ((l ++ [x]).length : Int) := by simp
theorem succ_mul' (j b : Nat) : (j : Int) * b + b = ((j + 1 : Nat) : Int) * b := by rw [Int.natCast_add, Int.add_mul]; simp
theorem slc_step (l : List Int) (s m : Nat) : slc l s (m + 1) = slc l s m ++ [l.getD (s + m) 0] := by unfold slc; rw [List.range_succ, List.map_append]; rfl
theorem cd_ge {n b i : Nat} (hb : 1 ≤ b) (hn : 1 ≤ n) (h : cd n b ≤ i) : n ≤ i * b := by
  have h1 := (cd_le hb hn).2.1
  have h2 : cd n b * b ≤ i * b := Nat.mul_le_mul_right b h
  omega
theorem call_end (W H b : Nat) (l : List Int) (i j : Nat) (h : j = cd W b) : call W H b l i ++ crow W H b l i j = call W H b l (i + 1) ++ crow W H b l (i + 1) 0 := by
  subst h; show _ = call W H b l (i + 1) ++ []; rw [List.append_nil]; rfl
set_option maxHeartbeats 4000000 in
theorem coarseOf_any (G : List (Nat × Value)) (a : Ras) (W H b : Nat) (eW : a.1 = (W : Int)) (eH : a.2.1 = (H : Int)) (hv : rerr a = 0) (hb1 : 1 ≤ b) (hb2 : b ≤ 128) (K : AV → List AO → Prop) (hK : K (.fz (.list int) (call W H b a.2.2 (cd H b))) []) :
    ACall Tryd.prog G 22 [.fptr RasT a, .fz int b] [] K := by
  obtain ⟨⟨hW1, hH1, hW2, hH2, hlen⟩, hbig⟩ := rerr_ok hv
  have hW1 : 1 ≤ W := by omega
  have hH1 : 1 ≤ H := by omega
  have hW2 : W ≤ 128 := by omega
  have hH2 : H ≤ 128 := by omega
  have hll : a.2.2.length = W * H := by rw [eW, eH, ← Int.natCast_mul] at hlen; omega
  have hm : W * H ≤ 128 * 128 := Nat.mul_le_mul hW2 hH2
  obtain ⟨cW1, cW2, cW3⟩ := cd_le (n := W) hb1 hW1
  obtain ⟨cH1, cH2, cH3⟩ := cd_le (n := H) hb1 hH1
  generalize hl : a.2.2 = l at *
  refine acall_mk (E := envAt G 87 0) (envOk _ _ _) Tryd.func22 rfl rfl rfl rfl rfl ?_
  (repeat' (first | exact trivial | exact fun h => h | refine And.intro ?_ ?_ | (intro hb; first | (simp at hb; done) | (simp at hb) | skip) | omega | exact rfl | exact Nat.le_refl _ | (show _ + 1 ≤ 4294967296; omega) | (dsimp only; omega) | (show wantB _ _ = true; simp; done) | (show wantB _ _ = true; simp; omega) | (show (_ : Bool) = _; simp_all; done) | (exfalso; omega) | refine aRegion_auto (by decide +kernel) ?_ | refine ⟨_, _, REnt.drop ⟨rfl, rfl⟩, ?_⟩ | fail))
  refine ⟨Nat, fun i => ⟨[(0, .fptr RasT a), (1, .fz int b), (5, .ref 0 0 (call W H b l i ++ crow W H b l i 0).length), (6, .fz int ((i : Int) * b))], [.row int (call W H b l i ++ crow W H b l i 0)]⟩, fun i => i ≤ cd H b, fun i => cd H b - i, 0, Nat.zero_le _, (Ent.nil 5 int rfl).trans (Ent.sub rfl ?_), ?_⟩
  · (repeat' (first | exact trivial | exact rfl | refine And.intro ?_ ?_))
    try exact congrArg (AV.fz int) (show (0 : Int) = ((0 : Nat) : Int) * b by simp)
  intro i hi
  have hib : i * b ≤ 128 * 128 := Nat.mul_le_mul (by omega) hb2
  have li := call_len W H b l i
  have li2 : i * cd W b ≤ 128 * 128 := Nat.mul_le_mul (by omega) (by omega)
  have hil : cd H b ≤ i → H ≤ i * b := cd_ge hb1 hH1
  have hir : i < cd H b → i * b < H := fun h => cd_lt hb1 h
  (repeat' (first | exact trivial | exact fun h => h | refine And.intro ?_ ?_ | (intro hb; first | (simp at hb; done) | (simp at hb) | skip) | omega | exact rfl | exact Nat.le_refl _ | (show _ + 1 ≤ 4294967296; omega) | (dsimp only; omega) | (show wantB _ _ = true; simp; done) | (show wantB _ _ = true; simp; omega) | (show (_ : Bool) = _; simp_all; done) | (exfalso; omega) | refine aRegion_auto (by decide +kernel) ?_ | refine ⟨_, _, REnt.drop ⟨rfl, rfl⟩, ?_⟩ | fail))
  · have hlt : (i : Int) * b < a.2.1 := hb
    have hi' : i < cd H b := by
      rcases Nat.lt_or_ge i (cd H b) with h | h
      · exact h
      · have := hil h; omega
    obtain ⟨rf1, rf2, rf3, rf4, rf5⟩ := bw_facts hb1 hi'
    refine ⟨Nat, fun j => ⟨[(0, .fptr RasT a), (1, .fz int b), (5, .ref 0 0 (call W H b l i ++ crow W H b l i j).length), (6, .fz int ((i : Int) * b)), (7, .fz int ((j : Int) * b))], [.row int (call W H b l i ++ crow W H b l i j)]⟩, fun j => j ≤ cd W b, fun j => cd W b - j, 0, Nat.zero_le _, Ent.sub rfl ?_, ?_⟩
    · (repeat' (first | exact trivial | exact rfl | refine And.intro ?_ ?_))
      try exact congrArg (AV.fz int) (show (0 : Int) = ((0 : Nat) : Int) * b by simp)
    intro j hj
    have hjb : j * b ≤ 128 * 128 := Nat.mul_le_mul (by omega) hb2
    have lij : (call W H b l i ++ crow W H b l i j).length ≤ 17000 := by rw [List.length_append, crow_len]; omega
    have hjl : cd W b ≤ j → W ≤ j * b := cd_ge hb1 hW1
    have hjr : j < cd W b → j * b < W := fun h => cd_lt hb1 h
    (repeat' (first | exact trivial | exact fun h => h | refine And.intro ?_ ?_ | (intro hb; first | (simp at hb; done) | (simp at hb) | skip) | omega | exact rfl | exact Nat.le_refl _ | (show _ + 1 ≤ 4294967296; omega) | (dsimp only; omega) | (show wantB _ _ = true; simp; done) | (show wantB _ _ = true; simp; omega) | (show (_ : Bool) = _; simp_all; done) | (exfalso; omega) | refine aRegion_auto (by decide +kernel) ?_ | refine ⟨_, _, REnt.drop ⟨rfl, rfl⟩, ?_⟩ | fail))
    · have hlt : (j : Int) * b < a.1 := hb
      have hj' : j < cd W b := by
        rcases Nat.lt_or_ge j (cd W b) with h | h
        · exact h
        · have := hjl h; omega
      obtain ⟨cf1, cf2, cf3, cf4, cf5⟩ := bw_facts hb1 hj'
      refine ⟨Nat, fun k => ⟨[(0, .fptr RasT a), (1, .fz int b), (5, .ref 0 0 (call W H b l i ++ crow W H b l i j).length), (6, .fz int ((i : Int) * b)), (7, .fz int ((j : Int) * b)), (8, .fz int (sumL (bl W b l j (i * b) k))), (9, .fz int (bl W b l j (i * b) k).length), (10, .fz int ((i : Int) * b + k))], [.row int (call W H b l i ++ crow W H b l i j)]⟩, fun k => k ≤ bw H b i, fun k => bw H b i - k, 0, Nat.zero_le _, Ent.sub rfl ?_, ?_⟩
      · (repeat' (first | exact trivial | exact rfl | refine And.intro ?_ ?_))
      intro k hk
      have rb : b ≤ bw H b i ∨ H ≤ i * b + bw H b i := by
        have : bw H b i = min H (i * b + b) - i * b := by rw [← rf4]; rfl
        omega
      have cb : b ≤ bw W b j ∨ W ≤ j * b + bw W b j := by
        have : bw W b j = min W (j * b + b) - j * b := by rw [← cf4]; rfl
        omega
      clear rf4 rf5 cf4 cf5
      have bd : ∀ k m, k ≤ bw H b i → (m = 0 ∨ k < bw H b i) → m ≤ bw W b j → (bl W b l j (i * b) k ++ slc l ((i * b + k) * W + j * b) m).length ≤ 17000 ∧ -17825792000 ≤ sumL (bl W b l j (i * b) k ++ slc l ((i * b + k) * W + j * b) m) ∧ sumL (bl W b l j (i * b) k ++ slc l ((i * b + k) * W + j * b) m) ≤ 17825792000 := by
        intro k m hk hm hmw
        have l1 := bl_len W b l j (i * b) k
        have l2 : k * bw W b j ≤ 128 * 128 := Nat.mul_le_mul (by omega) (by omega)
        have l3 : (bl W b l j (i * b) k ++ slc l ((i * b + k) * W + j * b) m).length ≤ 17000 := by rw [List.length_append, slc_len]; omega
        have ok : ∀ x ∈ bl W b l j (i * b) k ++ slc l ((i * b + k) * W + j * b) m, bigB x = false := fun x hx => by
          rcases List.mem_append.1 hx with h | h
          · exact bl_ok hll hb1 hj' hbig k (by omega) x h
          · rcases hm with hm | hm
            · subst hm; cases h
            · have := row_in hll (show i * b + k < H by omega) (s := j * b) (n := bw W b j) cf3
              exact hbig x (slc_mem (by omega) h)
        have := sumL_bd _ ok
        exact ⟨l3, by omega⟩
      obtain ⟨b1, b2, b3⟩ := bd k 0 hk (.inl rfl) (Nat.zero_le _)
      rw [show slc l ((i * b + k) * W + j * b) 0 = [] from rfl, List.append_nil] at b1 b2 b3
      (repeat' (first | exact trivial | exact fun h => h | refine And.intro ?_ ?_ | (intro hb; first | (simp at hb; done) | (simp at hb) | skip) | omega | exact rfl | exact Nat.le_refl _ | (show _ + 1 ≤ 4294967296; omega) | (dsimp only; omega) | (show wantB _ _ = true; simp; done) | (show wantB _ _ = true; simp; omega) | (show (_ : Bool) = _; simp_all; done) | (exfalso; omega) | refine aRegion_auto (by decide +kernel) ?_ | refine ⟨_, _, REnt.drop ⟨rfl, rfl⟩, ?_⟩ | fail))
      · have hk' : k < bw H b i := by omega
        refine ⟨Nat, fun m => ⟨[(0, .fptr RasT a), (1, .fz int b), (5, .ref 0 0 (call W H b l i ++ crow W H b l i j).length), (6, .fz int ((i : Int) * b)), (7, .fz int ((j : Int) * b)), (8, .fz int (sumL (bl W b l j (i * b) k ++ slc l ((i * b + k) * W + j * b) m))), (9, .fz int (bl W b l j (i * b) k ++ slc l ((i * b + k) * W + j * b) m).length), (10, .fz int ((i : Int) * b + k)), (11, .fz int ((j : Int) * b + m))], [.row int (call W H b l i ++ crow W H b l i j)]⟩, fun m => m ≤ bw W b j, fun m => bw W b j - m, 0, Nat.zero_le _, Ent.sub rfl ?_, ?_⟩
        · rw [show slc l ((i * b + k) * W + j * b) 0 = [] from rfl, List.append_nil]
          (repeat' (first | exact trivial | exact rfl | refine And.intro ?_ ?_))
        intro m hm
        obtain ⟨b1, b2, b3⟩ := bd k m hk (.inr hk') hm
        have hin := row_in hll (show i * b + k < H by omega) (s := j * b) (n := bw W b j) cf3
        have ey : ((i : Int) * b + k) * a.1 = (((i * b + k) * W : Nat) : Int) := by rw [eW]; simp
        have hw2 : (i * b + k) * W ≤ 256 * 128 := Nat.mul_le_mul (by omega) hW2
        have ei : Int.toNat (((i : Int) * b + k) * a.1 + ((j : Int) * b + m)) = (i * b + k) * W + j * b + m := by rw [ey]; omega
        have gv := getD_big hbig (Int.toNat (((i : Int) * b + k) * a.1 + ((j : Int) * b + m)))
        rw [← hl] at gv
        have hla : a.2.2.length = l.length := by rw [hl]
        (repeat' (first | exact trivial | exact fun h => h | refine And.intro ?_ ?_ | (intro hb; first | (simp at hb; done) | (simp at hb) | skip) | omega | exact rfl | exact Nat.le_refl _ | (show _ + 1 ≤ 4294967296; omega) | (dsimp only; omega) | (show wantB _ _ = true; simp; done) | (show wantB _ _ = true; simp; omega) | (show (_ : Bool) = _; simp_all; done) | (exfalso; omega) | refine aRegion_auto (by decide +kernel) ?_ | refine ⟨_, _, REnt.drop ⟨rfl, rfl⟩, ?_⟩ | fail))
        · have gE : List.getD a.2.2 (Int.toNat (((i : Int) * b + k) * a.1 + ((j : Int) * b + m))) (Ty.dft int) = l.getD ((i * b + k) * W + j * b + m) 0 := by rw [ei, hl]; rfl
          refine ⟨m + 1, by show _ ≤ _; omega, by show _ - _ < _ - _; omega, Ent.sub rfl ?_⟩
          rw [slc_step, ← List.append_assoc]
          (repeat' (first | exact trivial | exact rfl | refine And.intro ?_ ?_))
          all_goals first | exact congrArg (AV.fz int) (by rw [sumL_app _ [_], sumL_one]; exact congrArg _ gE) | exact congrArg (AV.fz int) (len1 _ _) | exact congrArg (AV.fz int) (show (j : Int) * b + m + 1 = (j : Int) * b + ((m + 1 : Nat) : Int) by omega)
        · have hm2 : m = bw W b j := by omega
          subst hm2
          refine ⟨k + 1, by show _ ≤ _; omega, by show _ - _ < _ - _; omega, Ent.sub rfl ?_⟩
          rw [bl.eq_2]
          (repeat' (first | exact trivial | exact rfl | refine And.intro ?_ ?_))
      · have hk2 : k = bw H b i := by omega
        subst hk2
        have ebl : bl W b l j (i * b) (bw H b i) = blk W H b l i j := rfl
        have hpos : 0 < (blk W H b l i j).length := by rw [← ebl, bl_len]; exact Nat.mul_pos (by omega) (by omega)
        rw [ebl] at b1 b2 b3 ⊢
        refine acall_frame0 rfl (downB_any _ _ _ (by omega) (by omega) (by omega) _ ?_)
        (repeat' (first | exact trivial | exact fun h => h | refine And.intro ?_ ?_ | (intro hb; first | (simp at hb; done) | (simp at hb) | skip) | omega | exact rfl | exact Nat.le_refl _ | (show _ + 1 ≤ 4294967296; omega) | (dsimp only; omega) | (show wantB _ _ = true; simp; done) | (show wantB _ _ = true; simp; omega) | (show (_ : Bool) = _; simp_all; done) | (exfalso; omega) | refine aRegion_auto (by decide +kernel) ?_ | refine ⟨_, _, REnt.drop ⟨rfl, rfl⟩, ?_⟩ | fail))
        refine ⟨j + 1, by show _ ≤ _; omega, by show _ - _ < _ - _; omega, Ent.ren [2] rfl ?_ ?_⟩
        · (repeat' (first | exact trivial | exact rfl | refine And.intro ?_ ?_))
          exact congrArg (fun l => some (AO.row int l)) (show List.take (call W H b l i ++ crow W H b l i j).length (call W H b l i ++ crow W H b l i j) ++ [meanL (blk W H b l i j)] = call W H b l i ++ (crow W H b l i j ++ [meanL (blk W H b l i j)]) by rw [List.take_length, List.append_assoc])
        · (repeat' (first | exact trivial | exact rfl | refine And.intro ?_ ?_))
          · exact congrArg (AV.ref 2 0) (show (call W H b l i ++ crow W H b l i j).length + 1 = (call W H b l i ++ crow W H b l i (j + 1)).length by rw [crow.eq_2, ← List.append_assoc, List.length_append (bs := [_])]; rfl)
          · exact congrArg (AV.fz int) (succ_mul' j b)
    · have hj2 : j = cd W b := by
        rcases Nat.lt_or_ge j (cd W b) with h | h
        · have := hjr h; omega
        · omega
      refine ⟨i + 1, by show _ ≤ _; omega, by show _ - _ < _ - _; omega, Ent.sub ?_ ?_⟩
      · rw [call_end _ _ _ _ _ _ hj2]
      · (repeat' (first | exact trivial | exact rfl | refine And.intro ?_ ?_))
        · exact congrArg (AV.ref 0 0) (by rw [call_end _ _ _ _ _ _ hj2])
        · exact congrArg (AV.fz int) (succ_mul' i b)
  · have hi2 : i = cd H b := by
      rcases Nat.lt_or_ge i (cd H b) with h | h
      · have := hir h; omega
      · omega
    subst hi2
    refine ⟨_, _, (REnt.conv1 (.dat (.list int)) _ rfl ?_).trans (REnt.drop ⟨rfl, rfl⟩), ?_⟩
    · (repeat' (first | exact trivial | refine And.intro ?_ ?_ | (show _ ≤ _; omega) | (show _ ≤ _; simp; done)))
    refine (congrArg (fun l => K (.fz (.list int) l) []) (show List.take _ (List.drop 0 (call W H b l (cd H b) ++ crow W H b l (cd H b) 0)) = call W H b l (cd H b) from ?_)).mpr hK
    rw [List.drop_zero, List.take_length]; exact List.append_nil _
end Go.Proofs.YtidhgdipnfhoeaaDoor
/-
  What is made finer and coarser again is as it was: the plain law.
-/
namespace Go.Proofs.YtidhgdipnfhoeaaDoor
open Go Go.Ab
set_option maxRecDepth 100000
theorem cd_alt {n b : Nat} (hb : 1 ≤ b) (hn : 1 ≤ n) : Int.tdiv ((n : Int) - 1) b + 1 = ((cd n b : Nat) : Int) := by
  unfold cd
  rw [show (n : Int) - 1 = ((n - 1 : Nat) : Int) by omega, ← Int.ofNat_tdiv]
  have : (n + b - 1) / b = (n - 1) / b + 1 := by
    rw [show n + b - 1 = n - 1 + b by omega, Nat.add_div_right _ (by omega)]
  omega
theorem getD_app_l {l m : List Int} {i : Nat} (h : i < l.length) : (l ++ m).getD i 0 = l.getD i 0 := by simp [List.getD, List.getElem?_append_left h]
theorem getD_app_r {l m : List Int} {i : Nat} (h : l.length ≤ i) : (l ++ m).getD i 0 = m.getD (i - l.length) 0 := by simp [List.getD, List.getElem?_append_right h]
theorem frow_at (W b : Nat) (l : List Int) (r x : Nat) : ∀ n, x < n → (frow W b l r n).getD x 0 = fv W b l r x
  | 0, h => by omega
  | n + 1, h => by
    unfold frow
    by_cases hx : x < n
    · rw [getD_app_l (by rw [frow_len]; exact hx)]; exact frow_at W b l r x n hx
    · obtain rfl : x = n := by omega
      rw [getD_app_r (by rw [frow_len]; exact Nat.le_refl _), frow_len, Nat.sub_self]; rfl
theorem fall_at (W b : Nat) (l : List Int) (y x : Nat) (hx : x < W * b) : ∀ n, y < n → (fall W b l n).getD (y * (W * b) + x) 0 = fv W b l y x
  | 0, h => by omega
  | n + 1, h => by
    unfold fall
    by_cases hy : y < n
    · have : (y + 1) * (W * b) ≤ n * (W * b) := Nat.mul_le_mul_right _ hy
      rw [Nat.succ_mul] at this
      rw [getD_app_l (by rw [fall_len]; omega)]; exact fall_at W b l y x hx n hy
    · obtain rfl : y = n := by omega
      rw [getD_app_r (by rw [fall_len]; omega), fall_len, show y * (W * b) + x - y * (W * b) = x by omega]; exact frow_at W b l y x _ hx
theorem crow_at (W H b : Nat) (l : List Int) (r x : Nat) : ∀ n, x < n → (crow W H b l r n).getD x 0 = meanL (blk W H b l r x)
  | 0, h => by omega
  | n + 1, h => by
    unfold crow
    by_cases hx : x < n
    · rw [getD_app_l (by rw [crow_len]; exact hx)]; exact crow_at W H b l r x n hx
    · obtain rfl : x = n := by omega
      rw [getD_app_r (by rw [crow_len]; exact Nat.le_refl _), crow_len, Nat.sub_self]; rfl
theorem call_at (W H b : Nat) (l : List Int) (y x : Nat) (hx : x < cd W b) : ∀ n, y < n → (call W H b l n).getD (y * cd W b + x) 0 = meanL (blk W H b l y x)
  | 0, h => by omega
  | n + 1, h => by
    unfold call
    by_cases hy : y < n
    · have : (y + 1) * cd W b ≤ n * cd W b := Nat.mul_le_mul_right _ hy
      rw [Nat.succ_mul] at this
      rw [getD_app_l (by rw [call_len]; omega)]; exact call_at W H b l y x hx n hy
    · obtain rfl : y = n := by omega
      rw [getD_app_r (by rw [call_len]; omega), call_len, show y * cd W b + x - y * cd W b = x by omega]; exact crow_at W H b l y x _ hx
theorem sum_const {v : Int} : ∀ (l : List Int), (∀ x ∈ l, x = v) → sumL l = v * (l.length : Int)
  | [], _ => by simp [sumL]
  | x :: l, h => by
    have ih := sum_const l fun y hy => h y (List.mem_cons_of_mem _ hy)
    have h1 := h x (List.mem_cons_self ..)
    rw [show x :: l = [x] ++ l from rfl, sumL_app, sumL_one, ih, h1, List.length_append]
    rw [List.length_singleton, Int.natCast_add, Int.mul_add]; simp
theorem mean_const {v : Int} {l : List Int} (hn : l ≠ []) (h : ∀ x ∈ l, x = v) : meanL l = v := by
  have : 0 < l.length := List.length_pos_iff.2 hn
  unfold meanL
  rw [sum_const l h, Int.mul_ediv_cancel _ (by omega)]
theorem cd_mul {n b : Nat} (hb : 1 ≤ b) : cd (n * b) b = n := by
  unfold cd
  rw [show n * b + b - 1 = n * b + (b - 1) by omega, Nat.mul_comm, Nat.mul_add_div (by omega), Nat.div_eq_of_lt (by omega), Nat.add_zero]
theorem bw_mul {n b c : Nat} (hc : c < n) : bw (n * b) b c = b := by
  unfold bw
  have h1 : (c + 1) * b ≤ n * b := Nat.mul_le_mul_right b hc
  rw [Nat.succ_mul] at h1 ⊢; omega
/-- a block of a finer raster holds one number only -/
theorem bl_fine {W H b : Nat} {l : List Int} {r c : Nat} (hb : 1 ≤ b) (hr : r < H) (hc : c < W) : ∀ k, k ≤ b → ∀ x ∈ bl (W * b) b (fall W b l (H * b)) c (r * b) k, x = l.getD (r * W + c) 0
  | 0, _, x, h => by cases h
  | k + 1, hk, x, h => by
    unfold bl at h
    rcases List.mem_append.1 h with h | h
    · exact bl_fine hb hr hc k (by omega) x h
    · unfold brow at h
      rw [bw_mul hc] at h
      unfold slc at h
      obtain ⟨m, hm, rfl⟩ := List.mem_map.1 h
      have hm := List.mem_range.1 hm
      have h1 : (c + 1) * b ≤ W * b := Nat.mul_le_mul_right b hc
      have h2 : (r + 1) * b ≤ H * b := Nat.mul_le_mul_right b hr
      rw [Nat.succ_mul] at h1 h2
      rw [Nat.add_assoc, fall_at W b l (r * b + k) (c * b + m) (by omega) _ (by omega)]
      unfold fv
      rw [Nat.mul_comm r b, Nat.mul_add_div (by omega), Nat.div_eq_of_lt (by omega), Nat.mul_comm c b, Nat.mul_add_div (by omega), Nat.div_eq_of_lt hm, Nat.add_zero, Nat.add_zero]
theorem back_again {W H b : Nat} {l : List Int} (hb : 1 ≤ b) (hW : 1 ≤ W) (hl : l.length = W * H) : coarseR (W * b) (H * b) b (fall W b l (H * b)) = ((W : Int), (H : Int), l) := by
  unfold coarseR
  rw [cd_mul hb, cd_mul hb]
  congr 2
  apply List.ext_getElem
  · rw [call_len, cd_mul hb, hl, Nat.mul_comm]
  · intro i h1 h2
    rw [hl] at h2
    have hc : i % W < W := Nat.mod_lt _ (by omega)
    have hr : i / W < H := by rw [Nat.div_lt_iff_lt_mul (by omega), Nat.mul_comm]; exact h2
    have hi : i / W * W + i % W = i := by rw [Nat.mul_comm]; exact Nat.div_add_mod i W
    have e := call_at (W * b) (H * b) b (fall W b l (H * b)) (i / W) (i % W) (by rw [cd_mul hb]; exact hc) H hr
    rw [cd_mul hb, hi] at e
    have e1 : (call (W * b) (H * b) b (fall W b l (H * b)) H)[i] = (call (W * b) (H * b) b (fall W b l (H * b)) H).getD i 0 := by simp [List.getD, List.getElem?_eq_getElem h1]
    have e2 : l[i] = l.getD i 0 := by simp [List.getD, List.getElem?_eq_getElem (show i < l.length by omega)]
    rw [e1, e, e2]
    have hm := mean_const (v := l.getD (i / W * W + i % W) 0) (l := blk (W * b) (H * b) b (fall W b l (H * b)) (i / W) (i % W)) ?_ ?_
    · rw [hm, hi]
    · refine List.length_pos_iff.1 ?_
      unfold blk
      rw [bl_len, bw_mul hr, bw_mul hc]
      exact Nat.mul_pos (by omega) (by omega)
    · unfold blk
      rw [bw_mul hr]
      exact bl_fine hb hr hc b (Nat.le_refl _)
theorem fall_mem {W b : Nat} {l : List Int} (h : ∀ x ∈ l, bigB x = false) : ∀ n, ∀ x ∈ fall W b l n, bigB x = false
  | 0, x, hx => by cases hx
  | n + 1, x, hx => by
    unfold fall at hx
    rcases List.mem_append.1 hx with hx | hx
    · exact fall_mem h n x hx
    · have hrow : ∀ m, ∀ x ∈ frow W b l n m, bigB x = false := by
        intro m
        induction m with
        | zero => intro x hx; cases hx
        | succ m ih =>
          intro x hx
          unfold frow at hx
          rcases List.mem_append.1 hx with hx | hx
          · exact ih x hx
          · rw [List.mem_singleton.1 hx]; exact getD_ok h _
      exact hrow _ x hx
theorem rerr_mk {a : Ras} (h1 : 1 ≤ a.1) (h2 : 1 ≤ a.2.1) (h3 : a.1 ≤ 128) (h4 : a.2.1 ≤ 128) (h5 : (a.2.2.length : Int) = a.1 * a.2.1) (h6 : ∀ x ∈ a.2.2, bigB x = false) : rerr a = 0 := by
  unfold rerr
  rw [if_neg (by omega), if_neg (by omega), if_neg]
  simp only [List.any_eq_true, not_exists, not_and, Bool.not_eq_true]
  exact h6
theorem fine_right {W H b : Nat} {l : List Int} (hW : 1 ≤ W) (hH : 1 ≤ H) (hb : 1 ≤ b) (hWb : W * b ≤ 128) (hHb : H * b ≤ 128) (hx : ∀ x ∈ l, bigB x = false) : rerr (fineR W H b l) = 0 := by
  have h1 : 1 ≤ W * b := Nat.mul_pos hW hb
  have h2 : 1 ≤ H * b := Nat.mul_pos hH hb
  refine rerr_mk (by show (1 : Int) ≤ ((W * b : Nat) : Int); omega) (by show (1 : Int) ≤ ((H * b : Nat) : Int); omega) (by show ((W * b : Nat) : Int) ≤ 128; omega) (by show ((H * b : Nat) : Int) ≤ 128; omega) ?_ (fall_mem hx _)
  show ((fall W b l (H * b)).length : Int) = ((W * b : Nat) : Int) * ((H * b : Nat) : Int)
  rw [fall_len, ← Int.natCast_mul, Nat.mul_comm (H * b)]
/-- each number of a finer raster, by its place -/
theorem fine_at {W H b : Nat} {l : List Int} (hW : 1 ≤ W) (hb : 1 ≤ b) {i : Nat} (hi : i < (fall W b l (H * b)).length) : (fall W b l (H * b)).getD i 0 = l.getD (i / (W * b) / b * W + i % (W * b) / b) 0 ∧ i / (W * b) / b * W + i % (W * b) / b < W * H := by
  have h1 : 1 ≤ W * b := Nat.mul_pos hW hb
  rw [fall_len] at hi
  have hc : i % (W * b) < W * b := Nat.mod_lt _ (by omega)
  have hr : i / (W * b) < H * b := by rw [Nat.div_lt_iff_lt_mul (by omega)]; exact hi
  have e := fall_at W b l (i / (W * b)) (i % (W * b)) hc (H * b) hr
  rw [show i / (W * b) * (W * b) + i % (W * b) = i by rw [Nat.mul_comm]; exact Nat.div_add_mod i (W * b)] at e
  refine ⟨e, ?_⟩
  have k1 : i / (W * b) / b < H := by rw [Nat.div_lt_iff_lt_mul (by omega)]; exact hr
  have k2 : i % (W * b) / b < W := by rw [Nat.div_lt_iff_lt_mul (by omega)]; exact hc
  have k3 : (i / (W * b) / b + 1) * W ≤ H * W := Nat.mul_le_mul_right W k1
  rw [Nat.succ_mul, Nat.mul_comm H W] at k3; omega
end Go.Proofs.YtidhgdipnfhoeaaDoor
