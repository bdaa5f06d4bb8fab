/-
  Copies of arcs, and those without neighbours alike.
-/
import Derived.Test.YtcfalmdfohphoaaDoorM7
import Derived.LaidHandle
import Derived.LaidSub
namespace Go.Proofs.YtcfalmdfohphoaaDoor
open Go Go.Ab
set_option maxRecDepth 100000
theorem cloneS_any (G : List (Nat × Value)) (a : Pts) (h2 : 0 < a.length) (hl : a.length ≤ 100000) (K : AV → List AO → Prop) (hK : K (.ref 1 0 a.length) [.dead, .row SpT a]) : ACall Tryd.prog G 26 [.fz (.list SpT) a] [] K := by
  refine acall_mk (E := envAt G 8 0) (envOk _ _ _) Tryd.func26 rfl rfl rfl rfl rfl ?_
  (repeat' (first | exact trivial | exact fun h => h | refine And.intro ?_ ?_ | (intro hb; try simp at hb) | omega | exact rfl | exact Nat.le_refl _ | (show _ + 1 ≤ 4294967296; omega) | (show _ + 1 ≤ 5864062014634; omega) | (dsimp only; omega) | (show (_ : Int) ≤ (_ : Int); omega) | (show _ < List.length _; simp only [List.length_set, List.length_append, List.length_take]; omega) | (show wantB _ _ = true; simp <;> omega) | (show (_ : Bool) = _; simp_all; done) | (exfalso; omega) | refine aRegion_auto (by decide +kernel) ?_ | fail))
  (repeat' (first | exact trivial | exact fun h => h | refine And.intro ?_ ?_ | (intro hb; try simp at hb) | omega | exact rfl | exact Nat.le_refl _ | (show _ + 1 ≤ 4294967296; omega) | (show _ + 1 ≤ 5864062014634; omega) | (dsimp only; omega) | (show (_ : Int) ≤ (_ : Int); omega) | (show _ < List.length _; simp only [List.length_set, List.length_append, List.length_take]; omega) | (show wantB _ _ = true; simp <;> omega) | (show (_ : Bool) = _; simp_all; done) | (exfalso; omega) | refine aRegion_auto (by decide +kernel) ?_ | fail))
  refine ⟨_, _, REnt.refl _ _ _, ?_⟩
  show K (.ref 1 0 (0 + a.length)) [.dead, .row SpT ([] ++ a)]
  rw [Nat.zero_add]
  exact hK
/-- what is written over itself from the first twin on: how many, and the row -/
def inF (a : Pts) (k : Nat) : Nat → Nat × Pts
  | 0 => (k + 1, a)
  | v + 1 => if Shp.at_ (inF a k v).2 (k + 1 + v) = Shp.at_ (inF a k v).2 (k + 1 + (v + 1)) then inF a k v else ((inF a k v).1 + 1, (inF a k v).2.set (inF a k v).1 (Shp.at_ (inF a k v).2 (k + 1 + (v + 1))))
theorem inF_bd (a : Pts) (k : Nat) : ∀ v, (inF a k v).2.length = a.length ∧ (inF a k v).1 ≤ k + 1 + v
  | 0 => ⟨rfl, Nat.le_refl _⟩
  | v + 1 => by
    obtain ⟨h1, h2⟩ := inF_bd a k v
    rw [inF]
    split
    · exact ⟨h1, by omega⟩
    · exact ⟨by show ((inF a k v).2.set _ _).length = _; rw [List.length_set]; exact h1, by show (inF a k v).1 + 1 ≤ _; omega⟩
/-- the first twin from k on -/
def fTw (a : Pts) : Nat → Nat → Option Nat
  | 0, _ => none
  | d + 1, k => if Shp.at_ a k = Shp.at_ a (k + 1) then some k else fTw a d (k + 1)
def cmpE (a : Pts) (k : Nat) : Nat × Pts := ((inF a k (a.length - (k + 2))).1, (inF a k (a.length - (k + 2))).2.take (inF a k (a.length - (k + 2))).1 ++ List.replicate (a.length - (inF a k (a.length - (k + 2))).1) SpT.dft ++ (inF a k (a.length - (k + 2))).2.drop ((inF a k (a.length - (k + 2))).1 + (a.length - (inF a k (a.length - (k + 2))).1)))
def cmpF (a : Pts) : Nat × Pts := match fTw a (a.length - 1) 0 with
  | some k => cmpE a k
  | none => (a.length, a)
theorem fTw_some {a : Pts} : ∀ (d k j : Nat), fTw a d k = some j → k ≤ j ∧ j < k + d ∧ Shp.at_ a j = Shp.at_ a (j + 1)
  | 0, _, _, h => by cases h
  | d + 1, k, j, h => by
    rw [fTw] at h
    by_cases c : Shp.at_ a k = Shp.at_ a (k + 1)
    · rw [if_pos c] at h; cases h; exact ⟨Nat.le_refl _, by omega, c⟩
    · rw [if_neg c] at h
      obtain ⟨h1, h2, h3⟩ := fTw_some d (k + 1) j h
      exact ⟨by omega, by omega, h3⟩
theorem fTw_none {a : Pts} : ∀ (d k : Nat), fTw a d k = none → ∀ j, k ≤ j → j < k + d → Shp.at_ a j ≠ Shp.at_ a (j + 1)
  | 0, _, _, j, h1, h2 => by omega
  | d + 1, k, h, j, h1, h2 => by
    rw [fTw] at h
    by_cases c : Shp.at_ a k = Shp.at_ a (k + 1)
    · rw [if_pos c] at h; cases h
    · rw [if_neg c] at h
      by_cases e : j = k
      · rw [e]; exact c
      · exact fTw_none d (k + 1) h j (by omega) (by omega)
theorem fTw_first {a : Pts} : ∀ (d k j : Nat), k ≤ j → j < k + d → (∀ i, k ≤ i → i < j → Shp.at_ a i ≠ Shp.at_ a (i + 1)) → Shp.at_ a j = Shp.at_ a (j + 1) → fTw a d k = some j
  | 0, _, _, h1, h2, _, _ => by omega
  | d + 1, k, j, h1, h2, h3, h4 => by
    rw [fTw]
    by_cases e : j = k
    · subst e; rw [if_pos h4]
    · rw [if_neg (h3 k (Nat.le_refl _) (by omega))]
      exact fTw_first d (k + 1) j (by omega) (by omega) (fun i hi hj => h3 i (by omega) hj) h4
theorem cmpF_no {a : Pts} (h : ∀ j, j + 1 < a.length → Shp.at_ a j ≠ Shp.at_ a (j + 1)) : cmpF a = (a.length, a) := by
  unfold cmpF
  cases e : fTw a (a.length - 1) 0 with
  | none => rfl
  | some j =>
    obtain ⟨_, h2, h3⟩ := fTw_some _ _ _ e
    exact (h j (by omega) h3).elim
theorem cmpF_at {a : Pts} {j : Nat} (hj : j + 1 < a.length) (h : ∀ i, i < j → Shp.at_ a i ≠ Shp.at_ a (i + 1)) (h' : Shp.at_ a j = Shp.at_ a (j + 1)) : cmpF a = cmpE a j := by
  unfold cmpF
  rw [fTw_first (a.length - 1) 0 j (Nat.zero_le _) (by omega) (fun i _ hi => h i hi) h']
theorem cmpF_lt {a : Pts} : ((cmpF a).1 < a.length ↔ ∃ j, j + 1 < a.length ∧ Shp.at_ a j = Shp.at_ a (j + 1)) ∧ (cmpF a).1 ≤ a.length := by
  unfold cmpF
  cases e : fTw a (a.length - 1) 0 with
  | none =>
    refine ⟨⟨fun h => absurd h (Nat.lt_irrefl _), fun ⟨j, h1, h2⟩ => (fTw_none _ _ e j (Nat.zero_le _) (by omega) h2).elim⟩, Nat.le_refl _⟩
  | some j =>
    obtain ⟨_, h2, h3⟩ := fTw_some _ _ _ e
    have := (inF_bd a j (a.length - (j + 2))).2
    show ((inF a j (a.length - (j + 2))).1 < a.length ↔ _) ∧ (inF a j (a.length - (j + 2))).1 ≤ a.length
    exact ⟨⟨fun _ => ⟨j, by omega, h3⟩, fun _ => by omega⟩, by omega⟩
set_option maxHeartbeats 4000000 in
theorem compactS_any (G : List (Nat × Value)) (a : Pts) (h2 : 2 ≤ a.length) (hl : a.length ≤ 100000) (K : AV → List AO → Prop)
    (hK : K (.ref 0 0 (cmpF a).1) [.row SpT (cmpF a).2]) : ACall Tryd.prog G 37 [.ref 0 0 a.length] [.row SpT a] K := by
  refine acall_mk (E := envAt G 61 1) (envOk _ _ _) Tryd.func37 rfl rfl rfl rfl rfl ?_
  (repeat' (first | exact trivial | exact fun h => h | refine And.intro ?_ ?_ | (intro hb; try simp at hb) | omega | exact rfl | exact Nat.le_refl _ | (show _ + 1 ≤ 4294967296; omega) | (show _ + 1 ≤ 5864062014634; omega) | (dsimp only; omega) | (show (_ : Int) ≤ (_ : Int); omega) | (show _ < List.length _; simp only [List.length_set, List.length_append, List.length_take]; omega) | (show wantB _ _ = true; simp <;> omega) | (show (_ : Bool) = _; simp_all; done) | (exfalso; omega) | refine aRegion_auto (by decide +kernel) ?_ | fail))
  refine ⟨Nat, fun k => ⟨[(0, .ref 0 0 a.length), (3, .fz int ((k : Int) + 1))], [.row SpT a]⟩, fun k => k + 1 ≤ a.length ∧ ∀ j, j < k → Shp.at_ a j ≠ Shp.at_ a (j + 1), fun k => a.length - k, 0, ⟨by omega, fun j h => by omega⟩, Ent.sub rfl ?_, ?_⟩
  · (repeat' (first | exact trivial | exact rfl | refine And.intro ?_ ?_))
  intro k ⟨hk, hd⟩
  have hk : k + 1 ≤ a.length := hk
  have hd : ∀ j, j < k → Shp.at_ a j ≠ Shp.at_ a (j + 1) := hd
  show awp _ _ _ ⟨[(0, .ref 0 0 a.length), (3, .fz int ((k : Int) + 1))], [.row SpT a]⟩
  by_cases hka : k + 1 < a.length
  · have q1 := at_q a (k + 1)
    have q2 := at_q a k
    (repeat' (first | exact trivial | exact fun h => h | refine And.intro ?_ ?_ | (intro hb; try simp at hb) | omega | exact rfl | exact Nat.le_refl _ | (show _ + 1 ≤ 4294967296; omega) | (show _ + 1 ≤ 5864062014634; omega) | (dsimp only; omega) | (show (_ : Int) ≤ (_ : Int); omega) | (show _ < List.length _; simp only [List.length_set, List.length_append, List.length_take]; omega) | (show wantB _ _ = true; simp <;> omega) | (show (_ : Bool) = _; simp_all; done) | (exfalso; omega) | refine aRegion_auto (by decide +kernel) ?_ | fail))
    any_goals (first | exact Int.le_refl _ | (show (_ : Int) ≤ ((List.length a : Nat) : Int); omega))
    · have hs : Shp.at_ a k = Shp.at_ a (k + 1) := by
        rw [q1, q2, eqS] at hb
        exact (of_decide_eq_true hb).symm
      clear hb
      (repeat' (first | exact trivial | exact fun h => h | refine And.intro ?_ ?_ | (intro hb; try simp at hb) | omega | exact rfl | exact Nat.le_refl _ | (show _ + 1 ≤ 4294967296; omega) | (show _ + 1 ≤ 5864062014634; omega) | (dsimp only; omega) | (show (_ : Int) ≤ (_ : Int); omega) | (show _ < List.length _; simp only [List.length_set, List.length_append, List.length_take]; omega) | (show wantB _ _ = true; simp <;> omega) | (show (_ : Bool) = _; simp_all; done) | (exfalso; omega) | refine aRegion_auto (by decide +kernel) ?_ | fail))
      refine ⟨Nat, fun v => ⟨[(0, .ref 0 0 a.length), (3, .fz int ((inF a k v).1 : Nat)), (4, .ref 0 (k + 1) (a.length - (k + 1))), (5, .fz int ((v : Int) + 1))], [.row SpT (inF a k v).2]⟩, fun v => k + 1 + v + 1 ≤ a.length, fun v => a.length - v, 0, (by show k + 1 + 0 + 1 ≤ a.length; omega), Ent.sub rfl ?_, ?_⟩
      · (repeat' (first | exact trivial | exact rfl | refine And.intro ?_ ?_))
        refine (show AV.ref 0 (0 + ((k : Int) + 1).toNat) (((List.length a : Nat) : Int).toNat - ((k : Int) + 1).toNat) = .ref 0 (k + 1) (a.length - (k + 1)) from ?_)
        rw [show ((k : Int) + 1).toNat = k + 1 by omega, Int.toNat_natCast, Nat.zero_add]
      intro v hv
      have hv : k + 1 + v + 1 ≤ a.length := hv
      obtain ⟨hbl, hu⟩ := inF_bd a k v
      have hnx : inF a k (v + 1) = if Shp.at_ (inF a k v).2 (k + 1 + v) = Shp.at_ (inF a k v).2 (k + 1 + (v + 1)) then inF a k v else ((inF a k v).1 + 1, (inF a k v).2.set (inF a k v).1 (Shp.at_ (inF a k v).2 (k + 1 + (v + 1)))) := rfl
      have hce : v = a.length - (k + 2) → cmpF a = ((inF a k v).1, (inF a k v).2.take (inF a k v).1 ++ List.replicate (a.length - (inF a k v).1) SpT.dft ++ (inF a k v).2.drop ((inF a k v).1 + (a.length - (inF a k v).1))) := fun e => by
        rw [cmpF_at hka hd hs, e]; rfl
      obtain ⟨n2, hn2⟩ : ∃ n2, n2 = a.length - (k + 1) := ⟨_, rfl⟩
      show awp _ _ _ ⟨[(0, .ref 0 0 a.length), (3, .fz int ((inF a k v).1 : Nat)), (4, .ref 0 (k + 1) (a.length - (k + 1))), (5, .fz int ((v : Int) + 1))], [.row SpT (inF a k v).2]⟩
      obtain ⟨u, hu0⟩ : ∃ u, (inF a k v).1 = u := ⟨_, rfl⟩
      obtain ⟨b, hb0⟩ : ∃ b, (inF a k v).2 = b := ⟨_, rfl⟩
      rw [hu0, hb0] at hnx hce ⊢
      rw [hu0] at hu
      rw [hb0] at hbl
      have r1 := at_q b (k + 1 + (v + 1))
      have r2 := at_q b (k + 1 + v)
      rw [← hn2]
      by_cases hvn : v + 1 < n2
      · (repeat' (first | exact trivial | exact fun h => h | refine And.intro ?_ ?_ | (intro hb; try simp at hb) | omega | exact rfl | exact Nat.le_refl _ | (show _ + 1 ≤ 4294967296; omega) | (show _ + 1 ≤ 5864062014634; omega) | (dsimp only; omega) | (show (_ : Int) ≤ (_ : Int); omega) | (show _ < List.length _; simp only [List.length_set, List.length_append, List.length_take]; omega) | (show wantB _ _ = true; simp <;> omega) | (show (_ : Bool) = _; simp_all; done) | (exfalso; omega) | refine aRegion_auto (by decide +kernel) ?_ | fail))
        · have hne : ¬ Shp.at_ b (k + 1 + v) = Shp.at_ b (k + 1 + (v + 1)) := by
            rw [r1, r2, eqS] at hb
            exact fun h => of_decide_eq_false hb h.symm
          rw [if_neg hne] at hnx
          (repeat' (first | exact trivial | exact fun h => h | refine And.intro ?_ ?_ | (intro hb; try simp at hb) | omega | exact rfl | exact Nat.le_refl _ | (show _ + 1 ≤ 4294967296; omega) | (show _ + 1 ≤ 5864062014634; omega) | (dsimp only; omega) | (show (_ : Int) ≤ (_ : Int); omega) | (show _ < List.length _; simp only [List.length_set, List.length_append, List.length_take]; omega) | (show wantB _ _ = true; simp <;> omega) | (show (_ : Bool) = _; simp_all; done) | (exfalso; omega) | refine aRegion_auto (by decide +kernel) ?_ | fail))
          refine ⟨v + 1, (by show k + 1 + (v + 1) + 1 ≤ a.length; omega), by show a.length - (v + 1) < a.length - v; omega, Ent.sub ?_ ?_⟩
          · rw [hnx]
            show [AO.row SpT (List.set b (0 + u) (Shp.at_ b (k + 1 + (v + 1))))] = [AO.row SpT (List.set b u (Shp.at_ b (k + 1 + (v + 1))))]
            rw [Nat.zero_add]
          · (repeat' (first | exact trivial | exact rfl | refine And.intro ?_ ?_))
            rw [hnx]; rfl
        · have heq : Shp.at_ b (k + 1 + v) = Shp.at_ b (k + 1 + (v + 1)) := by
            rw [r1, r2, eqS] at hb
            exact (of_decide_eq_true hb).symm
          rw [if_pos heq] at hnx
          (repeat' (first | exact trivial | exact fun h => h | refine And.intro ?_ ?_ | (intro hb; try simp at hb) | omega | exact rfl | exact Nat.le_refl _ | (show _ + 1 ≤ 4294967296; omega) | (show _ + 1 ≤ 5864062014634; omega) | (dsimp only; omega) | (show (_ : Int) ≤ (_ : Int); omega) | (show _ < List.length _; simp only [List.length_set, List.length_append, List.length_take]; omega) | (show wantB _ _ = true; simp <;> omega) | (show (_ : Bool) = _; simp_all; done) | (exfalso; omega) | refine aRegion_auto (by decide +kernel) ?_ | fail))
          refine ⟨v + 1, (by show k + 1 + (v + 1) + 1 ≤ a.length; omega), by show a.length - (v + 1) < a.length - v; omega, Ent.sub ?_ ?_⟩
          · rw [hnx, hb0]
          · (repeat' (first | exact trivial | exact rfl | refine And.intro ?_ ?_))
            rw [hnx, hu0]; rfl
      · (repeat' (first | exact trivial | exact fun h => h | refine And.intro ?_ ?_ | (intro hb; try simp at hb) | omega | exact rfl | exact Nat.le_refl _ | (show _ + 1 ≤ 4294967296; omega) | (show _ + 1 ≤ 5864062014634; omega) | (dsimp only; omega) | (show (_ : Int) ≤ (_ : Int); omega) | (show _ < List.length _; simp only [List.length_set, List.length_append, List.length_take]; omega) | (show wantB _ _ = true; simp <;> omega) | (show (_ : Bool) = _; simp_all; done) | (exfalso; omega) | refine aRegion_auto (by decide +kernel) ?_ | fail))
        any_goals (first | exact Int.le_refl _ | (show (_ : Int) ≤ ((List.length a : Nat) : Int); omega))
        refine aact_clear (el := 46) tabOk (tok := 0) (off := u) (len := a.length - u) (e := SpT) (xs := b) ?_ ?_ ?_ ?_ ?_ ?_
        · show AV.ref 0 (0 + (u : Int).toNat) (((List.length a : Nat) : Int).toNat - (u : Int).toNat) = .ref 0 u (a.length - u)
          rw [Int.toNat_natCast, Int.toNat_natCast, Nat.zero_add]
        · rfl
        · show u + (a.length - u) ≤ b.length
          omega
        · kernel_rfl
        · kernel_rfl
        · (repeat' (first | exact trivial | exact fun h => h | refine And.intro ?_ ?_ | (intro hb; try simp at hb) | omega | exact rfl | exact Nat.le_refl _ | (show _ + 1 ≤ 4294967296; omega) | (show _ + 1 ≤ 5864062014634; omega) | (dsimp only; omega) | (show (_ : Int) ≤ (_ : Int); omega) | (show _ < List.length _; simp only [List.length_set, List.length_append, List.length_take]; omega) | (show wantB _ _ = true; simp <;> omega) | (show (_ : Bool) = _; simp_all; done) | (exfalso; omega) | refine aRegion_auto (by decide +kernel) ?_ | fail))
          refine ⟨_, _, REnt.refl _ _ _, ?_⟩
          refine (show K (.ref 0 0 u) [AO.row SpT (b.take u ++ List.replicate (a.length - u) SpT.dft ++ b.drop (u + (a.length - u)))] from ?_)
          rw [hce (by omega)] at hK
          exact hK
    · have hs : Shp.at_ a k ≠ Shp.at_ a (k + 1) := by
        rw [q1, q2, eqS] at hb
        exact fun h => of_decide_eq_false hb h.symm
      clear hb
      (repeat' (first | exact trivial | exact fun h => h | refine And.intro ?_ ?_ | (intro hb; try simp at hb) | omega | exact rfl | exact Nat.le_refl _ | (show _ + 1 ≤ 4294967296; omega) | (show _ + 1 ≤ 5864062014634; omega) | (dsimp only; omega) | (show (_ : Int) ≤ (_ : Int); omega) | (show _ < List.length _; simp only [List.length_set, List.length_append, List.length_take]; omega) | (show wantB _ _ = true; simp <;> omega) | (show (_ : Bool) = _; simp_all; done) | (exfalso; omega) | refine aRegion_auto (by decide +kernel) ?_ | fail))
      refine ⟨k + 1, ⟨by show k + 1 + 1 ≤ a.length; omega, fun j hj => ?_⟩, by show a.length - (k + 1) < a.length - k; omega, Ent.sub rfl ?_⟩
      · by_cases e : j = k
        · rw [e]; exact hs
        · have hj : j < k + 1 := hj
          exact hd j (by omega)
      · (repeat' (first | exact trivial | exact rfl | refine And.intro ?_ ?_))
  · (repeat' (first | exact trivial | exact fun h => h | refine And.intro ?_ ?_ | (intro hb; try simp at hb) | omega | exact rfl | exact Nat.le_refl _ | (show _ + 1 ≤ 4294967296; omega) | (show _ + 1 ≤ 5864062014634; omega) | (dsimp only; omega) | (show (_ : Int) ≤ (_ : Int); omega) | (show _ < List.length _; simp only [List.length_set, List.length_append, List.length_take]; omega) | (show wantB _ _ = true; simp <;> omega) | (show (_ : Bool) = _; simp_all; done) | (exfalso; omega) | refine aRegion_auto (by decide +kernel) ?_ | fail))
    refine ⟨_, _, REnt.refl _ _ _, ?_⟩
    rw [cmpF_no fun j hj => hd j (by omega)] at hK
    exact hK
end Go.Proofs.YtcfalmdfohphoaaDoor
/-
  Places counted: is a place met more than once?
-/
namespace Go.Proofs.YtcfalmdfohphoaaDoor
open Go Go.Ab Mp
set_option maxRecDepth 100000
/-- places whose coordinates are 64-bit numbers -/
def spG (p : Int × Int) : Prop := (-9223372036854775808 ≤ p.1 ∧ p.1 ≤ 9223372036854775807) ∧ (-9223372036854775808 ≤ p.2 ∧ p.2 ≤ 9223372036854775807)
theorem spG_of {p : Int × Int} (h : plB p = true) : spG p := by
  obtain ⟨⟨a, b⟩, c, d⟩ := plB_iff.1 h
  exact ⟨⟨by omega, by omega⟩, by omega, by omega⟩
theorem spG_ok (p : Int × Int) (h : spG p) : ∃ l, keyOf Tryd.prog 46 (kvS p) = some l := keyS_ok h.1 h.2
theorem kvS_in (p q : Int × Int) (h : kvS p = kvS q) : p = q := kvS_inj.1 h
theorem rel_kvS {x y : Int} : ∀ (c : Cx) v, Rel c (.agg [.fz (.int .i64) x, .fz (.int .i64) y]) v → v = kvS (x, y) := fun _ _ h => by
  unfold Rel at h
  obtain ⟨vs, rfl, h⟩ := h
  unfold RelL at h
  obtain ⟨a, r, rfl, h1, h⟩ := h
  unfold RelL at h
  obtain ⟨b, r, rfl, h2, h⟩ := h
  unfold RelL at h
  subst h
  rw [rel_int.1 h1, rel_int.1 h2]; rfl
theorem zero_int (c : Cx) : ∃ zv, (zeroValue 3).run Tryd.prog c.w = .ok zv c.w ∧ Rel c (.fz (.int .i64) (0 : Int)) zv := ⟨.int .i64 0, by kernel_rfl, rel_int.2 rfl⟩
abbrev CnS := List (Nat × (Int × Int) × Int)
abbrev cnO (bm clk : Nat) (S : CnS) : AO := mpK kvS (fun v : Int => .fz int v) bm clk S
theorem cn_same {bm clk : Nat} {S : CnS} (f : Nat → Nat) : mapO f (cnO bm clk S) = cnO bm clk S := mpK_same (t := int) (g := fun v => v) f
theorem cn_ok {bm clk n : Nat} {S : CnS} : okLB n (cnO bm clk S).vals = true := mpK_ok (t := int) (g := fun v => v)
theorem valid1_any (G : List (Nat × Value)) (p : Int × Int) (bm clk : Nat) (S : CnS) (hM : MO spG clk S) (hp : spG p) (K : AV → List AO → Prop) (hK : K (.fz .bool (decide (1 < gv S p 0))) [.box [.ptr 1 0], cnO bm clk S]) :
    ACall Tryd.prog G 38 [.fz SpT p, .ptr 0 0] [.box [.ptr 1 0], cnO bm clk S] K := by
  refine acall_mk (E := envAt G 8 2) (envOk _ _ _) Tryd.func38 rfl rfl rfl rfl rfl ?_
  refine aact_lookG p (d := (0 : Int)) (tok := 1) (off := 0) (bm := bm) (clk := clk) (S := S) ?_ ?_ hM Tryd.underlying68 keyedS kvS_in spG_ok rel_kvS hp zero_int ?_
  · rfl
  · rfl
  (repeat' (first | exact trivial | exact fun h => h | refine And.intro ?_ ?_ | (intro hb; try simp at hb) | omega | exact rfl | exact Nat.le_refl _ | (show _ + 1 ≤ 4294967296; omega) | (show _ + 1 ≤ 5864062014634; omega) | (dsimp only; omega) | (show (_ : Int) ≤ (_ : Int); omega) | (show _ < List.length _; simp only [List.length_set, List.length_append, List.length_take]; omega) | (show wantB _ _ = true; simp <;> omega) | (show (_ : Bool) = _; simp_all; done) | (exfalso; omega) | refine aRegion_auto (by decide +kernel) ?_ | fail))
  refine ⟨.fz .bool (decide (1 < gv S p 0)), [.box [.ptr 1 0], cnO bm clk S], REnt.ren [0, 1] rfl ?_ ⟨rfl, rfl⟩, hK⟩
  (repeat' (first | exact trivial | exact rfl | refine And.intro ?_ ?_))
  · exact congrArg some (cn_same _).symm
  · exact cn_ok (bm := bm) (clk := clk)
theorem indexFuncV_any (G : List (Nat × Value)) (xs : List (Int × Int)) (bm clk : Nat) (S : CnS) (hM : MO spG clk S) (hp : ∀ p ∈ xs, spG p) (hl : xs.length ≤ 1000000000000) (K : AV → List AO → Prop) (hK : K (.fz int (idxS (fun p => decide (1 < gv S p 0)) xs)) [.box [.ptr 1 0], cnO bm clk S]) :
    ACall Tryd.prog G 55 [.fz (.list SpT) xs, .fn 38 [.ptr 0 0]] [.box [.ptr 1 0], cnO bm clk S] K := by
  let fn : AV := .fn 38 [.ptr 0 0]
  obtain ⟨f, hf⟩ : ∃ f : Int × Int → Bool, f = fun p => decide (1 < gv S p 0) := ⟨_, rfl⟩
  rw [← hf] at hK
  refine acall_mk (E := envAt G 19 2) (envOk _ _ _) Tryd.func55 rfl rfl rfl rfl rfl ?_
  (repeat' (first | exact trivial | exact fun h => h | refine And.intro ?_ ?_ | (intro hb; try simp at hb) | omega | exact rfl | exact Nat.le_refl _ | (show _ + 1 ≤ 4294967296; omega) | (show _ + 1 ≤ 5864062014634; omega) | (dsimp only; omega) | (show (_ : Int) ≤ (_ : Int); omega) | (show _ < List.length _; simp only [List.length_set, List.length_append, List.length_take]; omega) | (show wantB _ _ = true; simp <;> omega) | (show (_ : Bool) = _; simp_all; done) | (exfalso; omega) | refine aRegion_auto (by decide +kernel) ?_ | fail))
  refine ⟨Nat, fun k => ⟨[(0, .fz (.list SpT) xs), (1, fn), (7, .fz int xs.length), (8, .fz int k)], [.box [.ptr 1 0], cnO bm clk S]⟩, fun k => k ≤ xs.length ∧ ∀ j, j < k → f (Shp.at_ xs j) = false, fun k => xs.length - k, 0, ⟨Nat.zero_le _, fun j h => absurd h (Nat.not_lt_zero _)⟩, Ent.sub rfl ?_, ?_⟩
  · (repeat' (first | exact trivial | exact rfl | refine And.intro ?_ ?_))
  intro k ⟨hk, hq⟩
  have hk : k ≤ xs.length := hk
  have hq : ∀ j, j < k → f (Shp.at_ xs j) = false := hq
  show awp _ _ _ ⟨[(0, .fz (.list SpT) xs), (1, fn), (7, .fz int xs.length), (8, .fz int k)], [.box [.ptr 1 0], cnO bm clk S]⟩
  by_cases hkl : k < xs.length
  · obtain ⟨a, ha⟩ : ∃ a, Shp.at_ xs k = a := ⟨_, rfl⟩
    have hg : List.getD xs (Int.toNat (k : Int)) SpT.dft = a := ha
    have hx : a = xs[k] := by rw [← ha]; unfold Shp.at_; rw [List.getD_eq_getElem?_getD, List.getElem?_eq_getElem hkl]; rfl
    (repeat' (first | exact trivial | exact fun h => h | refine And.intro ?_ ?_ | (intro hb; try simp at hb) | omega | exact rfl | exact Nat.le_refl _ | (show _ + 1 ≤ 4294967296; omega) | (show _ + 1 ≤ 5864062014634; omega) | (dsimp only; omega) | (show (_ : Int) ≤ (_ : Int); omega) | (show _ < List.length _; simp only [List.length_set, List.length_append, List.length_take]; omega) | (show wantB _ _ = true; simp <;> omega) | (show (_ : Bool) = _; simp_all; done) | (exfalso; omega) | refine aRegion_auto (by decide +kernel) ?_ | fail))
    rw [hg]
    refine valid1_any _ a bm clk S hM (hp a (by rw [hx]; exact List.getElem_mem _)) _ ?_
    rw [show decide (1 < gv S a 0) = f a by rw [hf]]
    cases hfa : f a with
    | true =>
      have e : idxS f xs = k := by
        unfold idxS
        have : xs.findIdx? f = some k := by
          rw [List.findIdx?_eq_some_iff_getElem]
          refine ⟨hkl, by rw [← hx]; exact hfa, fun j hj => ?_⟩
          have := hq j hj
          unfold Shp.at_ at this
          rw [List.getD_eq_getElem?_getD, List.getElem?_eq_getElem (by omega)] at this
          exact Bool.not_eq_true _ ▸ this
        rw [this]
      rw [e] at hK
      (repeat' (first | exact trivial | exact fun h => h | refine And.intro ?_ ?_ | (intro hb; try simp at hb) | omega | exact rfl | exact Nat.le_refl _ | (show _ + 1 ≤ 4294967296; omega) | (show _ + 1 ≤ 5864062014634; omega) | (dsimp only; omega) | (show (_ : Int) ≤ (_ : Int); omega) | (show _ < List.length _; simp only [List.length_set, List.length_append, List.length_take]; omega) | (show wantB _ _ = true; simp <;> omega) | (show (_ : Bool) = _; simp_all; done) | (exfalso; omega) | refine aRegion_auto (by decide +kernel) ?_ | fail))
      refine ⟨_, _, REnt.refl _ _ _, hK⟩
    | false =>
      (repeat' (first | exact trivial | exact fun h => h | refine And.intro ?_ ?_ | (intro hb; try simp at hb) | omega | exact rfl | exact Nat.le_refl _ | (show _ + 1 ≤ 4294967296; omega) | (show _ + 1 ≤ 5864062014634; omega) | (dsimp only; omega) | (show (_ : Int) ≤ (_ : Int); omega) | (show _ < List.length _; simp only [List.length_set, List.length_append, List.length_take]; omega) | (show wantB _ _ = true; simp <;> omega) | (show (_ : Bool) = _; simp_all; done) | (exfalso; omega) | refine aRegion_auto (by decide +kernel) ?_ | fail))
      refine ⟨k + 1, ⟨by show k + 1 ≤ xs.length; omega, fun j hj => ?_⟩, by show xs.length - (k + 1) < xs.length - k; omega, Ent.sub rfl ?_⟩
      · by_cases c : j = k
        · rw [c, ha]; exact hfa
        · have hj : j < k + 1 := hj
          exact hq j (by omega)
      · (repeat' (first | exact trivial | exact rfl | refine And.intro ?_ ?_))
  · have e : idxS f xs = -1 := by
      unfold idxS
      have : xs.findIdx? f = none := by
        rw [List.findIdx?_eq_none_iff]
        intro x hx
        obtain ⟨j, hj, rfl⟩ := List.getElem_of_mem hx
        have := hq j (by omega)
        unfold Shp.at_ at this
        rw [List.getD_eq_getElem?_getD, List.getElem?_eq_getElem hj] at this
        exact this
      rw [this]
    rw [e] at hK
    (repeat' (first | exact trivial | exact fun h => h | refine And.intro ?_ ?_ | (intro hb; try simp at hb) | omega | exact rfl | exact Nat.le_refl _ | (show _ + 1 ≤ 4294967296; omega) | (show _ + 1 ≤ 5864062014634; omega) | (dsimp only; omega) | (show (_ : Int) ≤ (_ : Int); omega) | (show _ < List.length _; simp only [List.length_set, List.length_append, List.length_take]; omega) | (show wantB _ _ = true; simp <;> omega) | (show (_ : Bool) = _; simp_all; done) | (exfalso; omega) | refine aRegion_auto (by decide +kernel) ?_ | fail))
    refine ⟨_, _, REnt.refl _ _ _, hK⟩
theorem containsFuncV_any (G : List (Nat × Value)) (xs : List (Int × Int)) (bm clk : Nat) (S : CnS) (hM : MO spG clk S) (hp : ∀ p ∈ xs, spG p) (hl : xs.length ≤ 1000000000000) (K : AV → List AO → Prop) (hK : K (.fz .bool (xs.any fun p => decide (1 < gv S p 0))) [.box [.ptr 1 0], cnO bm clk S]) :
    ACall Tryd.prog G 35 [.fz (.list SpT) xs, .fn 38 [.ptr 0 0]] [.box [.ptr 1 0], cnO bm clk S] K := by
  refine acall_mk (E := envAt G 9 2) (envOk _ _ _) Tryd.func35 rfl rfl rfl rfl rfl ?_
  (repeat' (first | exact trivial | exact fun h => h | refine And.intro ?_ ?_ | (intro hb; try simp at hb) | omega | exact rfl | exact Nat.le_refl _ | (show _ + 1 ≤ 4294967296; omega) | (show _ + 1 ≤ 5864062014634; omega) | (dsimp only; omega) | (show (_ : Int) ≤ (_ : Int); omega) | (show _ < List.length _; simp only [List.length_set, List.length_append, List.length_take]; omega) | (show wantB _ _ = true; simp <;> omega) | (show (_ : Bool) = _; simp_all; done) | (exfalso; omega) | refine aRegion_auto (by decide +kernel) ?_ | fail))
  refine indexFuncV_any G xs bm clk S hM hp hl _ ?_
  (repeat' (first | exact trivial | exact fun h => h | refine And.intro ?_ ?_ | (intro hb; try simp at hb) | omega | exact rfl | exact Nat.le_refl _ | (show _ + 1 ≤ 4294967296; omega) | (show _ + 1 ≤ 5864062014634; omega) | (dsimp only; omega) | (show (_ : Int) ≤ (_ : Int); omega) | (show _ < List.length _; simp only [List.length_set, List.length_append, List.length_take]; omega) | (show wantB _ _ = true; simp <;> omega) | (show (_ : Bool) = _; simp_all; done) | (exfalso; omega) | refine aRegion_auto (by decide +kernel) ?_ | fail))
  refine ⟨_, _, REnt.refl _ _ _, ?_⟩
  refine kbl hK ?_
  generalize (fun p => decide (1 < gv S p 0)) = f
  symm
  show decide ((0 : Int) ≤ idxS f xs) = xs.any f
  unfold idxS
  cases h : xs.findIdx? f with
  | none =>
    rw [List.findIdx?_eq_none_iff] at h
    have hn : xs.any f = false := List.any_eq_false.2 fun x hx => by simpa using h x hx
    rw [hn]; rfl
  | some i =>
    obtain ⟨h1, h2, _⟩ := List.findIdx?_eq_some_iff_getElem.1 h
    have hn : xs.any f = true := List.any_eq_true.2 ⟨_, List.getElem_mem h1, h2⟩
    rw [hn]; exact decide_eq_true (show (0 : Int) ≤ ((i : Nat) : Int) by omega)
theorem containsV_lend (G : List (Nat × Value)) (m : List (List (Int × Int))) (xs : List (Int × Int)) (bm clk : Nat) (S : CnS) (hM : MO spG clk S) (hp : ∀ p ∈ xs, spG p) (hl : xs.length ≤ 1000000000000) (K : AV → List AO → Prop)
    (hK : K (.fz .bool (xs.any fun p => decide (1 < gv S p 0))) [.box [.fz (.list (.list SpT)) m], cnO bm clk S, .box [.ptr 1 0]]) :
    ACall Tryd.prog G 35 [.fz (.list SpT) xs, .fn 38 [.ptr 2 0]] [.box [.fz (.list (.list SpT)) m], cnO bm clk S, .box [.ptr 1 0]] K := by
  refine acall_frame [2, 1] [.box [.ptr 1 0], cnO bm clk S] [.fz (.list SpT) xs, .fn 38 [.ptr 0 0]] rfl ⟨⟨rfl, rfl⟩, ⟨congrArg some (cn_same _).symm, cn_ok (bm := bm) (clk := clk)⟩, trivial⟩ ⟨rfl, ?_⟩ rfl (containsFuncV_any G xs bm clk S hM hp hl _ ?_)
  · simp only [List.all_cons, List.all_nil, Bool.and_true]
    show (true && okLB 2 (cnO bm clk S).vals) = true
    rw [cn_ok (bm := bm) (clk := clk)]; rfl
  · show K (.fz .bool (xs.any fun p => decide (1 < gv S p 0))) [.box [.fz (.list (.list SpT)) m], mapO _ (cnO bm clk S), .box [.ptr 1 0]]
    rw [cn_same]
    exact hK
end Go.Proofs.YtcfalmdfohphoaaDoor
/-
  States whose memory ends in a list that is not written out, on: boxes there (made, written, read), told by equations.
-/
namespace Go.Ab
open Go
section
variable {P : Program} {D : Tab} {G : List (Nat × Value)} {N : Nat} {L : List Oper} {o : Oper} {os : List Oper} {T : List (Nat × AV)} {A : List AO} {Q : List (Nat × AV) → List AO → Prop}
theorem aOps_pureE {d : Nat} {v : AV} (hd : o.dst = some d) (hN : Nat.blt d N = true) (hg : o.guard = none) (hk : aKind D A T o.op = .pure) (hp : apure D G A T o.op = (none, v)) (h : aOps P D G N L os ((d, v) :: T) A Q) (hna : isAddO o = false := by rfl) : aOps P D G N L (o :: os) T A Q := by
  unfold aOps
  rw [hd]
  simp only [hN]
  rw [sgRun_ag hna]
  unfold agRun
  rw [hg]
  simp only
  unfold aRun
  rw [hk]
  simp only
  rw [hp]
  unfold runP
  simp only
  rw [forceV_eq]
  exact h
theorem aOps_effN {e : ER} (hd : o.dst = none) (hg : o.guard = none) (hk : aKind D A T o.op = .eff e) (h : runE e fun _ A' => aOps P D G N L os T A' Q) : aOps P D G N L (o :: os) T A Q := by
  unfold aOps
  rw [hd]
  simp only []
  rw [sgRun_ag (isAdd_not (D := D) (A := A) (T := T) (by rw [hk]; exact fun h => by cases h))]
  unfold agRun
  rw [hg]
  simp only
  unfold aRun
  rw [hk]
  exact h
theorem aAlloc_eq {t : TypeId} {z : List AV} (hz : tzero D t = some z) : aAlloc D A t = ⟨none, .ptr A.length 0, A ++ [.box z]⟩ := by unfold aAlloc; rw [hz]
/-- a whole box is written -/
theorem aStore_eq {t : TypeId} {tok : Nat} {vs : List AV} {v : AV} (hb : A[tok]? = some (.box vs)) (hs : Nat.blt 0 (tsz D t) = true) (hf : goodC A (acells v) = true) (h1 : (acells v).length = tsz D t) (h2 : vs.length = tsz D t) :
    aStore D A t (.ptr tok 0) v = ⟨none, .unk, A.set tok (.box (acells v))⟩ := by
  unfold aStore
  rw [hs]
  simp only
  rw [hb]
  simp only
  have hfit : fits A (acells v) (tsz D t) 0 vs.length = true := by
    unfold fits
    rw [hf, h1, h2]
    simp
  rw [hfit]
  unfold setRange
  rw [List.take_zero, List.nil_append, List.drop_eq_nil_of_le (by omega), List.append_nil]
  rfl
theorem aLoad_eq {t : TypeId} {tok : Nat} {vs : List AV} (hb : A[tok]? = some (.box vs)) (ha : tagg D t = some true) (hs : Nat.blt 0 (tsz D t) = true) (h2 : vs.length = tsz D t) : aLoad D G A t (.ptr tok 0) = (none, .agg vs) := by
  unfold aLoad
  rw [ha]
  simp only
  rw [hb]
  simp only
  have hg : (Nat.blt 0 (tsz D t) && Nat.ble (0 + tsz D t) vs.length) = true := by rw [hs, h2]; simp
  rw [hg]
  show (none, AV.agg (List.take (tsz D t) (List.drop 0 vs))) = (none, AV.agg vs)
  rw [List.drop_zero, ← h2, List.take_length]
theorem aReg_ops (h : aOps P D G N L L T A Q) : aReg P D G N L false T A Q := h
theorem aOps_mop {d : Nat} (hd : o.dst = some d) (hN : Nat.blt d N = true) (hg : o.guard = none) (hk : aKind D A T o.op = .mop) (h : AAct P G A T o.op fun v A' => aOps P D G N L os ((d, v) :: T) A' Q) : aOps P D G N L (o :: os) T A Q := by
  unfold aOps
  rw [hd]
  simp only [hN]
  rw [sgRun_ag (isAdd_not (D := D) (A := A) (T := T) (by rw [hk]; exact fun h => by cases h))]
  unfold agRun
  rw [hg]
  simp only
  unfold aRun
  rw [hk]
  exact h.mono fun r A' hr => force_of _ _ _ hr
theorem aOps_mopN (hd : o.dst = none) (hg : o.guard = none) (hk : aKind D A T o.op = .mop) (h : AAct P G A T o.op fun _ A' => aOps P D G N L os T A' Q) : aOps P D G N L (o :: os) T A Q := by
  unfold aOps
  rw [hd]
  simp only []
  rw [sgRun_ag (isAdd_not (D := D) (A := A) (T := T) (by rw [hk]; exact fun h => by cases h))]
  unfold agRun
  rw [hg]
  simp only
  unfold aRun
  rw [hk]
  exact h.mono fun r A' hr => force_of r A' (fun _ A' => aOps P D G N L os T A' Q) hr
end
end Go.Ab
/-
  Sums that may wrap around (where a mark lies in the state).
-/
namespace Go.Ab
open Go
section
variable {P : Program} {G : List (Nat × Value)} {A : List AO} {T : List (Nat × AV)} {Kk : AV → List AO → Prop}
theorem aact_addW {t z : TypeId} {x y : Operand} {a b : Int} (hx : ev T x = .fz (.int .i64) a) (hy : ev T y = .fz (.int .i64) b) (h : Kk (.fz (.int .i64) (IntKind.i64.wrap (a + b))) A) : AAct P G A T (.binOp .add t x y z) Kk := by
  refine ⟨?_⟩
  rintro c ac ⟨dst, op, type, pos, after, guard⟩ H hA hG rfl hT
  have rx := hT x (by simp [Op.operands])
  have ry := hT y (by simp [Op.operands])
  rw [hx] at rx
  rw [hy] at ry
  have rx := rel_int.1 rx
  have ry := rel_int.1 ry
  subst hA
  refine ⟨c, .value (.int .i64 (IntKind.i64.wrap (a + b))), .int .i64 (IntKind.i64.wrap (a + b)), _, ?_, .inl rfl, Ext.refl c, H, rel_int.2 rfl, h⟩
  simp [execOp, rx, ry, eqGuard, binOp, Op.intArith]
end
/-- 64 bits of a number -/
def wr (n : Nat) : Int := IntKind.i64.wrap (n : Int)
theorem wr_small {n : Nat} (h : n ≤ 9223372036854775807) : wr n = (n : Int) := by unfold wr; exact I64.wrap (by unfold I64; omega)
theorem wr_add (n k : Nat) : IntKind.i64.wrap (wr n + (k : Int)) = wr (n + k) := by
  unfold wr
  simp only [IntKind.wrap, IntKind.bits, IntKind.signed]
  simp
  omega
theorem wr_bd (n : Nat) : -9223372036854775808 ≤ wr n ∧ wr n ≤ 9223372036854775807 := by
  unfold wr
  simp only [IntKind.wrap, IntKind.bits, IntKind.signed]
  simp
  omega
end Go.Ab
/-
  Is a map valid: what is asked, plainly.
-/
namespace Shp
def tot (m : Arcs) (i : Nat) : Nat := ((m.take i).map List.length).sum
theorem tot_zero (m : Arcs) : tot m 0 = 0 := by simp [tot]
theorem tot_next {m : Arcs} {i : Nat} (h : i < m.length) : tot m (i + 1) = tot m i + (arc m i).length := by
  unfold tot
  rw [List.take_add_one, List.getElem?_eq_getElem h]
  have : arc m i = m[i] := by unfold arc; rw [List.getD_eq_getElem?_getD, List.getElem?_eq_getElem h]; rfl
  rw [this, List.map_append, List.sum_append]
  simp only [Option.toList_some, List.map_cons, List.map_nil, List.sum_cons, List.sum_nil, Nat.add_zero]
theorem tot_le {m : Arcs} : ∀ (d i : Nat), tot m i ≤ tot m (i + d)
  | 0, i => Nat.le_refl _
  | d + 1, i => by
    refine Nat.le_trans (tot_le d i) ?_
    rcases Nat.lt_or_ge (i + d) m.length with h | h
    · rw [← Nat.add_assoc, tot_next h]; omega
    · unfold tot
      rw [List.take_of_length_le (by omega), List.take_of_length_le (by omega)]
      exact Nat.le_refl _
theorem tot_full {m : Arcs} {i : Nat} (h : i ≤ m.length) : tot m i ≤ tot m m.length := by
  have := tot_le (m := m) (m.length - i) i
  rwa [show i + (m.length - i) = m.length by omega] at this
theorem len_tot {m : Arcs} {i : Nat} (h : i < m.length) : (arc m i).length ≤ tot m m.length := by
  have h1 := tot_next h
  have h2 := tot_full (m := m) (i := i + 1) (by omega)
  omega
theorem tot_big {m : Arcs} {b : Nat} (h : ∀ i, i < m.length → (arc m i).length ≤ b) : ∀ i, i ≤ m.length → tot m i ≤ i * b
  | 0, _ => by rw [tot_zero]; exact Nat.zero_le _
  | i + 1, hi => by
    have := tot_big h i (by omega)
    have h2 := h i (by omega)
    rw [tot_next (by omega), Nat.succ_mul]
    omega
theorem tot_wr {m : Arcs} (h : ∀ i, i < m.length → (arc m i).length ≤ 8796093022208) (hl : m.length ≤ 70) : Go.Ab.wr (tot m m.length) = (tot m m.length : Int) := by
  have h1 := tot_big h m.length (Nat.le_refl _)
  have h2 : m.length * 8796093022208 ≤ 70 * 8796093022208 := Nat.mul_le_mul_right _ hl
  exact Go.Ab.wr_small (by omega)
def twin (a : List Sp) : Prop := ∃ j, j + 1 < a.length ∧ at_ a j = at_ a (j + 1)
instance (a : List Sp) : Decidable (twin a) := decidable_of_iff ((List.range a.length).any fun j => decide (j + 1 < a.length) && decide (at_ a j = at_ a (j + 1)) = true) (by
  unfold twin
  simp only [List.any_eq_true, List.mem_range, Bool.and_eq_true, decide_eq_true_eq]
  constructor
  · rintro ⟨j, _, h⟩; exact ⟨j, h⟩
  · rintro ⟨j, h⟩; exact ⟨j, by omega, h⟩)
/-- an arc that is none -/
def badA (g : Sp → Bool) (a : List Sp) : Bool := decide (a.length < 2) || (a.any g || ((decide (at_ a 0 = at_ a (a.length - 1)) && decide (a.length < 4)) || decide (twin a)))
theorem badA_iff (g : Sp → Bool) (a : List Sp) : badA g a = false ↔ 2 ≤ a.length ∧ (∀ t, t < a.length → g (at_ a t) = false) ∧ ¬ (at_ a 0 = at_ a (a.length - 1) ∧ a.length < 4) ∧ ∀ j, j + 1 < a.length → at_ a j ≠ at_ a (j + 1) := by
  unfold badA
  simp only [Bool.or_eq_false_iff, Bool.and_eq_false_iff, decide_eq_false_iff_not, List.any_eq_false, Bool.not_eq_true]
  constructor
  · rintro ⟨h1, h2, h3, h4⟩
    refine ⟨by omega, fun t ht => h2 _ ?_, ?_, fun j hj e => h4 ⟨j, hj, e⟩⟩
    · unfold at_; rw [List.getD_eq_getElem?_getD, List.getElem?_eq_getElem ht]; exact List.getElem_mem ht
    · rintro ⟨a1, a2⟩; rcases h3 with h | h
      · exact h a1
      · exact h a2
  · rintro ⟨h1, h2, h3, h4⟩
    refine ⟨by omega, fun x hx => ?_, ?_, fun ⟨j, hj, e⟩ => h4 j hj e⟩
    · obtain ⟨t, ht, rfl⟩ := List.getElem_of_mem hx
      have := h2 t ht
      unfold at_ at this
      rwa [List.getD_eq_getElem?_getD, List.getElem?_eq_getElem ht] at this
    · by_cases c : at_ a 0 = at_ a (a.length - 1)
      · exact .inr fun h => h3 ⟨c, h⟩
      · exact .inl c
open Classical in
/-- 0, or the number of an error -/
noncomputable def vE (g : Sp → Bool) (m : Arcs) : Nat := if 60 < m.length ∨ 4000 < tot m m.length then 2 else if ∃ i, i < m.length ∧ badA g (arc m i) = true then 3 else if noMeet m ∧ inOnce m then 0 else 7
theorem vE_bound {g : Sp → Bool} {m : Arcs} (h : 60 < m.length ∨ 4000 < tot m m.length) : vE g m = 2 := by unfold vE; rw [if_pos h]
theorem vE_shape {g : Sp → Bool} {m : Arcs} (h : ¬ (60 < m.length ∨ 4000 < tot m m.length)) (h' : ∃ i, i < m.length ∧ badA g (arc m i) = true) : vE g m = 3 := by unfold vE; rw [if_neg h, if_pos h']
theorem vE_order {g : Sp → Bool} {m : Arcs} (h : ¬ (60 < m.length ∨ 4000 < tot m m.length)) (h' : ∀ i, i < m.length → badA g (arc m i) = false) (h2 : ¬ (noMeet m ∧ inOnce m)) : vE g m = 7 := by
  unfold vE; rw [if_neg h, if_neg (fun ⟨i, a, b⟩ => by rw [h' i a] at b; cases b), if_neg h2]
theorem vE_ok {g : Sp → Bool} {m : Arcs} (h : ¬ (60 < m.length ∨ 4000 < tot m m.length)) (h' : ∀ i, i < m.length → badA g (arc m i) = false) (h2 : noMeet m ∧ inOnce m) : vE g m = 0 := by
  unfold vE; rw [if_neg h, if_neg (fun ⟨i, a, b⟩ => by rw [h' i a] at b; cases b), if_pos h2]
/-- all that a valid map is -/
theorem vE_zero {g : Sp → Bool} {m : Arcs} (h : vE g m = 0) : (m.length ≤ 60 ∧ tot m m.length ≤ 4000) ∧ (∀ i, i < m.length → badA g (arc m i) = false) ∧ noMeet m ∧ inOnce m := by
  unfold vE at h
  by_cases h1 : 60 < m.length ∨ 4000 < tot m m.length
  · rw [if_pos h1] at h; cases h
  · rw [if_neg h1] at h
    by_cases h2 : ∃ i, i < m.length ∧ badA g (arc m i) = true
    · rw [if_pos h2] at h; cases h
    · rw [if_neg h2] at h
      by_cases h3 : noMeet m ∧ inOnce m
      · exact ⟨⟨by omega, by omega⟩, fun i hi => Bool.eq_false_iff.2 fun c => h2 ⟨i, hi, c⟩, h3⟩
      · rw [if_neg h3] at h; cases h
theorem vE_le (g : Sp → Bool) (m : Arcs) : vE g m ≤ 7 := by
  unfold vE
  split
  · omega
  · split
    · omega
    · split <;> omega
/-! ### pieces in a list -/
theorem mem_pcs {m : Arcs} {x : Pc} : ∀ i, x ∈ pcs m i ↔ ∃ j n, j < i ∧ n + 1 < (arc m j).length ∧ x = (pt m j n, pt m j (n + 1), (j : Int), (n : Int))
  | 0 => by simp [pcs]
  | i + 1 => by
    rw [pcs, List.mem_append, mem_pcs i]
    unfold pcA
    simp only [List.mem_map, List.mem_range]
    constructor
    · rintro (⟨j, n, a, b, c⟩ | ⟨n, a, b⟩)
      · exact ⟨j, n, by omega, b, c⟩
      · exact ⟨i, n, by omega, by omega, b.symm⟩
    · rintro ⟨j, n, a, b, c⟩
      by_cases e : j = i
      · subst e; exact .inr ⟨n, by omega, c.symm⟩
      · exact .inl ⟨j, n, by omega, b, c⟩
/-- two pieces do not meet -/
def apP (x y : Pc) : Prop := meet x.1 x.2.1 y.1 y.2.1 = false
theorem pcs_pw {m : Arcs} : ∀ i, (pcs m i).Pairwise apP ↔ ∀ j n p k, j < i → p < i → n + 1 < (arc m j).length → k + 1 < (arc m p).length → (j < p ∨ (j = p ∧ n < k)) → meet (pt m j n) (pt m j (n + 1)) (pt m p k) (pt m p (k + 1)) = false
  | 0 => by simp [pcs]
  | i + 1 => by
    rw [pcs, List.pairwise_append, pcs_pw i]
    unfold pcA
    rw [List.pairwise_map]
    constructor
    · rintro ⟨h1, h2, h3⟩ j n p k hj hp hn hk ho
      by_cases e : p = i
      · subst e
        by_cases e2 : j = p
        · subst e2
          have hnk : n < k := by omega
          have := List.pairwise_iff_getElem.1 h2 n k (by simp; omega) (by simp; omega) hnk
          simpa [apP, pt] using this
        · have ha := h3 (pt m j n, pt m j (n + 1), (j : Int), (n : Int)) ((mem_pcs p).2 ⟨j, n, by omega, hn, rfl⟩) (pt m p k, pt m p (k + 1), (p : Int), (k : Int)) (List.mem_map.2 ⟨k, by simp; omega, rfl⟩)
          exact ha
      · exact h1 j n p k (by omega) (by omega) hn hk ho
    · intro h
      refine ⟨fun j n p k hj hp => h j n p k (by omega) (by omega), ?_, ?_⟩
      · rw [List.pairwise_iff_getElem]
        intro n k hn hk hnk
        simp at hn hk
        simp only [List.getElem_range]
        exact h i n i k (by omega) (by omega) (by omega) (by omega) (.inr ⟨rfl, hnk⟩)
      · intro x hx y hy
        obtain ⟨j, n, a, b, rfl⟩ := (mem_pcs i).1 hx
        obtain ⟨k, c, rfl⟩ := List.mem_map.1 hy
        simp at c
        exact h j n i k (by omega) (by omega) b (by omega) (.inl a)
theorem pcs_no {m : Arcs} : (pcs m m.length).Pairwise apP ↔ noMeet m := by
  rw [pcs_pw]
  constructor
  · exact fun h i k j n hk hn ho => h j n i k hn.1 hk.1 hn.2 hk.2 ho
  · exact fun h j n p k hj hp hn hk ho => h p k j n ⟨hp, hk⟩ ⟨hj, hn⟩ ho
/-! ### inner places counted -/
def inn (a : List Sp) : List Sp := (a.drop 1).take (a.length - 2)
theorem inn_len (a : List Sp) : (inn a).length = a.length - 2 := by unfold inn; rw [List.length_take, List.length_drop]; omega
theorem inn_at {a : List Sp} {t : Nat} (h : t < a.length - 2) : at_ (inn a) t = at_ a (t + 1) := by
  unfold inn at_
  rw [List.getD_eq_getElem?_getD, List.getD_eq_getElem?_getD, List.getElem?_take, if_pos h, List.getElem?_drop, Nat.add_comm]
theorem inn_any {a : List Sp} {f : Sp → Bool} : (inn a).any f = true ↔ ∃ t, 0 < t ∧ t + 1 < a.length ∧ f (at_ a t) = true := by
  rw [List.any_eq_true]
  constructor
  · rintro ⟨x, hx, hf⟩
    obtain ⟨t, ht, rfl⟩ := List.getElem_of_mem hx
    have hl := inn_len a
    have e : (inn a)[t] = at_ a (t + 1) := by rw [← inn_at (by omega)]; unfold at_; rw [List.getD_eq_getElem?_getD, List.getElem?_eq_getElem ht]; rfl
    exact ⟨t + 1, by omega, by omega, by rw [← e]; exact hf⟩
  · rintro ⟨t, h0, h1, hf⟩
    have hl := inn_len a
    have hlt : t - 1 < (inn a).length := by omega
    have e : (inn a)[t - 1] = at_ a t := by
      have := inn_at (a := a) (t := t - 1) (by omega)
      rw [show t - 1 + 1 = t by omega] at this
      rw [← this]; unfold at_; rw [List.getD_eq_getElem?_getD, List.getElem?_eq_getElem hlt]; rfl
    exact ⟨_, List.getElem_mem hlt, by rw [e]; exact hf⟩
theorem inn_once {m : Arcs} : inOnce m ↔ ∀ i, i < m.length → (inn (arc m i)).any (fun p => decide ((1 : Int) < (m.flatten.count p : Nat))) = false := by
  rw [inOnce_iff]
  constructor
  · intro h i hi
    refine Bool.eq_false_iff.2 fun c => ?_
    obtain ⟨t, h0, h1, h2⟩ := inn_any.1 c
    refine h i t ⟨hi, by omega⟩ h0 h1 ?_
    have := of_decide_eq_true h2
    show 1 < m.flatten.count (at_ (arc m i) t)
    omega
  · intro h i t hi h0 h1 hc
    have := h i hi.1
    refine Bool.eq_false_iff.1 this (inn_any.2 ⟨t, h0, h1, decide_eq_true ?_⟩)
    show (1 : Int) < ((m.flatten.count (pt m i t) : Nat) : Int)
    omega
end Shp
/-
  What two pieces have in common: the walk of the document's.
-/
namespace Go.Proofs.YtcfalmdfohphoaaDoor
open Go Go.Ab
set_option maxRecDepth 100000
theorem with_any (G : List (Nat × Value)) (L : Pts) (hm : L.length ≤ 100) (x : Int × Int) (K : AV → List AO → Prop) (h1 : x ∈ L → K (.ref 0 0 L.length) [.row SpT L]) (h2 : x ∉ L → K (.ref 1 0 (L.length + 1)) [.dead, .row SpT (L ++ [x])]) :
    ACall Tryd.prog G 29 [.ref 0 0 L.length, .fz SpT x] [.row SpT L] K := by
  refine acall_mk (E := envAt G 23 1) (envOk _ _ _) Tryd.func29 rfl rfl rfl rfl rfl ?_
  (repeat' (first | exact trivial | exact fun h => h | refine And.intro ?_ ?_ | (intro hb; try simp at hb) | omega | exact rfl | exact Nat.le_refl _ | (show _ + 1 ≤ 4294967296; omega) | (show _ + 1 ≤ 5864062014634; omega) | (dsimp only; omega) | (show (_ : Int) ≤ (_ : Int); omega) | (show _ < List.length _; simp only [List.length_set, List.length_append, List.length_take]; omega) | (show wantB _ _ = true; simp <;> omega) | (show (_ : Bool) = _; simp_all; done) | (exfalso; omega) | refine aRegion_auto (by decide +kernel) ?_ | fail))
  refine ⟨Nat, fun k => ⟨[(0, .ref 0 0 L.length), (3, .ptr 1 0), (5, .fz int k)], [.row SpT L, .box [.fz int x.1, .fz int x.2]]⟩, fun k => k ≤ L.length ∧ ∀ j, j < k → Shp.at_ L j ≠ x, fun k => L.length - k, 0, ⟨Nat.zero_le _, fun j h => absurd h (Nat.not_lt_zero _)⟩, Ent.sub rfl ?_, ?_⟩
  · (repeat' (first | exact trivial | exact rfl | refine And.intro ?_ ?_))
  intro k ⟨hk, hno⟩
  by_cases hkl : k < L.length
  · have qk := at_q L k
    have eX := eqS (Shp.at_ L k) x
    (repeat' (first | exact trivial | exact fun h => h | refine And.intro ?_ ?_ | (intro hb; try simp at hb) | omega | exact rfl | exact Nat.le_refl _ | (show _ + 1 ≤ 4294967296; omega) | (show _ + 1 ≤ 5864062014634; omega) | (dsimp only; omega) | (show (_ : Int) ≤ (_ : Int); omega) | (show _ < List.length _; simp only [List.length_set, List.length_append, List.length_take]; omega) | (show wantB _ _ = true; simp <;> omega) | (show (_ : Bool) = _; simp_all; done) | (exfalso; omega) | refine aRegion_auto (by decide +kernel) ?_ | fail))
    · have e : Shp.at_ L k = x := by
        rw [qk, eX] at hb
        exact of_decide_eq_true hb
      refine ⟨_, _, REnt.ren [0] rfl ?_ ?_, h1 ?_⟩
      · (repeat' (first | exact trivial | exact rfl | refine And.intro ?_ ?_))
      · (repeat' (first | exact trivial | exact rfl | refine And.intro ?_ ?_))
      · rw [← e]
        have : Shp.at_ L k = L[k] := by unfold Shp.at_; simp [hkl]
        rw [this]; exact List.getElem_mem hkl
    · have e : Shp.at_ L k ≠ x := by
        rw [qk, eX] at hb
        exact of_decide_eq_false hb
      refine ⟨k + 1, ⟨by show k + 1 ≤ L.length; omega, fun j hj => ?_⟩, by show L.length - (k + 1) < L.length - k; omega, Ent.sub rfl ?_⟩
      · by_cases ej : j = k
        · rw [ej]; exact e
        · exact hno j (by omega)
      · (repeat' (first | exact trivial | exact rfl | refine And.intro ?_ ?_))
  · have hke : k = L.length := by omega
    have hnx : x ∉ L := fun hx => by
      obtain ⟨i, hi, rfl⟩ := List.getElem_of_mem hx
      have e : Shp.at_ L i = L[i] := by unfold Shp.at_; simp [hi]
      exact hno i (by omega) e
    (repeat' (first | exact trivial | exact fun h => h | refine And.intro ?_ ?_ | (intro hb; try simp at hb) | omega | exact rfl | exact Nat.le_refl _ | (show _ + 1 ≤ 4294967296; omega) | (show _ + 1 ≤ 5864062014634; omega) | (dsimp only; omega) | (show (_ : Int) ≤ (_ : Int); omega) | (show _ < List.length _; simp only [List.length_set, List.length_append, List.length_take]; omega) | (show wantB _ _ = true; simp <;> omega) | (show (_ : Bool) = _; simp_all; done) | (exfalso; omega) | refine aRegion_auto (by decide +kernel) ?_ | fail))
    refine ⟨_, _, REnt.ren [0, 3] rfl ?_ ?_, h2 hnx⟩
    · (repeat' (first | exact trivial | exact rfl | refine And.intro ?_ ?_))
      refine congrArg (fun l => some (AO.row SpT l)) (?_ : List.take L.length L ++ [x] = L ++ [x])
      rw [List.take_of_length_le (Nat.le_refl _)]
    · (repeat' (first | exact trivial | exact rfl | refine And.intro ?_ ?_))
/-- branches that come to the same state are joined there: what is to be shown of it, once -/
structure Bx (c : Prop) : Prop where
  out : c
theorem merge {c g : Prop} (f : Bx c → g) (h : c) : g := f ⟨h⟩
theorem wth_len (L : Pts) (x : Int × Int) : (Shp.wth L x).length ≤ L.length + 1 := by unfold Shp.wth; split <;> simp
theorem wif_len (b : Bool) (L : Pts) (x : Int × Int) : (Shp.wif b L x).length ≤ L.length + 1 := by
  unfold Shp.wif
  split
  · exact wth_len L x
  · omega
set_option maxHeartbeats 8000000 in
theorem common_any (G : List (Nat × Value)) (p q r s : Int × Int) (hp : plB p = true) (hq : plB q = true) (hr : plB r = true) (hs : plB s = true) (K : AV → List AO → Prop) (hK : K (.tup [.fz int (Shp.com p q r s).1, .agg [.fz int (Shp.com p q r s).2.1, .fz int (Shp.com p q r s).2.2]]) []) : ACall Tryd.prog G 45 [.fz SpT p, .fz SpT q, .fz SpT r, .fz SpT s] [] K := by
  refine acall_mk (E := envCut G 89 0 [6, 8, 10, 12, 14]) (envCutOk _ _ _ _) Tryd.func45 rfl rfl rfl rfl rfl ?_
  (repeat' (first | exact trivial | exact fun h => h | refine And.intro ?_ ?_ | (intro hb; try simp at hb) | omega | exact rfl | exact Nat.le_refl _ | (show _ + 1 ≤ 4294967296; omega) | (show _ + 1 ≤ 5864062014634; omega) | (dsimp only; omega) | (show (_ : Int) ≤ (_ : Int); omega) | (show _ < List.length _; simp only [List.length_set, List.length_append, List.length_take]; omega) | (show wantB _ _ = true; simp <;> omega) | (show (_ : Bool) = _; simp_all; done) | (exfalso; omega) | refine aRegion_auto (by decide +kernel) ?_ | refine ⟨_, _, REnt.drop ⟨rfl, rfl⟩, ?_⟩ | fail))
  refine acall_conv [.dat SpT, .dat SpT, .dat SpT] _ _ _ rfl trivial (acall_frame0 rfl (onPiece_any _ p q r hp hq hr _ ?_))
  (repeat' (first | exact trivial | exact fun h => h | refine And.intro ?_ ?_ | (intro hb; try simp at hb) | omega | exact rfl | exact Nat.le_refl _ | (show _ + 1 ≤ 4294967296; omega) | (show _ + 1 ≤ 5864062014634; omega) | (dsimp only; omega) | (show (_ : Int) ≤ (_ : Int); omega) | (show _ < List.length _; simp only [List.length_set, List.length_append, List.length_take]; omega) | (show wantB _ _ = true; simp <;> omega) | (show (_ : Bool) = _; simp_all; done) | (exfalso; omega) | refine aRegion_auto (by decide +kernel) ?_ | refine ⟨_, _, REnt.drop ⟨rfl, rfl⟩, ?_⟩ | fail))
  refine acall_conv [.dat SpT, .dat SpT, .dat SpT] _ _ _ rfl trivial (acall_frame0 rfl (onPiece_any _ p q s hp hq hs _ ?_))
  (repeat' (first | exact trivial | exact fun h => h | refine And.intro ?_ ?_ | (intro hb; try simp at hb) | omega | exact rfl | exact Nat.le_refl _ | (show _ + 1 ≤ 4294967296; omega) | (show _ + 1 ≤ 5864062014634; omega) | (dsimp only; omega) | (show (_ : Int) ≤ (_ : Int); omega) | (show _ < List.length _; simp only [List.length_set, List.length_append, List.length_take]; omega) | (show wantB _ _ = true; simp <;> omega) | (show (_ : Bool) = _; simp_all; done) | (exfalso; omega) | refine aRegion_auto (by decide +kernel) ?_ | refine ⟨_, _, REnt.drop ⟨rfl, rfl⟩, ?_⟩ | fail))
  refine acall_conv [.dat SpT, .dat SpT, .dat SpT] _ _ _ rfl trivial (acall_frame0 rfl (onPiece_any _ r s p hr hs hp _ ?_))
  (repeat' (first | exact trivial | exact fun h => h | refine And.intro ?_ ?_ | (intro hb; try simp at hb) | omega | exact rfl | exact Nat.le_refl _ | (show _ + 1 ≤ 4294967296; omega) | (show _ + 1 ≤ 5864062014634; omega) | (dsimp only; omega) | (show (_ : Int) ≤ (_ : Int); omega) | (show _ < List.length _; simp only [List.length_set, List.length_append, List.length_take]; omega) | (show wantB _ _ = true; simp <;> omega) | (show (_ : Bool) = _; simp_all; done) | (exfalso; omega) | refine aRegion_auto (by decide +kernel) ?_ | refine ⟨_, _, REnt.drop ⟨rfl, rfl⟩, ?_⟩ | fail))
  refine acall_conv [.dat SpT, .dat SpT, .dat SpT] _ _ _ rfl trivial (acall_frame0 rfl (onPiece_any _ r s q hr hs hq _ ?_))
  generalize eA : Shp.on p q r = fA at *
  generalize eB : Shp.on p q s = fB at *
  generalize eC : Shp.on r s p = fC at *
  generalize eD : Shp.on r s q = fD at *
  (repeat' (first | exact trivial | exact fun h => h | refine And.intro ?_ ?_ | (intro hb; try simp at hb) | omega | exact rfl | exact Nat.le_refl _ | (show _ + 1 ≤ 4294967296; omega) | (show _ + 1 ≤ 5864062014634; omega) | (dsimp only; omega) | (show (_ : Int) ≤ (_ : Int); omega) | (show _ < List.length _; simp only [List.length_set, List.length_append, List.length_take]; omega) | (show wantB _ _ = true; simp <;> omega) | (show (_ : Bool) = _; simp_all; done) | (exfalso; omega) | refine aRegion_auto (by decide +kernel) ?_ | refine ⟨_, _, REnt.drop ⟨rfl, rfl⟩, ?_⟩ | fail))
  have l0 : ([] : Pts).length ≤ 0 := Nat.le_refl _
  refine ⟨[(4, .ptr 0 0), (5, .ptr 1 0), (6, .ptr 2 0), (7, .ptr 3 0), (9, .ptr 4 0), (10, .ref 5 0 ([] : Pts).length), (11, .fz .bool fA), (12, .fz .bool fB), (13, .fz .bool fC), (14, .fz .bool fD)], [.box [.fz int p.1, .fz int p.2], .box [.fz int q.1, .fz int q.2], .box [.fz int r.1, .fz int r.2], .box [.fz int s.1, .fz int s.2], .box [.fz int 0, .fz int 0], .row SpT []], (Ent.nil 10 SpT rfl).trans (Ent.sub rfl ?_), ?_⟩
  · (repeat' (first | exact trivial | exact rfl | refine And.intro ?_ ?_))
  obtain ⟨L1, hL1⟩ : ∃ L1, L1 = Shp.wif fA ([] : Pts) r := ⟨_, rfl⟩
  have l1 : L1.length ≤ 1 := by rw [hL1]; have := wif_len fA ([] : Pts) r; omega
  apply merge
  · intro hc
    cases fA with
    | true =>
      (repeat' (first | exact trivial | exact fun h => h | refine And.intro ?_ ?_ | (intro hb; try simp at hb) | omega | exact rfl | exact Nat.le_refl _ | (show _ + 1 ≤ 4294967296; omega) | (show _ + 1 ≤ 5864062014634; omega) | (dsimp only; omega) | (show (_ : Int) ≤ (_ : Int); omega) | (show _ < List.length _; simp only [List.length_set, List.length_append, List.length_take]; omega) | (show wantB _ _ = true; simp <;> omega) | (show (_ : Bool) = _; simp_all; done) | (exfalso; omega) | refine aRegion_auto (by decide +kernel) ?_ | refine ⟨_, _, REnt.drop ⟨rfl, rfl⟩, ?_⟩ | fail))
      refine acall_conv [.keep, .dat SpT] _ _ _ rfl trivial (acall_frame [5] [.row SpT ([] : Pts)] [.ref 0 0 ([] : Pts).length, .fz SpT r] rfl ⟨⟨rfl, trivial⟩, trivial⟩ ⟨rfl, rfl⟩ rfl (with_any _ ([] : Pts) (by omega) r _ (fun hin => ?_) (fun hin => ?_)))
      · have e : L1 = ([] : Pts) := by rw [hL1]; unfold Shp.wif Shp.wth; rw [if_pos rfl, if_pos hin]
        (repeat' (first | exact trivial | exact fun h => h | refine And.intro ?_ ?_ | (intro hb; try simp at hb) | omega | exact rfl | exact Nat.le_refl _ | (show _ + 1 ≤ 4294967296; omega) | (show _ + 1 ≤ 5864062014634; omega) | (dsimp only; omega) | (show (_ : Int) ≤ (_ : Int); omega) | (show _ < List.length _; simp only [List.length_set, List.length_append, List.length_take]; omega) | (show wantB _ _ = true; simp <;> omega) | (show (_ : Bool) = _; simp_all; done) | (exfalso; omega) | refine aRegion_auto (by decide +kernel) ?_ | refine ⟨_, _, REnt.drop ⟨rfl, rfl⟩, ?_⟩ | fail))
        refine ⟨[(4, .ptr 0 0), (5, .ptr 1 0), (6, .ptr 2 0), (7, .ptr 3 0), (9, .ptr 4 0), (10, .ref 5 0 L1.length), (12, .fz .bool fB), (13, .fz .bool fC), (14, .fz .bool fD)], [.box [.fz int p.1, .fz int p.2], .box [.fz int q.1, .fz int q.2], .box [.fz int r.1, .fz int r.2], .box [.fz int s.1, .fz int s.2], .box [.fz int 0, .fz int 0], .row SpT L1], Ent.sub ?_ ?_, hc.out⟩
        · rw [e]
        · rw [e]; (repeat' (first | exact trivial | exact rfl | refine And.intro ?_ ?_))
      · have e : L1 = ([] : Pts) ++ [r] := by rw [hL1]; unfold Shp.wif Shp.wth; rw [if_pos rfl, if_neg hin]
        have e2 : L1.length = ([] : Pts).length + 1 := by rw [e]; simp
        (repeat' (first | exact trivial | exact fun h => h | refine And.intro ?_ ?_ | (intro hb; try simp at hb) | omega | exact rfl | exact Nat.le_refl _ | (show _ + 1 ≤ 4294967296; omega) | (show _ + 1 ≤ 5864062014634; omega) | (dsimp only; omega) | (show (_ : Int) ≤ (_ : Int); omega) | (show _ < List.length _; simp only [List.length_set, List.length_append, List.length_take]; omega) | (show wantB _ _ = true; simp <;> omega) | (show (_ : Bool) = _; simp_all; done) | (exfalso; omega) | refine aRegion_auto (by decide +kernel) ?_ | refine ⟨_, _, REnt.drop ⟨rfl, rfl⟩, ?_⟩ | fail))
        refine ⟨[(4, .ptr 0 0), (5, .ptr 1 0), (6, .ptr 2 0), (7, .ptr 3 0), (9, .ptr 4 0), (10, .ref 5 0 L1.length), (12, .fz .bool fB), (13, .fz .bool fC), (14, .fz .bool fD)], [.box [.fz int p.1, .fz int p.2], .box [.fz int q.1, .fz int q.2], .box [.fz int r.1, .fz int r.2], .box [.fz int s.1, .fz int s.2], .box [.fz int 0, .fz int 0], .row SpT L1], Ent.ren [0, 1, 2, 3, 4, 6] rfl ?_ ?_, hc.out⟩
        · rw [e]; (repeat' (first | exact trivial | exact rfl | refine And.intro ?_ ?_))
        · rw [e2]; (repeat' (first | exact trivial | exact rfl | refine And.intro ?_ ?_))
    | false =>
      have e : L1 = ([] : Pts) := by rw [hL1]; unfold Shp.wif; rw [if_neg (by simp)]
      (repeat' (first | exact trivial | exact fun h => h | refine And.intro ?_ ?_ | (intro hb; try simp at hb) | omega | exact rfl | exact Nat.le_refl _ | (show _ + 1 ≤ 4294967296; omega) | (show _ + 1 ≤ 5864062014634; omega) | (dsimp only; omega) | (show (_ : Int) ≤ (_ : Int); omega) | (show _ < List.length _; simp only [List.length_set, List.length_append, List.length_take]; omega) | (show wantB _ _ = true; simp <;> omega) | (show (_ : Bool) = _; simp_all; done) | (exfalso; omega) | refine aRegion_auto (by decide +kernel) ?_ | refine ⟨_, _, REnt.drop ⟨rfl, rfl⟩, ?_⟩ | fail))
      refine ⟨[(4, .ptr 0 0), (5, .ptr 1 0), (6, .ptr 2 0), (7, .ptr 3 0), (9, .ptr 4 0), (10, .ref 5 0 L1.length), (12, .fz .bool fB), (13, .fz .bool fC), (14, .fz .bool fD)], [.box [.fz int p.1, .fz int p.2], .box [.fz int q.1, .fz int q.2], .box [.fz int r.1, .fz int r.2], .box [.fz int s.1, .fz int s.2], .box [.fz int 0, .fz int 0], .row SpT L1], Ent.sub ?_ ?_, hc.out⟩
      · rw [e]
      · rw [e]; (repeat' (first | exact trivial | exact rfl | refine And.intro ?_ ?_))
  obtain ⟨L2, hL2⟩ : ∃ L2, L2 = Shp.wif fB L1 s := ⟨_, rfl⟩
  have l2 : L2.length ≤ 2 := by rw [hL2]; have := wif_len fB L1 s; omega
  apply merge
  · intro hc
    cases fB with
    | true =>
      (repeat' (first | exact trivial | exact fun h => h | refine And.intro ?_ ?_ | (intro hb; try simp at hb) | omega | exact rfl | exact Nat.le_refl _ | (show _ + 1 ≤ 4294967296; omega) | (show _ + 1 ≤ 5864062014634; omega) | (dsimp only; omega) | (show (_ : Int) ≤ (_ : Int); omega) | (show _ < List.length _; simp only [List.length_set, List.length_append, List.length_take]; omega) | (show wantB _ _ = true; simp <;> omega) | (show (_ : Bool) = _; simp_all; done) | (exfalso; omega) | refine aRegion_auto (by decide +kernel) ?_ | refine ⟨_, _, REnt.drop ⟨rfl, rfl⟩, ?_⟩ | fail))
      refine acall_conv [.keep, .dat SpT] _ _ _ rfl trivial (acall_frame [5] [.row SpT L1] [.ref 0 0 L1.length, .fz SpT s] rfl ⟨⟨rfl, trivial⟩, trivial⟩ ⟨rfl, rfl⟩ rfl (with_any _ L1 (by omega) s _ (fun hin => ?_) (fun hin => ?_)))
      · have e : L2 = L1 := by rw [hL2]; unfold Shp.wif Shp.wth; rw [if_pos rfl, if_pos hin]
        (repeat' (first | exact trivial | exact fun h => h | refine And.intro ?_ ?_ | (intro hb; try simp at hb) | omega | exact rfl | exact Nat.le_refl _ | (show _ + 1 ≤ 4294967296; omega) | (show _ + 1 ≤ 5864062014634; omega) | (dsimp only; omega) | (show (_ : Int) ≤ (_ : Int); omega) | (show _ < List.length _; simp only [List.length_set, List.length_append, List.length_take]; omega) | (show wantB _ _ = true; simp <;> omega) | (show (_ : Bool) = _; simp_all; done) | (exfalso; omega) | refine aRegion_auto (by decide +kernel) ?_ | refine ⟨_, _, REnt.drop ⟨rfl, rfl⟩, ?_⟩ | fail))
        refine ⟨[(4, .ptr 0 0), (5, .ptr 1 0), (6, .ptr 2 0), (7, .ptr 3 0), (9, .ptr 4 0), (10, .ref 5 0 L2.length), (13, .fz .bool fC), (14, .fz .bool fD)], [.box [.fz int p.1, .fz int p.2], .box [.fz int q.1, .fz int q.2], .box [.fz int r.1, .fz int r.2], .box [.fz int s.1, .fz int s.2], .box [.fz int 0, .fz int 0], .row SpT L2], Ent.sub ?_ ?_, hc.out⟩
        · rw [e]
        · rw [e]; (repeat' (first | exact trivial | exact rfl | refine And.intro ?_ ?_))
      · have e : L2 = L1 ++ [s] := by rw [hL2]; unfold Shp.wif Shp.wth; rw [if_pos rfl, if_neg hin]
        have e2 : L2.length = L1.length + 1 := by rw [e]; simp
        (repeat' (first | exact trivial | exact fun h => h | refine And.intro ?_ ?_ | (intro hb; try simp at hb) | omega | exact rfl | exact Nat.le_refl _ | (show _ + 1 ≤ 4294967296; omega) | (show _ + 1 ≤ 5864062014634; omega) | (dsimp only; omega) | (show (_ : Int) ≤ (_ : Int); omega) | (show _ < List.length _; simp only [List.length_set, List.length_append, List.length_take]; omega) | (show wantB _ _ = true; simp <;> omega) | (show (_ : Bool) = _; simp_all; done) | (exfalso; omega) | refine aRegion_auto (by decide +kernel) ?_ | refine ⟨_, _, REnt.drop ⟨rfl, rfl⟩, ?_⟩ | fail))
        refine ⟨[(4, .ptr 0 0), (5, .ptr 1 0), (6, .ptr 2 0), (7, .ptr 3 0), (9, .ptr 4 0), (10, .ref 5 0 L2.length), (13, .fz .bool fC), (14, .fz .bool fD)], [.box [.fz int p.1, .fz int p.2], .box [.fz int q.1, .fz int q.2], .box [.fz int r.1, .fz int r.2], .box [.fz int s.1, .fz int s.2], .box [.fz int 0, .fz int 0], .row SpT L2], Ent.ren [0, 1, 2, 3, 4, 6] rfl ?_ ?_, hc.out⟩
        · rw [e]; (repeat' (first | exact trivial | exact rfl | refine And.intro ?_ ?_))
        · rw [e2]; (repeat' (first | exact trivial | exact rfl | refine And.intro ?_ ?_))
    | false =>
      have e : L2 = L1 := by rw [hL2]; unfold Shp.wif; rw [if_neg (by simp)]
      (repeat' (first | exact trivial | exact fun h => h | refine And.intro ?_ ?_ | (intro hb; try simp at hb) | omega | exact rfl | exact Nat.le_refl _ | (show _ + 1 ≤ 4294967296; omega) | (show _ + 1 ≤ 5864062014634; omega) | (dsimp only; omega) | (show (_ : Int) ≤ (_ : Int); omega) | (show _ < List.length _; simp only [List.length_set, List.length_append, List.length_take]; omega) | (show wantB _ _ = true; simp <;> omega) | (show (_ : Bool) = _; simp_all; done) | (exfalso; omega) | refine aRegion_auto (by decide +kernel) ?_ | refine ⟨_, _, REnt.drop ⟨rfl, rfl⟩, ?_⟩ | fail))
      refine ⟨[(4, .ptr 0 0), (5, .ptr 1 0), (6, .ptr 2 0), (7, .ptr 3 0), (9, .ptr 4 0), (10, .ref 5 0 L2.length), (13, .fz .bool fC), (14, .fz .bool fD)], [.box [.fz int p.1, .fz int p.2], .box [.fz int q.1, .fz int q.2], .box [.fz int r.1, .fz int r.2], .box [.fz int s.1, .fz int s.2], .box [.fz int 0, .fz int 0], .row SpT L2], Ent.sub ?_ ?_, hc.out⟩
      · rw [e]
      · rw [e]; (repeat' (first | exact trivial | exact rfl | refine And.intro ?_ ?_))
  obtain ⟨L3, hL3⟩ : ∃ L3, L3 = Shp.wif fC L2 p := ⟨_, rfl⟩
  have l3 : L3.length ≤ 3 := by rw [hL3]; have := wif_len fC L2 p; omega
  apply merge
  · intro hc
    cases fC with
    | true =>
      (repeat' (first | exact trivial | exact fun h => h | refine And.intro ?_ ?_ | (intro hb; try simp at hb) | omega | exact rfl | exact Nat.le_refl _ | (show _ + 1 ≤ 4294967296; omega) | (show _ + 1 ≤ 5864062014634; omega) | (dsimp only; omega) | (show (_ : Int) ≤ (_ : Int); omega) | (show _ < List.length _; simp only [List.length_set, List.length_append, List.length_take]; omega) | (show wantB _ _ = true; simp <;> omega) | (show (_ : Bool) = _; simp_all; done) | (exfalso; omega) | refine aRegion_auto (by decide +kernel) ?_ | refine ⟨_, _, REnt.drop ⟨rfl, rfl⟩, ?_⟩ | fail))
      refine acall_conv [.keep, .dat SpT] _ _ _ rfl trivial (acall_frame [5] [.row SpT L2] [.ref 0 0 L2.length, .fz SpT p] rfl ⟨⟨rfl, trivial⟩, trivial⟩ ⟨rfl, rfl⟩ rfl (with_any _ L2 (by omega) p _ (fun hin => ?_) (fun hin => ?_)))
      · have e : L3 = L2 := by rw [hL3]; unfold Shp.wif Shp.wth; rw [if_pos rfl, if_pos hin]
        (repeat' (first | exact trivial | exact fun h => h | refine And.intro ?_ ?_ | (intro hb; try simp at hb) | omega | exact rfl | exact Nat.le_refl _ | (show _ + 1 ≤ 4294967296; omega) | (show _ + 1 ≤ 5864062014634; omega) | (dsimp only; omega) | (show (_ : Int) ≤ (_ : Int); omega) | (show _ < List.length _; simp only [List.length_set, List.length_append, List.length_take]; omega) | (show wantB _ _ = true; simp <;> omega) | (show (_ : Bool) = _; simp_all; done) | (exfalso; omega) | refine aRegion_auto (by decide +kernel) ?_ | refine ⟨_, _, REnt.drop ⟨rfl, rfl⟩, ?_⟩ | fail))
        refine ⟨[(4, .ptr 0 0), (5, .ptr 1 0), (6, .ptr 2 0), (7, .ptr 3 0), (9, .ptr 4 0), (10, .ref 5 0 L3.length), (14, .fz .bool fD)], [.box [.fz int p.1, .fz int p.2], .box [.fz int q.1, .fz int q.2], .box [.fz int r.1, .fz int r.2], .box [.fz int s.1, .fz int s.2], .box [.fz int 0, .fz int 0], .row SpT L3], Ent.sub ?_ ?_, hc.out⟩
        · rw [e]
        · rw [e]; (repeat' (first | exact trivial | exact rfl | refine And.intro ?_ ?_))
      · have e : L3 = L2 ++ [p] := by rw [hL3]; unfold Shp.wif Shp.wth; rw [if_pos rfl, if_neg hin]
        have e2 : L3.length = L2.length + 1 := by rw [e]; simp
        (repeat' (first | exact trivial | exact fun h => h | refine And.intro ?_ ?_ | (intro hb; try simp at hb) | omega | exact rfl | exact Nat.le_refl _ | (show _ + 1 ≤ 4294967296; omega) | (show _ + 1 ≤ 5864062014634; omega) | (dsimp only; omega) | (show (_ : Int) ≤ (_ : Int); omega) | (show _ < List.length _; simp only [List.length_set, List.length_append, List.length_take]; omega) | (show wantB _ _ = true; simp <;> omega) | (show (_ : Bool) = _; simp_all; done) | (exfalso; omega) | refine aRegion_auto (by decide +kernel) ?_ | refine ⟨_, _, REnt.drop ⟨rfl, rfl⟩, ?_⟩ | fail))
        refine ⟨[(4, .ptr 0 0), (5, .ptr 1 0), (6, .ptr 2 0), (7, .ptr 3 0), (9, .ptr 4 0), (10, .ref 5 0 L3.length), (14, .fz .bool fD)], [.box [.fz int p.1, .fz int p.2], .box [.fz int q.1, .fz int q.2], .box [.fz int r.1, .fz int r.2], .box [.fz int s.1, .fz int s.2], .box [.fz int 0, .fz int 0], .row SpT L3], Ent.ren [0, 1, 2, 3, 4, 6] rfl ?_ ?_, hc.out⟩
        · rw [e]; (repeat' (first | exact trivial | exact rfl | refine And.intro ?_ ?_))
        · rw [e2]; (repeat' (first | exact trivial | exact rfl | refine And.intro ?_ ?_))
    | false =>
      have e : L3 = L2 := by rw [hL3]; unfold Shp.wif; rw [if_neg (by simp)]
      (repeat' (first | exact trivial | exact fun h => h | refine And.intro ?_ ?_ | (intro hb; try simp at hb) | omega | exact rfl | exact Nat.le_refl _ | (show _ + 1 ≤ 4294967296; omega) | (show _ + 1 ≤ 5864062014634; omega) | (dsimp only; omega) | (show (_ : Int) ≤ (_ : Int); omega) | (show _ < List.length _; simp only [List.length_set, List.length_append, List.length_take]; omega) | (show wantB _ _ = true; simp <;> omega) | (show (_ : Bool) = _; simp_all; done) | (exfalso; omega) | refine aRegion_auto (by decide +kernel) ?_ | refine ⟨_, _, REnt.drop ⟨rfl, rfl⟩, ?_⟩ | fail))
      refine ⟨[(4, .ptr 0 0), (5, .ptr 1 0), (6, .ptr 2 0), (7, .ptr 3 0), (9, .ptr 4 0), (10, .ref 5 0 L3.length), (14, .fz .bool fD)], [.box [.fz int p.1, .fz int p.2], .box [.fz int q.1, .fz int q.2], .box [.fz int r.1, .fz int r.2], .box [.fz int s.1, .fz int s.2], .box [.fz int 0, .fz int 0], .row SpT L3], Ent.sub ?_ ?_, hc.out⟩
      · rw [e]
      · rw [e]; (repeat' (first | exact trivial | exact rfl | refine And.intro ?_ ?_))
  obtain ⟨L4, hL4⟩ : ∃ L4, L4 = Shp.wif fD L3 q := ⟨_, rfl⟩
  have l4 : L4.length ≤ 4 := by rw [hL4]; have := wif_len fD L3 q; omega
  apply merge
  · intro hc
    cases fD with
    | true =>
      (repeat' (first | exact trivial | exact fun h => h | refine And.intro ?_ ?_ | (intro hb; try simp at hb) | omega | exact rfl | exact Nat.le_refl _ | (show _ + 1 ≤ 4294967296; omega) | (show _ + 1 ≤ 5864062014634; omega) | (dsimp only; omega) | (show (_ : Int) ≤ (_ : Int); omega) | (show _ < List.length _; simp only [List.length_set, List.length_append, List.length_take]; omega) | (show wantB _ _ = true; simp <;> omega) | (show (_ : Bool) = _; simp_all; done) | (exfalso; omega) | refine aRegion_auto (by decide +kernel) ?_ | refine ⟨_, _, REnt.drop ⟨rfl, rfl⟩, ?_⟩ | fail))
      refine acall_conv [.keep, .dat SpT] _ _ _ rfl trivial (acall_frame [5] [.row SpT L3] [.ref 0 0 L3.length, .fz SpT q] rfl ⟨⟨rfl, trivial⟩, trivial⟩ ⟨rfl, rfl⟩ rfl (with_any _ L3 (by omega) q _ (fun hin => ?_) (fun hin => ?_)))
      · have e : L4 = L3 := by rw [hL4]; unfold Shp.wif Shp.wth; rw [if_pos rfl, if_pos hin]
        (repeat' (first | exact trivial | exact fun h => h | refine And.intro ?_ ?_ | (intro hb; try simp at hb) | omega | exact rfl | exact Nat.le_refl _ | (show _ + 1 ≤ 4294967296; omega) | (show _ + 1 ≤ 5864062014634; omega) | (dsimp only; omega) | (show (_ : Int) ≤ (_ : Int); omega) | (show _ < List.length _; simp only [List.length_set, List.length_append, List.length_take]; omega) | (show wantB _ _ = true; simp <;> omega) | (show (_ : Bool) = _; simp_all; done) | (exfalso; omega) | refine aRegion_auto (by decide +kernel) ?_ | refine ⟨_, _, REnt.drop ⟨rfl, rfl⟩, ?_⟩ | fail))
        refine ⟨[(4, .ptr 0 0), (5, .ptr 1 0), (6, .ptr 2 0), (7, .ptr 3 0), (9, .ptr 4 0), (10, .ref 5 0 L4.length)], [.box [.fz int p.1, .fz int p.2], .box [.fz int q.1, .fz int q.2], .box [.fz int r.1, .fz int r.2], .box [.fz int s.1, .fz int s.2], .box [.fz int 0, .fz int 0], .row SpT L4], Ent.sub ?_ ?_, hc.out⟩
        · rw [e]
        · rw [e]; (repeat' (first | exact trivial | exact rfl | refine And.intro ?_ ?_))
      · have e : L4 = L3 ++ [q] := by rw [hL4]; unfold Shp.wif Shp.wth; rw [if_pos rfl, if_neg hin]
        have e2 : L4.length = L3.length + 1 := by rw [e]; simp
        (repeat' (first | exact trivial | exact fun h => h | refine And.intro ?_ ?_ | (intro hb; try simp at hb) | omega | exact rfl | exact Nat.le_refl _ | (show _ + 1 ≤ 4294967296; omega) | (show _ + 1 ≤ 5864062014634; omega) | (dsimp only; omega) | (show (_ : Int) ≤ (_ : Int); omega) | (show _ < List.length _; simp only [List.length_set, List.length_append, List.length_take]; omega) | (show wantB _ _ = true; simp <;> omega) | (show (_ : Bool) = _; simp_all; done) | (exfalso; omega) | refine aRegion_auto (by decide +kernel) ?_ | refine ⟨_, _, REnt.drop ⟨rfl, rfl⟩, ?_⟩ | fail))
        refine ⟨[(4, .ptr 0 0), (5, .ptr 1 0), (6, .ptr 2 0), (7, .ptr 3 0), (9, .ptr 4 0), (10, .ref 5 0 L4.length)], [.box [.fz int p.1, .fz int p.2], .box [.fz int q.1, .fz int q.2], .box [.fz int r.1, .fz int r.2], .box [.fz int s.1, .fz int s.2], .box [.fz int 0, .fz int 0], .row SpT L4], Ent.ren [0, 1, 2, 3, 4, 6] rfl ?_ ?_, hc.out⟩
        · rw [e]; (repeat' (first | exact trivial | exact rfl | refine And.intro ?_ ?_))
        · rw [e2]; (repeat' (first | exact trivial | exact rfl | refine And.intro ?_ ?_))
    | false =>
      have e : L4 = L3 := by rw [hL4]; unfold Shp.wif; rw [if_neg (by simp)]
      (repeat' (first | exact trivial | exact fun h => h | refine And.intro ?_ ?_ | (intro hb; try simp at hb) | omega | exact rfl | exact Nat.le_refl _ | (show _ + 1 ≤ 4294967296; omega) | (show _ + 1 ≤ 5864062014634; omega) | (dsimp only; omega) | (show (_ : Int) ≤ (_ : Int); omega) | (show _ < List.length _; simp only [List.length_set, List.length_append, List.length_take]; omega) | (show wantB _ _ = true; simp <;> omega) | (show (_ : Bool) = _; simp_all; done) | (exfalso; omega) | refine aRegion_auto (by decide +kernel) ?_ | refine ⟨_, _, REnt.drop ⟨rfl, rfl⟩, ?_⟩ | fail))
      refine ⟨[(4, .ptr 0 0), (5, .ptr 1 0), (6, .ptr 2 0), (7, .ptr 3 0), (9, .ptr 4 0), (10, .ref 5 0 L4.length)], [.box [.fz int p.1, .fz int p.2], .box [.fz int q.1, .fz int q.2], .box [.fz int r.1, .fz int r.2], .box [.fz int s.1, .fz int s.2], .box [.fz int 0, .fz int 0], .row SpT L4], Ent.sub ?_ ?_, hc.out⟩
      · rw [e]
      · rw [e]; (repeat' (first | exact trivial | exact rfl | refine And.intro ?_ ?_))
  have eL : L4 = Shp.coml p q r s := by unfold Shp.coml; rw [eA, eB, eC, eD, hL4, hL3, hL2, hL1]
  clear hL1 hL2 hL3 hL4
  have z1 := sg_bd (Shp.side p q r)
  have z2 := sg_bd (Shp.side p q s)
  have z3 := sg_bd (Shp.side r s p)
  have z4 := sg_bd (Shp.side r s q)
  have m1 := sg_mul z1 z2
  have m2 := sg_mul z3 z4
  unfold Shp.com at hK
  rw [← eL] at hK
  by_cases c1 : 1 < L4.length
  · rw [if_pos c1] at hK
    (repeat' (first | exact trivial | exact fun h => h | refine And.intro ?_ ?_ | (intro hb; try simp at hb) | omega | exact rfl | exact Nat.le_refl _ | (show _ + 1 ≤ 4294967296; omega) | (show _ + 1 ≤ 5864062014634; omega) | (dsimp only; omega) | (show (_ : Int) ≤ (_ : Int); omega) | (show _ < List.length _; simp only [List.length_set, List.length_append, List.length_take]; omega) | (show wantB _ _ = true; simp <;> omega) | (show (_ : Bool) = _; simp_all; done) | (exfalso; omega) | refine aRegion_auto (by decide +kernel) ?_ | refine ⟨_, _, REnt.drop ⟨rfl, rfl⟩, ?_⟩ | fail))
    exact hK
  · rw [if_neg c1] at hK
    by_cases c2 : L4.length = 1
    · rw [if_pos c2] at hK
      (repeat' (first | exact trivial | exact fun h => h | refine And.intro ?_ ?_ | (intro hb; try simp at hb) | omega | exact rfl | exact Nat.le_refl _ | (show _ + 1 ≤ 4294967296; omega) | (show _ + 1 ≤ 5864062014634; omega) | (dsimp only; omega) | (show (_ : Int) ≤ (_ : Int); omega) | (show _ < List.length _; simp only [List.length_set, List.length_append, List.length_take]; omega) | (show wantB _ _ = true; simp <;> omega) | (show (_ : Bool) = _; simp_all; done) | (exfalso; omega) | refine aRegion_auto (by decide +kernel) ?_ | refine ⟨_, _, REnt.drop ⟨rfl, rfl⟩, ?_⟩ | fail))
      (apply exEff; focus (repeat' (first | exact ⟨rfl, rfl⟩ | exact trivial | refine And.intro ?_ ?_ | omega | exact Nat.le_refl _ | (show _ + 1 ≤ 4294967296; omega) | (show _ + 1 ≤ 5864062014634; omega))))
      (repeat' (first | exact trivial | exact fun h => h | refine And.intro ?_ ?_ | (intro hb; try simp at hb) | omega | exact rfl | exact Nat.le_refl _ | (show _ + 1 ≤ 4294967296; omega) | (show _ + 1 ≤ 5864062014634; omega) | (dsimp only; omega) | (show (_ : Int) ≤ (_ : Int); omega) | (show _ < List.length _; simp only [List.length_set, List.length_append, List.length_take]; omega) | (show wantB _ _ = true; simp <;> omega) | (show (_ : Bool) = _; simp_all; done) | (exfalso; omega) | refine aRegion_auto (by decide +kernel) ?_ | refine ⟨_, _, REnt.drop ⟨rfl, rfl⟩, ?_⟩ | fail))
      exact hK
    · rw [if_neg c2] at hK
      (repeat' (first | exact trivial | exact fun h => h | refine And.intro ?_ ?_ | (intro hb; try simp at hb) | omega | exact rfl | exact Nat.le_refl _ | (show _ + 1 ≤ 4294967296; omega) | (show _ + 1 ≤ 5864062014634; omega) | (dsimp only; omega) | (show (_ : Int) ≤ (_ : Int); omega) | (show _ < List.length _; simp only [List.length_set, List.length_append, List.length_take]; omega) | (show wantB _ _ = true; simp <;> omega) | (show (_ : Bool) = _; simp_all; done) | (exfalso; omega) | refine aRegion_auto (by decide +kernel) ?_ | refine ⟨_, _, REnt.drop ⟨rfl, rfl⟩, ?_⟩ | fail))
      apply exEff
      · refine acall_conv [.dat SpT, .dat SpT, .dat SpT] _ _ _ rfl trivial (acall_frame0 rfl (turn_any _ p q r hp hq hr _ ?_))
        exact ⟨rfl, rfl⟩
      (repeat' (first | exact trivial | exact fun h => h | refine And.intro ?_ ?_ | (intro hb; try simp at hb) | omega | exact rfl | exact Nat.le_refl _ | (show _ + 1 ≤ 4294967296; omega) | (show _ + 1 ≤ 5864062014634; omega) | (dsimp only; omega) | (show (_ : Int) ≤ (_ : Int); omega) | (show _ < List.length _; simp only [List.length_set, List.length_append, List.length_take]; omega) | (show wantB _ _ = true; simp <;> omega) | (show (_ : Bool) = _; simp_all; done) | (exfalso; omega) | refine aRegion_auto (by decide +kernel) ?_ | refine ⟨_, _, REnt.drop ⟨rfl, rfl⟩, ?_⟩ | fail))
      apply exEff
      · refine acall_frame0 rfl (signOf_any _ (Shp.side p q r) _ ?_)
        exact ⟨rfl, rfl⟩
      (repeat' (first | exact trivial | exact fun h => h | refine And.intro ?_ ?_ | (intro hb; try simp at hb) | omega | exact rfl | exact Nat.le_refl _ | (show _ + 1 ≤ 4294967296; omega) | (show _ + 1 ≤ 5864062014634; omega) | (dsimp only; omega) | (show (_ : Int) ≤ (_ : Int); omega) | (show _ < List.length _; simp only [List.length_set, List.length_append, List.length_take]; omega) | (show wantB _ _ = true; simp <;> omega) | (show (_ : Bool) = _; simp_all; done) | (exfalso; omega) | refine aRegion_auto (by decide +kernel) ?_ | refine ⟨_, _, REnt.drop ⟨rfl, rfl⟩, ?_⟩ | fail))
      apply exEff
      · refine acall_conv [.dat SpT, .dat SpT, .dat SpT] _ _ _ rfl trivial (acall_frame0 rfl (turn_any _ p q s hp hq hs _ ?_))
        exact ⟨rfl, rfl⟩
      (repeat' (first | exact trivial | exact fun h => h | refine And.intro ?_ ?_ | (intro hb; try simp at hb) | omega | exact rfl | exact Nat.le_refl _ | (show _ + 1 ≤ 4294967296; omega) | (show _ + 1 ≤ 5864062014634; omega) | (dsimp only; omega) | (show (_ : Int) ≤ (_ : Int); omega) | (show _ < List.length _; simp only [List.length_set, List.length_append, List.length_take]; omega) | (show wantB _ _ = true; simp <;> omega) | (show (_ : Bool) = _; simp_all; done) | (exfalso; omega) | refine aRegion_auto (by decide +kernel) ?_ | refine ⟨_, _, REnt.drop ⟨rfl, rfl⟩, ?_⟩ | fail))
      apply exEff
      · refine acall_frame0 rfl (signOf_any _ (Shp.side p q s) _ ?_)
        exact ⟨rfl, rfl⟩
      (repeat' (first | exact trivial | exact fun h => h | refine And.intro ?_ ?_ | (intro hb; try simp at hb) | omega | exact rfl | exact Nat.le_refl _ | (show _ + 1 ≤ 4294967296; omega) | (show _ + 1 ≤ 5864062014634; omega) | (dsimp only; omega) | (show (_ : Int) ≤ (_ : Int); omega) | (show _ < List.length _; simp only [List.length_set, List.length_append, List.length_take]; omega) | (show wantB _ _ = true; simp <;> omega) | (show (_ : Bool) = _; simp_all; done) | (exfalso; omega) | refine aRegion_auto (by decide +kernel) ?_ | refine ⟨_, _, REnt.drop ⟨rfl, rfl⟩, ?_⟩ | fail))
      apply exEff
      · refine acall_conv [.dat SpT, .dat SpT, .dat SpT] _ _ _ rfl trivial (acall_frame0 rfl (turn_any _ r s p hr hs hp _ ?_))
        exact ⟨rfl, rfl⟩
      (repeat' (first | exact trivial | exact fun h => h | refine And.intro ?_ ?_ | (intro hb; try simp at hb) | omega | exact rfl | exact Nat.le_refl _ | (show _ + 1 ≤ 4294967296; omega) | (show _ + 1 ≤ 5864062014634; omega) | (dsimp only; omega) | (show (_ : Int) ≤ (_ : Int); omega) | (show _ < List.length _; simp only [List.length_set, List.length_append, List.length_take]; omega) | (show wantB _ _ = true; simp <;> omega) | (show (_ : Bool) = _; simp_all; done) | (exfalso; omega) | refine aRegion_auto (by decide +kernel) ?_ | refine ⟨_, _, REnt.drop ⟨rfl, rfl⟩, ?_⟩ | fail))
      apply exEff
      · refine acall_frame0 rfl (signOf_any _ (Shp.side r s p) _ ?_)
        exact ⟨rfl, rfl⟩
      (repeat' (first | exact trivial | exact fun h => h | refine And.intro ?_ ?_ | (intro hb; try simp at hb) | omega | exact rfl | exact Nat.le_refl _ | (show _ + 1 ≤ 4294967296; omega) | (show _ + 1 ≤ 5864062014634; omega) | (dsimp only; omega) | (show (_ : Int) ≤ (_ : Int); omega) | (show _ < List.length _; simp only [List.length_set, List.length_append, List.length_take]; omega) | (show wantB _ _ = true; simp <;> omega) | (show (_ : Bool) = _; simp_all; done) | (exfalso; omega) | refine aRegion_auto (by decide +kernel) ?_ | refine ⟨_, _, REnt.drop ⟨rfl, rfl⟩, ?_⟩ | fail))
      apply exEff
      · refine acall_conv [.dat SpT, .dat SpT, .dat SpT] _ _ _ rfl trivial (acall_frame0 rfl (turn_any _ r s q hr hs hq _ ?_))
        exact ⟨rfl, rfl⟩
      (repeat' (first | exact trivial | exact fun h => h | refine And.intro ?_ ?_ | (intro hb; try simp at hb) | omega | exact rfl | exact Nat.le_refl _ | (show _ + 1 ≤ 4294967296; omega) | (show _ + 1 ≤ 5864062014634; omega) | (dsimp only; omega) | (show (_ : Int) ≤ (_ : Int); omega) | (show _ < List.length _; simp only [List.length_set, List.length_append, List.length_take]; omega) | (show wantB _ _ = true; simp <;> omega) | (show (_ : Bool) = _; simp_all; done) | (exfalso; omega) | refine aRegion_auto (by decide +kernel) ?_ | refine ⟨_, _, REnt.drop ⟨rfl, rfl⟩, ?_⟩ | fail))
      apply exEff
      · refine acall_frame0 rfl (signOf_any _ (Shp.side r s q) _ ?_)
        exact ⟨rfl, rfl⟩
      (repeat' (first | exact trivial | exact fun h => h | refine And.intro ?_ ?_ | (intro hb; try simp at hb) | omega | exact rfl | exact Nat.le_refl _ | (show _ + 1 ≤ 4294967296; omega) | (show _ + 1 ≤ 5864062014634; omega) | (dsimp only; omega) | (show (_ : Int) ≤ (_ : Int); omega) | (show _ < List.length _; simp only [List.length_set, List.length_append, List.length_take]; omega) | (show wantB _ _ = true; simp <;> omega) | (show (_ : Bool) = _; simp_all; done) | (exfalso; omega) | refine aRegion_auto (by decide +kernel) ?_ | refine ⟨_, _, REnt.drop ⟨rfl, rfl⟩, ?_⟩ | fail))
      · have hc : Shp.crs p q r s = true := by unfold Shp.crs; simp [hb]
        rw [if_pos hc] at hK
        exact hK
      · have hc : Shp.crs p q r s = false := by
          unfold Shp.crs
          by_cases h1 : Shp.sgZ (Shp.side p q r) * Shp.sgZ (Shp.side p q s) < 0
          · have := hb h1
            simp [h1]; omega
          · simp [h1]
        rw [if_neg (by rw [hc]; simp)] at hK
        exact hK
end Go.Proofs.YtcfalmdfohphoaaDoor
/-
  Which maps are right, told by the document: the pieces.
-/
namespace Go.Proofs.YtcfalmdfohphoaaDoor
open Go Go.Ab
set_option maxRecDepth 100000
theorem notB {b : Bool} (h : ¬ b = true) : b = false := Bool.eq_false_iff.2 h
set_option maxHeartbeats 4000000 in
theorem apart_any (G : List (Nat × Value)) (m : Shp.Arcs) (B : MB m) (K : AV → List AO → Prop) (hK : ∀ b : Bool, (b = true ↔ Shp.apR m) → K (.fz .bool b) []) : ACall Tryd.prog G 24 [.fptr MpT m] [] K := by
  have hat : ∀ i : Nat, List.getD m (Int.toNat (i : Int)) SpT.list.dft = Shp.arc m i := fun i => rfl
  have hfew := B.few
  have hfalse : (∃ i k j n, Shp.isP m i k ∧ Shp.isP m j n ∧ (j < i ∨ (j = i ∧ n < k)) ∧ Shp.okR m i k j n = false) → K (.fz .bool false) [] := fun ⟨i, k, j, n, h1, h2, h3, h4⟩ => hK false ⟨fun h => (by cases h), fun h => (by rw [h i k j n h1 h2 h3] at h4; cases h4)⟩
  let Ok (i k j n : Nat) : Prop := Shp.isP m i k → Shp.isP m j n → (j < i ∨ (j = i ∧ n < k)) → Shp.okR m i k j n = true
  refine acall_mk (E := envCut G 159 0 [17, 19, 21, 22, 23]) (envCutOk _ _ _ _) Tryd.func24 rfl rfl rfl rfl rfl ?_
  (repeat' (first | exact trivial | exact fun h => h | refine And.intro ?_ ?_ | (intro hb; try simp at hb) | omega | exact rfl | exact Nat.le_refl _ | (show _ + 1 ≤ 4294967296; omega) | (show _ + 1 ≤ 5864062014634; omega) | (dsimp only; omega) | (show (_ : Int) ≤ (_ : Int); omega) | (show _ < List.length _; simp only [List.length_set, List.length_append, List.length_take]; omega) | (show wantB _ _ = true; simp <;> omega) | (show (_ : Bool) = _; simp_all; done) | (exfalso; omega) | refine aRegion_auto (by decide +kernel) ?_ | fail))
  refine ⟨Nat, fun i => ⟨[(0, .fptr MpT m), (3, .fz int i)], []⟩, fun i => i ≤ m.length ∧ ∀ p k j n, p < i → Ok p k j n, fun i => m.length - i, 0, ⟨Nat.zero_le _, fun p k j n h => absurd h (Nat.not_lt_zero _)⟩, Ent.sub rfl ?_, ?_⟩
  · (repeat' (first | exact trivial | exact rfl | refine And.intro ?_ ?_))
  intro i ⟨hi, h1⟩
  have hi : i ≤ m.length := hi
  have h1 : ∀ p k j n, p < i → Ok p k j n := h1
  show awp _ _ _ ⟨[(0, .fptr MpT m), (3, .fz int i)], []⟩
  by_cases him : i < m.length
  · obtain ⟨a, ha⟩ : ∃ a, Shp.arc m i = a := ⟨_, rfl⟩
    have hga := hat i
    have hal := B.len i him
    have ha2 := B.two i him
    rw [ha] at hga hal ha2
    (repeat' (first | exact trivial | exact fun h => h | refine And.intro ?_ ?_ | (intro hb; try simp at hb) | omega | exact rfl | exact Nat.le_refl _ | (show _ + 1 ≤ 4294967296; omega) | (show _ + 1 ≤ 5864062014634; omega) | (dsimp only; omega) | (show (_ : Int) ≤ (_ : Int); omega) | (show _ < List.length _; simp only [List.length_set, List.length_append, List.length_take]; omega) | (show wantB _ _ = true; simp <;> omega) | (show (_ : Bool) = _; simp_all; done) | (exfalso; omega) | refine aRegion_auto (by decide +kernel) ?_ | fail))
    rw [hga]
    (repeat' (first | exact trivial | exact fun h => h | refine And.intro ?_ ?_ | (intro hb; try simp at hb) | omega | exact rfl | exact Nat.le_refl _ | (show _ + 1 ≤ 4294967296; omega) | (show _ + 1 ≤ 5864062014634; omega) | (dsimp only; omega) | (show (_ : Int) ≤ (_ : Int); omega) | (show _ < List.length _; simp only [List.length_set, List.length_append, List.length_take]; omega) | (show wantB _ _ = true; simp <;> omega) | (show (_ : Bool) = _; simp_all; done) | (exfalso; omega) | refine aRegion_auto (by decide +kernel) ?_ | fail))
    refine ⟨Nat, fun k => ⟨[(0, .fptr MpT m), (3, .fz int i), (4, .fz (.list SpT) a), (5, .fz int k)], []⟩, fun k => k + 1 ≤ a.length ∧ ∀ q j n, q < k → Ok i q j n, fun k => a.length - k, 0, ⟨by omega, fun q j n h => absurd h (Nat.not_lt_zero _)⟩, Ent.sub rfl ?_, ?_⟩
    · (repeat' (first | exact trivial | exact rfl | refine And.intro ?_ ?_))
    intro k ⟨hk, h2⟩
    have hk : k + 1 ≤ a.length := hk
    have h2 : ∀ q j n, q < k → Ok i q j n := h2
    show awp _ _ _ ⟨[(0, .fptr MpT m), (3, .fz int i), (4, .fz (.list SpT) a), (5, .fz int k)], []⟩
    by_cases hka : k + 1 < a.length
    · (repeat' (first | exact trivial | exact fun h => h | refine And.intro ?_ ?_ | (intro hb; try simp at hb) | omega | exact rfl | exact Nat.le_refl _ | (show _ + 1 ≤ 4294967296; omega) | (show _ + 1 ≤ 5864062014634; omega) | (dsimp only; omega) | (show (_ : Int) ≤ (_ : Int); omega) | (show _ < List.length _; simp only [List.length_set, List.length_append, List.length_take]; omega) | (show wantB _ _ = true; simp <;> omega) | (show (_ : Bool) = _; simp_all; done) | (exfalso; omega) | refine aRegion_auto (by decide +kernel) ?_ | fail))
      refine ⟨Nat, fun j => ⟨[(0, .fptr MpT m), (3, .fz int i), (4, .fz (.list SpT) a), (5, .fz int k), (6, .fz int j)], []⟩, fun j => j ≤ i + 1 ∧ ∀ p n, p < j → Ok i k p n, fun j => i + 1 - j, 0, ⟨Nat.zero_le _, fun p n h => absurd h (Nat.not_lt_zero _)⟩, Ent.sub rfl ?_, ?_⟩
      · (repeat' (first | exact trivial | exact rfl | refine And.intro ?_ ?_))
      intro j ⟨hj, h3⟩
      have hj : j ≤ i + 1 := hj
      have h3 : ∀ p n, p < j → Ok i k p n := h3
      show awp _ _ _ ⟨[(0, .fptr MpT m), (3, .fz int i), (4, .fz (.list SpT) a), (5, .fz int k), (6, .fz int j)], []⟩
      by_cases hji : j ≤ i
      · obtain ⟨b, hb0⟩ : ∃ b, Shp.arc m j = b := ⟨_, rfl⟩
        have hgb := hat j
        have hbl := B.len j (by omega)
        have hb2 := B.two j (by omega)
        rw [hb0] at hgb hbl hb2
        (repeat' (first | exact trivial | exact fun h => h | refine And.intro ?_ ?_ | (intro hb; try simp at hb) | omega | exact rfl | exact Nat.le_refl _ | (show _ + 1 ≤ 4294967296; omega) | (show _ + 1 ≤ 5864062014634; omega) | (dsimp only; omega) | (show (_ : Int) ≤ (_ : Int); omega) | (show _ < List.length _; simp only [List.length_set, List.length_append, List.length_take]; omega) | (show wantB _ _ = true; simp <;> omega) | (show (_ : Bool) = _; simp_all; done) | (exfalso; omega) | refine aRegion_auto (by decide +kernel) ?_ | fail))
        rw [hgb]
        (repeat' (first | exact trivial | exact fun h => h | refine And.intro ?_ ?_ | (intro hb; try simp at hb) | omega | exact rfl | exact Nat.le_refl _ | (show _ + 1 ≤ 4294967296; omega) | (show _ + 1 ≤ 5864062014634; omega) | (dsimp only; omega) | (show (_ : Int) ≤ (_ : Int); omega) | (show _ < List.length _; simp only [List.length_set, List.length_append, List.length_take]; omega) | (show wantB _ _ = true; simp <;> omega) | (show (_ : Bool) = _; simp_all; done) | (exfalso; omega) | refine aRegion_auto (by decide +kernel) ?_ | fail))
        refine ⟨Nat, fun n => ⟨[(0, .fptr MpT m), (3, .fz int i), (4, .fz (.list SpT) a), (5, .fz int k), (6, .fz int j), (7, .fz (.list SpT) b), (8, .fz int n)], []⟩, fun n => n + 1 ≤ b.length ∧ ∀ q, q < n → Ok i k j q, fun n => b.length - n, 0, ⟨by omega, fun q h => absurd h (Nat.not_lt_zero _)⟩, Ent.sub rfl ?_, ?_⟩
        · (repeat' (first | exact trivial | exact rfl | refine And.intro ?_ ?_))
        intro n ⟨hn, h4⟩
        have hn : n + 1 ≤ b.length := hn
        have h4 : ∀ q, q < n → Ok i k j q := h4
        show awp _ _ _ ⟨[(0, .fptr MpT m), (3, .fz int i), (4, .fz (.list SpT) a), (5, .fz int k), (6, .fz int j), (7, .fz (.list SpT) b), (8, .fz int n)], []⟩
        have hbrk : (∀ q, n ≤ q → Ok i k j q) → ∀ p q, p < j + 1 → Ok i k p q := fun h p q hp => by
          by_cases c : p = j
          · subst c
            by_cases c2 : q < n
            · exact h4 q c2
            · exact h q (by omega)
          · exact h3 p q (by omega)
        by_cases hnb : n + 1 < b.length
        · by_cases hst : j = i ∧ k ≤ n
          · have hd1 : decide ((j : Int) = (i : Int)) = true := decide_eq_true (by omega)
            (repeat' (first | exact trivial | exact fun h => h | refine And.intro ?_ ?_ | (intro hb; try simp at hb) | omega | exact rfl | exact Nat.le_refl _ | (show _ + 1 ≤ 4294967296; omega) | (show _ + 1 ≤ 5864062014634; omega) | (dsimp only; omega) | (show (_ : Int) ≤ (_ : Int); omega) | (show _ < List.length _; simp only [List.length_set, List.length_append, List.length_take]; omega) | (show wantB _ _ = true; simp <;> omega) | (show (_ : Bool) = _; simp_all; done) | (exfalso; omega) | refine aRegion_auto (by decide +kernel) ?_ | fail))
            refine ⟨j + 1, ⟨by show j + 1 ≤ i + 1; omega, hbrk fun q hq _ _ h => by omega⟩, by show i + 1 - (j + 1) < i + 1 - j; omega, Ent.sub rfl ?_⟩
            · (repeat' (first | exact trivial | exact rfl | refine And.intro ?_ ?_))
          · have hgo : Shp.okR m i k j n = true → ∀ q, q < n + 1 → Ok i k j q := fun h q hq => by
              by_cases c : q = n
              · subst c; exact fun _ _ _ => h
              · exact h4 q (by omega)
            have hip : Shp.isP m i k := ⟨him, by rw [ha]; exact hka⟩
            have hjn : Shp.isP m j n := ⟨by omega, by rw [hb0]; exact hnb⟩
            have hord : j < i ∨ (j = i ∧ n < k) := by omega
            have hno : Shp.okR m i k j n = false → K (.fz .bool false) [] := fun h => hfalse ⟨i, k, j, n, hip, hjn, hord, h⟩
            have hoR : Shp.okR m i k j n = (decide ((Shp.com (Shp.at_ a k) (Shp.at_ a (k + 1)) (Shp.at_ b n) (Shp.at_ b (n + 1))).1 = 0) || (!decide ((Shp.com (Shp.at_ a k) (Shp.at_ a (k + 1)) (Shp.at_ b n) (Shp.at_ b (n + 1))).1 = 2) && Shp.enB (Shp.at_ a k) (Shp.at_ a (k + 1)) (Shp.at_ b n) (Shp.at_ b (n + 1)) (Shp.com (Shp.at_ a k) (Shp.at_ a (k + 1)) (Shp.at_ b n) (Shp.at_ b (n + 1))).2 &&
                ((decide (j = i) && decide (n + 1 = k) && decide ((Shp.com (Shp.at_ a k) (Shp.at_ a (k + 1)) (Shp.at_ b n) (Shp.at_ b (n + 1))).2 = Shp.at_ a k)) || (Shp.ndB a k (Shp.com (Shp.at_ a k) (Shp.at_ a (k + 1)) (Shp.at_ b n) (Shp.at_ b (n + 1))).2 && Shp.ndB b n (Shp.com (Shp.at_ a k) (Shp.at_ a (k + 1)) (Shp.at_ b n) (Shp.at_ b (n + 1))).2)))) := by
              unfold Shp.okR Shp.pt
              rw [ha, hb0]
            have p1 : plB (Shp.at_ a k) = true := by have := B.pl i k ⟨him, by rw [ha]; omega⟩; unfold Shp.pt at this; rwa [ha] at this
            have p2 : plB (Shp.at_ a (k + 1)) = true := by have := B.pl i (k + 1) ⟨him, by rw [ha]; omega⟩; unfold Shp.pt at this; rwa [ha] at this
            have p3 : plB (Shp.at_ b n) = true := by have := B.pl j n ⟨by omega, by rw [hb0]; omega⟩; unfold Shp.pt at this; rwa [hb0] at this
            have p4 : plB (Shp.at_ b (n + 1)) = true := by have := B.pl j (n + 1) ⟨by omega, by rw [hb0]; omega⟩; unfold Shp.pt at this; rwa [hb0] at this
            have g1 : List.getD a (Int.toNat (k : Int)) SpT.dft = Shp.at_ a k := rfl
            have g2 : List.getD a (Int.toNat ((k : Int) + 1)) SpT.dft = Shp.at_ a (k + 1) := rfl
            have g3 : List.getD b (Int.toNat (n : Int)) SpT.dft = Shp.at_ b n := rfl
            have g4 : List.getD b (Int.toNat ((n : Int) + 1)) SpT.dft = Shp.at_ b (n + 1) := rfl
            have hca := common_any G (Shp.at_ a k) (Shp.at_ a (k + 1)) (Shp.at_ b n) (Shp.at_ b (n + 1)) p1 p2 p3 p4
            generalize Shp.com (Shp.at_ a k) (Shp.at_ a (k + 1)) (Shp.at_ b n) (Shp.at_ b (n + 1)) = cm at hoR hca
            obtain ⟨mn, x⟩ := cm
            dsimp only at hoR hca
            (repeat' (first | exact trivial | exact fun h => h | refine And.intro ?_ ?_ | (intro hb; try simp at hb) | omega | exact rfl | exact Nat.le_refl _ | (show _ + 1 ≤ 4294967296; omega) | (show _ + 1 ≤ 5864062014634; omega) | (dsimp only; omega) | (show (_ : Int) ≤ (_ : Int); omega) | (show _ < List.length _; simp only [List.length_set, List.length_append, List.length_take]; omega) | (show wantB _ _ = true; simp <;> omega) | (show (_ : Bool) = _; simp_all; done) | (exfalso; omega) | refine aRegion_auto (by decide +kernel) ?_ | fail))
            let rb : AO := .room
            let bz : AO := .box [.fz int 0, .fz int 0]
            let bo : AO := .box [.fz int x.1, .fz int x.2]
            refine aRegion_open 1 (by decide +kernel) ?_
            (repeat' (first | exact trivial | exact fun h => h | refine And.intro ?_ ?_ | (intro hb; try simp at hb) | omega | exact rfl | exact Nat.le_refl _ | (show _ + 1 ≤ 4294967296; omega) | (show _ + 1 ≤ 5864062014634; omega) | (dsimp only; omega) | (show (_ : Int) ≤ (_ : Int); omega) | (show _ < List.length _; simp only [List.length_set, List.length_append, List.length_take]; omega) | (show wantB _ _ = true; simp <;> omega) | (show (_ : Bool) = _; simp_all; done) | (exfalso; omega) | refine aRegion_auto (by decide +kernel) ?_ | fail))
            refine eff_is (.tup [.fz int mn, .agg [.fz int x.1, .fz int x.2]]) [rb] ?_
            (repeat' (first | exact trivial | exact fun h => h | refine And.intro ?_ ?_ | (intro hb; try simp at hb) | omega | exact rfl | exact Nat.le_refl _ | (show _ + 1 ≤ 4294967296; omega) | (show _ + 1 ≤ 5864062014634; omega) | (dsimp only; omega) | (show (_ : Int) ≤ (_ : Int); omega) | (show _ < List.length _; simp only [List.length_set, List.length_append, List.length_take]; omega) | (show wantB _ _ = true; simp <;> omega) | (show (_ : Bool) = _; simp_all; done) | (exfalso; omega) | refine aRegion_auto (by decide +kernel) ?_ | fail))
            refine eff_is (.ptr 0 0) [bz] ?_
            (repeat' (first | exact trivial | exact fun h => h | refine And.intro ?_ ?_ | (intro hb; try simp at hb) | omega | exact rfl | exact Nat.le_refl _ | (show _ + 1 ≤ 4294967296; omega) | (show _ + 1 ≤ 5864062014634; omega) | (dsimp only; omega) | (show (_ : Int) ≤ (_ : Int); omega) | (show _ < List.length _; simp only [List.length_set, List.length_append, List.length_take]; omega) | (show wantB _ _ = true; simp <;> omega) | (show (_ : Bool) = _; simp_all; done) | (exfalso; omega) | refine aRegion_auto (by decide +kernel) ?_ | fail))
            refine eff_is .unk [bo] ?_
            refine ⟨[(0, [rb]), (262144, [rb]), (4194304, [bz]), (4456448, [bz]), (21233664, [bo])], rfl, rfl, ?_, ?_⟩
            · (repeat' (first | refine And.intro ?_ ?_ | exact trivial | exact rfl | omega))
              · refine acall_conv [.dat SpT, .dat SpT, .dat SpT, .dat SpT] _ _ _ rfl trivial (acall_frame0 rfl (hca _ ?_))
                refine view_of [0] rfl ?_ rfl rfl
                (repeat' (first | exact trivial | exact rfl | refine And.intro ?_ ?_))
              · refine view_of [1] rfl ?_ rfl rfl
                (repeat' (first | exact trivial | exact rfl | refine And.intro ?_ ?_))
              · refine view_of [1] rfl ?_ rfl rfl
                (repeat' (first | exact trivial | exact rfl | refine And.intro ?_ ?_))
              · refine acall_conv [.dat SpT, .dat SpT, .dat SpT, .dat SpT] _ _ _ rfl trivial (acall_frame0 rfl (hca _ ?_))
                refine view_of [0] rfl ?_ rfl rfl
                (repeat' (first | exact trivial | exact rfl | refine And.intro ?_ ?_))
              · refine view_of [0] rfl ?_ rfl rfl
                (repeat' (first | exact trivial | exact rfl | refine And.intro ?_ ?_))
            · refine ⟨[(0, .fptr MpT m), (3, .fz int i), (4, .fz (.list SpT) a), (5, .fz int k), (6, .fz int j), (7, .fz (.list SpT) b), (8, .fz int n), (9, .fz int mn), (10, .ptr 0 0)], [.box [.fz int x.1, .fz int x.2]], Ent.sub rfl ?_, ?_⟩
              · (repeat' (first | exact trivial | exact rfl | refine And.intro ?_ ?_))
              by_cases h0 : mn = 0
              · have hy : Shp.okR m i k j n = true := by rw [hoR, decide_eq_true h0, Bool.true_or]
                (repeat' (first | exact trivial | exact fun h => h | refine And.intro ?_ ?_ | (intro hb; try simp at hb) | omega | exact rfl | exact Nat.le_refl _ | (show _ + 1 ≤ 4294967296; omega) | (show _ + 1 ≤ 5864062014634; omega) | (dsimp only; omega) | (show (_ : Int) ≤ (_ : Int); omega) | (show _ < List.length _; simp only [List.length_set, List.length_append, List.length_take]; omega) | (show wantB _ _ = true; simp <;> omega) | (show (_ : Bool) = _; simp_all; done) | (exfalso; omega) | refine aRegion_auto (by decide +kernel) ?_ | fail))
                refine ⟨n + 1, ⟨by show n + 1 + 1 ≤ b.length; omega, hgo hy⟩, by show b.length - (n + 1) < b.length - n; omega, Ent.ren [] rfl trivial ?_⟩
                · (repeat' (first | exact trivial | exact rfl | refine And.intro ?_ ?_))
              · have eP : eqL [x.1, x.2] ([(List.getD a (Int.toNat (k : Int)) SpT.dft).1] ++ [(List.getD a (Int.toNat (k : Int)) SpT.dft).2]) = decide (x = Shp.at_ a k) := eqS _ _
                have eQ : eqL [x.1, x.2] ([(List.getD a (Int.toNat ((k : Int) + 1)) SpT.dft).1] ++ [(List.getD a (Int.toNat ((k : Int) + 1)) SpT.dft).2]) = decide (x = Shp.at_ a (k + 1)) := eqS _ _
                have eR : eqL [x.1, x.2] ([(List.getD b (Int.toNat (n : Int)) SpT.dft).1] ++ [(List.getD b (Int.toNat (n : Int)) SpT.dft).2]) = decide (x = Shp.at_ b n) := eqS _ _
                have eS : eqL [x.1, x.2] ([(List.getD b (Int.toNat ((n : Int) + 1)) SpT.dft).1] ++ [(List.getD b (Int.toNat ((n : Int) + 1)) SpT.dft).2]) = decide (x = Shp.at_ b (n + 1)) := eqS _ _
                unfold Shp.enB at hoR
                rw [decide_eq_false h0, Bool.false_or] at hoR
                generalize decide (x = Shp.at_ a k) = q1 at hoR eP
                generalize decide (x = Shp.at_ a (k + 1)) = q2 at hoR eQ
                generalize decide (x = Shp.at_ b n) = q3 at hoR eR
                generalize decide (x = Shp.at_ b (n + 1)) = q4 at hoR eS
                generalize he : ((q1 || q2) && (q3 || q4)) = e at hoR
                generalize hf : (decide (j = i) && decide (n + 1 = k) && q1) = f at hoR
                generalize hN1 : Shp.ndB a k x = N1 at hoR
                generalize hN2 : Shp.ndB b n x = N2 at hoR
                generalize hgg : (N1 && N2) = g at hoR
                (repeat' (first | exact trivial | exact fun h => h | refine And.intro ?_ ?_ | (intro hb; try simp at hb) | omega | exact rfl | exact Nat.le_refl _ | (show _ + 1 ≤ 4294967296; omega) | (show _ + 1 ≤ 5864062014634; omega) | (dsimp only; omega) | (show (_ : Int) ≤ (_ : Int); omega) | (show _ < List.length _; simp only [List.length_set, List.length_append, List.length_take]; omega) | (show wantB _ _ = true; simp <;> omega) | (show (_ : Bool) = _; simp_all; done) | (exfalso; omega) | refine aRegion_auto (by decide +kernel) ?_ | fail))
                rw [eP, eQ, eR, eS]
                apply merge
                · intro hc
                  cases q1 <;> cases q2
                  all_goals
                    (repeat' (first | exact trivial | exact fun h => h | refine And.intro ?_ ?_ | (intro hb; try simp at hb) | omega | exact rfl | exact Nat.le_refl _ | (show _ + 1 ≤ 4294967296; omega) | (show _ + 1 ≤ 5864062014634; omega) | (dsimp only; omega) | (show (_ : Int) ≤ (_ : Int); omega) | (show _ < List.length _; simp only [List.length_set, List.length_append, List.length_take]; omega) | (show wantB _ _ = true; simp <;> omega) | (show (_ : Bool) = _; simp_all; done) | (exfalso; omega) | refine aRegion_auto (by decide +kernel) ?_ | fail))
                    refine ⟨[(0, .fptr MpT m), (3, .fz int i), (4, .fz (.list SpT) a), (5, .fz int k), (6, .fz int j), (7, .fz (.list SpT) b), (8, .fz int n), (9, .fz int mn), (10, .ptr 0 0), (11, .fz .bool e)], [.box [.fz int x.1, .fz int x.2]], Ent.sub rfl ?_, hc.out⟩
                    (repeat' (first | exact trivial | exact rfl | refine And.intro ?_ ?_))
                    rw [← he]
                    cases q3 <;> rfl
                by_cases h2 : mn = 2
                · have hn0 := hno (by rw [hoR, decide_eq_true h2]; rfl)
                  (repeat' (first | exact trivial | exact fun h => h | refine And.intro ?_ ?_ | (intro hb; try simp at hb) | omega | exact rfl | exact Nat.le_refl _ | (show _ + 1 ≤ 4294967296; omega) | (show _ + 1 ≤ 5864062014634; omega) | (dsimp only; omega) | (show (_ : Int) ≤ (_ : Int); omega) | (show _ < List.length _; simp only [List.length_set, List.length_append, List.length_take]; omega) | (show wantB _ _ = true; simp <;> omega) | (show (_ : Bool) = _; simp_all; done) | (exfalso; omega) | refine aRegion_auto (by decide +kernel) ?_ | refine ⟨_, _, REnt.drop ⟨rfl, rfl⟩, ?_⟩ | fail))
                  exact hn0
                · rw [decide_eq_false h2] at hoR
                  cases e with
                  | false =>
                    have hn0 := hno hoR
                    (repeat' (first | exact trivial | exact fun h => h | refine And.intro ?_ ?_ | (intro hb; try simp at hb) | omega | exact rfl | exact Nat.le_refl _ | (show _ + 1 ≤ 4294967296; omega) | (show _ + 1 ≤ 5864062014634; omega) | (dsimp only; omega) | (show (_ : Int) ≤ (_ : Int); omega) | (show _ < List.length _; simp only [List.length_set, List.length_append, List.length_take]; omega) | (show wantB _ _ = true; simp <;> omega) | (show (_ : Bool) = _; simp_all; done) | (exfalso; omega) | refine aRegion_auto (by decide +kernel) ?_ | refine ⟨_, _, REnt.drop ⟨rfl, rfl⟩, ?_⟩ | fail))
                    exact hn0
                  | true =>
                    (repeat' (first | exact trivial | exact fun h => h | refine And.intro ?_ ?_ | (intro hb; try simp at hb) | omega | exact rfl | exact Nat.le_refl _ | (show _ + 1 ≤ 4294967296; omega) | (show _ + 1 ≤ 5864062014634; omega) | (dsimp only; omega) | (show (_ : Int) ≤ (_ : Int); omega) | (show _ < List.length _; simp only [List.length_set, List.length_append, List.length_take]; omega) | (show wantB _ _ = true; simp <;> omega) | (show (_ : Bool) = _; simp_all; done) | (exfalso; omega) | refine aRegion_auto (by decide +kernel) ?_ | fail))
                    refine ⟨[(0, .fptr MpT m), (3, .fz int i), (4, .fz (.list SpT) a), (5, .fz int k), (6, .fz int j), (7, .fz (.list SpT) b), (8, .fz int n), (10, .ptr 0 0)], [.box [.fz int x.1, .fz int x.2]], Ent.sub rfl ?_, ?_⟩
                    · (repeat' (first | exact trivial | exact rfl | refine And.intro ?_ ?_))
                    have hfx : (bif bif ((j : Int) == (i : Int)) then ((n : Int) + 1 == (k : Int)) else false then q1 else false) = f := by
                      have b1 : ((j : Int) == (i : Int)) = decide (j = i) := by rw [Bool.eq_iff_iff]; simp; omega
                      have b2 : ((n : Int) + 1 == (k : Int)) = decide (n + 1 = k) := by rw [Bool.eq_iff_iff]; simp; omega
                      rw [← hf, b1, b2]
                      cases decide (j = i) <;> cases decide (n + 1 = k) <;> rfl
                    (repeat' (first | exact trivial | exact fun h => h | refine And.intro ?_ ?_ | (intro hb; try simp at hb) | omega | exact rfl | exact Nat.le_refl _ | (show _ + 1 ≤ 4294967296; omega) | (show _ + 1 ≤ 5864062014634; omega) | (dsimp only; omega) | (show (_ : Int) ≤ (_ : Int); omega) | (show _ < List.length _; simp only [List.length_set, List.length_append, List.length_take]; omega) | (show wantB _ _ = true; simp <;> omega) | (show (_ : Bool) = _; simp_all; done) | (exfalso; omega) | refine aRegion_auto (by decide +kernel) ?_ | fail))
                    rw [eP]
                    refine ⟨[(0, .fptr MpT m), (3, .fz int i), (4, .fz (.list SpT) a), (5, .fz int k), (6, .fz int j), (7, .fz (.list SpT) b), (8, .fz int n), (10, .ptr 0 0), (12, .fz .bool f)], [.box [.fz int x.1, .fz int x.2]], Ent.sub rfl ?_, ?_⟩
                    · (repeat' (first | exact trivial | exact rfl | refine And.intro ?_ ?_))
                      exact congrArg (fun z => AV.fz .bool z) hfx
                    apply merge
                    · intro hc
                      (repeat' (first | exact trivial | exact fun h => h | refine And.intro ?_ ?_ | (intro hb; try simp at hb) | omega | exact rfl | exact Nat.le_refl _ | (show _ + 1 ≤ 4294967296; omega) | (show _ + 1 ≤ 5864062014634; omega) | (dsimp only; omega) | (show (_ : Int) ≤ (_ : Int); omega) | (show _ < List.length _; simp only [List.length_set, List.length_append, List.length_take]; omega) | (show wantB _ _ = true; simp <;> omega) | (show (_ : Bool) = _; simp_all; done) | (exfalso; omega) | refine aRegion_auto (by decide +kernel) ?_ | fail))
                      refine acall_conv [.keep, .keep, .dat SpT] _ _ _ rfl trivial (acall_frame0 rfl (isNode_any _ a k x hka (by omega) _ ?_))
                      rw [hN1]
                      cases N1 with
                      | true =>
                        (repeat' (first | exact trivial | exact fun h => h | refine And.intro ?_ ?_ | (intro hb; try simp at hb) | omega | exact rfl | exact Nat.le_refl _ | (show _ + 1 ≤ 4294967296; omega) | (show _ + 1 ≤ 5864062014634; omega) | (dsimp only; omega) | (show (_ : Int) ≤ (_ : Int); omega) | (show _ < List.length _; simp only [List.length_set, List.length_append, List.length_take]; omega) | (show wantB _ _ = true; simp <;> omega) | (show (_ : Bool) = _; simp_all; done) | (exfalso; omega) | refine aRegion_auto (by decide +kernel) ?_ | fail))
                        refine acall_conv [.keep, .keep, .dat SpT] _ _ _ rfl trivial (acall_frame0 rfl (isNode_any _ b n x hnb (by omega) _ ?_))
                        rw [hN2]
                        (repeat' (first | exact trivial | exact fun h => h | refine And.intro ?_ ?_ | (intro hb; try simp at hb) | omega | exact rfl | exact Nat.le_refl _ | (show _ + 1 ≤ 4294967296; omega) | (show _ + 1 ≤ 5864062014634; omega) | (dsimp only; omega) | (show (_ : Int) ≤ (_ : Int); omega) | (show _ < List.length _; simp only [List.length_set, List.length_append, List.length_take]; omega) | (show wantB _ _ = true; simp <;> omega) | (show (_ : Bool) = _; simp_all; done) | (exfalso; omega) | refine aRegion_auto (by decide +kernel) ?_ | fail))
                        refine ⟨[(0, .fptr MpT m), (3, .fz int i), (4, .fz (.list SpT) a), (5, .fz int k), (6, .fz int j), (7, .fz (.list SpT) b), (8, .fz int n), (12, .fz .bool f), (13, .fz .bool g)], [], Ent.ren [] rfl trivial ?_, hc.out⟩
                        · (repeat' (first | exact trivial | exact rfl | refine And.intro ?_ ?_))
                          exact congrArg (fun z => AV.fz .bool z) hgg
                      | false =>
                        (repeat' (first | exact trivial | exact fun h => h | refine And.intro ?_ ?_ | (intro hb; try simp at hb) | omega | exact rfl | exact Nat.le_refl _ | (show _ + 1 ≤ 4294967296; omega) | (show _ + 1 ≤ 5864062014634; omega) | (dsimp only; omega) | (show (_ : Int) ≤ (_ : Int); omega) | (show _ < List.length _; simp only [List.length_set, List.length_append, List.length_take]; omega) | (show wantB _ _ = true; simp <;> omega) | (show (_ : Bool) = _; simp_all; done) | (exfalso; omega) | refine aRegion_auto (by decide +kernel) ?_ | fail))
                        refine ⟨[(0, .fptr MpT m), (3, .fz int i), (4, .fz (.list SpT) a), (5, .fz int k), (6, .fz int j), (7, .fz (.list SpT) b), (8, .fz int n), (12, .fz .bool f), (13, .fz .bool g)], [], Ent.ren [] rfl trivial ?_, hc.out⟩
                        · (repeat' (first | exact trivial | exact rfl | refine And.intro ?_ ?_))
                          exact congrArg (fun z => AV.fz .bool z) hgg
                    clear hgg hf hfx
                    cases f <;> cases g
                    · have hn0 := hno hoR
                      (repeat' (first | exact trivial | exact fun h => h | refine And.intro ?_ ?_ | (intro hb; try simp at hb) | omega | exact rfl | exact Nat.le_refl _ | (show _ + 1 ≤ 4294967296; omega) | (show _ + 1 ≤ 5864062014634; omega) | (dsimp only; omega) | (show (_ : Int) ≤ (_ : Int); omega) | (show _ < List.length _; simp only [List.length_set, List.length_append, List.length_take]; omega) | (show wantB _ _ = true; simp <;> omega) | (show (_ : Bool) = _; simp_all; done) | (exfalso; omega) | refine aRegion_auto (by decide +kernel) ?_ | refine ⟨_, _, REnt.drop ⟨rfl, rfl⟩, ?_⟩ | fail))
                      exact hn0
                    all_goals
                      have hgo2 := hgo hoR
                      (repeat' (first | exact trivial | exact fun h => h | refine And.intro ?_ ?_ | (intro hb; try simp at hb) | omega | exact rfl | exact Nat.le_refl _ | (show _ + 1 ≤ 4294967296; omega) | (show _ + 1 ≤ 5864062014634; omega) | (dsimp only; omega) | (show (_ : Int) ≤ (_ : Int); omega) | (show _ < List.length _; simp only [List.length_set, List.length_append, List.length_take]; omega) | (show wantB _ _ = true; simp <;> omega) | (show (_ : Bool) = _; simp_all; done) | (exfalso; omega) | refine aRegion_auto (by decide +kernel) ?_ | fail))
                      refine ⟨n + 1, ⟨by show n + 1 + 1 ≤ b.length; omega, hgo2⟩, by show b.length - (n + 1) < b.length - n; omega, Ent.sub rfl ?_⟩
                      · (repeat' (first | exact trivial | exact rfl | refine And.intro ?_ ?_))
        · have hall := hbrk fun q hq _ hp => by
            obtain ⟨_, hp2⟩ := hp
            rw [hb0] at hp2
            omega
          (repeat' (first | exact trivial | exact fun h => h | refine And.intro ?_ ?_ | (intro hb; try simp at hb) | omega | exact rfl | exact Nat.le_refl _ | (show _ + 1 ≤ 4294967296; omega) | (show _ + 1 ≤ 5864062014634; omega) | (dsimp only; omega) | (show (_ : Int) ≤ (_ : Int); omega) | (show _ < List.length _; simp only [List.length_set, List.length_append, List.length_take]; omega) | (show wantB _ _ = true; simp <;> omega) | (show (_ : Bool) = _; simp_all; done) | (exfalso; omega) | refine aRegion_auto (by decide +kernel) ?_ | fail))
          refine ⟨j + 1, ⟨by show j + 1 ≤ i + 1; omega, hall⟩, by show i + 1 - (j + 1) < i + 1 - j; omega, Ent.sub rfl ?_⟩
          · (repeat' (first | exact trivial | exact rfl | refine And.intro ?_ ?_))
      · have hji2 : j = i + 1 := by omega
        (repeat' (first | exact trivial | exact fun h => h | refine And.intro ?_ ?_ | (intro hb; try simp at hb) | omega | exact rfl | exact Nat.le_refl _ | (show _ + 1 ≤ 4294967296; omega) | (show _ + 1 ≤ 5864062014634; omega) | (dsimp only; omega) | (show (_ : Int) ≤ (_ : Int); omega) | (show _ < List.length _; simp only [List.length_set, List.length_append, List.length_take]; omega) | (show wantB _ _ = true; simp <;> omega) | (show (_ : Bool) = _; simp_all; done) | (exfalso; omega) | refine aRegion_auto (by decide +kernel) ?_ | fail))
        refine ⟨k + 1, ⟨by show k + 1 + 1 ≤ a.length; omega, fun q p n hq => ?_⟩, by show a.length - (k + 1) < a.length - k; omega, Ent.sub rfl ?_⟩
        · have hq : q < k + 1 := hq
          by_cases c : q = k
          · subst c
            by_cases c2 : p < j
            · exact h3 p n c2
            · intro _ _ h; omega
          · exact h2 q p n (by omega)
        · (repeat' (first | exact trivial | exact rfl | refine And.intro ?_ ?_))
    · have hall : ∀ q p n, Ok i q p n := fun q p n => by
        by_cases c : q < k
        · exact h2 q p n c
        · intro hp
          obtain ⟨_, hp2⟩ := hp
          rw [ha] at hp2
          omega
      (repeat' (first | exact trivial | exact fun h => h | refine And.intro ?_ ?_ | (intro hb; try simp at hb) | omega | exact rfl | exact Nat.le_refl _ | (show _ + 1 ≤ 4294967296; omega) | (show _ + 1 ≤ 5864062014634; omega) | (dsimp only; omega) | (show (_ : Int) ≤ (_ : Int); omega) | (show _ < List.length _; simp only [List.length_set, List.length_append, List.length_take]; omega) | (show wantB _ _ = true; simp <;> omega) | (show (_ : Bool) = _; simp_all; done) | (exfalso; omega) | refine aRegion_auto (by decide +kernel) ?_ | fail))
      refine ⟨i + 1, ⟨by show i + 1 ≤ m.length; omega, fun p q j n hp => ?_⟩, by show m.length - (i + 1) < m.length - i; omega, Ent.sub rfl ?_⟩
      · have hp : p < i + 1 := hp
        by_cases c : p = i
        · rw [c]; exact hall q j n
        · exact h1 p q j n (by omega)
      · (repeat' (first | exact trivial | exact rfl | refine And.intro ?_ ?_))
  · obtain rfl : i = m.length := by omega
    have hKt := hK true ⟨fun _ p k j n hp hn ho => h1 p k j n hp.1 hp hn ho, fun _ => rfl⟩
    (repeat' (first | exact trivial | exact fun h => h | refine And.intro ?_ ?_ | (intro hb; try simp at hb) | omega | exact rfl | exact Nat.le_refl _ | (show _ + 1 ≤ 4294967296; omega) | (show _ + 1 ≤ 5864062014634; omega) | (dsimp only; omega) | (show (_ : Int) ≤ (_ : Int); omega) | (show _ < List.length _; simp only [List.length_set, List.length_append, List.length_take]; omega) | (show wantB _ _ = true; simp <;> omega) | (show (_ : Bool) = _; simp_all; done) | (exfalso; omega) | refine aRegion_auto (by decide +kernel) ?_ | refine ⟨_, _, REnt.drop ⟨rfl, rfl⟩, ?_⟩ | fail))
    exact hKt
end Go.Proofs.YtcfalmdfohphoaaDoor
/-
  What the laid variables give: eight errors, all different, and the handle of type error.
-/
namespace Go.Proofs.YtcfalmdfohphoaaDoor
open Go Go.Ab Go.RowKit Go.ChangeShapes
set_option maxRecDepth 100000
theorem star : "*" ++ "errors.errorString" = "*errors.errorString" := by decide
theorem names_at (u : TypeId) (h : Tryd.prog.typeName? 3 u = some "*errors.errorString") : u = 156 :=
  typeName_ptr_named (nm := "errors.errorString") (by rw [star]; kernel_rfl) (by kernel_rfl) (by decide) u (by rw [star]; exact h)
theorem cells_es : Tryd.prog.cellsOf 177 = 1 := by kernel_rfl
theorem cells_str : Tryd.prog.cellsOf 9 = 1 := by kernel_rfl
theorem glob_ty (g : Nat) (hg : g ∈ [3, 1, 0, 4, 5, 6, 2, 7]) :
    ∃ ti ms, (Tryd.prog.globals[g]?).map (·.type) = some ti ∧ Tryd.prog.underlying ti = some (.interface ms) := by
  have : ([3, 1, 0, 4, 5, 6, 2, 7].all fun g => (Tryd.prog.globals[g]?).map (·.type) == some 28) = true := by kernel_rfl
  exact ⟨28, _, by simpa using List.all_eq_true.1 this g hg, Tryd.underlying28⟩
theorem et_at : Tryd.prog.globalNamed "errors.errorType" = some 8 := by kernel_rfl
theorem rt_at : (Tryd.prog.cutTypes.find? (·.1 == "internal/reflectlite.rtype")).map (·.2) = some 133 := by kernel_rfl
theorem one_row : ((List.range Tryd.prog.types.size).filter fun t => Tryd.prog.rowNamed t [101, 114, 114, 111, 114]) = [28] := by kernel_rfl
/-- of a list of the eight errors and the handle -/
theorem globs8 {W : World} {l : List (String × DataW Unit)} {x1 x2 x3 x4 x5 x6 x7 x8 : List UInt8} (h : laidMetH Tryd.prog l W)
    (hl : (l.filter fun x => x.2.handleName?.isNone) = [("mercator/api.ErrText", errD x1), ("mercator/api.ErrBound", errD x2), ("mercator/api.ErrShape", errD x3), ("mercator/api.ErrRange", errD x4), ("mercator/api.ErrName", errD x5), ("mercator/api.ErrNone", errD x6), ("mercator/api.ErrOrder", errD x7), ("mercator/api.ErrFile", errD x8)])
    (hh : (l.filter fun x => x.2.handleName?.isSome) = [("errors.errorType", .iface "internal/reflectlite.rtype" (.agg [.ptr (.lit (.string [101, 114, 114, 111, 114]))]))]) :
    ∃ E : Errs, (EL E).Nodup ∧ ∀ g v, gk (G8 E) g = some v → Glo0 W g v := by
  obtain ⟨h1, h2⟩ := laidMetH_iff.1 h
  rw [hl] at h1
  rw [hh] at h2
  obtain ⟨ps, hv, hn, hall⟩ := h1
  obtain ⟨al, k1, k2, k3, _⟩ := laid_errs names_at Tryd.underlying156 Tryd.underlying177 rfl rfl Tryd.underlying9 cells_es cells_str
    [("mercator/api.ErrText", x1), ("mercator/api.ErrBound", x2), ("mercator/api.ErrShape", x3), ("mercator/api.ErrRange", x4), ("mercator/api.ErrName", x5), ("mercator/api.ErrNone", x6), ("mercator/api.ErrOrder", x7), ("mercator/api.ErrFile", x8)]
    [3, 1, 0, 4, 5, 6, 2, 7] ps hv hn hall (by kernel_rfl) glob_ty
  obtain ⟨a1, a2, a3, a4, a5, a6, a7, a8, rfl⟩ : ∃ a1 a2 a3 a4 a5 a6 a7 a8, al = [a1, a2, a3, a4, a5, a6, a7, a8] := by
    match al, k1 with
    | [a1, a2, a3, a4, a5, a6, a7, a8], _ => exact ⟨a1, a2, a3, a4, a5, a6, a7, a8, rfl⟩
  have hE : Glo0 W 8 asK.errType := by
    obtain ⟨name, u, ty, e1, e2, e3, e4, e5⟩ := h2 _ (List.mem_singleton.2 rfl)
    have en : name = [101, 114, 114, 111, 114] := (Option.some.inj e1).symm
    subst en
    obtain rfl := Option.some.inj (rt_at.symm.trans e2)
    have hm : ty ∈ (List.range Tryd.prog.types.size).filter fun t => Tryd.prog.rowNamed t [101, 114, 114, 111, 114] := List.mem_filter.2 ⟨List.mem_range.2 e3, e4⟩
    rw [one_row] at hm
    obtain rfl := List.mem_singleton.1 hm
    have hh : typeHandle Tryd.prog 28 = .pointer (some ⟨9, 28, none⟩) := by kernel_rfl
    rw [hh] at e5
    exact ⟨by simpa [asK.errType] using World.var?_cell et_at e5 0, rfl, fun T a e => by cases e⟩
  refine ⟨⟨a1, a2, a3, a4, a5, a6, a7, a8⟩, k2, fun g v hg => ?_⟩
  unfold G8 gk at hg
  split at hg
  · rename_i e; subst e; cases hg; exact k3 2 _ _ rfl rfl
  unfold gk at hg
  split at hg
  · rename_i e; subst e; cases hg; exact k3 3 _ _ rfl rfl
  unfold gk at hg
  split at hg
  · rename_i e; subst e; cases hg; exact k3 1 _ _ rfl rfl
  unfold gk at hg
  split at hg
  · rename_i e; subst e; cases hg; exact k3 0 _ _ rfl rfl
  unfold gk at hg
  split at hg
  · rename_i e; subst e; cases hg; exact k3 4 _ _ rfl rfl
  unfold gk at hg
  split at hg
  · rename_i e; subst e; cases hg; exact k3 5 _ _ rfl rfl
  unfold gk at hg
  split at hg
  · rename_i e; subst e; cases hg; exact k3 6 _ _ rfl rfl
  unfold gk at hg
  split at hg
  · rename_i e; subst e; cases hg; exact k3 7 _ _ rfl rfl
  unfold gk at hg
  split at hg
  · rename_i e; subst e; cases hg; exact hE
  · cases hg
end Go.Proofs.YtcfalmdfohphoaaDoor
