/-
  plain.Code, coded: what number an error has.
-/
import Derived.Test.YtdbgkhcknaafoaaDoorM4
namespace Go.Proofs.YtdbgkhcknaafoaaDoor
open Go Go.Ab Go.RowKit
set_option maxRecDepth 100000
theorem code_nil (E : Errs) (K : AV → List AO → Prop) (hK : K (.tup [.fz int 0, .fz int (-1)]) []) : ACall Tryd.prog (G8 E) 23 [.fz .raw .nilIface] [] K := by
  refine acall_mk (E := envAt (G8 E) 39 0) (envOk _ _ _) Tryd.func23 rfl rfl rfl rfl rfl ?_
  (repeat' (first | exact trivial | exact fun h => h | refine And.intro ?_ ?_ | (intro hb; first | (simp at hb; done) | (simp at hb) | skip) | omega | exact rfl | exact Nat.le_refl _ | (show _ + 1 ≤ 4294967296; omega) | (dsimp only; omega) | (show (_ : Int) ≤ (_ : Int); omega) | (show _ < List.length _; simp only [List.length_set, List.length_append, List.length_take]; omega) | (show wantB _ _ = true; simp; done) | (show wantB _ _ = true; simp; omega) | (show (_ : Bool) = _; simp_all; done) | (exfalso; omega) | refine aRegion_auto (by decide +kernel) ?_ | refine ⟨_, _, REnt.drop ⟨rfl, rfl⟩, ?_⟩ | fail))
  exact hK
abbrev errs (E : Errs) : List Value := [errV E.text, errV E.bound, errV E.shape, errV E.range, errV E.name, errV E.none, errV E.order, errV E.file]
theorem errs_at (E : Errs) {k : Nat} (h : k < 8) : List.getD (errs E) k (Ty.dft .raw) = errV (ea E (k + 1)) := by
  obtain rfl | rfl | rfl | rfl | rfl | rfl | rfl | rfl : k = 0 ∨ k = 1 ∨ k = 2 ∨ k = 3 ∨ k = 4 ∨ k = 5 ∨ k = 6 ∨ k = 7 := by omega
  all_goals rfl
set_option maxHeartbeats 4000000 in
theorem code_any {E : Errs} (hE : (EL E).Nodup) {e : Nat} (h : 0 < e) (h8 : e ≤ 8) (K : AV → List AO → Prop) (hK : K (.tup [.fz int e, .fz int (-1)]) []) :
    ACall Tryd.prog (G8 E) 23 [.fz .raw (errV (ea E e))] [] K := by
  refine acall_mk (E := envAt (G8 E) 39 0) (envOk _ _ _) Tryd.func23 rfl rfl rfl rfl rfl ?_
  (repeat' (first | exact trivial | exact fun h => h | refine And.intro ?_ ?_ | (intro hb; first | (simp at hb; done) | (simp at hb) | skip) | omega | exact rfl | exact Nat.le_refl _ | (show _ + 1 ≤ 4294967296; omega) | (dsimp only; omega) | (show (_ : Int) ≤ (_ : Int); omega) | (show _ < List.length _; simp only [List.length_set, List.length_append, List.length_take]; omega) | (show wantB _ _ = true; simp; done) | (show wantB _ _ = true; simp; omega) | (show (_ : Bool) = _; simp_all; done) | (exfalso; omega) | refine aRegion_auto (by decide +kernel) ?_ | refine ⟨_, _, REnt.drop ⟨rfl, rfl⟩, ?_⟩ | fail))
  refine acall_frame [0] [.box [.fz .raw (.pointer none)]] [.fz .raw (errV (ea E e)), .ifc 55 (.ptr 0 0)] rfl ⟨⟨rfl, rfl⟩, trivial⟩ ⟨rfl, rfl⟩ rfl (errAs_any (ea E e) _ _ ?_)
  (repeat' (first | exact trivial | exact fun h => h | refine And.intro ?_ ?_ | (intro hb; first | (simp at hb; done) | (simp at hb) | skip) | omega | exact rfl | exact Nat.le_refl _ | (show _ + 1 ≤ 4294967296; omega) | (dsimp only; omega) | (show (_ : Int) ≤ (_ : Int); omega) | (show _ < List.length _; simp only [List.length_set, List.length_append, List.length_take]; omega) | (show wantB _ _ = true; simp; done) | (show wantB _ _ = true; simp; omega) | (show (_ : Bool) = _; simp_all; done) | (exfalso; omega) | refine aRegion_auto (by decide +kernel) ?_ | refine ⟨_, _, REnt.drop ⟨rfl, rfl⟩, ?_⟩ | fail))
  refine ⟨Nat, fun k => ⟨[(0, .fz .raw (errV (ea E e))), (3, .fz int (-1)), (24, .ref 1 0 8), (25, .fz int 8), (26, .fz int k)], [.box [.fz .raw (.pointer none)], .row .raw (errs E)]⟩, fun k => k < e, fun k => e - k, 0, h, Ent.sub rfl ?_, ?_⟩
  · (repeat' (first | exact trivial | exact rfl | refine And.intro ?_ ?_))
  intro k hk
  have hk8 : 0 + Int.toNat (k : Int) < (errs E).length := by show 0 + Int.toNat (k : Int) < 8; omega
  (repeat' (first | exact trivial | exact fun h => h | refine And.intro ?_ ?_ | (intro hb; first | (simp at hb; done) | (simp at hb) | skip) | omega | exact rfl | exact Nat.le_refl _ | (show _ + 1 ≤ 4294967296; omega) | (dsimp only; omega) | (show (_ : Int) ≤ (_ : Int); omega) | (show _ < List.length _; simp only [List.length_set, List.length_append, List.length_take]; omega) | (show wantB _ _ = true; simp; done) | (show wantB _ _ = true; simp; omega) | (show (_ : Bool) = _; simp_all; done) | (exfalso; omega) | refine aRegion_auto (by decide +kernel) ?_ | refine ⟨_, _, REnt.drop ⟨rfl, rfl⟩, ?_⟩ | fail))
  · refine acall_frame0 rfl (acall_arg (errIs_any hE h h8 (Nat.succ_pos k) (by omega) _ _ ?_) (congrArg (fun v => [AV.fz .raw (errV (ea E e)), AV.fz .raw v]) ((errs_at E (k := k) (by omega)).symm.trans (congrArg (fun i => List.getD (errs E) i (Ty.dft .raw)) (show k = 0 + Int.toNat (k : Int) by omega)))))
    (repeat' (first | exact trivial | exact fun h => h | refine And.intro ?_ ?_ | (intro hb; first | (simp at hb; done) | (simp at hb) | skip) | omega | exact rfl | exact Nat.le_refl _ | (show _ + 1 ≤ 4294967296; omega) | (dsimp only; omega) | (show (_ : Int) ≤ (_ : Int); omega) | (show _ < List.length _; simp only [List.length_set, List.length_append, List.length_take]; omega) | (show wantB _ _ = true; simp; done) | (show wantB _ _ = true; simp; omega) | (show (_ : Bool) = _; simp_all; done) | (exfalso; omega) | refine aRegion_auto (by decide +kernel) ?_ | refine ⟨_, _, REnt.drop ⟨rfl, rfl⟩, ?_⟩ | fail))
    · have hb : e = k + 1 := by simpa using hb
      subst hb
      exact hK
    · have hb : ¬ e = k + 1 := by simpa using hb
      refine ⟨k + 1, by omega, by show _ - _ < _ - _; omega, Ent.sub rfl ?_⟩
      (repeat' (first | exact trivial | exact rfl | refine And.intro ?_ ?_))
theorem coded_mercatorlaw5 {E : Errs} (hE : (EL E).Nodup) {e : Nat} (h8 : e ≤ 8) (n : Int) (K : AV → List AO → Prop) (hK : K (.fz .bool (decide ((e : Int) = n))) []) : ACall Tryd.prog (G8 E) 12 [.fz .raw (er E e), .fz int n] [] K := by
  refine acall_mk (E := envAt (G8 E) 15 0) (envOk _ _ _) Tryd.func12 rfl rfl rfl rfl rfl ?_
  (repeat' (first | exact trivial | exact fun h => h | refine And.intro ?_ ?_ | (intro hb; first | (simp at hb; done) | (simp at hb) | skip) | omega | exact rfl | exact Nat.le_refl _ | (show _ + 1 ≤ 4294967296; omega) | (dsimp only; omega) | (show (_ : Int) ≤ (_ : Int); omega) | (show _ < List.length _; simp only [List.length_set, List.length_append, List.length_take]; omega) | (show wantB _ _ = true; simp; done) | (show wantB _ _ = true; simp; omega) | (show (_ : Bool) = _; simp_all; done) | (exfalso; omega) | refine aRegion_auto (by decide +kernel) ?_ | refine ⟨_, _, REnt.drop ⟨rfl, rfl⟩, ?_⟩ | fail))
  by_cases h : e = 0
  · subst h
    refine acall_frame0 rfl (code_nil E _ ?_)
    (repeat' (first | exact trivial | exact fun h => h | refine And.intro ?_ ?_ | (intro hb; first | (simp at hb; done) | (simp at hb) | skip) | omega | exact rfl | exact Nat.le_refl _ | (show _ + 1 ≤ 4294967296; omega) | (dsimp only; omega) | (show (_ : Int) ≤ (_ : Int); omega) | (show _ < List.length _; simp only [List.length_set, List.length_append, List.length_take]; omega) | (show wantB _ _ = true; simp; done) | (show wantB _ _ = true; simp; omega) | (show (_ : Bool) = _; simp_all; done) | (exfalso; omega) | refine aRegion_auto (by decide +kernel) ?_ | refine ⟨_, _, REnt.drop ⟨rfl, rfl⟩, ?_⟩ | fail))
    exact hK
  · refine acall_frame0 rfl (acall_arg (code_any hE (Nat.pos_of_ne_zero h) h8 _ ?_) (congrArg (fun v => [AV.fz .raw v]) (er_ea E (Nat.pos_of_ne_zero h)).symm))
    (repeat' (first | exact trivial | exact fun h => h | refine And.intro ?_ ?_ | (intro hb; first | (simp at hb; done) | (simp at hb) | skip) | omega | exact rfl | exact Nat.le_refl _ | (show _ + 1 ≤ 4294967296; omega) | (dsimp only; omega) | (show (_ : Int) ≤ (_ : Int); omega) | (show _ < List.length _; simp only [List.length_set, List.length_append, List.length_take]; omega) | (show wantB _ _ = true; simp; done) | (show wantB _ _ = true; simp; omega) | (show (_ : Bool) = _; simp_all; done) | (exfalso; omega) | refine aRegion_auto (by decide +kernel) ?_ | refine ⟨_, _, REnt.drop ⟨rfl, rfl⟩, ?_⟩ | fail))
    exact hK
end Go.Proofs.YtdbgkhcknaafoaaDoor
/-
  The same numbers, in each package of statements that asks it; small helps.
-/
namespace Go.Proofs.YtdbgkhcknaafoaaDoor
open Go Go.Ab
set_option maxRecDepth 100000
theorem kbl {K : AV → List AO → Prop} {b b' : Bool} {A : List AO} (h : K (.fz .bool b) A) (e : b = b') : K (.fz .bool b') A := e ▸ h
end Go.Proofs.YtdbgkhcknaafoaaDoor
/-
  Points and rings: the small walks.
-/
namespace Go.Proofs.YtdbgkhcknaafoaaDoor
open Go Go.Ab
set_option maxRecDepth 100000
abbrev SpT : Ty := .pair int int
/-- a place on paper -/
def plB (p : Int × Int) : Bool := (decide (p.1 ≤ 16777216) && decide (-16777216 ≤ p.1)) && (decide (p.2 ≤ 16777216) && decide (-16777216 ≤ p.2))
theorem plB_iff {p : Int × Int} : plB p = true ↔ (p.1 ≤ 16777216 ∧ -16777216 ≤ p.1) ∧ (p.2 ≤ 16777216 ∧ -16777216 ≤ p.2) := by unfold plB; simp
theorem great_any (G : List (Nat × Value)) (p : Int × Int) (K : AV → List AO → Prop) (hK : K (.fz .bool (!plB p)) []) : ACall Tryd.prog G 18 [.fz SpT p] [] K := by
  refine acall_mk (E := envAt G 21 0) (envOk _ _ _) Tryd.func18 rfl rfl rfl rfl rfl ?_
  (repeat' (first | exact trivial | exact fun h => h | refine And.intro ?_ ?_ | (intro hb; first | (simp at hb; done) | (simp at hb) | skip) | omega | exact rfl | exact Nat.le_refl _ | (show _ + 1 ≤ 4294967296; omega) | (dsimp only; omega) | (show (_ : Int) ≤ (_ : Int); omega) | (show _ < List.length _; simp only [List.length_set, List.length_append, List.length_take]; omega) | (show wantB _ _ = true; simp; done) | (show wantB _ _ = true; simp; omega) | (show (_ : Bool) = _; simp_all; done) | (exfalso; omega) | refine aRegion_auto (by decide +kernel) ?_ | refine ⟨_, _, REnt.drop ⟨rfl, rfl⟩, ?_⟩ | fail))
  refine kbl hK ?_
  unfold plB
  rw [Bool.eq_iff_iff]
  simp
  omega
theorem isPlace_any (G : List (Nat × Value)) (p : Int × Int) (K : AV → List AO → Prop) (hK : K (.fz .bool (plB p)) []) : ACall Tryd.prog G 8 [.fz SpT p] [] K := by
  refine acall_mk (E := envAt G 25 0) (envOk _ _ _) Tryd.func8 rfl rfl rfl rfl rfl ?_
  (repeat' (first | exact trivial | exact fun h => h | refine And.intro ?_ ?_ | (intro hb; first | (simp at hb; done) | (simp at hb) | skip) | omega | exact rfl | exact Nat.le_refl _ | (show _ + 1 ≤ 4294967296; omega) | (dsimp only; omega) | (show (_ : Int) ≤ (_ : Int); omega) | (show _ < List.length _; simp only [List.length_set, List.length_append, List.length_take]; omega) | (show wantB _ _ = true; simp; done) | (show wantB _ _ = true; simp; omega) | (show (_ : Bool) = _; simp_all; done) | (exfalso; omega) | refine aRegion_auto (by decide +kernel) ?_ | refine ⟨_, _, REnt.drop ⟨rfl, rfl⟩, ?_⟩ | fail))
  refine kbl hK ?_
  unfold plB
  rw [Bool.eq_iff_iff]
  simp
theorem mulb {a b : Int} (ha : -33554432 ≤ a ∧ a ≤ 33554432) (hb : -33554432 ≤ b ∧ b ≤ 33554432) : -1125899906842624 ≤ a * b ∧ a * b ≤ 1125899906842624 := by
  rcases Int.le_total 0 a with h1 | h1 <;> rcases Int.le_total 0 b with h2 | h2
  · have := mul_bd (A := 33554432) (B := 33554432) h1 ha.2 h2 hb.2
    omega
  · have := mul_bd (A := 33554432) (B := 33554432) (b := -b) h1 ha.2 (by omega) (by omega)
    rw [Int.mul_neg] at this
    omega
  · have := mul_bd (A := 33554432) (B := 33554432) (a := -a) (by omega) (by omega) h2 hb.2
    rw [Int.neg_mul] at this
    omega
  · have := mul_bd (A := 33554432) (B := 33554432) (a := -a) (b := -b) (by omega) (by omega) (by omega) (by omega)
    rw [Int.neg_mul_neg] at this
    omega
theorem side_any (G : List (Nat × Value)) (p q r : Int × Int) (hp : plB p = true) (hq : plB q = true) (hr : plB r = true) (K : AV → List AO → Prop) (hK : K (.fz int (Shp.side p q r)) []) : ACall Tryd.prog G 20 [.fz SpT p, .fz SpT q, .fz SpT r] [] K := by
  rw [plB_iff] at hp hq hr
  have m1 := mulb (a := q.1 - p.1) (b := r.2 - p.2) (by omega) (by omega)
  have m2 := mulb (a := q.2 - p.2) (b := r.1 - p.1) (by omega) (by omega)
  refine acall_mk (E := envAt G 30 0) (envOk _ _ _) Tryd.func20 rfl rfl rfl rfl rfl ?_
  (repeat' (first | exact trivial | exact fun h => h | refine And.intro ?_ ?_ | (intro hb; first | (simp at hb; done) | (simp at hb) | skip) | omega | exact rfl | exact Nat.le_refl _ | (show _ + 1 ≤ 4294967296; omega) | (dsimp only; omega) | (show (_ : Int) ≤ (_ : Int); omega) | (show _ < List.length _; simp only [List.length_set, List.length_append, List.length_take]; omega) | (show wantB _ _ = true; simp; done) | (show wantB _ _ = true; simp; omega) | (show (_ : Bool) = _; simp_all; done) | (exfalso; omega) | refine aRegion_auto (by decide +kernel) ?_ | refine ⟨_, _, REnt.drop ⟨rfl, rfl⟩, ?_⟩ | fail))
  exact hK
theorem turn_any (G : List (Nat × Value)) (p q r : Int × Int) (hp : plB p = true) (hq : plB q = true) (hr : plB r = true) (K : AV → List AO → Prop) (hK : K (.fz int (Shp.side p q r)) []) : ACall Tryd.prog G 24 [.fz SpT p, .fz SpT q, .fz SpT r] [] K := by
  rw [plB_iff] at hp hq hr
  have m1 := mulb (a := q.1 - p.1) (b := r.2 - q.2) (by omega) (by omega)
  have m2 := mulb (a := q.2 - p.2) (b := r.1 - q.1) (by omega) (by omega)
  rw [← Shp.turn_side] at hK
  refine acall_mk (E := envAt G 30 0) (envOk _ _ _) Tryd.func24 rfl rfl rfl rfl rfl ?_
  (repeat' (first | exact trivial | exact fun h => h | refine And.intro ?_ ?_ | (intro hb; first | (simp at hb; done) | (simp at hb) | skip) | omega | exact rfl | exact Nat.le_refl _ | (show _ + 1 ≤ 4294967296; omega) | (dsimp only; omega) | (show (_ : Int) ≤ (_ : Int); omega) | (show _ < List.length _; simp only [List.length_set, List.length_append, List.length_take]; omega) | (show wantB _ _ = true; simp; done) | (show wantB _ _ = true; simp; omega) | (show (_ : Bool) = _; simp_all; done) | (exfalso; omega) | refine aRegion_auto (by decide +kernel) ?_ | refine ⟨_, _, REnt.drop ⟨rfl, rfl⟩, ?_⟩ | fail))
  exact hK
theorem on_any (G : List (Nat × Value)) (p q r : Int × Int) (hp : plB p = true) (hq : plB q = true) (hr : plB r = true) (K : AV → List AO → Prop) (hK : K (.fz .bool (Shp.on p q r)) []) : ACall Tryd.prog G 19 [.fz SpT p, .fz SpT q, .fz SpT r] [] K := by
  refine acall_mk (E := envAt G 52 0) (envOk _ _ _) Tryd.func19 rfl rfl rfl rfl rfl ?_
  (repeat' (first | exact trivial | exact fun h => h | refine And.intro ?_ ?_ | (intro hb; first | (simp at hb; done) | (simp at hb) | skip) | omega | exact rfl | exact Nat.le_refl _ | (show _ + 1 ≤ 4294967296; omega) | (dsimp only; omega) | (show (_ : Int) ≤ (_ : Int); omega) | (show _ < List.length _; simp only [List.length_set, List.length_append, List.length_take]; omega) | (show wantB _ _ = true; simp; done) | (show wantB _ _ = true; simp; omega) | (show (_ : Bool) = _; simp_all; done) | (exfalso; omega) | refine aRegion_auto (by decide +kernel) ?_ | refine ⟨_, _, REnt.drop ⟨rfl, rfl⟩, ?_⟩ | fail))
  refine acall_conv [.dat SpT, .dat SpT, .dat SpT] _ _ _ rfl trivial (acall_frame0 rfl (side_any _ p q r hp hq hr _ ?_))
  (repeat' (first | exact trivial | exact fun h => h | refine And.intro ?_ ?_ | (intro hb; first | (simp at hb; done) | (simp at hb) | skip) | omega | exact rfl | exact Nat.le_refl _ | (show _ + 1 ≤ 4294967296; omega) | (dsimp only; omega) | (show (_ : Int) ≤ (_ : Int); omega) | (show _ < List.length _; simp only [List.length_set, List.length_append, List.length_take]; omega) | (show wantB _ _ = true; simp; done) | (show wantB _ _ = true; simp; omega) | (show (_ : Bool) = _; simp_all; done) | (exfalso; omega) | refine aRegion_auto (by decide +kernel) ?_ | refine ⟨_, _, REnt.drop ⟨rfl, rfl⟩, ?_⟩ | fail))
  refine kbl hK ?_
  unfold Shp.on
  rw [Bool.eq_iff_iff]
  simp
theorem within_any (G : List (Nat × Value)) (n a b : Int) (K : AV → List AO → Prop) (hK : K (.fz .bool (decide (min a b ≤ n) && decide (n ≤ max a b))) []) : ACall Tryd.prog G 33 [.fz int n, .fz int a, .fz int b] [] K := by
  refine acall_mk (E := envAt G 20 0) (envOk _ _ _) Tryd.func33 rfl rfl rfl rfl rfl ?_
  (repeat' (first | exact trivial | exact fun h => h | refine And.intro ?_ ?_ | (intro hb; first | (simp at hb; done) | (simp at hb) | skip) | omega | exact rfl | exact Nat.le_refl _ | (show _ + 1 ≤ 4294967296; omega) | (dsimp only; omega) | (show (_ : Int) ≤ (_ : Int); omega) | (show _ < List.length _; simp only [List.length_set, List.length_append, List.length_take]; omega) | (show wantB _ _ = true; simp; done) | (show wantB _ _ = true; simp; omega) | (show (_ : Bool) = _; simp_all; done) | (exfalso; omega) | refine aRegion_auto (by decide +kernel) ?_ | refine ⟨_, _, REnt.drop ⟨rfl, rfl⟩, ?_⟩ | fail))
  all_goals
    refine kbl hK ?_
    rw [Bool.eq_iff_iff]
    simp
    omega
theorem onPiece_any (G : List (Nat × Value)) (p q r : Int × Int) (hp : plB p = true) (hq : plB q = true) (hr : plB r = true) (K : AV → List AO → Prop) (hK : K (.fz .bool (Shp.on p q r)) []) : ACall Tryd.prog G 26 [.fz SpT p, .fz SpT q, .fz SpT r] [] K := by
  refine acall_mk (E := envAt G 32 0) (envOk _ _ _) Tryd.func26 rfl rfl rfl rfl rfl ?_
  refine acall_conv [.dat SpT, .dat SpT, .dat SpT] _ _ _ rfl trivial (acall_frame0 rfl (turn_any _ p q r hp hq hr _ ?_))
  by_cases h0 : Shp.side p q r = 0
  · (repeat' (first | exact trivial | exact fun h => h | refine And.intro ?_ ?_ | (intro hb; first | (simp at hb; done) | (simp at hb) | skip) | omega | exact rfl | exact Nat.le_refl _ | (show _ + 1 ≤ 4294967296; omega) | (dsimp only; omega) | (show (_ : Int) ≤ (_ : Int); omega) | (show _ < List.length _; simp only [List.length_set, List.length_append, List.length_take]; omega) | (show wantB _ _ = true; simp; done) | (show wantB _ _ = true; simp; omega) | (show (_ : Bool) = _; simp_all; done) | (exfalso; omega) | refine aRegion_auto (by decide +kernel) ?_ | refine ⟨_, _, REnt.drop ⟨rfl, rfl⟩, ?_⟩ | fail))
    refine acall_frame0 rfl (within_any _ r.1 p.1 q.1 _ ?_)
    (repeat' (first | exact trivial | exact fun h => h | refine And.intro ?_ ?_ | (intro hb; first | (simp at hb; done) | (simp at hb) | skip) | omega | exact rfl | exact Nat.le_refl _ | (show _ + 1 ≤ 4294967296; omega) | (dsimp only; omega) | (show (_ : Int) ≤ (_ : Int); omega) | (show _ < List.length _; simp only [List.length_set, List.length_append, List.length_take]; omega) | (show wantB _ _ = true; simp; done) | (show wantB _ _ = true; simp; omega) | (show (_ : Bool) = _; simp_all; done) | (exfalso; omega) | refine aRegion_auto (by decide +kernel) ?_ | refine ⟨_, _, REnt.drop ⟨rfl, rfl⟩, ?_⟩ | fail))
    refine acall_frame0 rfl (within_any _ r.2 p.2 q.2 _ ?_)
    (repeat' (first | exact trivial | exact fun h => h | refine And.intro ?_ ?_ | (intro hb; first | (simp at hb; done) | (simp at hb) | skip) | omega | exact rfl | exact Nat.le_refl _ | (show _ + 1 ≤ 4294967296; omega) | (dsimp only; omega) | (show (_ : Int) ≤ (_ : Int); omega) | (show _ < List.length _; simp only [List.length_set, List.length_append, List.length_take]; omega) | (show wantB _ _ = true; simp; done) | (show wantB _ _ = true; simp; omega) | (show (_ : Bool) = _; simp_all; done) | (exfalso; omega) | refine aRegion_auto (by decide +kernel) ?_ | refine ⟨_, _, REnt.drop ⟨rfl, rfl⟩, ?_⟩ | fail))
    refine kbl hK ?_
    unfold Shp.on
    rw [Bool.eq_iff_iff]
    simp [h0, and_assoc]
  · (repeat' (first | exact trivial | exact fun h => h | refine And.intro ?_ ?_ | (intro hb; first | (simp at hb; done) | (simp at hb) | skip) | omega | exact rfl | exact Nat.le_refl _ | (show _ + 1 ≤ 4294967296; omega) | (dsimp only; omega) | (show (_ : Int) ≤ (_ : Int); omega) | (show _ < List.length _; simp only [List.length_set, List.length_append, List.length_take]; omega) | (show wantB _ _ = true; simp; done) | (show wantB _ _ = true; simp; omega) | (show (_ : Bool) = _; simp_all; done) | (exfalso; omega) | refine aRegion_auto (by decide +kernel) ?_ | refine ⟨_, _, REnt.drop ⟨rfl, rfl⟩, ?_⟩ | fail))
    refine kbl hK ?_
    unfold Shp.on
    simp [h0]
end Go.Proofs.YtdbgkhcknaafoaaDoor
/-
  Points and rings: what is a ring, its area.
-/
namespace Go.Proofs.YtdbgkhcknaafoaaDoor
open Go Go.Ab
set_option maxRecDepth 100000
def idxS (p : Int × Int → Bool) (xs : List (Int × Int)) : Int := match xs.findIdx? p with
  | some i => (i : Nat)
  | none => -1
theorem indexFuncS_any (G : List (Nat × Value)) (xs : List (Int × Int)) (g : FuncId) (p : Int × Int → Bool) (hg : ∀ h K, K (.fz .bool (p h)) [] → ACall Tryd.prog G g [.fz SpT h] [] K) (hl : xs.length ≤ 1000000000000) (K : AV → List AO → Prop) (hK : K (.fz int (idxS p xs)) []) :
    ACall Tryd.prog G 34 [.fz (.list SpT) xs, .fn g []] [] K := by
  refine acall_mk (E := envAt G 19 0) (envOk _ _ _) Tryd.func34 rfl rfl rfl rfl rfl ?_
  (repeat' (first | exact trivial | exact fun h => h | refine And.intro ?_ ?_ | (intro hb; first | (simp at hb; done) | (simp at hb) | skip) | omega | exact rfl | exact Nat.le_refl _ | (show _ + 1 ≤ 4294967296; omega) | (dsimp only; omega) | (show (_ : Int) ≤ (_ : Int); omega) | (show _ < List.length _; simp only [List.length_set, List.length_append, List.length_take]; omega) | (show wantB _ _ = true; simp; done) | (show wantB _ _ = true; simp; omega) | (show (_ : Bool) = _; simp_all; done) | (exfalso; omega) | refine aRegion_auto (by decide +kernel) ?_ | fail))
  refine ⟨Nat, fun k => ⟨[(0, .fz (.list SpT) xs), (1, .fn g []), (7, .fz int xs.length), (8, .fz int k)], []⟩, fun k => k ≤ xs.length ∧ ∀ j, j < k → p (xs.getD j (0, 0)) = false, fun k => xs.length - k, 0, ⟨Nat.zero_le _, fun j h => absurd h (Nat.not_lt_zero _)⟩, Ent.sub rfl ⟨rfl, rfl, rfl, rfl⟩, ?_⟩
  intro k ⟨hk, hp⟩
  (repeat' (first | exact trivial | exact fun h => h | refine And.intro ?_ ?_ | (intro hb; first | (simp at hb; done) | (simp at hb) | skip) | omega | exact rfl | exact Nat.le_refl _ | (show _ + 1 ≤ 4294967296; omega) | (dsimp only; omega) | (show (_ : Int) ≤ (_ : Int); omega) | (show _ < List.length _; simp only [List.length_set, List.length_append, List.length_take]; omega) | (show wantB _ _ = true; simp; done) | (show wantB _ _ = true; simp; omega) | (show (_ : Bool) = _; simp_all; done) | (exfalso; omega) | refine aRegion_auto (by decide +kernel) ?_ | fail))
  · refine acall_frame0 rfl (hg _ _ ?_)
    (repeat' (first | exact trivial | exact fun h => h | refine And.intro ?_ ?_ | (intro hb; first | (simp at hb; done) | (simp at hb) | skip) | omega | exact rfl | exact Nat.le_refl _ | (show _ + 1 ≤ 4294967296; omega) | (dsimp only; omega) | (show (_ : Int) ≤ (_ : Int); omega) | (show _ < List.length _; simp only [List.length_set, List.length_append, List.length_take]; omega) | (show wantB _ _ = true; simp; done) | (show wantB _ _ = true; simp; omega) | (show (_ : Bool) = _; simp_all; done) | (exfalso; omega) | refine aRegion_auto (by decide +kernel) ?_ | fail))
    · refine ⟨_, _, REnt.refl _ _ _, ?_⟩
      have : idxS p xs = k := by
        unfold idxS
        have : xs.findIdx? p = some k := by
          rw [List.findIdx?_eq_some_iff_getElem]
          refine ⟨by assumption, ?_, fun j hj => ?_⟩
          · simpa [List.getD, show k < xs.length by assumption] using hb
          · have := hp j hj
            have hlt : j < xs.length := by omega
            simpa [List.getD, hlt] using this
        rw [this]
      rw [this] at hK; exact hK
    · refine ⟨k + 1, ⟨by omega, fun j hj => ?_⟩, by show _ - _ < _ - _; omega, Ent.sub rfl ⟨rfl, rfl, rfl, rfl⟩⟩
      by_cases h : j = k
      · subst h; exact hb
      · exact hp j (by omega)
  · refine ⟨_, _, REnt.refl _ _ _, ?_⟩
    have : idxS p xs = -1 := by
      unfold idxS
      have : xs.findIdx? p = none := by
        rw [List.findIdx?_eq_none_iff]
        intro x hx
        obtain ⟨j, hj, rfl⟩ := List.getElem_of_mem hx
        have := hp j (by omega)
        simpa [List.getD, hj] using this
      rw [this]
    rw [this] at hK; exact hK
theorem containsFuncS_any (G : List (Nat × Value)) (xs : List (Int × Int)) (g : FuncId) (p : Int × Int → Bool) (hg : ∀ h K, K (.fz .bool (p h)) [] → ACall Tryd.prog G g [.fz SpT h] [] K) (hl : xs.length ≤ 1000000000000) (K : AV → List AO → Prop) (hK : K (.fz .bool (xs.any p)) []) :
    ACall Tryd.prog G 27 [.fz (.list SpT) xs, .fn g []] [] K := by
  refine acall_mk (E := envAt G 9 0) (envOk _ _ _) Tryd.func27 rfl rfl rfl rfl rfl ?_
  (repeat' (first | exact trivial | exact fun h => h | refine And.intro ?_ ?_ | (intro hb; first | (simp at hb; done) | (simp at hb) | skip) | omega | exact rfl | exact Nat.le_refl _ | (show _ + 1 ≤ 4294967296; omega) | (dsimp only; omega) | (show (_ : Int) ≤ (_ : Int); omega) | (show _ < List.length _; simp only [List.length_set, List.length_append, List.length_take]; omega) | (show wantB _ _ = true; simp; done) | (show wantB _ _ = true; simp; omega) | (show (_ : Bool) = _; simp_all; done) | (exfalso; omega) | refine aRegion_auto (by decide +kernel) ?_ | fail))
  refine acall_frame0 rfl (indexFuncS_any G xs g p hg hl _ ?_)
  (repeat' (first | exact trivial | exact fun h => h | refine And.intro ?_ ?_ | (intro hb; first | (simp at hb; done) | (simp at hb) | skip) | omega | exact rfl | exact Nat.le_refl _ | (show _ + 1 ≤ 4294967296; omega) | (dsimp only; omega) | (show (_ : Int) ≤ (_ : Int); omega) | (show _ < List.length _; simp only [List.length_set, List.length_append, List.length_take]; omega) | (show wantB _ _ = true; simp; done) | (show wantB _ _ = true; simp; omega) | (show (_ : Bool) = _; simp_all; done) | (exfalso; omega) | refine aRegion_auto (by decide +kernel) ?_ | fail))
  refine ⟨_, _, REnt.refl _ _ _, ?_⟩
  have : decide ((0 : Int) ≤ idxS p xs) = xs.any p := by
    unfold idxS
    cases h : xs.findIdx? p with
    | none =>
      rw [List.findIdx?_eq_none_iff] at h
      have hn : xs.any p = false := List.any_eq_false.2 fun x hx => by simpa using h x hx
      rw [hn]; rfl
    | some i =>
      obtain ⟨h1, h2, _⟩ := List.findIdx?_eq_some_iff_getElem.1 h
      have hn : xs.any p = true := List.any_eq_true.2 ⟨_, List.getElem_mem h1, h2⟩
      rw [hn]; exact decide_eq_true (show (0 : Int) ≤ ((i : Nat) : Int) by omega)
  rw [this]; exact hK
abbrev Pts := List (Int × Int)
def badI (l : Pts) (i : Nat) : Bool := !plB (Shp.at_ l i) || decide (Shp.at_ l i = Shp.at_ l (Shp.nx l i))
def ringE (l : Pts) : Nat := if 4000 < l.length then 2 else if l.length < 3 ∨ (List.range l.length).any (badI l) = true then 3 else 0
theorem tmod_nx (l : Pts) (i : Nat) : Int.tmod ((i : Int) + 1) ((List.length l : Nat) : Int) = ((Shp.nx l i : Nat) : Int) := by
  unfold Shp.nx
  rw [Int.tmod_eq_emod_of_nonneg (by omega), Int.natCast_emod]
  rfl
theorem at_q (l : Pts) (i : Nat) : l[i]?.getD SpT.dft = Shp.at_ l i := by unfold Shp.at_; rw [List.getD_eq_getElem?_getD]; rfl
theorem at_d (l : Pts) (i : Nat) : List.getD l (Int.toNat (i : Int)) SpT.dft = Shp.at_ l i := rfl
theorem eqS (p q : Int × Int) : eqL [p.1, p.2] [q.1, q.2] = decide (p = q) := by
  obtain ⟨a, b⟩ := p
  obtain ⟨c, d⟩ := q
  rw [Bool.eq_iff_iff]
  simp [eqL]
theorem nx_lt {l : Pts} {i : Nat} (h : 0 < l.length) : Shp.nx l i < l.length := Nat.mod_lt _ h
theorem any_bad {l : Pts} : (List.range l.length).any (badI l) = true ↔ ∃ i, i < l.length ∧ badI l i = true := by
  rw [List.any_eq_true]
  constructor
  · rintro ⟨i, h1, h2⟩; exact ⟨i, List.mem_range.1 h1, h2⟩
  · rintro ⟨i, h1, h2⟩; exact ⟨i, List.mem_range.2 h1, h2⟩
theorem any_great {l : Pts} (h : l.any (fun p => !plB p) = true) : ∃ i, i < l.length ∧ plB (Shp.at_ l i) = false := by
  obtain ⟨x, hx, h2⟩ := List.any_eq_true.1 h
  obtain ⟨i, hi, rfl⟩ := List.getElem_of_mem hx
  refine ⟨i, hi, ?_⟩
  have : Shp.at_ l i = l[i] := by unfold Shp.at_; simp [hi]
  rw [this]; simpa using h2
theorem no_great {l : Pts} (h : l.any (fun p => !plB p) = false) (i : Nat) (hi : i < l.length) : plB (Shp.at_ l i) = true := by
  have := List.any_eq_false.1 h (l[i]) (List.getElem_mem hi)
  have e : Shp.at_ l i = l[i] := by unfold Shp.at_; simp [hi]
  rw [e]; simpa using this
theorem ring_any (E : Errs) (l : Pts) (hl : l.length ≤ 1000000000000) (K : AV → List AO → Prop) (hK : K (.fz .raw (er E (ringE l))) []) : ACall Tryd.prog (G8 E) 16 [.fz (.list SpT) l] [] K := by
  refine acall_mk (E := envAt (G8 E) 36 0) (envOk _ _ _) Tryd.func16 rfl rfl rfl rfl rfl ?_
  by_cases h1 : 4000 < l.length
  · have e : ringE l = 2 := by unfold ringE; rw [if_pos h1]
    rw [e] at hK
    (repeat' (first | exact trivial | exact fun h => h | refine And.intro ?_ ?_ | (intro hb; first | (simp at hb; done) | (simp at hb) | skip) | omega | exact rfl | exact Nat.le_refl _ | (show _ + 1 ≤ 4294967296; omega) | (dsimp only; omega) | (show (_ : Int) ≤ (_ : Int); omega) | (show _ < List.length _; simp only [List.length_set, List.length_append, List.length_take]; omega) | (show wantB _ _ = true; simp; done) | (show wantB _ _ = true; simp; omega) | (show (_ : Bool) = _; simp_all; done) | (exfalso; omega) | refine aRegion_auto (by decide +kernel) ?_ | refine ⟨_, _, REnt.drop ⟨rfl, rfl⟩, ?_⟩ | fail))
    exact hK
  · by_cases h2 : l.length < 3
    · have e : ringE l = 3 := by unfold ringE; rw [if_neg h1, if_pos (.inl h2)]
      rw [e] at hK
      (repeat' (first | exact trivial | exact fun h => h | refine And.intro ?_ ?_ | (intro hb; first | (simp at hb; done) | (simp at hb) | skip) | omega | exact rfl | exact Nat.le_refl _ | (show _ + 1 ≤ 4294967296; omega) | (dsimp only; omega) | (show (_ : Int) ≤ (_ : Int); omega) | (show _ < List.length _; simp only [List.length_set, List.length_append, List.length_take]; omega) | (show wantB _ _ = true; simp; done) | (show wantB _ _ = true; simp; omega) | (show (_ : Bool) = _; simp_all; done) | (exfalso; omega) | refine aRegion_auto (by decide +kernel) ?_ | refine ⟨_, _, REnt.drop ⟨rfl, rfl⟩, ?_⟩ | fail))
      exact hK
    · (repeat' (first | exact trivial | exact fun h => h | refine And.intro ?_ ?_ | (intro hb; first | (simp at hb; done) | (simp at hb) | skip) | omega | exact rfl | exact Nat.le_refl _ | (show _ + 1 ≤ 4294967296; omega) | (dsimp only; omega) | (show (_ : Int) ≤ (_ : Int); omega) | (show _ < List.length _; simp only [List.length_set, List.length_append, List.length_take]; omega) | (show wantB _ _ = true; simp; done) | (show wantB _ _ = true; simp; omega) | (show (_ : Bool) = _; simp_all; done) | (exfalso; omega) | refine aRegion_auto (by decide +kernel) ?_ | refine ⟨_, _, REnt.drop ⟨rfl, rfl⟩, ?_⟩ | fail))
      refine acall_frame0 rfl (containsFuncS_any _ l _ (fun p => !plB p) (great_any _) hl _ ?_)
      cases hg : l.any (fun p => !plB p) with
      | true =>
        obtain ⟨i, hi, hb⟩ := any_great hg
        have e : ringE l = 3 := by
          unfold ringE
          rw [if_neg h1, if_pos (.inr (any_bad.2 ⟨i, hi, by unfold badI; rw [hb]; rfl⟩))]
        rw [e] at hK
        (repeat' (first | exact trivial | exact fun h => h | refine And.intro ?_ ?_ | (intro hb; first | (simp at hb; done) | (simp at hb) | skip) | omega | exact rfl | exact Nat.le_refl _ | (show _ + 1 ≤ 4294967296; omega) | (dsimp only; omega) | (show (_ : Int) ≤ (_ : Int); omega) | (show _ < List.length _; simp only [List.length_set, List.length_append, List.length_take]; omega) | (show wantB _ _ = true; simp; done) | (show wantB _ _ = true; simp; omega) | (show (_ : Bool) = _; simp_all; done) | (exfalso; omega) | refine aRegion_auto (by decide +kernel) ?_ | refine ⟨_, _, REnt.drop ⟨rfl, rfl⟩, ?_⟩ | fail))
        exact hK
      | false =>
        have hpl := no_great hg
        (repeat' (first | exact trivial | exact fun h => h | refine And.intro ?_ ?_ | (intro hb; first | (simp at hb; done) | (simp at hb) | skip) | omega | exact rfl | exact Nat.le_refl _ | (show _ + 1 ≤ 4294967296; omega) | (dsimp only; omega) | (show (_ : Int) ≤ (_ : Int); omega) | (show _ < List.length _; simp only [List.length_set, List.length_append, List.length_take]; omega) | (show wantB _ _ = true; simp; done) | (show wantB _ _ = true; simp; omega) | (show (_ : Bool) = _; simp_all; done) | (exfalso; omega) | refine aRegion_auto (by decide +kernel) ?_ | refine ⟨_, _, REnt.drop ⟨rfl, rfl⟩, ?_⟩ | fail))
        refine ⟨Nat, fun k => ⟨[(0, .fz (.list SpT) l), (17, .fz (.list SpT) l), (18, .fz int l.length), (19, .fz int k)], []⟩, fun k => k ≤ l.length ∧ ∀ i, i < k → badI l i = false, fun k => l.length - k, 0, ⟨Nat.zero_le _, fun i h => absurd h (Nat.not_lt_zero _)⟩, Ent.sub rfl ?_, ?_⟩
        · (repeat' (first | exact trivial | exact rfl | refine And.intro ?_ ?_))
        intro k ⟨hk, hbad⟩
        have hnx := nx_lt (l := l) (i := k) (by omega)
        have htm := tmod_nx l k
        by_cases hkl : k < l.length
        · have hne : l ≠ [] := fun e => by rw [e] at h2; exact h2 (by decide)
          have qk := at_q l k
          have qn := at_q l (Shp.nx l k)
          have hne2 : ∀ z : Int, z = ((Shp.nx l k : Nat) : Int) → l[Int.toNat z]?.getD SpT.dft = Shp.at_ l (Shp.nx l k) := fun z hz => by rw [hz, Int.toNat_natCast]; exact qn
          have hq2 := hne2 _ htm
          have hpk := hpl k hkl
          (repeat' (first | exact trivial | exact fun h => h | refine And.intro ?_ ?_ | (intro hb; first | (simp at hb; done) | (simp at hb) | skip) | omega | exact rfl | exact Nat.le_refl _ | (show _ + 1 ≤ 4294967296; omega) | (dsimp only; omega) | (show (_ : Int) ≤ (_ : Int); omega) | (show _ < List.length _; simp only [List.length_set, List.length_append, List.length_take]; omega) | (show wantB _ _ = true; simp; done) | (show wantB _ _ = true; simp; omega) | (show (_ : Bool) = _; simp_all; done) | (exfalso; omega) | refine aRegion_auto (by decide +kernel) ?_ | refine ⟨_, _, REnt.drop ⟨rfl, rfl⟩, ?_⟩ | fail))
          · exact hne hb
          · have hb2 : badI l k = true := by
              rw [qk, hq2, eqS] at hb
              unfold badI
              rw [hb]; simp
            have e : ringE l = 3 := by
              unfold ringE
              rw [if_neg h1, if_pos (.inr (any_bad.2 ⟨k, hkl, hb2⟩))]
            rw [e] at hK
            exact hK
          · have hb2 : badI l k = false := by
              rw [qk, hq2, eqS] at hb
              unfold badI
              rw [hb, hpk]; rfl
            refine ⟨k + 1, ⟨by show k + 1 ≤ l.length; omega, fun i hi => ?_⟩, by show l.length - (k + 1) < l.length - k; omega, Ent.ren [] rfl trivial ?_⟩
            · by_cases e : i = k
              · rw [e]; exact hb2
              · exact hbad i (by omega)
            · (repeat' (first | exact trivial | exact rfl | refine And.intro ?_ ?_))
        · have hke : k = l.length := by omega
          have e : ringE l = 0 := by
            unfold ringE
            rw [if_neg h1, if_neg]
            rintro (h | h)
            · exact h2 h
            · obtain ⟨i, hi, hb⟩ := any_bad.1 h
              rw [hbad i (by omega)] at hb; cases hb
          rw [e] at hK
          (repeat' (first | exact trivial | exact fun h => h | refine And.intro ?_ ?_ | (intro hb; first | (simp at hb; done) | (simp at hb) | skip) | omega | exact rfl | exact Nat.le_refl _ | (show _ + 1 ≤ 4294967296; omega) | (dsimp only; omega) | (show (_ : Int) ≤ (_ : Int); omega) | (show _ < List.length _; simp only [List.length_set, List.length_append, List.length_take]; omega) | (show wantB _ _ = true; simp; done) | (show wantB _ _ = true; simp; omega) | (show (_ : Bool) = _; simp_all; done) | (exfalso; omega) | refine aRegion_auto (by decide +kernel) ?_ | refine ⟨_, _, REnt.drop ⟨rfl, rfl⟩, ?_⟩ | fail))
          exact hK
theorem ringError_any (G : List (Nat × Value)) (l : Pts) (hl : l.length ≤ 1000000000000) (K : AV → List AO → Prop) (hK : K (.fz int (ringE l : Nat)) []) : ACall Tryd.prog G 7 [.fz (.list SpT) l] [] K := by
  refine acall_mk (E := envAt G 42 0) (envOk _ _ _) Tryd.func7 rfl rfl rfl rfl rfl ?_
  by_cases h1 : 4000 < l.length
  · have e : ringE l = 2 := by unfold ringE; rw [if_pos h1]
    rw [e] at hK
    (repeat' (first | exact trivial | exact fun h => h | refine And.intro ?_ ?_ | (intro hb; first | (simp at hb; done) | (simp at hb) | skip) | omega | exact rfl | exact Nat.le_refl _ | (show _ + 1 ≤ 4294967296; omega) | (dsimp only; omega) | (show (_ : Int) ≤ (_ : Int); omega) | (show _ < List.length _; simp only [List.length_set, List.length_append, List.length_take]; omega) | (show wantB _ _ = true; simp; done) | (show wantB _ _ = true; simp; omega) | (show (_ : Bool) = _; simp_all; done) | (exfalso; omega) | refine aRegion_auto (by decide +kernel) ?_ | refine ⟨_, _, REnt.drop ⟨rfl, rfl⟩, ?_⟩ | fail))
    exact hK
  · by_cases h2 : l.length < 3
    · have e : ringE l = 3 := by unfold ringE; rw [if_neg h1, if_pos (.inl h2)]
      rw [e] at hK
      (repeat' (first | exact trivial | exact fun h => h | refine And.intro ?_ ?_ | (intro hb; first | (simp at hb; done) | (simp at hb) | skip) | omega | exact rfl | exact Nat.le_refl _ | (show _ + 1 ≤ 4294967296; omega) | (dsimp only; omega) | (show (_ : Int) ≤ (_ : Int); omega) | (show _ < List.length _; simp only [List.length_set, List.length_append, List.length_take]; omega) | (show wantB _ _ = true; simp; done) | (show wantB _ _ = true; simp; omega) | (show (_ : Bool) = _; simp_all; done) | (exfalso; omega) | refine aRegion_auto (by decide +kernel) ?_ | refine ⟨_, _, REnt.drop ⟨rfl, rfl⟩, ?_⟩ | fail))
      exact hK
    · (repeat' (first | exact trivial | exact fun h => h | refine And.intro ?_ ?_ | (intro hb; first | (simp at hb; done) | (simp at hb) | skip) | omega | exact rfl | exact Nat.le_refl _ | (show _ + 1 ≤ 4294967296; omega) | (dsimp only; omega) | (show (_ : Int) ≤ (_ : Int); omega) | (show _ < List.length _; simp only [List.length_set, List.length_append, List.length_take]; omega) | (show wantB _ _ = true; simp; done) | (show wantB _ _ = true; simp; omega) | (show (_ : Bool) = _; simp_all; done) | (exfalso; omega) | refine aRegion_auto (by decide +kernel) ?_ | refine ⟨_, _, REnt.drop ⟨rfl, rfl⟩, ?_⟩ | fail))
      refine ⟨Nat, fun k => ⟨[(0, .fz (.list SpT) l), (3, .fz int k)], []⟩, fun k => k ≤ l.length ∧ ∀ i, i < k → badI l i = false, fun k => l.length - k, 0, ⟨Nat.zero_le _, fun i h => absurd h (Nat.not_lt_zero _)⟩, Ent.sub rfl ?_, ?_⟩
      · (repeat' (first | exact trivial | exact rfl | refine And.intro ?_ ?_))
      intro k ⟨hk, hbad⟩
      by_cases hkl : k < l.length
      · have qk := at_q l k
        have qd := at_d l k
        (repeat' (first | exact trivial | exact fun h => h | refine And.intro ?_ ?_ | (intro hb; first | (simp at hb; done) | (simp at hb) | skip) | omega | exact rfl | exact Nat.le_refl _ | (show _ + 1 ≤ 4294967296; omega) | (dsimp only; omega) | (show (_ : Int) ≤ (_ : Int); omega) | (show _ < List.length _; simp only [List.length_set, List.length_append, List.length_take]; omega) | (show wantB _ _ = true; simp; done) | (show wantB _ _ = true; simp; omega) | (show (_ : Bool) = _; simp_all; done) | (exfalso; omega) | refine aRegion_auto (by decide +kernel) ?_ | refine ⟨_, _, REnt.drop ⟨rfl, rfl⟩, ?_⟩ | fail))
        refine acall_frame0 rfl (acall_arg (isPlace_any _ (Shp.at_ l k) _ ?_) rfl)
        by_cases hlast : k + 1 = l.length
        · have hnx : Shp.nx l k = 0 := by unfold Shp.nx; rw [hlast]; exact Nat.mod_self _
          have qn : l[0]?.getD SpT.dft = Shp.at_ l (Shp.nx l k) := by rw [hnx]; exact at_q l _
          (repeat' (first | exact trivial | exact fun h => h | refine And.intro ?_ ?_ | (intro hb; first | (simp at hb; done) | (simp at hb) | skip) | omega | exact rfl | exact Nat.le_refl _ | (show _ + 1 ≤ 4294967296; omega) | (dsimp only; omega) | (show (_ : Int) ≤ (_ : Int); omega) | (show _ < List.length _; simp only [List.length_set, List.length_append, List.length_take]; omega) | (show wantB _ _ = true; simp; done) | (show wantB _ _ = true; simp; omega) | (show (_ : Bool) = _; simp_all; done) | (exfalso; omega) | refine aRegion_auto (by decide +kernel) ?_ | refine ⟨_, _, REnt.drop ⟨rfl, rfl⟩, ?_⟩ | fail))
          · have hb2 : badI l k = true := by
              unfold badI
              rcases hb with hb | hb
              · rw [hb]; rfl
              · rw [qk, qn, eqS] at hb
                rw [hb]; simp
            have e : ringE l = 3 := by
              unfold ringE
              rw [if_neg h1, if_pos (.inr (any_bad.2 ⟨k, hkl, hb2⟩))]
            rw [e] at hK
            exact hK
          · have hb2 : badI l k = false := by
              obtain ⟨hb, hb'⟩ := hb
              rw [qk, qn, eqS] at hb'
              unfold badI
              rw [hb, hb']; rfl
            refine ⟨k + 1, ⟨by show k + 1 ≤ l.length; omega, fun i hi => ?_⟩, by show l.length - (k + 1) < l.length - k; omega, Ent.sub rfl ?_⟩
            · by_cases e : i = k
              · rw [e]; exact hb2
              · exact hbad i (by omega)
            · (repeat' (first | exact trivial | exact rfl | refine And.intro ?_ ?_))
        · have hnx : Shp.nx l k = k + 1 := Nat.mod_eq_of_lt (by omega)
          have qn : l[k + 1]?.getD SpT.dft = Shp.at_ l (Shp.nx l k) := by rw [hnx]; exact at_q l _
          (repeat' (first | exact trivial | exact fun h => h | refine And.intro ?_ ?_ | (intro hb; first | (simp at hb; done) | (simp at hb) | skip) | omega | exact rfl | exact Nat.le_refl _ | (show _ + 1 ≤ 4294967296; omega) | (dsimp only; omega) | (show (_ : Int) ≤ (_ : Int); omega) | (show _ < List.length _; simp only [List.length_set, List.length_append, List.length_take]; omega) | (show wantB _ _ = true; simp; done) | (show wantB _ _ = true; simp; omega) | (show (_ : Bool) = _; simp_all; done) | (exfalso; omega) | refine aRegion_auto (by decide +kernel) ?_ | refine ⟨_, _, REnt.drop ⟨rfl, rfl⟩, ?_⟩ | fail))
          · have hb2 : badI l k = true := by
              unfold badI
              rcases hb with hb | hb
              · rw [hb]; rfl
              · rw [qk, qn, eqS] at hb
                rw [hb]; simp
            have e : ringE l = 3 := by
              unfold ringE
              rw [if_neg h1, if_pos (.inr (any_bad.2 ⟨k, hkl, hb2⟩))]
            rw [e] at hK
            exact hK
          · have hb2 : badI l k = false := by
              obtain ⟨hb, hb'⟩ := hb
              rw [qk, qn, eqS] at hb'
              unfold badI
              rw [hb, hb']; rfl
            refine ⟨k + 1, ⟨by show k + 1 ≤ l.length; omega, fun i hi => ?_⟩, by show l.length - (k + 1) < l.length - k; omega, Ent.sub rfl ?_⟩
            · by_cases e : i = k
              · rw [e]; exact hb2
              · exact hbad i (by omega)
            · (repeat' (first | exact trivial | exact rfl | refine And.intro ?_ ?_))
      · have hke : k = l.length := by omega
        have e : ringE l = 0 := by
          unfold ringE
          rw [if_neg h1, if_neg]
          rintro (h | h)
          · exact h2 h
          · obtain ⟨i, hi, hb⟩ := any_bad.1 h
            rw [hbad i (by omega)] at hb; cases hb
        rw [e] at hK
        (repeat' (first | exact trivial | exact fun h => h | refine And.intro ?_ ?_ | (intro hb; first | (simp at hb; done) | (simp at hb) | skip) | omega | exact rfl | exact Nat.le_refl _ | (show _ + 1 ≤ 4294967296; omega) | (dsimp only; omega) | (show (_ : Int) ≤ (_ : Int); omega) | (show _ < List.length _; simp only [List.length_set, List.length_append, List.length_take]; omega) | (show wantB _ _ = true; simp; done) | (show wantB _ _ = true; simp; omega) | (show (_ : Bool) = _; simp_all; done) | (exfalso; omega) | refine aRegion_auto (by decide +kernel) ?_ | refine ⟨_, _, REnt.drop ⟨rfl, rfl⟩, ?_⟩ | fail))
        exact hK
/-! ### areas -/
theorem ringE_no {l : Pts} (h : ringE l = 0) : 3 ≤ l.length ∧ l.length ≤ 4000 ∧ (∀ i, i < l.length → plB (Shp.at_ l i) = true) ∧ ∀ i, i < l.length → Shp.at_ l i ≠ Shp.at_ l (Shp.nx l i) := by
  unfold ringE at h
  split at h
  · omega
  · split at h
    · omega
    · rename_i h1 h2
      have hb : ∀ i, i < l.length → badI l i = false := fun i hi => by
        cases e : badI l i with
        | false => rfl
        | true => exact absurd (.inr (any_bad.2 ⟨i, hi, e⟩)) h2
      refine ⟨by omega, by omega, fun i hi => ?_, fun i hi => ?_⟩
      · have := hb i hi
        unfold badI at this
        simp at this
        exact this.1
      · have := hb i hi
        unfold badI at this
        simp at this
        exact this.2
theorem crossb {p q : Int × Int} (hp : plB p = true) (hq : plB q = true) : -1125899906842624 ≤ p.1 * q.2 ∧ p.1 * q.2 ≤ 1125899906842624 := by
  rw [plB_iff] at hp hq
  exact mulb (by omega) (by omega)
theorem area_bd {l : Pts} (hp : ∀ i, i < l.length → plB (Shp.at_ l i) = true) : ∀ k, k ≤ l.length → -((k : Int) * 2251799813685248) ≤ Shp.areaTo l k ∧ Shp.areaTo l k ≤ (k : Int) * 2251799813685248
  | 0, _ => ⟨Int.le_refl _, Int.le_refl _⟩
  | k + 1, hk => by
    have ih := area_bd hp k (by omega)
    have h1 := hp k (by omega)
    have h2 := hp (Shp.nx l k) (nx_lt (by omega))
    have c1 := crossb h1 h2
    have c2 := crossb h2 h1
    show -(((k + 1 : Nat) : Int) * 2251799813685248) ≤ Shp.areaTo l k + (_ - _) ∧ Shp.areaTo l k + (_ - _) ≤ ((k + 1 : Nat) : Int) * 2251799813685248
    omega
theorem area_any (G : List (Nat × Value)) (l : Pts) (h0 : ringE l = 0) (K : AV → List AO → Prop) (hK : K (.fz int (Shp.area l)) []) : ACall Tryd.prog G 17 [.fz (.list SpT) l] [] K := by
  obtain ⟨h3, h4, hp, _⟩ := ringE_no h0
  refine acall_mk (E := envCut G 37 0 [6]) (envCutOk _ _ _ _) Tryd.func17 rfl rfl rfl rfl rfl ?_
  (repeat' (first | exact trivial | exact fun h => h | refine And.intro ?_ ?_ | (intro hb; first | (simp at hb; done) | (simp at hb) | skip) | omega | exact rfl | exact Nat.le_refl _ | (show _ + 1 ≤ 4294967296; omega) | (dsimp only; omega) | (show (_ : Int) ≤ (_ : Int); omega) | (show _ < List.length _; simp only [List.length_set, List.length_append, List.length_take]; omega) | (show wantB _ _ = true; simp; done) | (show wantB _ _ = true; simp; omega) | (show (_ : Bool) = _; simp_all; done) | (exfalso; omega) | refine aRegion_auto (by decide +kernel) ?_ | refine ⟨_, _, REnt.drop ⟨rfl, rfl⟩, ?_⟩ | fail))
  refine ⟨Nat, fun k => ⟨[(0, .fz (.list SpT) l), (3, .fz int (Shp.areaTo l k)), (7, .fz (.list SpT) l), (8, .fz int l.length), (9, .fz int k)], []⟩, fun k => k ≤ l.length, fun k => l.length - k, 0, Nat.zero_le _, Ent.sub rfl ?_, ?_⟩
  · (repeat' (first | exact trivial | exact rfl | refine And.intro ?_ ?_))
  intro k hk
  have hb := area_bd hp k hk
  by_cases hkl : k < l.length
  · have hne : l ≠ [] := fun e => by rw [e] at h3; simp at h3
    have hnx := nx_lt (l := l) (i := k) (by omega)
    have htm := tmod_nx l k
    have qd := at_d l k
    have qn : ∀ z : Int, z = ((Shp.nx l k : Nat) : Int) → List.getD l (Int.toNat z) SpT.dft = Shp.at_ l (Shp.nx l k) := fun z hz => by rw [hz]; rfl
    have qn2 := qn _ htm
    have c1 := crossb (hp k hkl) (hp _ hnx)
    have c2 := crossb (hp _ hnx) (hp k hkl)
    have hb2 := area_bd hp (k + 1) hkl
    have eA : Shp.areaTo l (k + 1) = Shp.areaTo l k + ((Shp.at_ l k).1 * (Shp.at_ l (Shp.nx l k)).2 - (Shp.at_ l (Shp.nx l k)).1 * (Shp.at_ l k).2) := rfl
    (repeat' (first | exact trivial | exact fun h => h | refine And.intro ?_ ?_ | (intro hb; first | (simp at hb; done) | (simp at hb) | skip) | omega | exact rfl | exact Nat.le_refl _ | (show _ + 1 ≤ 4294967296; omega) | (dsimp only; omega) | (show (_ : Int) ≤ (_ : Int); omega) | (show _ < List.length _; simp only [List.length_set, List.length_append, List.length_take]; omega) | (show wantB _ _ = true; simp; done) | (show wantB _ _ = true; simp; omega) | (show (_ : Bool) = _; simp_all; done) | (exfalso; omega) | refine aRegion_auto (by decide +kernel) ?_ | refine ⟨_, _, REnt.drop ⟨rfl, rfl⟩, ?_⟩ | fail))
    · exact hne hb
    refine ⟨[(0, .fz (.list SpT) l), (3, .fz int (Shp.areaTo l k)), (5, .ptr 0 0), (6, .ptr 1 0), (7, .fz (.list SpT) l), (8, .fz int l.length), (9, .fz int k)], [.box [.fz int (Shp.at_ l k).1, .fz int (Shp.at_ l k).2], .box [.fz int (Shp.at_ l (Shp.nx l k)).1, .fz int (Shp.at_ l (Shp.nx l k)).2]], Ent.sub ?_ ?_, ?_⟩
    · rw [← qn2]
      (repeat' (first | exact rfl | refine cons_eq ?_ ?_))
    · (repeat' (first | exact trivial | exact rfl | refine And.intro ?_ ?_))
    (repeat' (first | exact trivial | exact fun h => h | refine And.intro ?_ ?_ | (intro hb; first | (simp at hb; done) | (simp at hb) | skip) | omega | exact rfl | exact Nat.le_refl _ | (show _ + 1 ≤ 4294967296; omega) | (dsimp only; omega) | (show (_ : Int) ≤ (_ : Int); omega) | (show _ < List.length _; simp only [List.length_set, List.length_append, List.length_take]; omega) | (show wantB _ _ = true; simp; done) | (show wantB _ _ = true; simp; omega) | (show (_ : Bool) = _; simp_all; done) | (exfalso; omega) | refine aRegion_auto (by decide +kernel) ?_ | refine ⟨_, _, REnt.drop ⟨rfl, rfl⟩, ?_⟩ | fail))
    refine ⟨k + 1, by show k + 1 ≤ l.length; omega, by show l.length - (k + 1) < l.length - k; omega, Ent.ren [] rfl trivial ?_⟩
    (repeat' (first | exact trivial | exact rfl | refine And.intro ?_ ?_))
  · have hke : k = l.length := by omega
    subst hke
    (repeat' (first | exact trivial | exact fun h => h | refine And.intro ?_ ?_ | (intro hb; first | (simp at hb; done) | (simp at hb) | skip) | omega | exact rfl | exact Nat.le_refl _ | (show _ + 1 ≤ 4294967296; omega) | (dsimp only; omega) | (show (_ : Int) ≤ (_ : Int); omega) | (show _ < List.length _; simp only [List.length_set, List.length_append, List.length_take]; omega) | (show wantB _ _ = true; simp; done) | (show wantB _ _ = true; simp; omega) | (show (_ : Bool) = _; simp_all; done) | (exfalso; omega) | refine aRegion_auto (by decide +kernel) ?_ | refine ⟨_, _, REnt.drop ⟨rfl, rfl⟩, ?_⟩ | fail))
    exact hK
def arE (l : Pts) : Int := if ringE l = 0 then Shp.area l else 0
theorem shapeArea_any (E : Errs) (l : Pts) (hl : l.length ≤ 1000000000000) (K : AV → List AO → Prop) (hK : K (.tup [.fz int (arE l), .fz .raw (er E (ringE l))]) []) : ACall Tryd.prog (G8 E) 9 [.fz (.list SpT) l] [] K := by
  have h3 : ringE l ≤ 3 := by unfold ringE; split <;> (try split) <;> omega
  by_cases h0 : ringE l = 0
  · have e : arE l = Shp.area l := by unfold arE; rw [if_pos h0]
    rw [e, h0] at hK
    refine acall_mk (E := envAt (G8 E) 12 0) (envOk _ _ _) Tryd.func9 rfl rfl rfl rfl rfl ?_
    (repeat' (first | exact trivial | exact fun h => h | refine And.intro ?_ ?_ | (intro hb; first | (simp at hb; done) | (simp at hb) | skip) | omega | exact rfl | exact Nat.le_refl _ | (show _ + 1 ≤ 4294967296; omega) | (dsimp only; omega) | (show (_ : Int) ≤ (_ : Int); omega) | (show _ < List.length _; simp only [List.length_set, List.length_append, List.length_take]; omega) | (show wantB _ _ = true; simp; done) | (show wantB _ _ = true; simp; omega) | (show (_ : Bool) = _; simp_all; done) | (exfalso; omega) | refine aRegion_auto (by decide +kernel) ?_ | refine ⟨_, _, REnt.drop ⟨rfl, rfl⟩, ?_⟩ | fail))
    refine acall_frame0 rfl (ring_any E l hl _ ?_)
    rw [h0]
    (repeat' (first | exact trivial | exact fun h => h | refine And.intro ?_ ?_ | (intro hb; first | (simp at hb; done) | (simp at hb) | skip) | omega | exact rfl | exact Nat.le_refl _ | (show _ + 1 ≤ 4294967296; omega) | (dsimp only; omega) | (show (_ : Int) ≤ (_ : Int); omega) | (show _ < List.length _; simp only [List.length_set, List.length_append, List.length_take]; omega) | (show wantB _ _ = true; simp; done) | (show wantB _ _ = true; simp; omega) | (show (_ : Bool) = _; simp_all; done) | (exfalso; omega) | refine aRegion_auto (by decide +kernel) ?_ | refine ⟨_, _, REnt.drop ⟨rfl, rfl⟩, ?_⟩ | fail))
    refine acall_frame0 rfl (area_any _ l h0 _ ?_)
    (repeat' (first | exact trivial | exact fun h => h | refine And.intro ?_ ?_ | (intro hb; first | (simp at hb; done) | (simp at hb) | skip) | omega | exact rfl | exact Nat.le_refl _ | (show _ + 1 ≤ 4294967296; omega) | (dsimp only; omega) | (show (_ : Int) ≤ (_ : Int); omega) | (show _ < List.length _; simp only [List.length_set, List.length_append, List.length_take]; omega) | (show wantB _ _ = true; simp; done) | (show wantB _ _ = true; simp; omega) | (show (_ : Bool) = _; simp_all; done) | (exfalso; omega) | refine aRegion_auto (by decide +kernel) ?_ | refine ⟨_, _, REnt.drop ⟨rfl, rfl⟩, ?_⟩ | fail))
    exact hK
  · have e : arE l = 0 := by unfold arE; rw [if_neg h0]
    rw [e] at hK
    refine acall_mk (E := envAt (G8 E) 12 0) (envOk _ _ _) Tryd.func9 rfl rfl rfl rfl rfl ?_
    (repeat' (first | exact trivial | exact fun h => h | refine And.intro ?_ ?_ | (intro hb; first | (simp at hb; done) | (simp at hb) | skip) | omega | exact rfl | exact Nat.le_refl _ | (show _ + 1 ≤ 4294967296; omega) | (dsimp only; omega) | (show (_ : Int) ≤ (_ : Int); omega) | (show _ < List.length _; simp only [List.length_set, List.length_append, List.length_take]; omega) | (show wantB _ _ = true; simp; done) | (show wantB _ _ = true; simp; omega) | (show (_ : Bool) = _; simp_all; done) | (exfalso; omega) | refine aRegion_auto (by decide +kernel) ?_ | refine ⟨_, _, REnt.drop ⟨rfl, rfl⟩, ?_⟩ | fail))
    refine acall_frame0 rfl (ring_any E l hl _ ?_)
    obtain h | h | h : ringE l = 1 ∨ ringE l = 2 ∨ ringE l = 3 := by omega
    all_goals
      rw [h] at hK ⊢
      (repeat' (first | exact trivial | exact fun h => h | refine And.intro ?_ ?_ | (intro hb; first | (simp at hb; done) | (simp at hb) | skip) | omega | exact rfl | exact Nat.le_refl _ | (show _ + 1 ≤ 4294967296; omega) | (dsimp only; omega) | (show (_ : Int) ≤ (_ : Int); omega) | (show _ < List.length _; simp only [List.length_set, List.length_append, List.length_take]; omega) | (show wantB _ _ = true; simp; done) | (show wantB _ _ = true; simp; omega) | (show (_ : Bool) = _; simp_all; done) | (exfalso; omega) | refine aRegion_auto (by decide +kernel) ?_ | refine ⟨_, _, REnt.drop ⟨rfl, rfl⟩, ?_⟩ | fail))
      exact hK
theorem fan_bd {l : Pts} (hp : ∀ i, i < l.length → plB (Shp.at_ l i) = true) : ∀ k, k + 2 ≤ l.length → -((k : Int) * 2251799813685248) ≤ Shp.fan l k ∧ Shp.fan l k ≤ (k : Int) * 2251799813685248
  | 0, _ => ⟨Int.le_refl _, Int.le_refl _⟩
  | k + 1, hk => by
    have ih := fan_bd hp k (by omega)
    have h0 := plB_iff.1 (hp 0 (by omega))
    have h1 := plB_iff.1 (hp (k + 1) (by omega))
    have h2 := plB_iff.1 (hp (k + 2) (by omega))
    have m1 := mulb (a := (Shp.at_ l (k + 1)).1 - (Shp.at_ l 0).1) (b := (Shp.at_ l (k + 2)).2 - (Shp.at_ l (k + 1)).2) (by omega) (by omega)
    have m2 := mulb (a := (Shp.at_ l (k + 1)).2 - (Shp.at_ l 0).2) (b := (Shp.at_ l (k + 2)).1 - (Shp.at_ l (k + 1)).1) (by omega) (by omega)
    show -(((k + 1 : Nat) : Int) * 2251799813685248) ≤ Shp.fan l k + (_ - _) ∧ Shp.fan l k + (_ - _) ≤ ((k + 1 : Nat) : Int) * 2251799813685248
    omega
theorem areaOf_any (G : List (Nat × Value)) (l : Pts) (h0 : ringE l = 0) (K : AV → List AO → Prop) (hK : K (.fz int (Shp.area l)) []) : ACall Tryd.prog G 13 [.fz (.list SpT) l] [] K := by
  obtain ⟨h3, h4, hp, _⟩ := ringE_no h0
  rw [← Shp.fan_area l h3] at hK
  refine acall_mk (E := envAt G 28 0) (envOk _ _ _) Tryd.func13 rfl rfl rfl rfl rfl ?_
  (repeat' (first | exact trivial | exact fun h => h | refine And.intro ?_ ?_ | (intro hb; first | (simp at hb; done) | (simp at hb) | skip) | omega | exact rfl | exact Nat.le_refl _ | (show _ + 1 ≤ 4294967296; omega) | (dsimp only; omega) | (show (_ : Int) ≤ (_ : Int); omega) | (show _ < List.length _; simp only [List.length_set, List.length_append, List.length_take]; omega) | (show wantB _ _ = true; simp; done) | (show wantB _ _ = true; simp; omega) | (show (_ : Bool) = _; simp_all; done) | (exfalso; omega) | refine aRegion_auto (by decide +kernel) ?_ | refine ⟨_, _, REnt.drop ⟨rfl, rfl⟩, ?_⟩ | fail))
  refine ⟨Nat, fun k => ⟨[(0, .fz (.list SpT) l), (3, .fz int (Shp.fan l k)), (4, .fz int ((k : Int) + 1))], []⟩, fun k => k + 2 ≤ l.length, fun k => l.length - k, 0, by show 0 + 2 ≤ l.length; omega, Ent.sub rfl ?_, ?_⟩
  · (repeat' (first | exact trivial | exact rfl | refine And.intro ?_ ?_))
  intro k hk
  have hb := fan_bd hp k hk
  by_cases hkl : k + 2 < l.length
  · have hb2 := fan_bd hp (k + 1) (by omega)
    have eF : Shp.fan l (k + 1) = Shp.fan l k + Shp.side (Shp.at_ l 0) (Shp.at_ l (k + 1)) (Shp.at_ l (k + 2)) := by rw [← Shp.turn_side]; rfl
    (repeat' (first | exact trivial | exact fun h => h | refine And.intro ?_ ?_ | (intro hb; first | (simp at hb; done) | (simp at hb) | skip) | omega | exact rfl | exact Nat.le_refl _ | (show _ + 1 ≤ 4294967296; omega) | (dsimp only; omega) | (show (_ : Int) ≤ (_ : Int); omega) | (show _ < List.length _; simp only [List.length_set, List.length_append, List.length_take]; omega) | (show wantB _ _ = true; simp; done) | (show wantB _ _ = true; simp; omega) | (show (_ : Bool) = _; simp_all; done) | (exfalso; omega) | refine aRegion_auto (by decide +kernel) ?_ | refine ⟨_, _, REnt.drop ⟨rfl, rfl⟩, ?_⟩ | fail))
    apply exEff
    · refine acall_frame0 rfl (acall_arg (turn_any _ (Shp.at_ l 0) (Shp.at_ l (k + 1)) (Shp.at_ l (k + 2)) (hp 0 (by omega)) (hp (k + 1) (by omega)) (hp (k + 2) (by omega)) _ ?_) rfl)
      exact ⟨rfl, rfl⟩
    (repeat' (first | exact trivial | exact fun h => h | refine And.intro ?_ ?_ | (intro hb; first | (simp at hb; done) | (simp at hb) | skip) | omega | exact rfl | exact Nat.le_refl _ | (show _ + 1 ≤ 4294967296; omega) | (dsimp only; omega) | (show (_ : Int) ≤ (_ : Int); omega) | (show _ < List.length _; simp only [List.length_set, List.length_append, List.length_take]; omega) | (show wantB _ _ = true; simp; done) | (show wantB _ _ = true; simp; omega) | (show (_ : Bool) = _; simp_all; done) | (exfalso; omega) | refine aRegion_auto (by decide +kernel) ?_ | refine ⟨_, _, REnt.drop ⟨rfl, rfl⟩, ?_⟩ | fail))
    refine ⟨k + 1, by show k + 1 + 2 ≤ l.length; omega, by show l.length - (k + 1) < l.length - k; omega, Ent.sub rfl ?_⟩
    (repeat' (first | exact trivial | exact rfl | refine And.intro ?_ ?_))
    exact congrArg (AV.fz int) eF.symm
  · have hke : k = l.length - 2 := by omega
    (repeat' (first | exact trivial | exact fun h => h | refine And.intro ?_ ?_ | (intro hb; first | (simp at hb; done) | (simp at hb) | skip) | omega | exact rfl | exact Nat.le_refl _ | (show _ + 1 ≤ 4294967296; omega) | (dsimp only; omega) | (show (_ : Int) ≤ (_ : Int); omega) | (show _ < List.length _; simp only [List.length_set, List.length_append, List.length_take]; omega) | (show wantB _ _ = true; simp; done) | (show wantB _ _ = true; simp; omega) | (show (_ : Bool) = _; simp_all; done) | (exfalso; omega) | refine aRegion_auto (by decide +kernel) ?_ | refine ⟨_, _, REnt.drop ⟨rfl, rfl⟩, ?_⟩ | fail))
    rw [hke]
    exact hK
end Go.Proofs.YtdbgkhcknaafoaaDoor
/-
  Pieces that meet: the walk of the program's.
-/
namespace Go.Proofs.YtdbgkhcknaafoaaDoor
open Go Go.Ab
set_option maxRecDepth 100000
theorem isNaN_any (G : List (Nat × Value)) (x : Int) (K : AV → List AO → Prop) (hK : K (.fz .bool false) []) : ACall Tryd.prog G 42 [.fz int x] [] K := by
  refine acall_mk (E := envAt G 6 0) (envOk _ _ _) Tryd.func42 rfl rfl rfl rfl rfl ?_
  (repeat' (first | exact trivial | exact fun h => h | refine And.intro ?_ ?_ | (intro hb; first | (simp at hb; done) | (simp at hb) | skip) | omega | exact rfl | exact Nat.le_refl _ | (show _ + 1 ≤ 4294967296; omega) | (dsimp only; omega) | (show (_ : Int) ≤ (_ : Int); omega) | (show _ < List.length _; simp only [List.length_set, List.length_append, List.length_take]; omega) | (show wantB _ _ = true; simp; done) | (show wantB _ _ = true; simp; omega) | (show (_ : Bool) = _; simp_all; done) | (exfalso; omega) | refine aRegion_auto (by decide +kernel) ?_ | refine ⟨_, _, REnt.drop ⟨rfl, rfl⟩, ?_⟩ | fail))
  exact kbl hK (by simp)
theorem compare_any (G : List (Nat × Value)) (x y : Int) (K : AV → List AO → Prop) (hK : K (.fz int (if x < y then -1 else if y < x then 1 else 0)) []) : ACall Tryd.prog G 35 [.fz int x, .fz int y] [] K := by
  refine acall_mk (E := envAt G 20 0) (envOk _ _ _) Tryd.func35 rfl rfl rfl rfl rfl ?_
  refine acall_frame0 rfl (isNaN_any _ x _ ?_)
  refine acall_frame0 rfl (isNaN_any _ y _ ?_)
  by_cases h1 : x < y
  · rw [if_pos h1] at hK
    (repeat' (first | exact trivial | exact fun h => h | refine And.intro ?_ ?_ | (intro hb; first | (simp at hb; done) | (simp at hb) | skip) | omega | exact rfl | exact Nat.le_refl _ | (show _ + 1 ≤ 4294967296; omega) | (dsimp only; omega) | (show (_ : Int) ≤ (_ : Int); omega) | (show _ < List.length _; simp only [List.length_set, List.length_append, List.length_take]; omega) | (show wantB _ _ = true; simp; done) | (show wantB _ _ = true; simp; omega) | (show (_ : Bool) = _; simp_all; done) | (exfalso; omega) | refine aRegion_auto (by decide +kernel) ?_ | refine ⟨_, _, REnt.drop ⟨rfl, rfl⟩, ?_⟩ | fail))
    exact hK
  · rw [if_neg h1] at hK
    by_cases h2 : y < x
    · rw [if_pos h2] at hK
      (repeat' (first | exact trivial | exact fun h => h | refine And.intro ?_ ?_ | (intro hb; first | (simp at hb; done) | (simp at hb) | skip) | omega | exact rfl | exact Nat.le_refl _ | (show _ + 1 ≤ 4294967296; omega) | (dsimp only; omega) | (show (_ : Int) ≤ (_ : Int); omega) | (show _ < List.length _; simp only [List.length_set, List.length_append, List.length_take]; omega) | (show wantB _ _ = true; simp; done) | (show wantB _ _ = true; simp; omega) | (show (_ : Bool) = _; simp_all; done) | (exfalso; omega) | refine aRegion_auto (by decide +kernel) ?_ | refine ⟨_, _, REnt.drop ⟨rfl, rfl⟩, ?_⟩ | fail))
      exact hK
    · rw [if_neg h2] at hK
      (repeat' (first | exact trivial | exact fun h => h | refine And.intro ?_ ?_ | (intro hb; first | (simp at hb; done) | (simp at hb) | skip) | omega | exact rfl | exact Nat.le_refl _ | (show _ + 1 ≤ 4294967296; omega) | (dsimp only; omega) | (show (_ : Int) ≤ (_ : Int); omega) | (show _ < List.length _; simp only [List.length_set, List.length_append, List.length_take]; omega) | (show wantB _ _ = true; simp; done) | (show wantB _ _ = true; simp; omega) | (show (_ : Bool) = _; simp_all; done) | (exfalso; omega) | refine aRegion_auto (by decide +kernel) ?_ | refine ⟨_, _, REnt.drop ⟨rfl, rfl⟩, ?_⟩ | fail))
      exact hK
theorem sign_any (G : List (Nat × Value)) (x : Int) (K : AV → List AO → Prop) (hK : K (.fz int (Shp.sgZ x)) []) : ACall Tryd.prog G 28 [.fz int x] [] K := by
  have e : Shp.sgZ x = if x < 0 then -1 else if 0 < x then 1 else 0 := by
    unfold Shp.sgZ
    split
    · rw [if_neg (by omega)]
    · rfl
  rw [e] at hK
  refine acall_mk (E := envAt G 5 0) (envOk _ _ _) Tryd.func28 rfl rfl rfl rfl rfl ?_
  refine acall_frame0 rfl (compare_any _ x 0 _ ?_)
  (repeat' (first | exact trivial | exact fun h => h | refine And.intro ?_ ?_ | (intro hb; first | (simp at hb; done) | (simp at hb) | skip) | omega | exact rfl | exact Nat.le_refl _ | (show _ + 1 ≤ 4294967296; omega) | (dsimp only; omega) | (show (_ : Int) ≤ (_ : Int); omega) | (show _ < List.length _; simp only [List.length_set, List.length_append, List.length_take]; omega) | (show wantB _ _ = true; simp; done) | (show wantB _ _ = true; simp; omega) | (show (_ : Bool) = _; simp_all; done) | (exfalso; omega) | refine aRegion_auto (by decide +kernel) ?_ | refine ⟨_, _, REnt.drop ⟨rfl, rfl⟩, ?_⟩ | fail))
  exact hK
theorem signOf_any (G : List (Nat × Value)) (x : Int) (K : AV → List AO → Prop) (hK : K (.fz int (Shp.sgZ x)) []) : ACall Tryd.prog G 32 [.fz int x] [] K := by
  unfold Shp.sgZ at hK
  refine acall_mk (E := envAt G 7 0) (envOk _ _ _) Tryd.func32 rfl rfl rfl rfl rfl ?_
  by_cases h1 : 0 < x
  · rw [if_pos h1] at hK
    (repeat' (first | exact trivial | exact fun h => h | refine And.intro ?_ ?_ | (intro hb; first | (simp at hb; done) | (simp at hb) | skip) | omega | exact rfl | exact Nat.le_refl _ | (show _ + 1 ≤ 4294967296; omega) | (dsimp only; omega) | (show (_ : Int) ≤ (_ : Int); omega) | (show _ < List.length _; simp only [List.length_set, List.length_append, List.length_take]; omega) | (show wantB _ _ = true; simp; done) | (show wantB _ _ = true; simp; omega) | (show (_ : Bool) = _; simp_all; done) | (exfalso; omega) | refine aRegion_auto (by decide +kernel) ?_ | refine ⟨_, _, REnt.drop ⟨rfl, rfl⟩, ?_⟩ | fail))
    exact hK
  · rw [if_neg h1] at hK
    by_cases h2 : x < 0
    · rw [if_pos h2] at hK
      (repeat' (first | exact trivial | exact fun h => h | refine And.intro ?_ ?_ | (intro hb; first | (simp at hb; done) | (simp at hb) | skip) | omega | exact rfl | exact Nat.le_refl _ | (show _ + 1 ≤ 4294967296; omega) | (dsimp only; omega) | (show (_ : Int) ≤ (_ : Int); omega) | (show _ < List.length _; simp only [List.length_set, List.length_append, List.length_take]; omega) | (show wantB _ _ = true; simp; done) | (show wantB _ _ = true; simp; omega) | (show (_ : Bool) = _; simp_all; done) | (exfalso; omega) | refine aRegion_auto (by decide +kernel) ?_ | refine ⟨_, _, REnt.drop ⟨rfl, rfl⟩, ?_⟩ | fail))
      exact hK
    · rw [if_neg h2] at hK
      (repeat' (first | exact trivial | exact fun h => h | refine And.intro ?_ ?_ | (intro hb; first | (simp at hb; done) | (simp at hb) | skip) | omega | exact rfl | exact Nat.le_refl _ | (show _ + 1 ≤ 4294967296; omega) | (dsimp only; omega) | (show (_ : Int) ≤ (_ : Int); omega) | (show _ < List.length _; simp only [List.length_set, List.length_append, List.length_take]; omega) | (show wantB _ _ = true; simp; done) | (show wantB _ _ = true; simp; omega) | (show (_ : Bool) = _; simp_all; done) | (exfalso; omega) | refine aRegion_auto (by decide +kernel) ?_ | refine ⟨_, _, REnt.drop ⟨rfl, rfl⟩, ?_⟩ | fail))
      exact hK
theorem sg_bd (x : Int) : -1 ≤ Shp.sgZ x ∧ Shp.sgZ x ≤ 1 := by unfold Shp.sgZ; split <;> (try split) <;> omega
theorem sg_mul {a b : Int} (ha : -1 ≤ a ∧ a ≤ 1) (hb : -1 ≤ b ∧ b ≤ 1) : -1 ≤ a * b ∧ a * b ≤ 1 := by
  obtain rfl | rfl | rfl : a = -1 ∨ a = 0 ∨ a = 1 := by omega
  · omega
  · omega
  · omega
theorem tch_of {p q r : Int × Int} (h : (Shp.on p q r = true ∧ decide (r = p) = false) ∧ decide (r = q) = false) : Shp.tch p q r = true := by
  unfold Shp.tch
  obtain ⟨⟨h1, h2⟩, h3⟩ := h
  have h2 := of_decide_eq_false h2
  have h3 := of_decide_eq_false h3
  simp [h1, h2, h3]
theorem tch_no {p q r : Int × Int} (h : Shp.on p q r = true → decide (r = p) = false → decide (r = q) = true) : Shp.tch p q r = false := by
  rw [← Bool.not_eq_true]
  intro ht
  unfold Shp.tch at ht
  simp only [Bool.and_eq_true, decide_eq_true_eq] at ht
  obtain ⟨⟨h1, h2⟩, h3⟩ := ht
  have := h h1 (decide_eq_false h2)
  exact h3 (of_decide_eq_true this)
set_option maxHeartbeats 8000000 in
theorem meet_any (G : List (Nat × Value)) (p q r s : Int × Int) (hp : plB p = true) (hq : plB q = true) (hr : plB r = true) (hs : plB s = true) (K : AV → List AO → Prop) (hK : K (.fz .bool (Shp.meet p q r s)) []) : ACall Tryd.prog G 22 [.fz SpT p, .fz SpT q, .fz SpT r, .fz SpT s] [] K := by
  refine acall_mk (E := envAt G 97 0) (envOk _ _ _) Tryd.func22 rfl rfl rfl rfl rfl ?_
  let A0 : List AO := [.box [.fz int p.1, .fz int p.2], .box [.fz int q.1, .fz int q.2], .box [.fz int r.1, .fz int r.2], .box [.fz int s.1, .fz int s.2]]
  let ar : AV := .agg [.fz int p.1, .fz int p.2, .fz int q.1, .fz int q.2, .fz int r.1, .fz int r.2, .fz int p.1, .fz int p.2, .fz int q.1, .fz int q.2, .fz int s.1, .fz int s.2, .fz int r.1, .fz int r.2, .fz int s.1, .fz int s.2, .fz int p.1, .fz int p.2, .fz int r.1, .fz int r.2, .fz int s.1, .fz int s.2, .fz int q.1, .fz int q.2]
  refine ⟨Nat, fun k => ⟨[(4, .ptr 0 0), (5, .ptr 1 0), (6, .ptr 2 0), (7, .ptr 3 0), (27, ar), (28, .fz int k)], A0⟩, fun k => k ≤ 4 ∧ (0 < k → Shp.tch p q r = false) ∧ (1 < k → Shp.tch p q s = false) ∧ (2 < k → Shp.tch r s p = false) ∧ (3 < k → Shp.tch r s q = false), fun k => 4 - k, 0, ⟨by omega, by omega, by omega, by omega, by omega⟩, Ent.sub rfl ?_, ?_⟩
  · (repeat' (first | exact trivial | exact rfl | refine And.intro ?_ ?_))
  intro k ⟨hk, h1, h2, h3, h4⟩
  obtain rfl | rfl | rfl | rfl | rfl : k = 0 ∨ k = 1 ∨ k = 2 ∨ k = 3 ∨ k = 4 := by omega
  · (repeat' (first | exact trivial | exact fun h => h | refine And.intro ?_ ?_ | (intro hb; first | (simp at hb; done) | (simp at hb) | skip) | omega | exact rfl | exact Nat.le_refl _ | (show _ + 1 ≤ 4294967296; omega) | (dsimp only; omega) | (show (_ : Int) ≤ (_ : Int); omega) | (show _ < List.length _; simp only [List.length_set, List.length_append, List.length_take]; omega) | (show wantB _ _ = true; simp; done) | (show wantB _ _ = true; simp; omega) | (show (_ : Bool) = _; simp_all; done) | (exfalso; omega) | refine aRegion_auto (by decide +kernel) ?_ | refine ⟨_, _, REnt.drop ⟨rfl, rfl⟩, ?_⟩ | fail))
    refine acall_conv [.dat SpT, .dat SpT, .dat SpT] _ _ _ rfl trivial (acall_frame0 rfl (on_any _ p q r hp hq hr _ ?_))
    (repeat' (first | exact trivial | exact fun h => h | refine And.intro ?_ ?_ | (intro hb; first | (simp at hb; done) | (simp at hb) | skip) | omega | exact rfl | exact Nat.le_refl _ | (show _ + 1 ≤ 4294967296; omega) | (dsimp only; omega) | (show (_ : Int) ≤ (_ : Int); omega) | (show _ < List.length _; simp only [List.length_set, List.length_append, List.length_take]; omega) | (show wantB _ _ = true; simp; done) | (show wantB _ _ = true; simp; omega) | (show (_ : Bool) = _; simp_all; done) | (exfalso; omega) | refine aRegion_auto (by decide +kernel) ?_ | refine ⟨_, _, REnt.drop ⟨rfl, rfl⟩, ?_⟩ | fail))
    · rw [eqS r p, eqS r q] at hb
      refine kbl hK ?_
      unfold Shp.meet
      rw [tch_of hb]; simp
    · rw [eqS r p, eqS r q] at hb
      have hn := tch_no hb
      refine ⟨1, ⟨by show 1 ≤ 4; omega, (fun _ => hn), (fun h => absurd h (show ¬ 1 < 1 by omega)), (fun h => absurd h (show ¬ 2 < 1 by omega)), (fun h => absurd h (show ¬ 3 < 1 by omega))⟩, by show 4 - 1 < 4 - 0; omega, Ent.ren [0, 1, 2, 3] rfl ?_ ?_⟩
      · (repeat' (first | exact trivial | exact rfl | refine And.intro ?_ ?_))
      · (repeat' (first | exact trivial | exact rfl | refine And.intro ?_ ?_))
  · (repeat' (first | exact trivial | exact fun h => h | refine And.intro ?_ ?_ | (intro hb; first | (simp at hb; done) | (simp at hb) | skip) | omega | exact rfl | exact Nat.le_refl _ | (show _ + 1 ≤ 4294967296; omega) | (dsimp only; omega) | (show (_ : Int) ≤ (_ : Int); omega) | (show _ < List.length _; simp only [List.length_set, List.length_append, List.length_take]; omega) | (show wantB _ _ = true; simp; done) | (show wantB _ _ = true; simp; omega) | (show (_ : Bool) = _; simp_all; done) | (exfalso; omega) | refine aRegion_auto (by decide +kernel) ?_ | refine ⟨_, _, REnt.drop ⟨rfl, rfl⟩, ?_⟩ | fail))
    refine acall_conv [.dat SpT, .dat SpT, .dat SpT] _ _ _ rfl trivial (acall_frame0 rfl (on_any _ p q s hp hq hs _ ?_))
    (repeat' (first | exact trivial | exact fun h => h | refine And.intro ?_ ?_ | (intro hb; first | (simp at hb; done) | (simp at hb) | skip) | omega | exact rfl | exact Nat.le_refl _ | (show _ + 1 ≤ 4294967296; omega) | (dsimp only; omega) | (show (_ : Int) ≤ (_ : Int); omega) | (show _ < List.length _; simp only [List.length_set, List.length_append, List.length_take]; omega) | (show wantB _ _ = true; simp; done) | (show wantB _ _ = true; simp; omega) | (show (_ : Bool) = _; simp_all; done) | (exfalso; omega) | refine aRegion_auto (by decide +kernel) ?_ | refine ⟨_, _, REnt.drop ⟨rfl, rfl⟩, ?_⟩ | fail))
    · rw [eqS s p, eqS s q] at hb
      refine kbl hK ?_
      unfold Shp.meet
      rw [tch_of hb]; simp
    · rw [eqS s p, eqS s q] at hb
      have hn := tch_no hb
      refine ⟨2, ⟨by show 2 ≤ 4; omega, (fun _ => h1 (by omega)), (fun _ => hn), (fun h => absurd h (show ¬ 2 < 2 by omega)), (fun h => absurd h (show ¬ 3 < 2 by omega))⟩, by show 4 - 2 < 4 - 1; omega, Ent.ren [0, 1, 2, 3] rfl ?_ ?_⟩
      · (repeat' (first | exact trivial | exact rfl | refine And.intro ?_ ?_))
      · (repeat' (first | exact trivial | exact rfl | refine And.intro ?_ ?_))
  · (repeat' (first | exact trivial | exact fun h => h | refine And.intro ?_ ?_ | (intro hb; first | (simp at hb; done) | (simp at hb) | skip) | omega | exact rfl | exact Nat.le_refl _ | (show _ + 1 ≤ 4294967296; omega) | (dsimp only; omega) | (show (_ : Int) ≤ (_ : Int); omega) | (show _ < List.length _; simp only [List.length_set, List.length_append, List.length_take]; omega) | (show wantB _ _ = true; simp; done) | (show wantB _ _ = true; simp; omega) | (show (_ : Bool) = _; simp_all; done) | (exfalso; omega) | refine aRegion_auto (by decide +kernel) ?_ | refine ⟨_, _, REnt.drop ⟨rfl, rfl⟩, ?_⟩ | fail))
    refine acall_conv [.dat SpT, .dat SpT, .dat SpT] _ _ _ rfl trivial (acall_frame0 rfl (on_any _ r s p hr hs hp _ ?_))
    (repeat' (first | exact trivial | exact fun h => h | refine And.intro ?_ ?_ | (intro hb; first | (simp at hb; done) | (simp at hb) | skip) | omega | exact rfl | exact Nat.le_refl _ | (show _ + 1 ≤ 4294967296; omega) | (dsimp only; omega) | (show (_ : Int) ≤ (_ : Int); omega) | (show _ < List.length _; simp only [List.length_set, List.length_append, List.length_take]; omega) | (show wantB _ _ = true; simp; done) | (show wantB _ _ = true; simp; omega) | (show (_ : Bool) = _; simp_all; done) | (exfalso; omega) | refine aRegion_auto (by decide +kernel) ?_ | refine ⟨_, _, REnt.drop ⟨rfl, rfl⟩, ?_⟩ | fail))
    · rw [eqS p r, eqS p s] at hb
      refine kbl hK ?_
      unfold Shp.meet
      rw [tch_of hb]; simp
    · rw [eqS p r, eqS p s] at hb
      have hn := tch_no hb
      refine ⟨3, ⟨by show 3 ≤ 4; omega, (fun _ => h1 (by omega)), (fun _ => h2 (by omega)), (fun _ => hn), (fun h => absurd h (show ¬ 3 < 3 by omega))⟩, by show 4 - 3 < 4 - 2; omega, Ent.ren [0, 1, 2, 3] rfl ?_ ?_⟩
      · (repeat' (first | exact trivial | exact rfl | refine And.intro ?_ ?_))
      · (repeat' (first | exact trivial | exact rfl | refine And.intro ?_ ?_))
  · (repeat' (first | exact trivial | exact fun h => h | refine And.intro ?_ ?_ | (intro hb; first | (simp at hb; done) | (simp at hb) | skip) | omega | exact rfl | exact Nat.le_refl _ | (show _ + 1 ≤ 4294967296; omega) | (dsimp only; omega) | (show (_ : Int) ≤ (_ : Int); omega) | (show _ < List.length _; simp only [List.length_set, List.length_append, List.length_take]; omega) | (show wantB _ _ = true; simp; done) | (show wantB _ _ = true; simp; omega) | (show (_ : Bool) = _; simp_all; done) | (exfalso; omega) | refine aRegion_auto (by decide +kernel) ?_ | refine ⟨_, _, REnt.drop ⟨rfl, rfl⟩, ?_⟩ | fail))
    refine acall_conv [.dat SpT, .dat SpT, .dat SpT] _ _ _ rfl trivial (acall_frame0 rfl (on_any _ r s q hr hs hq _ ?_))
    (repeat' (first | exact trivial | exact fun h => h | refine And.intro ?_ ?_ | (intro hb; first | (simp at hb; done) | (simp at hb) | skip) | omega | exact rfl | exact Nat.le_refl _ | (show _ + 1 ≤ 4294967296; omega) | (dsimp only; omega) | (show (_ : Int) ≤ (_ : Int); omega) | (show _ < List.length _; simp only [List.length_set, List.length_append, List.length_take]; omega) | (show wantB _ _ = true; simp; done) | (show wantB _ _ = true; simp; omega) | (show (_ : Bool) = _; simp_all; done) | (exfalso; omega) | refine aRegion_auto (by decide +kernel) ?_ | refine ⟨_, _, REnt.drop ⟨rfl, rfl⟩, ?_⟩ | fail))
    · rw [eqS q r, eqS q s] at hb
      refine kbl hK ?_
      unfold Shp.meet
      rw [tch_of hb]; simp
    · rw [eqS q r, eqS q s] at hb
      have hn := tch_no hb
      refine ⟨4, ⟨by show 4 ≤ 4; omega, (fun _ => h1 (by omega)), (fun _ => h2 (by omega)), (fun _ => h3 (by omega)), (fun _ => hn)⟩, by show 4 - 4 < 4 - 3; omega, Ent.ren [0, 1, 2, 3] rfl ?_ ?_⟩
      · (repeat' (first | exact trivial | exact rfl | refine And.intro ?_ ?_))
      · (repeat' (first | exact trivial | exact rfl | refine And.intro ?_ ?_))
  · have n1 := h1 (by omega)
    have n2 := h2 (by omega)
    have n3 := h3 (by omega)
    have n4 := h4 (by omega)
    have z1 := sg_bd (Shp.side p q r)
    have z2 := sg_bd (Shp.side p q s)
    have z3 := sg_bd (Shp.side r s p)
    have z4 := sg_bd (Shp.side r s q)
    have m1 := sg_mul z1 z2
    have m2 := sg_mul z3 z4
    (repeat' (first | exact trivial | exact fun h => h | refine And.intro ?_ ?_ | (intro hb; first | (simp at hb; done) | (simp at hb) | skip) | omega | exact rfl | exact Nat.le_refl _ | (show _ + 1 ≤ 4294967296; omega) | (dsimp only; omega) | (show (_ : Int) ≤ (_ : Int); omega) | (show _ < List.length _; simp only [List.length_set, List.length_append, List.length_take]; omega) | (show wantB _ _ = true; simp; done) | (show wantB _ _ = true; simp; omega) | (show (_ : Bool) = _; simp_all; done) | (exfalso; omega) | refine aRegion_auto (by decide +kernel) ?_ | refine ⟨_, _, REnt.drop ⟨rfl, rfl⟩, ?_⟩ | fail))
    · rw [eqS p r, eqS q s, eqS p s, eqS q r] at hb
      refine kbl hK ?_
      have : Shp.sam p q r s = true := by unfold Shp.sam; simp only [Bool.or_eq_true, Bool.and_eq_true]; exact hb
      unfold Shp.meet
      rw [this]; simp
    rw [eqS p r, eqS q s, eqS p s, eqS q r] at hb
    have hsam : Shp.sam p q r s = false := by
      rw [← Bool.not_eq_true]
      intro h
      unfold Shp.sam at h
      simp only [Bool.or_eq_true, Bool.and_eq_true] at h
      rcases h with ⟨a, b⟩ | ⟨a, b⟩
      · have := hb.1 a; rw [b] at this; cases this
      · have := hb.2 a; rw [b] at this; cases this
    have eM : Shp.meet p q r s = Shp.crs p q r s := by unfold Shp.meet; rw [n1, n2, n3, n4, hsam]; simp
    rw [eM] at hK
    clear hb
    by_cases hX : Shp.sgZ (Shp.side p q r) * Shp.sgZ (Shp.side p q s) < 0
    · apply exEff
      · refine acall_conv [.dat SpT, .dat SpT, .dat SpT] _ _ _ rfl trivial (acall_frame0 rfl (side_any _ p q r hp hq hr _ ?_))
        exact ⟨rfl, rfl⟩
      (repeat' (first | exact trivial | exact fun h => h | refine And.intro ?_ ?_ | (intro hb; first | (simp at hb; done) | (simp at hb) | skip) | omega | exact rfl | exact Nat.le_refl _ | (show _ + 1 ≤ 4294967296; omega) | (dsimp only; omega) | (show (_ : Int) ≤ (_ : Int); omega) | (show _ < List.length _; simp only [List.length_set, List.length_append, List.length_take]; omega) | (show wantB _ _ = true; simp; done) | (show wantB _ _ = true; simp; omega) | (show (_ : Bool) = _; simp_all; done) | (exfalso; omega) | refine aRegion_auto (by decide +kernel) ?_ | refine ⟨_, _, REnt.drop ⟨rfl, rfl⟩, ?_⟩ | fail))
      apply exEff
      · refine acall_frame0 rfl (sign_any _ (Shp.side p q r) _ ?_)
        exact ⟨rfl, rfl⟩
      (repeat' (first | exact trivial | exact fun h => h | refine And.intro ?_ ?_ | (intro hb; first | (simp at hb; done) | (simp at hb) | skip) | omega | exact rfl | exact Nat.le_refl _ | (show _ + 1 ≤ 4294967296; omega) | (dsimp only; omega) | (show (_ : Int) ≤ (_ : Int); omega) | (show _ < List.length _; simp only [List.length_set, List.length_append, List.length_take]; omega) | (show wantB _ _ = true; simp; done) | (show wantB _ _ = true; simp; omega) | (show (_ : Bool) = _; simp_all; done) | (exfalso; omega) | refine aRegion_auto (by decide +kernel) ?_ | refine ⟨_, _, REnt.drop ⟨rfl, rfl⟩, ?_⟩ | fail))
      apply exEff
      · refine acall_conv [.dat SpT, .dat SpT, .dat SpT] _ _ _ rfl trivial (acall_frame0 rfl (side_any _ p q s hp hq hs _ ?_))
        exact ⟨rfl, rfl⟩
      (repeat' (first | exact trivial | exact fun h => h | refine And.intro ?_ ?_ | (intro hb; first | (simp at hb; done) | (simp at hb) | skip) | omega | exact rfl | exact Nat.le_refl _ | (show _ + 1 ≤ 4294967296; omega) | (dsimp only; omega) | (show (_ : Int) ≤ (_ : Int); omega) | (show _ < List.length _; simp only [List.length_set, List.length_append, List.length_take]; omega) | (show wantB _ _ = true; simp; done) | (show wantB _ _ = true; simp; omega) | (show (_ : Bool) = _; simp_all; done) | (exfalso; omega) | refine aRegion_auto (by decide +kernel) ?_ | refine ⟨_, _, REnt.drop ⟨rfl, rfl⟩, ?_⟩ | fail))
      apply exEff
      · refine acall_frame0 rfl (sign_any _ (Shp.side p q s) _ ?_)
        exact ⟨rfl, rfl⟩
      (repeat' (first | exact trivial | exact fun h => h | refine And.intro ?_ ?_ | (intro hb; first | (simp at hb; done) | (simp at hb) | skip) | omega | exact rfl | exact Nat.le_refl _ | (show _ + 1 ≤ 4294967296; omega) | (dsimp only; omega) | (show (_ : Int) ≤ (_ : Int); omega) | (show _ < List.length _; simp only [List.length_set, List.length_append, List.length_take]; omega) | (show wantB _ _ = true; simp; done) | (show wantB _ _ = true; simp; omega) | (show (_ : Bool) = _; simp_all; done) | (exfalso; omega) | refine aRegion_auto (by decide +kernel) ?_ | refine ⟨_, _, REnt.drop ⟨rfl, rfl⟩, ?_⟩ | fail))
      apply exEff
      · refine ⟨fun _ => ?_, fun h => absurd h (by simp [hX])⟩
        (repeat' (first | refine And.intro ?_ ?_ | (show wantB _ _ = true; simp [hX]; done)))
        refine acall_conv [.dat SpT, .dat SpT, .dat SpT] _ _ _ rfl trivial (acall_frame0 rfl (side_any _ r s p hr hs hp _ ?_))
        exact ⟨rfl, rfl⟩
      (repeat' (first | exact trivial | exact fun h => h | refine And.intro ?_ ?_ | (intro hb; first | (simp at hb; done) | (simp at hb) | skip) | omega | exact rfl | exact Nat.le_refl _ | (show _ + 1 ≤ 4294967296; omega) | (dsimp only; omega) | (show (_ : Int) ≤ (_ : Int); omega) | (show _ < List.length _; simp only [List.length_set, List.length_append, List.length_take]; omega) | (show wantB _ _ = true; simp; done) | (show wantB _ _ = true; simp; omega) | (show (_ : Bool) = _; simp_all; done) | (exfalso; omega) | refine aRegion_auto (by decide +kernel) ?_ | refine ⟨_, _, REnt.drop ⟨rfl, rfl⟩, ?_⟩ | fail))
      apply exEff
      · refine ⟨fun _ => ?_, fun h => absurd h (by simp [hX])⟩
        (repeat' (first | refine And.intro ?_ ?_ | (show wantB _ _ = true; simp [hX]; done)))
        refine acall_frame0 rfl (sign_any _ (Shp.side r s p) _ ?_)
        exact ⟨rfl, rfl⟩
      (repeat' (first | exact trivial | exact fun h => h | refine And.intro ?_ ?_ | (intro hb; first | (simp at hb; done) | (simp at hb) | skip) | omega | exact rfl | exact Nat.le_refl _ | (show _ + 1 ≤ 4294967296; omega) | (dsimp only; omega) | (show (_ : Int) ≤ (_ : Int); omega) | (show _ < List.length _; simp only [List.length_set, List.length_append, List.length_take]; omega) | (show wantB _ _ = true; simp; done) | (show wantB _ _ = true; simp; omega) | (show (_ : Bool) = _; simp_all; done) | (exfalso; omega) | refine aRegion_auto (by decide +kernel) ?_ | refine ⟨_, _, REnt.drop ⟨rfl, rfl⟩, ?_⟩ | fail))
      apply exEff
      · refine ⟨fun _ => ?_, fun h => absurd h (by simp [hX])⟩
        (repeat' (first | refine And.intro ?_ ?_ | (show wantB _ _ = true; simp [hX]; done)))
        refine acall_conv [.dat SpT, .dat SpT, .dat SpT] _ _ _ rfl trivial (acall_frame0 rfl (side_any _ r s q hr hs hq _ ?_))
        exact ⟨rfl, rfl⟩
      (repeat' (first | exact trivial | exact fun h => h | refine And.intro ?_ ?_ | (intro hb; first | (simp at hb; done) | (simp at hb) | skip) | omega | exact rfl | exact Nat.le_refl _ | (show _ + 1 ≤ 4294967296; omega) | (dsimp only; omega) | (show (_ : Int) ≤ (_ : Int); omega) | (show _ < List.length _; simp only [List.length_set, List.length_append, List.length_take]; omega) | (show wantB _ _ = true; simp; done) | (show wantB _ _ = true; simp; omega) | (show (_ : Bool) = _; simp_all; done) | (exfalso; omega) | refine aRegion_auto (by decide +kernel) ?_ | refine ⟨_, _, REnt.drop ⟨rfl, rfl⟩, ?_⟩ | fail))
      apply exEff
      · refine ⟨fun _ => ?_, fun h => absurd h (by simp [hX])⟩
        (repeat' (first | refine And.intro ?_ ?_ | (show wantB _ _ = true; simp [hX]; done)))
        refine acall_frame0 rfl (sign_any _ (Shp.side r s q) _ ?_)
        exact ⟨rfl, rfl⟩
      (repeat' (first | exact trivial | exact fun h => h | refine And.intro ?_ ?_ | (intro hb; first | (simp at hb; done) | (simp at hb) | skip) | omega | exact rfl | exact Nat.le_refl _ | (show _ + 1 ≤ 4294967296; omega) | (dsimp only; omega) | (show (_ : Int) ≤ (_ : Int); omega) | (show _ < List.length _; simp only [List.length_set, List.length_append, List.length_take]; omega) | (show wantB _ _ = true; simp; done) | (show wantB _ _ = true; simp; omega) | (show (_ : Bool) = _; simp_all; done) | (exfalso; omega) | refine aRegion_auto (by decide +kernel) ?_ | refine ⟨_, _, REnt.drop ⟨rfl, rfl⟩, ?_⟩ | fail))
      refine kbl hK ?_
      unfold Shp.crs
      simp [hX]
    · apply exEff
      · refine acall_conv [.dat SpT, .dat SpT, .dat SpT] _ _ _ rfl trivial (acall_frame0 rfl (side_any _ p q r hp hq hr _ ?_))
        exact ⟨rfl, rfl⟩
      (repeat' (first | exact trivial | exact fun h => h | refine And.intro ?_ ?_ | (intro hb; first | (simp at hb; done) | (simp at hb) | skip) | omega | exact rfl | exact Nat.le_refl _ | (show _ + 1 ≤ 4294967296; omega) | (dsimp only; omega) | (show (_ : Int) ≤ (_ : Int); omega) | (show _ < List.length _; simp only [List.length_set, List.length_append, List.length_take]; omega) | (show wantB _ _ = true; simp; done) | (show wantB _ _ = true; simp; omega) | (show (_ : Bool) = _; simp_all; done) | (exfalso; omega) | refine aRegion_auto (by decide +kernel) ?_ | refine ⟨_, _, REnt.drop ⟨rfl, rfl⟩, ?_⟩ | fail))
      apply exEff
      · refine acall_frame0 rfl (sign_any _ (Shp.side p q r) _ ?_)
        exact ⟨rfl, rfl⟩
      (repeat' (first | exact trivial | exact fun h => h | refine And.intro ?_ ?_ | (intro hb; first | (simp at hb; done) | (simp at hb) | skip) | omega | exact rfl | exact Nat.le_refl _ | (show _ + 1 ≤ 4294967296; omega) | (dsimp only; omega) | (show (_ : Int) ≤ (_ : Int); omega) | (show _ < List.length _; simp only [List.length_set, List.length_append, List.length_take]; omega) | (show wantB _ _ = true; simp; done) | (show wantB _ _ = true; simp; omega) | (show (_ : Bool) = _; simp_all; done) | (exfalso; omega) | refine aRegion_auto (by decide +kernel) ?_ | refine ⟨_, _, REnt.drop ⟨rfl, rfl⟩, ?_⟩ | fail))
      apply exEff
      · refine acall_conv [.dat SpT, .dat SpT, .dat SpT] _ _ _ rfl trivial (acall_frame0 rfl (side_any _ p q s hp hq hs _ ?_))
        exact ⟨rfl, rfl⟩
      (repeat' (first | exact trivial | exact fun h => h | refine And.intro ?_ ?_ | (intro hb; first | (simp at hb; done) | (simp at hb) | skip) | omega | exact rfl | exact Nat.le_refl _ | (show _ + 1 ≤ 4294967296; omega) | (dsimp only; omega) | (show (_ : Int) ≤ (_ : Int); omega) | (show _ < List.length _; simp only [List.length_set, List.length_append, List.length_take]; omega) | (show wantB _ _ = true; simp; done) | (show wantB _ _ = true; simp; omega) | (show (_ : Bool) = _; simp_all; done) | (exfalso; omega) | refine aRegion_auto (by decide +kernel) ?_ | refine ⟨_, _, REnt.drop ⟨rfl, rfl⟩, ?_⟩ | fail))
      apply exEff
      · refine acall_frame0 rfl (sign_any _ (Shp.side p q s) _ ?_)
        exact ⟨rfl, rfl⟩
      (repeat' (first | exact trivial | exact fun h => h | refine And.intro ?_ ?_ | (intro hb; first | (simp at hb; done) | (simp at hb) | skip) | omega | exact rfl | exact Nat.le_refl _ | (show _ + 1 ≤ 4294967296; omega) | (dsimp only; omega) | (show (_ : Int) ≤ (_ : Int); omega) | (show _ < List.length _; simp only [List.length_set, List.length_append, List.length_take]; omega) | (show wantB _ _ = true; simp; done) | (show wantB _ _ = true; simp; omega) | (show (_ : Bool) = _; simp_all; done) | (exfalso; omega) | refine aRegion_auto (by decide +kernel) ?_ | refine ⟨_, _, REnt.drop ⟨rfl, rfl⟩, ?_⟩ | fail))
      apply exEff
      · refine ⟨fun h => absurd h (by simp [hX]), fun _ => ⟨rfl, rfl⟩⟩
      (repeat' (first | exact trivial | exact fun h => h | refine And.intro ?_ ?_ | (intro hb; first | (simp at hb; done) | (simp at hb) | skip) | omega | exact rfl | exact Nat.le_refl _ | (show _ + 1 ≤ 4294967296; omega) | (dsimp only; omega) | (show (_ : Int) ≤ (_ : Int); omega) | (show _ < List.length _; simp only [List.length_set, List.length_append, List.length_take]; omega) | (show wantB _ _ = true; simp; done) | (show wantB _ _ = true; simp; omega) | (show (_ : Bool) = _; simp_all; done) | (exfalso; omega) | refine aRegion_auto (by decide +kernel) ?_ | refine ⟨_, _, REnt.drop ⟨rfl, rfl⟩, ?_⟩ | fail))
      apply exEff
      · refine ⟨fun h => absurd h (by simp [hX]), fun _ => ⟨rfl, rfl⟩⟩
      (repeat' (first | exact trivial | exact fun h => h | refine And.intro ?_ ?_ | (intro hb; first | (simp at hb; done) | (simp at hb) | skip) | omega | exact rfl | exact Nat.le_refl _ | (show _ + 1 ≤ 4294967296; omega) | (dsimp only; omega) | (show (_ : Int) ≤ (_ : Int); omega) | (show _ < List.length _; simp only [List.length_set, List.length_append, List.length_take]; omega) | (show wantB _ _ = true; simp; done) | (show wantB _ _ = true; simp; omega) | (show (_ : Bool) = _; simp_all; done) | (exfalso; omega) | refine aRegion_auto (by decide +kernel) ?_ | refine ⟨_, _, REnt.drop ⟨rfl, rfl⟩, ?_⟩ | fail))
      apply exEff
      · refine ⟨fun h => absurd h (by simp [hX]), fun _ => ⟨rfl, rfl⟩⟩
      (repeat' (first | exact trivial | exact fun h => h | refine And.intro ?_ ?_ | (intro hb; first | (simp at hb; done) | (simp at hb) | skip) | omega | exact rfl | exact Nat.le_refl _ | (show _ + 1 ≤ 4294967296; omega) | (dsimp only; omega) | (show (_ : Int) ≤ (_ : Int); omega) | (show _ < List.length _; simp only [List.length_set, List.length_append, List.length_take]; omega) | (show wantB _ _ = true; simp; done) | (show wantB _ _ = true; simp; omega) | (show (_ : Bool) = _; simp_all; done) | (exfalso; omega) | refine aRegion_auto (by decide +kernel) ?_ | refine ⟨_, _, REnt.drop ⟨rfl, rfl⟩, ?_⟩ | fail))
      apply exEff
      · refine ⟨fun h => absurd h (by simp [hX]), fun _ => ⟨rfl, rfl⟩⟩
      (repeat' (first | exact trivial | exact fun h => h | refine And.intro ?_ ?_ | (intro hb; first | (simp at hb; done) | (simp at hb) | skip) | omega | exact rfl | exact Nat.le_refl _ | (show _ + 1 ≤ 4294967296; omega) | (dsimp only; omega) | (show (_ : Int) ≤ (_ : Int); omega) | (show _ < List.length _; simp only [List.length_set, List.length_append, List.length_take]; omega) | (show wantB _ _ = true; simp; done) | (show wantB _ _ = true; simp; omega) | (show (_ : Bool) = _; simp_all; done) | (exfalso; omega) | refine aRegion_auto (by decide +kernel) ?_ | refine ⟨_, _, REnt.drop ⟨rfl, rfl⟩, ?_⟩ | fail))
      refine kbl hK ?_
      unfold Shp.crs
      simp [hX]
end Go.Proofs.YtdbgkhcknaafoaaDoor
/-
  Where a point is; simple rings: the walks of the program's.
-/
namespace Go.Proofs.YtdbgkhcknaafoaaDoor
open Go Go.Ab
set_option maxRecDepth 100000
def whE (l : Pts) (p : Int × Int) : Nat := if ringE l = 0 then (if plB p = true then 0 else 3) else ringE l
def whQ (l : Pts) (p : Int × Int) : Int := if whE l p = 0 then Shp.wh l p else 0
theorem ons_no {l : Pts} {p : Int × Int} {k : Nat} (hk : k < l.length) (h : Shp.on (Shp.at_ l k) (Shp.at_ l (Shp.nx l k)) p = true) : Shp.ons l p l.length ≠ 0 := fun e => by
  unfold Shp.ons at e
  have := (Shp.sum_zero_iff (f := fun i => if Shp.on (Shp.at_ l i) (Shp.at_ l (Shp.nx l i)) p then 1 else 0) (fun i => by split <;> omega) l.length).1 e k hk
  simp only [h, if_true] at this
  omega
theorem sgn_bd (t : Int) : -1 ≤ Shp.sgn t ∧ Shp.sgn t ≤ 1 := by unfold Shp.sgn; split <;> omega
theorem tog_no {a b p : Int × Int} (h : p.2 < a.2 ↔ p.2 < b.2) : Shp.tog a b p = false := by
  unfold Shp.tog
  have : decide (p.2 < a.2) = decide (p.2 < b.2) := by rw [Bool.eq_iff_iff]; simp [h]
  rw [this]; simp
theorem tog_dn {a b p : Int × Int} (h : ¬ (p.2 < a.2 ↔ p.2 < b.2)) (hd : b.2 < a.2) : Shp.tog a b p = decide (0 < Shp.side b a p) := by
  unfold Shp.tog
  rw [if_pos hd]
  by_cases h1 : p.2 < a.2 <;> by_cases h2 : p.2 < b.2 <;> simp [h1, h2] at h ⊢
theorem tog_up {a b p : Int × Int} (h : ¬ (p.2 < a.2 ↔ p.2 < b.2)) (hd : a.2 ≤ b.2) : Shp.tog a b p = decide (0 < Shp.side a b p) := by
  unfold Shp.tog
  rw [if_neg (by omega)]
  by_cases h1 : p.2 < a.2 <;> by_cases h2 : p.2 < b.2 <;> simp [h1, h2] at h ⊢
set_option maxHeartbeats 4000000 in
theorem where_any (E : Errs) (l : Pts) (p : Int × Int) (hl : l.length ≤ 1000000000000) (K : AV → List AO → Prop) (hK : K (.tup [.fz int (whQ l p), .fz .raw (er E (whE l p))]) []) : ACall Tryd.prog (G8 E) 10 [.fz (.list SpT) l, .fz SpT p] [] K := by
  have h3 : ringE l ≤ 3 := by unfold ringE; split <;> (try split) <;> omega
  by_cases h0 : ringE l = 0
  · by_cases hp : plB p = true
    · have e : whE l p = 0 := by unfold whE; rw [if_pos h0, if_pos hp]
      have e2 : whQ l p = Shp.wh l p := by unfold whQ; rw [if_pos e]
      rw [e, e2] at hK
      obtain ⟨z3, z4, hpl, _⟩ := ringE_no h0
      refine acall_mk (E := envCut (G8 E) 65 0 [11, 16]) (envCutOk _ _ _ _) Tryd.func10 rfl rfl rfl rfl rfl ?_
      (repeat' (first | exact trivial | exact fun h => h | refine And.intro ?_ ?_ | (intro hb; first | (simp at hb; done) | (simp at hb) | skip) | omega | exact rfl | exact Nat.le_refl _ | (show _ + 1 ≤ 4294967296; omega) | (dsimp only; omega) | (show (_ : Int) ≤ (_ : Int); omega) | (show _ < List.length _; simp only [List.length_set, List.length_append, List.length_take]; omega) | (show wantB _ _ = true; simp; done) | (show wantB _ _ = true; simp; omega) | (show (_ : Bool) = _; simp_all; done) | (exfalso; omega) | refine aRegion_auto (by decide +kernel) ?_ | refine ⟨_, _, REnt.drop ⟨rfl, rfl⟩, ?_⟩ | fail))
      refine acall_frame0 rfl (ring_any E l hl _ ?_)
      rw [h0]
      (repeat' (first | exact trivial | exact fun h => h | refine And.intro ?_ ?_ | (intro hb; first | (simp at hb; done) | (simp at hb) | skip) | omega | exact rfl | exact Nat.le_refl _ | (show _ + 1 ≤ 4294967296; omega) | (dsimp only; omega) | (show (_ : Int) ≤ (_ : Int); omega) | (show _ < List.length _; simp only [List.length_set, List.length_append, List.length_take]; omega) | (show wantB _ _ = true; simp; done) | (show wantB _ _ = true; simp; omega) | (show (_ : Bool) = _; simp_all; done) | (exfalso; omega) | refine aRegion_auto (by decide +kernel) ?_ | refine ⟨_, _, REnt.drop ⟨rfl, rfl⟩, ?_⟩ | fail))
      refine acall_conv [.dat SpT] _ _ _ rfl trivial (acall_frame0 rfl (great_any _ p _ ?_))
      rw [hp]
      (repeat' (first | exact trivial | exact fun h => h | refine And.intro ?_ ?_ | (intro hb; first | (simp at hb; done) | (simp at hb) | skip) | omega | exact rfl | exact Nat.le_refl _ | (show _ + 1 ≤ 4294967296; omega) | (dsimp only; omega) | (show (_ : Int) ≤ (_ : Int); omega) | (show _ < List.length _; simp only [List.length_set, List.length_append, List.length_take]; omega) | (show wantB _ _ = true; simp; done) | (show wantB _ _ = true; simp; omega) | (show (_ : Bool) = _; simp_all; done) | (exfalso; omega) | refine aRegion_auto (by decide +kernel) ?_ | refine ⟨_, _, REnt.drop ⟨rfl, rfl⟩, ?_⟩ | fail))
      let bP : AO := .box [.fz int p.1, .fz int p.2]
      refine ⟨Nat, fun k => ⟨[(0, .fz (.list SpT) l), (3, .ptr 0 0), (7, .fz int (Shp.sgn (Shp.togs l p k))), (19, .fz (.list SpT) l), (20, .fz int l.length), (21, .fz int k)], [bP]⟩, fun k => k ≤ l.length ∧ Shp.ons l p k = 0, fun k => l.length - k, 0, ⟨Nat.zero_le _, rfl⟩, Ent.sub rfl ?_, ?_⟩
      · (repeat' (first | exact trivial | exact rfl | refine And.intro ?_ ?_))
      intro k ⟨hk, hon⟩
      have hsg := sgn_bd (Shp.togs l p k)
      by_cases hkl : k < l.length
      · have hne : l ≠ [] := fun e => by rw [e] at z3; simp at z3
        have hnx := nx_lt (l := l) (i := k) (by omega)
        have htm := tmod_nx l k
        have qn : ∀ z : Int, z = ((Shp.nx l k : Nat) : Int) → List.getD l (Int.toNat z) SpT.dft = Shp.at_ l (Shp.nx l k) := fun z hz => by rw [hz]; rfl
        have qn2 := qn _ htm
        have hpa := hpl k hkl
        have hpb := hpl _ hnx
        have eT : Shp.togs l p (k + 1) = Shp.togs l p k + (if Shp.tog (Shp.at_ l k) (Shp.at_ l (Shp.nx l k)) p then 1 else 0) := rfl
        have eO : Shp.ons l p (k + 1) = Shp.ons l p k + (if Shp.on (Shp.at_ l k) (Shp.at_ l (Shp.nx l k)) p then 1 else 0) := rfl
        (repeat' (first | exact trivial | exact fun h => h | refine And.intro ?_ ?_ | (intro hb; first | (simp at hb; done) | (simp at hb) | skip) | omega | exact rfl | exact Nat.le_refl _ | (show _ + 1 ≤ 4294967296; omega) | (dsimp only; omega) | (show (_ : Int) ≤ (_ : Int); omega) | (show _ < List.length _; simp only [List.length_set, List.length_append, List.length_take]; omega) | (show wantB _ _ = true; simp; done) | (show wantB _ _ = true; simp; omega) | (show (_ : Bool) = _; simp_all; done) | (exfalso; omega) | refine aRegion_auto (by decide +kernel) ?_ | refine ⟨_, _, REnt.drop ⟨rfl, rfl⟩, ?_⟩ | fail))
        · exact hne hb
        refine ⟨[(0, .fz (.list SpT) l), (3, .ptr 0 0), (7, .fz int (Shp.sgn (Shp.togs l p k))), (9, .ptr 1 0), (10, .ptr 2 0), (19, .fz (.list SpT) l), (20, .fz int l.length), (21, .fz int k)], [bP, .box [.fz int (Shp.at_ l k).1, .fz int (Shp.at_ l k).2], .box [.fz int (Shp.at_ l (Shp.nx l k)).1, .fz int (Shp.at_ l (Shp.nx l k)).2]], Ent.sub ?_ ?_, ?_⟩
        · rw [← qn2]
          (repeat' (first | exact rfl | refine cons_eq ?_ ?_))
        · (repeat' (first | exact trivial | exact rfl | refine And.intro ?_ ?_))
        have hons := ons_no (p := p) hkl
        generalize Shp.at_ l k = a at *
        generalize Shp.at_ l (Shp.nx l k) = b at *
        clear htm qn qn2
        (repeat' (first | exact trivial | exact fun h => h | refine And.intro ?_ ?_ | (intro hb; first | (simp at hb; done) | (simp at hb) | skip) | omega | exact rfl | exact Nat.le_refl _ | (show _ + 1 ≤ 4294967296; omega) | (dsimp only; omega) | (show (_ : Int) ≤ (_ : Int); omega) | (show _ < List.length _; simp only [List.length_set, List.length_append, List.length_take]; omega) | (show wantB _ _ = true; simp; done) | (show wantB _ _ = true; simp; omega) | (show (_ : Bool) = _; simp_all; done) | (exfalso; omega) | refine aRegion_auto (by decide +kernel) ?_ | refine ⟨_, _, REnt.drop ⟨rfl, rfl⟩, ?_⟩ | fail))
        refine acall_conv [.dat SpT, .dat SpT, .dat SpT] _ _ _ rfl trivial (acall_frame0 rfl (on_any _ a b p hpa hpb hp _ ?_))
        cases hO : Shp.on a b p with
        | true =>
          have hw : Shp.wh l p = 0 := by unfold Shp.wh; rw [if_neg (hons hO)]
          rw [hw] at hK
          (repeat' (first | exact trivial | exact fun h => h | refine And.intro ?_ ?_ | (intro hb; first | (simp at hb; done) | (simp at hb) | skip) | omega | exact rfl | exact Nat.le_refl _ | (show _ + 1 ≤ 4294967296; omega) | (dsimp only; omega) | (show (_ : Int) ≤ (_ : Int); omega) | (show _ < List.length _; simp only [List.length_set, List.length_append, List.length_take]; omega) | (show wantB _ _ = true; simp; done) | (show wantB _ _ = true; simp; omega) | (show (_ : Bool) = _; simp_all; done) | (exfalso; omega) | refine aRegion_auto (by decide +kernel) ?_ | refine ⟨_, _, REnt.drop ⟨rfl, rfl⟩, ?_⟩ | fail))
          exact hK
        | false =>
          rw [hO] at eO
          have eO1 : Shp.ons l p (k + 1) = 0 := by rw [eO, hon]; rfl
          by_cases hsd : p.2 < a.2 ↔ p.2 < b.2
          · rw [tog_no hsd] at eT
            (repeat' (first | exact trivial | exact fun h => h | refine And.intro ?_ ?_ | (intro hb; first | (simp at hb; done) | (simp at hb) | skip) | omega | exact rfl | exact Nat.le_refl _ | (show _ + 1 ≤ 4294967296; omega) | (dsimp only; omega) | (show (_ : Int) ≤ (_ : Int); omega) | (show _ < List.length _; simp only [List.length_set, List.length_append, List.length_take]; omega) | (show wantB _ _ = true; simp; done) | (show wantB _ _ = true; simp; omega) | (show (_ : Bool) = _; simp_all; done) | (exfalso; omega) | refine aRegion_auto (by decide +kernel) ?_ | refine ⟨_, _, REnt.drop ⟨rfl, rfl⟩, ?_⟩ | fail))
            all_goals first | (exfalso; rename_i hb1; exact hb1 hsd) | (exfalso; omega) | skip
            refine ⟨k + 1, ⟨by show k + 1 ≤ l.length; omega, eO1⟩, by show l.length - (k + 1) < l.length - k; omega, Ent.ren [0] rfl ?_ ?_⟩
            · (repeat' (first | exact trivial | exact rfl | refine And.intro ?_ ?_))
            · (repeat' (first | exact trivial | exact rfl | refine And.intro ?_ ?_))
              exact congrArg (AV.fz int) (show Shp.sgn (Shp.togs l p k) = Shp.sgn (Shp.togs l p (k + 1)) by rw [eT]; simp)
          · by_cases hd : b.2 < a.2
            · (repeat' (first | exact trivial | exact fun h => h | refine And.intro ?_ ?_ | (intro hb; first | (simp at hb; done) | (simp at hb) | skip) | omega | exact rfl | exact Nat.le_refl _ | (show _ + 1 ≤ 4294967296; omega) | (dsimp only; omega) | (show (_ : Int) ≤ (_ : Int); omega) | (show _ < List.length _; simp only [List.length_set, List.length_append, List.length_take]; omega) | (show wantB _ _ = true; simp; done) | (show wantB _ _ = true; simp; omega) | (show (_ : Bool) = _; simp_all; done) | (exfalso; omega) | refine aRegion_auto (by decide +kernel) ?_ | refine ⟨_, _, REnt.drop ⟨rfl, rfl⟩, ?_⟩ | fail))
              refine ⟨[(0, .fz (.list SpT) l), (3, .ptr 0 0), (7, .fz int (Shp.sgn (Shp.togs l p k))), (9, .ptr 1 0), (10, .ptr 2 0), (19, .fz (.list SpT) l), (20, .fz int l.length), (21, .fz int k)], [bP, .box [.fz int b.1, .fz int b.2], .box [.fz int a.1, .fz int a.2]], Ent.sub ?_ ?_, ?_⟩
              · (repeat' (first | exact rfl | refine cons_eq ?_ ?_))
              · (repeat' (first | exact trivial | exact rfl | refine And.intro ?_ ?_))
              (repeat' (first | exact trivial | exact fun h => h | refine And.intro ?_ ?_ | (intro hb; first | (simp at hb; done) | (simp at hb) | skip) | omega | exact rfl | exact Nat.le_refl _ | (show _ + 1 ≤ 4294967296; omega) | (dsimp only; omega) | (show (_ : Int) ≤ (_ : Int); omega) | (show _ < List.length _; simp only [List.length_set, List.length_append, List.length_take]; omega) | (show wantB _ _ = true; simp; done) | (show wantB _ _ = true; simp; omega) | (show (_ : Bool) = _; simp_all; done) | (exfalso; omega) | refine aRegion_auto (by decide +kernel) ?_ | refine ⟨_, _, REnt.drop ⟨rfl, rfl⟩, ?_⟩ | fail))
              refine acall_conv [.dat SpT, .dat SpT, .dat SpT] _ _ _ rfl trivial (acall_frame0 rfl (side_any _ b a p hpb hpa hp _ ?_))
              have eG := tog_dn hsd hd
              by_cases hs : 0 < Shp.side b a p
              · rw [eG, decide_eq_true hs] at eT
                (repeat' (first | exact trivial | exact fun h => h | refine And.intro ?_ ?_ | (intro hb; first | (simp at hb; done) | (simp at hb) | skip) | omega | exact rfl | exact Nat.le_refl _ | (show _ + 1 ≤ 4294967296; omega) | (dsimp only; omega) | (show (_ : Int) ≤ (_ : Int); omega) | (show _ < List.length _; simp only [List.length_set, List.length_append, List.length_take]; omega) | (show wantB _ _ = true; simp; done) | (show wantB _ _ = true; simp; omega) | (show (_ : Bool) = _; simp_all; done) | (exfalso; omega) | refine aRegion_auto (by decide +kernel) ?_ | refine ⟨_, _, REnt.drop ⟨rfl, rfl⟩, ?_⟩ | fail))
                refine ⟨k + 1, ⟨by show k + 1 ≤ l.length; omega, eO1⟩, by show l.length - (k + 1) < l.length - k; omega, Ent.ren [0] rfl ?_ ?_⟩
                · (repeat' (first | exact trivial | exact rfl | refine And.intro ?_ ?_))
                · (repeat' (first | exact trivial | exact rfl | refine And.intro ?_ ?_))
                  exact congrArg (AV.fz int) (show 0 - Shp.sgn (Shp.togs l p k) = Shp.sgn (Shp.togs l p (k + 1)) by rw [eT, if_pos rfl, Shp.sgn_flip]; omega)
              · rw [eG, decide_eq_false hs] at eT
                (repeat' (first | exact trivial | exact fun h => h | refine And.intro ?_ ?_ | (intro hb; first | (simp at hb; done) | (simp at hb) | skip) | omega | exact rfl | exact Nat.le_refl _ | (show _ + 1 ≤ 4294967296; omega) | (dsimp only; omega) | (show (_ : Int) ≤ (_ : Int); omega) | (show _ < List.length _; simp only [List.length_set, List.length_append, List.length_take]; omega) | (show wantB _ _ = true; simp; done) | (show wantB _ _ = true; simp; omega) | (show (_ : Bool) = _; simp_all; done) | (exfalso; omega) | refine aRegion_auto (by decide +kernel) ?_ | refine ⟨_, _, REnt.drop ⟨rfl, rfl⟩, ?_⟩ | fail))
                refine ⟨k + 1, ⟨by show k + 1 ≤ l.length; omega, eO1⟩, by show l.length - (k + 1) < l.length - k; omega, Ent.ren [0] rfl ?_ ?_⟩
                · (repeat' (first | exact trivial | exact rfl | refine And.intro ?_ ?_))
                · (repeat' (first | exact trivial | exact rfl | refine And.intro ?_ ?_))
                  exact congrArg (AV.fz int) (show Shp.sgn (Shp.togs l p k) = Shp.sgn (Shp.togs l p (k + 1)) by rw [eT]; simp)
            · have hd : a.2 ≤ b.2 := by omega
              (repeat' (first | exact trivial | exact fun h => h | refine And.intro ?_ ?_ | (intro hb; first | (simp at hb; done) | (simp at hb) | skip) | omega | exact rfl | exact Nat.le_refl _ | (show _ + 1 ≤ 4294967296; omega) | (dsimp only; omega) | (show (_ : Int) ≤ (_ : Int); omega) | (show _ < List.length _; simp only [List.length_set, List.length_append, List.length_take]; omega) | (show wantB _ _ = true; simp; done) | (show wantB _ _ = true; simp; omega) | (show (_ : Bool) = _; simp_all; done) | (exfalso; omega) | refine aRegion_auto (by decide +kernel) ?_ | refine ⟨_, _, REnt.drop ⟨rfl, rfl⟩, ?_⟩ | fail))
              refine ⟨[(0, .fz (.list SpT) l), (3, .ptr 0 0), (7, .fz int (Shp.sgn (Shp.togs l p k))), (9, .ptr 1 0), (10, .ptr 2 0), (19, .fz (.list SpT) l), (20, .fz int l.length), (21, .fz int k)], [bP, .box [.fz int a.1, .fz int a.2], .box [.fz int b.1, .fz int b.2]], Ent.sub ?_ ?_, ?_⟩
              · (repeat' (first | exact rfl | refine cons_eq ?_ ?_))
              · (repeat' (first | exact trivial | exact rfl | refine And.intro ?_ ?_))
              (repeat' (first | exact trivial | exact fun h => h | refine And.intro ?_ ?_ | (intro hb; first | (simp at hb; done) | (simp at hb) | skip) | omega | exact rfl | exact Nat.le_refl _ | (show _ + 1 ≤ 4294967296; omega) | (dsimp only; omega) | (show (_ : Int) ≤ (_ : Int); omega) | (show _ < List.length _; simp only [List.length_set, List.length_append, List.length_take]; omega) | (show wantB _ _ = true; simp; done) | (show wantB _ _ = true; simp; omega) | (show (_ : Bool) = _; simp_all; done) | (exfalso; omega) | refine aRegion_auto (by decide +kernel) ?_ | refine ⟨_, _, REnt.drop ⟨rfl, rfl⟩, ?_⟩ | fail))
              refine acall_conv [.dat SpT, .dat SpT, .dat SpT] _ _ _ rfl trivial (acall_frame0 rfl (side_any _ a b p hpa hpb hp _ ?_))
              have eG := tog_up hsd hd
              by_cases hs : 0 < Shp.side a b p
              · rw [eG, decide_eq_true hs] at eT
                (repeat' (first | exact trivial | exact fun h => h | refine And.intro ?_ ?_ | (intro hb; first | (simp at hb; done) | (simp at hb) | skip) | omega | exact rfl | exact Nat.le_refl _ | (show _ + 1 ≤ 4294967296; omega) | (dsimp only; omega) | (show (_ : Int) ≤ (_ : Int); omega) | (show _ < List.length _; simp only [List.length_set, List.length_append, List.length_take]; omega) | (show wantB _ _ = true; simp; done) | (show wantB _ _ = true; simp; omega) | (show (_ : Bool) = _; simp_all; done) | (exfalso; omega) | refine aRegion_auto (by decide +kernel) ?_ | refine ⟨_, _, REnt.drop ⟨rfl, rfl⟩, ?_⟩ | fail))
                refine ⟨k + 1, ⟨by show k + 1 ≤ l.length; omega, eO1⟩, by show l.length - (k + 1) < l.length - k; omega, Ent.ren [0] rfl ?_ ?_⟩
                · (repeat' (first | exact trivial | exact rfl | refine And.intro ?_ ?_))
                · (repeat' (first | exact trivial | exact rfl | refine And.intro ?_ ?_))
                  exact congrArg (AV.fz int) (show 0 - Shp.sgn (Shp.togs l p k) = Shp.sgn (Shp.togs l p (k + 1)) by rw [eT, if_pos rfl, Shp.sgn_flip]; omega)
              · rw [eG, decide_eq_false hs] at eT
                (repeat' (first | exact trivial | exact fun h => h | refine And.intro ?_ ?_ | (intro hb; first | (simp at hb; done) | (simp at hb) | skip) | omega | exact rfl | exact Nat.le_refl _ | (show _ + 1 ≤ 4294967296; omega) | (dsimp only; omega) | (show (_ : Int) ≤ (_ : Int); omega) | (show _ < List.length _; simp only [List.length_set, List.length_append, List.length_take]; omega) | (show wantB _ _ = true; simp; done) | (show wantB _ _ = true; simp; omega) | (show (_ : Bool) = _; simp_all; done) | (exfalso; omega) | refine aRegion_auto (by decide +kernel) ?_ | refine ⟨_, _, REnt.drop ⟨rfl, rfl⟩, ?_⟩ | fail))
                refine ⟨k + 1, ⟨by show k + 1 ≤ l.length; omega, eO1⟩, by show l.length - (k + 1) < l.length - k; omega, Ent.ren [0] rfl ?_ ?_⟩
                · (repeat' (first | exact trivial | exact rfl | refine And.intro ?_ ?_))
                · (repeat' (first | exact trivial | exact rfl | refine And.intro ?_ ?_))
                  exact congrArg (AV.fz int) (show Shp.sgn (Shp.togs l p k) = Shp.sgn (Shp.togs l p (k + 1)) by rw [eT]; simp)
      · have hke : k = l.length := by omega
        have hw : Shp.wh l p = Shp.sgn (Shp.togs l p k) := by unfold Shp.wh; rw [hke] at hon ⊢; rw [if_pos hon]
        rw [hw] at hK
        (repeat' (first | exact trivial | exact fun h => h | refine And.intro ?_ ?_ | (intro hb; first | (simp at hb; done) | (simp at hb) | skip) | omega | exact rfl | exact Nat.le_refl _ | (show _ + 1 ≤ 4294967296; omega) | (dsimp only; omega) | (show (_ : Int) ≤ (_ : Int); omega) | (show _ < List.length _; simp only [List.length_set, List.length_append, List.length_take]; omega) | (show wantB _ _ = true; simp; done) | (show wantB _ _ = true; simp; omega) | (show (_ : Bool) = _; simp_all; done) | (exfalso; omega) | refine aRegion_auto (by decide +kernel) ?_ | refine ⟨_, _, REnt.drop ⟨rfl, rfl⟩, ?_⟩ | fail))
        exact hK
    · have e : whE l p = 3 := by unfold whE; rw [if_pos h0, if_neg hp]
      have e2 : whQ l p = 0 := by unfold whQ; rw [if_neg (by omega)]
      have hp' : plB p = false := by simpa using hp
      rw [e, e2] at hK
      refine acall_mk (E := envAt (G8 E) 65 0) (envOk _ _ _) Tryd.func10 rfl rfl rfl rfl rfl ?_
      (repeat' (first | exact trivial | exact fun h => h | refine And.intro ?_ ?_ | (intro hb; first | (simp at hb; done) | (simp at hb) | skip) | omega | exact rfl | exact Nat.le_refl _ | (show _ + 1 ≤ 4294967296; omega) | (dsimp only; omega) | (show (_ : Int) ≤ (_ : Int); omega) | (show _ < List.length _; simp only [List.length_set, List.length_append, List.length_take]; omega) | (show wantB _ _ = true; simp; done) | (show wantB _ _ = true; simp; omega) | (show (_ : Bool) = _; simp_all; done) | (exfalso; omega) | refine aRegion_auto (by decide +kernel) ?_ | refine ⟨_, _, REnt.drop ⟨rfl, rfl⟩, ?_⟩ | fail))
      refine acall_frame0 rfl (ring_any E l hl _ ?_)
      rw [h0]
      (repeat' (first | exact trivial | exact fun h => h | refine And.intro ?_ ?_ | (intro hb; first | (simp at hb; done) | (simp at hb) | skip) | omega | exact rfl | exact Nat.le_refl _ | (show _ + 1 ≤ 4294967296; omega) | (dsimp only; omega) | (show (_ : Int) ≤ (_ : Int); omega) | (show _ < List.length _; simp only [List.length_set, List.length_append, List.length_take]; omega) | (show wantB _ _ = true; simp; done) | (show wantB _ _ = true; simp; omega) | (show (_ : Bool) = _; simp_all; done) | (exfalso; omega) | refine aRegion_auto (by decide +kernel) ?_ | refine ⟨_, _, REnt.drop ⟨rfl, rfl⟩, ?_⟩ | fail))
      refine acall_conv [.dat SpT] _ _ _ rfl trivial (acall_frame0 rfl (great_any _ p _ ?_))
      rw [hp']
      (repeat' (first | exact trivial | exact fun h => h | refine And.intro ?_ ?_ | (intro hb; first | (simp at hb; done) | (simp at hb) | skip) | omega | exact rfl | exact Nat.le_refl _ | (show _ + 1 ≤ 4294967296; omega) | (dsimp only; omega) | (show (_ : Int) ≤ (_ : Int); omega) | (show _ < List.length _; simp only [List.length_set, List.length_append, List.length_take]; omega) | (show wantB _ _ = true; simp; done) | (show wantB _ _ = true; simp; omega) | (show (_ : Bool) = _; simp_all; done) | (exfalso; omega) | refine aRegion_auto (by decide +kernel) ?_ | refine ⟨_, _, REnt.drop ⟨rfl, rfl⟩, ?_⟩ | fail))
      exact hK
  · have e : whE l p = ringE l := by unfold whE; rw [if_neg h0]
    have e2 : whQ l p = 0 := by unfold whQ; rw [if_neg (by omega)]
    rw [e, e2] at hK
    refine acall_mk (E := envAt (G8 E) 65 0) (envOk _ _ _) Tryd.func10 rfl rfl rfl rfl rfl ?_
    (repeat' (first | exact trivial | exact fun h => h | refine And.intro ?_ ?_ | (intro hb; first | (simp at hb; done) | (simp at hb) | skip) | omega | exact rfl | exact Nat.le_refl _ | (show _ + 1 ≤ 4294967296; omega) | (dsimp only; omega) | (show (_ : Int) ≤ (_ : Int); omega) | (show _ < List.length _; simp only [List.length_set, List.length_append, List.length_take]; omega) | (show wantB _ _ = true; simp; done) | (show wantB _ _ = true; simp; omega) | (show (_ : Bool) = _; simp_all; done) | (exfalso; omega) | refine aRegion_auto (by decide +kernel) ?_ | refine ⟨_, _, REnt.drop ⟨rfl, rfl⟩, ?_⟩ | fail))
    refine acall_frame0 rfl (ring_any E l hl _ ?_)
    obtain h | h | h : ringE l = 1 ∨ ringE l = 2 ∨ ringE l = 3 := by omega
    all_goals
      rw [h] at hK ⊢
      (repeat' (first | exact trivial | exact fun h => h | refine And.intro ?_ ?_ | (intro hb; first | (simp at hb; done) | (simp at hb) | skip) | omega | exact rfl | exact Nat.le_refl _ | (show _ + 1 ≤ 4294967296; omega) | (dsimp only; omega) | (show (_ : Int) ≤ (_ : Int); omega) | (show _ < List.length _; simp only [List.length_set, List.length_append, List.length_take]; omega) | (show wantB _ _ = true; simp; done) | (show wantB _ _ = true; simp; omega) | (show (_ : Bool) = _; simp_all; done) | (exfalso; omega) | refine aRegion_auto (by decide +kernel) ?_ | refine ⟨_, _, REnt.drop ⟨rfl, rfl⟩, ?_⟩ | fail))
      exact hK
end Go.Proofs.YtdbgkhcknaafoaaDoor
/-
  Simple rings: the walk of the program's.
-/
namespace Go.Proofs.YtdbgkhcknaafoaaDoor
open Go Go.Ab
set_option maxRecDepth 100000
/-- the closure that gives the i-th point, around and around -/
theorem at_any (G : List (Nat × Value)) (l : Pts) (hl : 3 ≤ l.length) (h4 : l.length ≤ 4000) (i : Nat) (_ : i ≤ l.length) (K : AV → List AO → Prop)
    (hK : K (.agg [.fz int (Shp.at_ l (i % l.length)).1, .fz int (Shp.at_ l (i % l.length)).2]) [.box [.fz (.list SpT) l], .box [.fz int l.length]]) :
    ACall Tryd.prog G 21 [.fz int i, .ptr 0 0, .ptr 1 0] [.box [.fz (.list SpT) l], .box [.fz int l.length]] K := by
  have hne : l ≠ [] := fun e => by rw [e] at hl; simp at hl
  have hm : Int.tmod (i : Int) ((List.length l : Nat) : Int) = ((i % l.length : Nat) : Int) := by rw [Int.tmod_eq_emod_of_nonneg (by omega), Int.natCast_emod]
  have hlt : i % l.length < l.length := Nat.mod_lt _ (by omega)
  have hK' : K (.agg [.fz int (List.getD l (Int.toNat (Int.tmod (i : Int) ((List.length l : Nat) : Int))) SpT.dft).1, .fz int (List.getD l (Int.toNat (Int.tmod (i : Int) ((List.length l : Nat) : Int))) SpT.dft).2]) [.box [.fz (.list SpT) l], .box [.fz int l.length]] := by rw [hm]; exact hK
  refine acall_mk (E := envAt G 11 2) (envOk _ _ _) Tryd.func21 rfl rfl rfl rfl rfl ?_
  (repeat' (first | exact trivial | exact fun h => h | refine And.intro ?_ ?_ | (intro hb; first | (simp at hb; done) | (simp at hb) | skip) | omega | exact rfl | exact Nat.le_refl _ | (show _ + 1 ≤ 4294967296; omega) | (dsimp only; omega) | (show (_ : Int) ≤ (_ : Int); omega) | (show _ < List.length _; simp only [List.length_set, List.length_append, List.length_take]; omega) | (show wantB _ _ = true; simp; done) | (show wantB _ _ = true; simp; omega) | (show (_ : Bool) = _; simp_all; done) | (exfalso; omega) | refine aRegion_auto (by decide +kernel) ?_ | fail))
  · exact hne hb
  (apply exEff; focus (repeat' (first | exact ⟨rfl, rfl⟩ | exact trivial | refine And.intro ?_ ?_ | omega | exact Nat.le_refl _ | (show _ + 1 ≤ 4294967296; omega))))
  (repeat' (first | exact trivial | exact fun h => h | refine And.intro ?_ ?_ | (intro hb; first | (simp at hb; done) | (simp at hb) | skip) | omega | exact rfl | exact Nat.le_refl _ | (show _ + 1 ≤ 4294967296; omega) | (dsimp only; omega) | (show (_ : Int) ≤ (_ : Int); omega) | (show _ < List.length _; simp only [List.length_set, List.length_append, List.length_take]; omega) | (show wantB _ _ = true; simp; done) | (show wantB _ _ = true; simp; omega) | (show (_ : Bool) = _; simp_all; done) | (exfalso; omega) | refine aRegion_auto (by decide +kernel) ?_ | fail))
  refine ⟨_, _, REnt.ren [0, 1] rfl ?_ ?_, hK'⟩
  · (repeat' (first | exact trivial | exact rfl | refine And.intro ?_ ?_))
  · (repeat' (first | exact trivial | exact rfl | refine And.intro ?_ ?_))
def smE (l : Pts) : Bool := if ringE l = 0 then Shp.smp l Shp.bad1 else false
set_option maxHeartbeats 8000000 in
theorem simple_any (E : Errs) (l : Pts) (hl : l.length ≤ 1000000000000) (K : AV → List AO → Prop) (hK : K (.tup [.fz .bool (smE l), .fz .raw (er E (ringE l))]) []) : ACall Tryd.prog (G8 E) 11 [.fz (.list SpT) l] [] K := by
  have h3 : ringE l ≤ 3 := by unfold ringE; split <;> (try split) <;> omega
  by_cases h0 : ringE l = 0
  · have e : smE l = Shp.smp l Shp.bad1 := by unfold smE; rw [if_pos h0]
    rw [e, h0] at hK
    obtain ⟨z3, z4, hpl, hne⟩ := ringE_no h0
    have hnel : l ≠ [] := fun e => by rw [e] at z3; simp at z3
    let bL : AO := .box [.fz (.list SpT) l]
    let bN : AO := .box [.fz int l.length]
    obtain ⟨n, hn⟩ : ∃ n, n = l.length := ⟨_, rfl⟩
    refine acall_mk (E := envAt (G8 E) 96 0) (envOk _ _ _) Tryd.func11 rfl rfl rfl rfl rfl ?_
    (repeat' (first | exact trivial | exact fun h => h | refine And.intro ?_ ?_ | (intro hb; first | (simp at hb; done) | (simp at hb) | skip) | omega | exact rfl | exact Nat.le_refl _ | (show _ + 1 ≤ 4294967296; omega) | (dsimp only; omega) | (show (_ : Int) ≤ (_ : Int); omega) | (show _ < List.length _; simp only [List.length_set, List.length_append, List.length_take]; omega) | (show wantB _ _ = true; simp; done) | (show wantB _ _ = true; simp; omega) | (show (_ : Bool) = _; simp_all; done) | (exfalso; omega) | refine aRegion_auto (by decide +kernel) ?_ | refine ⟨_, _, REnt.drop ⟨rfl, rfl⟩, ?_⟩ | fail))
    refine acall_frame0 rfl (ring_any E l hl _ ?_)
    rw [h0]
    (repeat' (first | exact trivial | exact fun h => h | refine And.intro ?_ ?_ | (intro hb; first | (simp at hb; done) | (simp at hb) | skip) | omega | exact rfl | exact Nat.le_refl _ | (show _ + 1 ≤ 4294967296; omega) | (dsimp only; omega) | (show (_ : Int) ≤ (_ : Int); omega) | (show _ < List.length _; simp only [List.length_set, List.length_append, List.length_take]; omega) | (show wantB _ _ = true; simp; done) | (show wantB _ _ = true; simp; omega) | (show (_ : Bool) = _; simp_all; done) | (exfalso; omega) | refine aRegion_auto (by decide +kernel) ?_ | refine ⟨_, _, REnt.drop ⟨rfl, rfl⟩, ?_⟩ | fail))
    refine ⟨Nat, fun i => ⟨[(5, .ptr 1 0), (6, .fn 21 [.ptr 0 0, .ptr 1 0]), (17, .fz int l.length), (18, .fz int i)], [bL, bN]⟩, fun i => i ≤ n ∧ ∀ j, j < i → ∀ k, k < n → j < k → Shp.nbF l Shp.bad1 j k = false, fun i => n - i, 0, ⟨Nat.zero_le _, fun j h => absurd h (Nat.not_lt_zero _)⟩, Ent.sub rfl ?_, ?_⟩
    · (repeat' (first | exact trivial | exact rfl | refine And.intro ?_ ?_))
    intro i ⟨hi, hok⟩
    by_cases hin : i < n
    · (repeat' (first | exact trivial | exact fun h => h | refine And.intro ?_ ?_ | (intro hb; first | (simp at hb; done) | (simp at hb) | skip) | omega | exact rfl | exact Nat.le_refl _ | (show _ + 1 ≤ 4294967296; omega) | (dsimp only; omega) | (show (_ : Int) ≤ (_ : Int); omega) | (show _ < List.length _; simp only [List.length_set, List.length_append, List.length_take]; omega) | (show wantB _ _ = true; simp; done) | (show wantB _ _ = true; simp; omega) | (show (_ : Bool) = _; simp_all; done) | (exfalso; omega) | refine aRegion_auto (by decide +kernel) ?_ | refine ⟨_, _, REnt.drop ⟨rfl, rfl⟩, ?_⟩ | fail))
      refine ⟨Nat, fun k => ⟨[(5, .ptr 1 0), (6, .fn 21 [.ptr 0 0, .ptr 1 0]), (7, .fz int i), (8, .fz int k), (17, .fz int l.length), (18, .fz int i)], [bL, bN]⟩, fun k => i < k ∧ k ≤ n ∧ ∀ j, i < j → j < k → Shp.nbF l Shp.bad1 i j = false, fun k => n - k, i + 1, ⟨by omega, by omega, fun j h1 h2 => by omega⟩, Ent.sub rfl ?_, ?_⟩
      · (repeat' (first | exact trivial | exact rfl | refine And.intro ?_ ?_))
      intro k ⟨hk1, hk, hokk⟩
      by_cases hkn : k < n
      · have ei : i % l.length = i := Nat.mod_eq_of_lt (by omega)
        have ek : k % l.length = k := Nat.mod_eq_of_lt (by omega)
        have ha := hpl i (by omega)
        have hc := hpl k (by omega)
        have hb' := hpl (Shp.nx l i) (nx_lt (by omega))
        have hd := hpl (Shp.nx l k) (nx_lt (by omega))
        have eN : Shp.nbF l Shp.bad1 i k = Shp.bad1 (Shp.at_ l i) (Shp.at_ l (Shp.nx l i)) (Shp.at_ l k) (Shp.at_ l (Shp.nx l k)) (decide (i + 1 = k)) (decide (Shp.nx l k = i)) := rfl
        (repeat' (first | exact trivial | exact fun h => h | refine And.intro ?_ ?_ | (intro hb; first | (simp at hb; done) | (simp at hb) | skip) | omega | exact rfl | exact Nat.le_refl _ | (show _ + 1 ≤ 4294967296; omega) | (dsimp only; omega) | (show (_ : Int) ≤ (_ : Int); omega) | (show _ < List.length _; simp only [List.length_set, List.length_append, List.length_take]; omega) | (show wantB _ _ = true; simp; done) | (show wantB _ _ = true; simp; omega) | (show (_ : Bool) = _; simp_all; done) | (exfalso; omega) | refine aRegion_auto (by decide +kernel) ?_ | refine ⟨_, _, REnt.drop ⟨rfl, rfl⟩, ?_⟩ | fail))
        refine at_any _ l z3 z4 i (by omega) _ ?_
        (repeat' (first | exact trivial | exact fun h => h | refine And.intro ?_ ?_ | (intro hb; first | (simp at hb; done) | (simp at hb) | skip) | omega | exact rfl | exact Nat.le_refl _ | (show _ + 1 ≤ 4294967296; omega) | (dsimp only; omega) | (show (_ : Int) ≤ (_ : Int); omega) | (show _ < List.length _; simp only [List.length_set, List.length_append, List.length_take]; omega) | (show wantB _ _ = true; simp; done) | (show wantB _ _ = true; simp; omega) | (show (_ : Bool) = _; simp_all; done) | (exfalso; omega) | refine aRegion_auto (by decide +kernel) ?_ | refine ⟨_, _, REnt.drop ⟨rfl, rfl⟩, ?_⟩ | fail))
        refine acall_arg (at_any _ l z3 z4 (i + 1) (by omega) _ ?_) rfl
        (repeat' (first | exact trivial | exact fun h => h | refine And.intro ?_ ?_ | (intro hb; first | (simp at hb; done) | (simp at hb) | skip) | omega | exact rfl | exact Nat.le_refl _ | (show _ + 1 ≤ 4294967296; omega) | (dsimp only; omega) | (show (_ : Int) ≤ (_ : Int); omega) | (show _ < List.length _; simp only [List.length_set, List.length_append, List.length_take]; omega) | (show wantB _ _ = true; simp; done) | (show wantB _ _ = true; simp; omega) | (show (_ : Bool) = _; simp_all; done) | (exfalso; omega) | refine aRegion_auto (by decide +kernel) ?_ | refine ⟨_, _, REnt.drop ⟨rfl, rfl⟩, ?_⟩ | fail))
        refine at_any _ l z3 z4 k (by omega) _ ?_
        (repeat' (first | exact trivial | exact fun h => h | refine And.intro ?_ ?_ | (intro hb; first | (simp at hb; done) | (simp at hb) | skip) | omega | exact rfl | exact Nat.le_refl _ | (show _ + 1 ≤ 4294967296; omega) | (dsimp only; omega) | (show (_ : Int) ≤ (_ : Int); omega) | (show _ < List.length _; simp only [List.length_set, List.length_append, List.length_take]; omega) | (show wantB _ _ = true; simp; done) | (show wantB _ _ = true; simp; omega) | (show (_ : Bool) = _; simp_all; done) | (exfalso; omega) | refine aRegion_auto (by decide +kernel) ?_ | refine ⟨_, _, REnt.drop ⟨rfl, rfl⟩, ?_⟩ | fail))
        refine acall_arg (at_any _ l z3 z4 (k + 1) (by omega) _ ?_) rfl
        rw [ei, ek]
        (repeat' (first | exact trivial | exact fun h => h | refine And.intro ?_ ?_ | (intro hb; first | (simp at hb; done) | (simp at hb) | skip) | omega | exact rfl | exact Nat.le_refl _ | (show _ + 1 ≤ 4294967296; omega) | (dsimp only; omega) | (show (_ : Int) ≤ (_ : Int); omega) | (show _ < List.length _; simp only [List.length_set, List.length_append, List.length_take]; omega) | (show wantB _ _ = true; simp; done) | (show wantB _ _ = true; simp; omega) | (show (_ : Bool) = _; simp_all; done) | (exfalso; omega) | refine aRegion_auto (by decide +kernel) ?_ | refine ⟨_, _, REnt.drop ⟨rfl, rfl⟩, ?_⟩ | fail))
        refine acall_conv [.dat SpT, .dat SpT, .dat SpT, .dat SpT] _ _ _ rfl trivial (acall_frame0 rfl (meet_any _ (Shp.at_ l i) (Shp.at_ l (Shp.nx l i)) (Shp.at_ l k) (Shp.at_ l (Shp.nx l k)) ha hb' hc hd _ ?_))
        (repeat' (first | exact trivial | exact fun h => h | refine And.intro ?_ ?_ | (intro hb; first | (simp at hb; done) | (simp at hb) | skip) | omega | exact rfl | exact Nat.le_refl _ | (show _ + 1 ≤ 4294967296; omega) | (dsimp only; omega) | (show (_ : Int) ≤ (_ : Int); omega) | (show _ < List.length _; simp only [List.length_set, List.length_append, List.length_take]; omega) | (show wantB _ _ = true; simp; done) | (show wantB _ _ = true; simp; omega) | (show (_ : Bool) = _; simp_all; done) | (exfalso; omega) | refine aRegion_auto (by decide +kernel) ?_ | refine ⟨_, _, REnt.drop ⟨rfl, rfl⟩, ?_⟩ | fail))
        · have hbad : Shp.nbF l Shp.bad1 i k = true := by rw [eN]; unfold Shp.bad1; rw [hb]; simp
          rw [Shp.smp_false (by omega) hk1 hbad] at hK
          exact hK
        have hmt := hb
        clear hb
        refine at_any _ l z3 z4 i (by omega) _ ?_
        (repeat' (first | exact trivial | exact fun h => h | refine And.intro ?_ ?_ | (intro hb; first | (simp at hb; done) | (simp at hb) | skip) | omega | exact rfl | exact Nat.le_refl _ | (show _ + 1 ≤ 4294967296; omega) | (dsimp only; omega) | (show (_ : Int) ≤ (_ : Int); omega) | (show _ < List.length _; simp only [List.length_set, List.length_append, List.length_take]; omega) | (show wantB _ _ = true; simp; done) | (show wantB _ _ = true; simp; omega) | (show (_ : Bool) = _; simp_all; done) | (exfalso; omega) | refine aRegion_auto (by decide +kernel) ?_ | refine ⟨_, _, REnt.drop ⟨rfl, rfl⟩, ?_⟩ | fail))
        refine at_any _ l z3 z4 k (by omega) _ ?_
        rw [ei, ek]
        have eqA := eqS (Shp.at_ l i) (Shp.at_ l k)
        have eqB := eqS (Shp.at_ l ((i + 1) % l.length)) (Shp.at_ l ((k + 1) % l.length))
        have eqC := eqS (Shp.at_ l i) (Shp.at_ l ((k + 1) % l.length))
        have eqD := eqS (Shp.at_ l ((i + 1) % l.length)) (Shp.at_ l k)
        have hnl : l.length ≠ 0 := by omega
        by_cases q1 : Shp.at_ l i = Shp.at_ l k
        · rw [decide_eq_true q1] at eqA
          refine And.intro ?_ ?_
          all_goals first | rw [eqA] | skip
          all_goals (repeat' (first | exact trivial | exact fun h => h | refine And.intro ?_ ?_ | (intro hb; first | (simp at hb; done) | (simp at hb) | skip) | omega | exact rfl | exact Nat.le_refl _ | (show _ + 1 ≤ 4294967296; omega) | (dsimp only; omega) | (show (_ : Int) ≤ (_ : Int); omega) | (show _ < List.length _; simp only [List.length_set, List.length_append, List.length_take]; omega) | (show wantB _ _ = true; simp; done) | (show wantB _ _ = true; simp; omega) | (show (_ : Bool) = _; simp_all; done) | (exfalso; omega) | refine aRegion_auto (by decide +kernel) ?_ | refine ⟨_, _, REnt.drop ⟨rfl, rfl⟩, ?_⟩ | fail))
          all_goals first | (exact absurd (by assumption) hnel) | (exact fun _ => rfl) | skip
          have hbad : Shp.nbF l Shp.bad1 i k = true := by rw [eN]; unfold Shp.bad1; simp [q1]
          rw [Shp.smp_false (by omega) hk1 hbad] at hK
          exact hK
        · rw [decide_eq_false q1] at eqA
          refine And.intro ?_ ?_
          all_goals first | rw [eqA] | skip
          all_goals (repeat' (first | exact trivial | exact fun h => h | refine And.intro ?_ ?_ | (intro hb; first | (simp at hb; done) | (simp at hb) | skip) | omega | exact rfl | exact Nat.le_refl _ | (show _ + 1 ≤ 4294967296; omega) | (dsimp only; omega) | (show (_ : Int) ≤ (_ : Int); omega) | (show _ < List.length _; simp only [List.length_set, List.length_append, List.length_take]; omega) | (show wantB _ _ = true; simp; done) | (show wantB _ _ = true; simp; omega) | (show (_ : Bool) = _; simp_all; done) | (exfalso; omega) | refine aRegion_auto (by decide +kernel) ?_ | refine ⟨_, _, REnt.drop ⟨rfl, rfl⟩, ?_⟩ | fail))
          all_goals first | (exact absurd (by assumption) hnel) | (exact fun _ => rfl) | skip
          refine acall_arg (at_any _ l z3 z4 (i + 1) (by omega) _ ?_) rfl
          (repeat' (first | exact trivial | exact fun h => h | refine And.intro ?_ ?_ | (intro hb; first | (simp at hb; done) | (simp at hb) | skip) | omega | exact rfl | exact Nat.le_refl _ | (show _ + 1 ≤ 4294967296; omega) | (dsimp only; omega) | (show (_ : Int) ≤ (_ : Int); omega) | (show _ < List.length _; simp only [List.length_set, List.length_append, List.length_take]; omega) | (show wantB _ _ = true; simp; done) | (show wantB _ _ = true; simp; omega) | (show (_ : Bool) = _; simp_all; done) | (exfalso; omega) | refine aRegion_auto (by decide +kernel) ?_ | refine ⟨_, _, REnt.drop ⟨rfl, rfl⟩, ?_⟩ | fail))
          all_goals first | (exact absurd (by assumption) hnel) | (exact fun _ => rfl) | skip
          refine acall_arg (at_any _ l z3 z4 (k + 1) (by omega) _ ?_) rfl
          by_cases q2 : Shp.at_ l ((i + 1) % l.length) = Shp.at_ l ((k + 1) % l.length)
          · rw [decide_eq_true q2] at eqB
            refine And.intro ?_ ?_
            all_goals first | rw [eqB] | skip
            all_goals (repeat' (first | exact trivial | exact fun h => h | refine And.intro ?_ ?_ | (intro hb; first | (simp at hb; done) | (simp at hb) | skip) | omega | exact rfl | exact Nat.le_refl _ | (show _ + 1 ≤ 4294967296; omega) | (dsimp only; omega) | (show (_ : Int) ≤ (_ : Int); omega) | (show _ < List.length _; simp only [List.length_set, List.length_append, List.length_take]; omega) | (show wantB _ _ = true; simp; done) | (show wantB _ _ = true; simp; omega) | (show (_ : Bool) = _; simp_all; done) | (exfalso; omega) | refine aRegion_auto (by decide +kernel) ?_ | refine ⟨_, _, REnt.drop ⟨rfl, rfl⟩, ?_⟩ | fail))
            all_goals first | (exact absurd (by assumption) hnel) | (exact fun _ => rfl) | skip
            have hbad : Shp.nbF l Shp.bad1 i k = true := by rw [eN]; unfold Shp.bad1; simp [show Shp.at_ l (Shp.nx l i) = Shp.at_ l (Shp.nx l k) from q2]
            rw [Shp.smp_false (by omega) hk1 hbad] at hK
            exact hK
          · rw [decide_eq_false q2] at eqB
            refine And.intro ?_ ?_
            all_goals first | rw [eqB] | skip
            all_goals (repeat' (first | exact trivial | exact fun h => h | refine And.intro ?_ ?_ | (intro hb; first | (simp at hb; done) | (simp at hb) | skip) | omega | exact rfl | exact Nat.le_refl _ | (show _ + 1 ≤ 4294967296; omega) | (dsimp only; omega) | (show (_ : Int) ≤ (_ : Int); omega) | (show _ < List.length _; simp only [List.length_set, List.length_append, List.length_take]; omega) | (show wantB _ _ = true; simp; done) | (show wantB _ _ = true; simp; omega) | (show (_ : Bool) = _; simp_all; done) | (exfalso; omega) | refine aRegion_auto (by decide +kernel) ?_ | refine ⟨_, _, REnt.drop ⟨rfl, rfl⟩, ?_⟩ | fail))
            all_goals first | (exact absurd (by assumption) hnel) | (exact fun _ => rfl) | skip
            refine at_any _ l z3 z4 i (by omega) _ ?_
            rw [ei]
            (repeat' (first | exact trivial | exact fun h => h | refine And.intro ?_ ?_ | (intro hb; first | (simp at hb; done) | (simp at hb) | skip) | omega | exact rfl | exact Nat.le_refl _ | (show _ + 1 ≤ 4294967296; omega) | (dsimp only; omega) | (show (_ : Int) ≤ (_ : Int); omega) | (show _ < List.length _; simp only [List.length_set, List.length_append, List.length_take]; omega) | (show wantB _ _ = true; simp; done) | (show wantB _ _ = true; simp; omega) | (show (_ : Bool) = _; simp_all; done) | (exfalso; omega) | refine aRegion_auto (by decide +kernel) ?_ | refine ⟨_, _, REnt.drop ⟨rfl, rfl⟩, ?_⟩ | fail))
            all_goals first | (exact absurd (by assumption) hnel) | (exact fun _ => rfl) | skip
            refine acall_arg (at_any _ l z3 z4 (k + 1) (by omega) _ ?_) rfl
            have htm := tmod_nx l k
            by_cases q3 : Shp.at_ l i = Shp.at_ l ((k + 1) % l.length)
            · rw [decide_eq_true q3] at eqC
              by_cases q4 : Shp.nx l k = i
              · have eqM : (Int.tmod ((k : Int) + 1) ((List.length l : Nat) : Int) != (i : Int)) = false := by rw [htm, q4]; simp
                refine And.intro ?_ ?_
                all_goals first | rw [eqC] | skip
                all_goals (repeat' (first | exact trivial | exact fun h => h | refine And.intro ?_ ?_ | (intro hb; first | (simp at hb; done) | (simp at hb) | skip) | omega | exact rfl | exact Nat.le_refl _ | (show _ + 1 ≤ 4294967296; omega) | (dsimp only; omega) | (show (_ : Int) ≤ (_ : Int); omega) | (show _ < List.length _; simp only [List.length_set, List.length_append, List.length_take]; omega) | (show wantB _ _ = true; simp; done) | (show wantB _ _ = true; simp; omega) | (show (_ : Bool) = _; simp_all; done) | (exfalso; omega) | refine aRegion_auto (by decide +kernel) ?_ | refine ⟨_, _, REnt.drop ⟨rfl, rfl⟩, ?_⟩ | fail))
                all_goals first | (exact absurd (by assumption) hnel) | (exact fun _ => rfl) | skip
                all_goals first | (exfalso; exact hb (by rw [htm, q4])) | skip
                refine acall_arg (at_any _ l z3 z4 (i + 1) (by omega) _ ?_) rfl
                (repeat' (first | exact trivial | exact fun h => h | refine And.intro ?_ ?_ | (intro hb; first | (simp at hb; done) | (simp at hb) | skip) | omega | exact rfl | exact Nat.le_refl _ | (show _ + 1 ≤ 4294967296; omega) | (dsimp only; omega) | (show (_ : Int) ≤ (_ : Int); omega) | (show _ < List.length _; simp only [List.length_set, List.length_append, List.length_take]; omega) | (show wantB _ _ = true; simp; done) | (show wantB _ _ = true; simp; omega) | (show (_ : Bool) = _; simp_all; done) | (exfalso; omega) | refine aRegion_auto (by decide +kernel) ?_ | refine ⟨_, _, REnt.drop ⟨rfl, rfl⟩, ?_⟩ | fail))
                all_goals first | (exact absurd (by assumption) hnel) | (exact fun _ => rfl) | skip
                refine at_any _ l z3 z4 k (by omega) _ ?_
                rw [ek]
                by_cases q5 : Shp.at_ l ((i + 1) % l.length) = Shp.at_ l k ∧ i + 1 ≠ k
                · have hbad : Shp.nbF l Shp.bad1 i k = true := by
                    have q5a : Shp.at_ l (Shp.nx l i) = Shp.at_ l k := q5.1
                    rw [eN]; unfold Shp.bad1; simp [q5a, q5.2]
                  rw [Shp.smp_false (by omega) hk1 hbad] at hK
                  rw [decide_eq_true q5.1] at eqD
                  (repeat' (first | exact trivial | exact fun h => h | refine And.intro ?_ ?_ | (intro hb; first | (simp at hb; done) | (simp at hb) | skip) | omega | exact rfl | exact Nat.le_refl _ | (show _ + 1 ≤ 4294967296; omega) | (dsimp only; omega) | (show (_ : Int) ≤ (_ : Int); omega) | (show _ < List.length _; simp only [List.length_set, List.length_append, List.length_take]; omega) | (show wantB _ _ = true; simp; done) | (show wantB _ _ = true; simp; omega) | (show (_ : Bool) = _; simp_all; done) | (exfalso; omega) | refine aRegion_auto (by decide +kernel) ?_ | refine ⟨_, _, REnt.drop ⟨rfl, rfl⟩, ?_⟩ | fail))
                  all_goals first | (exfalso; omega) | skip
                  · exact hK
                  · exfalso
                    rw [eqD] at hb
                    have := hb.2 rfl
                    omega
                · have hgood : Shp.nbF l Shp.bad1 i k = false := by
                    have q2a : ¬ Shp.at_ l (Shp.nx l i) = Shp.at_ l (Shp.nx l k) := q2
                    have q5a : Shp.at_ l (Shp.nx l i) = Shp.at_ l k → i + 1 = k := fun e => Classical.byContradiction fun e2 => q5 ⟨e, e2⟩
                    rw [eN]; unfold Shp.bad1; rw [hmt]; simp [q1, q2a]
                    exact ⟨fun _ => q4, q5a⟩
                  (repeat' (first | exact trivial | exact fun h => h | refine And.intro ?_ ?_ | (intro hb; first | (simp at hb; done) | (simp at hb) | skip) | omega | exact rfl | exact Nat.le_refl _ | (show _ + 1 ≤ 4294967296; omega) | (dsimp only; omega) | (show (_ : Int) ≤ (_ : Int); omega) | (show _ < List.length _; simp only [List.length_set, List.length_append, List.length_take]; omega) | (show wantB _ _ = true; simp; done) | (show wantB _ _ = true; simp; omega) | (show (_ : Bool) = _; simp_all; done) | (exfalso; omega) | refine aRegion_auto (by decide +kernel) ?_ | refine ⟨_, _, REnt.drop ⟨rfl, rfl⟩, ?_⟩ | fail))
                  · exfalso
                    rw [eqD] at hb
                    rcases hb with e | ⟨e1, e2⟩
                    · exact e (by rw [htm, q4])
                    · exact q5 ⟨of_decide_eq_true e1, by omega⟩
                  · refine ⟨k + 1, ⟨by show i < k + 1; omega, by show k + 1 ≤ n; omega, fun j h1 h2 => ?_⟩, by show n - (k + 1) < n - k; omega, Ent.sub rfl ?_⟩
                    · by_cases e : j = k
                      · rw [e]; exact hgood
                      · exact hokk j h1 (by omega)
                    · (repeat' (first | exact trivial | exact rfl | refine And.intro ?_ ?_))
              · have eqM : (Int.tmod ((k : Int) + 1) ((List.length l : Nat) : Int) != (i : Int)) = true := by rw [htm]; simp; omega
                refine And.intro ?_ ?_
                all_goals first | rw [eqC] | skip
                all_goals (repeat' (first | exact trivial | exact fun h => h | refine And.intro ?_ ?_ | (intro hb; first | (simp at hb; done) | (simp at hb) | skip) | omega | exact rfl | exact Nat.le_refl _ | (show _ + 1 ≤ 4294967296; omega) | (dsimp only; omega) | (show (_ : Int) ≤ (_ : Int); omega) | (show _ < List.length _; simp only [List.length_set, List.length_append, List.length_take]; omega) | (show wantB _ _ = true; simp; done) | (show wantB _ _ = true; simp; omega) | (show (_ : Bool) = _; simp_all; done) | (exfalso; omega) | refine aRegion_auto (by decide +kernel) ?_ | refine ⟨_, _, REnt.drop ⟨rfl, rfl⟩, ?_⟩ | fail))
                all_goals first | (exact absurd (by assumption) hnel) | (exact fun _ => rfl) | skip
                all_goals first | (exfalso; rw [htm] at hb; omega) | skip
                rw [eqM]
                (repeat' (first | exact trivial | exact fun h => h | refine And.intro ?_ ?_ | (intro hb; first | (simp at hb; done) | (simp at hb) | skip) | omega | exact rfl | exact Nat.le_refl _ | (show _ + 1 ≤ 4294967296; omega) | (dsimp only; omega) | (show (_ : Int) ≤ (_ : Int); omega) | (show _ < List.length _; simp only [List.length_set, List.length_append, List.length_take]; omega) | (show wantB _ _ = true; simp; done) | (show wantB _ _ = true; simp; omega) | (show (_ : Bool) = _; simp_all; done) | (exfalso; omega) | refine aRegion_auto (by decide +kernel) ?_ | refine ⟨_, _, REnt.drop ⟨rfl, rfl⟩, ?_⟩ | fail))
                all_goals first | (exact absurd (by assumption) hnel) | (exact fun _ => rfl) | skip
                have hbad : Shp.nbF l Shp.bad1 i k = true := by
                  have q3a : Shp.at_ l i = Shp.at_ l (Shp.nx l k) := q3
                  rw [eN]; unfold Shp.bad1; simp [← q3a, q4]
                rw [Shp.smp_false (by omega) hk1 hbad] at hK
                exact hK
            · rw [decide_eq_false q3] at eqC
              refine And.intro ?_ ?_
              all_goals first | rw [eqC] | skip
              all_goals (repeat' (first | exact trivial | exact fun h => h | refine And.intro ?_ ?_ | (intro hb; first | (simp at hb; done) | (simp at hb) | skip) | omega | exact rfl | exact Nat.le_refl _ | (show _ + 1 ≤ 4294967296; omega) | (dsimp only; omega) | (show (_ : Int) ≤ (_ : Int); omega) | (show _ < List.length _; simp only [List.length_set, List.length_append, List.length_take]; omega) | (show wantB _ _ = true; simp; done) | (show wantB _ _ = true; simp; omega) | (show (_ : Bool) = _; simp_all; done) | (exfalso; omega) | refine aRegion_auto (by decide +kernel) ?_ | refine ⟨_, _, REnt.drop ⟨rfl, rfl⟩, ?_⟩ | fail))
              all_goals first | (exact absurd (by assumption) hnel) | (exact fun _ => rfl) | skip
              refine acall_arg (at_any _ l z3 z4 (i + 1) (by omega) _ ?_) rfl
              (repeat' (first | exact trivial | exact fun h => h | refine And.intro ?_ ?_ | (intro hb; first | (simp at hb; done) | (simp at hb) | skip) | omega | exact rfl | exact Nat.le_refl _ | (show _ + 1 ≤ 4294967296; omega) | (dsimp only; omega) | (show (_ : Int) ≤ (_ : Int); omega) | (show _ < List.length _; simp only [List.length_set, List.length_append, List.length_take]; omega) | (show wantB _ _ = true; simp; done) | (show wantB _ _ = true; simp; omega) | (show (_ : Bool) = _; simp_all; done) | (exfalso; omega) | refine aRegion_auto (by decide +kernel) ?_ | refine ⟨_, _, REnt.drop ⟨rfl, rfl⟩, ?_⟩ | fail))
              all_goals first | (exact absurd (by assumption) hnel) | (exact fun _ => rfl) | skip
              refine at_any _ l z3 z4 k (by omega) _ ?_
              rw [ek]
              by_cases q5 : Shp.at_ l ((i + 1) % l.length) = Shp.at_ l k ∧ i + 1 ≠ k
              · have hbad : Shp.nbF l Shp.bad1 i k = true := by
                  have q5a : Shp.at_ l (Shp.nx l i) = Shp.at_ l k := q5.1
                  rw [eN]; unfold Shp.bad1; simp [q5a, q5.2]
                rw [Shp.smp_false (by omega) hk1 hbad] at hK
                rw [decide_eq_true q5.1] at eqD
                (repeat' (first | exact trivial | exact fun h => h | refine And.intro ?_ ?_ | (intro hb; first | (simp at hb; done) | (simp at hb) | skip) | omega | exact rfl | exact Nat.le_refl _ | (show _ + 1 ≤ 4294967296; omega) | (dsimp only; omega) | (show (_ : Int) ≤ (_ : Int); omega) | (show _ < List.length _; simp only [List.length_set, List.length_append, List.length_take]; omega) | (show wantB _ _ = true; simp; done) | (show wantB _ _ = true; simp; omega) | (show (_ : Bool) = _; simp_all; done) | (exfalso; omega) | refine aRegion_auto (by decide +kernel) ?_ | refine ⟨_, _, REnt.drop ⟨rfl, rfl⟩, ?_⟩ | fail))
                all_goals first | (exfalso; omega) | skip
                · exact hK
                · exfalso
                  rw [eqD] at hb
                  have := hb rfl
                  omega
              · have hgood : Shp.nbF l Shp.bad1 i k = false := by
                  have q2a : ¬ Shp.at_ l (Shp.nx l i) = Shp.at_ l (Shp.nx l k) := q2
                  have q5a : Shp.at_ l (Shp.nx l i) = Shp.at_ l k → i + 1 = k := fun e => Classical.byContradiction fun e2 => q5 ⟨e, e2⟩
                  rw [eN]; unfold Shp.bad1; rw [hmt]; simp [q1, q2a]
                  have q3a : ¬ Shp.at_ l i = Shp.at_ l (Shp.nx l k) := q3
                  exact ⟨fun e => absurd e q3a, q5a⟩
                (repeat' (first | exact trivial | exact fun h => h | refine And.intro ?_ ?_ | (intro hb; first | (simp at hb; done) | (simp at hb) | skip) | omega | exact rfl | exact Nat.le_refl _ | (show _ + 1 ≤ 4294967296; omega) | (dsimp only; omega) | (show (_ : Int) ≤ (_ : Int); omega) | (show _ < List.length _; simp only [List.length_set, List.length_append, List.length_take]; omega) | (show wantB _ _ = true; simp; done) | (show wantB _ _ = true; simp; omega) | (show (_ : Bool) = _; simp_all; done) | (exfalso; omega) | refine aRegion_auto (by decide +kernel) ?_ | refine ⟨_, _, REnt.drop ⟨rfl, rfl⟩, ?_⟩ | fail))
                · exfalso
                  rw [eqD] at hb
                  exact q5 ⟨of_decide_eq_true hb.1, by omega⟩
                · refine ⟨k + 1, ⟨by show i < k + 1; omega, by show k + 1 ≤ n; omega, fun j h1 h2 => ?_⟩, by show n - (k + 1) < n - k; omega, Ent.sub rfl ?_⟩
                  · by_cases e : j = k
                    · rw [e]; exact hgood
                    · exact hokk j h1 (by omega)
                  · (repeat' (first | exact trivial | exact rfl | refine And.intro ?_ ?_))
      · have hke : k = n := by omega
        (repeat' (first | exact trivial | exact fun h => h | refine And.intro ?_ ?_ | (intro hb; first | (simp at hb; done) | (simp at hb) | skip) | omega | exact rfl | exact Nat.le_refl _ | (show _ + 1 ≤ 4294967296; omega) | (dsimp only; omega) | (show (_ : Int) ≤ (_ : Int); omega) | (show _ < List.length _; simp only [List.length_set, List.length_append, List.length_take]; omega) | (show wantB _ _ = true; simp; done) | (show wantB _ _ = true; simp; omega) | (show (_ : Bool) = _; simp_all; done) | (exfalso; omega) | refine aRegion_auto (by decide +kernel) ?_ | refine ⟨_, _, REnt.drop ⟨rfl, rfl⟩, ?_⟩ | fail))
        refine ⟨i + 1, ⟨by show i + 1 ≤ n; omega, fun j h1 k' h2 h4 => ?_⟩, by show n - (i + 1) < n - i; omega, Ent.sub rfl ?_⟩
        · by_cases e : j = i
          · rw [e] at h4 ⊢; exact hokk k' h4 (by omega)
          · exact hok j (by omega) k' h2 h4
        · (repeat' (first | exact trivial | exact rfl | refine And.intro ?_ ?_))
    · have hie : i = n := by omega
      have hs : Shp.smp l Shp.bad1 = true := Shp.smp_true.2 fun k hk j hj => hok j (by omega) k (by omega) hj
      rw [hs] at hK
      (repeat' (first | exact trivial | exact fun h => h | refine And.intro ?_ ?_ | (intro hb; first | (simp at hb; done) | (simp at hb) | skip) | omega | exact rfl | exact Nat.le_refl _ | (show _ + 1 ≤ 4294967296; omega) | (dsimp only; omega) | (show (_ : Int) ≤ (_ : Int); omega) | (show _ < List.length _; simp only [List.length_set, List.length_append, List.length_take]; omega) | (show wantB _ _ = true; simp; done) | (show wantB _ _ = true; simp; omega) | (show (_ : Bool) = _; simp_all; done) | (exfalso; omega) | refine aRegion_auto (by decide +kernel) ?_ | refine ⟨_, _, REnt.drop ⟨rfl, rfl⟩, ?_⟩ | fail))
      exact hK
  · have e : smE l = false := by unfold smE; rw [if_neg h0]
    rw [e] at hK
    refine acall_mk (E := envAt (G8 E) 96 0) (envOk _ _ _) Tryd.func11 rfl rfl rfl rfl rfl ?_
    (repeat' (first | exact trivial | exact fun h => h | refine And.intro ?_ ?_ | (intro hb; first | (simp at hb; done) | (simp at hb) | skip) | omega | exact rfl | exact Nat.le_refl _ | (show _ + 1 ≤ 4294967296; omega) | (dsimp only; omega) | (show (_ : Int) ≤ (_ : Int); omega) | (show _ < List.length _; simp only [List.length_set, List.length_append, List.length_take]; omega) | (show wantB _ _ = true; simp; done) | (show wantB _ _ = true; simp; omega) | (show (_ : Bool) = _; simp_all; done) | (exfalso; omega) | refine aRegion_auto (by decide +kernel) ?_ | refine ⟨_, _, REnt.drop ⟨rfl, rfl⟩, ?_⟩ | fail))
    refine acall_frame0 rfl (ring_any E l hl _ ?_)
    obtain h | h | h : ringE l = 1 ∨ ringE l = 2 ∨ ringE l = 3 := by omega
    all_goals
      rw [h] at hK ⊢
      (repeat' (first | exact trivial | exact fun h => h | refine And.intro ?_ ?_ | (intro hb; first | (simp at hb; done) | (simp at hb) | skip) | omega | exact rfl | exact Nat.le_refl _ | (show _ + 1 ≤ 4294967296; omega) | (dsimp only; omega) | (show (_ : Int) ≤ (_ : Int); omega) | (show _ < List.length _; simp only [List.length_set, List.length_append, List.length_take]; omega) | (show wantB _ _ = true; simp; done) | (show wantB _ _ = true; simp; omega) | (show (_ : Bool) = _; simp_all; done) | (exfalso; omega) | refine aRegion_auto (by decide +kernel) ?_ | refine ⟨_, _, REnt.drop ⟨rfl, rfl⟩, ?_⟩ | fail))
      exact hK
end Go.Proofs.YtdbgkhcknaafoaaDoor
