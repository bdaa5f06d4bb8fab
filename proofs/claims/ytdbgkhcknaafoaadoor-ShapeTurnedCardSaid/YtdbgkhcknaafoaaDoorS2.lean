/-
  Contracts: IndexFunc and ContainsFunc of great points, ring, RingError, Area.
-/
import Derived.Test.YtdbgkhcknaafoaaDoorS1
import Derived.Laws.StructEq
namespace Go.Proofs.YtdbgkhcknaafoaaDoor
open Go Go.RowKit Shp
set_option maxRecDepth 100000
theorem below_drewN {B : Nat} {a w : World} (h : Below B a w) (n : Nat) : Below B a (w.drewN n) := ⟨h.os, h.tape, h.output, h.size, h.block⟩
theorem grt_false {p : Sp} (h : Pt p) : grt p.1 p.2 = false := by
  obtain ⟨a, b, c, d⟩ := h
  unfold grt; simp; omega
theorem grt_true {p : Sp} (h : ¬ Pt p) : grt p.1 p.2 = true := by
  unfold Pt at h; unfold grt; simp; omega
theorem IndexFunc_no (g off c : Nat) (l : List Sp) (hn : l.length ≤ 4000) (hp : Pts l) (w : World) (hc : At w g off l) (hg : g < w.heap.size) :
    Calls Tryd.prog 34 #[.slice (some ⟨g, off, none⟩) l.length c, .func (.func 18) #[] #[]] w fun e w' => e = .returned (.int .i64 (-1)) ∧ Below w.heap.size w w' := by
  obtain ⟨n, hnl⟩ : ∃ n, n = l.length := ⟨_, rfl⟩
  have HL := Lib.hid hnl
  rw [← hnl] at hn ⊢
  clear hnl
  have HP := Lib.hid hp; clear hp
  have HC := Lib.hid hc; clear hc
  go_enter Tryd.func34, Tryd.ntmps34
  go_wp2
  go_loopw [8] (fun i wr => ∃ k : Nat, k ≤ n ∧ i = .int .i64 (k : Int) ∧ Below w.heap.size w wr) (fun i _ => n - (intOf i).toNat)
  case atStart => exact ⟨0, by omega, rfl, Below.refl _ _⟩
  case round =>
    obtain ⟨k, hk, rfl, hb⟩ := hrel
    have HB := Lib.hid hb
    have hz := hb.size
    clear hb
    by_cases hlt : k < n
    · obtain ⟨c1, c2⟩ := HC.out.below HB.out hg k (by rw [← HL.out]; exact hlt)
      have hf := Lib.hid (grt_false (HP.out k (by rw [← HL.out]; exact hlt)))
      have hgw : g < wr.heap.size := by omega
      generalize at_ l k = a at *
      go_wp2_with (go_at_call 18; refine (great_any _ _ _).mono ?_; rintro e w1 ⟨rfl, hb1⟩; rw [hf.out]; have HB1 := Lib.hid hb1; clear hb1)
      go_roundw
      case rel => exact ⟨k + 1, by omega, by go_num, HB.out.trans (HB1.out.mono hz)⟩
      case measure => simp [intOf]; omega
    · obtain rfl : k = n := by omega
      go_wp2
      go_ret
      exact ⟨rfl, HB.out⟩
theorem ContainsFunc_no (g off c : Nat) (l : List Sp) (hn : l.length ≤ 4000) (hp : Pts l) (w : World) (hc : At w g off l) (hg : g < w.heap.size) :
    Calls Tryd.prog 27 #[.slice (some ⟨g, off, none⟩) l.length c, .func (.func 18) #[] #[]] w fun e w' => e = .returned (.bool false) ∧ Below w.heap.size w w' := by
  have H := Lib.hid (IndexFunc_no g off c l hn hp w hc hg)
  clear hp hc hn
  generalize l.length = n at *
  go_enter Tryd.func27, Tryd.ntmps27
  go_wp2_with (go_at_call 34; refine H.out.mono ?_; rintro e w1 ⟨rfl, hb⟩)
  go_ret
  exact ⟨rfl, hb⟩
def Good (l : List Sp) (i : Nat) : Prop := Pt (at_ l i) ∧ at_ l i ≠ at_ l (nx l i)
def Ring (l : List Sp) : Prop := 3 ≤ l.length ∧ l.length ≤ 4000 ∧ ∀ i, i < l.length → Good l i
theorem Ring.pts {l : List Sp} (h : Ring l) : Pts l := fun i hi => (h.2.2 i hi).1
theorem spot_eql (w : World) (a b : Sp) : (binOp .eql 24 (.agg #[.int .i64 a.1, .int .i64 a.2]) (.agg #[.int .i64 b.1, .int .i64 b.2])).run Tryd.prog w = .ok (.bool (a.1 == b.1 && a.2 == b.2)) w := by
  have hS : Tryd.prog.underlying 24 = some (.struct (Tryd.prog.fieldsOf 24)) := by kernel_rfl
  have hp : Tryd.prog.stoodInHeld 24 = false := by kernel_rfl
  rw [run_eql_struct, show (10000 : Nat) = 9999 + 1 from rfl, run_equalIn_agg w 9999 24 _ _ hS hp]
  have u3 := Tryd.underlying3
  have a3 := Tryd.isAgg3
  have z3 := Tryd.sizeOf3
  simp only [Program.fieldsOf, Tryd.underlying24]
  go_simp
  by_cases h1 : a.fst = b.fst <;> by_cases h2 : a.snd = b.snd <;> simp [h1, h2]
theorem spot_ne (w : World) {a b : Sp} (h : a ≠ b) : (binOp .eql 24 (.agg #[.int .i64 a.1, .int .i64 a.2]) (.agg #[.int .i64 b.1, .int .i64 b.2])).run Tryd.prog w = .ok (.bool false) w := by
  have e : (a.1 == b.1 && a.2 == b.2) = false := by
    cases h1 : (a.1 == b.1 && a.2 == b.2)
    · rfl
    · simp at h1
      exact absurd (Prod.ext h1.1 h1.2) h
  rw [spot_eql, e]
set_option maxHeartbeats 400000 in
theorem ring_yes (g off c : Nat) (l : List Sp) (hr : Ring l) (w : World) (hc : At w g off l) (hg : g < w.heap.size) :
    Calls Tryd.prog 16 #[.slice (some ⟨g, off, none⟩) l.length c] w fun e w' => e = .returned .nilIface ∧ Below w.heap.size w w' := by
  have H := Lib.hid (fun (w1 : World) (hb : Below w.heap.size w w1) => ContainsFunc_no g off c l hr.2.1 hr.pts w1 (hc.below hb hg) (by have := hb.size; omega))
  have HR := Lib.hid hr
  have h3 := hr.1
  have hn := hr.2.1
  clear hr
  obtain ⟨n, hnl⟩ : ∃ n, n = l.length := ⟨_, rfl⟩
  have HL := Lib.hid hnl
  rw [← hnl] at h3 hn H ⊢
  clear hnl
  have HC := Lib.hid hc; clear hc
  go_enter Tryd.func16, Tryd.ntmps16
  go_wp2_with (go_at_call 27; refine (H.out _ (Below.refl _ _)).mono ?_; rintro e w1 ⟨rfl, hb⟩; have HB0 := Lib.hid hb; clear hb)
  go_loopw [19] (fun i wr => ∃ k : Nat, k ≤ n ∧ i = .int .i64 (k : Int) ∧ Below w.heap.size w wr) (fun i _ => n - (intOf i).toNat)
  case atStart => exact ⟨0, by omega, rfl, HB0.out⟩
  case round =>
    obtain ⟨k, hk, rfl, hb⟩ := hrel
    have HB := Lib.hid hb
    have hz := hb.size
    clear hb
    by_cases hlt : k < n
    · have hA := HC.out.below HB.out hg
      have hnx : nx l k < n := by unfold nx; rw [← HL.out]; exact Nat.mod_lt _ (by omega)
      obtain ⟨c1, c2⟩ := hA k (by rw [← HL.out]; exact hlt)
      obtain ⟨d1, d2⟩ := hA (nx l k) (by rw [← HL.out]; exact hnx)
      have hm : ((k : Int) + 1) % (n : Int) = ((nx l k : Nat) : Int) := by unfold nx; rw [← HL.out, Int.natCast_emod]; rfl
      have hm0 : (0 : Int) ≤ ((nx l k : Nat) : Int) := by omega
      have hm1 : ((nx l k : Nat) : Int) < (n : Int) := by omega
      have hgw : g < wr.heap.size := by omega
      have hne := Lib.hid (HR.out.2.2 k (by rw [← HL.out]; exact hlt)).2
      generalize nx l k = j at *
      generalize at_ l k = a at *
      generalize at_ l j = b at *
      clear hA
      have hw1 : IntKind.i64.wrap ((k : Int) + 1) = (k : Int) + 1 := by rw [IntKind.wrap_i64]; omega
      have hn0 : (n : Int) ≠ 0 := by omega
      go_wp2
      have hn1 : n ≠ 0 := by omega
      have hm2 : ((k : Int) + 1).tmod (n : Int) = ((j : Nat) : Int) := by rw [Int.tmod_eq_emod_of_nonneg (by omega)]; exact hm
      have hq : ∀ w', (binOp .eql 24 (.agg #[.int .i64 a.1, .int .i64 a.2]) (.agg #[.int .i64 b.1, .int .i64 b.2])).run Tryd.prog w' = .ok (.bool false) w' := fun w' => spot_ne w' hne.out
      have hgd : Tryd.prog.eqGuardType Tryd.prog.depth 24 = false := by kernel_rfl
      go_quiet (fail)
      go_wp2
      go_roundw
      case rel => exact ⟨k + 1, by omega, by go_num, below_drewN (HB.out.alloc hz _) _⟩
      case measure => simp [intOf]; omega
    · obtain rfl : k = n := by omega
      go_wp2
      go_ret
      exact ⟨rfl, HB.out⟩
end Go.Proofs.YtdbgkhcknaafoaaDoor
