/-
  Arguments read again behind a call that leaves old memory alone; a slice of points opened.
-/
import Derived.Test.YtiflieijbmaocaaDoorM7
import Derived.Test.YtiflieijbmaocaaDoorChecked
import Derived.WalkKit
import Derived.ProofKit
import Derived.OpenShut
import Derived.Carry
import Derived.Test.YtiflieijbmaocaaDoorTie
import Derived.Test.YtiflieijbmaocaaDoorCards
import Derived.SevenTiedAt
import Derived.LaidMore
import Derived.Lay
import Derived.Deep.Slices
import Derived.Lib.SmallJoins
import Derived.Stop.Joined
namespace Go.Proofs.YtiflieijbmaocaaDoor
open Go Go.ChangeShapes Go.WideShapes Go.ChangeAt Go.RowKit
theorem trodAll_below {H : Type} {enc : TypeId × Value → H} {P : Program} (hl : laidOutB P = true) {W W' : World} (hb : Below W.heap.size W W') :
    ∀ (ts : List TypeId) (vs : List Value) (ds : List (DataW H)) (ps : List MemPlace), (∀ t ∈ ts, P.readableRec t = true ∧ t < P.types.size) →
      DataW.TrodAll enc P W 0 (fun _ => true) true ts vs ds ps → (∀ x ∈ ps, x.block < W.heap.size) →
      DataW.TrodAll enc P W' 0 (fun b => decide (b < W.heap.size)) true ts vs ds ps
  | [], [], [], ps, _, h, _ => h
  | [], [], _ :: _, _, _, h, _ => h.elim
  | [], _ :: _, _, _, _, h, _ => h.elim
  | _ :: _, [], _, _, _, h, _ => h.elim
  | _ :: _, _ :: _, [], _, _, h, _ => h.elim
  | t :: ts, v :: vs, d :: ds, ps, hr, h, hlt => by
    obtain ⟨p, q, h1, h2, rfl⟩ := h
    refine ⟨p, q, Below.trod hl (hr t (List.mem_cons_self ..)).1 (hr t (List.mem_cons_self ..)).2 h1 hb (fun x hx => hlt x (List.mem_append.2 (.inl hx))), ?_, rfl⟩
    exact trodAll_below hl hb ts vs ds q (fun t ht => hr t (List.mem_cons_of_mem _ ht)) h2 (fun x hx => hlt x (List.mem_append.2 (.inr hx)))
end Go.Proofs.YtiflieijbmaocaaDoor
/-
  DeskLogs answers true, whatever it is asked (no condition).
-/
namespace Go.Proofs.YtiflieijbmaocaaDoor.deskLogs
open Go Dk Go.ChangeShapes Go.WideShapes Go.ChangeAt Go.RowKit Go.Ab
set_option maxRecDepth 100000
theorem own : ownKnob Tryd.prog.godebug = none := by kernel_rfl
theorem laidOut : laidOutB Tryd.prog = true := by kernel_rfl
theorem lifted (os : Os) (started : os.Started) (H : Type) (enc : TypeId × Value → H) :
    ReturnsInHanded {} Tryd.checked os 4 .any (fun w args => (Rows.deskLogsSpec.pre enc Tryd.prog Tryd.f4 [] false w args ∧ laidMetH Tryd.prog Rows.deskLogsRow.laid w) ∧ sizedMet enc Tryd.prog Tryd.f4 (OpenSpec.ofChange Rows.deskLogsSpec) false w args)
      (Rows.deskLogsSpec.post enc Tryd.prog Tryd.f4 false true false false) := by
  refine returnsInHanded_of_change_and (C := Tryd.checked) (X := fun w _ => laidMetH Tryd.prog Rows.deskLogsRow.laid w) (fun _ _ _ hh h => h.of_heap hh) own started (by kernel_rfl) Tryd.func4
    (ChangeSpec.witness_shaped (enc := enc) (C := Tryd.checked) (os := os) (X := fun w _ => laidMetH Tryd.prog Rows.deskLogsRow.laid w) false (World.doorLaid Tryd.prog 400 os) #[.pointer none, .slice none 0 0, .slice none 0 0, .int .i64 0] 8 rfl (World.shaped_of_RefB (by kernel_rfl) (by kernel_rfl)) (by kernel_rfl) (by kernel_rfl) (by kernel_rfl)
      (laidMetH_of_parts3 (fuel := 8) (laidMet_of_run' 8 (by kernel_rfl) (by kernel_rfl)) (by kernel_rfl) (by kernel_rfl))) ?_
  intro W base args ds gs before hval0 hW _ _ hL _
  have hval : ∀ (j : Nat) t v, Tryd.f4.params[j]? = some t → args[j]? = some v → Value.okWide Tryd.prog W .any base t v := hval0
  have hW' := hW
  obtain ⟨p, q, hA0, hV, rfl, hfz, hnd⟩ := hW
  have hA : DataW.TrodAll enc Tryd.prog W 0 (fun _ => true) true Tryd.f4.params.toList args.toList ds p := hA0
  obtain ⟨rfl, rfl⟩ := trodVars_none hV
  simp only [List.append_nil] at hW'
  have hAll : ∀ W', Below W.heap.size W W' → DataW.TrodAll enc Tryd.prog W' 0 (fun b => decide (b < W.heap.size)) true Tryd.f4.params.toList args.toList ds p :=
    fun W' hb => trodAll_below laidOut hb _ _ _ _ (by rw [Tryd.params4]; exact of_decide_eq_true (by kernel_rfl)) hA (fun x hx => hW'.lt x hx)
  rw [Tryd.params4] at hA hval
  obtain ⟨v0, vs0, d0, ds0, p0, q0, hargs, rfl, rfl, h0, t0⟩ := trodAll_cons hA
  obtain ⟨v1, vs1, d1, ds1, p1, q1, rfl, rfl, rfl, h1, t1⟩ := trodAll_cons t0
  obtain ⟨v2, vs2, d2, ds2, p2, q2, rfl, rfl, rfl, h2, t2⟩ := trodAll_cons t1
  obtain ⟨v3, vs3, d3, ds3, p3, q3, rfl, rfl, rfl, h3, t3⟩ := trodAll_cons t2
  obtain ⟨rfl, rfl, rfl⟩ := trodAll_nil t3
  obtain rfl : args = #[v0, v1, v2, v3] := by cases args; simp_all
  clear hA0 hval0
  obtain ⟨E, hN, hE⟩ := globs8 hL rfl rfl
  have o0 := open_ptr (n := 4) (ty := RasT) tabOk (show tptrTo tab 22 = some 35 by kernel_rfl) (by kernel_rfl) (G8 E) (hval 0 _ v0 rfl rfl) h0
  obtain ⟨y1, r1, b1⟩ := open_val (n := 6) (ty := .list EdT) tabOk (by kernel_rfl) (G8 E) (hval 1 _ v1 rfl rfl) h1
  obtain ⟨y2, r2, b2⟩ := open_val (n := 3) (ty := LB) tabOk (by kernel_rfl) (G8 E) (hval 2 _ v2 rfl rfl) h2
  obtain ⟨y3, r3, b3⟩ := open_val (n := 2) (ty := int) tabOk (by kernel_rfl) (G8 E) (hval 3 _ v3 rfl rfl) h3
  have fin : Calls Tryd.prog 4 #[v0, v1, v2, v3] W fun e w' => e = .returned (.bool true) ∧ Below W.heap.size W w' := by
    have hl1 : y1.length ≤ 9223372036854775807 := by have := b1.1; unfold maxLen at this; omega
    have hyt : byt y2 := fun c hc => by
      obtain ⟨i, hi, rfl⟩ := List.getElem_of_mem hc
      have h0 : IntKind.u8.min = 0 := by decide
      have h1 : IntKind.u8.max = 255 := by decide
      obtain ⟨q1, q2⟩ : IntKind.u8.min ≤ y2[i] ∧ y2[i] ≤ IntKind.u8.max := b2.2 i hi
      rw [h0] at q1
      rw [h1] at q2
      exact ⟨q1, Int.lt_of_le_of_lt q2 (by decide)⟩
    rcases o0 with rfl | ⟨y0, r0, b0⟩
    · exact acall_true (vs := [.pointer none, v1, v2, v3]) (logs_nil E y1 y2 y3 hl1 _ rfl) hE ⟨_, _, rfl, (rel_raw rfl).2 rfl, _, _, rfl, r1, _, _, rfl, r2, _, _, rfl, r3, rfl⟩
    · have hl0 : y0.2.2.length ≤ 9223372036854775807 := by have := b0.2.2.1; unfold maxLen at this; omega
      exact acall_true (vs := [v0, v1, v2, v3]) (logs_some hN y0 y1 y2 y3 hl0 hl1 hyt _ rfl) hE ⟨_, _, rfl, r0, _, _, rfl, r1, _, _, rfl, r2, _, _, rfl, r3, rfl⟩
  refine fin.mono fun e W' ⟨he, hg⟩ => ?_
  subst he
  exact ⟨_, rfl, _, _, _, [], _, [], hW', trodAll_mk1 (shut_bool Tryd.underlying4 _), hAll W' hg, rfl, hg.frame _, fun h => by cases h⟩
theorem row : Rows.DeskLogsSaid :=
  OpenClaim.holds_of_wide 4 Tryd.f4 rfl rfl rfl rfl rfl rfl rfl ⟨rfl, rfl, rfl, rfl, rfl⟩ rfl rfl rfl rfl rfl (by kernel_rfl) Tryd.func4 (by kernel_rfl)
    (of_decide_eq_true (by kernel_rfl)) (by unfold Func.isWrapper; first | (rw [if_pos (by decide +kernel)]; kernel_rfl) | (rw [if_neg (by decide +kernel)]; exact ⟨rfl, rfl⟩))
    (fun os started H enc _ => lifted os started H enc)
theorem proved : Rows.DeskLogsCardSaid :=
  Claim7.holds_tied_plain_at .later [] [.handle, .sentinel, .sentinel, .sentinel, .sentinel, .sentinel, .sentinel, .sentinel, .sentinel] true (true, "0b77add1c1b93e57d96dd9853abf68044746bcea1445f44073bcb65261dd1821") true
    row (fun _ h => by cases h) (by kernel_rfl) (fun _ h => by cases h) deskLogs_row_tie rfl ⟨rfl, rfl⟩ (by kernel_rfl) rfl
    (fun f fn hf hfn => by
      obtain rfl : f = 4 := Option.some.inj ((show Tryd.prog.funcNamed "mercator/mercatorlaw5.DeskLogs" = some 4 by kernel_rfl).symm.trans hf) |>.symm
      obtain rfl : fn = Tryd.f4 := (Option.some.inj (Tryd.func4.symm.trans hfn)).symm
      exact ⟨by kernel_rfl, fun j t ht => by
        rw [Tryd.params4] at ht
        have hm : t ∈ [22, 23, 30, 3] := by simpa using Array.mem_of_getElem? ht
        have hall : ([22, 23, 30, 3].all fun u => !Tryd.prog.wantsStandIn u) = true := by kernel_rfl
        exact (show Tryd.prog.wantsStandIn t = false by simpa using List.all_eq_true.1 hall t hm)⟩)
    (by kernel_rfl)
end Go.Proofs.YtiflieijbmaocaaDoor.deskLogs
