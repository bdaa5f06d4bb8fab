/-
  FieldOpens answers true for every raster and every reach: opened twice is opened once, closed likewise (no condition).
-/
import Derived.Test.YtidhgdipnfhoeaaDoorTie
import Derived.Test.YtidhgdipnfhoeaaDoorCards
import Derived.Test.YtidhgdipnfhoeaaDoorE16
import Derived.Test.YtidhgdipnfhoeaaDoorAe6
import Derived.Test.YtidhgdipnfhoeaaDoorLaw
import Derived.SevenTiedAt
import Derived.LaidMore
import Derived.Lay
import Derived.Deep.Slices
import Derived.Lib.SmallJoins
import Derived.Stop.Joined
namespace Go.Proofs.YtidhgdipnfhoeaaDoor.opens
open Go Go.ChangeShapes Go.WideShapes Go.ChangeAt Go.RowKit Go.Ab
set_option maxRecDepth 100000
theorem own : ownKnob Tryd.prog.godebug = none := by kernel_rfl
theorem laidOut : laidOutB Tryd.prog = true := by kernel_rfl
theorem star : "*" ++ "errors.errorString" = "*errors.errorString" := by decide
theorem names_at (u : TypeId) (h : Tryd.prog.typeName? 3 u = some "*errors.errorString") : u = 102 :=
  typeName_ptr_named (nm := "errors.errorString") (by rw [star]; kernel_rfl) (by kernel_rfl) (by decide) u (by rw [star]; exact h)
theorem cells_es : Tryd.prog.cellsOf 126 = 1 := by kernel_rfl
theorem cells_str : Tryd.prog.cellsOf 9 = 1 := by kernel_rfl
theorem globs {W : World} (h : laidMetH Tryd.prog Rows.fieldOpensRow.laid W) : ∃ E : Errs, ∀ g v, gk (GE E) g = some v → Glo0 W g v := by
  have h' : laidMet Tryd.prog Rows.fieldOpensRow.laid W := h
  obtain ⟨ps, hv, hn, hall⟩ := h'
  obtain ⟨al, h1, h2, h3, _⟩ := laid_errs names_at Tryd.underlying102 Tryd.underlying126 rfl rfl Tryd.underlying9 cells_es cells_str
    [("mercator/api.ErrBound", _), ("mercator/api.ErrShape", _), ("mercator/api.ErrRange", _)] [2, 0, 1] ps hv hn hall (by kernel_rfl)
    (fun g hg => ⟨30, _, by
      have : ([2, 0, 1].all fun g => (Tryd.prog.globals[g]?).map (·.type) == some 30) = true := by kernel_rfl
      simpa using List.all_eq_true.1 this g hg, Tryd.underlying30⟩)
  obtain ⟨a0, a1, a2, rfl⟩ : ∃ a0 a1 a2, al = [a0, a1, a2] := by
    match al, h1 with
    | [a0, a1, a2], _ => exact ⟨a0, a1, a2, rfl⟩
  refine ⟨⟨a0, a0, a1, a2, a0, a0, a0, a0⟩, fun g v hg => ?_⟩
  unfold GE gk at hg
  split at hg
  · rename_i e; subst e; cases hg; exact h3 1 _ _ rfl rfl
  unfold gk at hg
  split at hg
  · rename_i e; subst e; cases hg; exact h3 2 _ _ rfl rfl
  unfold gk at hg
  split at hg
  · rename_i e; subst e; cases hg; exact h3 0 _ _ rfl rfl
  · cases hg
theorem lifted (os : Os) (started : os.Started) (H : Type) (enc : TypeId × Value → H) :
    ReturnsInHanded {} Tryd.checked os 3 .any (fun w args => (Rows.fieldOpensSpec.pre enc Tryd.prog Tryd.f3 [] false w args ∧ laidMetH Tryd.prog Rows.fieldOpensRow.laid w) ∧ sizedMet enc Tryd.prog Tryd.f3 (OpenSpec.ofChange Rows.fieldOpensSpec) false w args)
      (Rows.fieldOpensSpec.post enc Tryd.prog Tryd.f3 false true false false) := by
  refine returnsInHanded_of_change_and (C := Tryd.checked) (X := fun w _ => laidMetH Tryd.prog Rows.fieldOpensRow.laid w) (fun _ _ _ hh h => h.of_heap hh) own started (by kernel_rfl) Tryd.func3
    (ChangeSpec.witness_shaped (enc := enc) (C := Tryd.checked) (os := os) (X := fun w _ => laidMetH Tryd.prog Rows.fieldOpensRow.laid w) false (World.doorLaid Tryd.prog 400 os) #[.pointer none, .int .i64 0] 8 rfl (World.shaped_of_RefB (by kernel_rfl) (by kernel_rfl)) (by kernel_rfl) (by kernel_rfl) (by kernel_rfl)
      (laidMetH_of_parts3 (fuel := 8) (laidMet_of_run' 8 (by kernel_rfl) (by kernel_rfl)) (by kernel_rfl) (by kernel_rfl))) ?_
  intro W base args ds gs before hval0 hW _ _ hL _
  have hval : ∀ (j : Nat) t v, Tryd.f3.params[j]? = some t → args[j]? = some v → Value.okWide Tryd.prog W .any base t v := hval0
  have hW' := hW
  obtain ⟨p, q, hA0, hV, rfl, hfz, hnd⟩ := hW
  have hA : DataW.TrodAll enc Tryd.prog W 0 (fun _ => true) true Tryd.f3.params.toList args.toList ds p := hA0
  obtain ⟨rfl, rfl⟩ := trodVars_none hV
  simp only [List.append_nil] at hW'
  have hAll : ∀ W', Below W.heap.size W W' → DataW.TrodAll enc Tryd.prog W' 0 (fun b => decide (b < W.heap.size)) true Tryd.f3.params.toList args.toList ds p :=
    fun W' hb => trodAll_below laidOut hb _ _ _ _ (by rw [Tryd.params3]; exact of_decide_eq_true (by kernel_rfl)) hA (fun x hx => hW'.lt x hx)
  rw [Tryd.params3] at hA hval
  obtain ⟨v0, vs0, d0, ds0, p0, q0, hargs, rfl, rfl, h0, r0⟩ := trodAll_cons hA
  obtain ⟨v1, vs1, d1, ds1, p1, q1, rfl, rfl, rfl, h1, r1⟩ := trodAll_cons r0
  obtain ⟨rfl, rfl, rfl⟩ := trodAll_nil r1
  obtain rfl : args = #[v0, v1] := by cases args; simp_all
  clear hA0 hval0
  obtain ⟨E, hE⟩ := globs hL
  obtain ⟨r, hr, hrb⟩ := open_val (n := 4) (ty := int) tabOk (by kernel_rfl) (GE E) (hval 1 _ v1 rfl rfl) h1
  have fin : Calls Tryd.prog 3 #[v0, v1] W fun e w' => e = .returned (.bool true) ∧ Below W.heap.size W w' := by
    rcases open_ptr (n := 4) (ty := RasT) tabOk (show tptrTo tab 22 = some 28 by kernel_rfl) (by kernel_rfl) (GE E) (hval 0 _ v0 rfl rfl) h0 with rfl | ⟨a, ha, hab⟩
    · exact acall_true (vs := [.pointer none, v1]) (opens_nil E r) hE ⟨_, _, rfl, (rel_raw rfl).2 rfl, _, _, rfl, hr, rfl⟩
    · have hl : a.2.2.length ≤ 9223372036854775807 := by have := hab.2.2.1; unfold maxLen at this; omega
      exact acall_true (vs := [v0, v1]) (opens_some E a r hl hrb) hE ⟨_, _, rfl, ha, _, _, rfl, hr, rfl⟩
  refine fin.mono fun e W' ⟨he, hg⟩ => ?_
  subst he
  exact ⟨_, rfl, _, _, _, [], _, [], hW', trodAll_mk1 (shut_bool Tryd.underlying4 _), hAll W' hg, rfl, hg.frame _, fun h => by cases h⟩
theorem row : Rows.FieldOpensSaid :=
  OpenClaim.holds_of_wide 3 Tryd.f3 rfl rfl rfl rfl rfl rfl rfl ⟨rfl, rfl, rfl, rfl, rfl⟩ rfl rfl rfl rfl rfl (by kernel_rfl) Tryd.func3 (by kernel_rfl)
    (of_decide_eq_true (by kernel_rfl)) (by unfold Func.isWrapper; first | (rw [if_pos (by decide +kernel)]; kernel_rfl) | (rw [if_neg (by decide +kernel)]; exact ⟨rfl, rfl⟩))
    (fun os started H enc _ => lifted os started H enc)
theorem proved : Rows.FieldOpensCardSaid :=
  Claim7.holds_tied_plain_at .later [] [.sentinel, .sentinel, .sentinel] true (true, "d9ba17cb8c775913e4e79aa0abcab4e8278fdccc2206235b70534f3ffca94fc6") true
    row (fun _ h => by cases h) (by kernel_rfl) (fun _ h => by cases h) fieldOpens_row_tie rfl ⟨rfl, rfl⟩ (by kernel_rfl) rfl
    (fun f fn hf hfn => by
      obtain rfl : f = 3 := Option.some.inj ((show Tryd.prog.funcNamed "mercator/mercatorlaw3.FieldOpens" = some 3 by kernel_rfl).symm.trans hf) |>.symm
      obtain rfl : fn = Tryd.f3 := (Option.some.inj (Tryd.func3.symm.trans hfn)).symm
      exact ⟨by kernel_rfl, fun j t ht => by
        rw [Tryd.params3] at ht
        have hm : t ∈ [22, 3] := by simpa using Array.mem_of_getElem? ht
        have hall : ([22, 3].all fun u => !Tryd.prog.wantsStandIn u) = true := by kernel_rfl
        exact (show Tryd.prog.wantsStandIn t = false by simpa using List.all_eq_true.1 hall t hm)⟩)
    (by kernel_rfl)
end Go.Proofs.YtidhgdipnfhoeaaDoor.opens
