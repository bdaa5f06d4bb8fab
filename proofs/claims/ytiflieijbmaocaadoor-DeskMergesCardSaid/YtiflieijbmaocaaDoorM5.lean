/-
  slices.Insert of one edit: the walk where it goes between others, by hand.
-/
import Derived.Test.YtiflieijbmaocaaDoorM4
import Derived.Deep.RegionLaw
import Derived.Lib.Walk
import Derived.Lib.SliceRun
import Derived.Lib.AppendZerosOnto
import Derived.Lib.Overlaps
import Derived.Laws.Externs
import Derived.Laws.CopyRow
import Derived.Laws.NewBlocks
import Derived.Sort.Walk0
import Derived.Lib.Bytealg
import Derived.Test.YtiflieijbmaocaaDoorChecked
import Derived.WalkKit
import Derived.LaidEql
import Derived.Stop.Asserts
import Derived.RowKitTokens
import Derived.Below
namespace Go.Proofs.YtiflieijbmaocaaDoor.insK
open Go Go.Ab Go.RowKit Go.Lib
set_option maxRecDepth 100000
variable {P : Program}
theorem run_copy_n (w : World) (dT sT ty elem : TypeId) (g o dLen dCap : Nat) (a : Addr) (sLen sCap : Nat) (cur : Array Value) (t : TypeId) (cs : List Value) (i : TypeInfo)
    (hu : P.underlying dT = some (.slice elem)) (hq : P.info? elem = some i)
    (hg : w.heap[g]? = some (.cells cur t (0, 0))) (hn : cs.length = Nat.min sLen dLen * i.size)
    (hsrc : ∀ j v, cs[j]? = some v → w.cell? (a.add j) = some v) (hfit : o + cs.length ≤ cur.size) (h1 : ∀ v ∈ cs, v.oneCell' = true) :
    (Builtin.copy_ #[dT, sT] ty #[.slice (some ⟨g, o, none⟩) dLen dCap, .slice (some a) sLen sCap]).run P w =
      .ok (goInt (Nat.min sLen dLen)) (w.setRow g (setRange cur.toList o cs).toArray) := by
  have hl := run_loadCells_list (P := P) w a cs hsrc
  have hst := run_storeCells_at P g o t cs 0 cur w hg (by simpa using hfit) h1
  simp only [Nat.add_zero] at hst
  simp [Builtin.copy_, run_underlying hu, Builtin.lenOf, Builtin.firstCells, sizeOf, typeInfo, hq, ← hn, hl, hst, setRange]
/-- the operation 'copy', where its run is known -/
theorem wp_copy_run (w : World) {o : Oper} {a : Act} {K : Act → World → Prop} {Q : Exit → Act → World → Prop} (d s : Operand) (t t' : TypeId)
    (ho : o.op = .call { callee := .builtin .copy, args := #[d, s], argTypes := #[t, t'] }) (v u : Value) (hd : a.eval d = v) (hs : a.eval s = u) {v' : Value} {w' : World}
    (hr : (Builtin.copy_ #[t, t'] o.type #[v, u]).run P w = .ok v' w') (h : K (a.put o.dst v') w') : o.wp P a w K Q := by
  unfold Oper.wp execOp
  simp only [ho, resolve, invoke, builtin, Sem.run_bind, Sem.run_pure, Result.andThen_ok, List.map_toArray, List.map_cons, List.map_nil, hd, hs, hr]
  exact h
theorem wpList_copy_run (w : World) {ops : Array Oper} {rest : List Oper} {o : Oper} {a : Act} {Q : Exit → Act → World → Prop} (hgd : o.guard = none) (d s : Operand) (t t' : TypeId)
    (ho : o.op = .call { callee := .builtin .copy, args := #[d, s], argTypes := #[t, t'] }) (v u : Value) (hd : a.eval d = v) (hs : a.eval s = u) {v' : Value} {w' : World}
    (hr : (Builtin.copy_ #[t, t'] o.type #[v, u]).run P w = .ok v' w') (h : wpList P ops Q rest (a.put o.dst v') w') : wpList P ops Q (o :: rest) a w :=
  wpList_plain hgd fun _ hK => wp_copy_run w d s t t' ho v u hd hs hr (hK _ _ h)
theorem step_copy_run {ops : Array Oper} {o : Oper} {a : Act} {w : World} {K : Act → World → Prop} {Q : Exit → Act → World → Prop} {E : Prop}
    (hg : o.guard = none) (d x : Operand) (dT sT : TypeId) (hop : o.op = Op.call { callee := Callee.builtin Builtin.copy, args := #[d, x], argTypes := #[dT, sT] })
    (v u : Value) (hd : a.eval d = v) (hx : a.eval x = u) {v' : Value} {w' : World} (hr : (Builtin.copy_ #[dT, sT] o.type #[v, u]).run P w = .ok v' w') (hK : K (a.put o.dst v') w') :
    if Region.wanted o (yielded ops a.tmps) = true then Oper.wp P o a w K Q else E := by
  have hw : Region.wanted o (yielded ops a.tmps) = true := by simp [Region.wanted, hg]
  rw [if_pos hw]
  exact wp_copy_run w d x dT sT hop v u hd hx hr hK
theorem overlaps_no (w : World) (vb vc b o lb cb : Nat) (vcur cur : Array Value) (vt t : TypeId) (hne : vb ≠ b) (hv : w.heap[vb]? = some (.cells vcur vt (0, 0))) (hb : w.heap[b]? = some (.cells cur t (0, 0))) (hc : cur.size ≠ 0) :
    (callFunc 63 #[.slice (some ⟨vb, 0, none⟩) 1 vc, .slice (some ⟨b, o, none⟩) lb cb]).run Tryd.prog w = .ok (.value (.bool false)) w := by
  rw [run_callFunc_extern Tryd.func63 (by kernel_rfl) (by kernel_rfl) (by kernel_rfl) (e := Extern.SlicesOverlaps.overlaps #[61, 61] #[4]) (by kernel_rfl)]
  rw [Lib.run_overlaps_apart w 61 4 59 (by kernel_rfl) 4 (fun w => by kernel_rfl) ⟨vb, 0, none⟩ ⟨b, o, none⟩ 1 vc lb cb hne vt t vcur.size cur.size (by simp [World.shape?, hv]) (by simp [World.shape?, hb]) hc (by simp [World.frozen?, hv]) (by simp [World.frozen?, hv])]
  rfl
/-- the walk where there is room -/
theorem ins_shift_walk (b n i cap vb vc : Nat) (w W1 W2 : World) (hi : i < n) (hroom : n + 1 ≤ cap) (hn : n ≤ 4294967296)
    (hov : ∀ lb cb, (callFunc 63 #[.slice (some ⟨vb, 0, none⟩) 1 vc, .slice (some ⟨b, (i + 1) * 4, none⟩) lb cb]).run Tryd.prog w = .ok (.value (.bool false)) w)
    (hcp1 : ∀ ty dc sc, (Builtin.copy_ #[61, 61] ty #[.slice (some ⟨b, (i + 1) * 4, none⟩) (n - i) dc, .slice (some ⟨b, i * 4, none⟩) (n + 1 - i) sc]).run Tryd.prog w.drew = .ok (goInt (Nat.min (n + 1 - i) (n - i))) W1)
    (hcp2 : ∀ ty dc, (Builtin.copy_ #[61, 61] ty #[.slice (some ⟨b, i * 4, none⟩) (n + 1 - i) dc, .slice (some ⟨vb, 0, none⟩) 1 vc]).run Tryd.prog W1 = .ok (goInt (Nat.min 1 (n + 1 - i))) W2) :
    Calls Tryd.prog 50 #[.slice (some ⟨b, 0, none⟩) n cap, .int .i64 i, .slice (some ⟨vb, 0, none⟩) 1 vc] w fun e w' =>
      e = .returned (.slice (some ⟨b, 0, none⟩) (n + 1) cap) ∧ w' = W2 := by
  have hz2 : ¬ ((i : Int) = (n : Int)) := by omega
  have hw1 : IntKind.i64.wrap ((i : Int) + 1) = (i : Int) + 1 := by rw [IntKind.wrap_i64]; omega
  have hw2 : IntKind.i64.wrap ((n : Int) + 1) = (n : Int) + 1 := by rw [IntKind.wrap_i64]; omega
  have hb1 : (0 : Int) ≤ (i : Int) + 1 := by omega
  have hin : i ≤ n := by omega
  have htn : ((i : Int) + 1).toNat = i + 1 := by omega
  have hb2 : ¬ (cap = i + 1) := by omega
  have hb3 : (i : Int) ≤ (n : Int) + 1 := by omega
  have hb4 : ¬ (cap = i) := by omega
  go_enter Tryd.func50, Tryd.ntmps50
  go_wp2_with (simp only [hov])
  go_region_law (refine step_copy_run rfl _ _ 61 61 rfl _ _ (by simp [Act.eval, Act.put]) (by simp [Act.eval, Act.put]) (hcp1 _ _ _) ?_)
  go_wp2_with (at_builtin; refine wpList_copy_run _ rfl _ _ 61 61 rfl _ _ rfl rfl (hcp2 _ _) ?_)
  go_ret
  exact ⟨rfl, rfl⟩
/-- the walk where there is no room -/
theorem ins_grow_walk (b n i cap vb vc N G : Nat) (w W0 W1 W2 : World) (hi : i < n) (hnc : n ≤ cap) (hroom : cap < n + 1) (hn : n ≤ 4294967296) (hG : n + 1 ≤ G)
    (hap : ∀ ty, (Builtin.append_ #[61, 3] ty #[.slice (some ⟨b, 0, none⟩) i cap, .int .i64 ((n : Int) + 1 - (i : Int))]).run Tryd.prog w = .ok (.slice (some ⟨N, 0, none⟩) (n + 1) G) W0)
    (hcp1 : ∀ ty dc, (Builtin.copy_ #[61, 61] ty #[.slice (some ⟨N, i * 4, none⟩) (n + 1 - i) dc, .slice (some ⟨vb, 0, none⟩) 1 vc]).run Tryd.prog W0 = .ok (goInt (Nat.min 1 (n + 1 - i))) W1)
    (hcp2 : ∀ ty dc sc, (Builtin.copy_ #[61, 61] ty #[.slice (some ⟨N, (i + 1) * 4, none⟩) (n - i) dc, .slice (some ⟨b, i * 4, none⟩) (n - i) sc]).run Tryd.prog W1.drew = .ok (goInt (Nat.min (n - i) (n - i))) W2) :
    Calls Tryd.prog 50 #[.slice (some ⟨b, 0, none⟩) n cap, .int .i64 i, .slice (some ⟨vb, 0, none⟩) 1 vc] w fun e w' =>
      e = .returned (.slice (some ⟨N, 0, none⟩) (n + 1) G) ∧ w' = W2 := by
  have hz2 : ¬ ((i : Int) = (n : Int)) := by omega
  have hz3 : (cap : Int) < (n : Int) + 1 := by omega
  have hw1 : IntKind.i64.wrap ((i : Int) + 1) = (i : Int) + 1 := by rw [IntKind.wrap_i64]; omega
  have hw2 : IntKind.i64.wrap ((n : Int) + 1) = (n : Int) + 1 := by rw [IntKind.wrap_i64]; omega
  have hw3 : IntKind.i64.wrap ((n : Int) + 1 - (i : Int)) = (n : Int) + 1 - (i : Int) := by rw [IntKind.wrap_i64]; omega
  have hb1 : (0 : Int) ≤ (i : Int) + 1 := by omega
  have hin : i ≤ n := by omega
  have htn : ((i : Int) + 1).toNat = i + 1 := by omega
  have hb2 : ¬ (G = i + 1) := by omega
  have hb3 : (i : Int) ≤ (n : Int) + 1 := by omega
  have hb4 : ¬ (G = i) := by omega
  have hb5 : ¬ (cap = i) := by omega
  have hb6 : i ≤ cap := by omega
  go_enter Tryd.func50, Tryd.ntmps50
  go_wp2_with (first
    | (at_builtin; refine Lib.wpList_append_run _ rfl _ _ _ _ rfl _ _ rfl rfl _ _ (hap _) ?_)
    | (at_builtin; refine wpList_copy_run _ rfl _ _ 61 61 rfl _ _ rfl rfl (hcp1 _ _) ?_))
  go_region_law (refine step_copy_run rfl _ _ 61 61 rfl _ _ (by simp [Act.eval, Act.put]) (by simp [Act.eval, Act.put]) (hcp2 _ _ _) ?_)
  go_wp2
  go_ret
  exact ⟨rfl, rfl⟩
end Go.Proofs.YtiflieijbmaocaaDoor.insK
/-
  slices.Insert of one edit.
-/
namespace Go.Proofs.YtiflieijbmaocaaDoor
open Go Go.Ab Go.RowKit
set_option maxRecDepth 100000
abbrev EdT : Ty := .pair (.int .i64) (.pair (.int .i64) (.pair (.int .i64) .str))
namespace insK
theorem len_of {I : Nat → Prop} {w : World} {xs : List EdT.den} {L : List Value} (h : Cells I w EdT xs L) : L.length = xs.length * 4 := h.1
theorem take_app {α : Type} {L R : List α} {m : Nat} (h : m ≤ L.length) : (L ++ R).take m = L.take m := List.take_append_of_le_length h
theorem mul4 {a b : Nat} (h : a ≤ b) : a * 4 ≤ b * 4 := Nat.mul_le_mul_right 4 h
/-- what stands in the row after the first writing, and after the second one -/
theorem x1 {L R V : List Value} {n k : Nat} (hL : L.length = n * 4) (hk : k < n) : ∃ R1, setRange (L ++ R) ((k + 1) * 4) (L.drop (k * 4)) = (L.take ((k + 1) * 4) ++ L.drop (k * 4)) ++ R1 ∧
    (V.length = 4 → setRange (setRange (L ++ R) ((k + 1) * 4) (L.drop (k * 4))) (k * 4) V = (L.take (k * 4) ++ (V ++ L.drop (k * 4))) ++ R1) := by
  refine ⟨_, by unfold setRange; rw [take_app (by rw [hL]; exact mul4 hk)], fun hV => ?_⟩
  unfold setRange
  rw [take_app (L := L) (R := R) (by rw [hL]; exact mul4 hk)]
  have hl : (L.take ((k + 1) * 4)).length = (k + 1) * 4 := by rw [List.length_take, hL]; exact Nat.min_eq_left (mul4 hk)
  rw [List.append_assoc (L.take ((k + 1) * 4)), take_app (by rw [hl]; omega), List.take_take, Nat.min_eq_left (by omega), hV, show k * 4 + 4 = (L.take ((k + 1) * 4)).length by rw [hl]; omega, List.drop_left]
  simp only [List.append_assoc]
theorem cells_heap {W : World} {bb : Nat} {cs : Array Value} {tt : TypeId} (j : Nat) (h : W.heap[bb]? = some (.cells cs tt (0, 0))) : W.cell? ⟨bb, j, none⟩ = cs.toList[j]? := by simp [World.cell?, h]
theorem info : ∃ ti z, (Tryd.prog).info? 59 = some ti ∧ ti.zero = some z ∧ ti.size = 4 ∧ ti.bytes = 40 ∧ z.cells.size = 4 := ⟨_, _, rfl, rfl, rfl, rfl, rfl⟩
theorem und : (Tryd.prog).underlying 61 = some (.slice 59) := rfl
theorem undI : (Tryd.prog).underlying 3 = some (.int .i64) := rfl
end insK
open insK in
/-- where it goes between others -/
theorem insert_mid (G : List (Nat × Value)) (xs : List EdT.den) (n k : Nat) (x : EdT.den) (hn : xs.length = n) (hk : k < n) (hs : n ≤ 100000) (K : AV → List AO → Prop) (hK : K (.ref 2 0 (n + 1)) [.dead, .row EdT [x], .row EdT (xs.take k ++ x :: xs.drop k)]) :
    ACall Tryd.prog G 50 [.ref 0 0 n, .fz (.int .i64) (k : Int), .ref 1 0 1] [.row EdT xs, .row EdT [x]] K := by
  refine ⟨trivial, fun c H hA hG vs hv => .inl ⟨⟨_, Tryd.func50, rfl, rfl⟩, ?_⟩⟩
  obtain ⟨v0, r0, rfl, h0, v1, r1, rfl, h1, v2, r2, rfl, h2, h3⟩ := hv
  unfold RelL at h3
  subst h3
  obtain rfl := rel_int.1 h1
  have hA0 : c.A[0]? = some (.row EdT xs) := by rw [hA]; rfl
  have hA1 : c.A[1]? = some (.row EdT [x]) := by rw [hA]; rfl
  have hAl : c.A.length = 2 := by rw [hA]; rfl
  unfold Rel at h0 h2
  rw [hA0] at h0
  rw [hA1] at h2
  simp only at h0 h2
  rcases h0 with ⟨b, cap, cs, et, ad, hr, rfl, ha, hcap, hh, hsz⟩ | ⟨_, _, hz, _⟩
  rotate_left
  · omega
  rcases h2 with ⟨vb, vc, vcs, vet, vad, hvr, rfl, hva, hvcap, hvh, hvsz⟩ | ⟨_, _, hz, _⟩
  rotate_left
  · omega
  obtain rfl := ha (by omega)
  obtain rfl := hva (by omega)
  have hE4 : EdT.size = 4 := rfl
  rw [hE4] at hsz hvsz
  simp only [Nat.zero_add] at hsz hvsz
  have ho := H.obj 0 _ hA0
  have hvo := H.obj 1 _ hA1
  rw [hr] at ho
  rw [hvr] at hvo
  rcases row_iff ho with ⟨q, _⟩ | ⟨b', cs', et', L, R, q1, q2, q3, q4⟩
  · cases q
  cases q1
  rw [hh] at q2; cases q2
  rcases row_iff hvo with ⟨q, _⟩ | ⟨b', cs', et', V, R', p1, p2, p3, p4⟩
  · cases q
  cases p1
  rw [hvh] at p2; cases p2
  have hl0 : c.live 0 := ⟨_, hA0, rfl⟩
  have hl1 : c.live 1 := ⟨_, hA1, rfl⟩
  have hne : vb ≠ b := fun e => by subst e; exact absurd (H.inj 0 1 vb hl0 hl1 hr hvr) (by omega)
  have hL : L.length = n * 4 := by rw [len_of q4, hn]
  have hV : V.length = 4 := by rw [len_of p4]; rfl
  have hVt : vcs.toList.take 4 = V := by rw [p3, ← hV, List.take_left]
  have o1L : ∀ v ∈ L, v.oneCell' = true := fun v hv => ocell_oneCell (q4.ocell v hv)
  have o1V : ∀ v ∈ V, v.oneCell' = true := fun v hv => ocell_oneCell (p4.ocell v hv)
  have hLc : L.length ≤ cs.size := by rw [← Array.length_toList, q3]; simp
  obtain ⟨ti, z, hti, htz, hsz4, hby, hzc⟩ := insK.info
  have hdl : (L.drop (k * 4)).length = (n - k) * 4 := by rw [List.length_drop, hL]; omega
  obtain ⟨R1, X1, X2⟩ := insK.x1 (R := R) (V := V) hL hk
  have X2 := X2 hV
  simp only [Nat.zero_mul]
  by_cases hroom : n + 1 ≤ cap
  · -- there is room
    have hx1 : (setRange cs.toList ((k + 1) * 4) (L.drop (k * 4))).toArray.size = cs.size := setRange_size (by rw [hdl]; omega)
    have E1 := ext_draw H c.w.drew rfl ⟨rfl, rfl, rfl⟩
    let c1 : Cx := { c with w := c.w.drew }
    have hA10 : c1.A[0]? = some (.row EdT xs) := hA0
    have E2 := ext_wr (c := c1) (o' := .row EdT (xs.take (k + 1) ++ xs.drop k)) E1.2 hA10 rfl hr hh hx1
    have hX1' : (setRange cs.toList ((k + 1) * 4) (L.drop (k * 4))).toArray.toList = (L.take ((k + 1) * 4) ++ L.drop (k * 4)) ++ R1 := by rw [q3]; exact X1
    have hh1 : (c1.wr 0 b (setRange cs.toList ((k + 1) * 4) (L.drop (k * 4))).toArray (.row EdT (xs.take (k + 1) ++ xs.drop k))).w.heap[b]? = some (.cells (setRange cs.toList ((k + 1) * 4) (L.drop (k * 4))).toArray et (0, 0)) := setRow_heap c.w.drew b _ _ et (0, 0) hh
    have H2 := hr_wr (c := c1) (o' := .row EdT (xs.take (k + 1) ++ xs.drop k)) E1.2 hA10 rfl hr hh hx1 (row_mk hh1 hX1' ((((q4.take (k + 1) (by omega)).append (q4.drop k)).ext E1.1).ext E2))
    generalize hc2 : c1.wr 0 b (setRange cs.toList ((k + 1) * 4) (L.drop (k * 4))).toArray (.row EdT (xs.take (k + 1) ++ xs.drop k)) = c2 at *
    have hA2 : c2.A = [.row EdT (xs.take (k + 1) ++ xs.drop k), .row EdT [x]] := by rw [← hc2]; show c.A.set 0 _ = _; rw [hA]; rfl
    have hr2 : c2.ρ 0 = some b := by rw [← hc2]; exact hr
    have hA20 : c2.A[0]? = some (.row EdT (xs.take (k + 1) ++ xs.drop k)) := by rw [hA2]; rfl
    have hx2 : (setRange (setRange cs.toList ((k + 1) * 4) (L.drop (k * 4))) (k * 4) V).toArray.size = (setRange cs.toList ((k + 1) * 4) (L.drop (k * 4))).toArray.size := setRange_size (cur := (setRange cs.toList ((k + 1) * 4) (L.drop (k * 4))).toArray) (by rw [hx1, hV]; omega)
    have E3 := ext_wr (c := c2) (o' := .row EdT (xs.take k ++ x :: xs.drop k)) H2 hA20 rfl hr2 hh1 hx2
    have hX2' : (setRange (setRange cs.toList ((k + 1) * 4) (L.drop (k * 4))) (k * 4) V).toArray.toList = (L.take (k * 4) ++ (V ++ L.drop (k * 4))) ++ R1 := by rw [q3]; exact X2
    have hh2 : (c2.wr 0 b (setRange (setRange cs.toList ((k + 1) * 4) (L.drop (k * 4))) (k * 4) V).toArray (.row EdT (xs.take k ++ x :: xs.drop k))).w.heap[b]? = some (.cells (setRange (setRange cs.toList ((k + 1) * 4) (L.drop (k * 4))) (k * 4) V).toArray et (0, 0)) := setRow_heap c2.w b _ _ et (0, 0) hh1
    have hcl : Cells c.I c.w EdT (xs.take k ++ x :: xs.drop k) (L.take (k * 4) ++ (V ++ L.drop (k * 4))) := (q4.take k (by omega)).append (p4.append (q4.drop k))
    have H3 := hr_wr (c := c2) (o' := .row EdT (xs.take k ++ x :: xs.drop k)) H2 hA20 rfl hr2 hh1 hx2 (row_mk hh2 hX2' (((hcl.ext E1.1).ext E2).ext E3))
    generalize hc3 : c2.wr 0 b (setRange (setRange cs.toList ((k + 1) * 4) (L.drop (k * 4))) (k * 4) V).toArray (.row EdT (xs.take k ++ x :: xs.drop k)) = c3 at *
    have hA3 : c3.A = [.row EdT (xs.take k ++ x :: xs.drop k), .row EdT [x]] := by rw [← hc3]; show c2.A.set 0 _ = _; rw [hA2]; rfl
    have hA30 : c3.A[0]? = some (.row EdT (xs.take k ++ x :: xs.drop k)) := by rw [hA3]; rfl
    have hr3 : c3.ρ 0 = some b := by rw [← hc3]; exact hr2
    have hl3 : c3.live 0 := ⟨_, hA30, rfl⟩
    have E4 := ext_mv (c := c3) (o := .row EdT (xs.take k ++ x :: xs.drop k)) hl3
    have H4 := hr_mv (o := .row EdT (xs.take k ++ x :: xs.drop k)) H3 hl3 (H3.obj 0 _ hA30)
    have hA4 : (c3.mv 0 (.row EdT (xs.take k ++ x :: xs.drop k))).A = [.dead, .row EdT [x], .row EdT (xs.take k ++ x :: xs.drop k)] := by show c3.A.set 0 .dead ++ _ = _; rw [hA3]; rfl
    have hl3' : c3.A.length = 2 := by rw [hA3]; rfl
    have cell1 : ∀ j v, (L.drop (k * 4))[j]? = some v → c.w.drew.cell? ((⟨b, k * 4, none⟩ : Addr).add j) = some v := fun j v hj => by
      rw [plain_add, cells_heap (W := c.w.drew) _ hh, q3]
      rw [List.getElem?_drop] at hj
      rw [List.getElem?_append_left (get_lt hj)]; exact hj
    have hvh2 : c2.w.heap[vb]? = some (.cells vcs vet (0, 0)) := by rw [← hc2]; exact (setRow_other c.w.drew b vb _ hne).trans hvh
    have cell2 : ∀ j v, V[j]? = some v → c2.w.cell? ((⟨vb, 0, none⟩ : Addr).add j) = some v := fun j v hj => by
      rw [plain_add, cells_heap _ hvh2, p3, Nat.zero_add]
      rw [List.getElem?_append_left (get_lt hj)]; exact hj
    have hw2 : c2.w = c.w.drew.setRow b (setRange cs.toList ((k + 1) * 4) (L.drop (k * 4))).toArray := by rw [← hc2]; rfl
    have hw3 : c3.w = c2.w.setRow b (setRange (setRange cs.toList ((k + 1) * 4) (L.drop (k * 4))) (k * 4) V).toArray := by rw [← hc3]; rfl
    have hh1' : c2.w.heap[b]? = some (.cells (setRange cs.toList ((k + 1) * 4) (L.drop (k * 4))).toArray et (0, 0)) := hh1
    refine (ins_shift_walk b n k cap vb vc c.w c2.w c3.w hk hroom (by omega) (fun lb cb => overlaps_no c.w vb vc b _ lb cb vcs cs vet et hne hvh hh (by omega)) (fun ty dc sc => ?_) (fun ty dc => ?_)).mono fun e w' ⟨e1, e2⟩ => ⟨_, c3.mv 0 (.row EdT (xs.take k ++ x :: xs.drop k)), .ref 2 0 (n + 1), e1, e2.symm, ((E1.1.trans E2).trans E3).trans E4, H4, ?_, ?_⟩
    · rw [hw2]
      exact run_copy_n c.w.drew _ _ ty 59 b _ _ dc _ _ sc cs et (L.drop (k * 4)) ti und hti hh (by rw [hdl, hsz4]; simp only [Nat.min_def]; split <;> omega) cell1 (by rw [hdl]; omega) (fun v hv => o1L v (List.mem_of_mem_drop hv))
    · rw [hw3]
      exact run_copy_n c2.w _ _ ty 59 b _ _ dc _ _ vc _ et V ti und hti hh1' (by rw [hV, hsz4]; simp only [Nat.min_def]; split <;> omega) cell2 (Nat.le_trans (by rw [hV]; omega) (Nat.le_of_eq hx1.symm)) o1V
    · unfold Rel
      rw [hA4]
      refine .inl ⟨b, cap, _, et, _, ?_, rfl, fun _ => by simp, hroom, hh2, ?_⟩
      · have := mv_ρn (c := c3) (tok := 0) (o := .row EdT (xs.take k ++ x :: xs.drop k))
        rw [hl3'] at this
        exact this.trans hr3
      · show (0 + cap) * 4 ≤ _
        rw [hx2, hx1]; omega
    · rw [hA4]; exact hK
  · -- a new row
    obtain ⟨W, hWd⟩ : ∃ W, W = c.w.drew := ⟨_, rfl⟩
    have Ek := ext_kill c 0
    have Hk := hr_kill H 0
    have Ed := ext_draw Hk (c.kill 0).w.drew rfl ⟨rfl, rfl, rfl⟩
    generalize hc1 : ({ c.kill 0 with w := (c.kill 0).w.drew } : Cx) = c1 at *
    have hA1' : c1.A = [.dead, .row EdT [x]] := by rw [← hc1]; show c.A.set 0 _ = _; rw [hA]; rfl
    have hw1 : c1.w = c.w.drew := by rw [← hc1]; rfl
    have hl1' : c1.A.length = 2 := by rw [hA1']; rfl
    have hsum : k + (n + 1 - k) = n + 1 := by omega
    obtain ⟨Gc, hGc⟩ : ∃ Gc, Gc = grownCap c.w (n + 1) cap 59 := ⟨_, rfl⟩
    have hGn : n + 1 ≤ Gc := by rw [hGc]; unfold grownCap Question.cut; simp
    obtain ⟨Y0, hY0⟩ : ∃ Y0 : Array Value, Y0 = (L.take (k * 4)).toArray ++ Builtin.zeroCells z.cells (n + 1 - k) ++ Builtin.zeroCells z.cells (Gc - (n + 1)) := ⟨_, rfl⟩
    have htk : (L.take (k * 4)).length = k * 4 := by rw [List.length_take, hL]; exact Nat.min_eq_left (mul4 (by omega))
    have hYs : Y0.size = Gc * 4 := by
      rw [hY0, Array.size_append, Array.size_append, zeroCells_len, zeroCells_len, hzc, List.size_toArray, htk]
      omega
    have hY0l : Y0.toList = L.take (k * 4) ++ (Builtin.zeroCells z.cells (n + 1 - k) ++ Builtin.zeroCells z.cells (Gc - (n + 1))).toList := by rw [hY0]; simp
    have hN : c1.w.heap.size = c.w.heap.size := by rw [hw1]; rfl
    have hold : (Builtin.firstCells ti.size k (.slice (some ⟨b, 0, none⟩) k cap)).run Tryd.prog c.w.drew = .ok (L.take (k * 4)).toArray c.w.drew := by
      rcases Nat.eq_zero_or_pos k with h0 | h0
      · subst h0
        have : L.take (0 * 4) = [] := by simp
        rw [this]; simp [Builtin.firstCells, loadCells, loadCellsFrom]
      · have := run_loadCells_list (P := Tryd.prog) c.w.drew ⟨b, 0, none⟩ (L.take (k * 4)) (fun j u hj => by
          rw [plain_add, cells_heap (W := c.w.drew) _ hh, q3, Nat.zero_add]
          have hlt := get_lt hj
          rw [htk] at hlt
          rw [List.getElem?_take, if_pos hlt] at hj
          rw [List.getElem?_append_left (by omega)]; exact hj)
        rw [htk] at this
        simp only [Builtin.firstCells, hsz4]; exact this
    have hap := fun ty => Lib.run_append_grow_zeros (P := Tryd.prog) c.w 61 3 ty 59 ti z .i64 .i64 und undI hti htz (some ⟨b, 0, none⟩) k cap (L.take (k * 4)) hold (n + 1 - k) (by omega) (by omega) (by omega) (by omega) (by rw [hby]; omega) (by
      rw [hsum, hby]
      have := nextslicecap_le (show cap < n + 1 by omega)
      omega)
    rw [hsum, ← hGc, ← hY0] at hap
    -- the new row, three times
    have E0 := ext_new Ed.2 Y0 59 (.row EdT (xs.take k))
    have EE := Ek.trans Ed.1
    have H0 := hr_new (o := .row EdT (xs.take k)) Ed.2 (cs := Y0) (et := 59) (row_mk new_heap_new hY0l (((q4.take k (by omega)).ext EE).ext E0))
    have hA2 : (c1.new Y0 59 (.row EdT (xs.take k))).A = [.dead, .row EdT [x], .row EdT (xs.take k)] := by show c1.A ++ _ = _; rw [hA1']; rfl
    have hr2 : (c1.new Y0 59 (.row EdT (xs.take k))).ρ 2 = some c.w.heap.size := by
      have := new_ρ_new (c := c1) (cs := Y0) (et := 59) (o := .row EdT (xs.take k))
      rw [hl1', hN] at this; exact this
    have hh0 : (c1.new Y0 59 (.row EdT (xs.take k))).w.heap[c.w.heap.size]? = some (.cells Y0 59 (0, 0)) := by
      rw [← hN]; exact new_heap_new
    have hw2 : (c1.new Y0 59 (.row EdT (xs.take k))).w = c.w.drew.alloc (.cells Y0 59) := by show c1.w.alloc _ = _; rw [hw1]
    have hob : ∀ (bb : Nat) (cs : Array Value) (tt : TypeId), c.w.heap[bb]? = some (Obj.cells cs tt (0, 0)) → (c1.new Y0 59 (.row EdT (xs.take k))).w.heap[bb]? = some (.cells cs tt (0, 0)) := fun bb cs tt h => by
      rw [new_heap_old (by rw [hw1]; exact some_lt h), hw1]; exact h
    generalize hc2 : c1.new Y0 59 (.row EdT (xs.take k)) = c2 at *
    have hA22 : c2.A[2]? = some (.row EdT (xs.take k)) := by rw [hA2]; rfl
    -- the edit
    have hy1 : (setRange Y0.toList (k * 4) V).toArray.size = Y0.size := setRange_size (by rw [hYs, hV]; omega)
    have E3 := ext_wr (c := c2) (o' := .row EdT (xs.take k ++ [x])) H0 hA22 rfl hr2 hh0 hy1
    obtain ⟨R2, hY1⟩ : ∃ R2, setRange Y0.toList (k * 4) V = (L.take (k * 4) ++ V) ++ R2 := ⟨_, by
      unfold setRange
      rw [hY0l, take_app (by rw [htk]; exact Nat.le_refl _), List.take_of_length_le (by rw [htk]; exact Nat.le_refl _)]⟩
    have hh1 : (c2.wr 2 c.w.heap.size (setRange Y0.toList (k * 4) V).toArray (.row EdT (xs.take k ++ [x]))).w.heap[c.w.heap.size]? = some (.cells (setRange Y0.toList (k * 4) V).toArray 59 (0, 0)) := setRow_heap c2.w _ _ _ _ (0, 0) hh0
    have H3 := hr_wr (c := c2) (o' := .row EdT (xs.take k ++ [x])) H0 hA22 rfl hr2 hh0 hy1 (row_mk hh1 hY1 ((((q4.take k (by omega)).append p4).ext EE).ext E0 |>.ext E3))
    have hob3 : ∀ (bb : Nat) (cs : Array Value) (tt : TypeId), c.w.heap[bb]? = some (Obj.cells cs tt (0, 0)) → (c2.wr 2 c.w.heap.size (setRange Y0.toList (k * 4) V).toArray (.row EdT (xs.take k ++ [x]))).w.heap[bb]? = some (.cells cs tt (0, 0)) := fun bb cs tt h => by
      refine (setRow_other c2.w _ bb _ ?_).trans (hob bb cs tt h)
      have := some_lt h; omega
    have hw3 : (c2.wr 2 c.w.heap.size (setRange Y0.toList (k * 4) V).toArray (.row EdT (xs.take k ++ [x]))).w = c2.w.setRow c.w.heap.size (setRange Y0.toList (k * 4) V).toArray := rfl
    have hA3 : (c2.wr 2 c.w.heap.size (setRange Y0.toList (k * 4) V).toArray (.row EdT (xs.take k ++ [x]))).A = [.dead, .row EdT [x], .row EdT (xs.take k ++ [x])] := by show c2.A.set 2 _ = _; rw [hA2]; rfl
    have hr3 : (c2.wr 2 c.w.heap.size (setRange Y0.toList (k * 4) V).toArray (.row EdT (xs.take k ++ [x]))).ρ 2 = some c.w.heap.size := hr2
    generalize hc3 : c2.wr 2 c.w.heap.size (setRange Y0.toList (k * 4) V).toArray (.row EdT (xs.take k ++ [x])) = c3 at *
    -- what stood behind
    have E4 := ext_draw H3 c3.w.drew rfl ⟨rfl, rfl, rfl⟩
    have hA32 : ({ c3 with w := c3.w.drew } : Cx).A[2]? = some (.row EdT (xs.take k ++ [x])) := by show c3.A[2]? = _; rw [hA3]; rfl
    have hy2 : (setRange (setRange Y0.toList (k * 4) V) ((k + 1) * 4) (L.drop (k * 4))).toArray.size = (setRange Y0.toList (k * 4) V).toArray.size := setRange_size (cur := (setRange Y0.toList (k * 4) V).toArray) (by rw [hy1, hYs, hdl]; omega)
    have E5 := ext_wr (c := { c3 with w := c3.w.drew }) (o' := .row EdT (xs.take k ++ x :: xs.drop k)) E4.2 hA32 rfl hr3 hh1 hy2
    have hpl : (L.take (k * 4) ++ V).length = (k + 1) * 4 := by rw [List.length_append, htk, hV]; omega
    obtain ⟨R3, hY2⟩ : ∃ R3, setRange (setRange Y0.toList (k * 4) V) ((k + 1) * 4) (L.drop (k * 4)) = (L.take (k * 4) ++ (V ++ L.drop (k * 4))) ++ R3 := ⟨_, by
      rw [hY1]
      unfold setRange
      rw [take_app (by rw [hpl]; exact Nat.le_refl _), List.take_of_length_le (by rw [hpl]; exact Nat.le_refl _), List.append_assoc (L.take (k * 4)) V]⟩
    have hh2 : (({ c3 with w := c3.w.drew } : Cx).wr 2 c.w.heap.size (setRange (setRange Y0.toList (k * 4) V) ((k + 1) * 4) (L.drop (k * 4))).toArray (.row EdT (xs.take k ++ x :: xs.drop k))).w.heap[c.w.heap.size]? = some (.cells (setRange (setRange Y0.toList (k * 4) V) ((k + 1) * 4) (L.drop (k * 4))).toArray 59 (0, 0)) := setRow_heap c3.w.drew _ _ _ _ (0, 0) hh1
    have hcl : Cells c.I c.w EdT (xs.take k ++ x :: xs.drop k) (L.take (k * 4) ++ (V ++ L.drop (k * 4))) := (q4.take k (by omega)).append (p4.append (q4.drop k))
    have H5 := hr_wr (c := { c3 with w := c3.w.drew }) (o' := .row EdT (xs.take k ++ x :: xs.drop k)) E4.2 hA32 rfl hr3 hh1 hy2 (row_mk hh2 hY2 (((((hcl.ext EE).ext E0).ext E3).ext E4.1).ext E5))
    have hA5 : (({ c3 with w := c3.w.drew } : Cx).wr 2 c.w.heap.size (setRange (setRange Y0.toList (k * 4) V) ((k + 1) * 4) (L.drop (k * 4))).toArray (.row EdT (xs.take k ++ x :: xs.drop k))).A = [.dead, .row EdT [x], .row EdT (xs.take k ++ x :: xs.drop k)] := by show c3.A.set 2 _ = _; rw [hA3]; rfl
    have hvh2 : c2.w.heap[vb]? = some (.cells vcs vet (0, 0)) := hob _ _ _ hvh
    have hbh3 : c3.w.drew.heap[b]? = some (.cells cs et (0, 0)) := hob3 _ _ _ hh
    have cell1 : ∀ j v, V[j]? = some v → c2.w.cell? ((⟨vb, 0, none⟩ : Addr).add j) = some v := fun j v hj => by
      rw [plain_add, cells_heap _ hvh2, p3, Nat.zero_add]
      rw [List.getElem?_append_left (get_lt hj)]; exact hj
    have cell2 : ∀ j v, (L.drop (k * 4))[j]? = some v → c3.w.drew.cell? ((⟨b, k * 4, none⟩ : Addr).add j) = some v := fun j v hj => by
      rw [plain_add, cells_heap _ hbh3, q3]
      rw [List.getElem?_drop] at hj
      rw [List.getElem?_append_left (get_lt hj)]; exact hj
    refine (ins_grow_walk b n k cap vb vc c.w.heap.size Gc c.w c2.w c3.w _ hk hcap (by omega) (by omega) hGn (fun ty => ?_) (fun ty dc => ?_) (fun ty dc sc => ?_)).mono fun e w' ⟨e1, e2⟩ => ⟨_, ({ c3 with w := c3.w.drew } : Cx).wr 2 c.w.heap.size (setRange (setRange Y0.toList (k * 4) V) ((k + 1) * 4) (L.drop (k * 4))).toArray (.row EdT (xs.take k ++ x :: xs.drop k)), .ref 2 0 (n + 1), e1, e2.symm, ((((EE.trans E0).trans E3).trans E4.1).trans E5), H5, ?_, ?_⟩
    · rw [hw2, show (n : Int) + 1 - (k : Int) = ((n + 1 - k : Nat) : Int) by omega]
      exact hap ty
    · rw [hw3]
      exact run_copy_n c2.w _ _ ty 59 _ _ _ dc _ _ vc _ _ V ti und hti hh0 (by rw [hV, hsz4]; simp only [Nat.min_def]; split <;> omega) cell1 (by rw [hYs, hV]; omega) o1V
    · exact run_copy_n c3.w.drew _ _ ty 59 _ _ _ dc _ _ sc _ _ (L.drop (k * 4)) ti und hti hh1 (by rw [hdl, hsz4]; simp only [Nat.min_def]; split <;> omega) cell2 (Nat.le_trans (by rw [hdl, hYs]; omega) (Nat.le_of_eq hy1.symm)) (fun v hv => o1L v (List.mem_of_mem_drop hv))
    · unfold Rel
      rw [hA5]
      refine .inl ⟨c.w.heap.size, Gc, _, _, _, hr3, rfl, fun _ => by simp, hGn, hh2, ?_⟩
      rw [hy2, hy1, hYs]; show (0 + Gc) * 4 ≤ _; omega
    · rw [hA5]; exact hK
end Go.Proofs.YtiflieijbmaocaaDoor
/-
  Desks, plainly: edits in order; heights.
-/
namespace Go.Proofs.YtiflieijbmaocaaDoor.Dk
open Go
/-- an edit: cell, height, time, by whom -/
abbrev E := Int × Int × Int × ByteArray
/-- does one stand ahead of the other? -/
def ah (x y : E) : Bool := if x.1 ≠ y.1 then decide (x.1 < y.1) else if x.2.2.1 ≠ y.2.2.1 then decide (x.2.2.1 < y.2.2.1) else if (x.2.2.2.toList == y.2.2.2.toList) = false then Op.bytesLess x.2.2.2.toList y.2.2.2.toList else decide (x.2.1 < y.2.1)
def eqE (x y : E) : Bool := (x.1 == y.1) && ((x.2.1 == y.2.1) && ((x.2.2.1 == y.2.2.1) && (x.2.2.2.toList == y.2.2.2.toList)))
theorem toList_inj {a b : ByteArray} (h : a.toList = b.toList) : a = b := by
  rw [ByteArray.toList_eq, ByteArray.toList_eq] at h
  cases a; cases b
  simpa using h
theorem eqE_iff {x y : E} : eqE x y = true ↔ x = y := by
  obtain ⟨a, b, c, d⟩ := x
  obtain ⟨a', b', c', d'⟩ := y
  unfold eqE
  simp only [Bool.and_eq_true, beq_iff_eq]
  constructor
  · rintro ⟨rfl, rfl, rfl, h⟩
    rw [toList_inj h]
  · intro h
    cases h
    exact ⟨rfl, rfl, rfl, rfl⟩
theorem bl_irr (a : List UInt8) : Op.bytesLess a a = false := by
  rw [bytesLess_eq, decide_eq_false_iff_not]; exact List.lt_irrefl a
theorem bl_asymm {a b : List UInt8} (h : Op.bytesLess a b = true) : Op.bytesLess b a = false := by
  rw [bytesLess_eq, decide_eq_true_iff] at h
  rw [bytesLess_eq, decide_eq_false_iff_not]
  exact fun c => List.lt_irrefl a (List.lt_trans h c)
theorem bl_trans {a b c : List UInt8} (h : Op.bytesLess a b = true) (h' : Op.bytesLess b c = true) : Op.bytesLess a c = true := by
  rw [bytesLess_eq, decide_eq_true_iff] at *
  exact List.lt_trans h h'
theorem bl_tri {a b : List UInt8} (h : Op.bytesLess a b = false) (h' : Op.bytesLess b a = false) : a = b := by
  rw [bytesLess_eq, decide_eq_false_iff_not] at h h'
  exact List.le_antisymm (List.not_lt.1 h') (List.not_lt.1 h)
theorem ah_iff {x y : E} : ah x y = true ↔ x.1 < y.1 ∨ (x.1 = y.1 ∧ (x.2.2.1 < y.2.2.1 ∨ (x.2.2.1 = y.2.2.1 ∧ (Op.bytesLess x.2.2.2.toList y.2.2.2.toList = true ∨ (x.2.2.2 = y.2.2.2 ∧ x.2.1 < y.2.1))))) := by
  unfold ah
  by_cases h1 : x.1 = y.1
  · rw [if_neg (fun c => c h1)]
    by_cases h2 : x.2.2.1 = y.2.2.1
    · rw [if_neg (fun c => c h2)]
      by_cases h3 : x.2.2.2 = y.2.2.2
      · rw [h3, if_neg (by simp), bl_irr]
        simp [h1, h2]
      · have : (x.2.2.2.toList == y.2.2.2.toList) = false := by
          rw [beq_eq_false_iff_ne]; exact fun c => h3 (toList_inj c)
        rw [this, if_pos rfl]
        simp [h1, h2, h3]
    · rw [if_pos h2, decide_eq_true_eq]
      simp [h1, h2]
  · rw [if_pos h1, decide_eq_true_eq]
    simp [h1]
theorem ah_irr (x : E) : ah x x = false := by
  rw [Bool.eq_false_iff]
  intro h
  rw [ah_iff, bl_irr] at h
  simp at h
theorem ah_asymm {x y : E} (h : ah x y = true) : ah y x = false := by
  rw [Bool.eq_false_iff]
  intro h'
  rw [ah_iff] at h h'
  rcases h with h | ⟨h1, h | ⟨h2, h | ⟨h3, h⟩⟩⟩ <;> rcases h' with h' | ⟨k1, h' | ⟨k2, h' | ⟨k3, h'⟩⟩⟩ <;> try omega
  · rw [bl_asymm h] at h'; cases h'
  · rw [k3, bl_irr] at h; cases h
  · rw [h3, bl_irr] at h'; cases h'
theorem ah_trans {x y z : E} (h : ah x y = true) (h' : ah y z = true) : ah x z = true := by
  rw [ah_iff] at *
  rcases h with h | ⟨h1, h | ⟨h2, h | ⟨h3, h⟩⟩⟩ <;> rcases h' with h' | ⟨k1, h' | ⟨k2, h' | ⟨k3, h'⟩⟩⟩
  all_goals first
    | (left; omega)
    | (refine .inr ⟨by omega, .inl (by omega)⟩)
    | skip
  · exact .inr ⟨by omega, .inr ⟨by omega, .inl (bl_trans h h')⟩⟩
  · exact .inr ⟨by omega, .inr ⟨by omega, .inl (k3 ▸ h)⟩⟩
  · exact .inr ⟨by omega, .inr ⟨by omega, .inl (h3 ▸ h')⟩⟩
  · exact .inr ⟨by omega, .inr ⟨by omega, .inr ⟨h3.trans k3, by omega⟩⟩⟩
theorem ah_tri {x y : E} (h : ah x y = false) (h' : ah y x = false) : x = y := by
  rw [Bool.eq_false_iff, Ne, ah_iff] at h h'
  obtain ⟨a, b, c, d⟩ := x
  obtain ⟨a', b', c', d'⟩ := y
  simp only [not_or, not_and] at h h'
  have h1 : a = a' := by omega
  subst h1
  have h2 := (h.2 rfl).1
  have h3 := (h'.2 rfl).1
  have h4 : c = c' := by omega
  subst h4
  have h5 := ((h.2 rfl).2 rfl)
  have h6 := ((h'.2 rfl).2 rfl)
  have h7 : d = d' := toList_inj (bl_tri (by simpa using h5.1) (by simpa using h6.1))
  subst h7
  have h8 := h5.2 rfl
  have h9 := h6.2 rfl
  have : b = b' := by omega
  rw [this]
/-! ### lists in order -/
def Srt (L : List E) : Prop := L.Pairwise fun x y => ah x y = true
/-- where an edit stands, or would -/
def pos (L : List E) (e : E) : Nat := (L.takeWhile fun x => ah x e).length
theorem pos_le (L : List E) (e : E) : pos L e ≤ L.length := by
  unfold pos
  induction L with
  | nil => simp
  | cons x L ih => rw [List.takeWhile_cons]; split <;> simp <;> omega
theorem pos_cons (x : E) (L : List E) (e : E) : pos (x :: L) e = if ah x e = true then pos L e + 1 else 0 := by
  unfold pos
  rw [List.takeWhile_cons]
  split <;> simp
theorem pos_ahead {L : List E} {e : E} {i : Nat} (h : i < pos L e) (hi : i < L.length) : ah L[i] e = true := by
  induction L generalizing i with
  | nil => simp at hi
  | cons x L ih =>
    rw [pos_cons] at h
    by_cases c : ah x e = true
    · rw [if_pos c] at h
      cases i with
      | zero => exact c
      | succ i => exact ih (by omega) (by simpa using hi)
    · rw [if_neg c] at h; omega
theorem pos_not {L : List E} (hs : Srt L) {e : E} {i : Nat} (h : pos L e ≤ i) (hi : i < L.length) : ah L[i] e = false := by
  induction L generalizing i with
  | nil => simp at hi
  | cons x L ih =>
    rw [pos_cons] at h
    obtain ⟨h1, h2⟩ := List.pairwise_cons.1 hs
    by_cases c : ah x e = true
    · rw [if_pos c] at h
      cases i with
      | zero => omega
      | succ i => exact ih h2 (by omega) (by simpa using hi)
    · have cf : ah x e = false := by simpa using c
      cases i with
      | zero => exact cf
      | succ i =>
        have hi' : i < L.length := by simpa using hi
        have hx := h1 L[i] (List.getElem_mem _)
        show ah L[i] e = false
        rw [Bool.eq_false_iff]
        intro k
        exact c (ah_trans hx k)
theorem pos_has {L : List E} (hs : Srt L) {e : E} : e ∈ L ↔ ∃ h : pos L e < L.length, L[pos L e] = e := by
  constructor
  · intro hm
    obtain ⟨i, hi, rfl⟩ := List.getElem_of_mem hm
    have h1 : ¬ i < pos L L[i] := fun c => by have := pos_ahead c hi; rw [ah_irr] at this; cases this
    have h2 : pos L L[i] < L.length := by omega
    refine ⟨h2, ?_⟩
    rcases Nat.lt_or_ge (pos L L[i]) i with c | c
    · have := (List.pairwise_iff_getElem.1 hs) _ _ h2 hi c
      rw [pos_not hs (Nat.le_refl _) h2] at this; cases this
    · have : pos L L[i] = i := by omega
      simp only [this]
  · rintro ⟨h, e'⟩
    rw [← e']; exact List.getElem_mem _
def ins (L : List E) (e : E) : List E := L.take (pos L e) ++ e :: L.drop (pos L e)
theorem ins_srt {L : List E} (hs : Srt L) {e : E} (hn : e ∉ L) : Srt (ins L e) := by
  unfold ins Srt
  rw [List.pairwise_append, List.pairwise_cons]
  have hnot : ∀ y ∈ L.drop (pos L e), ah e y = true := by
    intro y hy
    obtain ⟨i, hi, rfl⟩ := List.getElem_of_mem hy
    rw [List.getElem_drop]
    rw [List.length_drop] at hi
    have h1 := pos_not hs (e := e) (show pos L e ≤ pos L e + i by omega) (by omega)
    rw [← Bool.not_eq_false]
    intro h2
    exact hn (by rw [ah_tri h2 h1]; exact List.getElem_mem _)
  refine ⟨hs.sublist (List.take_sublist _ _), ⟨hnot, hs.sublist (List.drop_sublist _ _)⟩, fun x hx y hy => ?_⟩
  have hxe : ah x e = true := by
    obtain ⟨i, hi, rfl⟩ := List.getElem_of_mem hx
    rw [List.getElem_take]
    rw [List.length_take] at hi
    exact pos_ahead (by omega) (by omega)
  rcases List.mem_cons.1 hy with rfl | hy
  · exact hxe
  · exact ah_trans hxe (hnot y hy)
def hasE (L : List E) (e : E) : Bool := L.any fun x => eqE x e
theorem hasE_iff {L : List E} {e : E} : hasE L e = true ↔ e ∈ L := by
  unfold hasE
  rw [List.any_eq_true]
  constructor
  · rintro ⟨x, hx, h⟩
    rw [eqE_iff.1 h] at hx; exact hx
  · exact fun h => ⟨e, h, eqE_iff.2 rfl⟩
/-- an edit put among the others -/
def putL (L : List E) (e : E) : List E := if hasE L e = true then L else ins L e
theorem putL_srt {L : List E} (hs : Srt L) (e : E) : Srt (putL L e) := by
  unfold putL
  split
  · exact hs
  · rename_i h; exact ins_srt hs (fun c => h (hasE_iff.2 c))
theorem ins_len (L : List E) (e : E) : (ins L e).length = L.length + 1 := by
  have := pos_le L e
  unfold ins
  simp
  omega
theorem ins_mem {L : List E} {e x : E} : x ∈ ins L e ↔ x = e ∨ x ∈ L := by
  unfold ins
  rw [List.mem_append, List.mem_cons]
  constructor
  · rintro (h | h | h)
    · exact .inr (List.mem_of_mem_take h)
    · exact .inl h
    · exact .inr (List.mem_of_mem_drop h)
  · rintro (h | h)
    · exact .inr (.inl h)
    · rw [← List.take_append_drop (pos L e) L, List.mem_append] at h
      rcases h with h | h
      · exact .inl h
      · exact .inr (.inr h)
/-! ### heights -/
def nw (first : List Int) (L : List E) : List Int := L.foldl (fun a x => a.set x.1.toNat x.2.1) first
theorem nw_len (first : List Int) (L : List E) : (nw first L).length = first.length := by
  unfold nw
  induction L generalizing first with
  | nil => rfl
  | cons x L ih => rw [List.foldl_cons, ih, List.length_set]
theorem nw_app (first : List Int) (A B : List E) : nw first (A ++ B) = nw (nw first A) B := by
  unfold nw; rw [List.foldl_append]
theorem nw_cons (first : List Int) (x : E) (B : List E) : nw first (x :: B) = nw (first.set x.1.toNat x.2.1) B := rfl
theorem nw_set (a : List Int) (c : Nat) (h : Int) : ∀ B : List E, (∀ y ∈ B, y.1.toNat ≠ c) → nw (a.set c h) B = (nw a B).set c h
  | [], _ => rfl
  | x :: B, hb => by
    rw [nw_cons, nw_cons, List.set_comm _ _ (fun e => hb x (List.mem_cons_self ..) e.symm), nw_set (a.set x.1.toNat x.2.1) c h B (fun y hy => hb y (List.mem_cons_of_mem _ hy))]
/-- what an edit changes -/
theorem nw_ins {first : List Int} {L : List E} (hs : Srt L) (hc : ∀ x ∈ L, 0 ≤ x.1) {e : E} (he : 0 ≤ e.1) :
    nw first (ins L e) = if (∃ h : pos L e < L.length, L[pos L e].1 = e.1) then nw first L else (nw first L).set e.1.toNat e.2.1 := by
  have hsp : nw first L = nw (nw first (L.take (pos L e))) (L.drop (pos L e)) := by rw [← nw_app, List.take_append_drop]
  rw [hsp]
  unfold ins
  rw [nw_app, nw_cons]
  by_cases h : ∃ h : pos L e < L.length, L[pos L e].1 = e.1
  · rw [if_pos h]
    obtain ⟨hl, hh⟩ := h
    rw [List.drop_eq_getElem_cons hl, nw_cons, nw_cons, hh, List.set_set]
  · rw [if_neg h]
    refine nw_set _ _ _ _ fun y hy hyc => ?_
    have hy0 := hc y (List.mem_of_mem_drop hy)
    have hcell : y.1 = e.1 := by omega
    obtain ⟨i, hi, rfl⟩ := List.getElem_of_mem hy
    rw [List.length_drop] at hi
    rw [List.getElem_drop] at hcell
    have hl : pos L e < L.length := by omega
    -- the first behind is not behind in cells
    have h1 := pos_not hs (e := e) (Nat.le_refl _) hl
    have hle : L[pos L e].1 ≤ L[pos L e + i].1 := by
      rcases Nat.eq_zero_or_pos i with rfl | hi0
      · exact Int.le_refl _
      · have := (List.pairwise_iff_getElem.1 hs) (pos L e) (pos L e + i) hl (by omega) (by omega)
        rw [ah_iff] at this
        rcases this with k | ⟨k, _⟩ <;> omega
    have hge : e.1 ≤ L[pos L e].1 := by
      rw [Bool.eq_false_iff, Ne, ah_iff] at h1
      simp only [not_or] at h1
      omega
    exact h ⟨hl, by omega⟩
end Go.Proofs.YtiflieijbmaocaaDoor.Dk
/-
  Rasters: heights, sizes.
-/
namespace Go.Proofs.YtiflieijbmaocaaDoor
open Go Go.Ab
set_option maxRecDepth 100000
abbrev int : Ty := .int .i64
abbrev RasT : Ty := .pair int (.pair int (.list int))
def bigB (h : Int) : Bool := decide (1048576 < h) || decide (h < -1048576)
theorem bif_or (a b : Bool) : (bif a then true else b) = (a || b) := by cases a <;> rfl
theorem bif_and (a b : Bool) : (bif a then b else false) = (a && b) := by cases a <;> rfl
theorem great_any (G : List (Nat × Value)) (h : Int) (K : AV → List AO → Prop) (hK : K (.fz .bool (bigB h)) []) : ACall Tryd.prog G 28 [.fz int h] [] K := by
  refine acall_mk (E := envAt G 9 0) (envOk _ _ _) Tryd.func28 rfl rfl rfl rfl rfl ?_
  (repeat' (first | exact trivial | exact fun h => h | refine And.intro ?_ ?_ | (intro hb; first | (simp at hb; done) | (simp at hb) | skip) | omega | exact rfl | exact Nat.le_refl _ | (show _ + 1 ≤ 4294967296; omega) | (dsimp only; omega) | (show (_ : Int) ≤ (_ : Int); omega) | (show _ < List.length _; simp only [List.length_set, List.length_append, List.length_take]; omega) | (show wantB _ _ = true; simp; done) | (show wantB _ _ = true; simp; omega) | (show (_ : Bool) = _; simp_all; done) | (exfalso; omega) | refine aRegion_auto (by decide +kernel) ?_ | fail))
  refine ⟨_, _, REnt.refl _ _ _, ?_⟩
  rw [bif_or]; exact hK
theorem big1_any (G : List (Nat × Value)) (h : Int) (K : AV → List AO → Prop) (hK : K (.fz .bool (bigB h)) []) : ACall Tryd.prog G 53 [.fz int h] [] K := by
  refine acall_mk (E := envAt G 9 0) (envOk _ _ _) Tryd.func53 rfl rfl rfl rfl rfl ?_
  (repeat' (first | exact trivial | exact fun h => h | refine And.intro ?_ ?_ | (intro hb; first | (simp at hb; done) | (simp at hb) | skip) | omega | exact rfl | exact Nat.le_refl _ | (show _ + 1 ≤ 4294967296; omega) | (dsimp only; omega) | (show (_ : Int) ≤ (_ : Int); omega) | (show _ < List.length _; simp only [List.length_set, List.length_append, List.length_take]; omega) | (show wantB _ _ = true; simp; done) | (show wantB _ _ = true; simp; omega) | (show (_ : Bool) = _; simp_all; done) | (exfalso; omega) | refine aRegion_auto (by decide +kernel) ?_ | fail))
  refine ⟨_, _, REnt.refl _ _ _, ?_⟩
  rw [bif_or]; exact hK
def idxF (p : Int → Bool) (xs : List Int) : Int := match xs.findIdx? p with
  | some i => (i : Nat)
  | none => -1
theorem indexFunc_any (G : List (Nat × Value)) (xs : List Int) (g : FuncId) (p : Int → Bool) (hg : ∀ h K, K (.fz .bool (p h)) [] → ACall Tryd.prog G g [.fz int h] [] K) (hl : xs.length ≤ 1000000000000) (K : AV → List AO → Prop) (hK : K (.fz int (idxF p xs)) []) :
    ACall Tryd.prog G 65 [.fz (.list int) xs, .fn g []] [] K := by
  refine acall_mk (E := envAt G 19 0) (envOk _ _ _) Tryd.func65 rfl rfl rfl rfl rfl ?_
  (repeat' (first | exact trivial | exact fun h => h | refine And.intro ?_ ?_ | (intro hb; first | (simp at hb; done) | (simp at hb) | skip) | omega | exact rfl | exact Nat.le_refl _ | (show _ + 1 ≤ 4294967296; omega) | (dsimp only; omega) | (show (_ : Int) ≤ (_ : Int); omega) | (show _ < List.length _; simp only [List.length_set, List.length_append, List.length_take]; omega) | (show wantB _ _ = true; simp; done) | (show wantB _ _ = true; simp; omega) | (show (_ : Bool) = _; simp_all; done) | (exfalso; omega) | refine aRegion_auto (by decide +kernel) ?_ | fail))
  refine ⟨Nat, fun k => ⟨[(0, .fz (.list int) xs), (1, .fn g []), (7, .fz int xs.length), (8, .fz int k)], []⟩, fun k => k ≤ xs.length ∧ ∀ j, j < k → p (xs.getD j 0) = false, fun k => xs.length - k, 0, ⟨Nat.zero_le _, fun j h => absurd h (Nat.not_lt_zero _)⟩, Ent.sub rfl ⟨rfl, rfl, rfl, rfl⟩, ?_⟩
  intro k ⟨hk, hp⟩
  (repeat' (first | exact trivial | exact fun h => h | refine And.intro ?_ ?_ | (intro hb; first | (simp at hb; done) | (simp at hb) | skip) | omega | exact rfl | exact Nat.le_refl _ | (show _ + 1 ≤ 4294967296; omega) | (dsimp only; omega) | (show (_ : Int) ≤ (_ : Int); omega) | (show _ < List.length _; simp only [List.length_set, List.length_append, List.length_take]; omega) | (show wantB _ _ = true; simp; done) | (show wantB _ _ = true; simp; omega) | (show (_ : Bool) = _; simp_all; done) | (exfalso; omega) | refine aRegion_auto (by decide +kernel) ?_ | fail))
  · refine acall_frame0 rfl (hg _ _ ?_)
    (repeat' (first | exact trivial | exact fun h => h | refine And.intro ?_ ?_ | (intro hb; first | (simp at hb; done) | (simp at hb) | skip) | omega | exact rfl | exact Nat.le_refl _ | (show _ + 1 ≤ 4294967296; omega) | (dsimp only; omega) | (show (_ : Int) ≤ (_ : Int); omega) | (show _ < List.length _; simp only [List.length_set, List.length_append, List.length_take]; omega) | (show wantB _ _ = true; simp; done) | (show wantB _ _ = true; simp; omega) | (show (_ : Bool) = _; simp_all; done) | (exfalso; omega) | refine aRegion_auto (by decide +kernel) ?_ | fail))
    · refine ⟨_, _, REnt.refl _ _ _, ?_⟩
      have : idxF p xs = k := by
        unfold idxF
        have : xs.findIdx? p = some k := by
          rw [List.findIdx?_eq_some_iff_getElem]
          refine ⟨by assumption, ?_, fun j hj => ?_⟩
          · simpa [List.getD, show k < xs.length by assumption] using hb
          · have := hp j hj
            have hlt : j < xs.length := by omega
            simpa [List.getD, hlt] using this
        rw [this]
      rw [this] at hK; exact hK
    · refine ⟨k + 1, ⟨by omega, fun j hj => ?_⟩, by show _ - _ < _ - _; omega, Ent.sub rfl ⟨rfl, rfl, rfl, rfl⟩⟩
      by_cases h : j = k
      · subst h; exact hb
      · exact hp j (by omega)
  · refine ⟨_, _, REnt.refl _ _ _, ?_⟩
    have : idxF p xs = -1 := by
      unfold idxF
      have : xs.findIdx? p = none := by
        rw [List.findIdx?_eq_none_iff]
        intro x hx
        obtain ⟨j, hj, rfl⟩ := List.getElem_of_mem hx
        have := hp j (by omega)
        simpa [List.getD, hj] using this
      rw [this]
    rw [this] at hK; exact hK
theorem containsFunc_any (G : List (Nat × Value)) (xs : List Int) (g : FuncId) (p : Int → Bool) (hg : ∀ h K, K (.fz .bool (p h)) [] → ACall Tryd.prog G g [.fz int h] [] K) (hl : xs.length ≤ 1000000000000) (K : AV → List AO → Prop) (hK : K (.fz .bool (xs.any p)) []) :
    ACall Tryd.prog G 52 [.fz (.list int) xs, .fn g []] [] K := by
  refine acall_mk (E := envAt G 9 0) (envOk _ _ _) Tryd.func52 rfl rfl rfl rfl rfl ?_
  (repeat' (first | exact trivial | exact fun h => h | refine And.intro ?_ ?_ | (intro hb; first | (simp at hb; done) | (simp at hb) | skip) | omega | exact rfl | exact Nat.le_refl _ | (show _ + 1 ≤ 4294967296; omega) | (dsimp only; omega) | (show (_ : Int) ≤ (_ : Int); omega) | (show _ < List.length _; simp only [List.length_set, List.length_append, List.length_take]; omega) | (show wantB _ _ = true; simp; done) | (show wantB _ _ = true; simp; omega) | (show (_ : Bool) = _; simp_all; done) | (exfalso; omega) | refine aRegion_auto (by decide +kernel) ?_ | fail))
  refine acall_frame0 rfl (indexFunc_any G xs g p hg hl _ ?_)
  (repeat' (first | exact trivial | exact fun h => h | refine And.intro ?_ ?_ | (intro hb; first | (simp at hb; done) | (simp at hb) | skip) | omega | exact rfl | exact Nat.le_refl _ | (show _ + 1 ≤ 4294967296; omega) | (dsimp only; omega) | (show (_ : Int) ≤ (_ : Int); omega) | (show _ < List.length _; simp only [List.length_set, List.length_append, List.length_take]; omega) | (show wantB _ _ = true; simp; done) | (show wantB _ _ = true; simp; omega) | (show (_ : Bool) = _; simp_all; done) | (exfalso; omega) | refine aRegion_auto (by decide +kernel) ?_ | fail))
  refine ⟨_, _, REnt.refl _ _ _, ?_⟩
  have : decide ((0 : Int) ≤ idxF p xs) = xs.any p := by
    unfold idxF
    cases h : xs.findIdx? p with
    | none =>
      rw [List.findIdx?_eq_none_iff] at h
      simp; intro x hx; simpa using h x hx
    | some i =>
      obtain ⟨h1, h2, _⟩ := List.findIdx?_eq_some_iff_getElem.1 h
      simp; exact ⟨_, List.getElem_mem h1, h2⟩
  rw [this]; exact hK
end Go.Proofs.YtiflieijbmaocaaDoor
/-
  Rasters: are they right?
-/
namespace Go.Proofs.YtiflieijbmaocaaDoor
open Go Go.Ab
set_option maxRecDepth 100000
/-- where the errors lie -/
structure Errs where
  text : Addr
  bound : Addr
  shape : Addr
  range : Addr
  name : Addr
  none : Addr
  order : Addr
  file : Addr
abbrev errV (a : Addr) : Value := .iface 137 (.pointer (some a))
abbrev GE (E : Errs) : List (Nat × Value) := [(0, errV E.shape), (3, errV E.range), (1, errV E.bound)]
/-! ### is a raster right? -/
abbrev Ras := Int × Int × List Int
/-- 0, or the number of an error -/
def rerr (a : Ras) : Nat := if 128 < a.1 ∨ 128 < a.2.1 then 2 else if a.1 < 1 ∨ a.2.1 < 1 ∨ (a.2.2.length : Int) ≠ a.1 * a.2.1 then 3 else if a.2.2.any bigB then 4 else 0
theorem mul_bd {a b A B : Int} (h1 : 0 ≤ a) (h2 : a ≤ A) (h3 : 0 ≤ b) (h4 : b ≤ B) : 0 ≤ a * b ∧ a * b ≤ A * B :=
  ⟨Int.mul_nonneg h1 h3, Int.mul_le_mul h2 h4 h3 (Int.le_trans h1 h2)⟩
theorem valid_any (E : Errs) (a : Ras) (hl : a.2.2.length ≤ 1000000000000) (K : AV → List AO → Prop)
    (h0 : rerr a = 0 → K (.fz .raw .nilIface) []) (h2 : rerr a = 2 → K (.fz .raw (errV E.bound)) []) (h3 : rerr a = 3 → K (.fz .raw (errV E.shape)) []) (h4 : rerr a = 4 → K (.fz .raw (errV E.range)) []) : ACall Tryd.prog (GE E) 40 [.fz RasT a] [] K := by
  refine acall_mk (E := envAt (GE E) 36 0) (envOk _ _ _) Tryd.func40 rfl rfl rfl rfl rfl ?_
  (repeat' (first | exact trivial | exact fun h => h | refine And.intro ?_ ?_ | (intro hb; first | (simp at hb; done) | (simp at hb) | skip) | omega | exact rfl | exact Nat.le_refl _ | (show _ + 1 ≤ 4294967296; omega) | (dsimp only; omega) | (show (_ : Int) ≤ (_ : Int); omega) | (show _ < List.length _; simp only [List.length_set, List.length_append, List.length_take]; omega) | (show wantB _ _ = true; simp; done) | (show wantB _ _ = true; simp; omega) | (show (_ : Bool) = _; simp_all; done) | (exfalso; omega) | refine aRegion_auto (by decide +kernel) ?_ | fail))
  · refine ⟨_, _, REnt.drop ⟨rfl, rfl⟩, ?_⟩
    exact h2 (by unfold rerr; rw [if_pos hb])
  · have := mul_bd (a := a.1) (b := a.2.1) (A := 128) (B := 128) (by omega) (by omega) (by omega) (by omega); omega
  · have := mul_bd (a := a.1) (b := a.2.1) (A := 128) (B := 128) (by omega) (by omega) (by omega) (by omega); omega
  · refine ⟨_, _, REnt.drop ⟨rfl, rfl⟩, ?_⟩
    exact h3 (by unfold rerr; rw [if_neg (by omega), if_pos (by omega)])
  · refine acall_frame0 rfl (containsFunc_any (GE E) a.2.2 _ bigB (big1_any (GE E)) hl _ ?_)
    (repeat' (first | exact trivial | exact fun h => h | refine And.intro ?_ ?_ | (intro hb; first | (simp at hb; done) | (simp at hb) | skip) | omega | exact rfl | exact Nat.le_refl _ | (show _ + 1 ≤ 4294967296; omega) | (dsimp only; omega) | (show (_ : Int) ≤ (_ : Int); omega) | (show _ < List.length _; simp only [List.length_set, List.length_append, List.length_take]; omega) | (show wantB _ _ = true; simp; done) | (show wantB _ _ = true; simp; omega) | (show (_ : Bool) = _; simp_all; done) | (exfalso; omega) | refine aRegion_auto (by decide +kernel) ?_ | fail))
    · refine ⟨_, _, REnt.drop ⟨rfl, rfl⟩, ?_⟩
      exact h4 (by unfold rerr; rw [if_neg (by omega), if_neg (by omega), if_pos (by simpa using hb)])
    · refine ⟨_, _, REnt.drop ⟨rfl, rfl⟩, ?_⟩
      exact h0 (by unfold rerr; rw [if_neg (by omega), if_neg (by omega), if_neg (by simpa using hb)])
end Go.Proofs.YtiflieijbmaocaaDoor
/-
  The document's answer for a raster; most, least, sums.
-/
namespace Go.Proofs.YtiflieijbmaocaaDoor
open Go Go.Ab
set_option maxRecDepth 100000
theorem rerr_in (a : Ras) : rerr a ≤ 4 := by unfold rerr; split; omega; split; omega; split <;> omega
theorem take_any (p : Int → Bool) (l : List Int) (k : Nat) (hk : k < l.length) : (l.take (k + 1)).any p = ((l.take k).any p || p (l.getD k 0)) := by
  rw [List.take_succ_eq_append_getElem hk, List.any_append]; simp [List.getD, hk]
theorem any_in (p : Int → Bool) (l : List Int) (k : Nat) (hk : k < l.length) (h : p (l.getD k 0) = true) : l.any p = true := by
  rw [List.any_eq_true]; exact ⟨l[k], List.getElem_mem hk, by simpa [List.getD, hk] using h⟩
theorem rasterError_any (G : List (Nat × Value)) (a : Ras) (hl : a.2.2.length ≤ 1000000000000) (K : AV → List AO → Prop) (hK : K (.fz int (rerr a)) []) :
    ACall Tryd.prog G 12 [.fptr RasT a] [] K := by
  refine acall_mk (E := envAt G 64 0) (envOk _ _ _) Tryd.func12 rfl rfl rfl rfl rfl ?_
  (repeat' (first | exact trivial | exact fun h => h | refine And.intro ?_ ?_ | (intro hb; first | (simp at hb; done) | (simp at hb) | skip) | omega | exact rfl | exact Nat.le_refl _ | (show _ + 1 ≤ 4294967296; omega) | (dsimp only; omega) | (show (_ : Int) ≤ (_ : Int); omega) | (show _ < List.length _; simp only [List.length_set, List.length_append, List.length_take]; omega) | (show wantB _ _ = true; simp; done) | (show wantB _ _ = true; simp; omega) | (show (_ : Bool) = _; simp_all; done) | (exfalso; omega) | refine aRegion_auto (by decide +kernel) ?_ | fail))
  · refine ⟨_, _, REnt.drop ⟨rfl, rfl⟩, ?_⟩
    have : rerr a = 2 := by unfold rerr; rw [if_pos hb]
    rw [this] at hK; exact hK
  · have := mul_bd (a := a.1) (b := a.2.1) (A := 128) (B := 128) (by omega) (by omega) (by omega) (by omega); omega
  · have := mul_bd (a := a.1) (b := a.2.1) (A := 128) (B := 128) (by omega) (by omega) (by omega) (by omega); omega
  · refine ⟨_, _, REnt.drop ⟨rfl, rfl⟩, ?_⟩
    have : rerr a = 3 := by unfold rerr; rw [if_neg (by omega), if_pos (by omega)]
    rw [this] at hK; exact hK
  refine ⟨Nat, fun k => ⟨[(0, .fptr RasT a), (3, .fz int k)], []⟩, fun k => k ≤ a.2.2.length ∧ (a.2.2.take k).any bigB = false, fun k => a.2.2.length - k, 0, ⟨Nat.zero_le _, rfl⟩, Ent.sub rfl ⟨rfl, rfl⟩, ?_⟩
  intro k ⟨hk, hp⟩
  (repeat' (first | exact trivial | exact fun h => h | refine And.intro ?_ ?_ | (intro hb; first | (simp at hb; done) | (simp at hb) | skip) | omega | exact rfl | exact Nat.le_refl _ | (show _ + 1 ≤ 4294967296; omega) | (dsimp only; omega) | (show (_ : Int) ≤ (_ : Int); omega) | (show _ < List.length _; simp only [List.length_set, List.length_append, List.length_take]; omega) | (show wantB _ _ = true; simp; done) | (show wantB _ _ = true; simp; omega) | (show (_ : Bool) = _; simp_all; done) | (exfalso; omega) | refine aRegion_auto (by decide +kernel) ?_ | fail))
  · refine acall_frame0 rfl (great_any G _ _ ?_)
    (repeat' (first | exact trivial | exact fun h => h | refine And.intro ?_ ?_ | (intro hb; first | (simp at hb; done) | (simp at hb) | skip) | omega | exact rfl | exact Nat.le_refl _ | (show _ + 1 ≤ 4294967296; omega) | (dsimp only; omega) | (show (_ : Int) ≤ (_ : Int); omega) | (show _ < List.length _; simp only [List.length_set, List.length_append, List.length_take]; omega) | (show wantB _ _ = true; simp; done) | (show wantB _ _ = true; simp; omega) | (show (_ : Bool) = _; simp_all; done) | (exfalso; omega) | refine aRegion_auto (by decide +kernel) ?_ | fail))
    · refine ⟨_, _, REnt.drop ⟨rfl, rfl⟩, ?_⟩
      have : rerr a = 4 := by unfold rerr; rw [if_neg (by omega), if_neg (by omega), if_pos (any_in bigB _ k (by omega) hb)]
      rw [this] at hK; exact hK
    · refine ⟨k + 1, ⟨by omega, ?_⟩, by show _ - _ < _ - _; omega, Ent.sub rfl ⟨rfl, rfl⟩⟩
      have hb : bigB (a.2.2.getD k 0) = false := hb
      rw [take_any _ _ _ (by omega), hp, hb]; rfl
  · refine ⟨_, _, REnt.drop ⟨rfl, rfl⟩, ?_⟩
    have : rerr a = 0 := by
      have hk : k = a.2.2.length := by omega
      subst hk
      rw [List.take_length] at hp
      unfold rerr; rw [if_neg (by omega), if_neg (by omega), if_neg (by simp [hp])]
    rw [this] at hK; exact hK
def maxL : List Int → Int
  | [] => 0
  | x :: l => l.foldl max x
def minL : List Int → Int
  | [] => 0
  | x :: l => l.foldl min x
theorem foldl_take (f : Int → Int → Int) (l : List Int) (k : Nat) (hk : k < l.length) (x : Int) : (l.take (k + 1)).foldl f x = f ((l.take k).foldl f x) (l.getD k 0) := by
  rw [List.take_succ_eq_append_getElem hk, List.foldl_append]; simp [List.getD, hk]
end Go.Proofs.YtiflieijbmaocaaDoor
/-
  Edits: which stands ahead; where one stands.
-/
namespace Go.Proofs.YtiflieijbmaocaaDoor
open Go Go.Ab
set_option maxRecDepth 100000
namespace Dk
def sgI (a b : Int) : Int := if a < b then -1 else if b < a then 1 else 0
def cmpS (a b : ByteArray) : Int := Lib.compareBytes a.data.toList b.data.toList
def orI : List Int → Int
  | [] => 0
  | x :: l => if x ≠ 0 then x else orI l
def cmpE (x y : E) : Int := orI [sgI x.1 y.1, sgI x.2.2.1 y.2.2.1, cmpS x.2.2.2 y.2.2.2, sgI x.2.1 y.2.1]
theorem cb_lt : ∀ a b : List UInt8, Lib.compareBytes a b < 0 ↔ a < b
  | [], [] => by simp [Lib.compareBytes]
  | [], _ :: _ => by simp [Lib.compareBytes]
  | _ :: _, [] => by simp [Lib.compareBytes]
  | x :: a, y :: b => by
    rw [Lib.compareBytes, List.cons_lt_cons_iff]
    by_cases h1 : x < y
    · simp [h1]
    · by_cases h2 : y < x
      · have h3 : x ≠ y := fun e => by subst e; exact h1 h2
        simp [h1, h2, h3]
      · have h3 : x = y := UInt8.le_antisymm (UInt8.not_lt.1 h2) (UInt8.not_lt.1 h1)
        rw [if_neg h1, if_neg h2, cb_lt a b]
        simp [h3]
theorem cb_eq : ∀ a b : List UInt8, Lib.compareBytes a b = 0 ↔ a = b
  | [], [] => by simp [Lib.compareBytes]
  | [], _ :: _ => by simp [Lib.compareBytes]
  | _ :: _, [] => by simp [Lib.compareBytes]
  | x :: a, y :: b => by
    rw [Lib.compareBytes]
    by_cases h1 : x < y
    · have h3 : x ≠ y := fun e => by subst e; exact UInt8.lt_irrefl x h1
      simp [h1, h3]
    · by_cases h2 : y < x
      · have h3 : x ≠ y := fun e => by subst e; exact h1 h2
        simp [h1, h2, h3]
      · have h3 : x = y := UInt8.le_antisymm (UInt8.not_lt.1 h2) (UInt8.not_lt.1 h1)
        rw [if_neg h1, if_neg h2, cb_eq a b]
        simp [h3]
theorem cmpS_lt (a b : ByteArray) : cmpS a b < 0 ↔ Op.bytesLess a.toList b.toList = true := by
  rw [cmpS, cb_lt, bytesLess_eq, decide_eq_true_iff, ByteArray.toList_eq, ByteArray.toList_eq]
theorem cmpS_eq (a b : ByteArray) : cmpS a b = 0 ↔ a = b := by
  rw [cmpS, cb_eq]
  exact ⟨fun h => toList_inj (by rw [ByteArray.toList_eq, ByteArray.toList_eq]; exact h), fun h => by rw [h]⟩
theorem sg_lt (a b : Int) : sgI a b < 0 ↔ a < b := by unfold sgI; split <;> (try split) <;> omega
theorem sg_eq (a b : Int) : sgI a b = 0 ↔ a = b := by unfold sgI; split <;> (try split) <;> omega
theorem cmpE_lt (x y : E) : cmpE x y < 0 ↔ ah x y = true := by
  have a1 := sg_lt x.1 y.1
  have a2 := sg_eq x.1 y.1
  have b1 := sg_lt x.2.2.1 y.2.2.1
  have b2 := sg_eq x.2.2.1 y.2.2.1
  have c1 := cmpS_lt x.2.2.2 y.2.2.2
  have c2 := cmpS_eq x.2.2.2 y.2.2.2
  have d1 := sg_lt x.2.1 y.2.1
  have d2 := sg_eq x.2.1 y.2.1
  rw [ah_iff, ← c1, ← c2]
  unfold cmpE orI orI orI orI orI
  generalize sgI x.1 y.1 = p at *
  generalize sgI x.2.2.1 y.2.2.1 = q at *
  generalize cmpS x.2.2.2 y.2.2.2 = r at *
  generalize sgI x.2.1 y.2.1 = s at *
  clear c1 c2
  split
  · omega
  split
  · omega
  split
  · omega
  split <;> omega
theorem cmpE_eq (x y : E) : cmpE x y = 0 ↔ x = y := by
  have a2 := sg_eq x.1 y.1
  have b2 := sg_eq x.2.2.1 y.2.2.1
  have c2 := cmpS_eq x.2.2.2 y.2.2.2
  have d2 := sg_eq x.2.1 y.2.1
  have key : x = y ↔ x.1 = y.1 ∧ x.2.2.1 = y.2.2.1 ∧ x.2.2.2 = y.2.2.2 ∧ x.2.1 = y.2.1 := by
    obtain ⟨a, b, c, d⟩ := x
    obtain ⟨a', b', c', d'⟩ := y
    simp only [Prod.mk.injEq]
    constructor
    · rintro ⟨h1, h2, h3, h4⟩; exact ⟨h1, h3, h4, h2⟩
    · rintro ⟨h1, h3, h4, h2⟩; exact ⟨h1, h2, h3, h4⟩
  rw [key, ← c2]
  unfold cmpE orI orI orI orI orI
  generalize sgI x.1 y.1 = p at *
  generalize sgI x.2.2.1 y.2.2.1 = q at *
  generalize cmpS x.2.2.2 y.2.2.2 = r at *
  generalize sgI x.2.1 y.2.1 = s at *
  clear c2 key
  split
  · omega
  split
  · omega
  split
  · omega
  split <;> omega
end Dk
open Dk
theorem or_any (G : List (Nat × Value)) (xs : List Int) (hl : xs.length ≤ 1000000000000) (K : AV → List AO → Prop) (hK : K (.fz int (orI xs)) []) :
    ACall Tryd.prog G 47 [.fz (.list int) xs] [] K := by
  refine acall_mk (E := envAt G 18 0) (envOk _ _ _) Tryd.func47 rfl rfl rfl rfl rfl ?_
  (repeat' (first | exact trivial | exact fun h => h | refine And.intro ?_ ?_ | (intro hb; first | (simp at hb; done) | (simp at hb) | skip) | omega | exact rfl | exact Nat.le_refl _ | (show _ + 1 ≤ 4294967296; omega) | (dsimp only; omega) | (show (_ : Int) ≤ (_ : Int); omega) | (show _ < List.length _; simp only [List.length_set, List.length_append, List.length_take]; omega) | (show wantB _ _ = true; simp; done) | (show wantB _ _ = true; simp; omega) | (show (_ : Bool) = _; simp_all; done) | (exfalso; omega) | refine aRegion_auto (by decide +kernel) ?_ | fail))
  refine ⟨Nat, fun k => ⟨[(3, .fz int 0), (6, .fz (.list int) xs), (7, .fz int xs.length), (8, .fz int k)], []⟩, fun k => k ≤ xs.length ∧ orI xs = orI (xs.drop k), fun k => xs.length - k, 0, ⟨Nat.zero_le _, rfl⟩, Ent.sub rfl ?_, ?_⟩
  · (repeat' (first | exact trivial | exact rfl | refine And.intro ?_ ?_))
  intro k ⟨hk, hp⟩
  (repeat' (first | exact trivial | exact fun h => h | refine And.intro ?_ ?_ | (intro hb; first | (simp at hb; done) | (simp at hb) | skip) | omega | exact rfl | exact Nat.le_refl _ | (show _ + 1 ≤ 4294967296; omega) | (dsimp only; omega) | (show (_ : Int) ≤ (_ : Int); omega) | (show _ < List.length _; simp only [List.length_set, List.length_append, List.length_take]; omega) | (show wantB _ _ = true; simp; done) | (show wantB _ _ = true; simp; omega) | (show (_ : Bool) = _; simp_all; done) | (exfalso; omega) | refine aRegion_auto (by decide +kernel) ?_ | fail))
  · refine ⟨_, _, REnt.refl _ _ _, ?_⟩
    have hd : xs.drop k = xs[k]'(by omega) :: xs.drop (k + 1) := List.drop_eq_getElem_cons (by omega)
    have e : xs.getD (Int.toNat (k : Int)) int.dft = xs[k]'(by omega) := by simp [List.getD, show k < xs.length by omega]
    rw [hp, hd] at hK
    unfold orI at hK
    have hb : ¬ (xs.getD (Int.toNat (k : Int)) int.dft = 0) := hb
    rw [e] at hb
    rw [if_pos hb] at hK
    rw [e]; exact hK
  · refine ⟨k + 1, ⟨by omega, ?_⟩, by show _ - _ < _ - _; omega, Ent.sub rfl ?_⟩
    · have hd : xs.drop k = xs[k]'(by omega) :: xs.drop (k + 1) := List.drop_eq_getElem_cons (by omega)
      have e : xs.getD (Int.toNat (k : Int)) int.dft = xs[k]'(by omega) := by simp [List.getD, show k < xs.length by omega]
      have hb : xs.getD (Int.toNat (k : Int)) int.dft = 0 := hb
      rw [e] at hb
      rw [hp, hd, orI, if_neg (by omega)]
    · (repeat' (first | exact trivial | exact rfl | refine And.intro ?_ ?_))
  · refine ⟨_, _, REnt.refl _ _ _, ?_⟩
    have hk : k = xs.length := by omega
    subst hk
    rw [hp, List.drop_length] at hK
    exact hK
theorem nan_any (G : List (Nat × Value)) (a : Int) (K : AV → List AO → Prop) (hK : K (.fz .bool false) []) : ACall Tryd.prog G 61 [.fz int a] [] K := by
  refine acall_mk (E := envAt G 6 0) (envOk _ _ _) Tryd.func61 rfl rfl rfl rfl rfl ?_
  (repeat' (first | exact trivial | exact fun h => h | refine And.intro ?_ ?_ | (intro hb; first | (simp at hb; done) | (simp at hb) | skip) | omega | exact rfl | exact Nat.le_refl _ | (show _ + 1 ≤ 4294967296; omega) | (dsimp only; omega) | (show (_ : Int) ≤ (_ : Int); omega) | (show _ < List.length _; simp only [List.length_set, List.length_append, List.length_take]; omega) | (show wantB _ _ = true; simp; done) | (show wantB _ _ = true; simp; omega) | (show (_ : Bool) = _; simp_all; done) | (exfalso; omega) | refine aRegion_auto (by decide +kernel) ?_ | fail))
  refine ⟨_, _, REnt.refl _ _ _, ?_⟩
  exact (congrArg (fun q => K (.fz .bool q) []) (by simp : (a != a) = false)).mpr hK
theorem compare_any (G : List (Nat × Value)) (a b : Int) (K : AV → List AO → Prop) (hK : K (.fz int (sgI a b)) []) : ACall Tryd.prog G 48 [.fz int a, .fz int b] [] K := by
  refine acall_mk (E := envAt G 20 0) (envOk _ _ _) Tryd.func48 rfl rfl rfl rfl rfl ?_
  (repeat' (first | exact trivial | exact fun h => h | refine And.intro ?_ ?_ | (intro hb; first | (simp at hb; done) | (simp at hb) | skip) | omega | exact rfl | exact Nat.le_refl _ | (show _ + 1 ≤ 4294967296; omega) | (dsimp only; omega) | (show (_ : Int) ≤ (_ : Int); omega) | (show _ < List.length _; simp only [List.length_set, List.length_append, List.length_take]; omega) | (show wantB _ _ = true; simp; done) | (show wantB _ _ = true; simp; omega) | (show (_ : Bool) = _; simp_all; done) | (exfalso; omega) | refine aRegion_auto (by decide +kernel) ?_ | fail))
  refine acall_frame0 rfl (nan_any _ a _ ?_)
  (repeat' (first | exact trivial | exact fun h => h | refine And.intro ?_ ?_ | (intro hb; first | (simp at hb; done) | (simp at hb) | skip) | omega | exact rfl | exact Nat.le_refl _ | (show _ + 1 ≤ 4294967296; omega) | (dsimp only; omega) | (show (_ : Int) ≤ (_ : Int); omega) | (show _ < List.length _; simp only [List.length_set, List.length_append, List.length_take]; omega) | (show wantB _ _ = true; simp; done) | (show wantB _ _ = true; simp; omega) | (show (_ : Bool) = _; simp_all; done) | (exfalso; omega) | refine aRegion_auto (by decide +kernel) ?_ | fail))
  refine acall_frame0 rfl (nan_any _ b _ ?_)
  unfold sgI at hK
  (repeat' (first | exact trivial | exact fun h => h | refine And.intro ?_ ?_ | (intro hb; first | (simp at hb; done) | (simp at hb) | skip) | omega | exact rfl | exact Nat.le_refl _ | (show _ + 1 ≤ 4294967296; omega) | (dsimp only; omega) | (show (_ : Int) ≤ (_ : Int); omega) | (show _ < List.length _; simp only [List.length_set, List.length_append, List.length_take]; omega) | (show wantB _ _ = true; simp; done) | (show wantB _ _ = true; simp; omega) | (show (_ : Bool) = _; simp_all; done) | (exfalso; omega) | refine aRegion_auto (by decide +kernel) ?_ | fail))
  all_goals refine ⟨_, _, REnt.refl _ _ _, ?_⟩
  · rw [if_pos hb] at hK; exact hK
  · rw [if_neg (by omega), if_pos hb] at hK; exact hK
  · rw [if_neg (by omega), if_neg (by omega)] at hK; exact hK
theorem cmpstring_any (G : List (Nat × Value)) (a b : ByteArray) (K : AV → List AO → Prop) (hK : K (.fz int (cmpS a b)) []) : ACall Tryd.prog G 68 [.fz .str a, .fz .str b] [] K := by
  refine acall_ext (fun c H hA hG vs hv => ?_) hK
  obtain ⟨v, r, rfl, h1, v2, r2, rfl, h2, h3⟩ := hv
  unfold RelL at h3
  subst h3
  obtain rfl := rel_str.1 h1
  obtain rfl := rel_str.1 h2
  refine ⟨_, ?_, rel_int.2 rfl⟩
  rw [run_callFunc_extern Tryd.func68 (by kernel_rfl) (by kernel_rfl) (by kernel_rfl) (e := Extern.BytealgCompare.compare) (by kernel_rfl)]
  rw [Lib.run_compareString]
  rfl
theorem compareString_any (G : List (Nat × Value)) (a b : ByteArray) (K : AV → List AO → Prop) (hK : K (.fz int (cmpS a b)) []) : ACall Tryd.prog G 62 [.fz .str a, .fz .str b] [] K := by
  refine acall_mk (E := envAt G 8 0) (envOk _ _ _) Tryd.func62 rfl rfl rfl rfl rfl ?_
  (repeat' (first | exact trivial | exact fun h => h | refine And.intro ?_ ?_ | (intro hb; first | (simp at hb; done) | (simp at hb) | skip) | omega | exact rfl | exact Nat.le_refl _ | (show _ + 1 ≤ 4294967296; omega) | (dsimp only; omega) | (show (_ : Int) ≤ (_ : Int); omega) | (show _ < List.length _; simp only [List.length_set, List.length_append, List.length_take]; omega) | (show wantB _ _ = true; simp; done) | (show wantB _ _ = true; simp; omega) | (show (_ : Bool) = _; simp_all; done) | (exfalso; omega) | refine aRegion_auto (by decide +kernel) ?_ | fail))
  refine acall_frame0 rfl (cmpstring_any _ a b _ ?_)
  (repeat' (first | exact trivial | exact fun h => h | refine And.intro ?_ ?_ | (intro hb; first | (simp at hb; done) | (simp at hb) | skip) | omega | exact rfl | exact Nat.le_refl _ | (show _ + 1 ≤ 4294967296; omega) | (dsimp only; omega) | (show (_ : Int) ≤ (_ : Int); omega) | (show _ < List.length _; simp only [List.length_set, List.length_append, List.length_take]; omega) | (show wantB _ _ = true; simp; done) | (show wantB _ _ = true; simp; omega) | (show (_ : Bool) = _; simp_all; done) | (exfalso; omega) | refine aRegion_auto (by decide +kernel) ?_ | fail))
  exact ⟨_, _, REnt.refl _ _ _, hK⟩
theorem strCompare_any (G : List (Nat × Value)) (a b : ByteArray) (K : AV → List AO → Prop) (hK : K (.fz int (cmpS a b)) []) : ACall Tryd.prog G 49 [.fz .str a, .fz .str b] [] K := by
  refine acall_mk (E := envAt G 8 0) (envOk _ _ _) Tryd.func49 rfl rfl rfl rfl rfl ?_
  (repeat' (first | exact trivial | exact fun h => h | refine And.intro ?_ ?_ | (intro hb; first | (simp at hb; done) | (simp at hb) | skip) | omega | exact rfl | exact Nat.le_refl _ | (show _ + 1 ≤ 4294967296; omega) | (dsimp only; omega) | (show (_ : Int) ≤ (_ : Int); omega) | (show _ < List.length _; simp only [List.length_set, List.length_append, List.length_take]; omega) | (show wantB _ _ = true; simp; done) | (show wantB _ _ = true; simp; omega) | (show (_ : Bool) = _; simp_all; done) | (exfalso; omega) | refine aRegion_auto (by decide +kernel) ?_ | fail))
  refine acall_frame0 rfl (compareString_any _ a b _ ?_)
  (repeat' (first | exact trivial | exact fun h => h | refine And.intro ?_ ?_ | (intro hb; first | (simp at hb; done) | (simp at hb) | skip) | omega | exact rfl | exact Nat.le_refl _ | (show _ + 1 ≤ 4294967296; omega) | (dsimp only; omega) | (show (_ : Int) ≤ (_ : Int); omega) | (show _ < List.length _; simp only [List.length_set, List.length_append, List.length_take]; omega) | (show wantB _ _ = true; simp; done) | (show wantB _ _ = true; simp; omega) | (show (_ : Bool) = _; simp_all; done) | (exfalso; omega) | refine aRegion_auto (by decide +kernel) ?_ | fail))
  exact ⟨_, _, REnt.refl _ _ _, hK⟩
set_option maxHeartbeats 4000000 in
theorem edCmp_any (G : List (Nat × Value)) (x y : E) (K : AV → List AO → Prop) (hK : K (.fz int (cmpE x y)) []) : ACall Tryd.prog G 36 [.fz EdT x, .fz EdT y] [] K := by
  refine acall_mk (E := envAt G 27 0) (envOk _ _ _) Tryd.func36 rfl rfl rfl rfl rfl ?_
  (repeat' (first | exact trivial | exact fun h => h | refine And.intro ?_ ?_ | (intro hb; first | (simp at hb; done) | (simp at hb) | skip) | omega | exact rfl | exact Nat.le_refl _ | (show _ + 1 ≤ 4294967296; omega) | (dsimp only; omega) | (show (_ : Int) ≤ (_ : Int); omega) | (show _ < List.length _; simp only [List.length_set, List.length_append, List.length_take]; omega) | (show wantB _ _ = true; simp; done) | (show wantB _ _ = true; simp; omega) | (show (_ : Bool) = _; simp_all; done) | (exfalso; omega) | refine aRegion_auto (by decide +kernel) ?_ | fail))
  apply exEff
  · refine acall_frame0 rfl (compare_any _ _ _ _ ?_)
    exact ⟨rfl, rfl⟩
  (repeat' (first | exact trivial | exact fun h => h | refine And.intro ?_ ?_ | (intro hb; first | (simp at hb; done) | (simp at hb) | skip) | omega | exact rfl | exact Nat.le_refl _ | (show _ + 1 ≤ 4294967296; omega) | (dsimp only; omega) | (show (_ : Int) ≤ (_ : Int); omega) | (show _ < List.length _; simp only [List.length_set, List.length_append, List.length_take]; omega) | (show wantB _ _ = true; simp; done) | (show wantB _ _ = true; simp; omega) | (show (_ : Bool) = _; simp_all; done) | (exfalso; omega) | refine aRegion_auto (by decide +kernel) ?_ | fail))
  apply exEff
  · refine acall_frame0 rfl (compare_any _ _ _ _ ?_)
    exact ⟨rfl, rfl⟩
  (repeat' (first | exact trivial | exact fun h => h | refine And.intro ?_ ?_ | (intro hb; first | (simp at hb; done) | (simp at hb) | skip) | omega | exact rfl | exact Nat.le_refl _ | (show _ + 1 ≤ 4294967296; omega) | (dsimp only; omega) | (show (_ : Int) ≤ (_ : Int); omega) | (show _ < List.length _; simp only [List.length_set, List.length_append, List.length_take]; omega) | (show wantB _ _ = true; simp; done) | (show wantB _ _ = true; simp; omega) | (show (_ : Bool) = _; simp_all; done) | (exfalso; omega) | refine aRegion_auto (by decide +kernel) ?_ | fail))
  apply exEff
  · refine acall_frame0 rfl (strCompare_any _ _ _ _ ?_)
    exact ⟨rfl, rfl⟩
  (repeat' (first | exact trivial | exact fun h => h | refine And.intro ?_ ?_ | (intro hb; first | (simp at hb; done) | (simp at hb) | skip) | omega | exact rfl | exact Nat.le_refl _ | (show _ + 1 ≤ 4294967296; omega) | (dsimp only; omega) | (show (_ : Int) ≤ (_ : Int); omega) | (show _ < List.length _; simp only [List.length_set, List.length_append, List.length_take]; omega) | (show wantB _ _ = true; simp; done) | (show wantB _ _ = true; simp; omega) | (show (_ : Bool) = _; simp_all; done) | (exfalso; omega) | refine aRegion_auto (by decide +kernel) ?_ | fail))
  apply exEff
  · refine acall_frame0 rfl (compare_any _ _ _ _ ?_)
    exact ⟨rfl, rfl⟩
  (apply exEff; focus (repeat' (first | exact ⟨rfl, rfl⟩ | exact trivial | refine And.intro ?_ ?_ | omega | exact Nat.le_refl _ | (show _ + 1 ≤ 4294967296; omega))))
  (repeat' (first | exact trivial | exact fun h => h | refine And.intro ?_ ?_ | (intro hb; first | (simp at hb; done) | (simp at hb) | skip) | omega | exact rfl | exact Nat.le_refl _ | (show _ + 1 ≤ 4294967296; omega) | (dsimp only; omega) | (show (_ : Int) ≤ (_ : Int); omega) | (show _ < List.length _; simp only [List.length_set, List.length_append, List.length_take]; omega) | (show wantB _ _ = true; simp; done) | (show wantB _ _ = true; simp; omega) | (show (_ : Bool) = _; simp_all; done) | (exfalso; omega) | refine aRegion_auto (by decide +kernel) ?_ | fail))
  apply exEff
  · refine acall_lend [.dat (.list int)] _ _ _ rfl ?_ rfl ?_
    · (repeat' (first | exact trivial | refine And.intro ?_ ?_ | (show _ ≤ _; omega) | (show _ ≤ _; simp; done)))
    refine acall_arg (or_any G [sgI x.1 y.1, sgI x.2.2.1 y.2.2.1, cmpS x.2.2.2 y.2.2.2, sgI x.2.1 y.2.1] (by simp) _ ?_) rfl
    refine And.intro rfl ?_
    exact ⟨rfl, rfl⟩
  (repeat' (first | exact trivial | exact fun h => h | refine And.intro ?_ ?_ | (intro hb; first | (simp at hb; done) | (simp at hb) | skip) | omega | exact rfl | exact Nat.le_refl _ | (show _ + 1 ≤ 4294967296; omega) | (dsimp only; omega) | (show (_ : Int) ≤ (_ : Int); omega) | (show _ < List.length _; simp only [List.length_set, List.length_append, List.length_take]; omega) | (show wantB _ _ = true; simp; done) | (show wantB _ _ = true; simp; omega) | (show (_ : Bool) = _; simp_all; done) | (exfalso; omega) | refine aRegion_auto (by decide +kernel) ?_ | fail))
  refine ⟨_, _, REnt.drop ⟨rfl, rfl⟩, ?_⟩
  exact hK
end Go.Proofs.YtiflieijbmaocaaDoor
/-
  Edits: search among others; copies of slices.
-/
namespace Go.Proofs.YtiflieijbmaocaaDoor
open Go Go.Ab Go.RowKit
set_option maxRecDepth 100000
open Dk
theorem half (i j : Nat) (h : i + j ≤ 1000000000) : IntKind.i64.wrap (Int.fdiv (IntKind.u64.wrap ((i : Int) + (j : Int))) (2 ^ (min (Int.toNat 1) IntKind.u64.bits))) = (((i + j) / 2 : Nat) : Int) := by
  have e1 : IntKind.u64.wrap ((i : Int) + (j : Int)) = (i : Int) + (j : Int) := by
    unfold IntKind.wrap; simp [IntKind.bits, IntKind.signed]; omega
  have e2 : (2 : Int) ^ (min (Int.toNat 1) IntKind.u64.bits) = 2 := by decide
  rw [e1, e2, Int.fdiv_eq_ediv_of_nonneg _ (by omega), IntKind.wrap_i64]; omega
set_option maxHeartbeats 4000000 in
theorem search_any (G : List (Nat × Value)) (L : List E) (n : Nat) (e : E) (hs : Srt L) (hn : L.length = n) (hb : n ≤ 100000) (K : AV → List AO → Prop) (hK : K (.tup [.fz int (pos L e : Nat), .fz .bool (hasE L e)]) [.row EdT L]) :
    ACall Tryd.prog G 35 [.ref 0 0 n, .fz EdT e, .fn 36 []] [.row EdT L] K := by
  have hple := pos_le L e
  let be : AO := .box [.fz int e.1, .fz int e.2.1, .fz int e.2.2.1, .fz .str e.2.2.2]
  refine acall_mk (E := envAt G 49 1) (envOk _ _ _) Tryd.func35 rfl rfl rfl rfl rfl ?_
  (repeat' (first | exact trivial | exact fun h => h | refine And.intro ?_ ?_ | (intro hb; first | (simp at hb; done) | (simp at hb) | skip) | omega | exact rfl | exact Nat.le_refl _ | (show _ + 1 ≤ 4294967296; omega) | (dsimp only; omega) | (show (_ : Int) ≤ (_ : Int); omega) | (show _ < List.length _; simp only [List.length_set, List.length_append, List.length_take]; omega) | (show wantB _ _ = true; simp; done) | (show wantB _ _ = true; simp; omega) | (show (_ : Bool) = _; simp_all; done) | (exfalso; omega) | refine aRegion_auto (by decide +kernel) ?_ | fail))
  refine ⟨Nat × Nat, fun x => ⟨[(0, .ref 0 0 n), (2, .fn 36 []), (4, .ptr 1 0), (8, .fz int n), (9, .fz int x.1), (10, .fz int x.2)], [.row EdT L, be]⟩, fun x => x.1 ≤ pos L e ∧ pos L e ≤ x.2 ∧ x.2 ≤ n, fun x => x.2 - x.1, (0, n), ⟨Nat.zero_le _, by show _ ≤ n; omega, Nat.le_refl _⟩, Ent.sub rfl ?_, ?_⟩
  · (repeat' (first | exact trivial | exact rfl | refine And.intro ?_ ?_))
  rintro ⟨i, j⟩ ⟨h1, h2, h3⟩
  have h1 : i ≤ pos L e := h1
  have h2 : pos L e ≤ j := h2
  have h3 : j ≤ n := h3
  show awp _ _ _ ⟨[(0, .ref 0 0 n), (2, .fn 36 []), (4, .ptr 1 0), (8, .fz int n), (9, .fz int i), (10, .fz int j)], [.row EdT L, be]⟩
  by_cases hij : i < j
  · have hh := half i j (by omega)
    obtain ⟨h, eh⟩ : ∃ h, h = (i + j) / 2 := ⟨_, rfl⟩
    rw [← eh] at hh
    have hl1 : i ≤ h := by omega
    have hl2 : h < j := by omega
    have ge : L.getD (0 + Int.toNat (h : Int)) EdT.dft = L[h]'(by omega) := by simp [List.getD, show h < L.length by omega]
    have ge2 : L[h]?.getD EdT.dft = L[h]'(by omega) := by simp [show h < L.length by omega]
    have gc := cmpE_lt (L[h]'(by omega)) e
    (repeat' (first | exact trivial | exact fun h => h | refine And.intro ?_ ?_ | (intro hb; first | (simp at hb; done) | (simp at hb) | skip) | omega | exact rfl | exact Nat.le_refl _ | (show _ + 1 ≤ 4294967296; omega) | (dsimp only; omega) | (show (_ : Int) ≤ (_ : Int); omega) | (show _ < List.length _; simp only [List.length_set, List.length_append, List.length_take]; omega) | (show wantB _ _ = true; simp; done) | (show wantB _ _ = true; simp; omega) | (show (_ : Bool) = _; simp_all; done) | (exfalso; omega) | refine aRegion_auto (by decide +kernel) ?_ | fail))
    rw [hh]
    apply exEff
    · refine acall_conv [.keep, .dat EdT] _ _ _ rfl trivial (acall_frame0 rfl (edCmp_any _ _ _ _ ?_))
      exact ⟨rfl, rfl⟩
    (repeat' (first | exact trivial | exact fun h => h | refine And.intro ?_ ?_ | (intro hb; first | (simp at hb; done) | (simp at hb) | skip) | omega | exact rfl | exact Nat.le_refl _ | (show _ + 1 ≤ 4294967296; omega) | (dsimp only; omega) | (show (_ : Int) ≤ (_ : Int); omega) | (show _ < List.length _; simp only [List.length_set, List.length_append, List.length_take]; omega) | (show wantB _ _ = true; simp; done) | (show wantB _ _ = true; simp; omega) | (show (_ : Bool) = _; simp_all; done) | (exfalso; omega) | refine aRegion_auto (by decide +kernel) ?_ | fail))
    · have hlt : cmpE (L[h]'(by omega)) e < 0 := by rw [← ge2]; exact hb
      have hp : h < pos L e := by
        rcases Nat.lt_or_ge h (pos L e) with c | c
        · exact c
        · have := pos_not hs c (by omega)
          rw [gc.1 hlt] at this; cases this
      refine ⟨(h + 1, j), ⟨hp, h2, h3⟩, by show j - (h + 1) < j - i; omega, Ent.sub rfl ?_⟩
      (repeat' (first | exact trivial | exact rfl | refine And.intro ?_ ?_))
    · have hge : ¬ cmpE (L[h]'(by omega)) e < 0 := by rw [← ge2]; exact Int.not_lt.2 hb
      have hp : pos L e ≤ h := by
        rcases Nat.lt_or_ge h (pos L e) with c | c
        · exact absurd (gc.2 (pos_ahead c (by omega))) hge
        · exact c
      refine ⟨(i, h), ⟨h1, hp, by show h ≤ n; omega⟩, by show h - i < j - i; omega, Ent.sub rfl ?_⟩
      (repeat' (first | exact trivial | exact rfl | refine And.intro ?_ ?_))
  · have hi0 : i = pos L e := by omega
    have hj0 : j = pos L e := by omega
    subst hi0
    by_cases hn2 : pos L e < n
    · have ge : L.getD (0 + Int.toNat (pos L e : Int)) EdT.dft = L[pos L e]'(by omega) := by simp [List.getD, show pos L e < L.length by omega]
      have gc := cmpE_eq (L[pos L e]'(by omega)) e
      (repeat' (first | exact trivial | exact fun h => h | refine And.intro ?_ ?_ | (intro hb; first | (simp at hb; done) | (simp at hb) | skip) | omega | exact rfl | exact Nat.le_refl _ | (show _ + 1 ≤ 4294967296; omega) | (dsimp only; omega) | (show (_ : Int) ≤ (_ : Int); omega) | (show _ < List.length _; simp only [List.length_set, List.length_append, List.length_take]; omega) | (show wantB _ _ = true; simp; done) | (show wantB _ _ = true; simp; omega) | (show (_ : Bool) = _; simp_all; done) | (exfalso; omega) | refine aRegion_auto (by decide +kernel) ?_ | fail))
      apply exEff
      · refine ⟨fun _ => ?_, fun h => absurd h (by simp; omega)⟩
        (repeat' (first | refine And.intro ?_ ?_ | (show wantB _ _ = true; simp; omega)))
        refine acall_conv [.keep, .dat EdT] _ _ _ rfl trivial (acall_frame0 rfl (edCmp_any _ _ _ _ ?_))
        exact ⟨rfl, rfl⟩
      (repeat' (first | exact trivial | exact fun h => h | refine And.intro ?_ ?_ | (intro hb; first | (simp at hb; done) | (simp at hb) | skip) | omega | exact rfl | exact Nat.le_refl _ | (show _ + 1 ≤ 4294967296; omega) | (dsimp only; omega) | (show (_ : Int) ≤ (_ : Int); omega) | (show _ < List.length _; simp only [List.length_set, List.length_append, List.length_take]; omega) | (show wantB _ _ = true; simp; done) | (show wantB _ _ = true; simp; omega) | (show (_ : Bool) = _; simp_all; done) | (exfalso; omega) | refine aRegion_auto (by decide +kernel) ?_ | fail))
      refine ⟨.tup [.fz int (pos L e : Nat), .fz .bool (hasE L e)], [.row EdT L], REnt.ren [0] rfl ?_ ?_, hK⟩
      · (repeat' (first | exact trivial | exact rfl | refine And.intro ?_ ?_))
      · refine And.intro (congrArg (fun q => AV.tup [.fz int (pos L e : Nat), .fz .bool q]) (?_ : _ = hasE L e)) rfl
        have : hasE L e = (cmpE (L[pos L e]'(by omega)) e == 0) := by
          rw [Bool.eq_iff_iff, hasE_iff, beq_iff_eq, gc, pos_has hs]
          exact ⟨fun ⟨_, h⟩ => h, fun h => ⟨by omega, h⟩⟩
        rw [this, decide_eq_true (by omega : ((pos L e : Nat) : Int) < n), ← ge]
        rfl
    · (repeat' (first | exact trivial | exact fun h => h | refine And.intro ?_ ?_ | (intro hb; first | (simp at hb; done) | (simp at hb) | skip) | omega | exact rfl | exact Nat.le_refl _ | (show _ + 1 ≤ 4294967296; omega) | (dsimp only; omega) | (show (_ : Int) ≤ (_ : Int); omega) | (show _ < List.length _; simp only [List.length_set, List.length_append, List.length_take]; omega) | (show wantB _ _ = true; simp; done) | (show wantB _ _ = true; simp; omega) | (show (_ : Bool) = _; simp_all; done) | (exfalso; omega) | refine aRegion_auto (by decide +kernel) ?_ | fail))
      apply exEff
      · refine ⟨fun h => absurd h (by simp; omega), fun _ => ⟨rfl, rfl⟩⟩
      (repeat' (first | exact trivial | exact fun h => h | refine And.intro ?_ ?_ | (intro hb; first | (simp at hb; done) | (simp at hb) | skip) | omega | exact rfl | exact Nat.le_refl _ | (show _ + 1 ≤ 4294967296; omega) | (dsimp only; omega) | (show (_ : Int) ≤ (_ : Int); omega) | (show _ < List.length _; simp only [List.length_set, List.length_append, List.length_take]; omega) | (show wantB _ _ = true; simp; done) | (show wantB _ _ = true; simp; omega) | (show (_ : Bool) = _; simp_all; done) | (exfalso; omega) | refine aRegion_auto (by decide +kernel) ?_ | fail))
      refine ⟨.tup [.fz int (pos L e : Nat), .fz .bool (hasE L e)], [.row EdT L], REnt.ren [0] rfl ?_ ?_, hK⟩
      · (repeat' (first | exact trivial | exact rfl | refine And.intro ?_ ?_))
      · refine And.intro (congrArg (fun q => AV.tup [.fz int (pos L e : Nat), .fz .bool q]) (?_ : _ = hasE L e)) rfl
        exact (Bool.eq_false_iff.2 fun h => by
          obtain ⟨h1, _⟩ := (pos_has hs).1 (hasE_iff.1 h)
          omega).symm
theorem insert_end (G : List (Nat × Value)) (xs : List E) (n : Nat) (x : E) (hn : xs.length = n) (hs : n ≤ 100000) (K : AV → List AO → Prop) (hK : K (.ref 2 0 (n + 1)) [.dead, .row EdT [x], .row EdT (xs ++ [x])]) :
    ACall Tryd.prog G 50 [.ref 0 0 n, .fz int (n : Int), .ref 1 0 1] [.row EdT xs, .row EdT [x]] K := by
  have htk : xs.take n = xs := List.take_of_length_le (by omega)
  refine acall_mk (E := envAt G 95 2) (envOk _ _ _) Tryd.func50 rfl rfl rfl rfl rfl ?_
  (repeat' (first | exact trivial | exact fun h => h | refine And.intro ?_ ?_ | (intro hb; first | (simp at hb; done) | (simp at hb) | skip) | omega | exact rfl | exact Nat.le_refl _ | (show _ + 1 ≤ 4294967296; omega) | (dsimp only; omega) | (show (_ : Int) ≤ (_ : Int); omega) | (show _ < List.length _; simp only [List.length_set, List.length_append, List.length_take]; omega) | (show wantB _ _ = true; simp; done) | (show wantB _ _ = true; simp; omega) | (show (_ : Bool) = _; simp_all; done) | (exfalso; omega) | refine aRegion_auto (by decide +kernel) ?_ | fail))
  · exact Int.le_refl _
  · exact Int.le_refl _
  refine ⟨_, _, REnt.refl _ _ _, ?_⟩
  rw [← htk] at hK
  exact hK
theorem insert_any (G : List (Nat × Value)) (xs : List E) (n k : Nat) (x : E) (hn : xs.length = n) (hk : k ≤ n) (hs : n ≤ 100000) (K : AV → List AO → Prop) (hK : K (.ref 2 0 (n + 1)) [.dead, .row EdT [x], .row EdT (xs.take k ++ x :: xs.drop k)]) :
    ACall Tryd.prog G 50 [.ref 0 0 n, .fz int (k : Int), .ref 1 0 1] [.row EdT xs, .row EdT [x]] K := by
  rcases Nat.lt_or_ge k n with h | h
  · exact insert_mid G xs n k x hn h hs K hK
  · have e : k = n := by omega
    subst e
    rw [List.take_of_length_le (by omega), List.drop_eq_nil_of_le (by omega)] at hK
    exact insert_end G xs k x hn hs K hK
namespace clK
theorem eqNil (t e : TypeId) (hu : (Tryd.prog).underlying t = some (.slice e)) (p : Option Addr) (n cap : Nat) (w : World) : (binOp .eql t (.slice p n cap) (.slice none 0 0)).run Tryd.prog w = .ok (.bool p.isNone) w := by
  have heq : (Op.equal t (.slice p n cap) (.slice none 0 0)).run Tryd.prog w = .ok p.isNone w := by
    unfold Op.equal Op.maxDepth
    rw [show (10000 : Nat) = 9999 + 1 from rfl]
    unfold Op.equalIn
    cases p <;> simp [run_underlying' hu]
  simp [binOp, heq]
theorem cloneI_walk (p : Option Addr) (cap : Nat) (w : World) : Calls Tryd.prog 54 #[.slice p 0 cap] w fun e w' => ∃ q, e = .returned (.slice q 0 0) ∧ Below w.heap.size w w' := by
  have hq := eqNil 33 3 rfl p 0 cap w
  cases p with
  | none =>
    simp only [Option.isNone_none] at hq
    go_enter Tryd.func54, Tryd.ntmps54
    go_wp2
    go_ret
    exact ⟨none, rfl, Below.refl _ _⟩
  | some a =>
    simp only [Option.isNone_some] at hq
    go_enter Tryd.func54, Tryd.ntmps54
    go_wp2
    go_ret
    exact ⟨some _, rfl, (Below.refl _ _).alloc (Nat.le_refl _) _⟩
    done
theorem cloneE_walk (p : Option Addr) (cap : Nat) (w : World) : Calls Tryd.prog 46 #[.slice p 0 cap] w fun e w' => ∃ q, e = .returned (.slice q 0 0) ∧ Below w.heap.size w w' := by
  have hq := eqNil 61 59 rfl p 0 cap w
  cases p with
  | none =>
    simp only [Option.isNone_none] at hq
    go_enter Tryd.func46, Tryd.ntmps46
    go_wp2
    go_ret
    exact ⟨none, rfl, Below.refl _ _⟩
  | some a =>
    simp only [Option.isNone_some] at hq
    go_enter Tryd.func46, Tryd.ntmps46
    go_wp2
    go_ret
    exact ⟨some _, rfl, (Below.refl _ _).alloc (Nat.le_refl _) _⟩
    done
end clK
theorem clone_nil {G : List (Nat × Value)} {f : FuncId} (hb : hasBody Tryd.prog f) (e : Ty) (h : ∀ (p : Option Addr) (cap : Nat) (w : World), Calls Tryd.prog f #[.slice p 0 cap] w fun ev w' => ∃ q, ev = .returned (.slice q 0 0) ∧ Below w.heap.size w w') (K : AV → List AO → Prop) (hK : K (.ref 0 0 0) [.row e []]) :
    ACall Tryd.prog G f [.fz (.list e) []] [] K := by
  refine ⟨trivial, fun c H hA hG vs hv => .inl ⟨hb, ?_⟩⟩
  obtain ⟨v, r, rfl, h1, h2⟩ := hv
  unfold RelL at h2
  subst h2
  obtain ⟨p, cap, rfl, _⟩ := rel_list h1
  refine (h p cap c.w).mono fun ev w' ⟨q, e1, e2⟩ => ?_
  obtain ⟨E1, H1⟩ := below_ext H e2
  obtain ⟨E2, H2, R⟩ := nilRow_sound (p := q) H1 e
  have hl : ({ c with w := w' } : Cx).A.length = 0 := by show c.A.length = 0; rw [hA]; rfl
  rw [hl] at R
  refine ⟨_, _, .ref 0 0 0, e1, rfl, E1.trans E2, H2, R, ?_⟩
  have : (({ c with w := w' } : Cx).nilRow e).A = [.row e []] := by show c.A ++ _ = _; rw [hA]; rfl
  rw [this]; exact hK
theorem cloneI_any (G : List (Nat × Value)) (xs : List Int) (hs : xs.length ≤ 1000000) (K : AV → List AO → Prop) (hK : K (.ref 0 0 xs.length) [.row int xs]) : ACall Tryd.prog G 54 [.fz (.list int) xs] [] K := by
  rcases Nat.eq_zero_or_pos xs.length with h0 | h0
  · obtain rfl := List.eq_nil_of_length_eq_zero h0
    exact clone_nil ⟨_, Tryd.func54, rfl, rfl⟩ int clK.cloneI_walk K hK
  · refine acall_mk (E := envAt G 8 0) (envOk _ _ _) Tryd.func54 rfl rfl rfl rfl rfl ?_
    (repeat' (first | exact trivial | exact fun h => h | refine And.intro ?_ ?_ | (intro hb; first | (simp at hb; done) | (simp at hb) | skip) | omega | exact rfl | exact Nat.le_refl _ | (show _ + 1 ≤ 4294967296; omega) | (dsimp only; omega) | (show (_ : Int) ≤ (_ : Int); omega) | (show _ < List.length _; simp only [List.length_set, List.length_append, List.length_take]; omega) | (show wantB _ _ = true; simp; done) | (show wantB _ _ = true; simp; omega) | (show (_ : Bool) = _; simp_all; done) | (exfalso; omega) | refine aRegion_auto (by decide +kernel) ?_ | fail))
    refine ⟨.ref 0 0 xs.length, [.row int xs], REnt.ren [1] rfl ?_ ?_, hK⟩
    · (repeat' (first | exact trivial | exact rfl | refine And.intro ?_ ?_))
    · (repeat' (first | exact trivial | exact rfl | refine And.intro ?_ ?_))
      exact congrArg (AV.ref 1 0) (Nat.zero_add _)
theorem cloneE_any (G : List (Nat × Value)) (xs : List E) (hs : xs.length ≤ 1000000) (K : AV → List AO → Prop) (hK : K (.ref 0 0 xs.length) [.row EdT xs]) : ACall Tryd.prog G 46 [.fz (.list EdT) xs] [] K := by
  rcases Nat.eq_zero_or_pos xs.length with h0 | h0
  · obtain rfl := List.eq_nil_of_length_eq_zero h0
    exact clone_nil ⟨_, Tryd.func46, rfl, rfl⟩ EdT clK.cloneE_walk K hK
  · refine acall_mk (E := envAt G 8 0) (envOk _ _ _) Tryd.func46 rfl rfl rfl rfl rfl ?_
    (repeat' (first | exact trivial | exact fun h => h | refine And.intro ?_ ?_ | (intro hb; first | (simp at hb; done) | (simp at hb) | skip) | omega | exact rfl | exact Nat.le_refl _ | (show _ + 1 ≤ 4294967296; omega) | (dsimp only; omega) | (show (_ : Int) ≤ (_ : Int); omega) | (show _ < List.length _; simp only [List.length_set, List.length_append, List.length_take]; omega) | (show wantB _ _ = true; simp; done) | (show wantB _ _ = true; simp; omega) | (show (_ : Bool) = _; simp_all; done) | (exfalso; omega) | refine aRegion_auto (by decide +kernel) ?_ | fail))
    refine ⟨.ref 0 0 xs.length, [.row EdT xs], REnt.ren [1] rfl ?_ ?_, hK⟩
    · (repeat' (first | exact trivial | exact rfl | refine And.intro ?_ ?_))
    · (repeat' (first | exact trivial | exact rfl | refine And.intro ?_ ?_))
      exact congrArg (AV.ref 1 0) (Nat.zero_add _)
end Go.Proofs.YtiflieijbmaocaaDoor
/-
  Desks: their tiles, what fades, what is done.
-/
namespace Go.Proofs.YtiflieijbmaocaaDoor
open Go Go.Ab Go.RowKit
set_option maxRecDepth 100000
open Dk
abbrev LI : Ty := .list int
abbrev TlT : Ty := .pair (.list (.int .u8)) .bool
abbrev Tl := List Int × Bool
abbrev dkB (W H : Int) (f : List Int) (n k m c : Nat) (cnt : Int) : AO := .box [.fz int W, .fz int H, .fz LI f, .fz int W, .fz int H, .ref 1 0 n, .ref 3 0 k, .ref 4 0 m, .ref 2 0 c, .fz int cnt]
/-- a desk, and what it has -/
abbrev dkA (W H : Int) (f now : List Int) (tl : List Tl) (L ad : List E) (cnt : Int) : List AO := [dkB W H f now.length L.length ad.length tl.length cnt, .row int now, .row TlT tl, .row EdT L, .row EdT ad]
/-- .. after one more edit -/
abbrev dkA' (W H : Int) (f now : List Int) (tl : List Tl) (L ad : List E) (cnt : Int) : List AO :=
  [.box [.fz int W, .fz int H, .fz LI f, .fz int W, .fz int H, .ref 1 0 now.length, .ref 5 0 L.length, .ref 6 0 ad.length, .ref 2 0 tl.length, .fz int cnt], .row int now, .row TlT tl, .dead, .dead, .row EdT L, .row EdT ad]
def til (W : Nat) : Nat := (W + 15) / 16
theorem tdiv_nat (a b : Nat) : Int.tdiv (a : Int) (b : Int) = ((a / b : Nat) : Int) := rfl
theorem tmod_nat (a b : Nat) : Int.tmod (a : Int) (b : Int) = ((a % b : Nat) : Int) := rfl
theorem til_eq (W : Nat) : Int.tdiv ((W : Int) + 16 - 1) 16 = (til W : Nat) := by
  rw [show (W : Int) + 16 - 1 = ((W + 15 : Nat) : Int) by omega]; rfl
theorem tiles_any (G : List (Nat × Value)) (W H : Nat) (f now : List Int) (tl : List Tl) (L ad : List E) (cnt : Int) (hW : W ≤ 128) (hH : H ≤ 128) (K : AV → List AO → Prop) (hK : K (.tup [.fz int (til W : Nat), .fz int (til H : Nat)]) (dkA W H f now tl L ad cnt)) :
    ACall Tryd.prog G 42 [.ptr 0 0] (dkA W H f now tl L ad cnt) K := by
  have t1 := til_eq W
  have t2 := til_eq H
  have t3 : til W ≤ 9 := by unfold til; omega
  have t4 : til H ≤ 9 := by unfold til; omega
  rw [← t1, ← t2] at hK
  refine acall_mk (E := envAt G 20 5) (envOk _ _ _) Tryd.func42 rfl rfl rfl rfl rfl ?_
  (repeat' (first | exact trivial | exact fun h => h | refine And.intro ?_ ?_ | (intro hb; first | (simp at hb; done) | (simp at hb) | skip) | omega | exact rfl | exact Nat.le_refl _ | (show _ + 1 ≤ 4294967296; omega) | (dsimp only; omega) | (show (_ : Int) ≤ (_ : Int); omega) | (show _ < List.length _; simp only [List.length_set, List.length_append, List.length_take]; omega) | (show wantB _ _ = true; simp; done) | (show wantB _ _ = true; simp; omega) | (show (_ : Bool) = _; simp_all; done) | (exfalso; omega) | refine aRegion_auto (by decide +kernel) ?_ | fail))
  exact ⟨_, _, REnt.refl _ _ _, hK⟩
/-- is a tile one of those that have the cell? -/
def fadeB (W cell i : Nat) : Bool := decide (i % til W * 16 ≤ cell % W ∧ cell % W ≤ i % til W * 16 + 16 ∧ i / til W * 16 ≤ cell / W ∧ cell / W ≤ i / til W * 16 + 16)
def fadeL (W cell k : Nat) (tl : List Tl) : List Tl := tl.mapIdx fun i t => if i < k ∧ fadeB W cell i = true then ([], false) else t
theorem fadeL_len (W cell k : Nat) (tl : List Tl) : (fadeL W cell k tl).length = tl.length := by simp [fadeL]
theorem fadeL_zero (W cell : Nat) (tl : List Tl) : fadeL W cell 0 tl = tl := by
  apply List.ext_getElem
  · simp [fadeL]
  · intro i h1 h2; simp [fadeL]
theorem fadeL_keep {W cell k : Nat} {tl : List Tl} (h : fadeB W cell k = false) : fadeL W cell (k + 1) tl = fadeL W cell k tl := by
  apply List.ext_getElem
  · simp [fadeL]
  · intro i h1 h2
    simp only [fadeL, List.getElem_mapIdx]
    by_cases e : i = k
    · subst e; simp [h]
    · have : (i < k + 1) ↔ (i < k) := by omega
      simp only [this]
theorem fadeL_set {W cell k : Nat} {tl : List Tl} (h : fadeB W cell k = true) : (fadeL W cell k tl).set k ([], false) = fadeL W cell (k + 1) tl := by
  apply List.ext_getElem
  · simp [fadeL]
  · intro i h1 h2
    rw [List.getElem_set]
    simp only [fadeL, List.getElem_mapIdx]
    by_cases e : k = i
    · subst e; simp [h]
    · rw [if_neg e]
      have : (i < k + 1) ↔ (i < k) := by omega
      simp only [this]
set_option maxHeartbeats 4000000 in
theorem fade_any (G : List (Nat × Value)) (W H : Nat) (f now : List Int) (tl : List Tl) (L ad : List E) (cnt : Int) (cell : Nat) (hW0 : 0 < W) (hW : W ≤ 128) (hH : H ≤ 128) (hc : cell < 1000000) (ht : tl.length ≤ 1000000) (K : AV → List AO → Prop)
    (hK : K (.tup []) (dkA W H f now (fadeL W cell tl.length tl) L ad cnt)) :
    ACall Tryd.prog G 51 [.ptr 0 0, .fz int cell] (dkA W H f now tl L ad cnt) K := by
  have hw : 0 < til W := by unfold til; omega
  have hw2 : til W ≤ 9 := by unfold til; omega
  have d1 := tdiv_nat cell W
  have d2 := tmod_nat cell W
  have d3 : cell / W ≤ cell := Nat.div_le_self _ _
  have d4 : 0 ≤ Int.tdiv (cell : Int) (W : Int) := by rw [d1]; exact Int.natCast_nonneg _
  refine acall_mk (E := envAt G 74 5) (envOk _ _ _) Tryd.func51 rfl rfl rfl rfl rfl ?_
  (repeat' (first | exact trivial | exact fun h => h | refine And.intro ?_ ?_ | (intro hb; first | (simp at hb; done) | (simp at hb) | skip) | omega | exact rfl | exact Nat.le_refl _ | (show _ + 1 ≤ 4294967296; omega) | (dsimp only; omega) | (show (_ : Int) ≤ (_ : Int); omega) | (show _ < List.length _; simp only [List.length_set, List.length_append, List.length_take]; omega) | (show wantB _ _ = true; simp; done) | (show wantB _ _ = true; simp; omega) | (show (_ : Bool) = _; simp_all; done) | (exfalso; omega) | refine aRegion_auto (by decide +kernel) ?_ | fail))
  refine acall_frame [0, 1, 2, 3, 4] (dkA W H f now tl L ad cnt) [.ptr 0 0] rfl ?_ ⟨rfl, rfl⟩ rfl (tiles_any _ W H f now tl L ad cnt hW hH _ ?_)
  · (repeat' (first | exact trivial | exact rfl | refine And.intro ?_ ?_))
  (repeat' (first | exact trivial | exact fun h => h | refine And.intro ?_ ?_ | (intro hb; first | (simp at hb; done) | (simp at hb) | skip) | omega | exact rfl | exact Nat.le_refl _ | (show _ + 1 ≤ 4294967296; omega) | (dsimp only; omega) | (show (_ : Int) ≤ (_ : Int); omega) | (show _ < List.length _; simp only [List.length_set, List.length_append, List.length_take]; omega) | (show wantB _ _ = true; simp; done) | (show wantB _ _ = true; simp; omega) | (show (_ : Bool) = _; simp_all; done) | (exfalso; omega) | refine aRegion_auto (by decide +kernel) ?_ | fail))
  refine ⟨Nat, fun k => ⟨[(0, .ptr 0 0), (4, .fz int (til W : Nat)), (6, .fz int (cell % W : Nat)), (7, .fz int (cell / W : Nat)), (34, .fz int tl.length), (35, .fz int k)], dkA W H f now (fadeL W cell k tl) L ad cnt⟩, fun k => k ≤ tl.length, fun k => tl.length - k, 0, Nat.zero_le _, Ent.sub ?_ ?_, ?_⟩
  · rw [fadeL_zero]; rfl
  · (repeat' (first | exact trivial | exact rfl | refine And.intro ?_ ?_))
  intro k hk
  have hk : k ≤ tl.length := hk
  have hl := fadeL_len W cell k tl
  show awp _ _ _ ⟨[(0, .ptr 0 0), (4, .fz int (til W : Nat)), (6, .fz int (cell % W : Nat)), (7, .fz int (cell / W : Nat)), (34, .fz int tl.length), (35, .fz int k)], dkA W H f now (fadeL W cell k tl) L ad cnt⟩
  by_cases hk2 : k < tl.length
  · obtain ⟨x, ex⟩ : ∃ x : Nat, x = k % til W := ⟨_, rfl⟩
    obtain ⟨y, ey⟩ : ∃ y : Nat, y = k / til W := ⟨_, rfl⟩
    have e1 : Int.tmod (k : Int) (til W : Nat) = (x : Int) := by rw [ex]; rfl
    have e2 : Int.tdiv (k : Int) (til W : Nat) = (y : Int) := by rw [ey]; rfl
    have e5 : (k : Int) / ((til W : Nat) : Int) = (y : Int) := by rw [ey]; rfl
    have e3 : x < 9 := by rw [ex]; exact Nat.lt_of_lt_of_le (Nat.mod_lt _ hw) hw2
    have e4 : y ≤ k := by rw [ey]; exact Nat.div_le_self _ _
    obtain ⟨p, ep⟩ : ∃ p : Nat, p = cell % W := ⟨_, rfl⟩
    obtain ⟨q, eq⟩ : ∃ q : Nat, q = cell / W := ⟨_, rfl⟩
    rw [← ep, ← eq]
    have hf : fadeB W cell k = decide (x * 16 ≤ p ∧ p ≤ x * 16 + 16 ∧ y * 16 ≤ q ∧ q ≤ y * 16 + 16) := by unfold fadeB; rw [ex, ey, ep, eq]
    (repeat' (first | exact trivial | exact fun h => h | refine And.intro ?_ ?_ | (intro hb; first | (simp at hb; done) | (simp at hb) | skip) | omega | exact rfl | exact Nat.le_refl _ | (show _ + 1 ≤ 4294967296; omega) | (dsimp only; omega) | (show (_ : Int) ≤ (_ : Int); omega) | (show _ < List.length _; simp only [List.length_set, List.length_append, List.length_take]; omega) | (show wantB _ _ = true; simp; done) | (show wantB _ _ = true; simp; omega) | (show (_ : Bool) = _; simp_all; done) | (exfalso; omega) | refine aRegion_auto (by decide +kernel) ?_ | fail))
    · rw [e1, e5] at hb
      have hf : fadeB W cell k = true := by rw [hf]; exact decide_eq_true ⟨by omega, by omega, by omega, by omega⟩
      refine ⟨k + 1, by show k + 1 ≤ tl.length; omega, by show tl.length - (k + 1) < tl.length - k; omega, Ent.sub ?_ ?_⟩
      · have h0 : (0 + Int.toNat (k : Int)) = k := by simp
        rw [h0, ← fadeL_set hf]
        (repeat' (first | exact rfl | refine cons_eq ?_ ?_))
        simp only [List.length_set]
      · (repeat' (first | exact trivial | exact rfl | refine And.intro ?_ ?_))
    · rw [e1, e5] at hb
      have hf : fadeB W cell k = false := by rw [hf]; exact decide_eq_false fun ⟨h1, h2, h3, h4⟩ => absurd (hb (by omega) (by omega) (by omega)) (by omega)
      refine ⟨k + 1, by show k + 1 ≤ tl.length; omega, by show tl.length - (k + 1) < tl.length - k; omega, Ent.sub ?_ ?_⟩
      · rw [fadeL_keep hf]
      · (repeat' (first | exact trivial | exact rfl | refine And.intro ?_ ?_))
  · have hk3 : k = tl.length := by omega
    subst hk3
    (repeat' (first | exact trivial | exact fun h => h | refine And.intro ?_ ?_ | (intro hb; first | (simp at hb; done) | (simp at hb) | skip) | omega | exact rfl | exact Nat.le_refl _ | (show _ + 1 ≤ 4294967296; omega) | (dsimp only; omega) | (show (_ : Int) ≤ (_ : Int); omega) | (show _ < List.length _; simp only [List.length_set, List.length_append, List.length_take]; omega) | (show wantB _ _ = true; simp; done) | (show wantB _ _ = true; simp; omega) | (show (_ : Bool) = _; simp_all; done) | (exfalso; omega) | refine aRegion_auto (by decide +kernel) ?_ | fail))
    exact ⟨_, _, REnt.refl _ _ _, hK⟩
end Go.Proofs.YtiflieijbmaocaaDoor
/-
  Desks: an edit put among the others.
-/
namespace Go.Proofs.YtiflieijbmaocaaDoor
open Go Go.Ab Go.RowKit
set_option maxRecDepth 100000
open Dk
/-- does a new edit show? -/
def lastB (L : List E) (e : E) : Bool := decide (pos L e = L.length ∨ (L.getD (pos L e) e).1 ≠ e.1)
/-- heights after a new edit -/
def nowP (now : List Int) (L : List E) (e : E) : List Int := if lastB L e = true ∧ now.getD e.1.toNat 0 ≠ e.2.1 then now.set e.1.toNat e.2.1 else now
def tlP (W : Nat) (now : List Int) (tl : List Tl) (L : List E) (e : E) : List Tl := if lastB L e = true ∧ now.getD e.1.toNat 0 ≠ e.2.1 then fadeL W e.1.toNat tl.length tl else tl
theorem ins_next (L : List E) (e : E) : (L.take (pos L e) ++ e :: L.drop (pos L e))[pos L e + 1]? = L[pos L e]? := by
  have hp := pos_le L e
  rw [List.getElem?_append_right (by rw [List.length_take]; omega), List.length_take, Nat.min_eq_left hp, show pos L e + 1 - pos L e = 0 + 1 by omega, List.getElem?_cons_succ, List.getElem?_drop]
  rfl
theorem last_iff (L : List E) (e d : E) : (((pos L e : Nat) : Int) = (L.length : Int) ∨ ¬((L.take (pos L e) ++ e :: L.drop (pos L e))[pos L e + 1]?.getD d).1 = e.1) ↔ lastB L e = true := by
  have hp := pos_le L e
  rw [ins_next]
  unfold lastB
  rw [decide_eq_true_iff, List.getD_eq_getElem?_getD]
  rcases Nat.lt_or_ge (pos L e) L.length with h | h
  · rw [List.getElem?_eq_getElem h]
    simp only [Option.getD_some]
    constructor <;> rintro (c | c)
    · omega
    · exact .inr c
    · omega
    · exact .inr c
  · have : pos L e = L.length := by omega
    simp [this]
set_option maxHeartbeats 8000000 in
theorem put_any (G : List (Nat × Value)) (W H : Nat) (f now : List Int) (tl : List Tl) (L ad : List E) (cnt : Int) (e : E) (hW0 : 0 < W) (hW : W ≤ 128) (hH : H ≤ 128) (hnow : now.length ≤ 16384) (hc0 : 0 ≤ e.1) (hc : e.1 < now.length) (ht : tl.length ≤ 1000000)
    (hs : Srt L) (hL : L.length ≤ 10000) (ha : ad.length ≤ 10000) (K : AV → List AO → Prop)
    (h1 : hasE L e = true → K (.tup []) (dkA W H f now tl L ad cnt))
    (h2 : hasE L e = false → K (.tup []) (dkA' W H f (nowP now L e) (tlP W now tl L e) (ins L e) (ad ++ [e]) cnt)) :
    ACall Tryd.prog G 37 [.ptr 0 0, .fz EdT e] (dkA W H f now tl L ad cnt) K := by
  have hp := pos_le L e
  have hil : (L.take (pos L e) ++ e :: L.drop (pos L e)).length = L.length + 1 := ins_len L e
  refine acall_mk (E := envAt G 89 5) (envOk _ _ _) Tryd.func37 rfl rfl rfl rfl rfl ?_
  (repeat' (first | exact trivial | exact fun h => h | refine And.intro ?_ ?_ | (intro hb; first | (simp at hb; done) | (simp at hb) | skip) | omega | exact rfl | exact Nat.le_refl _ | (show _ + 1 ≤ 4294967296; omega) | (dsimp only; omega) | (show (_ : Int) ≤ (_ : Int); omega) | (show _ < List.length _; simp only [List.length_set, List.length_append, List.length_take]; omega) | (show wantB _ _ = true; simp; done) | (show wantB _ _ = true; simp; omega) | (show (_ : Bool) = _; simp_all; done) | (exfalso; omega) | refine aRegion_auto (by decide +kernel) ?_ | fail))
  apply exEff
  · refine acall_conv [.keep, .dat EdT, .keep] _ _ _ rfl trivial (acall_frame [3] [.row EdT L] [.ref 0 0 L.length, .fz EdT e, .fn 36 []] rfl ?_ ⟨rfl, rfl⟩ rfl (search_any _ L L.length e hs rfl (by omega) _ ?_))
    · (repeat' (first | exact trivial | exact rfl | refine And.intro ?_ ?_))
    · exact ⟨rfl, rfl⟩
  (repeat' (first | exact trivial | exact fun h => h | refine And.intro ?_ ?_ | (intro hb; first | (simp at hb; done) | (simp at hb) | skip) | omega | exact rfl | exact Nat.le_refl _ | (show _ + 1 ≤ 4294967296; omega) | (dsimp only; omega) | (show (_ : Int) ≤ (_ : Int); omega) | (show _ < List.length _; simp only [List.length_set, List.length_append, List.length_take]; omega) | (show wantB _ _ = true; simp; done) | (show wantB _ _ = true; simp; omega) | (show (_ : Bool) = _; simp_all; done) | (exfalso; omega) | refine aRegion_auto (by decide +kernel) ?_ | fail))
  · refine ⟨_, _, REnt.ren [0, 1, 2, 3, 4] rfl ?_ ?_, h1 hb⟩
    · (repeat' (first | exact trivial | exact rfl | refine And.intro ?_ ?_))
    · (repeat' (first | exact trivial | exact rfl | refine And.intro ?_ ?_))
  (apply exEff; focus (repeat' (first | exact ⟨rfl, rfl⟩ | exact trivial | refine And.intro ?_ ?_ | omega | exact Nat.le_refl _ | (show _ + 1 ≤ 4294967296; omega))))
  (repeat' (first | exact trivial | exact fun h => h | refine And.intro ?_ ?_ | (intro hb; first | (simp at hb; done) | (simp at hb) | skip) | omega | exact rfl | exact Nat.le_refl _ | (show _ + 1 ≤ 4294967296; omega) | (dsimp only; omega) | (show (_ : Int) ≤ (_ : Int); omega) | (show _ < List.length _; simp only [List.length_set, List.length_append, List.length_take]; omega) | (show wantB _ _ = true; simp; done) | (show wantB _ _ = true; simp; omega) | (show (_ : Bool) = _; simp_all; done) | (exfalso; omega) | refine aRegion_auto (by decide +kernel) ?_ | fail))
  apply exEff
  · refine acall_frame [3, 6] [.row EdT L, .row EdT [e]] [.ref 0 0 L.length, .fz int (pos L e : Nat), .ref 1 0 1] rfl ?_ ⟨rfl, rfl⟩ rfl (insert_any _ L L.length (pos L e) e rfl hp (by omega) _ ?_)
    · (repeat' (first | exact trivial | exact rfl | refine And.intro ?_ ?_))
    · exact ⟨rfl, rfl⟩
  (repeat' (first | exact trivial | exact fun h => h | refine And.intro ?_ ?_ | (intro hb; first | (simp at hb; done) | (simp at hb) | skip) | omega | exact rfl | exact Nat.le_refl _ | (show _ + 1 ≤ 4294967296; omega) | (dsimp only; omega) | (show (_ : Int) ≤ (_ : Int); omega) | (show _ < List.length _; simp only [List.length_set, List.length_append, List.length_take]; omega) | (show wantB _ _ = true; simp; done) | (show wantB _ _ = true; simp; omega) | (show (_ : Bool) = _; simp_all; done) | (exfalso; omega) | refine aRegion_auto (by decide +kernel) ?_ | fail))
  (apply exEff; focus (repeat' (first | exact ⟨rfl, rfl⟩ | exact trivial | refine And.intro ?_ ?_ | omega | exact Nat.le_refl _ | (show _ + 1 ≤ 4294967296; omega))))
  (repeat' (first | exact trivial | exact fun h => h | refine And.intro ?_ ?_ | (intro hb; first | (simp at hb; done) | (simp at hb) | skip) | omega | exact rfl | exact Nat.le_refl _ | (show _ + 1 ≤ 4294967296; omega) | (dsimp only; omega) | (show (_ : Int) ≤ (_ : Int); omega) | (show _ < List.length _; simp only [List.length_set, List.length_append, List.length_take]; omega) | (show wantB _ _ = true; simp; done) | (show wantB _ _ = true; simp; omega) | (show (_ : Bool) = _; simp_all; done) | (exfalso; omega) | refine aRegion_auto (by decide +kernel) ?_ | fail))
  (apply exEff; focus (repeat' (first | exact ⟨rfl, rfl⟩ | exact trivial | refine And.intro ?_ ?_ | omega | exact Nat.le_refl _ | (show _ + 1 ≤ 4294967296; omega))))
  (repeat' (first | exact trivial | exact fun h => h | refine And.intro ?_ ?_ | (intro hb; first | (simp at hb; done) | (simp at hb) | skip) | omega | exact rfl | exact Nat.le_refl _ | (show _ + 1 ≤ 4294967296; omega) | (dsimp only; omega) | (show (_ : Int) ≤ (_ : Int); omega) | (show _ < List.length _; simp only [List.length_set, List.length_append, List.length_take]; omega) | (show wantB _ _ = true; simp; done) | (show wantB _ _ = true; simp; omega) | (show (_ : Bool) = _; simp_all; done) | (exfalso; omega) | refine aRegion_auto (by decide +kernel) ?_ | fail))
  (apply exEff; focus (repeat' (first | exact ⟨rfl, rfl⟩ | exact trivial | refine And.intro ?_ ?_ | omega | exact Nat.le_refl _ | (show _ + 1 ≤ 4294967296; omega))))
  (repeat' (first | exact trivial | exact fun h => h | refine And.intro ?_ ?_ | (intro hb; first | (simp at hb; done) | (simp at hb) | skip) | omega | exact rfl | exact Nat.le_refl _ | (show _ + 1 ≤ 4294967296; omega) | (dsimp only; omega) | (show (_ : Int) ≤ (_ : Int); omega) | (show _ < List.length _; simp only [List.length_set, List.length_append, List.length_take]; omega) | (show wantB _ _ = true; simp; done) | (show wantB _ _ = true; simp; omega) | (show (_ : Bool) = _; simp_all; done) | (exfalso; omega) | refine aRegion_auto (by decide +kernel) ?_ | fail))
  (apply exEff; focus (repeat' (first | exact ⟨rfl, rfl⟩ | exact trivial | refine And.intro ?_ ?_ | omega | exact Nat.le_refl _ | (show _ + 1 ≤ 4294967296; omega))))
  (repeat' (first | exact trivial | exact fun h => h | refine And.intro ?_ ?_ | (intro hb; first | (simp at hb; done) | (simp at hb) | skip) | omega | exact rfl | exact Nat.le_refl _ | (show _ + 1 ≤ 4294967296; omega) | (dsimp only; omega) | (show (_ : Int) ≤ (_ : Int); omega) | (show _ < List.length _; simp only [List.length_set, List.length_append, List.length_take]; omega) | (show wantB _ _ = true; simp; done) | (show wantB _ _ = true; simp; omega) | (show (_ : Bool) = _; simp_all; done) | (exfalso; omega) | refine aRegion_auto (by decide +kernel) ?_ | fail))
  · rw [last_iff] at hb
    have hbh : hasE L e = false := by assumption
    have hn1 : nowP now L e = now.set e.1.toNat e.2.1 := if_pos hb
    have hn2 : tlP W now tl L e = fadeL W e.1.toNat tl.length tl := if_pos hb
    rw [hn1, hn2] at h2
    (apply exEff; focus (repeat' (first | exact ⟨rfl, rfl⟩ | exact trivial | refine And.intro ?_ ?_ | omega | exact Nat.le_refl _ | (show _ + 1 ≤ 4294967296; omega))))
    (repeat' (first | exact trivial | exact fun h => h | refine And.intro ?_ ?_ | (intro hb; first | (simp at hb; done) | (simp at hb) | skip) | omega | exact rfl | exact Nat.le_refl _ | (show _ + 1 ≤ 4294967296; omega) | (dsimp only; omega) | (show (_ : Int) ≤ (_ : Int); omega) | (show _ < List.length _; simp only [List.length_set, List.length_append, List.length_take]; omega) | (show wantB _ _ = true; simp; done) | (show wantB _ _ = true; simp; omega) | (show (_ : Bool) = _; simp_all; done) | (exfalso; omega) | refine aRegion_auto (by decide +kernel) ?_ | fail))
    refine acall_frame [0, 1, 2, 7, 9] (dkA W H f (now.set e.1.toNat e.2.1) tl (ins L e) (ad ++ [e]) cnt) [.ptr 0 0, .fz int (e.1.toNat : Nat)] rfl ?_ ⟨rfl, rfl⟩ ?_ (fade_any _ W H f (now.set e.1.toNat e.2.1) tl (ins L e) (ad ++ [e]) cnt e.1.toNat hW0 hW hH (by omega) ht _ ?_)
    · (repeat' (first | exact trivial | exact rfl | refine And.intro ?_ ?_))
      · rw [List.length_set, ins_len, List.length_append]; rfl
      · exact congrArg (fun z => some (AO.row int (now.set z e.2.1))) (Nat.zero_add _)
      · exact congrArg (fun z => some (AO.row EdT (z ++ [e]))) List.take_length
    · exact congrArg (fun z => [AV.ptr 0 0, AV.fz int z]) (show e.1 = ((e.1.toNat : Nat) : Int) by omega)
    (repeat' (first | exact trivial | exact fun h => h | refine And.intro ?_ ?_ | (intro hb; first | (simp at hb; done) | (simp at hb) | skip) | omega | exact rfl | exact Nat.le_refl _ | (show _ + 1 ≤ 4294967296; omega) | (dsimp only; omega) | (show (_ : Int) ≤ (_ : Int); omega) | (show _ < List.length _; simp only [List.length_set, List.length_append, List.length_take]; omega) | (show wantB _ _ = true; simp; done) | (show wantB _ _ = true; simp; omega) | (show (_ : Bool) = _; simp_all; done) | (exfalso; omega) | refine aRegion_auto (by decide +kernel) ?_ | fail))
    refine ⟨_, _, REnt.ren [0, 1, 2, 3, 4, 7, 9] rfl ?_ ?_, h2 hbh⟩
    · (repeat' (first | exact trivial | exact rfl | refine And.intro ?_ ?_))
    · (repeat' (first | exact trivial | exact rfl | refine And.intro ?_ ?_))
  · rw [last_iff] at hb
    have hbh : hasE L e = false := by assumption
    have hn1 : nowP now L e = now := if_neg fun h => h.2 (hb h.1)
    have hn2 : tlP W now tl L e = tl := if_neg fun h => h.2 (hb h.1)
    rw [hn1, hn2] at h2
    refine ⟨_, _, REnt.ren [0, 1, 2, 3, 4, 7, 9] rfl ?_ ?_, h2 hbh⟩
    · (repeat' (first | exact trivial | exact rfl | refine And.intro ?_ ?_))
      · rw [ins_len, List.length_append]; rfl
      · exact congrArg (fun z => some (AO.row EdT (z ++ [e]))) List.take_length
    · (repeat' (first | exact trivial | exact rfl | refine And.intro ?_ ?_))
end Go.Proofs.YtiflieijbmaocaaDoor
/-
  errors.Is of two errors of errors.New's make.
-/
namespace Go.Proofs.YtiflieijbmaocaaDoor.isK
open Go Go.RowKit Go.Extern.Stop Go.Stop Go.Extern
set_option maxRecDepth 100000
theorem typeOf (v : Value) (w : World) : (Extern.ReflectliteType.typeOf #[.iface 137 v]).run Tryd.prog w = .ok (.iface 122 (.agg #[.pointer (some ⟨10, 137, none⟩)])) w := by kernel_rfl
theorem comparable (w : World) : ((Extern.ReflectliteType.method fun t => do Extern.Rtype.noPackHeld "Comparable" t; (fun a => Value.bool a.comparable) <$> typeInfo t) #[.agg #[.pointer (some ⟨10, 137, none⟩)]]).run Tryd.prog w = .ok (.bool true) w := by kernel_rfl
theorem mComparable (v : Value) (w : World) : (Go.method 271 122 v "Comparable").run Tryd.prog w = .ok (96, v) w := by kernel_rfl
theorem comp : (Tryd.prog.info? 137).map (·.comparable) = some true := by kernel_rfl
theorem size : (Tryd.prog.info? 159).map (·.size) = some 1 := by kernel_rfl
theorem noIs (v : Value) (xT : TypeId) (w : World) : (Instr.typeAssert (.iface 137 v) xT 133 true).run Tryd.prog w = .ok (.tuple #[.nilIface, .bool false]) w := run_typeAssert_lacksB Tryd.underlying133 (by kernel_rfl) (by kernel_rfl) v xT w
theorem noUnwrap (v : Value) (xT : TypeId) (w : World) : (Instr.typeAssert (.iface 137 v) xT 129 true).run Tryd.prog w = .ok (.tuple #[.nilIface, .bool false]) w := run_typeAssert_lacksB Tryd.underlying129 (by kernel_rfl) (by kernel_rfl) v xT w
theorem noUnwraps (v : Value) (xT : TypeId) (w : World) : (Instr.typeAssert (.iface 137 v) xT 131 true).run Tryd.prog w = .ok (.tuple #[.nilIface, .bool false]) w := run_typeAssert_lacksB Tryd.underlying131 (by kernel_rfl) (by kernel_rfl) v xT w
/-- errors.Is(x, x), x a pointer to an errors.errorString. -/
theorem is_same (a : Addr) (w : World) :
    Calls Tryd.prog 45 #[.iface 137 (.pointer (some a)), .iface 137 (.pointer (some a))] w fun e w' => e = .returned (.bool true) ∧ w' = w := by
  obtain ⟨i, hi, hcmp⟩ := Option.map_eq_some_iff.1 comp
  obtain ⟨j, hj, hjs⟩ := Option.map_eq_some_iff.1 size
  have h8 := @run_callFunc_extern Tryd.prog 59 _ Extern.ReflectliteType.typeOf Tryd.func59 (by kernel_rfl) (by kernel_rfl) (by kernel_rfl) (by kernel_rfl)
  have h32 := @run_callFunc_extern Tryd.prog 96 _ (Extern.ReflectliteType.method fun t => do Extern.Rtype.noPackHeld "Comparable" t; pure (.bool (← typeInfo t).comparable)) Tryd.func96 (by kernel_rfl) (by kernel_rfl) (by kernel_rfl) (by kernel_rfl)
  have tT := typeOf
  have cT := comparable
  have mR := mComparable
  have heq := run_eql_iface_ptr_same (P := Tryd.prog) w a Tryd.underlying39 Tryd.underlying137 hi hcmp hj
  go_enter Tryd.func45, Tryd.ntmps45
  go_wp2
  refine wp_loop_rounds 1 ?_
  rw [rounds_succ]
  go_wp2
  go_ret
  exact ⟨rfl, rfl⟩
/-- errors.Is(x, y), two different pointers to errors.errorString. -/
theorem is_other (a b : Addr) (ca cb : Array Value) (ta tb : TypeId) (w : World) (hne : a ≠ b) (ha : w.heap[a.block]? = some (.cells ca ta (0, 0))) (hb : w.heap[b.block]? = some (.cells cb tb (0, 0))) :
    Calls Tryd.prog 45 #[.iface 137 (.pointer (some a)), .iface 137 (.pointer (some b))] w fun e w' => e = .returned (.bool false) ∧ w' = w := by
  obtain ⟨i, hi, hcmp⟩ := Option.map_eq_some_iff.1 comp
  obtain ⟨j, hj, hjs⟩ := Option.map_eq_some_iff.1 size
  have h8 := @run_callFunc_extern Tryd.prog 59 _ Extern.ReflectliteType.typeOf Tryd.func59 (by kernel_rfl) (by kernel_rfl) (by kernel_rfl) (by kernel_rfl)
  have h32 := @run_callFunc_extern Tryd.prog 96 _ (Extern.ReflectliteType.method fun t => do Extern.Rtype.noPackHeld "Comparable" t; pure (.bool (← typeInfo t).comparable)) Tryd.func96 (by kernel_rfl) (by kernel_rfl) (by kernel_rfl) (by kernel_rfl)
  have tT := typeOf
  have cT := comparable
  have mR := mComparable
  have nE := noIs
  have uE := noUnwrap
  have vE := noUnwraps
  have heq := run_eql_iface_ptr_other (P := Tryd.prog) w Tryd.underlying39 Tryd.underlying137 hi hcmp hj (by rw [hjs]; decide) hne ha hb
  go_enter Tryd.func45, Tryd.ntmps45
  go_wp2
  refine wp_loop_rounds 1 ?_
  rw [rounds_succ]
  go_wp2
  go_ret
  exact ⟨rfl, rfl⟩
end Go.Proofs.YtiflieijbmaocaaDoor.isK
/-
  errors.As of an error of errors.New's make, asked for a *api.Fault: false; only new blocks are laid.
-/
namespace Go.Proofs.YtiflieijbmaocaaDoor.asK
open Go Go.RowKit Go.Extern.Stop Go.Stop Go.Extern
set_option maxRecDepth 100000
theorem valueOfPP (t : Addr) (w : World) : (ReflectliteValue.unpack (.iface 88 (.pointer (some t)))).run Tryd.prog w
    = .ok (.agg #[.pointer (some ⟨10, 88, none⟩), .pointer (some ⟨w.heap.size, 0, none⟩), .int .u64 150]) (w.alloc (.cells #[.pointer (some t)] 88)) := by kernel_rfl
theorem typePP (a : Addr) (w : World) : (ReflectliteValue.methodAny (ReflectliteValue.valueError "reflectlite.Value.Type" 0) (fun t _ _ _ => ReflectliteType.toType t) #[.agg #[.pointer (some ⟨10, 88, none⟩), .pointer (some a), .int .u64 150]]).run Tryd.prog w
    = .ok (.iface 122 (.agg #[.pointer (some ⟨10, 88, none⟩)])) w := by kernel_rfl
theorem mKind (h : Value) (w : World) : (Go.method 271 122 (.agg #[h]) "Kind").run Tryd.prog w = .ok (85, h) w := by kernel_rfl
theorem kindPP (w : World) : ((ReflectliteType.abiMethod fun t => (fun a : Nat => Value.int IntKind.u8 (a : Int)) <$> Rtype.kind t) #[.pointer (some ⟨10, 88, none⟩)]).run Tryd.prog w = .ok (.int .u8 22) w := by kernel_rfl
theorem kindP (w : World) : ((ReflectliteType.abiMethod fun t => (fun a : Nat => Value.int IntKind.u8 (a : Int)) <$> Rtype.kind t) #[.pointer (some ⟨10, 86, none⟩)]).run Tryd.prog w = .ok (.int .u8 22) w := by kernel_rfl
theorem rlm (z : Sem Value) (f : TypeId → Addr → Nat → Nat → Sem Value) (v : Value) :
    ReflectliteValue.method z f #[v] = (do match ← ReflectliteValue.parts v with | none => z | some (t, a, fl) => f t a fl (fl % 32)) := rfl
theorem partsPP (a : Addr) (w : World) : (ReflectliteValue.parts (.agg #[.pointer (some ⟨10, 88, none⟩), .pointer (some a), .int .u64 150])).run Tryd.prog w = .ok (some (88, a, 150)) w := by kernel_rfl
theorem isNilPP (a p : Addr) (W : World) (ha : W.cell? a = some (.pointer (some p))) :
    (ReflectliteValue.method (ReflectliteValue.valueError "reflectlite.Value.IsNil" 0) ReflectliteValue.isNil #[.agg #[.pointer (some ⟨10, 88, none⟩), .pointer (some a), .int .u64 150]]).run Tryd.prog W = .ok (.bool false) W := by
  rw [rlm]
  simp only [Sem.run_bind, partsPP, Result.andThen]
  simp [ReflectliteValue.isNil, loadVar, isAgg, underlying, Tryd.underlying88, ha, Result.andThen]
theorem mElem (h : Value) (w : World) : (Go.method 271 122 (.agg #[h]) "Elem").run Tryd.prog w = .ok (97, .agg #[h]) w := by kernel_rfl
theorem mImplements (h : Value) (w : World) : (Go.method 271 122 (.agg #[h]) "Implements").run Tryd.prog w = .ok (98, .agg #[h]) w := by kernel_rfl
theorem mAssignableTo (h : Value) (w : World) : (Go.method 271 122 (.agg #[h]) "AssignableTo").run Tryd.prog w = .ok (95, .agg #[h]) w := by kernel_rfl
theorem elemPP (w : World) : (ReflectliteType.method ReflectliteType.elem #[.agg #[.pointer (some ⟨10, 88, none⟩)]]).run Tryd.prog w = .ok (.iface 122 (.agg #[.pointer (some ⟨10, 86, none⟩)])) w := by kernel_rfl
theorem implementsP (w : World) : (ReflectliteType.relation "Implements" ReflectliteType.implements_ #[.agg #[.pointer (some ⟨10, 86, none⟩)], .iface 122 (.agg #[.pointer (some ⟨10, 39, none⟩)])]).run Tryd.prog w = .ok (.bool true) w := by kernel_rfl
theorem typeOfE (v : Value) (w : World) : (ReflectliteType.typeOf #[.iface 137 v]).run Tryd.prog w = .ok (.iface 122 (.agg #[.pointer (some ⟨10, 137, none⟩)])) w := by kernel_rfl
theorem assignableE (w : World) : (ReflectliteType.relation "AssignableTo" ReflectliteType.assignableTo #[.agg #[.pointer (some ⟨10, 137, none⟩)], .iface 122 (.agg #[.pointer (some ⟨10, 86, none⟩)])]).run Tryd.prog w = .ok (.bool false) w := by kernel_rfl
theorem noAs (v : Value) (xT : TypeId) (w : World) : (Instr.typeAssert (.iface 137 v) xT 126 true).run Tryd.prog w = .ok (.tuple #[.nilIface, .bool false]) w := run_typeAssert_lacksB Tryd.underlying126 (by kernel_rfl) (by kernel_rfl) v xT w
/-- the handle of type error, as errors.errorType holds it -/
def errType : Value := .iface 122 (.agg #[.pointer (some ⟨10, 39, none⟩)])
set_option maxHeartbeats 4000000 in
theorem as_other (e t : Addr) (w : World) (hg : w.cell? ⟨8, 0, none⟩ = some (.iface 122 (.agg #[.pointer (some ⟨10, 39, none⟩)]))) :
    Calls Tryd.prog 44 #[.iface 137 (.pointer (some e)), .iface 88 (.pointer (some t))] w fun ev w' => ev = .returned (.bool false) ∧ w' = ((w.alloc (.cells #[.pointer (some t)] 88)).alloc (.cells #[.pointer (some ⟨10, 88, none⟩), .pointer (some ⟨w.heap.size, 0, none⟩), .int .u64 150] 105)).alloc (.cells #[.pointer (some ⟨10, 88, none⟩), .pointer (some ⟨w.heap.size, 0, none⟩), .int .u64 150] 105) := by
  have h6 := @run_callFunc_extern Tryd.prog 55 _ (fun args => ReflectliteValue.unpack (args.getD 0 (.tuple #[]))) Tryd.func55 (by kernel_rfl) (by kernel_rfl) (by kernel_rfl) (by kernel_rfl)
  have h7 := @run_callFunc_extern Tryd.prog 56 _ (ReflectliteValue.methodAny (ReflectliteValue.valueError "reflectlite.Value.Type" 0) (fun t _ _ _ => ReflectliteType.toType t)) Tryd.func56 (by kernel_rfl) (by kernel_rfl) (by kernel_rfl) (by kernel_rfl)
  have h8 := @run_callFunc_extern Tryd.prog 57 _ (ReflectliteValue.method (ReflectliteValue.valueError "reflectlite.Value.IsNil" 0) ReflectliteValue.isNil) Tryd.func57 (by kernel_rfl) (by kernel_rfl) (by kernel_rfl) (by kernel_rfl)
  have h27 := @run_callFunc_extern Tryd.prog 85 _ (ReflectliteType.abiMethod fun t => do pure (.int .u8 (← Rtype.kind t))) Tryd.func85 (by kernel_rfl) (by kernel_rfl) (by kernel_rfl) (by kernel_rfl)
  have h37 := @run_callFunc_extern Tryd.prog 97 _ (ReflectliteType.method ReflectliteType.elem) Tryd.func97 (by kernel_rfl) (by kernel_rfl) (by kernel_rfl) (by kernel_rfl)
  have h38 := @run_callFunc_extern Tryd.prog 98 _ (ReflectliteType.relation "Implements" ReflectliteType.implements_) Tryd.func98 (by kernel_rfl) (by kernel_rfl) (by kernel_rfl) (by kernel_rfl)
  have h10 := @run_callFunc_extern Tryd.prog 59 _ ReflectliteType.typeOf Tryd.func59 (by kernel_rfl) (by kernel_rfl) (by kernel_rfl) (by kernel_rfl)
  have h35 := @run_callFunc_extern Tryd.prog 95 _ (ReflectliteType.relation "AssignableTo" ReflectliteType.assignableTo) Tryd.func95 (by kernel_rfl) (by kernel_rfl) (by kernel_rfl) (by kernel_rfl)
  have tO := typeOfE
  have mA := mAssignableTo
  have aE := assignableE
  have f6 := valueOfPP
  have f7 := typePP
  have mK := mKind
  have mE := mElem
  have mI := mImplements
  have k27 := kindPP
  have k25 := kindP
  have e27 := elemPP
  have i25 := implementsP
  have nA := noAs
  have uE := isK.noUnwrap
  have vE := isK.noUnwraps
  have n8 := isNilPP ⟨w.heap.size, 0, none⟩ t ((w.alloc (.cells #[.pointer (some t)] 88)).alloc (.cells #[.pointer (some ⟨10, 88, none⟩), .pointer (some ⟨w.heap.size, 0, none⟩), .int .u64 150] 105)) (by simp)
  have hlt : 8 < w.heap.size := by
    rcases Nat.lt_or_ge 8 w.heap.size with h' | h'
    · exact h'
    · simp [World.cell?, Array.getElem?_eq_none h'] at hg
  have hg2 : ((w.alloc (.cells #[.pointer (some t)] 88)).alloc (.cells #[.pointer (some ⟨10, 88, none⟩), .pointer (some ⟨w.heap.size, 0, none⟩), .int .u64 150] 105)).cell? ⟨8, 0, none⟩ = some (.iface 122 (.agg #[.pointer (some ⟨10, 39, none⟩)])) := by
    rw [World.cell?_alloc_lt _ _ ⟨8, 0, none⟩ (by simp; omega), World.cell?_alloc_lt _ _ ⟨8, 0, none⟩ hlt]; exact hg
  go_enter Tryd.func44, Tryd.ntmps44
  go_wp2
  refine wp_loop_rounds 1 ?_
  rw [rounds_succ]
  go_wp2
  go_ret
  exact ⟨rfl, rfl⟩
end Go.Proofs.YtiflieijbmaocaaDoor.asK
/-
  errors.Is, errors.As, plain.Code of plain errors, as contracts.
-/
namespace Go.Proofs.YtiflieijbmaocaaDoor
open Go Go.Ab Go.RowKit
set_option maxRecDepth 100000
/-- all errors, and the handle that errors.As looks at -/
def EL (E : Errs) : List Addr := [E.text, E.bound, E.shape, E.range, E.name, E.none, E.order, E.file]
abbrev G8 (E : Errs) : List (Nat × Value) := [(0, errV E.shape), (3, errV E.range), (1, errV E.bound), (2, errV E.text), (4, errV E.name), (5, errV E.none), (6, errV E.order), (7, errV E.file), (8, asK.errType)]
theorem gk_sub {E : Errs} (g : Nat) (v : Value) (h : gk (GE E) g = some v) : gk (G8 E) g = some v := by
  unfold GE gk at h
  unfold G8 gk
  split at h
  · rename_i e; rw [if_pos e]; exact h
  rename_i e; rw [if_neg e]
  unfold gk at h ⊢
  split at h
  · rename_i e; rw [if_pos e]; exact h
  rename_i e; rw [if_neg e]
  unfold gk at h ⊢
  split at h
  · rename_i e; rw [if_pos e]; exact h
  · cases h
theorem up8 {E : Errs} {f : FuncId} {args : List AV} {A : List AO} {K : AV → List AO → Prop} (h : ACall Tryd.prog (GE E) f args A K) : ACall Tryd.prog (G8 E) f args A K := acall_more h gk_sub
/-- the errors that a law tells apart; 0: nil -/
def er (E : Errs) (e : Nat) : Value := match e with
  | 0 => .nilIface
  | 1 => errV E.text
  | 2 => errV E.bound
  | 3 => errV E.shape
  | 4 => errV E.range
  | 5 => errV E.name
  | 6 => errV E.none
  | 7 => errV E.order
  | _ => errV E.file
def ea (E : Errs) (e : Nat) : Addr := match e with
  | 0 => E.text
  | 1 => E.text
  | 2 => E.bound
  | 3 => E.shape
  | 4 => E.range
  | 5 => E.name
  | 6 => E.none
  | 7 => E.order
  | _ => E.file
theorem er_ea (E : Errs) {e : Nat} (h : 0 < e) : er E e = errV (ea E e) := by
  unfold er ea; split <;> first | omega | rfl
theorem er_in (E : Errs) {e : Nat} (h : 0 < e) (h8 : e ≤ 8) : ∃ g, gk (G8 E) g = some (errV (ea E e)) := by
  obtain rfl | rfl | rfl | rfl | rfl | rfl | rfl | rfl : e = 1 ∨ e = 2 ∨ e = 3 ∨ e = 4 ∨ e = 5 ∨ e = 6 ∨ e = 7 ∨ e = 8 := by omega
  · exact ⟨2, rfl⟩
  · exact ⟨1, rfl⟩
  · exact ⟨0, rfl⟩
  · exact ⟨3, rfl⟩
  · exact ⟨4, rfl⟩
  · exact ⟨5, rfl⟩
  · exact ⟨6, rfl⟩
  · exact ⟨7, rfl⟩
theorem ea_at (E : Errs) {e : Nat} (h : 0 < e) (h8 : e ≤ 8) : (EL E)[e - 1]? = some (ea E e) := by
  obtain rfl | rfl | rfl | rfl | rfl | rfl | rfl | rfl : e = 1 ∨ e = 2 ∨ e = 3 ∨ e = 4 ∨ e = 5 ∨ e = 6 ∨ e = 7 ∨ e = 8 := by omega
  all_goals rfl
theorem ea_ne {E : Errs} (hE : (EL E).Nodup) {e d : Nat} (h : 0 < e) (h8 : e ≤ 8) (k : 0 < d) (k8 : d ≤ 8) (hne : e ≠ d) : ea E e ≠ ea E d := by
  intro he
  have h1 := ea_at E h h8
  have h2 := ea_at E k k8
  rw [he] at h1
  have h3 : e - 1 = d - 1 := by
    have hl : e - 1 < (EL E).length := by show e - 1 < 8; omega
    exact (List.getElem?_inj hl hE).1 (h1.trans h2.symm)
  omega
theorem errIs_any {E : Errs} (hE : (EL E).Nodup) {e d : Nat} (h : 0 < e) (h8 : e ≤ 8) (k : 0 < d) (k8 : d ≤ 8) (A : List AO) (K : AV → List AO → Prop) (hK : K (.fz .bool (decide (e = d))) A) :
    ACall Tryd.prog (G8 E) 45 [.fz .raw (errV (ea E e)), .fz .raw (errV (ea E d))] A K := by
  refine acall_below ⟨_, Tryd.func45, rfl, rfl⟩ (fun c H hA hG vs hv => ?_) hK
  obtain ⟨v, r, rfl, h1, v2, r2, rfl, h2, h3⟩ := hv
  unfold RelL at h3
  subst h3
  rw [(rel_raw rfl).1 h1, (rel_raw rfl).1 h2]
  by_cases he : e = d
  · subst he
    refine (isK.is_same _ _).mono fun x w' ⟨e1, e2⟩ => ⟨_, e1, by rw [e2]; exact Below.refl _ _, fun c' _ _ => ?_⟩
    rw [rel_bool]; simp
  · obtain ⟨g1, q1⟩ := er_in E h h8
    obtain ⟨g2, q2⟩ := er_in E k k8
    obtain ⟨_, cs1, t1, j1⟩ := (H.glo g1 _ (by rw [hG]; exact q1)).tgt _ _ rfl
    obtain ⟨_, cs2, t2, j2⟩ := (H.glo g2 _ (by rw [hG]; exact q2)).tgt _ _ rfl
    refine (isK.is_other _ _ _ _ _ _ _ (ea_ne hE h h8 k k8 he) j1 j2).mono fun x w' ⟨e1, e2⟩ => ⟨_, e1, by rw [e2]; exact Below.refl _ _, fun c' _ _ => ?_⟩
    rw [rel_bool]; simp [he]
theorem errAs_any {E : Errs} (a : Addr) (vs : List AV) (K : AV → List AO → Prop) (hK : K (.fz .bool false) [.box vs]) :
    ACall Tryd.prog (G8 E) 44 [.fz .raw (errV a), .ifc 88 (.ptr 0 0)] [.box vs] K := by
  refine acall_below ⟨_, Tryd.func44, rfl, rfl⟩ (fun c H hA hG vs hv => ?_) hK
  obtain ⟨v, r, rfl, h1, v2, r2, rfl, h2, h3⟩ := hv
  unfold RelL at h3
  subst h3
  rw [(rel_raw rfl).1 h1]
  obtain ⟨u, rfl, h2⟩ := h2
  unfold Rel at h2
  rw [hA] at h2
  obtain ⟨b, _, rfl⟩ := h2
  have hg := (H.glo 8 asK.errType (by rw [hG]; rfl)).cell
  refine (asK.as_other _ _ _ hg).mono fun x w' ⟨e1, e2⟩ => ⟨_, e1, ?_, fun c' _ _ => rel_bool.2 rfl⟩
  subst e2
  exact (((Below.refl _ _).alloc (Nat.le_refl _) _).alloc (by simp) _).alloc (by simp; omega) _
end Go.Proofs.YtiflieijbmaocaaDoor
/-
  plain.Code, coded: what number an error has.
-/
namespace Go.Proofs.YtiflieijbmaocaaDoor
open Go Go.Ab Go.RowKit
set_option maxRecDepth 100000
theorem code_nil (E : Errs) (K : AV → List AO → Prop) (hK : K (.tup [.fz int 0, .fz int (-1)]) []) : ACall Tryd.prog (G8 E) 29 [.fz .raw .nilIface] [] K := by
  refine acall_mk (E := envAt (G8 E) 39 0) (envOk _ _ _) Tryd.func29 rfl rfl rfl rfl rfl ?_
  (repeat' (first | exact trivial | exact fun h => h | refine And.intro ?_ ?_ | (intro hb; first | (simp at hb; done) | (simp at hb) | skip) | omega | exact rfl | exact Nat.le_refl _ | (show _ + 1 ≤ 4294967296; omega) | (dsimp only; omega) | (show (_ : Int) ≤ (_ : Int); omega) | (show _ < List.length _; simp only [List.length_set, List.length_append, List.length_take]; omega) | (show wantB _ _ = true; simp; done) | (show wantB _ _ = true; simp; omega) | (show (_ : Bool) = _; simp_all; done) | (exfalso; omega) | refine aRegion_auto (by decide +kernel) ?_ | refine ⟨_, _, REnt.drop ⟨rfl, rfl⟩, ?_⟩ | fail))
  exact hK
abbrev errs (E : Errs) : List Value := [errV E.text, errV E.bound, errV E.shape, errV E.range, errV E.name, errV E.none, errV E.order, errV E.file]
theorem errs_at (E : Errs) {k : Nat} (h : k < 8) : List.getD (errs E) k (Ty.dft .raw) = errV (ea E (k + 1)) := by
  obtain rfl | rfl | rfl | rfl | rfl | rfl | rfl | rfl : k = 0 ∨ k = 1 ∨ k = 2 ∨ k = 3 ∨ k = 4 ∨ k = 5 ∨ k = 6 ∨ k = 7 := by omega
  all_goals rfl
set_option maxHeartbeats 4000000 in
theorem code_any {E : Errs} (hE : (EL E).Nodup) {e : Nat} (h : 0 < e) (h8 : e ≤ 8) (K : AV → List AO → Prop) (hK : K (.tup [.fz int e, .fz int (-1)]) []) :
    ACall Tryd.prog (G8 E) 29 [.fz .raw (errV (ea E e))] [] K := by
  refine acall_mk (E := envAt (G8 E) 39 0) (envOk _ _ _) Tryd.func29 rfl rfl rfl rfl rfl ?_
  (repeat' (first | exact trivial | exact fun h => h | refine And.intro ?_ ?_ | (intro hb; first | (simp at hb; done) | (simp at hb) | skip) | omega | exact rfl | exact Nat.le_refl _ | (show _ + 1 ≤ 4294967296; omega) | (dsimp only; omega) | (show (_ : Int) ≤ (_ : Int); omega) | (show _ < List.length _; simp only [List.length_set, List.length_append, List.length_take]; omega) | (show wantB _ _ = true; simp; done) | (show wantB _ _ = true; simp; omega) | (show (_ : Bool) = _; simp_all; done) | (exfalso; omega) | refine aRegion_auto (by decide +kernel) ?_ | refine ⟨_, _, REnt.drop ⟨rfl, rfl⟩, ?_⟩ | fail))
  refine acall_frame [0] [.box [.fz .raw (.pointer none)]] [.fz .raw (errV (ea E e)), .ifc 88 (.ptr 0 0)] rfl ⟨⟨rfl, rfl⟩, trivial⟩ ⟨rfl, rfl⟩ rfl (errAs_any (ea E e) _ _ ?_)
  (repeat' (first | exact trivial | exact fun h => h | refine And.intro ?_ ?_ | (intro hb; first | (simp at hb; done) | (simp at hb) | skip) | omega | exact rfl | exact Nat.le_refl _ | (show _ + 1 ≤ 4294967296; omega) | (dsimp only; omega) | (show (_ : Int) ≤ (_ : Int); omega) | (show _ < List.length _; simp only [List.length_set, List.length_append, List.length_take]; omega) | (show wantB _ _ = true; simp; done) | (show wantB _ _ = true; simp; omega) | (show (_ : Bool) = _; simp_all; done) | (exfalso; omega) | refine aRegion_auto (by decide +kernel) ?_ | refine ⟨_, _, REnt.drop ⟨rfl, rfl⟩, ?_⟩ | fail))
  refine ⟨Nat, fun k => ⟨[(0, .fz .raw (errV (ea E e))), (3, .fz int (-1)), (24, .ref 1 0 8), (25, .fz int 8), (26, .fz int k)], [.box [.fz .raw (.pointer none)], .row .raw (errs E)]⟩, fun k => k < e, fun k => e - k, 0, h, Ent.sub rfl ?_, ?_⟩
  · (repeat' (first | exact trivial | exact rfl | refine And.intro ?_ ?_))
  intro k hk
  have hk8 : 0 + Int.toNat (k : Int) < (errs E).length := by show 0 + Int.toNat (k : Int) < 8; omega
  (repeat' (first | exact trivial | exact fun h => h | refine And.intro ?_ ?_ | (intro hb; first | (simp at hb; done) | (simp at hb) | skip) | omega | exact rfl | exact Nat.le_refl _ | (show _ + 1 ≤ 4294967296; omega) | (dsimp only; omega) | (show (_ : Int) ≤ (_ : Int); omega) | (show _ < List.length _; simp only [List.length_set, List.length_append, List.length_take]; omega) | (show wantB _ _ = true; simp; done) | (show wantB _ _ = true; simp; omega) | (show (_ : Bool) = _; simp_all; done) | (exfalso; omega) | refine aRegion_auto (by decide +kernel) ?_ | refine ⟨_, _, REnt.drop ⟨rfl, rfl⟩, ?_⟩ | fail))
  · refine acall_frame0 rfl (acall_arg (errIs_any hE h h8 (Nat.succ_pos k) (by omega) _ _ ?_) (congrArg (fun v => [AV.fz .raw (errV (ea E e)), AV.fz .raw v]) ((errs_at E (k := k) (by omega)).symm.trans (congrArg (fun i => List.getD (errs E) i (Ty.dft .raw)) (show k = 0 + Int.toNat (k : Int) by omega)))))
    (repeat' (first | exact trivial | exact fun h => h | refine And.intro ?_ ?_ | (intro hb; first | (simp at hb; done) | (simp at hb) | skip) | omega | exact rfl | exact Nat.le_refl _ | (show _ + 1 ≤ 4294967296; omega) | (dsimp only; omega) | (show (_ : Int) ≤ (_ : Int); omega) | (show _ < List.length _; simp only [List.length_set, List.length_append, List.length_take]; omega) | (show wantB _ _ = true; simp; done) | (show wantB _ _ = true; simp; omega) | (show (_ : Bool) = _; simp_all; done) | (exfalso; omega) | refine aRegion_auto (by decide +kernel) ?_ | refine ⟨_, _, REnt.drop ⟨rfl, rfl⟩, ?_⟩ | fail))
    · have hb : e = k + 1 := by simpa using hb
      subst hb
      exact hK
    · have hb : ¬ e = k + 1 := by simpa using hb
      refine ⟨k + 1, by omega, by show _ - _ < _ - _; omega, Ent.sub rfl ?_⟩
      (repeat' (first | exact trivial | exact rfl | refine And.intro ?_ ?_))
theorem coded_mercatorlaw5 {E : Errs} (hE : (EL E).Nodup) {e : Nat} (h8 : e ≤ 8) (n : Int) (K : AV → List AO → Prop) (hK : K (.fz .bool (decide ((e : Int) = n))) []) : ACall Tryd.prog (G8 E) 13 [.fz .raw (er E e), .fz int n] [] K := by
  refine acall_mk (E := envAt (G8 E) 15 0) (envOk _ _ _) Tryd.func13 rfl rfl rfl rfl rfl ?_
  (repeat' (first | exact trivial | exact fun h => h | refine And.intro ?_ ?_ | (intro hb; first | (simp at hb; done) | (simp at hb) | skip) | omega | exact rfl | exact Nat.le_refl _ | (show _ + 1 ≤ 4294967296; omega) | (dsimp only; omega) | (show (_ : Int) ≤ (_ : Int); omega) | (show _ < List.length _; simp only [List.length_set, List.length_append, List.length_take]; omega) | (show wantB _ _ = true; simp; done) | (show wantB _ _ = true; simp; omega) | (show (_ : Bool) = _; simp_all; done) | (exfalso; omega) | refine aRegion_auto (by decide +kernel) ?_ | refine ⟨_, _, REnt.drop ⟨rfl, rfl⟩, ?_⟩ | fail))
  by_cases h : e = 0
  · subst h
    refine acall_frame0 rfl (code_nil E _ ?_)
    (repeat' (first | exact trivial | exact fun h => h | refine And.intro ?_ ?_ | (intro hb; first | (simp at hb; done) | (simp at hb) | skip) | omega | exact rfl | exact Nat.le_refl _ | (show _ + 1 ≤ 4294967296; omega) | (dsimp only; omega) | (show (_ : Int) ≤ (_ : Int); omega) | (show _ < List.length _; simp only [List.length_set, List.length_append, List.length_take]; omega) | (show wantB _ _ = true; simp; done) | (show wantB _ _ = true; simp; omega) | (show (_ : Bool) = _; simp_all; done) | (exfalso; omega) | refine aRegion_auto (by decide +kernel) ?_ | refine ⟨_, _, REnt.drop ⟨rfl, rfl⟩, ?_⟩ | fail))
    exact hK
  · refine acall_frame0 rfl (acall_arg (code_any hE (Nat.pos_of_ne_zero h) h8 _ ?_) (congrArg (fun v => [AV.fz .raw v]) (er_ea E (Nat.pos_of_ne_zero h)).symm))
    (repeat' (first | exact trivial | exact fun h => h | refine And.intro ?_ ?_ | (intro hb; first | (simp at hb; done) | (simp at hb) | skip) | omega | exact rfl | exact Nat.le_refl _ | (show _ + 1 ≤ 4294967296; omega) | (dsimp only; omega) | (show (_ : Int) ≤ (_ : Int); omega) | (show _ < List.length _; simp only [List.length_set, List.length_append, List.length_take]; omega) | (show wantB _ _ = true; simp; done) | (show wantB _ _ = true; simp; omega) | (show (_ : Bool) = _; simp_all; done) | (exfalso; omega) | refine aRegion_auto (by decide +kernel) ?_ | refine ⟨_, _, REnt.drop ⟨rfl, rfl⟩, ?_⟩ | fail))
    exact hK
end Go.Proofs.YtiflieijbmaocaaDoor
