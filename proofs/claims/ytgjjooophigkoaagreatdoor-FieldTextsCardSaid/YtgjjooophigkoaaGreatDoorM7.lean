/-
  errors.As, errors.Is of a *api.Fault: raw walks.
-/
import Derived.Test.YtgjjooophigkoaaGreatDoorM6
import Derived.LaidEql
import Derived.Stop.Asserts
import Derived.Lib.LaidTab
import Derived.Shelf.Vars
import Derived.Handed
import Derived.Test.YtgjjooophigkoaaGreatDoorChecked
import Derived.WalkKit
import Derived.ProofKit
import Derived.OpenShut
import Derived.Carry
import Derived.Test.YtgjjooophigkoaaGreatDoorTie
import Derived.Test.YtgjjooophigkoaaGreatDoorCards
import Derived.SevenTiedAt
import Derived.LaidMore
import Derived.Lay
import Derived.Deep.Slices
import Derived.Lib.SmallJoins
import Derived.Stop.Joined
import Derived.Conc.Holds
namespace Go.Proofs.YtgjjooophigkoaaGreatDoor.faK
open Go Go.RowKit Go.Extern.Stop Go.Stop Go.Extern
set_option maxRecDepth 100000
theorem typeOfF (v : Value) (w : World) : (ReflectliteType.typeOf #[.iface 107 v]).run Tryz.prog w = .ok (.iface 221 (.agg #[.pointer (some ⟨17, 107, none⟩)])) w := by kernel_rfl
theorem assignableF (w : World) : (ReflectliteType.relation "AssignableTo" ReflectliteType.assignableTo #[.agg #[.pointer (some ⟨17, 107, none⟩)], .iface 221 (.agg #[.pointer (some ⟨17, 107, none⟩)])]).run Tryz.prog w = .ok (.bool true) w := by kernel_rfl
theorem valueOfF (p : Addr) (w : World) : (ReflectliteValue.unpack (.iface 107 (.pointer (some p)))).run Tryz.prog w
    = .ok (.agg #[.pointer (some ⟨17, 107, none⟩), .pointer (some ⟨w.heap.size, 0, none⟩), .int .u64 150]) (w.alloc (.cells #[.pointer (some p)] 107)) := by kernel_rfl
theorem elemOfPP (w : World) : (Rtype.elem? 155).run Tryz.prog w = .ok (some 107) w := by kernel_rfl
theorem mkP (t : Addr) (w : World) : (ReflectliteValue.mk 107 t 256).run Tryz.prog w = .ok (.agg #[.pointer (some ⟨17, 107, none⟩), .pointer (some t), .int .u64 406]) w := by kernel_rfl
theorem elemPPv (a t : Addr) (W : World) (ha : W.cell? a = some (.pointer (some t))) :
    (ReflectliteValue.method (ReflectliteValue.valueError "reflectlite.Value.Elem" 0) ReflectliteValue.elem #[.agg #[.pointer (some ⟨17, 155, none⟩), .pointer (some a), .int .u64 150]]).run Tryz.prog W = .ok (.agg #[.pointer (some ⟨17, 107, none⟩), .pointer (some t), .int .u64 406]) W := by
  rw [asK.rlm]
  simp only [Sem.run_bind, asK.partsPP, Result.andThen]
  simp [ReflectliteValue.elem, loadVar, isAgg, underlying, Tryz.underlying155, ha, Result.andThen, elemOfPP]
  exact mkP t W
theorem partsPs (a : Addr) (w : World) : (ReflectliteValue.parts (.agg #[.pointer (some ⟨17, 107, none⟩), .pointer (some a), .int .u64 406])).run Tryz.prog w = .ok (some (107, a, 406)) w := by kernel_rfl
theorem partsPv (a : Addr) (w : World) : (ReflectliteValue.parts (.agg #[.pointer (some ⟨17, 107, none⟩), .pointer (some a), .int .u64 150])).run Tryz.prog w = .ok (some (107, a, 150)) w := by kernel_rfl
theorem direct (w : World) : (Rtype.directlyAssignable 107 107).run Tryz.prog w = .ok true w := by kernel_rfl
theorem sizeP : (Tryz.prog.info? 107).map (·.size) = some 1 := by kernel_rfl
theorem setF (g : Nat) (b p : Addr) (W : World) (old : Array Value) (et : TypeId) (hb : W.cell? b = some (.pointer (some p))) (hg : W.heap[g]? = some (.cells old et (0, 0))) (ho : old.size = 1) :
    (ReflectliteValue.set #[.agg #[.pointer (some ⟨17, 107, none⟩), .pointer (some ⟨g, 0, none⟩), .int .u64 406], .agg #[.pointer (some ⟨17, 107, none⟩), .pointer (some b), .int .u64 150]]).run Tryz.prog W = .ok (.tuple #[]) (W.setRow g #[.pointer (some p)]) := by
  rw [show (ReflectliteValue.set #[.agg #[.pointer (some ⟨17, 107, none⟩), .pointer (some ⟨g, 0, none⟩), .int .u64 406], .agg #[.pointer (some ⟨17, 107, none⟩), .pointer (some b), .int .u64 150]]).run Tryz.prog W = (do storeVar 107 ⟨g, 0, none⟩ (← loadVar 107 b); pure (.tuple #[]) : Sem Value).run Tryz.prog W by kernel_rfl]
  obtain ⟨i, hi, his⟩ := Option.map_eq_some_iff.1 sizeP
  have h1 := run_storeCells_from (P := Tryz.prog) g et [.pointer (some p)] 0 old W hg (by simp [ho]) (by simp [Value.oneCell'])
  simp [loadVar, isAgg, underlying, Tryz.underlying107, hb, Result.andThen, storeVar, sizeOf, typeInfo, hi, his, Value.cells]
  simp at h1
  simp [h1]
set_option maxHeartbeats 4000000 in
theorem as_fault (p : Addr) (g : Nat) (old : Array Value) (et : TypeId) (w : World) (hg : w.cell? ⟨8, 0, none⟩ = some (.iface 221 (.agg #[.pointer (some ⟨17, 27, none⟩)])))
    (ht : w.heap[g]? = some (.cells old et (0, 0))) (ho : old.size = 1) :
    Calls Tryz.prog 90 #[.iface 107 (.pointer (some p)), .iface 155 (.pointer (some ⟨g, 0, none⟩))] w fun ev w' => ev = .returned (.bool true) ∧ ∃ W, Below w.heap.size w W ∧ W.heap[g]? = some (.cells old et (0, 0)) ∧ w' = W.setRow g #[.pointer (some p)] := by
  have h6 := @run_callFunc_extern Tryz.prog 120 _ (fun args => ReflectliteValue.unpack (args.getD 0 (.tuple #[]))) Tryz.func120 (by kernel_rfl) (by kernel_rfl) (by kernel_rfl) (by kernel_rfl)
  have h7 := @run_callFunc_extern Tryz.prog 121 _ (ReflectliteValue.methodAny (ReflectliteValue.valueError "reflectlite.Value.Type" 0) (fun t _ _ _ => ReflectliteType.toType t)) Tryz.func121 (by kernel_rfl) (by kernel_rfl) (by kernel_rfl) (by kernel_rfl)
  have h8 := @run_callFunc_extern Tryz.prog 122 _ (ReflectliteValue.method (ReflectliteValue.valueError "reflectlite.Value.IsNil" 0) ReflectliteValue.isNil) Tryz.func122 (by kernel_rfl) (by kernel_rfl) (by kernel_rfl) (by kernel_rfl)
  have h9 := @run_callFunc_extern Tryz.prog 158 _ (ReflectliteValue.method (ReflectliteValue.valueError "reflectlite.Value.Elem" 0) ReflectliteValue.elem) Tryz.func158 (by kernel_rfl) (by kernel_rfl) (by kernel_rfl) (by kernel_rfl)
  have hS := @run_callFunc_extern Tryz.prog 159 _ ReflectliteValue.set Tryz.func159 (by kernel_rfl) (by kernel_rfl) (by kernel_rfl) (by kernel_rfl)
  have h27 := @run_callFunc_extern Tryz.prog 222 _ (ReflectliteType.abiMethod fun t => do pure (.int .u8 (← Rtype.kind t))) Tryz.func222 (by kernel_rfl) (by kernel_rfl) (by kernel_rfl) (by kernel_rfl)
  have h37 := @run_callFunc_extern Tryz.prog 241 _ (ReflectliteType.method ReflectliteType.elem) Tryz.func241 (by kernel_rfl) (by kernel_rfl) (by kernel_rfl) (by kernel_rfl)
  have h38 := @run_callFunc_extern Tryz.prog 242 _ (ReflectliteType.relation "Implements" ReflectliteType.implements_) Tryz.func242 (by kernel_rfl) (by kernel_rfl) (by kernel_rfl) (by kernel_rfl)
  have h10 := @run_callFunc_extern Tryz.prog 124 _ ReflectliteType.typeOf Tryz.func124 (by kernel_rfl) (by kernel_rfl) (by kernel_rfl) (by kernel_rfl)
  have h35 := @run_callFunc_extern Tryz.prog 239 _ (ReflectliteType.relation "AssignableTo" ReflectliteType.assignableTo) Tryz.func239 (by kernel_rfl) (by kernel_rfl) (by kernel_rfl) (by kernel_rfl)
  have tO := typeOfF
  have mA := asK.mAssignableTo
  have aE := assignableF
  have f6 := asK.valueOfPP
  have f7 := asK.typePP
  have mK := asK.mKind
  have mE := asK.mElem
  have mI := asK.mImplements
  have k27 := asK.kindPP
  have k25 := asK.kindP
  have e27 := asK.elemPP
  have i25 := asK.implementsP
  have vF := valueOfF p
  have n8 := asK.isNilPP ⟨w.heap.size, 0, none⟩ ⟨g, 0, none⟩ ((w.alloc (.cells #[.pointer (some ⟨g, 0, none⟩)] 155)).alloc (.cells #[.pointer (some ⟨17, 155, none⟩), .pointer (some ⟨w.heap.size, 0, none⟩), .int .u64 150] 183)) (by simp)
  have n9 := elemPPv ⟨w.heap.size, 0, none⟩ ⟨g, 0, none⟩ (((w.alloc (.cells #[.pointer (some ⟨g, 0, none⟩)] 155)).alloc (.cells #[.pointer (some ⟨17, 155, none⟩), .pointer (some ⟨w.heap.size, 0, none⟩), .int .u64 150] 183)).alloc (.cells #[.pointer (some ⟨17, 155, none⟩), .pointer (some ⟨w.heap.size, 0, none⟩), .int .u64 150] 183)) (by rw [World.cell?_alloc_lt _ _ ⟨w.heap.size, 0, none⟩ (by simp; omega)]; simp)
  have hgl : g < w.heap.size := by
    rcases Nat.lt_or_ge g w.heap.size with h' | h'
    · exact h'
    · simp [Array.getElem?_eq_none h'] at ht
  have hB : Below w.heap.size w ((((w.alloc (.cells #[.pointer (some ⟨g, 0, none⟩)] 155)).alloc (.cells #[.pointer (some ⟨17, 155, none⟩), .pointer (some ⟨w.heap.size, 0, none⟩), .int .u64 150] 183)).alloc (.cells #[.pointer (some ⟨17, 155, none⟩), .pointer (some ⟨w.heap.size, 0, none⟩), .int .u64 150] 183)).alloc (.cells #[.pointer (some p)] 107)) :=
    ((((Below.refl _ _).alloc (Nat.le_refl _) _).alloc (by simp) _).alloc (by simp; omega) _).alloc (by simp; omega) _
  have hset := setF g ⟨w.heap.size + 1 + 1 + 1, 0, none⟩ p ((((w.alloc (.cells #[.pointer (some ⟨g, 0, none⟩)] 155)).alloc (.cells #[.pointer (some ⟨17, 155, none⟩), .pointer (some ⟨w.heap.size, 0, none⟩), .int .u64 150] 183)).alloc (.cells #[.pointer (some ⟨17, 155, none⟩), .pointer (some ⟨w.heap.size, 0, none⟩), .int .u64 150] 183)).alloc (.cells #[.pointer (some p)] 107)) old et (World.cell?_alloc_at _ _ _ _ (by simp)) (by
    rw [hB.block g hgl]; exact ht) ho
  have hlt : 8 < w.heap.size := by
    rcases Nat.lt_or_ge 8 w.heap.size with h' | h'
    · exact h'
    · simp [World.cell?, Array.getElem?_eq_none h'] at hg
  have hg2 : ((w.alloc (.cells #[.pointer (some ⟨g, 0, none⟩)] 155)).alloc (.cells #[.pointer (some ⟨17, 155, none⟩), .pointer (some ⟨w.heap.size, 0, none⟩), .int .u64 150] 183)).cell? ⟨8, 0, none⟩ = some (.iface 221 (.agg #[.pointer (some ⟨17, 27, none⟩)])) := by
    rw [World.cell?_alloc_lt _ _ ⟨8, 0, none⟩ (by simp; omega), World.cell?_alloc_lt _ _ ⟨8, 0, none⟩ hlt]; exact hg
  go_enter Tryz.func90, Tryz.ntmps90
  go_wp2
  refine wp_loop_rounds 1 ?_
  rw [rounds_succ]
  go_wp2
  go_ret
  exact ⟨rfl, _, hB, by rw [hB.block g hgl]; exact ht, rfl⟩
end Go.Proofs.YtgjjooophigkoaaGreatDoor.faK
/-
  errors.Is of a *api.Fault: raw walks.
-/
namespace Go.Proofs.YtgjjooophigkoaaGreatDoor.faK
open Go Go.RowKit Go.Extern.Stop Go.Stop Go.Extern
set_option maxRecDepth 100000
theorem noIsF (v : Value) (xT : TypeId) (w : World) : (Instr.typeAssert (.iface 107 v) xT 232 true).run Tryz.prog w = .ok (.tuple #[.nilIface, .bool false]) w := run_typeAssert_lacksB Tryz.underlying232 (by kernel_rfl) (by kernel_rfl) v xT w
theorem hasUnwrap (v : Value) (xT : TypeId) (w : World) : (Instr.typeAssert (.iface 107 v) xT 228 true).run Tryz.prog w = .ok (.tuple #[.iface 107 v, .bool true]) w := run_typeAssert_hasB Tryz.underlying228 (by kernel_rfl) v xT w
theorem mUnwrap (v : Value) (w : World) : (Go.method 431 107 v "Unwrap").run Tryz.prog w = .ok (228, v) w := by kernel_rfl
set_option maxHeartbeats 4000000 in
theorem is_same (b : Nat) (n : Int) (a : Addr) (w : World) (h0 : w.cell? ⟨b, 0, none⟩ = some (.int .i64 n)) (h1 : w.cell? ⟨b, 1, none⟩ = some (.iface 293 (.pointer (some a)))) :
    Calls Tryz.prog 91 #[.iface 107 (.pointer (some ⟨b, 0, none⟩)), .iface 293 (.pointer (some a))] w fun e w' => e = .returned (.bool true) ∧ w' = w := by
  obtain ⟨i, hi, hcmp⟩ := Option.map_eq_some_iff.1 isK.comp
  obtain ⟨j, hj, hjs⟩ := Option.map_eq_some_iff.1 isK.size
  have h8 := @run_callFunc_extern Tryz.prog 124 _ Extern.ReflectliteType.typeOf Tryz.func124 (by kernel_rfl) (by kernel_rfl) (by kernel_rfl) (by kernel_rfl)
  have h32 := @run_callFunc_extern Tryz.prog 240 _ (Extern.ReflectliteType.method fun t => do Extern.Rtype.noPackHeld "Comparable" t; pure (.bool (← typeInfo t).comparable)) Tryz.func240 (by kernel_rfl) (by kernel_rfl) (by kernel_rfl) (by kernel_rfl)
  have tT := isK.typeOf
  have cT := isK.comparable
  have mR := isK.mComparable
  have nI := noIsF
  have hU := hasUnwrap
  have mU := mUnwrap
  have eT := fun (x y : Value) (w : World) => run_eql_iface_types (P := Tryz.prog) 107 293 x y Tryz.underlying27 (by decide) w
  have heq := run_eql_iface_ptr_same (P := Tryz.prog) w a Tryz.underlying27 Tryz.underlying293 hi hcmp hj
  go_enter Tryz.func91, Tryz.ntmps91
  go_wp2
  refine wp_loop_rounds 2 ?_
  rw [rounds_succ]
  go_wp2
  rw [rounds_succ]
  go_wp2
  go_ret
  exact ⟨rfl, rfl⟩
set_option maxHeartbeats 4000000 in
theorem is_other (b : Nat) (n : Int) (a d : Addr) (ca cd : Array Value) (ta td : TypeId) (w : World) (h0 : w.cell? ⟨b, 0, none⟩ = some (.int .i64 n)) (h1 : w.cell? ⟨b, 1, none⟩ = some (.iface 293 (.pointer (some a))))
    (hne : a ≠ d) (ha : w.heap[a.block]? = some (.cells ca ta (0, 0))) (hd : w.heap[d.block]? = some (.cells cd td (0, 0))) :
    Calls Tryz.prog 91 #[.iface 107 (.pointer (some ⟨b, 0, none⟩)), .iface 293 (.pointer (some d))] w fun e w' => e = .returned (.bool false) ∧ w' = w := by
  obtain ⟨i, hi, hcmp⟩ := Option.map_eq_some_iff.1 isK.comp
  obtain ⟨j, hj, hjs⟩ := Option.map_eq_some_iff.1 isK.size
  have h8 := @run_callFunc_extern Tryz.prog 124 _ Extern.ReflectliteType.typeOf Tryz.func124 (by kernel_rfl) (by kernel_rfl) (by kernel_rfl) (by kernel_rfl)
  have h32 := @run_callFunc_extern Tryz.prog 240 _ (Extern.ReflectliteType.method fun t => do Extern.Rtype.noPackHeld "Comparable" t; pure (.bool (← typeInfo t).comparable)) Tryz.func240 (by kernel_rfl) (by kernel_rfl) (by kernel_rfl) (by kernel_rfl)
  have tT := isK.typeOf
  have cT := isK.comparable
  have mR := isK.mComparable
  have nI := noIsF
  have hU := hasUnwrap
  have mU := mUnwrap
  have eT := fun (x y : Value) (w : World) => run_eql_iface_types (P := Tryz.prog) 107 293 x y Tryz.underlying27 (by decide) w
  have nE := isK.noIs
  have uE := isK.noUnwrap
  have vE := isK.noUnwraps
  have heq := run_eql_iface_ptr_other (P := Tryz.prog) w Tryz.underlying27 Tryz.underlying293 hi hcmp hj (by rw [hjs]; decide) hne ha hd
  go_enter Tryz.func91, Tryz.ntmps91
  go_wp2
  refine wp_loop_rounds 2 ?_
  rw [rounds_succ]
  go_wp2
  rw [rounds_succ]
  go_wp2
  go_ret
  exact ⟨rfl, rfl⟩
end Go.Proofs.YtgjjooophigkoaaGreatDoor.faK
/-
  errors.As, errors.Is of a *api.Fault, as contracts; plain.Code of it.
-/
namespace Go.Proofs.YtgjjooophigkoaaGreatDoor
open Go Go.Ab Go.RowKit
set_option maxRecDepth 100000
theorem box_val {c : Cx} {t : Nat} {vs : List AV} {v : Value} (h : c.A[t]? = some (.box vs)) (hv : Rel c (.ptr t 0) v) : ∃ b, c.ρ t = some b ∧ v = .pointer (some ⟨b, 0, none⟩) := by
  unfold Rel at hv
  rw [h] at hv
  exact hv
theorem errAsF_any {E : Errs} (tv : AV) (fs : List AV) (K : AV → List AO → Prop) (hK : K (.fz .bool true) [.box [.ptr 1 0], .box fs]) :
    ACall Tryz.prog (G8 E) 90 [.ifc 107 (.ptr 1 0), .ifc 155 (.ptr 0 0)] [.box [tv], .box fs] K := by
  refine ⟨trivial, fun c H hA hG vs hv => .inl ⟨⟨_, Tryz.func90, rfl, rfl⟩, ?_⟩⟩
  obtain ⟨v, r, rfl, h1, v2, r2, rfl, h2, h3⟩ := hv
  unfold RelL at h3
  subst h3
  obtain ⟨u1, rfl, h1⟩ := h1
  obtain ⟨u2, rfl, h2⟩ := h2
  have hA0 : c.A[0]? = some (.box [tv]) := by rw [hA]; rfl
  have hA1 : c.A[1]? = some (.box fs) := by rw [hA]; rfl
  obtain ⟨b1, r1, rfl⟩ := box_val hA1 h1
  obtain ⟨b0, r0, rfl⟩ := box_val hA0 h2
  obtain ⟨b', cs, et, q1, q2, q3⟩ := H.obj 0 _ hA0
  rw [r0] at q1; cases q1
  have hg := (H.glo 8 asK.errType (by rw [hG]; rfl)).cell rfl
  have hl : cs.length = 1 := by rw [q3.length]; rfl
  refine (faK.as_fault ⟨b1, 0, none⟩ b0 cs.toArray et c.w hg q2 (by simpa using hl)).mono fun e w' ⟨e1, W, hB, hW, e2⟩ => ?_
  obtain ⟨E1, H1⟩ := below_ext H hB
  have h0 : ({ c with w := W } : Cx).A[0]? = some (.box [tv]) := hA0
  have hs : (#[Value.pointer (some ⟨b1, 0, none⟩)] : Array Value).size = cs.toArray.size := by simp [hl]
  have E2 := ext_wr (o' := .box [.ptr 1 0]) H1 h0 trivial r0 hW hs
  have hAr : (({ c with w := W } : Cx).wr 0 b0 #[.pointer (some ⟨b1, 0, none⟩)] (.box [.ptr 1 0])).A = [.box [.ptr 1 0], .box fs] := by
    show c.A.set 0 _ = _
    rw [hA]; rfl
  have H2 := hr_wr (o' := .box [.ptr 1 0]) H1 h0 trivial r0 hW hs ⟨b0, [.pointer (some ⟨b1, 0, none⟩)], et, rfl, setRow_heap W b0 _ _ et (0, 0) hW, by
    unfold RelL
    refine ⟨_, [], rfl, ?_, by unfold RelL; rfl⟩
    unfold Rel
    rw [hAr]
    exact ⟨b1, r1, rfl⟩⟩
  refine ⟨_, _, .fz .bool true, e1, e2.symm, E1.trans E2, H2, rel_bool.2 rfl, ?_⟩
  rw [hAr]; exact hK
theorem errIsF_any {E : Errs} (hE : (EL E).Nodup) {e d : Nat} (h : 0 < e) (h8 : e ≤ 8) (k : 0 < d) (k8 : d ≤ 8) (n : Int) (K : AV → List AO → Prop) (hK : K (.fz .bool (decide (e = d))) [.box [.fz int n, .fz .raw (errV (ea E e))]]) :
    ACall Tryz.prog (G8 E) 91 [.ifc 107 (.ptr 0 0), .fz .raw (errV (ea E d))] [.box [.fz int n, .fz .raw (errV (ea E e))]] K := by
  refine acall_below ⟨_, Tryz.func91, rfl, rfl⟩ (fun c H hA hG vs hv => ?_) hK
  obtain ⟨v, r, rfl, h1, v2, r2, rfl, h2, h3⟩ := hv
  unfold RelL at h3
  subst h3
  obtain ⟨u1, rfl, h1⟩ := h1
  rw [(rel_raw rfl).1 h2]
  have hA0 : c.A[0]? = some (.box [.fz int n, .fz .raw (errV (ea E e))]) := by rw [hA]; rfl
  obtain ⟨b0, r0, rfl⟩ := box_val hA0 h1
  obtain ⟨b', cs, et, q1, q2, q3⟩ := H.obj 0 _ hA0
  rw [r0] at q1; cases q1
  obtain ⟨x0, t0, rfl, p0, x1, t1, rfl, p1, p2⟩ := q3
  unfold RelL at p2
  subst p2
  obtain rfl := rel_int.1 p0
  obtain rfl := (rel_raw rfl).1 p1
  have c0 : c.w.cell? ⟨b0, 0, none⟩ = some (.int .i64 n) := by simp [World.cell?, q2]
  have c1 : c.w.cell? ⟨b0, 1, none⟩ = some (errV (ea E e)) := by simp [World.cell?, q2]
  by_cases he : e = d
  · subst he
    refine (faK.is_same b0 n _ _ c0 c1).mono fun x w' ⟨e1, e2⟩ => ⟨_, e1, by rw [e2]; exact Below.refl _ _, fun c' _ _ => ?_⟩
    rw [rel_bool]; simp
  · obtain ⟨g1, w1⟩ := er_in E h h8
    obtain ⟨g2, w2⟩ := er_in E k k8
    obtain ⟨_, cs1, t1, j1⟩ := (H.glo g1 _ (by rw [hG]; exact w1)).tgt _ _ rfl
    obtain ⟨_, cs2, t2, j2⟩ := (H.glo g2 _ (by rw [hG]; exact w2)).tgt _ _ rfl
    refine (faK.is_other b0 n _ _ _ _ _ _ _ c0 c1 (ea_ne hE h h8 k k8 he) j1 j2).mono fun x w' ⟨e1, e2⟩ => ⟨_, e1, by rw [e2]; exact Below.refl _ _, fun c' _ _ => ?_⟩
    rw [rel_bool]; simp [he]
set_option maxHeartbeats 4000000 in
theorem code_fault {E : Errs} (hE : (EL E).Nodup) {e : Nat} (h : 0 < e) (h8 : e ≤ 8) (n : Int) (K : AV → List AO → Prop) (hK : K (.tup [.fz int e, .fz int n]) [.box [.fz int n, .fz .raw (errV (ea E e))]]) :
    ACall Tryz.prog (G8 E) 41 [.ifc 107 (.ptr 0 0)] [.box [.fz int n, .fz .raw (errV (ea E e))]] K := by
  refine acall_mk (E := envAt (G8 E) 39 1) (envOk _ _ _) Tryz.func41 rfl rfl rfl rfl rfl ?_
  (repeat' (first | exact trivial | exact fun h => h | refine And.intro ?_ ?_ | (intro hb; first | (simp at hb; done) | (simp at hb) | skip) | omega | exact rfl | exact Nat.le_refl _ | (show _ + 1 ≤ 4294967296; omega) | (dsimp only; omega) | (show (_ : Int) ≤ (_ : Int); omega) | (show _ < List.length _; simp only [List.length_set, List.length_append, List.length_take]; omega) | (show wantB _ _ = true; simp; done) | (show wantB _ _ = true; simp; omega) | (show (_ : Bool) = _; simp_all; done) | (exfalso; omega) | refine aRegion_auto (by decide +kernel) ?_ | fail))
  refine acall_frame [1, 0] [.box [.fz .raw (.pointer none)], .box [.fz int n, .fz .raw (errV (ea E e))]] [.ifc 107 (.ptr 1 0), .ifc 155 (.ptr 0 0)] rfl ⟨⟨rfl, rfl⟩, ⟨rfl, rfl⟩, trivial⟩ ⟨rfl, rfl⟩ rfl (errAsF_any _ _ _ ?_)
  (repeat' (first | exact trivial | exact fun h => h | refine And.intro ?_ ?_ | (intro hb; first | (simp at hb; done) | (simp at hb) | skip) | omega | exact rfl | exact Nat.le_refl _ | (show _ + 1 ≤ 4294967296; omega) | (dsimp only; omega) | (show (_ : Int) ≤ (_ : Int); omega) | (show _ < List.length _; simp only [List.length_set, List.length_append, List.length_take]; omega) | (show wantB _ _ = true; simp; done) | (show wantB _ _ = true; simp; omega) | (show (_ : Bool) = _; simp_all; done) | (exfalso; omega) | refine aRegion_auto (by decide +kernel) ?_ | fail))
  refine ⟨Nat, fun k => ⟨[(0, .ifc 107 (.ptr 0 0)), (3, .fz int n), (24, .ref 2 0 8), (25, .fz int 8), (26, .fz int k)], [.box [.fz int n, .fz .raw (errV (ea E e))], .box [.ptr 0 0], .row .raw (errs E)]⟩, fun k => k < e, fun k => e - k, 0, h, Ent.sub rfl ?_, ?_⟩
  · (repeat' (first | exact trivial | exact rfl | refine And.intro ?_ ?_))
  intro k hk
  have hk8 : 0 + Int.toNat (k : Int) < (errs E).length := by show 0 + Int.toNat (k : Int) < 8; omega
  (repeat' (first | exact trivial | exact fun h => h | refine And.intro ?_ ?_ | (intro hb; first | (simp at hb; done) | (simp at hb) | skip) | omega | exact rfl | exact Nat.le_refl _ | (show _ + 1 ≤ 4294967296; omega) | (dsimp only; omega) | (show (_ : Int) ≤ (_ : Int); omega) | (show _ < List.length _; simp only [List.length_set, List.length_append, List.length_take]; omega) | (show wantB _ _ = true; simp; done) | (show wantB _ _ = true; simp; omega) | (show (_ : Bool) = _; simp_all; done) | (exfalso; omega) | refine aRegion_auto (by decide +kernel) ?_ | fail))
  · refine acall_frame [0] [.box [.fz int n, .fz .raw (errV (ea E e))]] [.ifc 107 (.ptr 0 0), .fz .raw (errV (ea E (k + 1)))] rfl ⟨⟨rfl, rfl⟩, trivial⟩ ⟨rfl, rfl⟩ (congrArg (fun v => [AV.ifc 107 (.ptr 0 0), AV.fz .raw v]) ((congrArg (fun i => List.getD (errs E) i (Ty.dft .raw)) (show 0 + Int.toNat (k : Int) = k by omega)).trans (errs_at E (k := k) (by omega)))) (errIsF_any hE h h8 (Nat.succ_pos k) (by omega) n _ ?_)
    (repeat' (first | exact trivial | exact fun h => h | refine And.intro ?_ ?_ | (intro hb; first | (simp at hb; done) | (simp at hb) | skip) | omega | exact rfl | exact Nat.le_refl _ | (show _ + 1 ≤ 4294967296; omega) | (dsimp only; omega) | (show (_ : Int) ≤ (_ : Int); omega) | (show _ < List.length _; simp only [List.length_set, List.length_append, List.length_take]; omega) | (show wantB _ _ = true; simp; done) | (show wantB _ _ = true; simp; omega) | (show (_ : Bool) = _; simp_all; done) | (exfalso; omega) | refine aRegion_auto (by decide +kernel) ?_ | fail))
    · have hb : e = k + 1 := by simpa using hb
      subst hb
      refine ⟨.tup [.fz int ((k + 1 : Nat) : Int), .fz int n], [.box [.fz int n, .fz .raw (errV (ea E (k + 1)))]], REnt.ren [0] rfl ?_ ⟨rfl, rfl⟩, hK⟩
      (repeat' (first | exact trivial | exact rfl | refine And.intro ?_ ?_))
    · have hb : ¬ e = k + 1 := by simpa using hb
      refine ⟨k + 1, by omega, by show _ - _ < _ - _; omega, Ent.sub rfl ?_⟩
      (repeat' (first | exact trivial | exact rfl | refine And.intro ?_ ?_))
end Go.Proofs.YtgjjooophigkoaaGreatDoor
/-
  The document's text of a raster; a fault's number and place.
-/
namespace Go.Proofs.YtgjjooophigkoaaGreatDoor
open Go Go.Ab Go.RowKit Go.Proofs.YtgjjooophigkoaaGreatDoor.Tx
set_option maxRecDepth 100000
theorem bs_app (l m : List UInt8) : bs l ++ bs m = bs (l ++ m) := ByteArray.mk_append_mk l m
set_option maxHeartbeats 4000000 in
theorem rasterText_any (G : List (Nat × Value)) (a : Ras) (hl : a.2.2.length ≤ 1000000) (K : AV → List AO → Prop) (h0 : rerr a = 0 → K (.tup [.fz .str (bs (txt a)), .fz int 0]) []) (h1 : 0 < rerr a → K (.tup [.fz .str (bs []), .fz int (rerr a)]) []) :
    ACall Tryz.prog G 13 [.fptr RasT a] [] K := by
  refine acall_mk (E := envAt G 60 0) (envOk _ _ _) Tryz.func13 rfl rfl rfl rfl rfl ?_
  (repeat' (first | exact trivial | exact fun h => h | refine And.intro ?_ ?_ | (intro hb; first | (simp at hb; done) | (simp at hb) | skip) | omega | exact rfl | exact Nat.le_refl _ | (show _ + 1 ≤ 4294967296; omega) | (dsimp only; omega) | (show (_ : Int) ≤ (_ : Int); omega) | (show _ < List.length _; simp only [List.length_set, List.length_append, List.length_take]; omega) | (show wantB _ _ = true; simp; done) | (show wantB _ _ = true; simp; omega) | (show (_ : Bool) = _; simp_all; done) | (exfalso; omega) | refine aRegion_auto (by decide +kernel) ?_ | fail))
  refine acall_frame0 rfl (rasterError_any G a (by omega) _ ?_)
  have hr4 := rerr_in a
  by_cases hv : rerr a = 0
  · have hK := h0 hv
    clear h0 h1
    obtain ⟨⟨hW1, hH1, hW2, hH2, hlen⟩, hbig⟩ := rerr_ok hv
    have hmul := mul_bd (a := a.1) (b := a.2.1) (A := 128) (B := 128) (by omega) (by omega) (by omega) (by omega)
    have hbd : ∀ x ∈ a.2.2, -999999999 ≤ x ∧ x ≤ 999999999 := fun x hx => by have := hbig x hx; unfold bigB at this; simp at this; omega
    rw [hv]
    have dW : Lib.decDigits a.1.toNat = Lib.itoa a.1 := by unfold Lib.itoa; rw [if_neg (by omega)]
    have dH : Lib.decDigits a.2.1.toNat = Lib.itoa a.2.1 := by unfold Lib.itoa; rw [if_neg (by omega)]
    have lW := itoa_len (n := a.1) (by omega)
    have lH := itoa_len (n := a.2.1) (by omega)
    (repeat' (first | exact trivial | exact fun h => h | refine And.intro ?_ ?_ | (intro hb; first | (simp at hb; done) | (simp at hb) | skip) | omega | exact rfl | exact Nat.le_refl _ | (show _ + 1 ≤ 4294967296; omega) | (dsimp only; omega) | (show (_ : Int) ≤ (_ : Int); omega) | (show _ < List.length _; simp only [List.length_set, List.length_append, List.length_take]; omega) | (show wantB _ _ = true; simp; done) | (show wantB _ _ = true; simp; omega) | (show (_ : Bool) = _; simp_all; done) | (exfalso; omega) | refine aRegion_auto (by decide +kernel) ?_ | fail))
    apply exEff
    · refine acall_frame0 rfl (acall_arg (decimal_any G a.1.toNat (by omega) _ ?_) (congrArg (fun x => [AV.fz int x]) (show ((a.1.toNat : Nat) : Int) = a.1 by omega)))
      rw [dW]
      exact ⟨rfl, rfl⟩
    (repeat' (first | exact trivial | exact fun h => h | refine And.intro ?_ ?_ | (intro hb; first | (simp at hb; done) | (simp at hb) | skip) | omega | exact rfl | exact Nat.le_refl _ | (show _ + 1 ≤ 4294967296; omega) | (dsimp only; omega) | (show (_ : Int) ≤ (_ : Int); omega) | (show _ < List.length _; simp only [List.length_set, List.length_append, List.length_take]; omega) | (show wantB _ _ = true; simp; done) | (show wantB _ _ = true; simp; omega) | (show (_ : Bool) = _; simp_all; done) | (exfalso; omega) | refine aRegion_auto (by decide +kernel) ?_ | fail))
    · show (((bs (Lib.itoa a.1)).size + 1 : Nat) : Int) ≤ 9223372036854775807
      rw [bs_size]; omega
    (repeat' (first | exact trivial | exact fun h => h | refine And.intro ?_ ?_ | (intro hb; first | (simp at hb; done) | (simp at hb) | skip) | omega | exact rfl | exact Nat.le_refl _ | (show _ + 1 ≤ 4294967296; omega) | (dsimp only; omega) | (show (_ : Int) ≤ (_ : Int); omega) | (show _ < List.length _; simp only [List.length_set, List.length_append, List.length_take]; omega) | (show wantB _ _ = true; simp; done) | (show wantB _ _ = true; simp; omega) | (show (_ : Bool) = _; simp_all; done) | (exfalso; omega) | refine aRegion_auto (by decide +kernel) ?_ | fail))
    apply exEff
    · refine acall_frame0 rfl (acall_arg (decimal_any G a.2.1.toNat (by omega) _ ?_) (congrArg (fun x => [AV.fz int x]) (show ((a.2.1.toNat : Nat) : Int) = a.2.1 by omega)))
      rw [dH]
      exact ⟨rfl, rfl⟩
    (repeat' (first | exact trivial | exact fun h => h | refine And.intro ?_ ?_ | (intro hb; first | (simp at hb; done) | (simp at hb) | skip) | omega | exact rfl | exact Nat.le_refl _ | (show _ + 1 ≤ 4294967296; omega) | (dsimp only; omega) | (show (_ : Int) ≤ (_ : Int); omega) | (show _ < List.length _; simp only [List.length_set, List.length_append, List.length_take]; omega) | (show wantB _ _ = true; simp; done) | (show wantB _ _ = true; simp; omega) | (show (_ : Bool) = _; simp_all; done) | (exfalso; omega) | refine aRegion_auto (by decide +kernel) ?_ | fail))
    · show (((bs (Lib.itoa a.1) ++ bs [32]).size + (bs (Lib.itoa a.2.1)).size : Nat) : Int) ≤ 9223372036854775807
      rw [bs_app, bs_size, bs_size, List.length_append]
      show (((Lib.itoa a.1).length + 1 + (Lib.itoa a.2.1).length : Nat) : Int) ≤ _
      omega
    have hx0 : bs (Lib.itoa a.1) ++ bs [32] ++ bs (Lib.itoa a.2.1) = bs (Lib.itoa a.1 ++ (32 :: Lib.itoa a.2.1) ++ bdy a.1.toNat 0 (a.2.2.take 0)) := by
      rw [bs_app, bs_app]; simp [bdy]
    have hXl : ∀ k, (Lib.itoa a.1 ++ (32 :: Lib.itoa a.2.1) ++ bdy a.1.toNat 0 (a.2.2.take k)).length ≤ 180300 := fun k => by
      have q3 := bdy_len a.1.toNat (a.2.2.take k) 0 (fun x hx => hbd x (List.mem_of_mem_take hx))
      have q4 : (a.2.2.take k).length ≤ 16384 := by rw [List.length_take]; omega
      simp only [List.length_append, List.length_cons] at q3 ⊢
      omega
    refine ⟨Nat, fun k => ⟨[(0, .fptr RasT a), (5, .fz .str (bs (Lib.itoa a.1 ++ (32 :: Lib.itoa a.2.1) ++ bdy a.1.toNat 0 (a.2.2.take k)))), (6, .fz int (k : Int))], []⟩, fun k => k ≤ a.2.2.length, fun k => a.2.2.length - k, 0, Nat.zero_le _, Ent.sub rfl ⟨rfl, congrArg (AV.fz .str) hx0, rfl⟩, ?_⟩
    intro k hk
    have hX := hXl k
    by_cases hkl : k < a.2.2.length
    · have hx := hbd (a.2.2.getD k 0) (by simp [List.getD, hkl])
      have hsn : a.2.2.take (k + 1) = a.2.2.take k ++ [a.2.2.getD k 0] := by rw [List.take_succ_eq_append_getElem hkl]; simp [List.getD, hkl]
      have htl : (a.2.2.take k).length = k := by rw [List.length_take]; omega
      have lx := itoa_len hx
      have hstep : ∀ c : UInt8, (if k % a.1.toNat = 0 then 10 else 32) = c → bs (Lib.itoa a.1 ++ (32 :: Lib.itoa a.2.1) ++ bdy a.1.toNat 0 (a.2.2.take k)) ++ bs [c] ++ bs (Lib.itoa (a.2.2.getD k 0)) = bs (Lib.itoa a.1 ++ (32 :: Lib.itoa a.2.1) ++ bdy a.1.toNat 0 (a.2.2.take (k + 1))) := fun c hc => by
        rw [hsn, bdy_snoc, Nat.zero_add, htl, hc, bs_app, bs_app]; simp
      have hmod : (k : Int).tmod a.1 = 0 ↔ k % a.1.toNat = 0 := by
        obtain ⟨m, hm⟩ : ∃ m : Nat, a.1 = m := ⟨a.1.toNat, by omega⟩
        rw [hm, Int.tmod_eq_emod_of_nonneg (by omega)]
        show ((k : Int) % (m : Int)) = 0 ↔ k % m = 0
        omega
      by_cases hm : (k : Int).tmod a.1 = 0
      · have hst := hstep 10 (by rw [if_pos (hmod.1 hm)])
        clear hstep hmod
        (repeat' (first | exact trivial | exact fun h => h | refine And.intro ?_ ?_ | (intro hb; first | (simp at hb; done) | (simp at hb) | skip) | omega | exact rfl | exact Nat.le_refl _ | (show _ + 1 ≤ 4294967296; omega) | (dsimp only; omega) | (show (_ : Int) ≤ (_ : Int); omega) | (show _ < List.length _; simp only [List.length_set, List.length_append, List.length_take]; omega) | (show wantB _ _ = true; simp; done) | (show wantB _ _ = true; simp; omega) | (show (_ : Bool) = _; simp_all; done) | (exfalso; omega) | refine aRegion_auto (by decide +kernel) ?_ | fail))
        · show (((bs (Lib.itoa a.1 ++ (32 :: Lib.itoa a.2.1) ++ bdy a.1.toNat 0 (a.2.2.take k))).size + 1 : Nat) : Int) ≤ 9223372036854775807
          rw [bs_size]; omega
        refine acall_frame0 rfl (number_any G (a.2.2.getD k 0) (by omega) _ ?_)
        (repeat' (first | exact trivial | exact fun h => h | refine And.intro ?_ ?_ | (intro hb; first | (simp at hb; done) | (simp at hb) | skip) | omega | exact rfl | exact Nat.le_refl _ | (show _ + 1 ≤ 4294967296; omega) | (dsimp only; omega) | (show (_ : Int) ≤ (_ : Int); omega) | (show _ < List.length _; simp only [List.length_set, List.length_append, List.length_take]; omega) | (show wantB _ _ = true; simp; done) | (show wantB _ _ = true; simp; omega) | (show (_ : Bool) = _; simp_all; done) | (exfalso; omega) | refine aRegion_auto (by decide +kernel) ?_ | fail))
        · show (((bs (Lib.itoa a.1 ++ (32 :: Lib.itoa a.2.1) ++ bdy a.1.toNat 0 (a.2.2.take k)) ++ bs [10]).size + (bs (Lib.itoa (a.2.2.getD k 0))).size : Nat) : Int) ≤ 9223372036854775807
          rw [bs_app, bs_size, bs_size, List.length_append]
          show (((_ : Nat) + 1 + (_ : Nat) : Nat) : Int) ≤ _
          omega
        refine ⟨k + 1, by omega, by show _ - (k + 1) < _ - k; omega, Ent.sub rfl ⟨rfl, congrArg (AV.fz .str) hst, rfl⟩⟩
      · have hst := hstep 32 (by rw [if_neg (fun q => hm (hmod.2 q))])
        clear hstep hmod
        (repeat' (first | exact trivial | exact fun h => h | refine And.intro ?_ ?_ | (intro hb; first | (simp at hb; done) | (simp at hb) | skip) | omega | exact rfl | exact Nat.le_refl _ | (show _ + 1 ≤ 4294967296; omega) | (dsimp only; omega) | (show (_ : Int) ≤ (_ : Int); omega) | (show _ < List.length _; simp only [List.length_set, List.length_append, List.length_take]; omega) | (show wantB _ _ = true; simp; done) | (show wantB _ _ = true; simp; omega) | (show (_ : Bool) = _; simp_all; done) | (exfalso; omega) | refine aRegion_auto (by decide +kernel) ?_ | fail))
        · show (((bs (Lib.itoa a.1 ++ (32 :: Lib.itoa a.2.1) ++ bdy a.1.toNat 0 (a.2.2.take k))).size + 1 : Nat) : Int) ≤ 9223372036854775807
          rw [bs_size]; omega
        refine acall_frame0 rfl (number_any G (a.2.2.getD k 0) (by omega) _ ?_)
        (repeat' (first | exact trivial | exact fun h => h | refine And.intro ?_ ?_ | (intro hb; first | (simp at hb; done) | (simp at hb) | skip) | omega | exact rfl | exact Nat.le_refl _ | (show _ + 1 ≤ 4294967296; omega) | (dsimp only; omega) | (show (_ : Int) ≤ (_ : Int); omega) | (show _ < List.length _; simp only [List.length_set, List.length_append, List.length_take]; omega) | (show wantB _ _ = true; simp; done) | (show wantB _ _ = true; simp; omega) | (show (_ : Bool) = _; simp_all; done) | (exfalso; omega) | refine aRegion_auto (by decide +kernel) ?_ | fail))
        · show (((bs (Lib.itoa a.1 ++ (32 :: Lib.itoa a.2.1) ++ bdy a.1.toNat 0 (a.2.2.take k)) ++ bs [32]).size + (bs (Lib.itoa (a.2.2.getD k 0))).size : Nat) : Int) ≤ 9223372036854775807
          rw [bs_app, bs_size, bs_size, List.length_append]
          show (((_ : Nat) + 1 + (_ : Nat) : Nat) : Int) ≤ _
          omega
        refine ⟨k + 1, by omega, by show _ - (k + 1) < _ - k; omega, Ent.sub rfl ⟨rfl, congrArg (AV.fz .str) hst, rfl⟩⟩
    · obtain rfl : k = a.2.2.length := by omega
      have e : bs (Lib.itoa a.1 ++ (32 :: Lib.itoa a.2.1) ++ bdy a.1.toNat 0 (a.2.2.take a.2.2.length)) ++ bs [10] = bs (txt a) := by rw [List.take_length, bs_app]; rfl
      rw [← e] at hK
      (repeat' (first | exact trivial | exact fun h => h | refine And.intro ?_ ?_ | (intro hb; first | (simp at hb; done) | (simp at hb) | skip) | omega | exact rfl | exact Nat.le_refl _ | (show _ + 1 ≤ 4294967296; omega) | (dsimp only; omega) | (show (_ : Int) ≤ (_ : Int); omega) | (show _ < List.length _; simp only [List.length_set, List.length_append, List.length_take]; omega) | (show wantB _ _ = true; simp; done) | (show wantB _ _ = true; simp; omega) | (show (_ : Bool) = _; simp_all; done) | (exfalso; omega) | refine aRegion_auto (by decide +kernel) ?_ | fail))
      · show (((bs (Lib.itoa a.1 ++ (32 :: Lib.itoa a.2.1) ++ bdy a.1.toNat 0 (a.2.2.take a.2.2.length))).size + 1 : Nat) : Int) ≤ 9223372036854775807
        rw [bs_size]; omega
      have hsz : ByteArray.size (bs (Lib.itoa a.1 ++ (32 :: Lib.itoa a.2.1) ++ bdy a.1.toNat 0 (a.2.2.take a.2.2.length)) ++ bs [10]) ≤ 180301 := by
        rw [bs_app, bs_size, List.length_append]
        show _ + 1 ≤ _
        omega
      (repeat' (first | exact trivial | exact fun h => h | refine And.intro ?_ ?_ | (intro hb; first | (simp at hb; done) | (simp at hb) | skip) | omega | exact rfl | exact Nat.le_refl _ | (show _ + 1 ≤ 4294967296; omega) | (dsimp only; omega) | (show (_ : Int) ≤ (_ : Int); omega) | (show _ < List.length _; simp only [List.length_set, List.length_append, List.length_take]; omega) | (show wantB _ _ = true; simp; done) | (show wantB _ _ = true; simp; omega) | (show (_ : Bool) = _; simp_all; done) | (exfalso; omega) | refine aRegion_auto (by decide +kernel) ?_ | fail))
      · exfalso
        rw [List.take_length] at hX
        have hX2 : (Lib.itoa a.1 ++ 32 :: (Lib.itoa a.2.1 ++ bdy a.1.toNat 0 a.2.2)).length ≤ 180300 := by simpa using hX
        have hb : (200000 : Int) < ((ByteArray.size (bs (Lib.itoa a.1 ++ 32 :: (Lib.itoa a.2.1 ++ bdy a.1.toNat 0 a.2.2))) : Nat) : Int) + ((1 : Nat) : Int) := hb
        rw [bs_size] at hb
        omega
      refine ⟨_, _, REnt.drop ⟨rfl, rfl⟩, hK⟩
  · have hK := h1 (by omega)
    (repeat' (first | exact trivial | exact fun h => h | refine And.intro ?_ ?_ | (intro hb; first | (simp at hb; done) | (simp at hb) | skip) | omega | exact rfl | exact Nat.le_refl _ | (show _ + 1 ≤ 4294967296; omega) | (dsimp only; omega) | (show (_ : Int) ≤ (_ : Int); omega) | (show _ < List.length _; simp only [List.length_set, List.length_append, List.length_take]; omega) | (show wantB _ _ = true; simp; done) | (show wantB _ _ = true; simp; omega) | (show (_ : Bool) = _; simp_all; done) | (exfalso; omega) | refine aRegion_auto (by decide +kernel) ?_ | fail))
    refine ⟨_, _, REnt.drop ⟨rfl, rfl⟩, hK⟩
set_option maxHeartbeats 4000000 in
theorem faulted_ok {E : Errs} (n : Int) (K : AV → List AO → Prop) (hK : K (.fz .bool true) []) :
    ACall Tryz.prog (G8 E) 16 [.fz .raw .nilIface, .fz FlT (0, n)] [] K := by
  refine acall_mk (E := envAt (G8 E) 27 0) (envOk _ _ _) Tryz.func16 rfl rfl rfl rfl rfl ?_
  (repeat' (first | exact trivial | exact fun h => h | refine And.intro ?_ ?_ | (intro hb; first | (simp at hb; done) | (simp at hb) | skip) | omega | exact rfl | exact Nat.le_refl _ | (show _ + 1 ≤ 4294967296; omega) | (dsimp only; omega) | (show (_ : Int) ≤ (_ : Int); omega) | (show _ < List.length _; simp only [List.length_set, List.length_append, List.length_take]; omega) | (show wantB _ _ = true; simp; done) | (show wantB _ _ = true; simp; omega) | (show (_ : Bool) = _; simp_all; done) | (exfalso; omega) | refine aRegion_auto (by decide +kernel) ?_ | refine ⟨_, _, REnt.drop ⟨rfl, rfl⟩, ?_⟩ | fail))
  refine acall_frame0 rfl (code_nil E _ ?_)
  (repeat' (first | exact trivial | exact fun h => h | refine And.intro ?_ ?_ | (intro hb; first | (simp at hb; done) | (simp at hb) | skip) | omega | exact rfl | exact Nat.le_refl _ | (show _ + 1 ≤ 4294967296; omega) | (dsimp only; omega) | (show (_ : Int) ≤ (_ : Int); omega) | (show _ < List.length _; simp only [List.length_set, List.length_append, List.length_take]; omega) | (show wantB _ _ = true; simp; done) | (show wantB _ _ = true; simp; omega) | (show (_ : Bool) = _; simp_all; done) | (exfalso; omega) | refine aRegion_auto (by decide +kernel) ?_ | refine ⟨_, _, REnt.drop ⟨rfl, rfl⟩, ?_⟩ | fail))
  exact hK
set_option maxHeartbeats 4000000 in
theorem faulted_bad {E : Errs} (hE : (EL E).Nodup) {e : Nat} (h : 0 < e) (h8 : e ≤ 8) (n : Int) (K : AV → List AO → Prop) (hK : K (.fz .bool true) [.box [.fz int n, .fz .raw (errV (ea E e))]]) :
    ACall Tryz.prog (G8 E) 16 [.ifc 107 (.ptr 0 0), .fz FlT ((e : Int), n)] [.box [.fz int n, .fz .raw (errV (ea E e))]] K := by
  refine acall_mk (E := envAt (G8 E) 27 1) (envOk _ _ _) Tryz.func16 rfl rfl rfl rfl rfl ?_
  (repeat' (first | exact trivial | exact fun h => h | refine And.intro ?_ ?_ | (intro hb; first | (simp at hb; done) | (simp at hb) | skip) | omega | exact rfl | exact Nat.le_refl _ | (show _ + 1 ≤ 4294967296; omega) | (dsimp only; omega) | (show (_ : Int) ≤ (_ : Int); omega) | (show _ < List.length _; simp only [List.length_set, List.length_append, List.length_take]; omega) | (show wantB _ _ = true; simp; done) | (show wantB _ _ = true; simp; omega) | (show (_ : Bool) = _; simp_all; done) | (exfalso; omega) | refine aRegion_auto (by decide +kernel) ?_ | fail))
  refine acall_frame [0] [.box [.fz int n, .fz .raw (errV (ea E e))]] [.ifc 107 (.ptr 0 0)] rfl ⟨⟨rfl, rfl⟩, trivial⟩ ⟨rfl, rfl⟩ rfl (code_fault hE h h8 n _ ?_)
  (repeat' (first | exact trivial | exact fun h => h | refine And.intro ?_ ?_ | (intro hb; first | (simp at hb; done) | (simp at hb) | skip) | omega | exact rfl | exact Nat.le_refl _ | (show _ + 1 ≤ 4294967296; omega) | (dsimp only; omega) | (show (_ : Int) ≤ (_ : Int); omega) | (show _ < List.length _; simp only [List.length_set, List.length_append, List.length_take]; omega) | (show wantB _ _ = true; simp; done) | (show wantB _ _ = true; simp; omega) | (show (_ : Bool) = _; simp_all; done) | (exfalso; omega) | refine aRegion_auto (by decide +kernel) ?_ | fail))
  refine ⟨.fz .bool true, [.box [.fz int n, .fz .raw (errV (ea E e))]], REnt.ren [0] rfl ?_ ⟨?_, rfl⟩, hK⟩
  · (repeat' (first | exact trivial | exact rfl | refine And.intro ?_ ?_))
  · exact congrArg (AV.fz .bool) (show (bif ((e : Int) == (e : Int)) then (n == n) else false) = true by simp)
end Go.Proofs.YtgjjooophigkoaaGreatDoor
/-
  FieldTexts: the walk.
-/
namespace Go.Proofs.YtgjjooophigkoaaGreatDoor
open Go Go.Ab Go.RowKit Go.Proofs.YtgjjooophigkoaaGreatDoor.Tx
set_option maxRecDepth 100000
theorem isB_same (a : Ras) : isB a a.1 a.2.1 a.2.2 = true := by simp [isB]
theorem rdQ_len (s : List UInt8) (_hs : s.length ≤ 1000000) : (rdQ s).2.2.2.length ≤ 1000000 := by
  unfold rdQ
  split
  · simp
  · split
    · simp
    · rename_i w h hq
      unfold hdQ at hq
      split at hq
      · split at hq
        · rename_i w' h' _ hc
          simp only [Option.some.injEq, Prod.mk.injEq] at hq
          obtain ⟨rfl, rfl⟩ := hq
          split
          · rename_i L hL
            have hlen := rws_len _ _ _ _ _ _ (by decide) hL
            have hmul := mul_bd (a := h') (b := w') (A := 128) (B := 128) (by omega) (by omega) (by omega) (by omega)
            rw [show ((h'.toNat : Nat) : Int) = h' by omega] at hlen
            simp only [List.length_nil] at hlen
            split
            · simp
            · split
              · show L.length ≤ _; omega
              · simp
          · simp
        · cases hq
      · cases hq
def txQ (a : Ras) : List UInt8 := if rerr a = 0 then txt a else []
theorem text_any {E : Errs} {sy ra : Addr} {mx : Int} (a : Ras) (hl : a.2.2.length ≤ 1000000000000) (K : AV → List AO → Prop) (hK : K (.tup [.fz .str (bs (txQ a)), .fz .raw (er E (rerr a))]) []) :
    ACall Tryz.prog (GT E sy ra mx) 12 [.fz RasT a] [] K := by
  by_cases hv : rerr a = 0
  · refine text_ok a hv K ?_
    unfold txQ at hK
    rw [if_pos hv, hv] at hK
    exact hK
  · refine text_bad a hl (by omega) K ?_
    unfold txQ at hK
    rw [if_neg hv] at hK
    exact hK
theorem rasterText_one (G : List (Nat × Value)) (a : Ras) (hl : a.2.2.length ≤ 1000000) (K : AV → List AO → Prop) (hK : K (.tup [.fz .str (bs (txQ a)), .fz int (rerr a)]) []) :
    ACall Tryz.prog G 13 [.fptr RasT a] [] K := by
  refine rasterText_any G a hl K (fun hv => ?_) (fun hv => ?_)
  · unfold txQ at hK
    rw [if_pos hv, hv] at hK
    exact hK
  · unfold txQ at hK
    rw [if_neg (by omega)] at hK
    exact hK
set_option maxHeartbeats 4000000 in
theorem fieldTexts_some {E : Errs} {sy ra : Addr} {mx : Int} (hE : (EL E).Nodup) (a : Ras) (t : ByteArray) (hla : a.2.2.length ≤ 9223372036854775807) (K : AV → List AO → Prop) (hK : K (.fz .bool true) []) :
    ACall Tryz.prog (GT E sy ra mx) 4 [.fptr RasT a, .fz .str t] [] K := by
  generalize hGT : GT E sy ra mx = G
  refine acall_mk (E := envAt G 122 0) (envOk _ _ _) Tryz.func4 rfl rfl rfl rfl rfl ?_
  subst hGT
  (repeat' (first | exact trivial | exact fun h => h | refine And.intro ?_ ?_ | (intro hb; first | (simp at hb; done) | (simp at hb) | skip) | omega | exact rfl | exact Nat.le_refl _ | (show _ + 1 ≤ 4294967296; omega) | (dsimp only; omega) | (show (_ : Int) ≤ (_ : Int); omega) | (show _ < List.length _; simp only [List.length_set, List.length_append, List.length_take]; omega) | (show wantB _ _ = true; simp; done) | (show wantB _ _ = true; simp; omega) | (show (_ : Bool) = _; simp_all; done) | (exfalso; omega) | refine aRegion_auto (by decide +kernel) ?_ | refine ⟨_, _, REnt.drop ⟨rfl, rfl⟩, ?_⟩ | fail))
  refine acall_frame0 rfl (up_ge (rasters_any E _ ?_))
  (repeat' (first | exact trivial | exact fun h => h | refine And.intro ?_ ?_ | (intro hb; first | (simp at hb; done) | (simp at hb) | skip) | omega | exact rfl | exact Nat.le_refl _ | (show _ + 1 ≤ 4294967296; omega) | (dsimp only; omega) | (show (_ : Int) ≤ (_ : Int); omega) | (show _ < List.length _; simp only [List.length_set, List.length_append, List.length_take]; omega) | (show wantB _ _ = true; simp; done) | (show wantB _ _ = true; simp; omega) | (show (_ : Bool) = _; simp_all; done) | (exfalso; omega) | refine aRegion_auto (by decide +kernel) ?_ | refine ⟨_, _, REnt.drop ⟨rfl, rfl⟩, ?_⟩ | fail))
  refine acall_frame0 rfl (small_any _ a _ ?_)
  (repeat' (first | exact trivial | exact fun h => h | refine And.intro ?_ ?_ | (intro hb; first | (simp at hb; done) | (simp at hb) | skip) | omega | exact rfl | exact Nat.le_refl _ | (show _ + 1 ≤ 4294967296; omega) | (dsimp only; omega) | (show (_ : Int) ≤ (_ : Int); omega) | (show _ < List.length _; simp only [List.length_set, List.length_append, List.length_take]; omega) | (show wantB _ _ = true; simp; done) | (show wantB _ _ = true; simp; omega) | (show (_ : Bool) = _; simp_all; done) | (exfalso; omega) | refine aRegion_auto (by decide +kernel) ?_ | refine ⟨_, _, REnt.drop ⟨rfl, rfl⟩, ?_⟩ | fail))
  · exact hK
  obtain ⟨⟨hl2, hl3⟩, hl4⟩ := hb
  have htl : ByteArray.size t ≤ 1000000 := by omega
  have hl2 : a.2.2.length ≤ 200 := hl2
  refine acall_frame0 rfl (text_any a (by omega) _ ?_)
  (repeat' (first | exact trivial | exact fun h => h | refine And.intro ?_ ?_ | (intro hb; first | (simp at hb; done) | (simp at hb) | skip) | omega | exact rfl | exact Nat.le_refl _ | (show _ + 1 ≤ 4294967296; omega) | (dsimp only; omega) | (show (_ : Int) ≤ (_ : Int); omega) | (show _ < List.length _; simp only [List.length_set, List.length_append, List.length_take]; omega) | (show wantB _ _ = true; simp; done) | (show wantB _ _ = true; simp; omega) | (show (_ : Bool) = _; simp_all; done) | (exfalso; omega) | refine aRegion_auto (by decide +kernel) ?_ | refine ⟨_, _, REnt.drop ⟨rfl, rfl⟩, ?_⟩ | fail))
  refine acall_frame0 rfl (rasterText_one _ a (by omega) _ ?_)
  (repeat' (first | exact trivial | exact fun h => h | refine And.intro ?_ ?_ | (intro hb; first | (simp at hb; done) | (simp at hb) | skip) | omega | exact rfl | exact Nat.le_refl _ | (show _ + 1 ≤ 4294967296; omega) | (dsimp only; omega) | (show (_ : Int) ≤ (_ : Int); omega) | (show _ < List.length _; simp only [List.length_set, List.length_append, List.length_take]; omega) | (show wantB _ _ = true; simp; done) | (show wantB _ _ = true; simp; omega) | (show (_ : Bool) = _; simp_all; done) | (exfalso; omega) | refine aRegion_auto (by decide +kernel) ?_ | refine ⟨_, _, REnt.drop ⟨rfl, rfl⟩, ?_⟩ | fail))
  have hr4 := rerr_in a
  refine acall_frame0 rfl (upT (coded_mercatorlaw3 hE (by omega) (rerr a) _ ?_))
  rw [decide_eq_true rfl]
  (repeat' (first | exact trivial | exact fun h => h | refine And.intro ?_ ?_ | (intro hb; first | (simp at hb; done) | (simp at hb) | skip) | omega | exact rfl | exact Nat.le_refl _ | (show _ + 1 ≤ 4294967296; omega) | (dsimp only; omega) | (show (_ : Int) ≤ (_ : Int); omega) | (show _ < List.length _; simp only [List.length_set, List.length_append, List.length_take]; omega) | (show wantB _ _ = true; simp; done) | (show wantB _ _ = true; simp; omega) | (show (_ : Bool) = _; simp_all; done) | (exfalso; omega) | refine aRegion_auto (by decide +kernel) ?_ | refine ⟨_, _, REnt.drop ⟨rfl, rfl⟩, ?_⟩ | fail))
  have hbeq : ((bs (txQ a)).toList == (bs (txQ a)).toList) = true := by simp
  have hql := rdQ_len (bl t) (by rw [bl_len]; exact htl)
  refine acall_frame0 rfl (read_any t htl _ (fun r hr => ?_) (fun e n he h8 hr => ?_))
  · rw [hr] at hql
    have hql : r.2.2.length ≤ 1000000 := hql
    (repeat' (first | exact trivial | exact fun h => h | refine And.intro ?_ ?_ | (intro hb; first | (simp at hb; done) | (simp at hb) | skip) | omega | exact rfl | exact Nat.le_refl _ | (show _ + 1 ≤ 4294967296; omega) | (dsimp only; omega) | (show (_ : Int) ≤ (_ : Int); omega) | (show _ < List.length _; simp only [List.length_set, List.length_append, List.length_take]; omega) | (show wantB _ _ = true; simp; done) | (show wantB _ _ = true; simp; omega) | (show (_ : Bool) = _; simp_all; done) | (exfalso; omega) | refine aRegion_auto (by decide +kernel) ?_ | refine ⟨_, _, REnt.drop ⟨rfl, rfl⟩, ?_⟩ | fail))
    refine acall_frame0 rfl (rasterOf_any _ t htl _ (fun e' n' r' hr' => ?_))
    rw [hr] at hr'
    simp only [Prod.mk.injEq] at hr'
    obtain ⟨⟨rfl, rfl⟩, rfl⟩ := hr'
    (repeat' (first | exact trivial | exact fun h => h | refine And.intro ?_ ?_ | (intro hb; first | (simp at hb; done) | (simp at hb) | skip) | omega | exact rfl | exact Nat.le_refl _ | (show _ + 1 ≤ 4294967296; omega) | (dsimp only; omega) | (show (_ : Int) ≤ (_ : Int); omega) | (show _ < List.length _; simp only [List.length_set, List.length_append, List.length_take]; omega) | (show wantB _ _ = true; simp; done) | (show wantB _ _ = true; simp; omega) | (show (_ : Bool) = _; simp_all; done) | (exfalso; omega) | refine aRegion_auto (by decide +kernel) ?_ | refine ⟨_, _, REnt.drop ⟨rfl, rfl⟩, ?_⟩ | fail))
    refine acall_conv [.keep, .dat FlT] _ _ _ rfl trivial (acall_frame0 rfl (upT (faulted_ok (-1) _ ?_)))
    (repeat' (first | exact trivial | exact fun h => h | refine And.intro ?_ ?_ | (intro hb; first | (simp at hb; done) | (simp at hb) | skip) | omega | exact rfl | exact Nat.le_refl _ | (show _ + 1 ≤ 4294967296; omega) | (dsimp only; omega) | (show (_ : Int) ≤ (_ : Int); omega) | (show _ < List.length _; simp only [List.length_set, List.length_append, List.length_take]; omega) | (show wantB _ _ = true; simp; done) | (show wantB _ _ = true; simp; omega) | (show (_ : Bool) = _; simp_all; done) | (exfalso; omega) | refine aRegion_auto (by decide +kernel) ?_ | refine ⟨_, _, REnt.drop ⟨rfl, rfl⟩, ?_⟩ | fail))
    rw [hbeq]
    apply exEff
    · refine And.intro (fun _ => ?_) (fun h => by simp [wantB] at h)
      refine And.intro (by simp [wantB]) ?_
      refine acall_conv [.dat RasT, .keep, .keep, .keep] _ _ _ rfl trivial (acall_frame0 rfl (is_any _ r r.1 r.2.1 r.2.2 (by omega) _ ?_))
      rw [isB_same]
      exact ⟨rfl, rfl⟩
    (repeat' (first | exact trivial | exact fun h => h | refine And.intro ?_ ?_ | (intro hb; first | (simp at hb; done) | (simp at hb) | skip) | omega | exact rfl | exact Nat.le_refl _ | (show _ + 1 ≤ 4294967296; omega) | (dsimp only; omega) | (show (_ : Int) ≤ (_ : Int); omega) | (show _ < List.length _; simp only [List.length_set, List.length_append, List.length_take]; omega) | (show wantB _ _ = true; simp; done) | (show wantB _ _ = true; simp; omega) | (show (_ : Bool) = _; simp_all; done) | (exfalso; omega) | refine aRegion_auto (by decide +kernel) ?_ | refine ⟨_, _, REnt.drop ⟨rfl, rfl⟩, ?_⟩ | fail))
    · exact hK
    have hv : rerr a = 0 := by omega
    have htx : txQ a = txt a := by unfold txQ; rw [if_pos hv]
    have hlt : (txt a).length ≤ 200000 := by
      obtain ⟨⟨hW1, hH1, hW2, hH2, _⟩, hbig⟩ := rerr_ok hv
      have lW := itoa_len (n := a.1) (by omega)
      have lH := itoa_len (n := a.2.1) (by omega)
      have lB := bdy_len a.1.toNat a.2.2 0 (fun x hx => by have := hbig x hx; unfold bigB at this; simp at this; omega)
      unfold txt
      simp only [List.length_append, List.length_cons, List.length_nil]
      omega
    have hrd := read_text hv hlt
    refine acall_frame0 rfl (read_any (bs (txQ a)) (by rw [bs_size, htx]; omega) _ (fun r2 hr2 => ?_) (fun e n he _ hr2 => ?_))
    · rw [bl, bs_list, htx, hrd] at hr2
      simp only [Prod.mk.injEq, true_and] at hr2
      subst hr2
      (repeat' (first | exact trivial | exact fun h => h | refine And.intro ?_ ?_ | (intro hb; first | (simp at hb; done) | (simp at hb) | skip) | omega | exact rfl | exact Nat.le_refl _ | (show _ + 1 ≤ 4294967296; omega) | (dsimp only; omega) | (show (_ : Int) ≤ (_ : Int); omega) | (show _ < List.length _; simp only [List.length_set, List.length_append, List.length_take]; omega) | (show wantB _ _ = true; simp; done) | (show wantB _ _ = true; simp; omega) | (show (_ : Bool) = _; simp_all; done) | (exfalso; omega) | refine aRegion_auto (by decide +kernel) ?_ | refine ⟨_, _, REnt.drop ⟨rfl, rfl⟩, ?_⟩ | fail))
      apply exEff
      · refine And.intro (fun _ => ?_) (fun h => by simp [wantB] at h)
        refine And.intro (by simp [wantB]) ?_
        refine acall_conv [.dat RasT, .keep, .keep, .keep] _ _ _ rfl trivial (acall_frame0 rfl (is_any _ a a.1 a.2.1 a.2.2 (by omega) _ ?_))
        rw [isB_same]
        exact ⟨rfl, rfl⟩
      (repeat' (first | exact trivial | exact fun h => h | refine And.intro ?_ ?_ | (intro hb; first | (simp at hb; done) | (simp at hb) | skip) | omega | exact rfl | exact Nat.le_refl _ | (show _ + 1 ≤ 4294967296; omega) | (dsimp only; omega) | (show (_ : Int) ≤ (_ : Int); omega) | (show _ < List.length _; simp only [List.length_set, List.length_append, List.length_take]; omega) | (show wantB _ _ = true; simp; done) | (show wantB _ _ = true; simp; omega) | (show (_ : Bool) = _; simp_all; done) | (exfalso; omega) | refine aRegion_auto (by decide +kernel) ?_ | refine ⟨_, _, REnt.drop ⟨rfl, rfl⟩, ?_⟩ | fail))
      exact hK
    · exfalso
      rw [bl, bs_list, htx, hrd] at hr2
      simp only [Prod.mk.injEq] at hr2
      omega
  · rw [hr] at hql
    unfold badR
    rw [er_ea E he]
    (repeat' (first | exact trivial | exact fun h => h | refine And.intro ?_ ?_ | (intro hb; first | (simp at hb; done) | (simp at hb) | skip) | omega | exact rfl | exact Nat.le_refl _ | (show _ + 1 ≤ 4294967296; omega) | (dsimp only; omega) | (show (_ : Int) ≤ (_ : Int); omega) | (show _ < List.length _; simp only [List.length_set, List.length_append, List.length_take]; omega) | (show wantB _ _ = true; simp; done) | (show wantB _ _ = true; simp; omega) | (show (_ : Bool) = _; simp_all; done) | (exfalso; omega) | refine aRegion_auto (by decide +kernel) ?_ | fail))
    refine acall_frame0 rfl (rasterOf_any _ t htl _ (fun e' n' r' hr' => ?_))
    rw [hr] at hr'
    simp only [Prod.mk.injEq] at hr'
    obtain ⟨⟨rfl, rfl⟩, rfl⟩ := hr'
    (repeat' (first | exact trivial | exact fun h => h | refine And.intro ?_ ?_ | (intro hb; first | (simp at hb; done) | (simp at hb) | skip) | omega | exact rfl | exact Nat.le_refl _ | (show _ + 1 ≤ 4294967296; omega) | (dsimp only; omega) | (show (_ : Int) ≤ (_ : Int); omega) | (show _ < List.length _; simp only [List.length_set, List.length_append, List.length_take]; omega) | (show wantB _ _ = true; simp; done) | (show wantB _ _ = true; simp; omega) | (show (_ : Bool) = _; simp_all; done) | (exfalso; omega) | refine aRegion_auto (by decide +kernel) ?_ | fail))
    refine acall_conv [.keep, .dat FlT] _ _ _ rfl trivial (acall_frame [0] [.box [.fz int n, .fz .raw (errV (ea E e))]] [.ifc 107 (.ptr 0 0), .fz FlT ((e : Int), n)] rfl ⟨⟨rfl, rfl⟩, trivial⟩ ⟨rfl, rfl⟩ rfl (upT (faulted_bad hE he h8 n _ ?_)))
    (repeat' (first | exact trivial | exact fun h => h | refine And.intro ?_ ?_ | (intro hb; first | (simp at hb; done) | (simp at hb) | skip) | omega | exact rfl | exact Nat.le_refl _ | (show _ + 1 ≤ 4294967296; omega) | (dsimp only; omega) | (show (_ : Int) ≤ (_ : Int); omega) | (show _ < List.length _; simp only [List.length_set, List.length_append, List.length_take]; omega) | (show wantB _ _ = true; simp; done) | (show wantB _ _ = true; simp; omega) | (show (_ : Bool) = _; simp_all; done) | (exfalso; omega) | refine aRegion_auto (by decide +kernel) ?_ | refine ⟨_, _, REnt.drop ⟨rfl, rfl⟩, ?_⟩ | fail))
    rw [hbeq]
    apply exEff
    · refine And.intro (fun _ => ?_) (fun h => by simp [wantB] at h)
      refine And.intro (by simp [wantB]) ?_
      refine acall_conv [.dat RasT, .keep, .keep, .keep] _ _ _ rfl trivial (acall_frame0 rfl (is_any _ noRas noRas.1 noRas.2.1 noRas.2.2 (by decide) _ ?_))
      rw [isB_same]
      exact ⟨rfl, rfl⟩
    (repeat' (first | exact trivial | exact fun h => h | refine And.intro ?_ ?_ | (intro hb; first | (simp at hb; done) | (simp at hb) | skip) | omega | exact rfl | exact Nat.le_refl _ | (show _ + 1 ≤ 4294967296; omega) | (dsimp only; omega) | (show (_ : Int) ≤ (_ : Int); omega) | (show _ < List.length _; simp only [List.length_set, List.length_append, List.length_take]; omega) | (show wantB _ _ = true; simp; done) | (show wantB _ _ = true; simp; omega) | (show (_ : Bool) = _; simp_all; done) | (exfalso; omega) | refine aRegion_auto (by decide +kernel) ?_ | refine ⟨_, _, REnt.drop ⟨rfl, rfl⟩, ?_⟩ | fail))
    · exact hK
    have hv : rerr a = 0 := by omega
    have htx : txQ a = txt a := by unfold txQ; rw [if_pos hv]
    have hlt : (txt a).length ≤ 200000 := by
      obtain ⟨⟨hW1, hH1, hW2, hH2, _⟩, hbig⟩ := rerr_ok hv
      have lW := itoa_len (n := a.1) (by omega)
      have lH := itoa_len (n := a.2.1) (by omega)
      have lB := bdy_len a.1.toNat a.2.2 0 (fun x hx => by have := hbig x hx; unfold bigB at this; simp at this; omega)
      unfold txt
      simp only [List.length_append, List.length_cons, List.length_nil]
      omega
    have hrd := read_text hv hlt
    refine acall_frame0 rfl (read_any (bs (txQ a)) (by rw [bs_size, htx]; omega) _ (fun r2 hr2 => ?_) (fun e n he _ hr2 => ?_))
    · rw [bl, bs_list, htx, hrd] at hr2
      simp only [Prod.mk.injEq, true_and] at hr2
      subst hr2
      (repeat' (first | exact trivial | exact fun h => h | refine And.intro ?_ ?_ | (intro hb; first | (simp at hb; done) | (simp at hb) | skip) | omega | exact rfl | exact Nat.le_refl _ | (show _ + 1 ≤ 4294967296; omega) | (dsimp only; omega) | (show (_ : Int) ≤ (_ : Int); omega) | (show _ < List.length _; simp only [List.length_set, List.length_append, List.length_take]; omega) | (show wantB _ _ = true; simp; done) | (show wantB _ _ = true; simp; omega) | (show (_ : Bool) = _; simp_all; done) | (exfalso; omega) | refine aRegion_auto (by decide +kernel) ?_ | refine ⟨_, _, REnt.drop ⟨rfl, rfl⟩, ?_⟩ | fail))
      apply exEff
      · refine And.intro (fun _ => ?_) (fun h => by simp [wantB] at h)
        refine And.intro (by simp [wantB]) ?_
        refine acall_conv [.dat RasT, .keep, .keep, .keep] _ _ _ rfl trivial (acall_frame0 rfl (is_any _ a a.1 a.2.1 a.2.2 (by omega) _ ?_))
        rw [isB_same]
        exact ⟨rfl, rfl⟩
      (repeat' (first | exact trivial | exact fun h => h | refine And.intro ?_ ?_ | (intro hb; first | (simp at hb; done) | (simp at hb) | skip) | omega | exact rfl | exact Nat.le_refl _ | (show _ + 1 ≤ 4294967296; omega) | (dsimp only; omega) | (show (_ : Int) ≤ (_ : Int); omega) | (show _ < List.length _; simp only [List.length_set, List.length_append, List.length_take]; omega) | (show wantB _ _ = true; simp; done) | (show wantB _ _ = true; simp; omega) | (show (_ : Bool) = _; simp_all; done) | (exfalso; omega) | refine aRegion_auto (by decide +kernel) ?_ | refine ⟨_, _, REnt.drop ⟨rfl, rfl⟩, ?_⟩ | fail))
      exact hK
    · exfalso
      rw [bl, bs_list, htx, hrd] at hr2
      simp only [Prod.mk.injEq] at hr2
      omega
end Go.Proofs.YtgjjooophigkoaaGreatDoor
/-
  What the laid variables give a text's reader: ten errors, a table, a bound; the law at nil.
-/
namespace Go.Proofs.YtgjjooophigkoaaGreatDoor
open Go Go.Ab Go.RowKit Go.ChangeShapes
set_option maxRecDepth 100000
theorem fieldTexts_nil {E : Errs} {sy ra : Addr} {mx : Int} (t : ByteArray) (K : AV → List AO → Prop) (hK : K (.fz .bool true) []) :
    ACall Tryz.prog (GT E sy ra mx) 4 [.fz .raw (.pointer none), .fz .str t] [] K := by
  generalize hGT : GT E sy ra mx = G
  refine acall_mk (E := envAt G 122 0) (envOk _ _ _) Tryz.func4 rfl rfl rfl rfl rfl ?_
  subst hGT
  (repeat' (first | exact trivial | exact fun h => h | refine And.intro ?_ ?_ | (intro hb; first | (simp at hb; done) | (simp at hb) | skip) | omega | exact rfl | exact Nat.le_refl _ | (show _ + 1 ≤ 4294967296; omega) | (dsimp only; omega) | (show (_ : Int) ≤ (_ : Int); omega) | (show _ < List.length _; simp only [List.length_set, List.length_append, List.length_take]; omega) | (show wantB _ _ = true; simp; done) | (show wantB _ _ = true; simp; omega) | (show (_ : Bool) = _; simp_all; done) | (exfalso; omega) | refine aRegion_auto (by decide +kernel) ?_ | refine ⟨_, _, REnt.drop ⟨rfl, rfl⟩, ?_⟩ | fail))
  refine acall_frame0 rfl (up_ge (rasters_any E _ ?_))
  (repeat' (first | exact trivial | exact fun h => h | refine And.intro ?_ ?_ | (intro hb; first | (simp at hb; done) | (simp at hb) | skip) | omega | exact rfl | exact Nat.le_refl _ | (show _ + 1 ≤ 4294967296; omega) | (dsimp only; omega) | (show (_ : Int) ≤ (_ : Int); omega) | (show _ < List.length _; simp only [List.length_set, List.length_append, List.length_take]; omega) | (show wantB _ _ = true; simp; done) | (show wantB _ _ = true; simp; omega) | (show (_ : Bool) = _; simp_all; done) | (exfalso; omega) | refine aRegion_auto (by decide +kernel) ?_ | refine ⟨_, _, REnt.drop ⟨rfl, rfl⟩, ?_⟩ | fail))
  refine acall_frame0 rfl (small_nil _ _ ?_)
  (repeat' (first | exact trivial | exact fun h => h | refine And.intro ?_ ?_ | (intro hb; first | (simp at hb; done) | (simp at hb) | skip) | omega | exact rfl | exact Nat.le_refl _ | (show _ + 1 ≤ 4294967296; omega) | (dsimp only; omega) | (show (_ : Int) ≤ (_ : Int); omega) | (show _ < List.length _; simp only [List.length_set, List.length_append, List.length_take]; omega) | (show wantB _ _ = true; simp; done) | (show wantB _ _ = true; simp; omega) | (show (_ : Bool) = _; simp_all; done) | (exfalso; omega) | refine aRegion_auto (by decide +kernel) ?_ | refine ⟨_, _, REnt.drop ⟨rfl, rfl⟩, ?_⟩ | fail))
  exact hK
theorem globT_ty (g : Nat) (hg : g ∈ [2, 1, 0, 3, 4, 5, 6, 7, 12, 11]) :
    ∃ ti ms, (Tryz.prog.globals[g]?).map (·.type) = some ti ∧ Tryz.prog.underlying ti = some (.interface ms) := by
  have : ([2, 1, 0, 3, 4, 5, 6, 7, 12, 11].all fun g => (Tryz.prog.globals[g]?).map (·.type) == some 27) = true := by kernel_rfl
  exact ⟨27, _, by simpa using List.all_eq_true.1 this g hg, Tryz.underlying27⟩
theorem maxLen_cell {W : World} (h : W.ShapedOpen Tryz.prog) : ∃ m, W.cell? ⟨10, 0, none⟩ = some (.int .i64 m) :=
  Go.Proofs.cell_of_shapedOpen_int (zero := #[.int .i64 0]) (t := 3) h (of_decide_eq_true (by kernel_rfl)) (by kernel_rfl) rfl (by kernel_rfl) (by kernel_rfl) Tryz.underlying3
def errNames : List String := ["mercator/api.ErrText", "mercator/api.ErrBound", "mercator/api.ErrShape", "mercator/api.ErrRange", "mercator/api.ErrName", "mercator/api.ErrNone", "mercator/api.ErrOrder", "mercator/api.ErrFile", "strconv.ErrRange", "strconv.ErrSyntax"]
theorem tab_head {W : World} {rest : List (String × DataW Unit)} (h : laidMet Tryz.prog (("internal/strconv.uint64pow10", Lib.tabData .u64 Lib.pow10Tab) :: rest) W) : Lib.TabIs Tryz.prog W "internal/strconv.uint64pow10" .u64 Lib.pow10Tab :=
  Lib.tabIs_of_head (g := 9) (t := 267) (e := 80) (n := 20) (by kernel_rfl) (by kernel_rfl) Tryz.underlying267 Tryz.underlying80 (by kernel_rfl) (by kernel_rfl) h
theorem globsT {W : World} {l : List (String × DataW Unit)} {x1 x2 x3 x4 x5 x6 x7 x8 x9 x10 : List UInt8} (h : laidMetH Tryz.prog l W) (hs : W.ShapedOpen Tryz.prog)
    (hl : ((l.filter fun x => x.2.handleName?.isNone).filter fun x => errNames.contains x.1) = [("mercator/api.ErrText", errD x1), ("mercator/api.ErrBound", errD x2), ("mercator/api.ErrShape", errD x3), ("mercator/api.ErrRange", errD x4), ("mercator/api.ErrName", errD x5), ("mercator/api.ErrNone", errD x6), ("mercator/api.ErrOrder", errD x7), ("mercator/api.ErrFile", errD x8), ("strconv.ErrRange", errD x9), ("strconv.ErrSyntax", errD x10)])
    (ht : ((l.filter fun x => x.2.handleName?.isNone).filter fun x => x.1 == "internal/strconv.uint64pow10") = [("internal/strconv.uint64pow10", Lib.tabData .u64 Lib.pow10Tab)])
    (hh : (l.filter fun x => x.2.handleName?.isSome) = [("errors.errorType", .iface "internal/reflectlite.rtype" (.agg [.ptr (.lit (.string [101, 114, 114, 111, 114]))]))]) :
    ∃ (E : Errs) (sy ra : Addr) (mx : Int), (EL E).Nodup ∧ ∀ g v, gk (GT E sy ra mx) g = some v → Glo0 W g v ∨ GloT W g v := by
  obtain ⟨h1, h2⟩ := laidMetH_iff.1 h
  have hT := h1.filter fun x => x.1 == "internal/strconv.uint64pow10"
  have hE := h1.filter fun x => errNames.contains x.1
  rw [ht] at hT
  rw [hl] at hE
  rw [hh] at h2
  have hTab := tab_head hT
  obtain ⟨mx, hmx⟩ := maxLen_cell hs
  obtain ⟨ps, hv, hn, hall⟩ := hE
  obtain ⟨al, k1, k2, k3, _⟩ := laid_errs names_at Tryz.underlying293 Tryz.underlying295 rfl rfl Tryz.underlying9 cells_es cells_str
    [("mercator/api.ErrText", x1), ("mercator/api.ErrBound", x2), ("mercator/api.ErrShape", x3), ("mercator/api.ErrRange", x4), ("mercator/api.ErrName", x5), ("mercator/api.ErrNone", x6), ("mercator/api.ErrOrder", x7), ("mercator/api.ErrFile", x8), ("strconv.ErrRange", x9), ("strconv.ErrSyntax", x10)]
    [2, 1, 0, 3, 4, 5, 6, 7, 12, 11] ps hv hn hall (by kernel_rfl) globT_ty
  obtain ⟨a1, a2, a3, a4, a5, a6, a7, a8, a9, a10, rfl⟩ : ∃ a1 a2 a3 a4 a5 a6 a7 a8 a9 a10, al = [a1, a2, a3, a4, a5, a6, a7, a8, a9, a10] := by
    match al, k1 with
    | [a1, a2, a3, a4, a5, a6, a7, a8, a9, a10], _ => exact ⟨a1, a2, a3, a4, a5, a6, a7, a8, a9, a10, rfl⟩
  have hR : Glo0 W 8 asK.errType := by
    obtain ⟨name, u, ty, e1, e2, e3, e4, e5⟩ := h2 _ (List.mem_singleton.2 rfl)
    have en : name = [101, 114, 114, 111, 114] := (Option.some.inj e1).symm
    subst en
    obtain rfl := Option.some.inj (rt_at.symm.trans e2)
    have hm : ty ∈ (List.range Tryz.prog.types.size).filter fun t => Tryz.prog.rowNamed t [101, 114, 114, 111, 114] := List.mem_filter.2 ⟨List.mem_range.2 e3, e4⟩
    rw [one_row] at hm
    obtain rfl := List.mem_singleton.1 hm
    have hh : typeHandle Tryz.prog 27 = .pointer (some ⟨17, 27, none⟩) := by kernel_rfl
    rw [hh] at e5
    exact ⟨by simpa [asK.errType] using World.var?_cell et_at e5 0, rfl, fun T a e => by cases e⟩
  have hGT : GloT W 9 tab10 := by
    unfold Lib.TabIs World.var? at hTab
    rw [tab_at] at hTab
    simp only [Option.bind_some] at hTab
    split at hTab
    · rename_i cs et fr hc
      cases hTab
      exact ⟨_, et, fr, rfl, hc⟩
    · cases hTab
  refine ⟨⟨a1, a2, a3, a4, a5, a6, a7, a8⟩, a10, a9, mx, ?_, fun g v hg => ?_⟩
  · exact k2.sublist (List.sublist_append_left [a1, a2, a3, a4, a5, a6, a7, a8] [a9, a10])
  unfold GT gk at hg
  split at hg
  · rename_i e; subst e; cases hg; exact .inl (k3 2 _ _ rfl rfl)
  unfold gk at hg
  split at hg
  · rename_i e; subst e; cases hg; exact .inl (k3 3 _ _ rfl rfl)
  unfold gk at hg
  split at hg
  · rename_i e; subst e; cases hg; exact .inl (k3 1 _ _ rfl rfl)
  unfold gk at hg
  split at hg
  · rename_i e; subst e; cases hg; exact .inl (k3 0 _ _ rfl rfl)
  unfold gk at hg
  split at hg
  · rename_i e; subst e; cases hg; exact .inl (k3 4 _ _ rfl rfl)
  unfold gk at hg
  split at hg
  · rename_i e; subst e; cases hg; exact .inl (k3 5 _ _ rfl rfl)
  unfold gk at hg
  split at hg
  · rename_i e; subst e; cases hg; exact .inl (k3 6 _ _ rfl rfl)
  unfold gk at hg
  split at hg
  · rename_i e; subst e; cases hg; exact .inl (k3 7 _ _ rfl rfl)
  unfold gk at hg
  split at hg
  · rename_i e; subst e; cases hg; exact .inl hR
  unfold gk at hg
  split at hg
  · rename_i e; subst e; cases hg; exact .inl (k3 9 _ _ rfl rfl)
  unfold gk at hg
  split at hg
  · rename_i e; subst e; cases hg; exact .inl (k3 8 _ _ rfl rfl)
  unfold gk at hg
  split at hg
  · rename_i e; subst e; cases hg; exact .inr hGT
  unfold gk at hg
  split at hg
  · rename_i e; subst e; cases hg; exact .inl ⟨hmx, rfl, fun T a e => by cases e⟩
  · cases hg
section
variable {H : Type} {enc : TypeId × Value → H}
/-- a row whose proof wants what is laid and that variables fit their types -/
theorem row_shaped {a : Assume} {C : Checked} {os : Os} {f : FuncId} {fn : Func} {s : ChangeSpec} {conds : List PathCond} {apart fresh handsOn again : Bool} {X : World → Array Value → Prop}
    (hX : ∀ (w w' : World) (args : Array Value), w.heap = w'.heap → X w args → X w' args)
    (own : ownKnob C.prog.godebug = none) (started : os.Started) (noInit : C.prog.inits.idxOf? f = none) (hfn : C.prog.funcs[f]? = some fn)
    (witness : ∃ (w : World) (tape : Tape) (i : Input), w.os = os ∧ (w.forCall tape i).Shaped C.prog ∧ i.vars = [] ∧ Input.okWide C.prog (w.forCall tape i) .any w.heap.size f i ∧
      ((s.pre enc C.prog fn conds apart (w.forCall tape i).memory i.args ∧ X (w.forCall tape i).memory i.args) ∧ sizedMet enc C.prog fn (OpenSpec.ofChange s) apart (w.forCall tape i).memory i.args) ∧ a.holds C.prog (lone (Frame.enter C.prog f i.args .normal) [] (w.forCall tape i)))
    (contract : ∀ (W : World) (base : Nat) (args : Array Value) (ds gs : List (DataW H)) (before : List MemPlace),
      (∀ (j : Nat) t v, fn.params[j]? = some t → args[j]? = some v → Value.okWide C.prog W .any base t v) →
      DataW.Whole enc C.prog fn.params.toList s.vars apart W args.toList ds gs before → X W args → W.ShapedOpen C.prog →
      Calls C.prog f args W fun e W' => ∃ v, e = .returned v ∧ s.post enc C.prog fn apart fresh handsOn again W args v W') :
    ReturnsInHanded a C os f .any (fun w args => (s.pre enc C.prog fn conds apart w args ∧ X w args) ∧ sizedMet enc C.prog fn (OpenSpec.ofChange s) apart w args) (s.post enc C.prog fn apart fresh handsOn again) := by
  refine returnsInHanded_of_calls own started noInit witness fun w tape i _ hsh _ hok hpre _ => ?_
  obtain ⟨_, _, _, fn', hfn', _, _, _, _, hval⟩ := hok
  obtain rfl : fn' = fn := Option.some.inj (hfn'.symm.trans hfn)
  obtain ⟨⟨⟨ds, gs, before, hw, _⟩, hx⟩, _⟩ := hpre
  refine (contract (w.forCall tape i) w.heap.size i.args ds gs before hval (DataW.Whole.of_heap (w' := w.forCall tape i) (by rfl) hw) (hX _ _ _ (by rfl) hx) hsh).mono fun e W' ⟨v, he, hp⟩ => ?_
  subst he
  exact ChangeSpec.post_blind hp
end
end Go.Proofs.YtgjjooophigkoaaGreatDoor
/-
  Arguments read again behind a call that leaves old memory alone; a slice of points opened.
-/
namespace Go.Proofs.YtgjjooophigkoaaGreatDoor
open Go Go.ChangeShapes Go.WideShapes Go.ChangeAt Go.RowKit
theorem trodAll_below {H : Type} {enc : TypeId × Value → H} {P : Program} (hl : laidOutB P = true) {W W' : World} (hb : Below W.heap.size W W') :
    ∀ (ts : List TypeId) (vs : List Value) (ds : List (DataW H)) (ps : List MemPlace), (∀ t ∈ ts, P.readableRec t = true ∧ t < P.types.size) →
      DataW.TrodAll enc P W 0 (fun _ => true) true ts vs ds ps → (∀ x ∈ ps, x.block < W.heap.size) →
      DataW.TrodAll enc P W' 0 (fun b => decide (b < W.heap.size)) true ts vs ds ps
  | [], [], [], ps, _, h, _ => h
  | [], [], _ :: _, _, _, h, _ => h.elim
  | [], _ :: _, _, _, _, h, _ => h.elim
  | _ :: _, [], _, _, _, h, _ => h.elim
  | _ :: _, _ :: _, [], _, _, h, _ => h.elim
  | t :: ts, v :: vs, d :: ds, ps, hr, h, hlt => by
    obtain ⟨p, q, h1, h2, rfl⟩ := h
    refine ⟨p, q, Below.trod hl (hr t (List.mem_cons_self ..)).1 (hr t (List.mem_cons_self ..)).2 h1 hb (fun x hx => hlt x (List.mem_append.2 (.inl hx))), ?_, rfl⟩
    exact trodAll_below hl hb ts vs ds q (fun t ht => hr t (List.mem_cons_of_mem _ ht)) h2 (fun x hx => hlt x (List.mem_append.2 (.inr hx)))
end Go.Proofs.YtgjjooophigkoaaGreatDoor
/-
  FieldTexts answers true, whatever it is asked (no condition).
-/
namespace Go.Proofs.YtgjjooophigkoaaGreatDoor.fieldTexts
open Go Go.ChangeShapes Go.WideShapes Go.ChangeAt Go.RowKit Go.Ab
set_option maxRecDepth 100000
theorem own : ownKnob Tryz.prog.godebug = none := by kernel_rfl
theorem laidOut : laidOutB Tryz.prog = true := by kernel_rfl
theorem quiets {a : Assume} {C : Checked} {os : Os} {f : FuncId} {r : Reach} {Pre : World → Array Value → Prop} {Post : World → Array Value → Value → World → Prop}
    (h : ReturnsInHanded a C os f r Pre Post) : ReturnsInLeavingWide a C os f r Pre Post :=
  fun enter => ReturnsInOpen.mono (fun _ _ _ x => ⟨x.2.1, onlyLeaving_of_quiet x.1, x.2.2⟩) (fun _ x => x) (h enter)
def textIn : DataW Unit → List UInt8
  | .iface _ (.ptr (.agg [.lit (.string b)])) => b
  | _ => []
noncomputable def start (os : Os) : World := (World.doorLaid Tryz.prog 400 os).layVars Tryz.prog [("unicode/utf8.first", Rows.laid_unicode_utf8_first)]
theorem lifted (os : Os) (started : os.Started) (H : Type) (enc : TypeId × Value → H) :
    ReturnsInHanded {} Tryz.checked os 4 .any (fun w args => (Rows.fieldTextsSpec.pre enc Tryz.prog Tryz.f4 [] false w args ∧ laidMetH Tryz.prog Rows.fieldTextsRow.laid w) ∧ sizedMet enc Tryz.prog Tryz.f4 (OpenSpec.ofChange Rows.fieldTextsSpec) false w args)
      (Rows.fieldTextsSpec.post enc Tryz.prog Tryz.f4 false true false false) := by
  refine row_shaped (C := Tryz.checked) (X := fun w _ => laidMetH Tryz.prog Rows.fieldTextsRow.laid w) (fun _ _ _ hh h => h.of_heap hh) own started (by kernel_rfl) Tryz.func4
    (ChangeSpec.witness_shaped (enc := enc) (C := Tryz.checked) (os := os) (X := fun w _ => laidMetH Tryz.prog Rows.fieldTextsRow.laid w) false (start os) #[.pointer none, .string ByteArray.empty] 8 (World.layVars_os _ _ _) (World.shaped_of_RefB (by kernel_rfl) (by kernel_rfl)) (by kernel_rfl) (by kernel_rfl) (by kernel_rfl)
      (laidMetH_of_parts3 (fuel := 8) (laidMet_of_run' 8 (by kernel_rfl) (by kernel_rfl)) (by kernel_rfl) (by kernel_rfl))) ?_
  intro W base args ds gs before hval0 hW hL hS
  have hval : ∀ (j : Nat) t v, Tryz.f4.params[j]? = some t → args[j]? = some v → Value.okWide Tryz.prog W .any base t v := hval0
  have hW' := hW
  obtain ⟨p, q, hA0, hV, rfl, hfz, hnd⟩ := hW
  have hA : DataW.TrodAll enc Tryz.prog W 0 (fun _ => true) true Tryz.f4.params.toList args.toList ds p := hA0
  obtain ⟨rfl, rfl⟩ := trodVars_none hV
  simp only [List.append_nil] at hW'
  have hAll : ∀ W', Below W.heap.size W W' → DataW.TrodAll enc Tryz.prog W' 0 (fun b => decide (b < W.heap.size)) true Tryz.f4.params.toList args.toList ds p :=
    fun W' hb => trodAll_below laidOut hb _ _ _ _ (by rw [Tryz.params4]; exact of_decide_eq_true (by kernel_rfl)) hA (fun x hx => hW'.lt x hx)
  rw [Tryz.params4] at hA hval
  obtain ⟨v0, vs0, d0, ds0, p0, q0, hargs, rfl, rfl, h0, t0⟩ := trodAll_cons hA
  obtain ⟨v1, vs1, d1, ds1, p1, q1, rfl, rfl, rfl, h1, t1⟩ := trodAll_cons t0
  obtain ⟨rfl, rfl, rfl⟩ := trodAll_nil t1
  obtain rfl : args = #[v0, v1] := by cases args; simp_all
  clear hA0 hval0
  obtain ⟨E, sy, ra, mx, hN, hE⟩ := globsT (x1 := textIn Rows.laid_mercator_api_ErrText) (x2 := textIn Rows.laid_mercator_api_ErrBound) (x3 := textIn Rows.laid_mercator_api_ErrShape) (x4 := textIn Rows.laid_mercator_api_ErrRange) (x5 := textIn Rows.laid_mercator_api_ErrName) (x6 := textIn Rows.laid_mercator_api_ErrNone) (x7 := textIn Rows.laid_mercator_api_ErrOrder) (x8 := textIn Rows.laid_mercator_api_ErrFile) (x9 := textIn Rows.laid_strconv_ErrRange) (x10 := textIn Rows.laid_strconv_ErrSyntax) hL hS (by kernel_rfl) (by kernel_rfl) (by kernel_rfl)
  have o0 := open_ptr (n := 4) (ty := RasT) tabOk (show tptrTo tab 22 = some 32 by kernel_rfl) (by kernel_rfl) (GT E sy ra mx) (hval 0 _ v0 rfl rfl) h0
  obtain ⟨y1, r1, b1⟩ := open_val (n := 1) (ty := .str) tabOk (by kernel_rfl) (GT E sy ra mx) (hval 1 _ v1 rfl rfl) h1
  have fin : Calls Tryz.prog 4 #[v0, v1] W fun e w' => e = .returned (.bool true) ∧ Below W.heap.size W w' := by
    rcases o0 with rfl | ⟨y0, r0, b0⟩
    · exact acall_true' (vs := [.pointer none, v1]) (fieldTexts_nil y1 _ rfl) hE ⟨_, _, rfl, (rel_raw rfl).2 rfl, _, _, rfl, r1, rfl⟩
    · have hl0 : y0.2.2.length ≤ 9223372036854775807 := by have := b0.2.2.1; unfold maxLen at this; omega
      exact acall_true' (vs := [v0, v1]) (fieldTexts_some hN y0 y1 hl0 _ rfl) hE ⟨_, _, rfl, r0, _, _, rfl, r1, rfl⟩
  refine fin.mono fun e W' ⟨he, hg⟩ => ?_
  subst he
  exact ⟨_, rfl, _, _, _, [], _, [], hW', trodAll_mk1 (shut_bool Tryz.underlying4 _), hAll W' hg, rfl, hg.frame _, fun h => by cases h⟩
theorem row : Rows.FieldTextsSaid :=
  OpenClaim.holds_of_wide_leaving 4 Tryz.f4 rfl rfl rfl rfl rfl rfl rfl ⟨rfl, rfl, rfl, rfl, rfl⟩ rfl rfl rfl rfl rfl (by kernel_rfl) Tryz.func4 (by kernel_rfl)
    (of_decide_eq_true (by kernel_rfl)) (by unfold Func.isWrapper; first | (rw [if_pos (by decide +kernel)]; kernel_rfl) | (rw [if_neg (by decide +kernel)]; exact ⟨rfl, rfl⟩))
    (fun os started H enc _ => quiets (lifted os started H enc))
/-- a tied card of a row whose program starts goroutines elsewhere -/
theorem tied_goes (Lk : Looks) {p : Pinned} {s : OpenSpec} {c : OpenClaim} (kinds : List LaidKind) (tests : Bool) (har : Bool × String) (lk : Bool)
    (hc : c.holds p s) (hw : c.wfByText s = true) (htie : c.laidByTextAt Lk p kinds tests)
    (hst : c.start = .entering) (hnb : c.noBlocks = false ∧ c.again = false) (hm : p.checked.prog.mainIs = some (har.1, har.2.toList)) (hn : (!har.1 && har.2.isEmpty && !lk) = false)
    (hl : ∀ f fn, p.checked.prog.funcNamed c.func = some f → p.checked.prog.funcs[f]? = some fn → lk = p.checked.prog.looks [] ∧ ∀ (j : Nat) t, fn.params[j]? = some t → p.checked.prog.wantsStandIn t = false)
    (hg : true = c.goesBy p.checked.prog) :
    Claim7.holds p (.plain s) { stood := { row := c, standIns := [], harness := har, looks := lk }, kinds := [], alts := [], goes := true, laidByText := true, laidKinds := kinds, laidTests := tests, laidLooks := Lk } := by
  have h6 : ∀ r : OpenClaim, Claim7.isSixth { stood := { row := r, standIns := [], harness := har, looks := lk }, kinds := [] } = false := fun r => by simpa [Claim7.isSixth] using hn
  exact ⟨Claim7.tied_new_at Lk kinds tests (Claim7.new_of_sixth hc har lk hst hnb hm (h6 c) hl) hw, (fun D hD => by cases hD), htie, (fun h => by cases h), hg⟩
theorem proved : Rows.FieldTextsCardSaid :=
  tied_goes .later [.data, .data, .data, .data, .handle, .sentinel, .sentinel, .sentinel, .sentinel, .sentinel, .sentinel, .sentinel, .sentinel, .sentinel, .sentinel, .pinned] true (true, "b99f14f18e99793d76e43267b16ad103d36b9b5ca1bd6f26a5f1606db8da4d16") true
    row (by kernel_rfl) fieldTexts_row_tie rfl ⟨rfl, rfl⟩ (by kernel_rfl) rfl
    (fun f fn hf hfn => by
      obtain rfl : f = 4 := Option.some.inj ((show Tryz.prog.funcNamed "mercator/mercatorlaw3.FieldTexts" = some 4 by kernel_rfl).symm.trans hf) |>.symm
      obtain rfl : fn = Tryz.f4 := (Option.some.inj (Tryz.func4.symm.trans hfn)).symm
      exact ⟨by kernel_rfl, fun j t ht => by
        rw [Tryz.params4] at ht
        have hm : t ∈ [22, 9] := by simpa using Array.mem_of_getElem? ht
        have hall : ([22, 9].all fun u => !Tryz.prog.wantsStandIn u) = true := by kernel_rfl
        exact (show Tryz.prog.wantsStandIn t = false by simpa using List.all_eq_true.1 hall t hm)⟩)
    (by kernel_rfl)
end Go.Proofs.YtgjjooophigkoaaGreatDoor.fieldTexts
