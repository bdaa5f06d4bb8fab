/-
  errors.As of an error of errors.New's make, asked for a *api.Fault: false; only new blocks are laid.
-/
import Derived.Test.YtgjjooophigkoaaGreatDoorM6
import Derived.Below
namespace Go.Proofs.YtgjjooophigkoaaGreatDoor.asK
open Go Go.RowKit Go.Extern.Stop Go.Stop Go.Extern
set_option maxRecDepth 100000
theorem valueOfPP (t : Addr) (w : World) : (ReflectliteValue.unpack (.iface 155 (.pointer (some t)))).run Tryz.prog w
    = .ok (.agg #[.pointer (some ⟨17, 155, none⟩), .pointer (some ⟨w.heap.size, 0, none⟩), .int .u64 150]) (w.alloc (.cells #[.pointer (some t)] 155)) := by kernel_rfl
theorem typePP (a : Addr) (w : World) : (ReflectliteValue.methodAny (ReflectliteValue.valueError "reflectlite.Value.Type" 0) (fun t _ _ _ => ReflectliteType.toType t) #[.agg #[.pointer (some ⟨17, 155, none⟩), .pointer (some a), .int .u64 150]]).run Tryz.prog w
    = .ok (.iface 221 (.agg #[.pointer (some ⟨17, 155, none⟩)])) w := by kernel_rfl
theorem mKind (h : Value) (w : World) : (Go.method 431 221 (.agg #[h]) "Kind").run Tryz.prog w = .ok (222, h) w := by kernel_rfl
theorem kindPP (w : World) : ((ReflectliteType.abiMethod fun t => (fun a : Nat => Value.int IntKind.u8 (a : Int)) <$> Rtype.kind t) #[.pointer (some ⟨17, 155, none⟩)]).run Tryz.prog w = .ok (.int .u8 22) w := by kernel_rfl
theorem kindP (w : World) : ((ReflectliteType.abiMethod fun t => (fun a : Nat => Value.int IntKind.u8 (a : Int)) <$> Rtype.kind t) #[.pointer (some ⟨17, 107, none⟩)]).run Tryz.prog w = .ok (.int .u8 22) w := by kernel_rfl
theorem rlm (z : Sem Value) (f : TypeId → Addr → Nat → Nat → Sem Value) (v : Value) :
    ReflectliteValue.method z f #[v] = (do match ← ReflectliteValue.parts v with | none => z | some (t, a, fl) => f t a fl (fl % 32)) := rfl
theorem partsPP (a : Addr) (w : World) : (ReflectliteValue.parts (.agg #[.pointer (some ⟨17, 155, none⟩), .pointer (some a), .int .u64 150])).run Tryz.prog w = .ok (some (155, a, 150)) w := by kernel_rfl
theorem isNilPP (a p : Addr) (W : World) (ha : W.cell? a = some (.pointer (some p))) :
    (ReflectliteValue.method (ReflectliteValue.valueError "reflectlite.Value.IsNil" 0) ReflectliteValue.isNil #[.agg #[.pointer (some ⟨17, 155, none⟩), .pointer (some a), .int .u64 150]]).run Tryz.prog W = .ok (.bool false) W := by
  rw [rlm]
  simp only [Sem.run_bind, partsPP, Result.andThen]
  simp [ReflectliteValue.isNil, loadVar, isAgg, underlying, Tryz.underlying155, ha, Result.andThen]
theorem mElem (h : Value) (w : World) : (Go.method 431 221 (.agg #[h]) "Elem").run Tryz.prog w = .ok (241, .agg #[h]) w := by kernel_rfl
theorem mImplements (h : Value) (w : World) : (Go.method 431 221 (.agg #[h]) "Implements").run Tryz.prog w = .ok (242, .agg #[h]) w := by kernel_rfl
theorem mAssignableTo (h : Value) (w : World) : (Go.method 431 221 (.agg #[h]) "AssignableTo").run Tryz.prog w = .ok (239, .agg #[h]) w := by kernel_rfl
theorem elemPP (w : World) : (ReflectliteType.method ReflectliteType.elem #[.agg #[.pointer (some ⟨17, 155, none⟩)]]).run Tryz.prog w = .ok (.iface 221 (.agg #[.pointer (some ⟨17, 107, none⟩)])) w := by kernel_rfl
theorem implementsP (w : World) : (ReflectliteType.relation "Implements" ReflectliteType.implements_ #[.agg #[.pointer (some ⟨17, 107, none⟩)], .iface 221 (.agg #[.pointer (some ⟨17, 27, none⟩)])]).run Tryz.prog w = .ok (.bool true) w := by kernel_rfl
theorem typeOfE (v : Value) (w : World) : (ReflectliteType.typeOf #[.iface 293 v]).run Tryz.prog w = .ok (.iface 221 (.agg #[.pointer (some ⟨17, 293, none⟩)])) w := by kernel_rfl
theorem assignableE (w : World) : (ReflectliteType.relation "AssignableTo" ReflectliteType.assignableTo #[.agg #[.pointer (some ⟨17, 293, none⟩)], .iface 221 (.agg #[.pointer (some ⟨17, 107, none⟩)])]).run Tryz.prog w = .ok (.bool false) w := by kernel_rfl
theorem noAs (v : Value) (xT : TypeId) (w : World) : (Instr.typeAssert (.iface 293 v) xT 225 true).run Tryz.prog w = .ok (.tuple #[.nilIface, .bool false]) w := run_typeAssert_lacksB Tryz.underlying225 (by kernel_rfl) (by kernel_rfl) v xT w
/-- the handle of type error, as errors.errorType holds it -/
def errType : Value := .iface 221 (.agg #[.pointer (some ⟨17, 27, none⟩)])
set_option maxHeartbeats 4000000 in
theorem as_other (e t : Addr) (w : World) (hg : w.cell? ⟨8, 0, none⟩ = some (.iface 221 (.agg #[.pointer (some ⟨17, 27, none⟩)]))) :
    Calls Tryz.prog 90 #[.iface 293 (.pointer (some e)), .iface 155 (.pointer (some t))] w fun ev w' => ev = .returned (.bool false) ∧ w' = ((w.alloc (.cells #[.pointer (some t)] 155)).alloc (.cells #[.pointer (some ⟨17, 155, none⟩), .pointer (some ⟨w.heap.size, 0, none⟩), .int .u64 150] 183)).alloc (.cells #[.pointer (some ⟨17, 155, none⟩), .pointer (some ⟨w.heap.size, 0, none⟩), .int .u64 150] 183) := by
  have h6 := @run_callFunc_extern Tryz.prog 120 _ (fun args => ReflectliteValue.unpack (args.getD 0 (.tuple #[]))) Tryz.func120 (by kernel_rfl) (by kernel_rfl) (by kernel_rfl) (by kernel_rfl)
  have h7 := @run_callFunc_extern Tryz.prog 121 _ (ReflectliteValue.methodAny (ReflectliteValue.valueError "reflectlite.Value.Type" 0) (fun t _ _ _ => ReflectliteType.toType t)) Tryz.func121 (by kernel_rfl) (by kernel_rfl) (by kernel_rfl) (by kernel_rfl)
  have h8 := @run_callFunc_extern Tryz.prog 122 _ (ReflectliteValue.method (ReflectliteValue.valueError "reflectlite.Value.IsNil" 0) ReflectliteValue.isNil) Tryz.func122 (by kernel_rfl) (by kernel_rfl) (by kernel_rfl) (by kernel_rfl)
  have h27 := @run_callFunc_extern Tryz.prog 222 _ (ReflectliteType.abiMethod fun t => do pure (.int .u8 (← Rtype.kind t))) Tryz.func222 (by kernel_rfl) (by kernel_rfl) (by kernel_rfl) (by kernel_rfl)
  have h37 := @run_callFunc_extern Tryz.prog 241 _ (ReflectliteType.method ReflectliteType.elem) Tryz.func241 (by kernel_rfl) (by kernel_rfl) (by kernel_rfl) (by kernel_rfl)
  have h38 := @run_callFunc_extern Tryz.prog 242 _ (ReflectliteType.relation "Implements" ReflectliteType.implements_) Tryz.func242 (by kernel_rfl) (by kernel_rfl) (by kernel_rfl) (by kernel_rfl)
  have h10 := @run_callFunc_extern Tryz.prog 124 _ ReflectliteType.typeOf Tryz.func124 (by kernel_rfl) (by kernel_rfl) (by kernel_rfl) (by kernel_rfl)
  have h35 := @run_callFunc_extern Tryz.prog 239 _ (ReflectliteType.relation "AssignableTo" ReflectliteType.assignableTo) Tryz.func239 (by kernel_rfl) (by kernel_rfl) (by kernel_rfl) (by kernel_rfl)
  have tO := typeOfE
  have mA := mAssignableTo
  have aE := assignableE
  have f6 := valueOfPP
  have f7 := typePP
  have mK := mKind
  have mE := mElem
  have mI := mImplements
  have k27 := kindPP
  have k25 := kindP
  have e27 := elemPP
  have i25 := implementsP
  have nA := noAs
  have uE := isK.noUnwrap
  have vE := isK.noUnwraps
  have n8 := isNilPP ⟨w.heap.size, 0, none⟩ t ((w.alloc (.cells #[.pointer (some t)] 155)).alloc (.cells #[.pointer (some ⟨17, 155, none⟩), .pointer (some ⟨w.heap.size, 0, none⟩), .int .u64 150] 183)) (by simp)
  have hlt : 8 < w.heap.size := by
    rcases Nat.lt_or_ge 8 w.heap.size with h' | h'
    · exact h'
    · simp [World.cell?, Array.getElem?_eq_none h'] at hg
  have hg2 : ((w.alloc (.cells #[.pointer (some t)] 155)).alloc (.cells #[.pointer (some ⟨17, 155, none⟩), .pointer (some ⟨w.heap.size, 0, none⟩), .int .u64 150] 183)).cell? ⟨8, 0, none⟩ = some (.iface 221 (.agg #[.pointer (some ⟨17, 27, none⟩)])) := by
    rw [World.cell?_alloc_lt _ _ ⟨8, 0, none⟩ (by simp; omega), World.cell?_alloc_lt _ _ ⟨8, 0, none⟩ hlt]; exact hg
  go_enter Tryz.func90, Tryz.ntmps90
  go_wp2
  refine wp_loop_rounds 1 ?_
  rw [rounds_succ]
  go_wp2
  go_ret
  exact ⟨rfl, rfl⟩
end Go.Proofs.YtgjjooophigkoaaGreatDoor.asK
/-
  Contracts of functions that only lay new blocks, out of walks by hand.
-/
namespace Go.Ab
open Go Go.RowKit
theorem below_ext {c : Cx} (H : HR c) {w' : World} (hb : Below c.w.heap.size c.w w') : Ext c { c with w := w' } ∧ HR { c with w := w' } := by
  have hI : ∀ b, c.I b → b < c.w.heap.size → ({ c with w := w' } : Cx).I b ∧ w'.heap[b]? = c.w.heap[b]? := fun b h hl => ⟨h, hb.block b hl⟩
  have E : Ext c { c with w := w' } := by
    refine ⟨⟨hI, fun t ht => ?_, Nat.le_refl _⟩, rfl, rfl, fun b h => hb.block b (H.old b h), ⟨hb.os, hb.tape, hb.output⟩⟩
    have h0 := TokLe.refl (c := c) ht
    unfold TokLe at h0 ⊢
    show match c.A[t]? with | some (.row e _) => _ | some (.box _) => _ | some (.mapo _ _) => _ | some .dead => True | some .room => _ | none => False
    cases hA : c.A[t]? with
    | none => rw [hA] at h0; exact h0
    | some o =>
      rw [hA] at h0
      cases o with
      | dead => trivial
      | room => exact h0
      | row e xs =>
        simp only at h0 ⊢
        refine .inl ⟨⟨xs, rfl⟩, trivial, fun b cs et h1 h2 => ⟨cs, ?_, rfl⟩⟩
        show w'.heap[b]? = _
        rw [hb.block b (some_lt h2)]; exact h2
      | box vs => exact .inl ⟨⟨vs, rfl⟩, rfl⟩
      | mapo i vs => exact .inl ⟨⟨i, vs, rfl, rfl⟩, rfl⟩
  refine ⟨E, ⟨H.far, H.inj, fun t o h => ?_, fun b h => Nat.lt_of_lt_of_le (H.old b h) hb.size, fun g v h => (H.glo g v h).mono E.le.I⟩⟩
  refine objOk_ext E (H.obj t o h) fun hl b hr => hb.block b ?_
  exact H.lt ⟨o, h, hl⟩ hr
theorem acall_below {P : Program} {G : List (Nat × Value)} {f : FuncId} {args : List AV} {A : List AO} {K : AV → List AO → Prop} {r : AV} (hb : hasBody P f)
    (h : ∀ c, HR c → c.A = A → c.G = G → ∀ vs, RelL c args vs → Calls P f vs.toArray c.w fun e w' => ∃ v, e = .returned v ∧ Below c.w.heap.size c.w w' ∧ ∀ c', Ext c c' → c'.w = w' → Rel c' r v) (hK : K r A) : ACall P G f args A K := by
  refine ⟨trivial, fun c H hA hG vs hv => .inl ⟨hb, (h c H hA hG vs hv).mono fun e w' ⟨v, h1, h2, h3⟩ => ?_⟩⟩
  obtain ⟨k1, k2⟩ := below_ext H h2
  exact ⟨v, _, r, h1, rfl, k1, k2, h3 _ k1 rfl, by rw [show ({ c with w := w' } : Cx).A = A from hA]; exact hK⟩
end Go.Ab
/-
  errors.Is, errors.As, plain.Code of plain errors, as contracts.
-/
namespace Go.Proofs.YtgjjooophigkoaaGreatDoor
open Go Go.Ab Go.RowKit
set_option maxRecDepth 100000
/-- all errors, and the handle that errors.As looks at -/
def EL (E : Errs) : List Addr := [E.text, E.bound, E.shape, E.range, E.name, E.none, E.order, E.file]
abbrev G8 (E : Errs) : List (Nat × Value) := [(0, errV E.shape), (3, errV E.range), (1, errV E.bound), (2, errV E.text), (4, errV E.name), (5, errV E.none), (6, errV E.order), (7, errV E.file), (8, asK.errType)]
theorem gk_sub {E : Errs} (g : Nat) (v : Value) (h : gk (GE E) g = some v) : gk (G8 E) g = some v := by
  unfold GE gk at h
  unfold G8 gk
  split at h
  · rename_i e; rw [if_pos e]; exact h
  rename_i e; rw [if_neg e]
  unfold gk at h ⊢
  split at h
  · rename_i e; rw [if_pos e]; exact h
  rename_i e; rw [if_neg e]
  unfold gk at h ⊢
  split at h
  · rename_i e; rw [if_pos e]; exact h
  · cases h
theorem up8 {E : Errs} {f : FuncId} {args : List AV} {A : List AO} {K : AV → List AO → Prop} (h : ACall Tryz.prog (GE E) f args A K) : ACall Tryz.prog (G8 E) f args A K := acall_more h gk_sub
/-- the errors that a law tells apart; 0: nil -/
def er (E : Errs) (e : Nat) : Value := match e with
  | 0 => .nilIface
  | 1 => errV E.text
  | 2 => errV E.bound
  | 3 => errV E.shape
  | 4 => errV E.range
  | 5 => errV E.name
  | 6 => errV E.none
  | 7 => errV E.order
  | _ => errV E.file
def ea (E : Errs) (e : Nat) : Addr := match e with
  | 0 => E.text
  | 1 => E.text
  | 2 => E.bound
  | 3 => E.shape
  | 4 => E.range
  | 5 => E.name
  | 6 => E.none
  | 7 => E.order
  | _ => E.file
theorem er_ea (E : Errs) {e : Nat} (h : 0 < e) : er E e = errV (ea E e) := by
  unfold er ea; split <;> first | omega | rfl
theorem er_in (E : Errs) {e : Nat} (h : 0 < e) (h8 : e ≤ 8) : ∃ g, gk (G8 E) g = some (errV (ea E e)) := by
  obtain rfl | rfl | rfl | rfl | rfl | rfl | rfl | rfl : e = 1 ∨ e = 2 ∨ e = 3 ∨ e = 4 ∨ e = 5 ∨ e = 6 ∨ e = 7 ∨ e = 8 := by omega
  · exact ⟨2, rfl⟩
  · exact ⟨1, rfl⟩
  · exact ⟨0, rfl⟩
  · exact ⟨3, rfl⟩
  · exact ⟨4, rfl⟩
  · exact ⟨5, rfl⟩
  · exact ⟨6, rfl⟩
  · exact ⟨7, rfl⟩
theorem ea_at (E : Errs) {e : Nat} (h : 0 < e) (h8 : e ≤ 8) : (EL E)[e - 1]? = some (ea E e) := by
  obtain rfl | rfl | rfl | rfl | rfl | rfl | rfl | rfl : e = 1 ∨ e = 2 ∨ e = 3 ∨ e = 4 ∨ e = 5 ∨ e = 6 ∨ e = 7 ∨ e = 8 := by omega
  all_goals rfl
theorem ea_ne {E : Errs} (hE : (EL E).Nodup) {e d : Nat} (h : 0 < e) (h8 : e ≤ 8) (k : 0 < d) (k8 : d ≤ 8) (hne : e ≠ d) : ea E e ≠ ea E d := by
  intro he
  have h1 := ea_at E h h8
  have h2 := ea_at E k k8
  rw [he] at h1
  have h3 : e - 1 = d - 1 := by
    have hl : e - 1 < (EL E).length := by show e - 1 < 8; omega
    exact (List.getElem?_inj hl hE).1 (h1.trans h2.symm)
  omega
theorem errIs_any {E : Errs} (hE : (EL E).Nodup) {e d : Nat} (h : 0 < e) (h8 : e ≤ 8) (k : 0 < d) (k8 : d ≤ 8) (A : List AO) (K : AV → List AO → Prop) (hK : K (.fz .bool (decide (e = d))) A) :
    ACall Tryz.prog (G8 E) 91 [.fz .raw (errV (ea E e)), .fz .raw (errV (ea E d))] A K := by
  refine acall_below ⟨_, Tryz.func91, rfl, rfl⟩ (fun c H hA hG vs hv => ?_) hK
  obtain ⟨v, r, rfl, h1, v2, r2, rfl, h2, h3⟩ := hv
  unfold RelL at h3
  subst h3
  rw [(rel_raw rfl).1 h1, (rel_raw rfl).1 h2]
  by_cases he : e = d
  · subst he
    refine (isK.is_same _ _).mono fun x w' ⟨e1, e2⟩ => ⟨_, e1, by rw [e2]; exact Below.refl _ _, fun c' _ _ => ?_⟩
    rw [rel_bool]; simp
  · obtain ⟨g1, q1⟩ := er_in E h h8
    obtain ⟨g2, q2⟩ := er_in E k k8
    obtain ⟨_, cs1, t1, j1⟩ := (H.glo g1 _ (by rw [hG]; exact q1)).tgt _ _ rfl
    obtain ⟨_, cs2, t2, j2⟩ := (H.glo g2 _ (by rw [hG]; exact q2)).tgt _ _ rfl
    refine (isK.is_other _ _ _ _ _ _ _ (ea_ne hE h h8 k k8 he) j1 j2).mono fun x w' ⟨e1, e2⟩ => ⟨_, e1, by rw [e2]; exact Below.refl _ _, fun c' _ _ => ?_⟩
    rw [rel_bool]; simp [he]
theorem errAs_any {E : Errs} (a : Addr) (vs : List AV) (K : AV → List AO → Prop) (hK : K (.fz .bool false) [.box vs]) :
    ACall Tryz.prog (G8 E) 90 [.fz .raw (errV a), .ifc 155 (.ptr 0 0)] [.box vs] K := by
  refine acall_below ⟨_, Tryz.func90, rfl, rfl⟩ (fun c H hA hG vs hv => ?_) hK
  obtain ⟨v, r, rfl, h1, v2, r2, rfl, h2, h3⟩ := hv
  unfold RelL at h3
  subst h3
  rw [(rel_raw rfl).1 h1]
  obtain ⟨u, rfl, h2⟩ := h2
  unfold Rel at h2
  rw [hA] at h2
  obtain ⟨b, _, rfl⟩ := h2
  have hg := (H.glo 8 asK.errType (by rw [hG]; rfl)).cell rfl
  refine (asK.as_other _ _ _ hg).mono fun x w' ⟨e1, e2⟩ => ⟨_, e1, ?_, fun c' _ _ => rel_bool.2 rfl⟩
  subst e2
  exact (((Below.refl _ _).alloc (Nat.le_refl _) _).alloc (by simp) _).alloc (by simp; omega) _
end Go.Proofs.YtgjjooophigkoaaGreatDoor
/-
  plain.Code, coded: what number an error has.
-/
namespace Go.Proofs.YtgjjooophigkoaaGreatDoor
open Go Go.Ab Go.RowKit
set_option maxRecDepth 100000
theorem code_nil (E : Errs) (K : AV → List AO → Prop) (hK : K (.tup [.fz int 0, .fz int (-1)]) []) : ACall Tryz.prog (G8 E) 41 [.fz .raw .nilIface] [] K := by
  refine acall_mk (E := envAt (G8 E) 39 0) (envOk _ _ _) Tryz.func41 rfl rfl rfl rfl rfl ?_
  (repeat' (first | exact trivial | exact fun h => h | refine And.intro ?_ ?_ | (intro hb; try simp at hb) | omega | exact rfl | exact Nat.le_refl _ | (show _ + 1 ≤ 4294967296; omega) | (dsimp only; omega) | (show (_ : Int) ≤ (_ : Int); omega) | (show _ < List.length _; simp only [List.length_set, List.length_append, List.length_take]; omega) | (show wantB _ _ = true; simp <;> omega) | (show (_ : Bool) = _; simp_all; done) | (exfalso; omega) | refine aRegion_auto (by decide +kernel) ?_ | refine ⟨_, _, REnt.drop ⟨rfl, rfl⟩, ?_⟩ | fail))
  exact hK
abbrev errs (E : Errs) : List Value := [errV E.text, errV E.bound, errV E.shape, errV E.range, errV E.name, errV E.none, errV E.order, errV E.file]
theorem errs_at (E : Errs) {k : Nat} (h : k < 8) : List.getD (errs E) k (Ty.dft .raw) = errV (ea E (k + 1)) := by
  obtain rfl | rfl | rfl | rfl | rfl | rfl | rfl | rfl : k = 0 ∨ k = 1 ∨ k = 2 ∨ k = 3 ∨ k = 4 ∨ k = 5 ∨ k = 6 ∨ k = 7 := by omega
  all_goals rfl
set_option maxHeartbeats 4000000 in
theorem code_any {E : Errs} (hE : (EL E).Nodup) {e : Nat} (h : 0 < e) (h8 : e ≤ 8) (K : AV → List AO → Prop) (hK : K (.tup [.fz int e, .fz int (-1)]) []) :
    ACall Tryz.prog (G8 E) 41 [.fz .raw (errV (ea E e))] [] K := by
  refine acall_mk (E := envAt (G8 E) 39 0) (envOk _ _ _) Tryz.func41 rfl rfl rfl rfl rfl ?_
  (repeat' (first | exact trivial | exact fun h => h | refine And.intro ?_ ?_ | (intro hb; try simp at hb) | omega | exact rfl | exact Nat.le_refl _ | (show _ + 1 ≤ 4294967296; omega) | (dsimp only; omega) | (show (_ : Int) ≤ (_ : Int); omega) | (show _ < List.length _; simp only [List.length_set, List.length_append, List.length_take]; omega) | (show wantB _ _ = true; simp <;> omega) | (show (_ : Bool) = _; simp_all; done) | (exfalso; omega) | refine aRegion_auto (by decide +kernel) ?_ | refine ⟨_, _, REnt.drop ⟨rfl, rfl⟩, ?_⟩ | fail))
  refine acall_frame [0] [.box [.fz .raw (.pointer none)]] [.fz .raw (errV (ea E e)), .ifc 155 (.ptr 0 0)] rfl ⟨⟨rfl, rfl⟩, trivial⟩ ⟨rfl, rfl⟩ rfl (errAs_any (ea E e) _ _ ?_)
  (repeat' (first | exact trivial | exact fun h => h | refine And.intro ?_ ?_ | (intro hb; try simp at hb) | omega | exact rfl | exact Nat.le_refl _ | (show _ + 1 ≤ 4294967296; omega) | (dsimp only; omega) | (show (_ : Int) ≤ (_ : Int); omega) | (show _ < List.length _; simp only [List.length_set, List.length_append, List.length_take]; omega) | (show wantB _ _ = true; simp <;> omega) | (show (_ : Bool) = _; simp_all; done) | (exfalso; omega) | refine aRegion_auto (by decide +kernel) ?_ | refine ⟨_, _, REnt.drop ⟨rfl, rfl⟩, ?_⟩ | fail))
  refine ⟨Nat, fun k => ⟨[(0, .fz .raw (errV (ea E e))), (3, .fz int (-1)), (24, .ref 1 0 8), (25, .fz int 8), (26, .fz int k)], [.box [.fz .raw (.pointer none)], .row .raw (errs E)]⟩, fun k => k < e, fun k => e - k, 0, h, Ent.sub rfl ?_, ?_⟩
  · (repeat' (first | exact trivial | exact rfl | refine And.intro ?_ ?_))
  intro k hk
  have hk8 : 0 + Int.toNat (k : Int) < (errs E).length := by show 0 + Int.toNat (k : Int) < 8; omega
  (repeat' (first | exact trivial | exact fun h => h | refine And.intro ?_ ?_ | (intro hb; try simp at hb) | omega | exact rfl | exact Nat.le_refl _ | (show _ + 1 ≤ 4294967296; omega) | (dsimp only; omega) | (show (_ : Int) ≤ (_ : Int); omega) | (show _ < List.length _; simp only [List.length_set, List.length_append, List.length_take]; omega) | (show wantB _ _ = true; simp <;> omega) | (show (_ : Bool) = _; simp_all; done) | (exfalso; omega) | refine aRegion_auto (by decide +kernel) ?_ | refine ⟨_, _, REnt.drop ⟨rfl, rfl⟩, ?_⟩ | fail))
  · refine acall_frame0 rfl (acall_arg (errIs_any hE h h8 (Nat.succ_pos k) (by omega) _ _ ?_) (congrArg (fun v => [AV.fz .raw (errV (ea E e)), AV.fz .raw v]) ((errs_at E (k := k) (by omega)).symm.trans (congrArg (fun i => List.getD (errs E) i (Ty.dft .raw)) (show k = 0 + Int.toNat (k : Int) by omega)))))
    (repeat' (first | exact trivial | exact fun h => h | refine And.intro ?_ ?_ | (intro hb; try simp at hb) | omega | exact rfl | exact Nat.le_refl _ | (show _ + 1 ≤ 4294967296; omega) | (dsimp only; omega) | (show (_ : Int) ≤ (_ : Int); omega) | (show _ < List.length _; simp only [List.length_set, List.length_append, List.length_take]; omega) | (show wantB _ _ = true; simp <;> omega) | (show (_ : Bool) = _; simp_all; done) | (exfalso; omega) | refine aRegion_auto (by decide +kernel) ?_ | refine ⟨_, _, REnt.drop ⟨rfl, rfl⟩, ?_⟩ | fail))
    · have hb : e = k + 1 := by simpa using hb
      subst hb
      exact hK
    · have hb : ¬ e = k + 1 := by simpa using hb
      refine ⟨k + 1, by omega, by show _ - _ < _ - _; omega, Ent.sub rfl ?_⟩
      (repeat' (first | exact trivial | exact rfl | refine And.intro ?_ ?_))
theorem coded_mercatorlaw3 {E : Errs} (hE : (EL E).Nodup) {e : Nat} (h8 : e ≤ 8) (n : Int) (K : AV → List AO → Prop) (hK : K (.fz .bool (decide ((e : Int) = n))) []) : ACall Tryz.prog (G8 E) 10 [.fz .raw (er E e), .fz int n] [] K := by
  refine acall_mk (E := envAt (G8 E) 15 0) (envOk _ _ _) Tryz.func10 rfl rfl rfl rfl rfl ?_
  (repeat' (first | exact trivial | exact fun h => h | refine And.intro ?_ ?_ | (intro hb; try simp at hb) | omega | exact rfl | exact Nat.le_refl _ | (show _ + 1 ≤ 4294967296; omega) | (dsimp only; omega) | (show (_ : Int) ≤ (_ : Int); omega) | (show _ < List.length _; simp only [List.length_set, List.length_append, List.length_take]; omega) | (show wantB _ _ = true; simp <;> omega) | (show (_ : Bool) = _; simp_all; done) | (exfalso; omega) | refine aRegion_auto (by decide +kernel) ?_ | refine ⟨_, _, REnt.drop ⟨rfl, rfl⟩, ?_⟩ | fail))
  by_cases h : e = 0
  · subst h
    refine acall_frame0 rfl (code_nil E _ ?_)
    (repeat' (first | exact trivial | exact fun h => h | refine And.intro ?_ ?_ | (intro hb; try simp at hb) | omega | exact rfl | exact Nat.le_refl _ | (show _ + 1 ≤ 4294967296; omega) | (dsimp only; omega) | (show (_ : Int) ≤ (_ : Int); omega) | (show _ < List.length _; simp only [List.length_set, List.length_append, List.length_take]; omega) | (show wantB _ _ = true; simp <;> omega) | (show (_ : Bool) = _; simp_all; done) | (exfalso; omega) | refine aRegion_auto (by decide +kernel) ?_ | refine ⟨_, _, REnt.drop ⟨rfl, rfl⟩, ?_⟩ | fail))
    exact hK
  · refine acall_frame0 rfl (acall_arg (code_any hE (Nat.pos_of_ne_zero h) h8 _ ?_) (congrArg (fun v => [AV.fz .raw v]) (er_ea E (Nat.pos_of_ne_zero h)).symm))
    (repeat' (first | exact trivial | exact fun h => h | refine And.intro ?_ ?_ | (intro hb; try simp at hb) | omega | exact rfl | exact Nat.le_refl _ | (show _ + 1 ≤ 4294967296; omega) | (dsimp only; omega) | (show (_ : Int) ≤ (_ : Int); omega) | (show _ < List.length _; simp only [List.length_set, List.length_append, List.length_take]; omega) | (show wantB _ _ = true; simp <;> omega) | (show (_ : Bool) = _; simp_all; done) | (exfalso; omega) | refine aRegion_auto (by decide +kernel) ?_ | refine ⟨_, _, REnt.drop ⟨rfl, rfl⟩, ?_⟩ | fail))
    exact hK
theorem coded_mercatorlaw4 {E : Errs} (hE : (EL E).Nodup) {e : Nat} (h8 : e ≤ 8) (n : Int) (K : AV → List AO → Prop) (hK : K (.fz .bool (decide ((e : Int) = n))) []) : ACall Tryz.prog (G8 E) 23 [.fz .raw (er E e), .fz int n] [] K := by
  refine acall_mk (E := envAt (G8 E) 15 0) (envOk _ _ _) Tryz.func23 rfl rfl rfl rfl rfl ?_
  (repeat' (first | exact trivial | exact fun h => h | refine And.intro ?_ ?_ | (intro hb; try simp at hb) | omega | exact rfl | exact Nat.le_refl _ | (show _ + 1 ≤ 4294967296; omega) | (dsimp only; omega) | (show (_ : Int) ≤ (_ : Int); omega) | (show _ < List.length _; simp only [List.length_set, List.length_append, List.length_take]; omega) | (show wantB _ _ = true; simp <;> omega) | (show (_ : Bool) = _; simp_all; done) | (exfalso; omega) | refine aRegion_auto (by decide +kernel) ?_ | refine ⟨_, _, REnt.drop ⟨rfl, rfl⟩, ?_⟩ | fail))
  by_cases h : e = 0
  · subst h
    refine acall_frame0 rfl (code_nil E _ ?_)
    (repeat' (first | exact trivial | exact fun h => h | refine And.intro ?_ ?_ | (intro hb; try simp at hb) | omega | exact rfl | exact Nat.le_refl _ | (show _ + 1 ≤ 4294967296; omega) | (dsimp only; omega) | (show (_ : Int) ≤ (_ : Int); omega) | (show _ < List.length _; simp only [List.length_set, List.length_append, List.length_take]; omega) | (show wantB _ _ = true; simp <;> omega) | (show (_ : Bool) = _; simp_all; done) | (exfalso; omega) | refine aRegion_auto (by decide +kernel) ?_ | refine ⟨_, _, REnt.drop ⟨rfl, rfl⟩, ?_⟩ | fail))
    exact hK
  · refine acall_frame0 rfl (acall_arg (code_any hE (Nat.pos_of_ne_zero h) h8 _ ?_) (congrArg (fun v => [AV.fz .raw v]) (er_ea E (Nat.pos_of_ne_zero h)).symm))
    (repeat' (first | exact trivial | exact fun h => h | refine And.intro ?_ ?_ | (intro hb; try simp at hb) | omega | exact rfl | exact Nat.le_refl _ | (show _ + 1 ≤ 4294967296; omega) | (dsimp only; omega) | (show (_ : Int) ≤ (_ : Int); omega) | (show _ < List.length _; simp only [List.length_set, List.length_append, List.length_take]; omega) | (show wantB _ _ = true; simp <;> omega) | (show (_ : Bool) = _; simp_all; done) | (exfalso; omega) | refine aRegion_auto (by decide +kernel) ?_ | refine ⟨_, _, REnt.drop ⟨rfl, rfl⟩, ?_⟩ | fail))
    exact hK
end Go.Proofs.YtgjjooophigkoaaGreatDoor
/-
  Is a raster right: in one piece; slices.Clone.
-/
namespace Go.Proofs.YtgjjooophigkoaaGreatDoor
open Go Go.Ab
set_option maxRecDepth 100000
theorem valid1 (E : Errs) (a : Ras) (hl : a.2.2.length ≤ 1000000000000) (K : AV → List AO → Prop) (hK : K (.fz .raw (er E (rerr a))) []) : ACall Tryz.prog (G8 E) 42 [.fz RasT a] [] K :=
  up8 (valid_any E a hl K (fun h => by rw [h] at hK; exact hK) (fun h => by rw [h] at hK; exact hK) (fun h => by rw [h] at hK; exact hK) (fun h => by rw [h] at hK; exact hK))
theorem clone_any (G : List (Nat × Value)) (xs : List Int) (hn : 0 < xs.length) (hl : xs.length ≤ 4294967296) (K : AV → List AO → Prop) (hK : K (.ref 0 0 xs.length) [.row int xs]) :
    ACall Tryz.prog G 174 [.fz (.list int) xs] [] K := by
  refine acall_mk (E := envAt G 8 0) (envOk _ _ _) Tryz.func174 rfl rfl rfl rfl rfl ?_
  (repeat' (first | exact trivial | exact fun h => h | refine And.intro ?_ ?_ | (intro hb; try simp at hb) | omega | exact rfl | exact Nat.le_refl _ | (show _ + 1 ≤ 4294967296; omega) | (dsimp only; omega) | (show (_ : Int) ≤ (_ : Int); omega) | (show _ < List.length _; simp only [List.length_set, List.length_append, List.length_take]; omega) | (show wantB _ _ = true; simp <;> omega) | (show (_ : Bool) = _; simp_all; done) | (exfalso; omega) | refine aRegion_auto (by decide +kernel) ?_ | fail))
  refine ⟨.ref 0 0 xs.length, [.row int xs], REnt.ren [1] rfl ?_ ?_, hK⟩
  · (repeat' (first | exact trivial | exact rfl | refine And.intro ?_ ?_))
  · (repeat' (first | exact trivial | exact rfl | refine And.intro ?_ ?_))
    exact congrArg (AV.ref 1 0) (Nat.zero_add xs.length)
end Go.Proofs.YtgjjooophigkoaaGreatDoor
/-
  The program's flood: the walk.
-/
namespace Go.Proofs.YtgjjooophigkoaaGreatDoor
open Go Go.Ab
set_option maxRecDepth 100000
def P1 (w h k i : Nat) : Int := if i < k then (if rimN w h i then 8 else -1) else 0
def fResP (w h : Nat) (a : Ras) : List Int × List Int × List Int := (lst (w * h) (flD w h (hts a)).fill, lst (w * h) (fun i => wayN w i ((flD w h (hts a)).to i)), natL (flD w h (hts a)).ord)
set_option maxHeartbeats 8000000 in
theorem flood_ok (E : Errs) (a : Ras) (hv : rerr a = 0) {w h : Nat} (R : RasN a w h) (K : AV → List AO → Prop) (hK : K (.tup [.fz FT (fResP w h a), .fz .raw .nilIface]) []) :
    ACall Tryz.prog (G8 E) 135 [.fz RasT a] [] K := by
  have hl := R.len
  have hwh := R.wh
  have hpos : 0 < w * h := Nat.mul_pos R.w0 R.h0
  obtain ⟨n, hn⟩ : ∃ n, n = w * h := ⟨_, rfl⟩
  rw [← hn] at hl hwh hpos
  let bA : AO := .box [.fz int a.1, .fz int a.2.1, .fz (.list int) a.2.2]
  let bR : AO := .box [.nilSl, .nilSl, .nilSl]
  let rm : AO := .room
  let Z : AO := .row int (List.replicate a.2.2.length 0)
  let C : AO := .row int a.2.2
  let B1 : AO := .box [.ref 4 0 a.2.2.length, .ref 2 0 a.2.2.length, .nilSl]
  refine acall_mk (E := envAt (G8 E) 119 0) (envOk _ _ _) Tryz.func135 rfl rfl rfl rfl rfl ?_
  (repeat' (first | exact trivial | exact fun h => h | refine And.intro ?_ ?_ | (intro hb; try simp at hb) | omega | exact rfl | exact Nat.le_refl _ | (show _ + 1 ≤ 4294967296; omega) | (dsimp only; omega) | (show (_ : Int) ≤ (_ : Int); omega) | (show _ < List.length _; simp only [List.length_set, List.length_append, List.length_take]; omega) | (show wantB _ _ = true; simp <;> omega) | (show (_ : Bool) = _; simp_all; done) | (exfalso; omega) | fail))
  refine acall_conv [.dat RasT] _ _ _ rfl trivial (acall_frame0 rfl (valid1 E a (by omega) _ ?_))
  rw [hv]
  (repeat' (first | exact trivial | exact fun h => h | refine And.intro ?_ ?_ | (intro hb; try simp at hb) | omega | exact rfl | exact Nat.le_refl _ | (show _ + 1 ≤ 4294967296; omega) | (dsimp only; omega) | (show (_ : Int) ≤ (_ : Int); omega) | (show _ < List.length _; simp only [List.length_set, List.length_append, List.length_take]; omega) | (show wantB _ _ = true; simp <;> omega) | (show (_ : Bool) = _; simp_all; done) | (exfalso; omega) | fail))
  refine aRegion_open 2 (by decide +kernel) ?_
  (repeat' (first | exact trivial | exact fun h => h | refine And.intro ?_ ?_ | (intro hb; try simp at hb) | omega | exact rfl | exact Nat.le_refl _ | (show _ + 1 ≤ 4294967296; omega) | (dsimp only; omega) | (show (_ : Int) ≤ (_ : Int); omega) | (show _ < List.length _; simp only [List.length_set, List.length_append, List.length_take]; omega) | (show wantB _ _ = true; simp <;> omega) | (show (_ : Bool) = _; simp_all; done) | (exfalso; omega) | refine aRegion_auto (by decide +kernel) ?_ | fail))
  refine eff_is (.ref 4 0 a.2.2.length) [bA, bR, rm, rm, C] ?_
  (repeat' (first | exact trivial | exact fun h => h | refine And.intro ?_ ?_ | (intro hb; try simp at hb) | omega | exact rfl | exact Nat.le_refl _ | (show _ + 1 ≤ 4294967296; omega) | (dsimp only; omega) | (show (_ : Int) ≤ (_ : Int); omega) | (show _ < List.length _; simp only [List.length_set, List.length_append, List.length_take]; omega) | (show wantB _ _ = true; simp <;> omega) | (show (_ : Bool) = _; simp_all; done) | (exfalso; omega) | refine aRegion_auto (by decide +kernel) ?_ | fail))
  refine eff_is (.ref 2 0 a.2.2.length) [bA, bR, Z, rm, C] ?_
  (repeat' (first | exact trivial | exact fun h => h | refine And.intro ?_ ?_ | (intro hb; try simp at hb) | omega | exact rfl | exact Nat.le_refl _ | (show _ + 1 ≤ 4294967296; omega) | (dsimp only; omega) | (show (_ : Int) ≤ (_ : Int); omega) | (show _ < List.length _; simp only [List.length_set, List.length_append, List.length_take]; omega) | (show wantB _ _ = true; simp <;> omega) | (show (_ : Bool) = _; simp_all; done) | (exfalso; omega) | refine aRegion_auto (by decide +kernel) ?_ | fail))
  refine eff_is (.ptr 3 0) [bA, bR, Z, bR, C] ?_
  (repeat' (first | exact trivial | exact fun h => h | refine And.intro ?_ ?_ | (intro hb; try simp at hb) | omega | exact rfl | exact Nat.le_refl _ | (show _ + 1 ≤ 4294967296; omega) | (dsimp only; omega) | (show (_ : Int) ≤ (_ : Int); omega) | (show _ < List.length _; simp only [List.length_set, List.length_append, List.length_take]; omega) | (show wantB _ _ = true; simp <;> omega) | (show (_ : Bool) = _; simp_all; done) | (exfalso; omega) | refine aRegion_auto (by decide +kernel) ?_ | fail))
  refine eff_is .unk [bA, bR, Z, B1, C] ?_
  refine ⟨[(0, [bA, bR, rm, rm]), (4, [bA, bR, rm, rm, C]), (64, [bA, bR, Z, rm]), (256, [bA, bR, rm, bR]), (68, [bA, bR, Z, rm, C]), (260, [bA, bR, rm, bR, C]), (320, [bA, bR, Z, bR]), (324, [bA, bR, Z, bR, C]), (836, [bA, bR, Z, B1, C])], rfl, rfl, ?_, ?_⟩
  · (repeat' (first | refine And.intro ?_ ?_ | exact trivial | exact rfl | omega))
    all_goals first
      | (refine view_of [0, 1, 4, 3] rfl ?_ rfl rfl; (repeat' (first | exact trivial | exact rfl | refine And.intro ?_ ?_)); done)
      | (refine view_of [0, 1, 2, 4] rfl ?_ rfl rfl; (repeat' (first | exact trivial | exact rfl | refine And.intro ?_ ?_)); done)
      | (refine view_of [0, 1, 5, 3, 4] rfl ?_ rfl rfl; (repeat' (first | exact trivial | exact rfl | refine And.intro ?_ ?_)); done)
      | (refine view_of [0, 1, 2, 5, 4] rfl ?_ rfl rfl; (repeat' (first | exact trivial | exact rfl | refine And.intro ?_ ?_)); done)
      | (refine view_of [0, 1, 2, 3, 4] rfl ?_ rfl rfl; (repeat' (first | exact trivial | exact rfl | refine And.intro ?_ ?_)); done)
      | (refine acall_frame0 rfl (clone_any _ a.2.2 (by omega) (by omega) _ ?_); refine view_of [0, 1, 2, 3, 4] rfl ?_ rfl rfl; (repeat' (first | exact trivial | exact rfl | refine And.intro ?_ ?_)); done)
  (repeat' (first | exact trivial | exact fun h => h | refine And.intro ?_ ?_ | (intro hb; try simp at hb) | omega | exact rfl | exact Nat.le_refl _ | (show _ + 1 ≤ 4294967296; omega) | (dsimp only; omega) | (show (_ : Int) ≤ (_ : Int); omega) | (show _ < List.length _; simp only [List.length_set, List.length_append, List.length_take]; omega) | (show wantB _ _ = true; simp <;> omega) | (show (_ : Bool) = _; simp_all; done) | (exfalso; omega) | refine aRegion_auto (by decide +kernel) ?_ | fail))
  refine ⟨Nat × List P2, fun x => ⟨[(1, .ptr 0 0), (2, .ptr 1 0), (5, .ptr 3 0), (6, .ptr 5 0), (28, .fz int n), (29, .fz int x.1)], [bA, bR, .row int (lst n (P1 w h x.1)), .box [.ref 4 0 n, .ref 2 0 n, .nilSl], .row int (lst n (hts a)), .box [.ref 6 0 x.2.length], .row WT x.2]⟩,
    fun x => x.1 ≤ n ∧ HeapB x.2.length x.2 ∧ AllW x.2 ∧ x.2.Perm (WL x.1 (fun i => decide (rimN w h i)) (hts a)), fun x => n - x.1, (0, []), ⟨Nat.zero_le _, (fun i _ hi => absurd hi (Nat.not_lt_zero _) : HeapB 0 []), (fun p hp => absurd hp (by simp) : AllW []), List.Perm.refl _⟩, (Ent.nilBox 5 0 WT rfl rfl).trans (Ent.sub ?_ ?_), ?_⟩
  · show [bA, bR, .row int (List.replicate a.2.2.length 0), .box [.ref 4 0 a.2.2.length, .ref 2 0 a.2.2.length, .nilSl], .row int a.2.2, .box [.ref 6 0 0], .row WT []] = _
    have e : a.2.2 = lst n (hts a) := by rw [← hl]; exact lst_eq _
    rw [hl, lst_zero]
    (repeat' (first | exact rfl | refine cons_eq ?_ ?_))
    exact congrArg (AO.row int) e
  · (repeat' (first | exact trivial | exact rfl | refine And.intro ?_ ?_))
    exact congrArg (fun z : Nat => AV.fz int (z : Int)) hl
  · rintro ⟨k, xs⟩ ⟨hk, hh, ha, hp⟩
    simp only at hk hh ha hp
    have hT := lst_len n (P1 w h k)
    have hLn := lst_len n (hts a)
    have hxl : xs.length ≤ k := by rw [hp.length_eq]; exact WL_len
    (repeat' (first | exact trivial | exact fun h => h | refine And.intro ?_ ?_ | (intro hb; try simp at hb) | omega | exact rfl | exact Nat.le_refl _ | (show _ + 1 ≤ 4294967296; omega) | (dsimp only; omega) | (show (_ : Int) ≤ (_ : Int); omega) | (show _ < List.length _; simp only [List.length_set, List.length_append, List.length_take]; omega) | (show wantB _ _ = true; simp <;> omega) | (show (_ : Bool) = _; simp_all; done) | (exfalso; omega) | refine aRegion_auto (by decide +kernel) ?_ | fail))
    · have hkn : k < n := by assumption
      refine acall_conv [.dat RasT, .keep] _ _ _ rfl trivial (acall_frame0 rfl (rim_any _ a R k (by omega) _ ?_))
      (repeat' (first | exact trivial | exact fun h => h | refine And.intro ?_ ?_ | (intro hb; try simp at hb) | omega | exact rfl | exact Nat.le_refl _ | (show _ + 1 ≤ 4294967296; omega) | (dsimp only; omega) | (show (_ : Int) ≤ (_ : Int); omega) | (show _ < List.length _; simp only [List.length_set, List.length_append, List.length_take]; omega) | (show wantB _ _ = true; simp <;> omega) | (show (_ : Bool) = _; simp_all; done) | (exfalso; omega) | refine aRegion_auto (by decide +kernel) ?_ | fail))
      · have hbd := R.at k
        refine acall_frame [5, 6] (hA xs.length xs) [hI, agW (hts a k, (k : Int))] rfl ⟨⟨rfl, rfl⟩, ⟨rfl, trivial⟩, trivial⟩ ⟨rfl, rfl⟩ rfl (heapPush_any _ xs xs.length (hts a k, (k : Int)) (by omega) (Nat.le_refl _) hh ha ?_ _ fun ys e1 e2 e3 e4 => ?_)
        · exact ⟨hbd.1, hbd.2, by show (0 : Int) ≤ k; omega, by show (k : Int) < 65536; omega⟩
        (repeat' (first | exact trivial | exact fun h => h | refine And.intro ?_ ?_ | (intro hb; try simp at hb) | omega | exact rfl | exact Nat.le_refl _ | (show _ + 1 ≤ 4294967296; omega) | (dsimp only; omega) | (show (_ : Int) ≤ (_ : Int); omega) | (show _ < List.length _; simp only [List.length_set, List.length_append, List.length_take]; omega) | (show wantB _ _ = true; simp <;> omega) | (show (_ : Bool) = _; simp_all; done) | (exfalso; omega) | refine aRegion_auto (by decide +kernel) ?_ | fail))
        refine ⟨(k + 1, ys), ⟨by show k + 1 ≤ n; omega, by show HeapB ys.length ys; rw [e1]; exact e3, e4, ?_⟩, by show n - (k + 1) < n - k; omega, Ent.ren [0, 1, 2, 3, 4, 5, 7] rfl ?_ ?_⟩
        · rw [List.take_length] at e2
          show ys.Perm (WL (k + 1) _ _)
          rw [WL_succ, if_pos (by simpa using hb)]
          exact e2.trans (hp.append_right _)
        · (repeat' (first | exact trivial | exact rfl | refine And.intro ?_ ?_))
          · refine congrArg some (row_set2 (k := k) (f := P1 w h k) (g := P1 w h (k + 1)) 8 rfl fun i hi => ?_)
            unfold P1
            by_cases e : i = k
            · subst e; rw [if_pos rfl, if_pos (show i < i + 1 by omega), if_pos hb]
            · rw [if_neg e]; by_cases e2 : i < k
              · rw [if_pos e2, if_pos (show i < k + 1 by omega)]
              · rw [if_neg e2, if_neg (show ¬ i < k + 1 by omega)]
          · exact congrArg (fun z => some (AO.box [AV.ref 7 0 z])) (show xs.length + 1 = ys.length from e1.symm)
        · (repeat' (first | exact trivial | exact rfl | refine And.intro ?_ ?_))
      · refine ⟨(k + 1, xs), ⟨by show k + 1 ≤ n; omega, hh, ha, ?_⟩, by show n - (k + 1) < n - k; omega, Ent.sub ?_ ?_⟩
        · show xs.Perm (WL (k + 1) _ _)
          rw [WL_succ, if_neg (by simpa using hb), List.append_nil]
          exact hp
        · (repeat' (first | exact rfl | refine cons_eq ?_ ?_))
          · refine row_set1 (k := k) (f := P1 w h k) (g := P1 w h (k + 1)) (-1) rfl fun i hi => ?_
            unfold P1
            by_cases e : i = k
            · subst e; rw [if_pos rfl, if_pos (show i < i + 1 by omega), if_neg hb]
            · rw [if_neg e]; by_cases e2 : i < k
              · rw [if_pos e2, if_pos (show i < k + 1 by omega)]
              · rw [if_neg e2, if_neg (show ¬ i < k + 1 by omega)]
        · (repeat' (first | exact trivial | exact rfl | refine And.intro ?_ ?_))
    · have hk2 : k = n := by omega
      subst hk2
      (repeat' (first | exact trivial | exact fun h => h | refine And.intro ?_ ?_ | (intro hb; try simp at hb) | omega | exact rfl | exact Nat.le_refl _ | (show _ + 1 ≤ 4294967296; omega) | (dsimp only; omega) | (show (_ : Int) ≤ (_ : Int); omega) | (show _ < List.length _; simp only [List.length_set, List.length_append, List.length_take]; omega) | (show wantB _ _ = true; simp <;> omega) | (show (_ : Bool) = _; simp_all; done) | (exfalso; omega) | refine aRegion_auto (by decide +kernel) ?_ | fail))
      refine ⟨Nat × Nat × List P2, fun x => ⟨[(1, .ptr 0 0), (2, .ptr 1 0), (5, .ptr 3 0), (6, .ptr 5 0)], [bA, bR, .row int (lst k (floI w (flN w h (hts a) x.1))), .box [.ref 4 0 k, .ref 2 0 k, .ref 7 0 x.1], .row int (lst k (filI (hts a) (flN w h (hts a) x.1))), .box [.ref 6 0 x.2.1], .row WT x.2.2, .row int (natL (flN w h (hts a) x.1).ord)]⟩,
        fun x => x.1 ≤ k ∧ x.2.1 ≤ x.2.2.length ∧ HeapB x.2.1 x.2.2 ∧ AllW x.2.2 ∧ (x.2.2.take x.2.1).Perm (wts k (flN w h (hts a) x.1)), fun x => k - x.1, (0, xs.length, xs), ⟨Nat.zero_le _, Nat.le_refl _, hh, ha, ?_⟩, (Ent.nilBox 3 2 int rfl rfl).trans (Ent.sub ?_ ?_), ?_⟩
      · show (xs.take xs.length).Perm _
        rw [List.take_length]
        refine hp.trans (List.Perm.of_eq (WL_congr (fun i hi => ?_) (fun i hi hr => ?_)))
        · show decide (rimN w h i) = decide ((if rimN w h i then 1 else 0) = 1)
          by_cases e : rimN w h i <;> simp [e]
        · show hts a i = if rimN w h i then hts a i else 0
          rw [if_pos (by simpa using hr)]
      · (repeat' (first | exact rfl | refine cons_eq ?_ ?_))
        · refine row_lst fun i hi => ?_
          have e0 : (flN w h (hts a) 0).st i = if rimN w h i then 1 else 0 := rfl
          have e1 : (flN w h (hts a) 0).to i = i := rfl
          simp only [P1, floI, e0, e1, if_pos hi, way_self]
          by_cases e : rimN w h i <;> simp [e]
        · refine row_lst fun i hi => ?_
          have e0 : (flN w h (hts a) 0).st i = if rimN w h i then 1 else 0 := rfl
          have e1 : (flN w h (hts a) 0).fill i = if rimN w h i then hts a i else 0 := rfl
          simp only [filI, e0, e1]
          by_cases e : rimN w h i <;> simp [e]
      · (repeat' (first | exact trivial | exact rfl | refine And.intro ?_ ?_))
      clear hh ha hp hxl hT
      rintro ⟨j, m, xs⟩ ⟨hj, hm, hh, ha, hp⟩
      simp only at hj hm hh ha hp
      obtain ⟨I, hol⟩ := flN_ok w h (hts a) R.w0 j (by omega)
      have hol' := natL_len (flN w h (hts a) j).ord
      have hml : m ≤ k := by
        have := hp.length_eq
        rw [List.length_take, Nat.min_eq_left hm] at this
        rw [this]; exact WL_len
      have hT := lst_len k (floI w (flN w h (hts a) j))
      have hF := lst_len k (filI (hts a) (flN w h (hts a) j))
      cases m with
      | zero =>
        have hjk : j = k := by
          apply Decidable.byContradiction
          intro hne
          obtain ⟨b, hb1, hb2, hb3⟩ := @flN_best w h (hts a) R.w0 j (by omega)
          have hmem : ((flN w h (hts a) j).fill b, ((b : Nat) : Int)) ∈ wts k (flN w h (hts a) j) := WL_mem.2 ⟨b, by have := hb2.1; omega, by rw [hb2.2.1]; rfl, rfl⟩
          have := hp.mem_iff.2 hmem
          simp at this
        subst hjk
        have hOl : (natL (flN w h (hts a) j).ord).length = j := by rw [hol', hol]
        (repeat' (first | exact trivial | exact fun h => h | refine And.intro ?_ ?_ | (intro hb; try simp at hb) | omega | exact rfl | exact Nat.le_refl _ | (show _ + 1 ≤ 4294967296; omega) | (dsimp only; omega) | (show (_ : Int) ≤ (_ : Int); omega) | (show _ < List.length _; simp only [List.length_set, List.length_append, List.length_take]; omega) | (show wantB _ _ = true; simp <;> omega) | (show (_ : Bool) = _; simp_all; done) | (exfalso; omega) | refine aRegion_auto (by decide +kernel) ?_ | fail))
        refine ⟨_, _, (REnt.conv [.dat FT, .keep] _ rfl ?_).trans (REnt.drop ⟨rfl, rfl⟩), ?_⟩
        · exact ⟨by show 0 + j ≤ _; rw [hF]; omega, by show 0 + j ≤ _; rw [hT]; omega, by show 0 + j ≤ _; rw [hOl]; omega⟩
        · have hall := flD_all w h (hts a) R.w0
          refine (congrArg (fun x => K (.tup [.fz FT x, .fz .raw .nilIface]) []) (?_ : fResP w h a = (List.take j (List.drop 0 (lst j (filI (hts a) (flN w h (hts a) j)))), List.take j (List.drop 0 (lst j (floI w (flN w h (hts a) j)))), List.take j (List.drop 0 (natL (flN w h (hts a) j).ord))))).mp hK
          rw [List.drop_zero, List.drop_zero, List.drop_zero, List.take_of_length_le (by omega), List.take_of_length_le (by omega), List.take_of_length_le (by omega)]
          unfold fResP flD
          unfold flD at hall
          rw [← hn] at hall ⊢
          have e1 : lst j (fun i => wayN w i ((flN w h (hts a) j).to i)) = lst j (floI w (flN w h (hts a) j)) := lst_congr fun i hi => by
            unfold floI; rw [if_neg (by rw [hall i hi]; omega)]
          have e2 : lst j (flN w h (hts a) j).fill = lst j (filI (hts a) (flN w h (hts a) j)) := lst_congr fun i hi => by
            unfold filI; rw [if_neg (by rw [hall i hi]; omega)]
          rw [e1, e2]
      | succ m =>
        have hjk : j < k := by
          apply Decidable.byContradiction
          intro hne
          have : j = k := by omega
          subst this
          have hall := flD_all w h (hts a) R.w0
          have hlen := hp.length_eq
          rw [List.length_take, Nat.min_eq_left hm] at hlen
          have : wts j (flN w h (hts a) j) = [] := by
            rw [List.eq_nil_iff_forall_not_mem]
            intro x hx
            obtain ⟨i, h1, h2, _⟩ := WL_mem.1 hx
            have h3 := hall i (by omega)
            unfold flD at h3
            rw [← hn] at h3
            rw [h3] at h2; simp at h2
          rw [this] at hlen; simp at hlen
        obtain ⟨b, hb1, hb2, hb3⟩ := @flN_best w h (hts a) R.w0 j (by omega)
        (repeat' (first | exact trivial | exact fun h => h | refine And.intro ?_ ?_ | (intro hb; try simp at hb) | omega | exact rfl | exact Nat.le_refl _ | (show _ + 1 ≤ 4294967296; omega) | (dsimp only; omega) | (show (_ : Int) ≤ (_ : Int); omega) | (show _ < List.length _; simp only [List.length_set, List.length_append, List.length_take]; omega) | (show wantB _ _ = true; simp <;> omega) | (show (_ : Bool) = _; simp_all; done) | (exfalso; omega) | refine aRegion_auto (by decide +kernel) ?_ | fail))
        refine acall_frame [5, 6] (hA (m + 1) xs) [hI] rfl ⟨⟨rfl, rfl⟩, ⟨rfl, trivial⟩, trivial⟩ ⟨rfl, rfl⟩ rfl (heapPop_any _ xs m (by omega) hm hh ha _ fun ys e1 e2 e3 e4 e5 => ?_)
        obtain ⟨hbk, hbs, _⟩ := id hb2
        rw [← hn] at hb2
        have hbn : b < k := by omega
        have tk : ys.take (m + 1) = ys.take m ++ [at2 ys m] := by
          rw [List.take_succ_eq_append_getElem (by omega)]
          simp [at2, List.getD, show m < ys.length by omega]
        have hpy : (ys.take m ++ [at2 ys m]).Perm (wts k (flN w h (hts a) j)) := by rw [← tk]; exact e2.trans hp
        have xm : at2 ys m = ((flN w h (hts a) j).fill b, ((b : Nat) : Int)) := by
          obtain ⟨i, h1, h2, h3⟩ := WL_mem.1 (hpy.mem_iff.1 (by simp : at2 ys m ∈ ys.take m ++ [at2 ys m]))
          have h2 : (flN w h (hts a) j).st i = 1 := by simpa using h2
          have hmem : ((flN w h (hts a) j).fill b, ((b : Nat) : Int)) ∈ ys.take m ++ [at2 ys m] := hpy.mem_iff.2 (WL_mem.2 ⟨b, hbn, by rw [hbs]; rfl, rfl⟩)
          have hkey : key (at2 ys m) ≤ key ((flN w h (hts a) j).fill b, ((b : Nat) : Int)) := by
            rcases List.mem_append.1 hmem with hmem | hmem
            · obtain ⟨k', hk', he⟩ := List.getElem_of_mem hmem
              have hk2 : k' < m := by simp at hk'; omega
              have hky : key (at2 ys m) ≤ key (at2 ys k') := e5 k' hk2
              have e : at2 ys k' = ((flN w h (hts a) j).fill b, ((b : Nat) : Int)) := by
                rw [← he]; simp [at2, List.getD, show k' < ys.length by omega]
              rw [e] at hky; exact hky
            · simp at hmem; rw [hmem]; exact Int.le_refl _
          rw [h3] at hkey ⊢
          have hib := best_key (w := w) (h := h) (by omega) (by rw [hn] at hb2; exact hb2) (by omega) h2 hkey
          rw [hib]
        have hp0 : (ys.take m).Perm (wts k (flQ w h (hts a) (flN w h (hts a) j) b 0)) := by
          have h1 := wts_take (w := w) (h := h) (L := hts a) (S := (flN w h (hts a) j)) (b := b) (by omega) hbs
          rw [← hn] at h1
          rw [xm] at hpy
          exact List.perm_append_right_iff _ |>.1 (hpy.trans h1)
        have hbW := e4.at m
        rw [xm] at hbW ⊢
        have hmy : m ≤ ys.length := by omega
        clear hp e2 e5 hpy tk ha hh hm
        have hOl : (natL (flN w h (hts a) j).ord).length = j := by rw [hol', hol]
        (repeat' (first | exact trivial | exact fun h => h | refine And.intro ?_ ?_ | (intro hb; try simp at hb) | omega | exact rfl | exact Nat.le_refl _ | (show _ + 1 ≤ 4294967296; omega) | (dsimp only; omega) | (show (_ : Int) ≤ (_ : Int); omega) | (show _ < List.length _; simp only [List.length_set, List.length_append, List.length_take]; omega) | (show wantB _ _ = true; simp <;> omega) | (show (_ : Bool) = _; simp_all; done) | (exfalso; omega) | refine aRegion_auto (by decide +kernel) ?_ | fail))
        refine ⟨Nat × Nat × List P2, fun x => ⟨[(1, .ptr 0 0), (2, .ptr 1 0), (5, .ptr 3 0), (6, .ptr 5 0), (8, .ptr 8 0), (67, .fz int x.1)], [bA, bR, .row int (lst k (floI w (flQ w h (hts a) (flN w h (hts a) j) b x.1))), .box [.ref 4 0 k, .ref 2 0 k, .ref 7 0 (j + 1)], .row int (lst k (filI (hts a) (flQ w h (hts a) (flN w h (hts a) j) b x.1))), .box [.ref 6 0 x.2.1], .row WT x.2.2, .row int (natL ((flN w h (hts a) j).ord ++ [b])), .box [.fz int ((flN w h (hts a) j).fill b), .fz int b]]⟩,
          fun x => x.1 ≤ 8 ∧ x.2.1 ≤ x.2.2.length ∧ HeapB x.2.1 x.2.2 ∧ AllW x.2.2 ∧ (x.2.2.take x.2.1).Perm (wts k (flQ w h (hts a) (flN w h (hts a) j) b x.1)), fun x => 8 - x.1, (0, m, ys), ⟨Nat.zero_le _, hmy, e3, e4, hp0⟩, Ent.ren [0, 1, 2, 3, 4, 5, 6, 10, 8] rfl ?_ ?_, ?_⟩
        · (repeat' (first | exact trivial | exact rfl | refine And.intro ?_ ?_))
          · refine congrArg some (row_lst fun i hi => ?_)
            unfold floI; rw [flQ_st, flQ_to, show visB w h b 0 i = false from rfl]
            by_cases hib : i = b
            · subst hib; simp [hbs]
            · simp [hib]
          · refine congrArg some (row_lst fun i hi => ?_)
            unfold filI; rw [flQ_st, flQ_fill, show visB w h b 0 i = false from rfl]
            by_cases hib : i = b
            · subst hib; simp [hbs]
            · simp [hib]
          · refine congrArg (fun l => some (AO.row int l)) (?_ : List.take j (natL (flN w h (hts a) j).ord) ++ [(b : Int)] = natL ((flN w h (hts a) j).ord ++ [b]))
            rw [List.take_of_length_le (by omega)]
            simp [natL]
        · (repeat' (first | exact trivial | exact rfl | refine And.intro ?_ ?_))
        clear xm e1 e3 e4 hp0 hmy ys
        rintro ⟨q, m, ys⟩ ⟨hq, hm, hh, ha, hp⟩
        simp only at hq hm hh ha hp
        have hT := lst_len k (floI w (flQ w h (hts a) (flN w h (hts a) j) b q))
        have hF := lst_len k (filI (hts a) (flQ w h (hts a) (flN w h (hts a) j) b q))
        have hml : m ≤ k := by
          have := hp.length_eq
          rw [List.length_take, Nat.min_eq_left hm] at this
          rw [this]; exact WL_len
        by_cases hq8 : q < 8
        · have skip : (∀ t, nbN w h b q = some t → (flQ w h (hts a) (flN w h (hts a) j) b q).st t ≠ 0) → lst k (floI w (flQ w h (hts a) (flN w h (hts a) j) b q)) = lst k (floI w (flQ w h (hts a) (flN w h (hts a) j) b (q + 1))) ∧ lst k (filI (hts a) (flQ w h (hts a) (flN w h (hts a) j) b q)) = lst k (filI (hts a) (flQ w h (hts a) (flN w h (hts a) j) b (q + 1))) ∧ wts k (flQ w h (hts a) (flN w h (hts a) j) b q) = wts k (flQ w h (hts a) (flN w h (hts a) j) b (q + 1)) := fun h0 =>
            rows_eq fun i hi => by obtain ⟨x1, x2, x3⟩ := flQ_skip (L := hts a) hbs h0 i; exact ⟨x1.symm, x2.symm, x3.symm⟩
          (repeat' (first | exact trivial | exact fun h => h | refine And.intro ?_ ?_ | (intro hb; try simp at hb) | omega | exact rfl | exact Nat.le_refl _ | (show _ + 1 ≤ 4294967296; omega) | (dsimp only; omega) | (show (_ : Int) ≤ (_ : Int); omega) | (show _ < List.length _; simp only [List.length_set, List.length_append, List.length_take]; omega) | (show wantB _ _ = true; simp <;> omega) | (show (_ : Bool) = _; simp_all; done) | (exfalso; omega) | refine aRegion_auto (by decide +kernel) ?_ | fail))
          refine acall_conv [.dat RasT, .keep, .keep] _ _ _ rfl trivial (acall_frame0 rfl (neighbour_any _ a R b q (by omega) hq8 _ (fun u hu => ?_) (fun hnone => ?_)))
          · have hun : u < k := by have := (nb_cell (by omega) hu).1; omega
            have g1 : (lst k (floI w (flQ w h (hts a) (flN w h (hts a) j) b q)))[u]?.getD int.dft = floI w (flQ w h (hts a) (flN w h (hts a) j) b q) u := lst_get _ hun
            have g2 := flo_nn (q := q) I (b := b) (by omega) hbs (by omega) (i := u) (by omega)
            have hLu : u < a.2.2.length := by omega
            have pv : ∀ v, List.getD (List.set (lst k (filI (hts a) (flQ w h (hts a) (flN w h (hts a) j) b q))) (0 + Int.toNat (u : Int)) v) (0 + Int.toNat (u : Int)) int.dft = v := fun v => by
              rw [Nat.zero_add, Int.toNat_natCast, List.getD_eq_getElem?_getD, List.getElem?_set_self (by omega)]; rfl
            (repeat' (first | exact trivial | exact fun h => h | refine And.intro ?_ ?_ | (intro hb; try simp at hb) | omega | exact rfl | exact Nat.le_refl _ | (show _ + 1 ≤ 4294967296; omega) | (dsimp only; omega) | (show (_ : Int) ≤ (_ : Int); omega) | (show _ < List.length _; simp only [List.length_set, List.length_append, List.length_take]; omega) | (show wantB _ _ = true; simp <;> omega) | (show (_ : Bool) = _; simp_all; done) | (exfalso; omega) | refine aRegion_auto (by decide +kernel) ?_ | fail))
            · obtain ⟨s1, s2, s3⟩ := skip (fun t ht => by rw [hu] at ht; cases ht; exact g2.1 (by omega))
              refine ⟨(q + 1, m, ys), ⟨by show q + 1 ≤ 8; omega, hm, hh, ha, by rw [← s3]; exact hp⟩, by show 8 - (q + 1) < 8 - q; omega, Ent.sub ?_ ?_⟩
              · show [bA, bR, .row int (lst k (floI w (flQ w h (hts a) (flN w h (hts a) j) b q))), .box [.ref 4 0 k, .ref 2 0 k, .ref 7 0 (j + 1)], .row int (lst k (filI (hts a) (flQ w h (hts a) (flN w h (hts a) j) b q))), _, _, _, _] = [bA, bR, .row int (lst k (floI w (flQ w h (hts a) (flN w h (hts a) j) b (q + 1)))), .box [.ref 4 0 k, .ref 2 0 k, .ref 7 0 (j + 1)], .row int (lst k (filI (hts a) (flQ w h (hts a) (flN w h (hts a) j) b (q + 1)))), _, _, _, _]
                rw [s1, s2]
              · (repeat' (first | exact trivial | exact rfl | refine And.intro ?_ ?_))
            · have hst0 : (flQ w h (hts a) (flN w h (hts a) j) b q).st u = 0 := by
                apply Decidable.byContradiction
                intro hne
                have := g2.2 hne
                omega
              have hrow := rows_new (w := w) (h := h) (L := hts a) (S := (flN w h (hts a) j)) (b := b) (q := q) (by omega) hbs hq8 hu hst0
              have hwn := wts_new (w := w) (h := h) (L := hts a) (S := (flN w h (hts a) j)) (b := b) (q := q) (by omega) hbs hq8 hu hst0
              rw [← hn] at hwn
              have hub := R.at u
              (apply exEff; focus (repeat' (first | exact ⟨rfl, rfl⟩ | exact trivial | refine And.intro ?_ ?_ | omega | exact Nat.le_refl _ | (show _ + 1 ≤ 4294967296; omega))))
              (repeat' (first | exact trivial | exact fun h => h | refine And.intro ?_ ?_ | (intro hb; try simp at hb) | omega | exact rfl | exact Nat.le_refl _ | (show _ + 1 ≤ 4294967296; omega) | (dsimp only; omega) | (show (_ : Int) ≤ (_ : Int); omega) | (show _ < List.length _; simp only [List.length_set, List.length_append, List.length_take]; omega) | (show wantB _ _ = true; simp <;> omega) | (show (_ : Bool) = _; simp_all; done) | (exfalso; omega) | refine aRegion_auto (by decide +kernel) ?_ | fail))
              refine acall_frame [5, 6] (hA m ys) [hI, agW (max (hts a u) ((flN w h (hts a) j).fill b), (u : Int))] rfl ⟨⟨rfl, rfl⟩, ⟨rfl, trivial⟩, trivial⟩ ⟨rfl, rfl⟩ ?_ (heapPush_any _ ys m (max (hts a u) ((flN w h (hts a) j).fill b), (u : Int)) (by omega) hm hh ha ?_ _ fun zs e1 e2 e3 e4 => ?_)
              · exact congrArg (fun z => [AV.ifc 255 (.ptr 5 0), .ifc 257 (.agg [.fz int z, .fz int u])]) (pv _)
              · unfold okW at hbW ⊢
                simp only at hbW ⊢
                have : hts a u = a.2.2.getD u 0 := rfl
                omega
              · (repeat' (first | exact trivial | exact fun h => h | refine And.intro ?_ ?_ | (intro hb; try simp at hb) | omega | exact rfl | exact Nat.le_refl _ | (show _ + 1 ≤ 4294967296; omega) | (dsimp only; omega) | (show (_ : Int) ≤ (_ : Int); omega) | (show _ < List.length _; simp only [List.length_set, List.length_append, List.length_take]; omega) | (show wantB _ _ = true; simp <;> omega) | (show (_ : Bool) = _; simp_all; done) | (exfalso; omega) | refine aRegion_auto (by decide +kernel) ?_ | fail))
                refine ⟨(q + 1, m + 1, zs), ⟨by show q + 1 ≤ 8; omega, by show m + 1 ≤ zs.length; omega, e3, e4, ?_⟩, by show 8 - (q + 1) < 8 - q; omega, Ent.ren [0, 1, 2, 3, 4, 5, 9, 7, 8] rfl ?_ ?_⟩
                · show (zs.take (m + 1)).Perm _
                  rw [List.take_of_length_le (by omega)]
                  exact (e2.trans (hp.append_right _)).trans hwn.symm
                · (repeat' (first | exact trivial | exact rfl | refine And.intro ?_ ?_))
                  · refine congrArg some (row_set1 (k := u) (f := floI w (flQ w h (hts a) (flN w h (hts a) j) b q)) (g := floI w (flQ w h (hts a) (flN w h (hts a) j) b (q + 1))) (((q : Int) + 4) % 8) ?_ fun i hi => (hrow i).1)
                    exact (show Int.tmod ((q : Int) + 4) 8 = ((q : Int) + 4) % 8 from Int.tmod_eq_emod_of_nonneg (by omega))
                  · exact congrArg some (row_set1 (k := u) (f := filI (hts a) (flQ w h (hts a) (flN w h (hts a) j) b q)) (g := filI (hts a) (flQ w h (hts a) (flN w h (hts a) j) b (q + 1))) (max (hts a u) ((flN w h (hts a) j).fill b)) rfl fun i hi => (hrow i).2)
                · (repeat' (first | exact trivial | exact rfl | refine And.intro ?_ ?_))
          · obtain ⟨s1, s2, s3⟩ := skip (fun t ht => by rw [hnone] at ht; cases ht)
            (repeat' (first | exact trivial | exact fun h => h | refine And.intro ?_ ?_ | (intro hb; try simp at hb) | omega | exact rfl | exact Nat.le_refl _ | (show _ + 1 ≤ 4294967296; omega) | (dsimp only; omega) | (show (_ : Int) ≤ (_ : Int); omega) | (show _ < List.length _; simp only [List.length_set, List.length_append, List.length_take]; omega) | (show wantB _ _ = true; simp <;> omega) | (show (_ : Bool) = _; simp_all; done) | (exfalso; omega) | refine aRegion_auto (by decide +kernel) ?_ | fail))
            refine ⟨(q + 1, m, ys), ⟨by show q + 1 ≤ 8; omega, hm, hh, ha, by rw [← s3]; exact hp⟩, by show 8 - (q + 1) < 8 - q; omega, Ent.sub ?_ ?_⟩
            · show [bA, bR, .row int (lst k (floI w (flQ w h (hts a) (flN w h (hts a) j) b q))), .box [.ref 4 0 k, .ref 2 0 k, .ref 7 0 (j + 1)], .row int (lst k (filI (hts a) (flQ w h (hts a) (flN w h (hts a) j) b q))), _, _, _, _] = [bA, bR, .row int (lst k (floI w (flQ w h (hts a) (flN w h (hts a) j) b (q + 1)))), .box [.ref 4 0 k, .ref 2 0 k, .ref 7 0 (j + 1)], .row int (lst k (filI (hts a) (flQ w h (hts a) (flN w h (hts a) j) b (q + 1)))), _, _, _, _]
              rw [s1, s2]
            · (repeat' (first | exact trivial | exact rfl | refine And.intro ?_ ?_))
        · have hq8 : q = 8 := by omega
          subst hq8
          (repeat' (first | exact trivial | exact fun h => h | refine And.intro ?_ ?_ | (intro hb; try simp at hb) | omega | exact rfl | exact Nat.le_refl _ | (show _ + 1 ≤ 4294967296; omega) | (dsimp only; omega) | (show (_ : Int) ≤ (_ : Int); omega) | (show _ < List.length _; simp only [List.length_set, List.length_append, List.length_take]; omega) | (show wantB _ _ = true; simp <;> omega) | (show (_ : Bool) = _; simp_all; done) | (exfalso; omega) | refine aRegion_auto (by decide +kernel) ?_ | fail))
          have hfin := fun i (hi : i < k) => flQ_end (w := w) (h := h) (L := hts a) (S := (flN w h (hts a) j)) (b := b) (by omega) (i := i) (by omega)
          obtain ⟨s1, s2, s3⟩ := rows_eq (w := w) (L := hts a) (n := k) hfin
          refine ⟨(j + 1, m, ys), ⟨by show j + 1 ≤ k; omega, hm, hh, ha, by show (ys.take m).Perm (wts k (flN w h (hts a) (j + 1))); rw [hb3, ← s3]; exact hp⟩, by show k - (j + 1) < k - j; omega, Ent.ren [0, 1, 2, 3, 4, 5, 6, 7] rfl ?_ ?_⟩
          · (repeat' (first | exact trivial | exact rfl | refine And.intro ?_ ?_))
            · refine congrArg (fun l => some (AO.row int l)) (?_ : lst k (floI w (flQ w h (hts a) (flN w h (hts a) j) b 8)) = lst k (floI w (flN w h (hts a) (j + 1))))
              rw [hb3]; exact s1
            · refine congrArg (fun l => some (AO.row int l)) (?_ : lst k (filI (hts a) (flQ w h (hts a) (flN w h (hts a) j) b 8)) = lst k (filI (hts a) (flN w h (hts a) (j + 1))))
              rw [hb3]; exact s2
            · refine congrArg (fun l => some (AO.row int l)) (?_ : natL ((flN w h (hts a) j).ord ++ [b]) = natL (flN w h (hts a) (j + 1)).ord)
              rw [hb3]; rfl
          · (repeat' (first | exact trivial | exact rfl | refine And.intro ?_ ?_))
end Go.Proofs.YtgjjooophigkoaaGreatDoor
/-
  What the program says of a flood; the document's ways.
-/
namespace Go.Proofs.YtgjjooophigkoaaGreatDoor
open Go Go.Ab
set_option maxRecDepth 100000
def flP (a : Ras) : List Int × List Int × List Int := if rerr a = 0 then fResP a.1.toNat a.2.1.toNat a else ([], [], [])
theorem flP_len (a : Ras) : (flP a).1.length ≤ 1000000000000 ∧ (flP a).2.1.length ≤ 1000000000000 ∧ (flP a).2.2.length ≤ 1000000000000 := by
  unfold flP
  by_cases hv : rerr a = 0
  · rw [if_pos hv]
    have R := RasN.mk' hv
    have := R.wh
    have ho := (flN_ok a.1.toNat a.2.1.toNat (hts a) R.w0 (a.1.toNat * a.2.1.toNat) (Nat.le_refl _)).2
    unfold fResP flD
    simp only [lst_len, natL_len, ho]
    omega
  · rw [if_neg hv]; simp
theorem flood_one (E : Errs) (a : Ras) (hl : a.2.2.length ≤ 1000000000000) (K : AV → List AO → Prop) (hK : K (.tup [.fz FT (flP a), .fz .raw (er E (rerr a))]) []) :
    ACall Tryz.prog (G8 E) 135 [.fz RasT a] [] K := by
  unfold flP at hK
  by_cases hv : rerr a = 0
  · rw [if_pos hv, hv] at hK
    exact flood_ok E a hv (RasN.mk' hv) K hK
  · rw [if_neg hv] at hK
    have h4 := rerr_in a
    refine acall_mk (E := envAt (G8 E) 119 0) (envOk _ _ _) Tryz.func135 rfl rfl rfl rfl rfl ?_
    (repeat' (first | exact trivial | exact fun h => h | refine And.intro ?_ ?_ | (intro hb; try simp at hb) | omega | exact rfl | exact Nat.le_refl _ | (show _ + 1 ≤ 4294967296; omega) | (dsimp only; omega) | (show (_ : Int) ≤ (_ : Int); omega) | (show _ < List.length _; simp only [List.length_set, List.length_append, List.length_take]; omega) | (show wantB _ _ = true; simp <;> omega) | (show (_ : Bool) = _; simp_all; done) | (exfalso; omega) | fail))
    refine acall_conv [.dat RasT] _ _ _ rfl trivial (acall_frame0 rfl (valid1 E a hl _ ?_))
    obtain h | h | h | h : rerr a = 1 ∨ rerr a = 2 ∨ rerr a = 3 ∨ rerr a = 4 := by omega
    all_goals
      rw [h] at hK ⊢
      (repeat' (first | exact trivial | exact fun h => h | refine And.intro ?_ ?_ | (intro hb; try simp at hb) | omega | exact rfl | exact Nat.le_refl _ | (show _ + 1 ≤ 4294967296; omega) | (dsimp only; omega) | (show (_ : Int) ≤ (_ : Int); omega) | (show _ < List.length _; simp only [List.length_set, List.length_append, List.length_take]; omega) | (show wantB _ _ = true; simp <;> omega) | (show (_ : Bool) = _; simp_all; done) | (exfalso; omega) | fail))
      refine ⟨_, _, (REnt.conv [.dat FT, .keep] _ rfl trivial).trans (REnt.drop ⟨rfl, rfl⟩), ?_⟩
      exact hK
def fillQ (a : Ras) : Ras := if rerr a = 0 then (a.1, a.2.1, (flP a).1) else (0, 0, [])
theorem flow_one (E : Errs) (a : Ras) (hl : a.2.2.length ≤ 1000000000000) (K : AV → List AO → Prop) (hK : K (.tup [.fz (.list int) (flP a).2.1, .fz .raw (er E (rerr a))]) []) :
    ACall Tryz.prog (G8 E) 101 [.fz RasT a] [] K := by
  refine acall_mk (E := envAt (G8 E) 14 0) (envOk _ _ _) Tryz.func101 rfl rfl rfl rfl rfl ?_
  (repeat' (first | exact trivial | exact fun h => h | refine And.intro ?_ ?_ | (intro hb; try simp at hb) | omega | exact rfl | exact Nat.le_refl _ | (show _ + 1 ≤ 4294967296; omega) | (dsimp only; omega) | (show (_ : Int) ≤ (_ : Int); omega) | (show _ < List.length _; simp only [List.length_set, List.length_append, List.length_take]; omega) | (show wantB _ _ = true; simp <;> omega) | (show (_ : Bool) = _; simp_all; done) | (exfalso; omega) | fail))
  refine acall_conv [.dat RasT] _ _ _ rfl trivial (acall_frame0 rfl (flood_one E a hl _ ?_))
  (repeat' (first | exact trivial | exact fun h => h | refine And.intro ?_ ?_ | (intro hb; try simp at hb) | omega | exact rfl | exact Nat.le_refl _ | (show _ + 1 ≤ 4294967296; omega) | (dsimp only; omega) | (show (_ : Int) ≤ (_ : Int); omega) | (show _ < List.length _; simp only [List.length_set, List.length_append, List.length_take]; omega) | (show wantB _ _ = true; simp <;> omega) | (show (_ : Bool) = _; simp_all; done) | (exfalso; omega) | fail))
  refine ⟨_, _, REnt.drop ⟨rfl, rfl⟩, ?_⟩
  exact hK
theorem order_one (E : Errs) (a : Ras) (hl : a.2.2.length ≤ 1000000000000) (K : AV → List AO → Prop) (hK : K (.tup [.fz (.list int) (flP a).2.2, .fz .raw (er E (rerr a))]) []) :
    ACall Tryz.prog (G8 E) 100 [.fz RasT a] [] K := by
  refine acall_mk (E := envAt (G8 E) 14 0) (envOk _ _ _) Tryz.func100 rfl rfl rfl rfl rfl ?_
  (repeat' (first | exact trivial | exact fun h => h | refine And.intro ?_ ?_ | (intro hb; try simp at hb) | omega | exact rfl | exact Nat.le_refl _ | (show _ + 1 ≤ 4294967296; omega) | (dsimp only; omega) | (show (_ : Int) ≤ (_ : Int); omega) | (show _ < List.length _; simp only [List.length_set, List.length_append, List.length_take]; omega) | (show wantB _ _ = true; simp <;> omega) | (show (_ : Bool) = _; simp_all; done) | (exfalso; omega) | fail))
  refine acall_conv [.dat RasT] _ _ _ rfl trivial (acall_frame0 rfl (flood_one E a hl _ ?_))
  (repeat' (first | exact trivial | exact fun h => h | refine And.intro ?_ ?_ | (intro hb; try simp at hb) | omega | exact rfl | exact Nat.le_refl _ | (show _ + 1 ≤ 4294967296; omega) | (dsimp only; omega) | (show (_ : Int) ≤ (_ : Int); omega) | (show _ < List.length _; simp only [List.length_set, List.length_append, List.length_take]; omega) | (show wantB _ _ = true; simp <;> omega) | (show (_ : Bool) = _; simp_all; done) | (exfalso; omega) | fail))
  refine ⟨_, _, REnt.drop ⟨rfl, rfl⟩, ?_⟩
  exact hK
end Go.Proofs.YtgjjooophigkoaaGreatDoor
/-
  Where all water goes: the order of the flood, and the rim's cell to which each one goes.
-/
namespace Go.Proofs.YtgjjooophigkoaaGreatDoor
open Go Go.Ab
set_option maxRecDepth 100000
/-- what one flows to was taken ahead of it -/
theorem flN_pos (w h : Nat) (L : Nat → Int) (hw : 0 < w) : ∀ k, k ≤ w * h → ∀ i, i < w * h → (flN w h L k).st i = 2 → (flN w h L k).to i ≠ i → (flN w h L k).ord.idxOf ((flN w h L k).to i) < (flN w h L k).ord.idxOf i
  | 0, _, i, _, h2, _ => by
    have e : (flN w h L 0).st i = if rimN w h i then 1 else 0 := rfl
    rw [e] at h2; split at h2 <;> omega
  | k + 1, hk, i, hi, h2, hne => by
    obtain ⟨I, hol⟩ := flN_ok w h L hw k (by omega)
    obtain ⟨b, _, hb2, hb3⟩ := @flN_best w h L hw k (by omega)
    obtain ⟨b1, b2, _⟩ := hb2
    rw [hb3] at h2 hne ⊢
    have s : (flS w L (flN w h L k) b).st i = if i = b then 2 else if touchN w b i ∧ (flN w h L k).st i = 0 then 1 else (flN w h L k).st i := rfl
    have t : (flS w L (flN w h L k) b).to i = if touchN w b i ∧ (flN w h L k).st i = 0 then b else (flN w h L k).to i := rfl
    have o : (flS w L (flN w h L k) b).ord = (flN w h L k).ord ++ [b] := rfl
    have hbm : b ∉ (flN w h L k).ord := fun hm => by have := (I.ordin b).1 hm; omega
    rw [s] at h2
    rw [t] at hne ⊢
    rw [o]
    by_cases hib : i = b
    · subst hib
      rw [if_neg (by omega)] at hne ⊢
      rcases I.src i hi (by omega) with ⟨_, h, _⟩ | ⟨_, _, h3, h4, _⟩
      · exact absurd h hne
      · have hm : (flN w h L k).to i ∈ (flN w h L k).ord := (I.ordin _).2 ⟨h3, h4⟩
        rw [List.idxOf_append, if_pos hm, List.idxOf_append, if_neg hbm]
        have := List.idxOf_lt_length_of_mem hm
        omega
    · rw [if_neg hib] at h2
      by_cases hc : touchN w b i ∧ (flN w h L k).st i = 0
      · rw [if_pos hc] at h2; omega
      · rw [if_neg hc] at h2 hne ⊢
        have hmi : i ∈ (flN w h L k).ord := (I.ordin i).2 ⟨hi, h2⟩
        rcases I.src i hi (by omega) with ⟨_, h, _⟩ | ⟨_, _, h3, h4, _⟩
        · exact absurd h hne
        · have hm : (flN w h L k).to i ∈ (flN w h L k).ord := (I.ordin _).2 ⟨h3, h4⟩
          rw [List.idxOf_append, if_pos hm, List.idxOf_append, if_pos hmi]
          exact flN_pos w h L hw k (by omega) i hi h2 hne
/-- all of a flood that is over -/
structure FlowN (w h : Nat) (to : Nat → Nat) (ord : List Nat) : Prop where
  len : ord.length = w * h
  nodup : ord.Nodup
  mem : ∀ i, i ∈ ord ↔ i < w * h
  lt : ∀ i, i < w * h → to i < w * h
  pos : ∀ i, i < w * h → to i ≠ i → ord.idxOf (to i) < ord.idxOf i
  touch : ∀ i, i < w * h → to i ≠ i → touchN w (to i) i
  rim : ∀ i, i < w * h → (to i = i ↔ rimN w h i)
theorem flowN (w h : Nat) (L : Nat → Int) (hw : 0 < w) : FlowN w h (flD w h L).to (flD w h L).ord := by
  obtain ⟨I, hl⟩ := flN_ok w h L hw (w * h) (Nat.le_refl _)
  have hall := flD_all w h L hw
  refine ⟨hl, I.nodup, fun i => ⟨fun hi => ((I.ordin i).1 hi).1, fun hi => (I.ordin i).2 ⟨hi, hall i hi⟩⟩, fun i hi => ?_, fun i hi hne => flN_pos w h L hw _ (Nat.le_refl _) i hi (hall i hi) hne, fun i hi hne => ?_, fun i hi => ?_⟩
  all_goals rcases I.src i hi (by have := hall i hi; unfold flD at this; omega) with ⟨h1, h2, _⟩ | ⟨h1, h2, h3, _⟩
  · unfold flD; omega
  · exact h3
  · exact absurd h2 hne
  · exact h2
  · exact ⟨fun _ => h1, fun _ => h2⟩
  · exact ⟨fun e => absurd e h2.1, fun h => absurd h h1⟩
/-- by so many steps -/
def homeF (to : Nat → Nat) : Nat → Nat → Nat
  | 0, i => i
  | f + 1, i => if to i = i then i else homeF to f (to i)
def homeN (w h : Nat) (to : Nat → Nat) (i : Nat) : Nat := homeF to (w * h) i
section
variable {w h : Nat} {to : Nat → Nat} {ord : List Nat}
theorem FlowN.idx (F : FlowN w h to ord) {i : Nat} (hi : i < w * h) : ord.idxOf i < w * h := by
  rw [← F.len]; exact List.idxOf_lt_length_of_mem ((F.mem i).2 hi)
theorem FlowN.fuel (F : FlowN w h to ord) : ∀ p i, i < w * h → ord.idxOf i ≤ p → ∀ f g, p < f → p < g → homeF to f i = homeF to g i := by
  intro p
  induction p with
  | zero =>
    intro i hi hp f g hf hg
    obtain ⟨f, rfl⟩ : ∃ f', f = f' + 1 := ⟨f - 1, by omega⟩
    obtain ⟨g, rfl⟩ : ∃ g', g = g' + 1 := ⟨g - 1, by omega⟩
    unfold homeF
    by_cases e : to i = i
    · rw [if_pos e, if_pos e]
    · have := F.pos i hi e; omega
  | succ p ih =>
    intro i hi hp f g hf hg
    obtain ⟨f, rfl⟩ : ∃ f', f = f' + 1 := ⟨f - 1, by omega⟩
    obtain ⟨g, rfl⟩ : ∃ g', g = g' + 1 := ⟨g - 1, by omega⟩
    unfold homeF
    by_cases e : to i = i
    · rw [if_pos e, if_pos e]
    · rw [if_neg e, if_neg e]
      have := F.pos i hi e
      exact ih (to i) (F.lt i hi) (by omega) f g (by omega) (by omega)
theorem FlowN.home_rim (_F : FlowN w h to ord) {i : Nat} (hi : i < w * h) (e : to i = i) : homeN w h to i = i := by
  unfold homeN
  obtain ⟨n, hn⟩ : ∃ n, w * h = n + 1 := ⟨w * h - 1, by omega⟩
  rw [hn]; unfold homeF; rw [if_pos e]
theorem FlowN.home_to (F : FlowN w h to ord) {i : Nat} (hi : i < w * h) : homeN w h to i = homeN w h to (to i) := by
  by_cases e : to i = i
  · rw [e]
  · have hp := F.pos i hi e
    have hx := F.idx hi
    unfold homeN
    obtain ⟨n, hn⟩ : ∃ n, w * h = n + 1 := ⟨w * h - 1, by omega⟩
    have h1 : homeF to (n + 1) i = homeF to n (to i) := by rw [homeF, if_neg e]
    rw [hn, h1]
    exact F.fuel (ord.idxOf (to i)) (to i) (F.lt i hi) (Nat.le_refl _) n (n + 1) (by omega) (by omega)
theorem FlowN.home_lt (F : FlowN w h to ord) : ∀ p i, i < w * h → ord.idxOf i ≤ p → homeN w h to i < w * h := by
  intro p
  induction p with
  | zero =>
    intro i hi hp
    by_cases e : to i = i
    · rw [F.home_rim hi e]; exact hi
    · have := F.pos i hi e; omega
  | succ p ih =>
    intro i hi hp
    by_cases e : to i = i
    · rw [F.home_rim hi e]; exact hi
    · rw [F.home_to hi]
      have := F.pos i hi e
      exact ih (to i) (F.lt i hi) (by omega)
end
end Go.Proofs.YtgjjooophigkoaaGreatDoor
/-
  Basins: the walks.
-/
namespace Go.Proofs.YtgjjooophigkoaaGreatDoor
open Go Go.Ab
set_option maxRecDepth 100000
def stepI (W : Int) : Nat → Int
  | 0 => 1 | 1 => 1 - W | 2 => 0 - W | 3 => -1 - W | 4 => -1 | 5 => W - 1 | 6 => W | 7 => W + 1 | _ => 0
theorem step_eq (W : Int) {v : Nat} (hv : v < 8) : stepI W v = dY v * W + dX v := by
  obtain rfl | rfl | rfl | rfl | rfl | rfl | rfl | rfl : v = 0 ∨ v = 1 ∨ v = 2 ∨ v = 3 ∨ v = 4 ∨ v = 5 ∨ v = 6 ∨ v = 7 := by omega
  all_goals (simp only [stepI, dX, dY]; omega)
theorem step_nb {w h i v n : Nat} (hi : i < w * h) (hv : v < 8) (hn : nbN w h i v = some n) : (i : Int) + stepI w v = n := by
  obtain ⟨h0, h1, h2⟩ := nb_cell hi hn
  have e1 : (i : Int) = ((i / w : Nat) : Int) * w + ((i % w : Nat) : Int) := by
    rw [← Int.natCast_mul, ← Int.natCast_add, Nat.mul_comm, Nat.div_add_mod]
  have e2 : (n : Int) = ((n / w : Nat) : Int) * w + ((n % w : Nat) : Int) := by
    rw [← Int.natCast_mul, ← Int.natCast_add, Nat.mul_comm, Nat.div_add_mod]
  rw [e2, h1, h2, step_eq _ hv, Int.add_mul]
  omega
theorem step_any (G : List (Nat × Value)) (a : Ras) (v : Nat) (hv : v < 8) (hW : 0 ≤ a.1 ∧ a.1 ≤ 128) (K : AV → List AO → Prop) (hK : K (.fz int (stepI a.1 v)) []) :
    ACall Tryz.prog G 102 [.fz RasT a, .fz int v] [] K := by
  obtain rfl | rfl | rfl | rfl | rfl | rfl | rfl | rfl : v = 0 ∨ v = 1 ∨ v = 2 ∨ v = 3 ∨ v = 4 ∨ v = 5 ∨ v = 6 ∨ v = 7 := by omega
  all_goals
    simp only [stepI] at hK
    refine acall_mk (E := envAt G 25 0) (envOk _ _ _) Tryz.func102 rfl rfl rfl rfl rfl ?_
    (repeat' (first | exact trivial | exact fun h => h | refine And.intro ?_ ?_ | (intro hb; try simp at hb) | omega | exact rfl | exact Nat.le_refl _ | (show _ + 1 ≤ 4294967296; omega) | (dsimp only; omega) | (show (_ : Int) ≤ (_ : Int); omega) | (show _ < List.length _; simp only [List.length_set, List.length_append, List.length_take]; omega) | (show wantB _ _ = true; simp <;> omega) | (show (_ : Bool) = _; simp_all; done) | (exfalso; omega) | refine aRegion_auto (by decide +kernel) ?_ | fail))
    refine ⟨_, _, REnt.drop ⟨rfl, rfl⟩, ?_⟩
    exact hK
def basO (n : Nat) (w h : Nat) (to : Nat → Nat) (ord : List Nat) (k : Nat) (i : Nat) : Int := if ord.idxOf i < k then (homeN w h to i : Nat) else 0
def basQ (a : Ras) : List Int := if rerr a = 0 then lst (a.1.toNat * a.2.1.toNat) (fun i => ((homeN a.1.toNat a.2.1.toNat (flD a.1.toNat a.2.1.toNat (hts a)).to i : Nat) : Int)) else []
theorem natL_get (l : List Nat) {k : Nat} (hk : k < l.length) : (natL l)[k]?.getD int.dft = (l[k] : Nat) := by simp [natL, hk]
set_option maxHeartbeats 4000000 in
theorem basins_ok (E : Errs) (a : Ras) (hv : rerr a = 0) {w h : Nat} (R : RasN a w h) (ew : a.1.toNat = w) (eh : a.2.1.toNat = h) (K : AV → List AO → Prop) (hK : K (.tup [.fz (.list int) (lst (w * h) (fun i => ((homeN w h (flD w h (hts a)).to i : Nat) : Int))), .fz .raw .nilIface]) []) :
    ACall Tryz.prog (G8 E) 57 [.fz RasT a] [] K := by
  have hl := R.len
  have hwh := R.wh
  have F := flowN w h (hts a) R.w0
  have wz := R.wide
  have w1 := R.w1
  obtain ⟨n, hn⟩ : ∃ n, n = w * h := ⟨_, rfl⟩
  have eF : flP a = (lst (w * h) (flD w h (hts a)).fill, lst (w * h) (fun i => wayN w i ((flD w h (hts a)).to i)), natL (flD w h (hts a)).ord) := by
    unfold flP; rw [if_pos hv, ew, eh]; rfl
  generalize (flD w h (hts a)).to = to at *
  generalize (flD w h (hts a)).ord = ord at *
  rw [← hn] at hl hwh eF hK
  have hol : (natL ord).length = n := by rw [natL_len, F.len, hn]
  have hFl := lst_len n (fun i => wayN w i (to i))
  let bA : AO := .box [.fz int a.1, .fz int a.2.1, .fz (.list int) a.2.2]
  refine acall_mk (E := envAt (G8 E) 58 0) (envOk _ _ _) Tryz.func57 rfl rfl rfl rfl rfl ?_
  (repeat' (first | exact trivial | exact fun h => h | refine And.intro ?_ ?_ | (intro hb; try simp at hb) | omega | exact rfl | exact Nat.le_refl _ | (show _ + 1 ≤ 4294967296; omega) | (dsimp only; omega) | (show (_ : Int) ≤ (_ : Int); omega) | (show _ < List.length _; simp only [List.length_set, List.length_append, List.length_take]; omega) | (show wantB _ _ = true; simp <;> omega) | (show (_ : Bool) = _; simp_all; done) | (exfalso; omega) | fail))
  refine acall_conv [.dat RasT] _ _ _ rfl trivial (acall_frame0 rfl (order_one E a (by omega) _ ?_))
  rw [hv, eF]
  (repeat' (first | exact trivial | exact fun h => h | refine And.intro ?_ ?_ | (intro hb; try simp at hb) | omega | exact rfl | exact Nat.le_refl _ | (show _ + 1 ≤ 4294967296; omega) | (dsimp only; omega) | (show (_ : Int) ≤ (_ : Int); omega) | (show _ < List.length _; simp only [List.length_set, List.length_append, List.length_take]; omega) | (show wantB _ _ = true; simp <;> omega) | (show (_ : Bool) = _; simp_all; done) | (exfalso; omega) | fail))
  refine acall_conv [.dat RasT] _ _ _ rfl trivial (acall_frame0 rfl (flow_one E a (by omega) _ ?_))
  rw [hv, eF]
  (repeat' (first | exact trivial | exact fun h => h | refine And.intro ?_ ?_ | (intro hb; try simp at hb) | omega | exact rfl | exact Nat.le_refl _ | (show _ + 1 ≤ 4294967296; omega) | (dsimp only; omega) | (show (_ : Int) ≤ (_ : Int); omega) | (show _ < List.length _; simp only [List.length_set, List.length_append, List.length_take]; omega) | (show wantB _ _ = true; simp <;> omega) | (show (_ : Bool) = _; simp_all; done) | (exfalso; omega) | fail))
  refine ⟨Nat, fun k => ⟨[(1, .ptr 0 0), (6, .fz (.list int) (lst n (fun i => wayN w i (to i)))), (8, .ref 1 0 n), (29, .fz (.list int) (natL ord)), (30, .fz int n), (31, .fz int k)], [bA, .row int (lst n (basO n w h to ord k))]⟩, fun k => k ≤ n, fun k => n - k, 0, Nat.zero_le _, Ent.sub ?_ ?_, ?_⟩
  · show [bA, .row int (List.replicate a.2.2.length 0)] = _
    rw [hl, lst_zero]
    (repeat' (first | exact rfl | refine cons_eq ?_ ?_))
  · (repeat' (first | exact trivial | exact rfl | refine And.intro ?_ ?_))
    · exact congrArg (AV.ref 1 0) hl
    · exact congrArg (fun z : Nat => AV.fz int (z : Int)) hol
  intro k hk
  have hB := lst_len n (basO n w h to ord k)
  by_cases hkn : k < n
  · have hko : k < ord.length := by rw [F.len]; omega
    obtain ⟨c, hc⟩ : ∃ c, c = ord[k] := ⟨_, rfl⟩
    have hcm : c ∈ ord := by rw [hc]; exact List.getElem_mem _
    have hcn : c < n := by have := (F.mem c).1 hcm; omega
    have hci : ord.idxOf c = k := by rw [hc]; exact F.nodup.idxOf_getElem k hko
    have g1 : List.getD (natL ord) (Int.toNat (k : Int)) int.dft = (c : Int) := by
      rw [Int.toNat_natCast, List.getD_eq_getElem?_getD, natL_get ord hko, ← hc]
    have g2 : List.getD (lst n (fun i => wayN w i (to i))) (Int.toNat (c : Int)) int.dft = wayN w c (to c) := lst_at _ hcn
    have g1' : (natL ord)[k]?.getD int.dft = (c : Int) := by rw [natL_get ord hko, ← hc]
    have g2' : (lst n (fun i => wayN w i (to i)))[c]?.getD int.dft = wayN w c (to c) := lst_get _ hcn
    have hlast : ∀ i, i < n → i ≠ c → basO n w h to ord (k + 1) i = basO n w h to ord k i := fun i hi hne => by
      unfold basO
      have : ord.idxOf i ≠ k := fun e => hne (by
        have hm : i ∈ ord := (F.mem i).2 (by omega)
        have := List.getElem_idxOf (List.idxOf_lt_length_of_mem hm)
        rw [hc, ← this]; congr 1)
      by_cases e : ord.idxOf i < k
      · rw [if_pos e, if_pos (by omega)]
      · rw [if_neg e, if_neg (by omega)]
    have hself : basO n w h to ord (k + 1) c = (homeN w h to c : Nat) := by unfold basO; rw [if_pos (by omega)]
    by_cases hto : to c = c
    · have hw8 : wayN w c (to c) = 8 := by rw [hto, way_self]
      (repeat' (first | exact trivial | exact fun h => h | refine And.intro ?_ ?_ | (intro hb; try simp at hb) | omega | exact rfl | exact Nat.le_refl _ | (show _ + 1 ≤ 4294967296; omega) | (dsimp only; omega) | (show (_ : Int) ≤ (_ : Int); omega) | (show _ < List.length _; simp only [List.length_set, List.length_append, List.length_take]; omega) | (show wantB _ _ = true; simp <;> omega) | (show (_ : Bool) = _; simp_all; done) | (exfalso; omega) | fail))
      · exfalso
        apply hb
        rw [g1', Int.toNat_natCast, g2', hw8]
      · refine ⟨k + 1, by show k + 1 ≤ n; omega, by show n - (k + 1) < n - k; omega, Ent.sub ?_ ?_⟩
        · (repeat' (first | exact rfl | refine cons_eq ?_ ?_))
          rw [g1]
          refine row_set1 (k := c) (f := basO n w h to ord k) (g := basO n w h to ord (k + 1)) (c : Int) rfl fun i hi => ?_
          by_cases e : i = c
          · subst e; rw [if_pos rfl, hself, F.home_rim (by omega) hto]
          · rw [if_neg e, hlast i hi e]
        · (repeat' (first | exact trivial | exact rfl | refine And.intro ?_ ?_))
    · obtain ⟨v, hv8, hwv, hnb⟩ := way_to (w := w) (h := h) (i := c) (t := to c) (by omega) (by have := F.lt c (by omega); omega) (touchN_symm (F.touch c (by omega) hto))
      have htn := F.lt c (by omega)
      have hs := step_nb (by omega) hv8 hnb
      rw [← wz] at hs
      (repeat' (first | exact trivial | exact fun h => h | refine And.intro ?_ ?_ | (intro hb; try simp at hb) | omega | exact rfl | exact Nat.le_refl _ | (show _ + 1 ≤ 4294967296; omega) | (dsimp only; omega) | (show (_ : Int) ≤ (_ : Int); omega) | (show _ < List.length _; simp only [List.length_set, List.length_append, List.length_take]; omega) | (show wantB _ _ = true; simp <;> omega) | (show (_ : Bool) = _; simp_all; done) | (exfalso; omega) | fail))
      · rw [g1, g2, hwv]
        refine acall_conv [.dat RasT, .keep] _ _ _ rfl trivial (acall_frame0 rfl (step_any _ a v hv8 (by omega) _ ?_))
        (repeat' (first | exact trivial | exact fun h => h | refine And.intro ?_ ?_ | (intro hb; try simp at hb) | omega | exact rfl | exact Nat.le_refl _ | (show _ + 1 ≤ 4294967296; omega) | (dsimp only; omega) | (show (_ : Int) ≤ (_ : Int); omega) | (show _ < List.length _; simp only [List.length_set, List.length_append, List.length_take]; omega) | (show wantB _ _ = true; simp <;> omega) | (show (_ : Bool) = _; simp_all; done) | (exfalso; omega) | fail))
        refine ⟨k + 1, by show k + 1 ≤ n; omega, by show n - (k + 1) < n - k; omega, Ent.sub ?_ ?_⟩
        · (repeat' (first | exact rfl | refine cons_eq ?_ ?_))
          refine row_set2 (k := c) (f := basO n w h to ord k) (g := basO n w h to ord (k + 1)) (homeN w h to c : Nat) ?_ fun i hi => ?_
          · show List.getD (List.set (lst n (basO n w h to ord k)) (0 + Int.toNat (c : Int)) _) (0 + Int.toNat ((c : Int) + stepI a.1 v)) int.dft = _
            rw [hs, Nat.zero_add, Nat.zero_add, Int.toNat_natCast, Int.toNat_natCast, List.getD_eq_getElem?_getD, List.getElem?_set_ne (Ne.symm hto), lst_get _ (by omega)]
            unfold basO
            have := F.pos c (by omega) hto
            rw [if_pos (by omega), F.home_to (i := c) (by omega)]
          · by_cases e : i = c
            · subst e; rw [if_pos rfl, hself]
            · rw [if_neg e, hlast i hi e]
        · (repeat' (first | exact trivial | exact rfl | refine And.intro ?_ ?_))
      · exfalso
        rw [g1', Int.toNat_natCast, g2', hwv] at hb
        omega
  · have hkn : k = n := by omega
    subst hkn
    (repeat' (first | exact trivial | exact fun h => h | refine And.intro ?_ ?_ | (intro hb; try simp at hb) | omega | exact rfl | exact Nat.le_refl _ | (show _ + 1 ≤ 4294967296; omega) | (dsimp only; omega) | (show (_ : Int) ≤ (_ : Int); omega) | (show _ < List.length _; simp only [List.length_set, List.length_append, List.length_take]; omega) | (show wantB _ _ = true; simp <;> omega) | (show (_ : Bool) = _; simp_all; done) | (exfalso; omega) | fail))
    refine ⟨_, _, (REnt.conv [.dat (.list int), .keep] _ rfl ?_).trans (REnt.drop ⟨rfl, rfl⟩), ?_⟩
    · show 0 + k ≤ _
      omega
    · refine (congrArg (fun l => K (.tup [.fz (.list int) l, .fz .raw .nilIface]) []) (?_ : lst k (fun i => ((homeN w h to i : Nat) : Int)) = List.take k (List.drop 0 (lst k (basO k w h to ord k))))).mp hK
      rw [List.drop_zero, List.take_of_length_le (by omega)]
      refine lst_congr fun i hi => ?_
      unfold basO
      rw [if_pos (by have := F.idx (i := i) (by omega); omega)]
theorem basins_one (E : Errs) (a : Ras) (hl : a.2.2.length ≤ 1000000000000) (K : AV → List AO → Prop) (hK : K (.tup [.fz (.list int) (basQ a), .fz .raw (er E (rerr a))]) []) :
    ACall Tryz.prog (G8 E) 57 [.fz RasT a] [] K := by
  unfold basQ at hK
  by_cases hv : rerr a = 0
  · rw [if_pos hv, hv] at hK
    exact basins_ok E a hv (RasN.mk' hv) rfl rfl K hK
  · rw [if_neg hv] at hK
    have h4 := rerr_in a
    refine acall_mk (E := envAt (G8 E) 58 0) (envOk _ _ _) Tryz.func57 rfl rfl rfl rfl rfl ?_
    (repeat' (first | exact trivial | exact fun h => h | refine And.intro ?_ ?_ | (intro hb; try simp at hb) | omega | exact rfl | exact Nat.le_refl _ | (show _ + 1 ≤ 4294967296; omega) | (dsimp only; omega) | (show (_ : Int) ≤ (_ : Int); omega) | (show _ < List.length _; simp only [List.length_set, List.length_append, List.length_take]; omega) | (show wantB _ _ = true; simp <;> omega) | (show (_ : Bool) = _; simp_all; done) | (exfalso; omega) | fail))
    refine acall_conv [.dat RasT] _ _ _ rfl trivial (acall_frame0 rfl (order_one E a hl _ ?_))
    obtain h | h | h | h : rerr a = 1 ∨ rerr a = 2 ∨ rerr a = 3 ∨ rerr a = 4 := by omega
    all_goals
      rw [h] at hK ⊢
      (repeat' (first | exact trivial | exact fun h => h | refine And.intro ?_ ?_ | (intro hb; try simp at hb) | omega | exact rfl | exact Nat.le_refl _ | (show _ + 1 ≤ 4294967296; omega) | (dsimp only; omega) | (show (_ : Int) ≤ (_ : Int); omega) | (show _ < List.length _; simp only [List.length_set, List.length_append, List.length_take]; omega) | (show wantB _ _ = true; simp <;> omega) | (show (_ : Bool) = _; simp_all; done) | (exfalso; omega) | fail))
      refine ⟨_, _, (REnt.conv [.dat (.list int), .keep] _ rfl trivial).trans (REnt.drop ⟨rfl, rfl⟩), ?_⟩
      exact hK
/-! ### the document's -/
theorem homeOf_any (G : List (Nat × Value)) (fl : List Int × List Int × List Int) {w h : Nat} {to : Nat → Nat} {ord : List Nat} (F : FlowN w h to ord) (_hwh : w * h ≤ 16384) (hf : fl.2.1 = lst (w * h) (fun i => ((to i : Nat) : Int))) (i : Nat) (hi : i < w * h) (K : AV → List AO → Prop) (hK : K (.fz int (homeN w h to i : Nat)) []) :
    ACall Tryz.prog G 65 [.fz FT fl, .fz int i] [] K := by
  have hlen : fl.2.1.length = w * h := by rw [hf]; exact lst_len _ _
  refine acall_mk (E := envAt G 18 0) (envOk _ _ _) Tryz.func65 rfl rfl rfl rfl rfl ?_
  (repeat' (first | exact trivial | exact fun h => h | refine And.intro ?_ ?_ | (intro hb; try simp at hb) | omega | exact rfl | exact Nat.le_refl _ | (show _ + 1 ≤ 4294967296; omega) | (dsimp only; omega) | (show (_ : Int) ≤ (_ : Int); omega) | (show _ < List.length _; simp only [List.length_set, List.length_append, List.length_take]; omega) | (show wantB _ _ = true; simp <;> omega) | (show (_ : Bool) = _; simp_all; done) | (exfalso; omega) | fail))
  refine ⟨Nat, fun c => ⟨[(1, .fz int c), (2, .ptr 0 0)], [.box [.fz (.list int) fl.1, .fz (.list int) fl.2.1, .fz (.list int) fl.2.2]]⟩, fun c => c < w * h ∧ homeN w h to c = homeN w h to i, fun c => ord.idxOf c, i, ⟨hi, rfl⟩, Ent.sub rfl ?_, ?_⟩
  · (repeat' (first | exact trivial | exact rfl | refine And.intro ?_ ?_))
  intro c ⟨hc, he⟩
  have g1 : List.getD fl.2.1 (Int.toNat (c : Int)) int.dft = ((to c : Nat) : Int) := by rw [hf]; exact lst_at (fun i => ((to i : Nat) : Int)) hc
  have g1' : fl.2.1[c]?.getD int.dft = ((to c : Nat) : Int) := by rw [hf]; exact lst_get (fun i => ((to i : Nat) : Int)) hc
  have ht := F.lt c hc
  (repeat' (first | exact trivial | exact fun h => h | refine And.intro ?_ ?_ | (intro hb; try simp at hb) | omega | exact rfl | exact Nat.le_refl _ | (show _ + 1 ≤ 4294967296; omega) | (dsimp only; omega) | (show (_ : Int) ≤ (_ : Int); omega) | (show _ < List.length _; simp only [List.length_set, List.length_append, List.length_take]; omega) | (show wantB _ _ = true; simp <;> omega) | (show (_ : Bool) = _; simp_all; done) | (exfalso; omega) | fail))
  · have hne : to c ≠ c := fun e => hb (by rw [g1', e])
    rw [g1]
    refine ⟨to c, ⟨ht, by rw [← F.home_to hc]; exact he⟩, F.pos c hc hne, Ent.sub rfl ?_⟩
    (repeat' (first | exact trivial | exact rfl | refine And.intro ?_ ?_))
  · have e : to c = c := by omega
    refine ⟨_, _, REnt.drop ⟨rfl, rfl⟩, ?_⟩
    rw [← he, F.home_rim hc e] at hK
    exact hK
theorem homes_any (G : List (Nat × Value)) (a : Ras) (fl : List Int × List Int × List Int) {w h : Nat} {to : Nat → Nat} {ord : List Nat} (F : FlowN w h to ord) (hwh : w * h ≤ 16384) (hl : a.2.2.length = w * h) (hf : fl.2.1 = lst (w * h) (fun i => ((to i : Nat) : Int))) (K : AV → List AO → Prop) (hK : K (.fz (.list int) (lst (w * h) (fun i => ((homeN w h to i : Nat) : Int)))) []) :
    ACall Tryz.prog G 24 [.fptr RasT a, .fz FT fl] [] K := by
  refine acall_mk (E := envAt G 23 0) (envOk _ _ _) Tryz.func24 rfl rfl rfl rfl rfl ?_
  (repeat' (first | exact trivial | exact fun h => h | refine And.intro ?_ ?_ | (intro hb; try simp at hb) | omega | exact rfl | exact Nat.le_refl _ | (show _ + 1 ≤ 4294967296; omega) | (dsimp only; omega) | (show (_ : Int) ≤ (_ : Int); omega) | (show _ < List.length _; simp only [List.length_set, List.length_append, List.length_take]; omega) | (show wantB _ _ = true; simp <;> omega) | (show (_ : Bool) = _; simp_all; done) | (exfalso; omega) | fail))
  refine ⟨Nat, fun k => ⟨[(0, .fptr RasT a), (3, .ptr 0 0), (5, .ref 1 0 k), (6, .fz int k)], [.box [.fz (.list int) fl.1, .fz (.list int) fl.2.1, .fz (.list int) fl.2.2], .row int (lst k (fun i => ((homeN w h to i : Nat) : Int)))]⟩, fun k => k ≤ w * h, fun k => w * h - k, 0, Nat.zero_le _, (Ent.nil 5 int rfl).trans (Ent.sub rfl ?_), ?_⟩
  · (repeat' (first | exact trivial | exact rfl | refine And.intro ?_ ?_))
  intro k hk
  have hB := lst_len k (fun i => ((homeN w h to i : Nat) : Int))
  (repeat' (first | exact trivial | exact fun h => h | refine And.intro ?_ ?_ | (intro hb; try simp at hb) | omega | exact rfl | exact Nat.le_refl _ | (show _ + 1 ≤ 4294967296; omega) | (dsimp only; omega) | (show (_ : Int) ≤ (_ : Int); omega) | (show _ < List.length _; simp only [List.length_set, List.length_append, List.length_take]; omega) | (show wantB _ _ = true; simp <;> omega) | (show (_ : Bool) = _; simp_all; done) | (exfalso; omega) | fail))
  · have hkn : k < w * h := by omega
    refine acall_conv [.dat FT, .keep] _ _ _ rfl trivial (acall_frame0 rfl (homeOf_any G fl F hwh hf k hkn _ ?_))
    (repeat' (first | exact trivial | exact fun h => h | refine And.intro ?_ ?_ | (intro hb; try simp at hb) | omega | exact rfl | exact Nat.le_refl _ | (show _ + 1 ≤ 4294967296; omega) | (dsimp only; omega) | (show (_ : Int) ≤ (_ : Int); omega) | (show _ < List.length _; simp only [List.length_set, List.length_append, List.length_take]; omega) | (show wantB _ _ = true; simp <;> omega) | (show (_ : Bool) = _; simp_all; done) | (exfalso; omega) | fail))
    refine ⟨k + 1, by show k + 1 ≤ w * h; omega, by show w * h - (k + 1) < w * h - k; omega, Ent.ren [0, 3] rfl ?_ ?_⟩
    · (repeat' (first | exact trivial | exact rfl | refine And.intro ?_ ?_))
      refine congrArg (fun l => some (AO.row int l)) (?_ : List.take k (lst k (fun i => ((homeN w h to i : Nat) : Int))) ++ [((homeN w h to k : Nat) : Int)] = lst (k + 1) (fun i => ((homeN w h to i : Nat) : Int)))
      rw [List.take_of_length_le (by omega)]
      unfold lst; rw [List.range_succ, List.map_append]; rfl
    · (repeat' (first | exact trivial | exact rfl | refine And.intro ?_ ?_))
  · have hkn : k = w * h := by omega
    subst hkn
    refine ⟨_, _, (REnt.conv1 (.dat (.list int)) _ rfl ?_).trans (REnt.drop ⟨rfl, rfl⟩), ?_⟩
    · show 0 + _ ≤ _
      omega
    · refine (congrArg (fun l => K (.fz (.list int) l) []) (?_ : _ = List.take (w * h) (List.drop 0 (lst (w * h) (fun i => ((homeN w h to i : Nat) : Int)))))).mp hK
      rw [List.drop_zero, List.take_of_length_le (by omega)]
end Go.Proofs.YtgjjooophigkoaaGreatDoor
/-
  DrainFloods: the walk.
-/
namespace Go.Proofs.YtgjjooophigkoaaGreatDoor
open Go Go.Ab
set_option maxRecDepth 100000
theorem small80_any (G : List (Nat × Value)) (a : Ras) (K : AV → List AO → Prop) (hK : K (.fz .bool (decide (a.2.2.length ≤ 80))) []) : ACall Tryz.prog G 19 [.fptr RasT a] [] K := by
  refine acall_mk (E := envAt G 13 0) (envOk _ _ _) Tryz.func19 rfl rfl rfl rfl rfl ?_
  (repeat' (first | exact trivial | exact fun h => h | refine And.intro ?_ ?_ | (intro hb; try simp at hb) | omega | exact rfl | exact Nat.le_refl _ | (show _ + 1 ≤ 4294967296; omega) | (dsimp only; omega) | (show (_ : Int) ≤ (_ : Int); omega) | (show _ < List.length _; simp only [List.length_set, List.length_append, List.length_take]; omega) | (show wantB _ _ = true; simp <;> omega) | (show (_ : Bool) = _; simp_all; done) | (exfalso; omega) | refine aRegion_auto (by decide +kernel) ?_ | refine ⟨_, _, REnt.drop ⟨rfl, rfl⟩, ?_⟩ | fail))
  exact kbl hK (by simp; omega)
theorem small80_nil (G : List (Nat × Value)) (K : AV → List AO → Prop) (hK : K (.fz .bool false) []) : ACall Tryz.prog G 19 [.fz .raw (.pointer none)] [] K := by
  refine acall_mk (E := envAt G 13 0) (envOk _ _ _) Tryz.func19 rfl rfl rfl rfl rfl ?_
  (repeat' (first | exact trivial | exact fun h => h | refine And.intro ?_ ?_ | (intro hb; try simp at hb) | omega | exact rfl | exact Nat.le_refl _ | (show _ + 1 ≤ 4294967296; omega) | (dsimp only; omega) | (show (_ : Int) ≤ (_ : Int); omega) | (show _ < List.length _; simp only [List.length_set, List.length_append, List.length_take]; omega) | (show wantB _ _ = true; simp <;> omega) | (show (_ : Bool) = _; simp_all; done) | (exfalso; omega) | refine aRegion_auto (by decide +kernel) ?_ | refine ⟨_, _, REnt.drop ⟨rfl, rfl⟩, ?_⟩ | fail))
  exact hK
/-- once reached, where it flows stays -/
theorem to_stays {w h : Nat} {L : Nat → Int} (hw : 0 < w) {i t : Nat} : ∀ k, k ≤ w * h → ∀ j, j ≤ k → (flN w h L j).st i ≠ 0 → (flN w h L j).to i = t → (flN w h L k).st i ≠ 0 ∧ (flN w h L k).to i = t
  | 0, _, j, hj, h1, h2 => by
    obtain rfl : j = 0 := by omega
    exact ⟨h1, h2⟩
  | k + 1, hk, j, hj, h1, h2 => by
    by_cases e : j = k + 1
    · subst e; exact ⟨h1, h2⟩
    · obtain ⟨i1, i2⟩ := to_stays hw k (by omega) j (by omega) h1 h2
      obtain ⟨b, _, _, hb⟩ := @flN_best w h L hw k (by omega)
      rw [hb]
      constructor
      · show (if i = b then 2 else if touchN w b i ∧ (flN w h L k).st i = 0 then 1 else (flN w h L k).st i) ≠ 0
        split
        · omega
        · rw [if_neg (fun h => i1 h.2)]; exact i1
      · show (if touchN w b i ∧ (flN w h L k).st i = 0 then b else (flN w h L k).to i) = t
        rw [if_neg (fun h => i1 h.2)]; exact i2
def a9 : Ras := (3, 3, [9, 9, 9, 9, 5, 1, 9, 9, 9])
theorem a9_ok : rerr a9 = 0 := by decide
theorem a9_4 : (flP a9).2.1.getD 4 0 = 0 ∧ (flP a9).2.1.getD 0 0 = 8 ∧ (flP a9).2.1.length = 9 := by
  have e : flP a9 = fResP 3 3 a9 := by unfold flP; rw [if_pos a9_ok]; rfl
  rw [e]
  have h4 : (flD 3 3 (hts a9)).to 4 = 5 := (to_stays (w := 3) (h := 3) (L := hts a9) (by omega) (i := 4) (t := 5) 9 (by omega) 1 (by omega) (by decide +kernel) (by decide +kernel)).2
  have h0 : (flD 3 3 (hts a9)).to 0 = 0 := (to_stays (w := 3) (h := 3) (L := hts a9) (by omega) (i := 0) (t := 0) 9 (by omega) 0 (by omega) (by decide +kernel) (by decide +kernel)).2
  unfold fResP
  refine ⟨?_, ?_, ?_⟩
  · show (lst 9 _).getD 4 0 = 0
    rw [lst_at _ (by omega), h4]; decide
  · show (lst 9 _).getD 0 0 = 8
    rw [lst_at _ (by omega)]; first | (rw [h0]; decide) | decide
  · show (lst 9 _).length = 9
    rw [lst_len]
end Go.Proofs.YtgjjooophigkoaaGreatDoor
/-
  BasinParts: divides, and the walk.
-/
namespace Go.Proofs.YtgjjooophigkoaaGreatDoor
open Go Go.Ab
set_option maxRecDepth 100000
abbrev D2 : Ty := .arr 2 int
def pr (i k : Nat) : List Int := [(i : Int), (k : Int)]
/-- the divides of one cell: to the east, to the south -/
def dv1 (w : Nat) (b : Nat → Int) (i : Nat) : List (List Int) := if (i + 1) % w ≠ 0 ∧ b i ≠ b (i + 1) then [pr i (i + 1)] else []
def dv2 (w n : Nat) (b : Nat → Int) (i : Nat) : List (List Int) := if i + w < n ∧ b i ≠ b (i + w) then [pr i (i + w)] else []
def dvs (w n : Nat) (b : Nat → Int) : Nat → List (List Int)
  | 0 => []
  | k + 1 => dvs w n b k ++ (dv1 w b k ++ dv2 w n b k)
theorem dv_le (w n : Nat) (b : Nat → Int) (i : Nat) : (dv1 w b i).length ≤ 1 ∧ (dv2 w n b i).length ≤ 1 := by
  unfold dv1 dv2
  constructor <;> split <;> simp
theorem dvs_le (w n : Nat) (b : Nat → Int) : ∀ k, (dvs w n b k).length ≤ 2 * k
  | 0 => Nat.le_refl _
  | k + 1 => by
    have := dvs_le w n b k
    have := dv_le w n b k
    unfold dvs; simp; omega
end Go.Proofs.YtgjjooophigkoaaGreatDoor
/-
  BasinParts: the walk.
-/
namespace Go.Proofs.YtgjjooophigkoaaGreatDoor
open Go Go.Ab
set_option maxRecDepth 100000
abbrev hmI (a : Ras) (i : Nat) : Int := ((homeN a.1.toNat a.2.1.toNat (flD a.1.toNat a.2.1.toNat (hts a)).to i : Nat) : Int)
def divQ (a : Ras) : List (List Int) := if rerr a = 0 then dvs a.1.toNat (a.1.toNat * a.2.1.toNat) (hmI a) (a.1.toNat * a.2.1.toNat) else []
def a21 : Ras := (2, 1, [1, 2])
theorem a21_ok : rerr a21 = 0 := by decide
theorem a21_b : basQ a21 = [0, 1] := by
  unfold basQ
  rw [if_pos a21_ok]
  have F := flowN 2 1 (hts a21) (by omega)
  have h0 : homeN 2 1 (flD 2 1 (hts a21)).to 0 = 0 := F.home_rim (by omega) ((F.rim 0 (by omega)).2 (by decide))
  have h1 : homeN 2 1 (flD 2 1 (hts a21)).to 1 = 1 := F.home_rim (by omega) ((F.rim 1 (by omega)).2 (by decide))
  show [((homeN 2 1 (flD 2 1 (hts a21)).to 0 : Nat) : Int), ((homeN 2 1 (flD 2 1 (hts a21)).to 1 : Nat) : Int)] = [0, 1]
  rw [h0, h1]; rfl
theorem based_any (E : Errs) (K : AV → List AO → Prop) (hK : K (.fz .bool true) []) : ACall Tryz.prog (G8 E) 18 [] [] K := by
  have h0 : List.getD (basQ a21) (Int.toNat 0) int.dft = 0 := by rw [a21_b]; rfl
  have h1 : List.getD (basQ a21) (Int.toNat 1) int.dft = 1 := by rw [a21_b]; rfl
  have hl : (basQ a21).length = 2 := by rw [a21_b]; rfl
  refine acall_mk (E := envAt (G8 E) 28 0) (envOk _ _ _) Tryz.func18 rfl rfl rfl rfl rfl ?_
  (repeat' (first | exact trivial | exact fun h => h | refine And.intro ?_ ?_ | (intro hb; try simp at hb) | omega | exact rfl | exact Nat.le_refl _ | (show _ + 1 ≤ 4294967296; omega) | (dsimp only; omega) | (show (_ : Int) ≤ (_ : Int); omega) | (show _ < List.length _; simp only [List.length_set, List.length_append, List.length_take]; omega) | (show wantB _ _ = true; simp <;> omega) | (show (_ : Bool) = _; simp_all; done) | (exfalso; omega) | fail))
  refine acall_conv [.dat RasT] _ _ _ rfl ?_ (acall_frame0 rfl (basins_one E a21 (by decide) _ ?_))
  · (repeat' (first | exact trivial | refine And.intro ?_ ?_ | (show _ ≤ _; omega) | (show _ ≤ _; simp; done)))
  rw [a21_ok]
  generalize basQ a21 = l at *
  (repeat' (first | exact trivial | exact fun h => h | refine And.intro ?_ ?_ | (intro hb; try simp at hb) | omega | exact rfl | exact Nat.le_refl _ | (show _ + 1 ≤ 4294967296; omega) | (dsimp only; omega) | (show (_ : Int) ≤ (_ : Int); omega) | (show _ < List.length _; simp only [List.length_set, List.length_append, List.length_take]; omega) | (show wantB _ _ = true; simp <;> omega) | (show (_ : Bool) = _; simp_all; done) | (exfalso; omega) | fail))
  refine ⟨_, _, REnt.drop ⟨rfl, rfl⟩, ?_⟩
  refine kbl hK ?_
  rw [h0, h1, hl]
  rfl
theorem dvs_split (w n : Nat) (b : Nat → Int) (i : Nat) : ∀ m : Nat, i < m → ∃ R, dvs w n b m = dvs w n b i ++ (dv1 w b i ++ (dv2 w n b i ++ R))
  | 0, h => by omega
  | m + 1, h => by
    by_cases e : i = m
    · subst e; exact ⟨[], by rw [dvs, List.append_nil]⟩
    · obtain ⟨R, hR⟩ := dvs_split w n b i m (by omega)
      exact ⟨R ++ (dv1 w b m ++ dv2 w n b m), by rw [dvs, hR]; simp only [List.append_assoc]⟩
theorem get_after {α : Type} (d x : α) (l r : List α) : (l ++ (x :: r))[l.length]?.getD d = x := by simp
end Go.Proofs.YtgjjooophigkoaaGreatDoor
/-
  Lakes, plainly: each wet cell's lake is numbered by its least cell.
-/
namespace Go.Proofs.YtgjjooophigkoaaGreatDoor
namespace Lk
inductive Rch (n : Nat) (wet : Nat → Bool) (t : Nat → Nat → Prop) : Nat → Nat → Prop where
  | refl {i : Nat} : i < n → wet i = true → Rch n wet t i i
  | step {i j k : Nat} : Rch n wet t i j → t j k → k < n → wet k = true → Rch n wet t i k
variable {n : Nat} {wet : Nat → Bool} {t : Nat → Nat → Prop}
theorem Rch.right {i j : Nat} (h : Rch n wet t i j) : j < n ∧ wet j = true := by cases h with
  | refl a b => exact ⟨a, b⟩
  | step _ _ a b => exact ⟨a, b⟩
theorem Rch.left {i j : Nat} (h : Rch n wet t i j) : i < n ∧ wet i = true := by induction h with
  | refl a b => exact ⟨a, b⟩
  | step _ _ _ _ ih => exact ih
theorem Rch.trans {i j k : Nat} (h : Rch n wet t i j) (h2 : Rch n wet t j k) : Rch n wet t i k := by induction h2 with
  | refl _ _ => exact h
  | step _ a b c ih => exact .step ih a b c
theorem Rch.symm (ts : ∀ i k, t i k → t k i) {i j : Nat} (h : Rch n wet t i j) : Rch n wet t j i := by induction h with
  | refl a b => exact .refl a b
  | step h a b c ih => exact (Rch.step (.refl b c) (ts _ _ a) h.right.1 h.right.2).trans ih
/-- numbers of lakes: each wet cell has one that leads to it -/
def OfI (n : Nat) (wet : Nat → Bool) (t : Nat → Nat → Prop) (o : Nat → Int) : Prop :=
  ∀ i, i < n → (wet i = true → ∃ m : Nat, o i = m ∧ m ≤ i ∧ Rch n wet t m i) ∧ (wet i = false → o i = -1)
def Stb (n : Nat) (t : Nat → Nat → Prop) (o : Nat → Int) : Prop := ∀ i k, i < n → k < n → t i k → 0 ≤ o i → o k ≤ o i
structure Lak (n : Nat) (wet : Nat → Bool) (t : Nat → Nat → Prop) (o : Nat → Int) : Prop where
  of : OfI n wet t o
  st : Stb n t o
theorem OfI.isWet {o : Nat → Int} (h : OfI n wet t o) {i : Nat} (hi : i < n) : wet i = true ↔ 0 ≤ o i := by
  cases e : wet i
  · rw [(h i hi).2 e]; simp
  · obtain ⟨m, h1, _⟩ := (h i hi).1 e
    rw [h1]; simp
theorem OfI.start : OfI n wet t (fun i => if wet i then (i : Int) else -1) := fun i hi => by
  refine ⟨fun e => ⟨i, by simp [e], Nat.le_refl _, .refl hi e⟩, fun e => by simp [e]⟩
theorem OfI.step {o : Nat → Int} (h : OfI n wet t o) {i k : Nat} (hi : i < n) (hk : k < n) (ht : t i k) (h0 : 0 ≤ o i) (hl : o i < o k) : OfI n wet t (fun j => if j = k then o i else o j) := fun j hj => by
  by_cases e : j = k
  · subst e
    have wk : wet j = true := (h.isWet hk).2 (by omega)
    obtain ⟨m, m1, m2, m3⟩ := (h i hi).1 ((h.isWet hi).2 h0)
    obtain ⟨m', m1', m2', _⟩ := (h j hk).1 wk
    refine ⟨fun _ => ⟨m, by simp [m1], by omega, .step m3 ht hk wk⟩, fun e => by rw [wk] at e; cases e⟩
  · simp only [if_neg e]; exact h j hj
theorem Lak.same {o : Nat → Int} (h : Lak n wet t o) (ts : ∀ i k, t i k → t k i) {i j : Nat} (r : Rch n wet t i j) : o i = o j := by
  induction r with
  | refl _ _ => rfl
  | step r a b c ih =>
    rename_i j k
    have h1 := h.st j k r.right.1 b a ((h.of.isWet r.right.1).1 r.right.2)
    have h2 := h.st k j b r.right.1 (ts _ _ a) ((h.of.isWet b).1 c)
    omega
theorem Lak.root {o : Nat → Int} (h : Lak n wet t o) (ts : ∀ i k, t i k → t k i) {j : Nat} (hj : j < n) (hw : wet j = true) : ∃ m : Nat, o j = m ∧ o m = m ∧ m ≤ j ∧ Rch n wet t m j := by
  obtain ⟨m, h1, h2, h3⟩ := (h.of j hj).1 hw
  exact ⟨m, h1, by rw [h.same ts h3, h1], h2, h3⟩
theorem Lak.le {o : Nat → Int} (h : Lak n wet t o) {i : Nat} (hi : i < n) : o i ≤ i := by
  cases e : wet i
  · rw [(h.of i hi).2 e]; omega
  · obtain ⟨m, h1, h2, _⟩ := (h.of i hi).1 e
    omega
theorem Lak.uniq1 {o o' : Nat → Int} (h : Lak n wet t o) (h' : Lak n wet t o') (ts : ∀ i k, t i k → t k i) {i : Nat} (hi : i < n) : o' i ≤ o i := by
  cases e : wet i
  · rw [(h'.of i hi).2 e, (h.of i hi).2 e]; omega
  · obtain ⟨m, h1, h2, h3⟩ := (h.of i hi).1 e
    rw [← h'.same ts h3, h1]
    exact h'.le h3.left.1
theorem Lak.uniq {o o' : Nat → Int} (h : Lak n wet t o) (h' : Lak n wet t o') (ts : ∀ i k, t i k → t k i) {i : Nat} (hi : i < n) : o i = o' i := by
  have := h.uniq1 h' ts hi
  have := h'.uniq1 h ts hi
  omega
theorem least (P : Nat → Prop) {i : Nat} (h : P i) : ∃ m, m ≤ i ∧ P m ∧ ∀ k, P k → m ≤ k := by
  induction i using Nat.strongRecOn with
  | ind i ih =>
    by_cases e : ∃ k, k < i ∧ P k
    · obtain ⟨k, k1, k2⟩ := e
      obtain ⟨m, m1, m2, m3⟩ := ih k k1 k2
      exact ⟨m, by omega, m2, m3⟩
    · refine ⟨i, Nat.le_refl _, h, fun k hk => ?_⟩
      by_cases l : i ≤ k
      · exact l
      · exact absurd ⟨k, by omega, hk⟩ e
theorem lak_ex : ∃ o, Lak n wet t o := by
  have H : ∀ i : Nat, ∃ z : Int, (i < n → wet i = true → ∃ m : Nat, z = m ∧ m ≤ i ∧ Rch n wet t m i ∧ ∀ k, Rch n wet t k i → m ≤ k) ∧ (wet i = false → z = -1) := fun i => by
    cases e : wet i
    · exact ⟨-1, (fun _ h => nomatch h), (fun _ => rfl)⟩
    · by_cases hi : i < n
      · obtain ⟨m, m1, m2, m3⟩ := least (fun m => Rch n wet t m i) (Rch.refl hi e)
        exact ⟨m, (fun _ _ => ⟨m, rfl, m1, m2, m3⟩), (fun h => nomatch h)⟩
      · exact ⟨0, (fun h => absurd h hi), (fun h => nomatch h)⟩
  obtain ⟨o, ho⟩ := Classical.axiomOfChoice H
  refine ⟨o, fun i hi => ⟨fun w => ?_, (ho i).2⟩, fun i k hi hk ht h0 => ?_⟩
  · obtain ⟨m, m1, m2, m3, _⟩ := (ho i).1 hi w
    exact ⟨m, m1, m2, m3⟩
  · have wi : wet i = true := by
      cases e : wet i
      · rw [(ho i).2 e] at h0; omega
      · rfl
    obtain ⟨m, m1, m2, m3, _⟩ := (ho i).1 hi wi
    cases e : wet k
    · rw [(ho k).2 e]; omega
    · obtain ⟨m', e1, e2, e3, e4⟩ := (ho k).1 hk e
      have := e4 m (.step m3 ht hk e)
      omega
/-- the cells of a lake -/
def cls (n : Nat) (o : Nat → Int) (i : Nat) : List Nat := (List.range n).filter fun j => decide (o j = i)
theorem mem_cls {o : Nat → Int} {i j : Nat} : j ∈ cls n o i ↔ j < n ∧ o j = i := by simp [cls]
/-- the spread from a cell -/
structure BI (n : Nat) (wet : Nat → Bool) (t : Nat → Nat → Prop) (o : Nat → Int) (i : Nat) (l : List Nat) (k : Nat) : Prop where
  nd : l.Nodup
  inn : ∀ x ∈ l, x < n ∧ o x = i
  has : i ∈ l
  le : k ≤ l.length
  clo : ∀ p, p < k → ∀ m, m < n → t (l.getD p 0) m → wet m = true → m ∈ l
theorem BI.start {o : Nat → Int} {i : Nat} (hi : i < n) (he : o i = i) : BI n wet t o i [i] 0 :=
  ⟨by simp, fun x hx => by simp at hx; subst hx; exact ⟨hi, he⟩, by simp, Nat.zero_le _, fun p hp => absurd hp (Nat.not_lt_zero _)⟩
theorem BI.add {o : Nat → Int} {i k : Nat} {l : List Nat} (h : BI n wet t o i l k) {m : Nat} (hm : m < n) (ho : o m = i) (hn : m ∉ l) : BI n wet t o i (l ++ [m]) k := by
  refine ⟨?_, ?_, by simp [h.has], by have := h.le; simp; omega, fun p hp m' h1 h2 h3 => ?_⟩
  · rw [List.nodup_append]; exact ⟨h.nd, by simp, fun a ha b hb => by simp at hb; subst hb; exact fun e => hn (e ▸ ha)⟩
  · intro x hx
    rcases List.mem_append.1 hx with h1 | h1
    · exact h.inn x h1
    · simp at h1; subst h1; exact ⟨hm, ho⟩
  · have hk := h.le
    rw [List.getD_eq_getElem?_getD, List.getElem?_append_left (by omega), ← List.getD_eq_getElem?_getD] at h2
    exact List.mem_append.2 (.inl (h.clo p hp m' h1 h2 h3))
theorem BI.next {o : Nat → Int} {i k : Nat} {l : List Nat} (h : BI n wet t o i l k) (hk : k < l.length) (hc : ∀ m, m < n → t (l.getD k 0) m → wet m = true → m ∈ l) : BI n wet t o i l (k + 1) :=
  ⟨h.nd, h.inn, h.has, hk, fun p hp => by
    by_cases e : p = k
    · subst e; exact hc
    · exact h.clo p (by omega)⟩
theorem BI.len {o : Nat → Int} {i k : Nat} {l : List Nat} (h : BI n wet t o i l k) : l.length ≤ n := by
  have := h.nd.length_le_of_subset (l₂ := List.range n) fun x hx => List.mem_range.2 (h.inn x hx).1
  simpa using this
theorem BI.all {o : Nat → Int} (H : Lak n wet t o) {i : Nat} {l : List Nat} (h : BI n wet t o i l l.length) {j : Nat} (hj : j < n) (he : o j = i) : j ∈ l := by
  have wj : wet j = true := (H.of.isWet hj).2 (by omega)
  obtain ⟨m, m1, m2, m3⟩ := (H.of j hj).1 wj
  have : m = i := by omega
  subst this
  clear m1 m2 he wj hj
  induction m3 with
  | refl _ _ => exact h.has
  | step r a b c ih =>
    obtain ⟨p, hp, e⟩ := List.mem_iff_getElem.1 ih
    exact h.clo p hp _ b (by rw [← List.getElem_eq_getD (h := hp), e]; exact a) c
theorem BI.perm {o : Nat → Int} (H : Lak n wet t o) {i : Nat} {l : List Nat} (h : BI n wet t o i l l.length) : l.Perm (cls n o i) := by
  refine (List.perm_ext_iff_of_nodup h.nd (List.nodup_range.filter _)).2 fun j => ?_
  rw [← cls, mem_cls]
  exact ⟨h.inn j, fun hj => h.all H hj.1 hj.2⟩
theorem srt_uniq {xs ys : List Int} (h : xs.Perm ys) (h1 : xs.Pairwise (· ≤ ·)) (h2 : ys.Pairwise (· ≤ ·)) : xs = ys := by
  induction xs generalizing ys with
  | nil => rw [h.nil_eq]
  | cons x xs ih =>
    cases ys with
    | nil => exact absurd h.length_eq (by simp)
    | cons y ys =>
      have e : x = y := by
        have a1 := List.pairwise_cons.1 h1
        have a2 := List.pairwise_cons.1 h2
        have b1 : x ∈ y :: ys := h.subset (List.mem_cons_self ..)
        have b2 : y ∈ x :: xs := h.symm.subset (List.mem_cons_self ..)
        rcases List.mem_cons.1 b1 with e | e
        · exact e
        · rcases List.mem_cons.1 b2 with e2 | e2
          · exact e2.symm
          · exact Int.le_antisymm (a1.1 y e2) (a2.1 x e)
      subst e
      rw [ih (List.perm_cons x |>.1 h) (List.pairwise_cons.1 h1).2 (List.pairwise_cons.1 h2).2]
theorem cls_sorted (o : Nat → Int) (i : Nat) : ((cls n o i).map fun j : Nat => (j : Int)).Pairwise (· ≤ ·) := by
  rw [List.pairwise_map]
  refine (List.Pairwise.filter _ List.pairwise_lt_range).imp fun h => ?_
  omega
theorem srt_pair {xs : List Int} (h : ∀ i j, 0 ≤ i → i < j → j < xs.length → xs.getD i 0 ≤ xs.getD j 0) : xs.Pairwise (· ≤ ·) := by
  rw [List.pairwise_iff_getElem]
  intro i j hi hj hij
  have := h i j (Nat.zero_le _) hij hj
  rwa [← List.getElem_eq_getD (h := hi), ← List.getElem_eq_getD (h := hj)] at this
/-- the lakes up to a cell -/
def lks (n : Nat) (o : Nat → Int) (k : Nat) : List (List Int) := ((List.range k).filter fun i => decide (o i = i)).map fun i => (cls n o i).map fun j : Nat => (j : Int)
theorem lks_succ (o : Nat → Int) (k : Nat) : lks n o (k + 1) = lks n o k ++ (if o k = k then [(cls n o k).map fun j : Nat => (j : Int)] else []) := by
  unfold lks
  rw [List.range_succ, List.filter_append, List.map_append]
  by_cases e : o k = k
  · simp [e]
  · simp [e]
/-- which cells are gone before the k-th -/
def goneB (wet : Nat → Bool) (o : Nat → Int) (k : Nat) (j : Nat) : Bool := wet j && decide (o j < k)
theorem gone_skip {o : Nat → Int} (h : Lak n wet t o) (ts : ∀ i k, t i k → t k i) {k j : Nat} (hk : k < n) (hj : j < n) (hs : wet k = false ∨ goneB wet o k k = true) : o k ≠ k ∧ goneB wet o (k + 1) j = goneB wet o k j := by
  have hne : o k ≠ k := by
    rcases hs with e | e
    · rw [(h.of k hk).2 e]; omega
    · simp only [goneB, Bool.and_eq_true, decide_eq_true_eq] at e
      omega
  refine ⟨hne, ?_⟩
  unfold goneB
  cases e : wet j
  · rfl
  · obtain ⟨m, m1, m2, m3, m4⟩ := h.root ts hj e
    have : o j ≠ k := fun c => hne (by rw [show k = m by omega]; exact m2)
    congr 1
    exact decide_eq_decide.2 (by omega)
theorem gone_new {o : Nat → Int} (h : Lak n wet t o) {k : Nat} (hk : k < n) (hs : wet k = true) (hg : goneB wet o k k = false) : o k = k := by
  have := h.le hk
  simp only [goneB, hs, Bool.true_and, decide_eq_false_iff_not] at hg
  omega
theorem gone_after {o : Nat → Int} (h : Lak n wet t o) {k j : Nat} (hj : j < n) : goneB wet o (k + 1) j = (goneB wet o k j || decide (j ∈ cls n o k)) := by
  unfold goneB
  have e : wet j = true ↔ 0 ≤ o j := h.of.isWet hj
  rw [Bool.eq_iff_iff]
  simp only [Bool.and_eq_true, Bool.or_eq_true, decide_eq_true_eq, mem_cls]
  rw [e]
  omega
end Lk
end Go.Proofs.YtgjjooophigkoaaGreatDoor
/-
  Lakes: the cells around a cell.
-/
namespace Go.Proofs.YtgjjooophigkoaaGreatDoor
open Go Go.Ab
set_option maxRecDepth 100000
/-- what lies around a cell, up to a row and a place in it -/
def ArI (w h i d e : Nat) (l : List Nat) : Prop := l.length ≤ 3 * d + e ∧ ∀ m, m ∈ l ↔ m < w * h ∧ touchN w i m ∧ (m / w + 1 < i / w + d ∨ (m / w + 1 = i / w + d ∧ m % w + 1 < i % w + e))
theorem ArI.start (w h i : Nat) : ArI w h i 0 0 [] := ⟨Nat.zero_le _, fun m => ⟨fun h => by simp at h, fun ⟨_, h, h2⟩ => by have := h.2.1; have := h.2.2; omega⟩⟩
theorem ArI.row {w h i d : Nat} {l : List Nat} (hl : ArI w h i d 3 l) : ArI w h i (d + 1) 0 l := ⟨by have := hl.1; omega, fun m => (hl.2 m).trans ⟨fun ⟨h1, h2, h3⟩ => ⟨h1, h2, by omega⟩, fun ⟨h1, h2, h3⟩ => ⟨h1, h2, by have := h2.2.1; have := h2.2.2; omega⟩⟩⟩
theorem ArI.done {w h i : Nat} {l : List Nat} (hl : ArI w h i 3 0 l) : l.length ≤ 9 ∧ ∀ m, m ∈ l ↔ m < w * h ∧ touchN w i m := ⟨hl.1, fun m => (hl.2 m).trans ⟨fun ⟨h1, h2, _⟩ => ⟨h1, h2⟩, fun ⟨h1, h2⟩ => ⟨h1, h2, by have := h2.2.2; omega⟩⟩⟩
theorem ArI.skip {w h i d e : Nat} {l : List Nat} (hl : ArI w h i d e l) (hn : ¬ ((¬ (d = 1 ∧ e = 1)) ∧ 1 ≤ i % w + e ∧ i % w + e ≤ w ∧ 1 ≤ i / w + d ∧ i / w + d ≤ h)) : ArI w h i d (e + 1) l := ⟨by have := hl.1; omega, fun m => (hl.2 m).trans ⟨fun ⟨h1, h2, h3⟩ => ⟨h1, h2, by omega⟩, fun ⟨h1, h2, h3⟩ => ⟨h1, h2, by
  have := cell_bd h1
  have h2' := h2
  by_cases c : m / w + 1 = i / w + d ∧ m % w + 1 = i % w + e
  · exfalso
    apply hn
    have p1 := Nat.zero_le (m / w)
    have p2 := Nat.zero_le (m % w)
    refine ⟨fun c1 => ?_, by omega, by omega, by omega, by omega⟩
    apply h2.1
    have e1 := Nat.div_add_mod m w
    have e2 := Nat.div_add_mod i w
    have : m / w = i / w := by omega
    rw [this] at e1
    omega
  · omega⟩⟩⟩
theorem ArI.add {w h i d e : Nat} {l : List Nat} (hl : ArI w h i d e l) (hd : d < 3) (he : e < 3) (hn : (¬ (d = 1 ∧ e = 1)) ∧ 1 ≤ i % w + e ∧ i % w + e ≤ w ∧ 1 ≤ i / w + d ∧ i / w + d ≤ h) : ArI w h i d (e + 1) (l ++ [(i / w + d - 1) * w + (i % w + e - 1)]) := ⟨by have := hl.1; simp; omega, fun m => by
  have hc : i % w + e - 1 < w := by omega
  have hr : i / w + d - 1 < h := by omega
  have b := cell_lt hc hr
  have w0 : 0 < w := by omega
  have e1 : ((i / w + d - 1) * w + (i % w + e - 1)) / w = i / w + d - 1 := by
    rw [Nat.add_comm, Nat.add_mul_div_right _ _ w0, Nat.div_eq_of_lt hc]; omega
  have e2 : ((i / w + d - 1) * w + (i % w + e - 1)) % w = i % w + e - 1 := by
    rw [Nat.add_comm, Nat.add_mul_mod_self_right, Nat.mod_eq_of_lt hc]
  rw [List.mem_append, hl.2 m, List.mem_singleton]
  constructor
  · rintro (⟨h1, h2, h3⟩ | rfl)
    · exact ⟨h1, h2, by omega⟩
    · refine ⟨b, (touch_rc hc).2 ⟨by omega, by omega, by omega⟩, ?_⟩
      rw [e1, e2]; omega
  · rintro ⟨h1, h2, h3⟩
    by_cases c : m / w + 1 = i / w + d ∧ m % w + 1 = i % w + e
    · right
      have e3 := Nat.div_add_mod m w
      rw [show i / w + d - 1 = m / w by omega, show i % w + e - 1 = m % w by omega, Nat.mul_comm]
      exact e3.symm
    · exact .inl ⟨h1, h2, by omega⟩⟩
def arOk (w h i d e : Nat) : Bool := decide ((¬ (d = 1 ∧ e = 1)) ∧ 1 ≤ i % w + e ∧ i % w + e ≤ w ∧ 1 ≤ i / w + d ∧ i / w + d ≤ h)
def ar1 (w h i d e : Nat) : List Nat := if arOk w h i d e then [(i / w + d - 1) * w + (i % w + e - 1)] else []
def arR (w h i d : Nat) : Nat → List Nat
  | 0 => []
  | e + 1 => arR w h i d e ++ ar1 w h i d e
def arA (w h i : Nat) : Nat → List Nat
  | 0 => []
  | d + 1 => arA w h i d ++ arR w h i d 3
theorem arR_inv {w h i d : Nat} {L : List Nat} (hd : d < 3) (hL : ArI w h i d 0 L) : ∀ e, e ≤ 3 → ArI w h i d e (L ++ arR w h i d e)
  | 0, _ => by rw [arR, List.append_nil]; exact hL
  | e + 1, he => by
    have ih := arR_inv hd hL e (by omega)
    rw [arR, ← List.append_assoc, ar1]
    by_cases c : (¬ (d = 1 ∧ e = 1)) ∧ 1 ≤ i % w + e ∧ i % w + e ≤ w ∧ 1 ≤ i / w + d ∧ i / w + d ≤ h
    · rw [if_pos (by unfold arOk; exact decide_eq_true c)]
      exact ih.add hd (by omega) c
    · rw [if_neg (by unfold arOk; rw [decide_eq_true_eq]; exact c), List.append_nil]
      exact ih.skip c
theorem arA_inv (w h i : Nat) : ∀ d, d ≤ 3 → ArI w h i d 0 (arA w h i d)
  | 0, _ => .start w h i
  | d + 1, hd => (arR_inv (by omega) (arA_inv w h i d (by omega)) 3 (Nat.le_refl _)).row
/-- the cells around a cell -/
def arN (w h i : Nat) : List Nat := arA w h i 3
theorem arN_mem (w h i : Nat) : (arN w h i).length ≤ 9 ∧ ∀ m, m ∈ arN w h i ↔ m < w * h ∧ touchN w i m := (arA_inv w h i 3 (Nat.le_refl _)).done
theorem arR_len (w h i d : Nat) : ∀ e, (arR w h i d e).length ≤ e
  | 0 => Nat.le_refl _
  | e + 1 => by
    have := arR_len w h i d e
    rw [arR, List.length_append, ar1]
    split <;> simp <;> omega
theorem arA_len (w h i : Nat) : ∀ d, (arA w h i d).length ≤ 3 * d
  | 0 => Nat.le_refl _
  | d + 1 => by
    have := arA_len w h i d
    have := arR_len w h i d 3
    rw [arA, List.length_append]; omega
theorem natL_add (l m : List Nat) : natL (l ++ m) = natL l ++ natL m := by simp [natL]
set_option maxHeartbeats 4000000 in
theorem cellsAround_any (G : List (Nat × Value)) (a : Ras) {w h : Nat} (R : RasN a w h) (i : Nat) (hi : i < w * h) (K : AV → List AO → Prop) (hK : K (.fz (.list int) (natL (arN w h i))) []) :
    ACall Tryz.prog G 58 [.fz RasT a, .fz int i] [] K := by
  have hl := R.len
  have hwh := R.wh
  have wz := R.wide
  have hz' := R.high
  have w1 := R.w1
  have h1 := R.h1
  have w0 := R.w0
  have hbd := cell_bd hi
  obtain ⟨c, r, c1, r1, c2, r2, c3, r3, e3⟩ := cell_at R hi
  have hz : a.1 ≠ 0 := by omega
  let bA : AO := .box [.fz int a.1, .fz int a.2.1, .fz (.list int) a.2.2]
  refine acall_mk (E := envAt G 72 0) (envOk _ _ _) Tryz.func58 rfl rfl rfl rfl rfl ?_
  (repeat' (first | exact trivial | exact fun h => h | refine And.intro ?_ ?_ | (intro hb; try simp at hb) | omega | exact rfl | exact Nat.le_refl _ | (show _ + 1 ≤ 4294967296; omega) | (dsimp only; omega) | (show (_ : Int) ≤ (_ : Int); omega) | (show _ < List.length _; simp only [List.length_set, List.length_append, List.length_take]; omega) | (show wantB _ _ = true; simp <;> omega) | (show (_ : Bool) = _; simp_all; done) | (exfalso; omega) | refine aRegion_auto (by decide +kernel) ?_ | fail))
  refine ⟨Nat, fun d => ⟨[(1, .fz int i), (2, .ptr 0 0), (5, .fz int c), (6, .fz int r), (7, .ref 1 0 (arA w h i d).length), (8, .fz int ((d : Int) - 1))], [bA, .row int (natL (arA w h i d))]⟩, fun d => d ≤ 3, fun d => 3 - d, 0, Nat.zero_le _, (Ent.nil 7 int rfl).trans (Ent.sub rfl ?_), ?_⟩
  · (repeat' (first | exact trivial | exact rfl | refine And.intro ?_ ?_))
    all_goals first | exact congrArg (AV.fz int) c1 | exact congrArg (AV.fz int) r1
  intro d hd
  have hd : d ≤ 3 := hd
  clear hbd
  have hAl := arA_len w h i d
  by_cases hd3 : d < 3
  · (repeat' (first | exact trivial | exact fun h => h | refine And.intro ?_ ?_ | (intro hb; try simp at hb) | omega | exact rfl | exact Nat.le_refl _ | (show _ + 1 ≤ 4294967296; omega) | (dsimp only; omega) | (show (_ : Int) ≤ (_ : Int); omega) | (show _ < List.length _; simp only [List.length_set, List.length_append, List.length_take]; omega) | (show wantB _ _ = true; simp <;> omega) | (show (_ : Bool) = _; simp_all; done) | (exfalso; omega) | refine aRegion_auto (by decide +kernel) ?_ | fail))
    refine ⟨Nat, fun e => ⟨[(1, .fz int i), (2, .ptr 0 0), (5, .fz int c), (6, .fz int r), (7, .ref 1 0 (arA w h i d ++ arR w h i d e).length), (8, .fz int ((d : Int) - 1)), (9, .fz int ((e : Int) - 1))], [bA, .row int (natL (arA w h i d ++ arR w h i d e))]⟩, fun e => e ≤ 3, fun e => 3 - e, 0, Nat.zero_le _, Ent.sub (by simp [arR]) ?_, ?_⟩
    · (repeat' (first | exact trivial | exact rfl | refine And.intro ?_ ?_))
      exact congrArg (AV.ref 1 0) (show (arA w h i d).length = (arA w h i d ++ arR w h i d 0).length by simp [arR])
    intro e he
    have he : e ≤ 3 := he
    obtain ⟨L, hL⟩ : ∃ L, L = arA w h i d ++ arR w h i d e := ⟨_, rfl⟩
    have hLl : L.length ≤ 9 := by
      have := arR_len w h i d e
      rw [hL, List.length_append]; omega
    have hnl := natL_len L
    show awp _ _ _ ⟨[(1, .fz int i), (2, .ptr 0 0), (5, .fz int c), (6, .fz int r), (7, .ref 1 0 (arA w h i d ++ arR w h i d e).length), (8, .fz int ((d : Int) - 1)), (9, .fz int ((e : Int) - 1))], [bA, .row int (natL (arA w h i d ++ arR w h i d e))]⟩
    rw [← hL]
    by_cases he3 : e < 3
    · have hrw : 0 ≤ ((d : Int) - 1) * a.1 + 128 ∧ ((d : Int) - 1) * a.1 ≤ 128 := by
        obtain rfl | rfl | rfl : d = 0 ∨ d = 1 ∨ d = 2 := by omega
        all_goals omega
      by_cases hc : (¬ (d = 1 ∧ e = 1)) ∧ 1 ≤ c + e ∧ c + e ≤ w ∧ 1 ≤ r + d ∧ r + d ≤ h
      · have e1 : arA w h i d ++ arR w h i d (e + 1) = L ++ [(r + d - 1) * w + (c + e - 1)] := by
          rw [arR, ← List.append_assoc, ← hL, ar1, if_pos (by unfold arOk; rw [c3, r3]; exact decide_eq_true hc), c3, r3]
        (repeat' (first | exact trivial | exact fun h => h | refine And.intro ?_ ?_ | (intro hb; try simp at hb) | omega | exact rfl | exact Nat.le_refl _ | (show _ + 1 ≤ 4294967296; omega) | (dsimp only; omega) | (show (_ : Int) ≤ (_ : Int); omega) | (show _ < List.length _; simp only [List.length_set, List.length_append, List.length_take]; omega) | (show wantB _ _ = true; simp <;> omega) | (show (_ : Bool) = _; simp_all; done) | (exfalso; omega) | refine aRegion_auto (by decide +kernel) ?_ | fail))
        refine ⟨e + 1, by show e + 1 ≤ 3; omega, by show 3 - (e + 1) < 3 - e; omega, Ent.ren [0, 3] rfl ?_ ?_⟩
        · (repeat' (first | exact trivial | exact rfl | refine And.intro ?_ ?_))
          refine congrArg (fun l => some (AO.row int l)) (?_ : List.take L.length (natL L) ++ [(i : Int) + ((d : Int) - 1) * a.1 + ((e : Int) - 1)] = natL (arA w h i d ++ arR w h i d (e + 1)))
          rw [List.take_of_length_le (by omega), e1, natL_add]
          refine congrArg (fun z => natL L ++ [z]) ?_
          have hh : ((d : Int) - 1) * (w : Int) = ((r + d - 1 : Nat) : Int) * w - (r : Int) * w := by
            rw [show ((r + d - 1 : Nat) : Int) = (r : Int) + ((d : Int) - 1) by omega, Int.add_mul]; omega
          rw [wz, hh, e3]
          push_cast
          omega
        · (repeat' (first | exact trivial | exact rfl | refine And.intro ?_ ?_))
          · refine congrArg (AV.ref 3 0) (?_ : L.length + 1 = (arA w h i d ++ arR w h i d (e + 1)).length)
            rw [e1]; simp
          · exact congrArg (AV.fz int) (show (e : Int) - 1 + 1 = ((e + 1 : Nat) : Int) - 1 by omega)
      · have e1 : arA w h i d ++ arR w h i d (e + 1) = L := by
          rw [arR, ← List.append_assoc, ← hL, ar1, if_neg (by unfold arOk; rw [c3, r3, decide_eq_true_eq]; exact hc), List.append_nil]
        (repeat' (first | exact trivial | exact fun h => h | refine And.intro ?_ ?_ | (intro hb; try simp at hb) | omega | exact rfl | exact Nat.le_refl _ | (show _ + 1 ≤ 4294967296; omega) | (dsimp only; omega) | (show (_ : Int) ≤ (_ : Int); omega) | (show _ < List.length _; simp only [List.length_set, List.length_append, List.length_take]; omega) | (show wantB _ _ = true; simp <;> omega) | (show (_ : Bool) = _; simp_all; done) | (exfalso; omega) | refine aRegion_auto (by decide +kernel) ?_ | fail))
        refine ⟨e + 1, by show e + 1 ≤ 3; omega, by show 3 - (e + 1) < 3 - e; omega, Ent.sub ?_ ?_⟩
        · rw [e1]
        · (repeat' (first | exact trivial | exact rfl | refine And.intro ?_ ?_))
          · exact congrArg (AV.ref 1 0) (show L.length = (arA w h i d ++ arR w h i d (e + 1)).length by rw [e1])
          · exact congrArg (AV.fz int) (show (e : Int) - 1 + 1 = ((e + 1 : Nat) : Int) - 1 by omega)
    · have he3 : e = 3 := by omega
      subst he3
      (repeat' (first | exact trivial | exact fun h => h | refine And.intro ?_ ?_ | (intro hb; try simp at hb) | omega | exact rfl | exact Nat.le_refl _ | (show _ + 1 ≤ 4294967296; omega) | (dsimp only; omega) | (show (_ : Int) ≤ (_ : Int); omega) | (show _ < List.length _; simp only [List.length_set, List.length_append, List.length_take]; omega) | (show wantB _ _ = true; simp <;> omega) | (show (_ : Bool) = _; simp_all; done) | (exfalso; omega) | refine aRegion_auto (by decide +kernel) ?_ | fail))
      refine ⟨d + 1, by show d + 1 ≤ 3; omega, by show 3 - (d + 1) < 3 - d; omega, Ent.sub ?_ ?_⟩
      · rw [hL]
        (repeat' (first | exact rfl | refine cons_eq ?_ ?_))
      · (repeat' (first | exact trivial | exact rfl | refine And.intro ?_ ?_))
        · rw [hL]; rfl
        · exact congrArg (AV.fz int) (show (d : Int) - 1 + 1 = ((d + 1 : Nat) : Int) - 1 by omega)
  · have hd3 : d = 3 := by omega
    subst hd3
    (repeat' (first | exact trivial | exact fun h => h | refine And.intro ?_ ?_ | (intro hb; try simp at hb) | omega | exact rfl | exact Nat.le_refl _ | (show _ + 1 ≤ 4294967296; omega) | (dsimp only; omega) | (show (_ : Int) ≤ (_ : Int); omega) | (show _ < List.length _; simp only [List.length_set, List.length_append, List.length_take]; omega) | (show wantB _ _ = true; simp <;> omega) | (show (_ : Bool) = _; simp_all; done) | (exfalso; omega) | refine aRegion_auto (by decide +kernel) ?_ | fail))
    refine ⟨_, _, (REnt.conv1 (.dat (.list int)) _ rfl ?_).trans (REnt.drop ⟨rfl, rfl⟩), ?_⟩
    · show 0 + _ ≤ _
      rw [natL_len]; omega
    · refine (congrArg (fun l => K (.fz (.list int) l) []) (List.take_of_length_le (l := natL (arA w h i 3)) (Nat.le_of_eq (natL_len _)))).mpr hK
end Go.Proofs.YtgjjooophigkoaaGreatDoor
/-
  What sorts: swaps within a range, insertion, heaps, partitions, told plainly (no program in sight).
-/
namespace Pdq
variable {α : Type}
/-! ### swaps within a range -/
def sw (d : α) (xs : List α) (i j : Nat) : List α := (xs.set i (xs.getD j d)).set j (xs.getD i d)
theorem sw_len (d : α) (xs : List α) (i j : Nat) : (sw d xs i j).length = xs.length := by simp [sw]
theorem getD_set (d : α) (xs : List α) (i k : Nat) (v : α) : (xs.set i v).getD k d = if k = i ∧ i < xs.length then v else xs.getD k d := by
  simp only [List.getD_eq_getElem?_getD, List.getElem?_set]
  by_cases h : i = k
  · subst h
    by_cases h2 : i < xs.length
    · simp [h2]
    · simp [h2, List.getElem?_eq_none (Nat.le_of_not_lt h2)]
  · rw [if_neg h, if_neg (fun x => h x.1.symm)]
theorem sw_get (d : α) (xs : List α) {i j : Nat} (hi : i < xs.length) (hj : j < xs.length) (k : Nat) : (sw d xs i j).getD k d = if k = j then xs.getD i d else if k = i then xs.getD j d else xs.getD k d := by
  unfold sw
  rw [getD_set, getD_set]
  simp only [List.length_set]
  by_cases h1 : k = j
  · rw [if_pos ⟨h1, hj⟩, if_pos h1]
  · rw [if_neg (fun x => h1 x.1), if_neg h1]
    by_cases h2 : k = i
    · rw [if_pos ⟨h2, hi⟩, if_pos h2]
    · rw [if_neg (fun x => h2 x.1), if_neg h2]
/-- so many swaps within a range -/
inductive SP (d : α) (a b : Nat) : List α → List α → Prop where
  | refl (xs : List α) : SP d a b xs xs
  | step {xs ys : List α} {i j : Nat} (h : SP d a b xs ys) (hi : a ≤ i ∧ i < b) (hj : a ≤ j ∧ j < b) (hb : b ≤ ys.length) : SP d a b xs (sw d ys i j)
section
variable {d : α} {a b : Nat} {xs ys zs : List α}
theorem SP.len (h : SP d a b xs ys) : ys.length = xs.length := by
  induction h with
  | refl => rfl
  | step _ _ _ _ ih => rw [sw_len, ih]
theorem SP.trans (h : SP d a b xs ys) (h' : SP d a b ys zs) : SP d a b xs zs := by
  induction h' with
  | refl => exact h
  | step _ hi hj hb ih => exact .step ih hi hj hb
theorem SP.wide {a' b' : Nat} (h : SP d a b xs ys) (ha : a' ≤ a) (hb : b ≤ b') (hl : b' ≤ xs.length) : SP d a' b' xs ys := by
  induction h with
  | refl => exact .refl _
  | step h' hi hj hb' ih => exact .step ih ⟨by omega, by omega⟩ ⟨by omega, by omega⟩ (by rw [h'.len]; exact hl)
theorem SP.out (h : SP d a b xs ys) {k : Nat} (hk : k < a ∨ b ≤ k) : ys.getD k d = xs.getD k d := by
  induction h with
  | refl => rfl
  | step _ hi hj hb ih => rw [sw_get d _ (by omega) (by omega), if_neg (by omega), if_neg (by omega), ih]
/-- what all in the range are, they stay -/
theorem SP.all (h : SP d a b xs ys) {P : α → Prop} (hP : ∀ k, a ≤ k → k < b → P (xs.getD k d)) : ∀ k, a ≤ k → k < b → P (ys.getD k d) := by
  induction h with
  | refl => exact hP
  | step _ hi hj hb ih =>
    intro k h1 h2
    rw [sw_get d _ (by omega) (by omega)]
    split
    · exact ih _ hi.1 hi.2
    · split
      · exact ih _ hj.1 hj.2
      · exact ih k h1 h2
theorem sw_perm (d : α) (xs : List α) {i j : Nat} (hi : i < xs.length) (hj : j < xs.length) : (sw d xs i j).Perm xs := by
  unfold sw
  have e1 : xs.getD j d = xs[j] := by simp [hj]
  have e2 : xs.getD i d = xs[i] := by simp [hi]
  rw [e1, e2]
  exact List.set_set_perm hi hj
theorem SP.perm (h : SP d a b xs ys) : ys.Perm xs := by
  induction h with
  | refl => exact .refl _
  | step _ hi hj hb ih => exact (sw_perm d _ (by omega) (by omega)).trans ih
end
/-! ### what is in order -/
structure LtOk (lt : α → α → Bool) : Prop where
  asymm : ∀ x y, lt x y = true → lt y x = false
  trans : ∀ x y z, lt y x = false → lt z y = false → lt z x = false
abbrev le (lt : α → α → Bool) (x y : α) : Prop := lt y x = false
section
variable {lt : α → α → Bool} (O : LtOk lt) {d : α} {a b : Nat} {xs ys : List α}
include O
theorem le_refl (x : α) : le lt x x := by
  show lt x x = false
  cases h : lt x x with
  | true => exact h.symm.trans (O.asymm x x h)
  | false => rfl
theorem le_trans {x y z : α} (h1 : le lt x y) (h2 : le lt y z) : le lt x z := O.trans x y z h1 h2
theorem le_of_lt {x y : α} (h : lt x y = true) : le lt x y := O.asymm x y h
omit O in
theorem not_lt {x y : α} (h : ¬ lt y x = true) : le lt x y := by
  show lt y x = false
  simpa using h
end
section
variable {lt : α → α → Bool} {d : α} {a b : Nat} {xs ys : List α}
def Srt (lt : α → α → Bool) (d : α) (a b : Nat) (xs : List α) : Prop := ∀ i j, a ≤ i → i < j → j < b → le lt (xs.getD i d) (xs.getD j d)
/-! ### insertion -/
def InsI (lt : α → α → Bool) (d : α) (a j i : Nat) (xs : List α) : Prop := a ≤ j ∧ j ≤ i ∧ ∀ p q, a ≤ p → p < q → q ≤ i → q ≠ j → le lt (xs.getD p d) (xs.getD q d)
theorem ins_start {i : Nat} (ha : a ≤ i) (h : Srt lt d a i xs) : InsI lt d a i i xs := ⟨ha, Nat.le_refl _, fun p q h1 h2 h3 h4 => h p q h1 h2 (by omega)⟩
theorem ins_end (O : LtOk lt) {i j : Nat} (h : InsI lt d a j i xs) (he : j = a ∨ (a < j ∧ le lt (xs.getD (j - 1) d) (xs.getD j d))) : Srt lt d a (i + 1) xs := by
  obtain ⟨h1, h2, h3⟩ := h
  intro p q hp hpq hq
  by_cases e : q = j
  · subst e
    rcases he with he | ⟨hlt, he⟩
    · omega
    · by_cases e2 : p = q - 1
      · rw [e2]; exact he
      · exact le_trans O (h3 p (q - 1) hp (by omega) (by omega) (by omega)) he
  · exact h3 p q hp hpq (by omega) e
theorem ins_step (O : LtOk lt) {i j : Nat} (h : InsI lt d a j i xs) (hi : i < xs.length) (hj : a < j) (hl : lt (xs.getD j d) (xs.getD (j - 1) d) = true) : InsI lt d a (j - 1) i (sw d xs j (j - 1)) := by
  obtain ⟨h1, h2, h3⟩ := h
  refine ⟨by omega, by omega, fun p q hp hpq hq hne => ?_⟩
  rw [sw_get d xs (by omega) (by omega), sw_get d xs (by omega) (by omega)]
  by_cases e1 : q = j
  · rw [if_neg (by omega : ¬ q = j - 1), if_pos e1]
    by_cases e2 : p = j - 1
    · rw [if_pos e2]; exact le_of_lt O hl
    · rw [if_neg e2, if_neg (by omega)]
      exact h3 p (j - 1) hp (by omega) (by omega) (by omega)
  · rw [if_neg hne, if_neg e1]
    by_cases e2 : p = j - 1
    · rw [if_pos e2]; exact h3 j q (by omega) (by omega) hq e1
    · rw [if_neg e2]
      by_cases e3 : p = j
      · rw [if_pos e3]; exact h3 (j - 1) q (by omega) (by omega) hq e1
      · rw [if_neg e3]; exact h3 p q hp hpq hq e1
/-! ### heaps -/
def gf (d : α) (f : Nat) (xs : List α) (r : Nat) : α := xs.getD (f + r) d
def ch (r c : Nat) : Prop := c = 2 * r + 1 ∨ c = 2 * r + 2
def Hp (lt : α → α → Bool) (d : α) (f lo hi : Nat) (xs : List α) : Prop := ∀ r c, lo ≤ r → ch r c → c < hi → le lt (gf d f xs c) (gf d f xs r)
def SfI (lt : α → α → Bool) (d : α) (f lo hi root : Nat) (xs : List α) : Prop := lo ≤ root ∧ (∀ r c, lo ≤ r → r ≠ root → ch r c → c < hi → le lt (gf d f xs c) (gf d f xs r)) ∧ (∀ r c, lo ≤ r → ch r root → ch root c → c < hi → le lt (gf d f xs c) (gf d f xs r))
theorem sift_start {f lo hi : Nat} (h : Hp lt d f (lo + 1) hi xs) : SfI lt d f lo hi lo xs :=
  ⟨Nat.le_refl _, fun r c h1 h2 h3 h4 => h r c (by omega) h3 h4, fun r c h1 h2 => by unfold ch at h2; omega⟩
theorem sift_stop {f lo hi root : Nat} (h : SfI lt d f lo hi root xs) (hc : ∀ c, ch root c → c < hi → le lt (gf d f xs c) (gf d f xs root)) : Hp lt d f lo hi xs := fun r c h1 h2 h3 => by
  by_cases e : r = root
  · subst e; exact hc c h2 h3
  · exact h.2.1 r c h1 e h2 h3
theorem gf_sw {f r c : Nat} (hr : f + r < xs.length) (hc : f + c < xs.length) (k : Nat) : gf d f (sw d xs (f + r) (f + c)) k = if k = c then gf d f xs r else if k = r then gf d f xs c else gf d f xs k := by
  unfold gf
  rw [sw_get d xs hr hc]
  by_cases e1 : k = c
  · rw [if_pos (by omega), if_pos e1]
  · rw [if_neg (by omega), if_neg e1]
    by_cases e2 : k = r
    · rw [if_pos (by omega), if_pos e2]
    · rw [if_neg (by omega), if_neg e2]
theorem sift_step (O : LtOk lt) {f lo hi root c : Nat} (h : SfI lt d f lo hi root xs) (hl : f + hi ≤ xs.length) (hc : ch root c) (hch : c < hi) (hmax : ∀ o, ch root o → o < hi → le lt (gf d f xs o) (gf d f xs c)) (hlt : lt (gf d f xs root) (gf d f xs c) = true) :
    SfI lt d f lo hi c (sw d xs (f + root) (f + c)) := by
  obtain ⟨h0, h1, h2⟩ := h
  have hcr : root < c := by unfold ch at hc; omega
  have g := gf_sw (d := d) (xs := xs) (f := f) (r := root) (c := c) (by omega) (by omega)
  refine ⟨by omega, fun r k k1 k2 k3 k4 => ?_, fun r k k1 k2 k3 k4 => ?_⟩
  · rw [g k, g r]
    rw [if_neg k2]
    by_cases e1 : r = root
    · subst e1
      rw [if_pos rfl]
      by_cases e2 : k = c
      · rw [if_pos e2]; exact le_of_lt O hlt
      · rw [if_neg e2, if_neg (by unfold ch at k3; omega)]
        exact hmax k k3 k4
    · rw [if_neg e1]
      by_cases e2 : k = c
      · exfalso; unfold ch at k3 hc; omega
      · rw [if_neg e2]
        by_cases e3 : k = root
        · subst e3
          rw [if_pos rfl]
          exact h2 r c k1 k3 hc hch
        · rw [if_neg e3]; exact h1 r k k1 e1 k3 k4
  · have er : r = root := by unfold ch at k2 hc; omega
    subst er
    have hck : c < k := by unfold ch at k3; omega
    rw [g k, g r]
    rw [if_neg (by omega), if_neg (by omega), if_neg (by omega), if_pos rfl]
    exact h1 c k (by omega) (by omega) k3 k4
theorem heap_max (O : LtOk lt) {f hi : Nat} (h : Hp lt d f 0 hi xs) : ∀ n k, k ≤ n → k < hi → le lt (gf d f xs k) (gf d f xs 0)
  | 0, k, hk, _ => by
    obtain rfl : k = 0 := by omega
    exact le_refl O _
  | n + 1, k, hk, hkh => by
    by_cases e : k = 0
    · subst e; exact le_refl O _
    · refine le_trans O (h ((k - 1) / 2) k (Nat.zero_le _) (by unfold ch; omega) hkh) (heap_max O h n _ (by omega) (by omega))
/-- what is popped is in order, behind the heap -/
def PopI (lt : α → α → Bool) (d : α) (f i hi : Nat) (xs : List α) : Prop := Hp lt d f 0 i xs ∧ ∀ p q, i ≤ q → p < q → q < hi → le lt (gf d f xs p) (gf d f xs q)
theorem pop_swap (O : LtOk lt) {f i hi : Nat} (h : PopI lt d f (i + 1) hi xs) (hi' : i < hi) (hl : f + hi ≤ xs.length) : Hp lt d f 1 i (sw d xs f (f + i)) ∧ ∀ p q, i ≤ q → p < q → q < hi → le lt (gf d f (sw d xs f (f + i)) p) (gf d f (sw d xs f (f + i)) q) := by
  obtain ⟨h1, h2⟩ := h
  have g := gf_sw (d := d) (xs := xs) (f := f) (r := 0) (c := i) (by omega) (by omega)
  rw [Nat.add_zero] at g
  constructor
  · intro r c k1 k2 k3
    have : r < c := by unfold ch at k2; omega
    rw [g c, g r, if_neg (by omega), if_neg (by omega), if_neg (by omega), if_neg (by omega)]
    exact h1 r c (Nat.zero_le _) k2 (by omega)
  · intro p q k1 k2 k3
    rw [g q, g p]
    by_cases e1 : q = i
    · rw [if_pos e1]
      by_cases e2 : p = i
      · omega
      · rw [if_neg e2]
        by_cases e3 : p = 0
        · rw [if_pos e3]; exact heap_max O h1 i i (Nat.le_refl _) (by omega)
        · rw [if_neg e3]; exact heap_max O h1 p p (Nat.le_refl _) (by omega)
    · rw [if_neg e1, if_neg (by omega : ¬ q = 0)]
      by_cases e2 : p = i
      · rw [if_pos e2]; exact h2 0 q (by omega) (by omega) k3
      · rw [if_neg e2]
        by_cases e3 : p = 0
        · rw [if_pos e3]; exact h2 i q (by omega) (by omega) k3
        · rw [if_neg e3]; exact h2 p q (by omega) k2 k3
/-- behind the swap the heap's rest is sifted: what is popped stays -/
theorem pop_next {f i hi : Nat} (h : SP d f (f + i) xs ys) (hH : Hp lt d f 0 i ys) (h2 : ∀ p q, i ≤ q → p < q → q < hi → le lt (gf d f xs p) (gf d f xs q)) : PopI lt d f i hi ys := by
  refine ⟨hH, fun p q k1 k2 k3 => ?_⟩
  have eq : gf d f ys q = gf d f xs q := h.out (.inr (by omega))
  rw [eq]
  by_cases e : p < i
  · exact h.all (P := fun x => le lt x (gf d f xs q)) (fun k z1 z2 => by
      have := h2 (k - f) q k1 (by omega) k3
      unfold gf at this
      rw [show f + (k - f) = k by omega] at this
      exact this) (f + p) (by omega) (by omega)
  · have ep : gf d f ys p = gf d f xs p := h.out (.inr (by omega))
    rw [ep]
    exact h2 p q k1 k2 k3
theorem pop_start {f hi : Nat} (h : Hp lt d f 0 hi xs) : PopI lt d f hi hi xs := ⟨h, fun p q h1 _ h3 => by omega⟩
theorem pop_end {f hi : Nat} (h : PopI lt d f 0 hi xs) : Srt lt d f (f + hi) xs := fun p q h1 h2 h3 => by
  have := h.2 (p - f) (q - f) (Nat.zero_le _) (by omega) (by omega)
  unfold gf at this
  rw [show f + (p - f) = p by omega, show f + (q - f) = q by omega] at this
  exact this
/-! ### the whole: parts in order around what is still to be sorted -/
/-- nothing in the range is less than what lies ahead of it -/
def Pre (lt : α → α → Bool) (d : α) (a b : Nat) (xs : List α) : Prop := a = 0 ∨ ∀ k, a ≤ k → k < b → le lt (xs.getD (a - 1) d) (xs.getD k d)
theorem Pre.sp (h : Pre lt d a b xs) (hs : SP d a b xs ys) : Pre lt d a b ys := by
  rcases h with h | h
  · exact .inl h
  · by_cases h0 : a = 0
    · exact .inl h0
    · refine .inr ?_
      rw [hs.out (.inl (by omega))]
      exact hs.all (P := fun x => le lt (xs.getD (a - 1) d) x) h
def Arn (lt : α → α → Bool) (d : α) (a0 b0 a b : Nat) (xs : List α) : Prop := ∀ i j, a0 ≤ i → i < j → j < b0 → (i < a ∨ b ≤ j) → le lt (xs.getD i d) (xs.getD j d)
theorem Arn.start : Arn lt d a b a b xs := fun i j h1 _ h3 h4 => by omega
theorem Arn.sp {a0 b0 : Nat} (h : Arn lt d a0 b0 a b xs) (ha : a0 ≤ a) (hb : b ≤ b0) (hs : SP d a b xs ys) : Arn lt d a0 b0 a b ys := fun i j h1 h2 h3 h4 => by
  by_cases e1 : i < a ∨ b ≤ i
  · rw [hs.out e1]
    by_cases e2 : j < a ∨ b ≤ j
    · rw [hs.out e2]; exact h i j h1 h2 h3 h4
    · exact hs.all (P := fun x => le lt (xs.getD i d) x) (fun k k1 k2 => h i k h1 (by omega) (by omega) (by omega)) j (by omega) (by omega)
  · have e2 : j < a ∨ b ≤ j := by omega
    rw [hs.out e2]
    exact hs.all (P := fun x => le lt x (xs.getD j d)) (fun k k1 k2 => h k j (by omega) (by omega) h3 (by omega)) i (by omega) (by omega)
theorem Arn.done {a0 b0 : Nat} (h : Arn lt d a0 b0 a b xs) (hs : Srt lt d a b xs) : Srt lt d a0 b0 xs := fun i j h1 h2 h3 => by
  by_cases e : i < a ∨ b ≤ j
  · exact h i j h1 h2 h3 e
  · exact hs i j (by omega) h2 (by omega)
/-- a partition: what is less ahead of one, what is not behind it -/
def Par (lt : α → α → Bool) (d : α) (a b m : Nat) (xs : List α) : Prop := a ≤ m ∧ m < b ∧ (∀ k, a ≤ k → k < m → lt (xs.getD k d) (xs.getD m d) = true) ∧ (∀ k, m < k → k < b → le lt (xs.getD m d) (xs.getD k d))
theorem Par.left (O : LtOk lt) {m : Nat} (h : Par lt d a b m xs) (hs : SP d a m xs ys) : Par lt d a b m ys := by
  obtain ⟨h1, h2, h3, h4⟩ := h
  have em : ys.getD m d = xs.getD m d := hs.out (.inr (Nat.le_refl _))
  refine ⟨h1, h2, fun k k1 k2 => ?_, fun k k1 k2 => ?_⟩
  · rw [em]; exact hs.all (P := fun x => lt x (xs.getD m d) = true) h3 k k1 k2
  · rw [em, hs.out (.inr (by omega))]; exact h4 k k1 k2
theorem Par.right {m : Nat} (h : Par lt d a b m xs) (hs : SP d (m + 1) b xs ys) : Par lt d a b m ys := by
  obtain ⟨h1, h2, h3, h4⟩ := h
  have em : ys.getD m d = xs.getD m d := hs.out (.inl (by omega))
  refine ⟨h1, h2, fun k k1 k2 => ?_, fun k k1 k2 => ?_⟩
  · rw [em, hs.out (.inl (by omega))]; exact h3 k k1 k2
  · rw [em]; exact hs.all (P := fun x => le lt (xs.getD m d) x) (fun k k1 k2 => h4 k (by omega) k2) k (by omega) k2
theorem Arn.par_left (O : LtOk lt) {a0 b0 m : Nat} (h : Arn lt d a0 b0 a b xs) (hp : Par lt d a b m xs) (hs : Srt lt d a m xs) : Arn lt d a0 b0 (m + 1) b xs := fun i j h1 h2 h3 h4 => by
  obtain ⟨p1, p2, p3, p4⟩ := hp
  by_cases e : i < a ∨ b ≤ j
  · exact h i j h1 h2 h3 e
  · by_cases ej : j < m
    · exact hs i j (by omega) h2 ej
    · by_cases ej2 : j = m
      · rw [ej2]; exact le_of_lt O (p3 i (by omega) (by omega))
      · by_cases ei : i = m
        · rw [ei]; exact p4 j (by omega) (by omega)
        · exact le_trans O (le_of_lt O (p3 i (by omega) (by omega))) (p4 j (by omega) (by omega))
theorem Arn.par_right (O : LtOk lt) {a0 b0 m : Nat} (h : Arn lt d a0 b0 a b xs) (hp : Par lt d a b m xs) (hs : Srt lt d (m + 1) b xs) : Arn lt d a0 b0 a m xs := fun i j h1 h2 h3 h4 => by
  obtain ⟨p1, p2, p3, p4⟩ := hp
  by_cases e : i < a ∨ b ≤ j
  · exact h i j h1 h2 h3 e
  · by_cases ei : m < i
    · exact hs i j (by omega) h2 (by omega)
    · by_cases ei2 : i = m
      · rw [ei2]; exact p4 j (by omega) (by omega)
      · by_cases ej : j = m
        · rw [ej]; exact le_of_lt O (p3 i (by omega) (by omega))
        · exact le_trans O (le_of_lt O (p3 i (by omega) (by omega))) (p4 j (by omega) (by omega))
theorem Pre.par {m : Nat} (hp : Par lt d a b m xs) : Pre lt d (m + 1) b xs := .inr fun k k1 k2 => by
  rw [Nat.add_sub_cancel]; exact hp.2.2.2 k (by omega) k2
theorem Pre.less {m : Nat} (h : Pre lt d a b xs) (hm : m ≤ b) : Pre lt d a m xs := h.imp id fun h k k1 k2 => h k k1 (by omega)
/-- a partition of what is as great as what lies ahead, and what is greater -/
def ParE (lt : α → α → Bool) (d : α) (a b m : Nat) (xs : List α) : Prop := a < m ∧ m ≤ b ∧ (∀ k, a ≤ k → k < m → le lt (xs.getD k d) (xs.getD a d)) ∧ (∀ k, m ≤ k → k < b → lt (xs.getD a d) (xs.getD k d) = true)
theorem Arn.parE (O : LtOk lt) {a0 b0 m : Nat} (h : Arn lt d a0 b0 a b xs) (hp : ParE lt d a b m xs) (hle : ∀ k, a ≤ k → k < b → le lt (xs.getD a d) (xs.getD k d)) : Arn lt d a0 b0 m b xs := fun i j h1 h2 h3 h4 => by
  obtain ⟨p1, p2, p3, p4⟩ := hp
  by_cases e : i < a ∨ b ≤ j
  · exact h i j h1 h2 h3 e
  · exact le_trans O (p3 i (by omega) (by omega)) (hle j (by omega) (by omega))
theorem Pre.parE (O : LtOk lt) {m : Nat} (hp : ParE lt d a b m xs) : Pre lt d m b xs := .inr fun k k1 k2 => by
  obtain ⟨p1, p2, p3, p4⟩ := hp
  exact le_trans O (p3 (m - 1) (by omega) (by omega)) (le_of_lt O (p4 k k1 k2))
end
end Pdq
