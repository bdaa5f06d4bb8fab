/-
  One operation of a region, with its guard; calls.
-/
import Derived.Test.YtidhgdipnfhoeaaDoorAc5
namespace Go.Ab
open Go
/-! ### calls -/
def hasBody (P : Program) (f : FuncId) : Prop := ∃ fn, P.funcs[f]? = some fn ∧ fn.body.isNone = false ∧ (fn.name == "runtime.NumGoroutine") = false
structure ACall (P : Program) (G : List (Nat × Value)) (f : FuncId) (args : List AV) (A : List AO) (K : AV → List AO → Prop) : Prop where
  body : hasBody P f
  run : ∀ c, HR c → c.A = A → c.G = G → ∀ vs, RelL c args vs → Calls P f vs.toArray c.w fun e w' => ∃ v c' r, e = .returned v ∧ c'.w = w' ∧ Ext c c' ∧ HR c' ∧ Rel c' r v ∧ K r c'.A
theorem ACall.mono {P : Program} {G : List (Nat × Value)} {f : FuncId} {args : List AV} {A : List AO} {K K' : AV → List AO → Prop} (h : ACall P G f args A K) (hk : ∀ r A', K r A' → K' r A') : ACall P G f args A K' :=
  ⟨h.1, fun c H hA hG vs hv => (h.2 c H hA hG vs hv).mono fun e w' ⟨v, c', r, h1, h2, h3, h4, h5, h6⟩ => ⟨v, c', r, h1, h2, h3, h4, h5, hk _ _ h6⟩⟩
/-- a method of a value of type t: it is function f, and gets the value itself -/
def MethOk (P : Program) (t : TypeId) (m : String) (f : FuncId) : Prop := ∀ w v, (Go.method (P.types.size + Made.depth) t v m).run P w = .ok (f, v) w
def AInv (P : Program) (G : List (Nat × Value)) (t : TypeId) (m : String) (args : List AV) (A : List AO) (K : AV → List AO → Prop) : Prop := ∃ f, MethOk P t m f ∧ ACall P G f args A K
/-! ### normal forms -/
def force {α : Type} (v : AV) (k : AV → α) : α := match v with
  | .fz t x => k (.fz t x)
  | .fptr t x => k (.fptr t x)
  | .ref a b c => k (.ref a b c)
  | .nilSl => k .nilSl
  | .ptr a b => k (.ptr a b)
  | .elt a b c => k (.elt a b c)
  | .glob g => k (.glob g)
  | .agg l => k (.agg l)
  | .tup l => k (.tup l)
  | .fn f l => k (.fn f l)
  | .ifc t a => k (.ifc t a)
  | .opt g a => k (.opt g a)
  | .unk => k .unk
theorem force_eq {α : Type} (v : AV) (k : AV → α) : force v k = k v := by cases v <;> rfl
def forceL {α : Type} : List AV → (List AV → α) → α
  | [], k => k []
  | a :: l, k => force a fun a' => forceL l fun l' => k (a' :: l')
theorem forceL_eq {α : Type} : ∀ (l : List AV) (k : List AV → α), forceL l k = k l
  | [], k => rfl
  | a :: l, k => by unfold forceL; rw [force_eq, forceL_eq l]
def forceV {α : Type} (v : AV) (k : AV → α) : α := match v with
  | .agg l => forceL l fun l' => k (.agg l')
  | .tup l => forceL l fun l' => k (.tup l')
  | .ifc t a => force a fun a' => k (.ifc t a')
  | .opt g a => force a fun a' => k (.opt g a')
  | .fn f l => forceL l fun l' => k (.fn f l')
  | v => force v k
theorem forceV_eq {α : Type} (v : AV) (k : AV → α) : forceV v k = k v := by
  unfold forceV; split <;> first | rw [forceL_eq] | rw [force_eq]
def forceA {α : Type} : List AO → (List AO → α) → α
  | [], k => k []
  | o :: A, k => match o with
    | .row e xs => forceA A fun A' => k (.row e xs :: A')
    | .box vs => forceL vs fun vs' => forceA A fun A' => k (.box vs' :: A')
    | .dead => forceA A fun A' => k (.dead :: A')
theorem forceA_eq {α : Type} : ∀ (A : List AO) (k : List AO → α), forceA A k = k A
  | [], k => rfl
  | o :: A, k => by
    unfold forceA
    cases o <;> simp only
    · rw [forceA_eq A]
    · rw [forceL_eq, forceA_eq A]
    · rw [forceA_eq A]
def runP (x : AR) (K : AV → Prop) : Prop := match x with
  | (none, v) => forceV v K
  | (some C, v) => C ∧ forceV v K
theorem runP_of {x : AR} {K : AV → Prop} (h : runP x K) : Hold x.1 ∧ K x.2 := by
  obtain ⟨C, v⟩ := x
  cases C with
  | none => unfold runP at h; simp only [forceV_eq] at h; exact ⟨trivial, h⟩
  | some C => unfold runP at h; simp only [forceV_eq] at h; exact h
def runE (x : ER) (K : AV → List AO → Prop) : Prop := match x with
  | ⟨none, v, A⟩ => forceV v fun v' => forceA A fun A' => K v' A'
  | ⟨some C, v, A⟩ => C ∧ forceV v fun v' => forceA A fun A' => K v' A'
theorem runE_of {x : ER} {K : AV → List AO → Prop} (h : runE x K) : Hold x.C ∧ K x.v x.A := by
  obtain ⟨C, v, A⟩ := x
  cases C with
  | none => unfold runE at h; simp only [forceV_eq, forceA_eq] at h; exact ⟨trivial, h⟩
  | some C => unfold runE at h; simp only [forceV_eq, forceA_eq] at h; exact h
/-! ### what an operation does -/
inductive Kind where
  | eff (e : ER)
  | call (f : FuncId) (args : List AV)
  | inv (t : TypeId) (m : String) (args : List AV)
  | pure
  | bad
def aKind (D : Tab) (A : List AO) (T : List (Nat × AV)) : Op → Kind
  | .alloc t => .eff (aAlloc D A t)
  | .box _ x => .eff (aBox A (ev T x))
  | .store t x y => .eff (aStore D A t (ev T x) (ev T y))
  | .makeSlice t n m => .eff (aMake D A t (ev T n) (ev T m))
  | .buildSlice t n ps => .eff (aBuildSlice D A t n (ps.toList.map fun p => (p.1, ev T p.2)))
  | .call c => match c.callee with
    | .builtin .append => match c.args.toList, c.argTypes.toList with
      | [x, y], [t0, t1] => .eff (aAppend D A t0 t1 (ev T x) (ev T y))
      | _, _ => .bad
    | .builtin _ => .pure
    | .value f => match ev T f with
      | .fn g caps => .call g (c.args.toList.map (ev T) ++ caps)
      | _ => .bad
    | .invoke r m => match ev T r with
      | .ifc t v => .inv t m (v :: c.args.toList.map (ev T))
      | _ => .bad
  | _ => .pure
def aRun (P : Program) (D : Tab) (G : List (Nat × Value)) (A : List AO) (T : List (Nat × AV)) (op : Op) (K : AV → List AO → Prop) : Prop :=
  match aKind D A T op with
  | .eff e => runE e K
  | .call f args => ACall P G f args A fun v A' => forceV v fun v' => forceA A' fun A'' => K v' A''
  | .inv t m args => AInv P G t m args A fun v A' => forceV v fun v' => forceA A' fun A'' => K v' A''
  | .pure => runP (apure D G A T op) fun v => K v A
  | .bad => False
/-- what an operation must do, and what comes behind it -/
def RunOk (P : Program) (c : Cx) (s : Sem Next) (K : Cx → Value → Prop) : Prop :=
  (∃ c' nx v, s.run P c.w = .ok nx c'.w ∧ (nx = .value v ∨ (nx = .skip ∧ v = undef)) ∧ K c' v) ∨
  (∃ f vs, s.run P c.w = .ok (.enter f vs) c.w ∧ Calls P f vs c.w fun e w' => ∃ v c', e = .returned v ∧ c'.w = w' ∧ K c' v)
theorem run_callFunc {P : Program} {w : World} {f : FuncId} {vs : Array Value} (h : hasBody P f) : (callFunc f vs).run P w = .ok (.enter f vs) w := by
  obtain ⟨fn, h1, h2, h3⟩ := h
  simp only [callFunc, Sem.run_bind]
  show (match P.funcs[f]? with | none => _ | some fn => _ : Sem Next).run P w = _
  rw [h1]
  simp only [h3, h2]
  rfl
theorem aRun_sound {P : Program} {D : Tab} (hD : TabOk P D) {c : Cx} (H : HR c) {T : List (Nat × AV)} {a : Act} {o : Oper} (hT : ∀ x ∈ o.op.operands, Rel c (ev T x) (a.eval x)) {K : AV → List AO → Prop} (h : aRun P D c.G c.A T o.op K) :
    RunOk P c (execOp a.eval o) fun c' v => ∃ r A', Ext c c' ∧ HR c' ∧ c'.A = A' ∧ Rel c' r v ∧ K r A' := by
  have eff : ∀ e : ER, EffOk P c (execOp a.eval o) e → K e.v e.A → RunOk P c (execOp a.eval o) fun c' v => ∃ r A', Ext c c' ∧ HR c' ∧ c'.A = A' ∧ Rel c' r v ∧ K r A' := by
    intro e ⟨c', nx, v, h1, h2, h3, h4, h5, h6⟩ hk
    exact .inl ⟨c', nx, v, h1, h2, e.v, e.A, h3, h4, h5, h6, hk⟩
  have call : ∀ f args vs, (execOp a.eval o).run P c.w = .ok (.enter f vs.toArray) c.w → RelL c args vs → ACall P c.G f args c.A (fun v A' => forceV v fun v' => forceA A' fun A'' => K v' A'') →
      RunOk P c (execOp a.eval o) fun c' v => ∃ r A', Ext c c' ∧ HR c' ∧ c'.A = A' ∧ Rel c' r v ∧ K r A' := by
    intro f args vs hrun hr hc
    refine .inr ⟨f, vs.toArray, hrun, (hc.2 c H rfl rfl vs hr).mono fun e w' ⟨v, c', r, h1, h2, h3, h4, h5, h6⟩ => ?_⟩
    simp only [forceV_eq, forceA_eq] at h6
    exact ⟨v, c', h1, h2, r, c'.A, h3, h4, rfl, h5, h6⟩
  have pur : runP (apure D c.G c.A T o.op) (fun v => K v c.A) → RunOk P c (execOp a.eval o) fun c' v => ∃ r A', Ext c c' ∧ HR c' ∧ c'.A = A' ∧ Rel c' r v ∧ K r A' := by
    intro h
    obtain ⟨hC, hk⟩ := runP_of h
    obtain ⟨v, h1, h2⟩ := apure_sound hD H hT hC
    exact .inl ⟨c, _, v, h1, .inl rfl, _, _, Ext.refl c, H, rfl, h2, hk⟩
  obtain ⟨dst, op, type, pos, after, guard⟩ := o
  simp only at hT h pur
  unfold aRun aKind at h
  cases op <;> simp only at h <;> try exact pur h
  case alloc t =>
    obtain ⟨hC, hk⟩ := runE_of h
    exact eff _ (aAlloc_sound hD H hC) hk
  case box t x =>
    obtain ⟨hC, hk⟩ := runE_of h
    exact eff _ (aBox_sound H (hT x (by simp [Op.operands])) hC) hk
  case store t x y =>
    obtain ⟨hC, hk⟩ := runE_of h
    exact eff _ (aStore_sound hD H (hT x (by simp [Op.operands])) (hT y (by simp [Op.operands])) hC) hk
  case makeSlice t n m =>
    obtain ⟨hC, hk⟩ := runE_of h
    exact eff _ (aMake_sound hD H (hT n (by simp [Op.operands])) (hT m (by simp [Op.operands])) hC) hk
  case buildSlice t n ps =>
    obtain ⟨hC, hk⟩ := runE_of h
    have hall : ∀ (i : Nat) p v, (ps.toList.map fun p => (p.1, ev T p.2))[i]? = some p → (ps.map fun (i, x) => (i, a.eval x)).toList[i]? = some v → p.1 = v.1 ∧ Rel c p.2 v.2 := by
      intro i p v h1 h2
      simp only [List.getElem?_map, Array.toList_map] at h1 h2
      cases hp : ps.toList[i]? with
      | none => rw [hp] at h1; cases h1
      | some q =>
        rw [hp] at h1 h2
        simp at h1 h2
        rw [← h1, ← h2]
        exact ⟨rfl, hT q.2 (by simp only [Op.operands, List.mem_toArray, List.mem_map]; exact ⟨q, List.mem_of_getElem? hp, rfl⟩)⟩
    generalize hps : (ps.toList.map fun p => (p.1, ev T p.2)) = qs at *
    have hl : qs.length = (ps.map fun (i, x) => (i, a.eval x)).toList.length := by rw [← hps]; simp
    have := aBuildSlice_sound hD H (t := t) (n := n) hl hall hC
    exact eff _ this hk
  case call cl =>
    obtain ⟨callee, args, argTypes⟩ := cl
    obtain ⟨args⟩ := args
    cases callee with
    | builtin b =>
      cases b <;> simp only at h <;> try exact pur h
      obtain ⟨ats⟩ := argTypes
      simp only at h
      rcases args with _ | ⟨x, _ | ⟨y, _ | ⟨z, l⟩⟩⟩ <;> rcases ats with _ | ⟨t0, _ | ⟨t1, _ | ⟨t2, l'⟩⟩⟩ <;> try exact h.elim
      obtain ⟨hC, hk⟩ := runE_of h
      refine eff _ ?_ hk
      have := aAppend_sound (ty := type) hD H (hT x (by simp [Op.operands, Call.operands])) (hT y (by simp [Op.operands, Call.operands])) hC
      obtain ⟨c', nx, v, h1, h2⟩ := this
      exact ⟨c', nx, v, by simpa [execOp, resolve, invoke, builtin] using h1, h2⟩
    | value f =>
      simp only at h
      have hf := hT f (by simp [Op.operands, Call.operands])
      have hargs : RelL c (args.map (ev T)) (args.map a.eval) := mapEv args fun y hy => hT y (by simp [Op.operands, Call.operands, hy])
      cases he : ev T f <;> rw [he] at h hf <;> simp only at h <;> try exact h.elim
      rename_i g caps
      unfold Rel at hf
      obtain ⟨cv, hfv, hcaps⟩ := hf
      refine call g _ (args.map a.eval ++ cv) ?_ (RelL.append _ _ _ _ hargs hcaps) h
      have hb := h.1
      simp [execOp, resolve, hfv, Deferred.ofValue, invoke, run_callFunc hb]
    | invoke r m =>
      simp only at h
      have hf := hT r (by simp [Op.operands, Call.operands])
      have hargs : RelL c (args.map (ev T)) (args.map a.eval) := mapEv args fun y hy => hT y (by simp [Op.operands, Call.operands, hy])
      cases he : ev T r <;> rw [he] at h hf <;> simp only at h <;> try exact h.elim
      rename_i t v
      unfold Rel at hf
      obtain ⟨u, hfv, hu⟩ := hf
      obtain ⟨f, hm, hc⟩ := h
      refine call f _ (u :: args.map a.eval) ?_ ?_ hc
      · have hb := hc.1
        have hmm := hm c.w u
        simp [execOp, resolve, hfv, invoke, callMethod]
        have htk : List.take args.length (List.map a.eval args) = List.map a.eval args := by rw [← List.length_map (f := a.eval), List.take_length]
        rw [hmm, htk]
        simp [run_callFunc hb]
      · unfold RelL; exact ⟨u, _, rfl, hu, hargs⟩
end Go.Ab
