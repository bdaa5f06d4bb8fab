/-
  All operations that only look.
-/
import Derived.Test.YtidhgdipnfhoeaaDoorAb9
namespace Go.Ab
open Go
def aCall (D : Tab) (A : List AO) (T : List (Nat × AV)) (c : Call) : AR :=
  match c.callee, c.args.toList with
  | .builtin .len, [x] => match c.argTypes[0]? with
    | some t => aLen D A t (ev T x)
    | none => no
  | .builtin .min, x :: l => aFold false (ev T x) (l.map (ev T))
  | .builtin .max, x :: l => aFold true (ev T x) (l.map (ev T))
  | _, _ => no
def apure (D : Tab) (G : List (Nat × Value)) (A : List AO) (T : List (Nat × AV)) : Op → AR
  | .move x => yes (ev T x)
  | .assign x => yes (ev T x)
  | .pick c a b => aPick (ev T c) (ev T a) (ev T b)
  | .field t x f => aField D t f (ev T x)
  | .fieldAddr t x f => aFieldAddr D A t f (ev T x)
  | .indexAddr t x i => aIndexAddr D A t (ev T x) (ev T i)
  | .index t x i => aIndex D t (ev T x) (ev T i)
  | .load t x => aLoad D G A t (ev T x)
  | .binOp op t x y _ => (match isNilC y with | true => aBinNil D op t (ev T x) | false => (match isNilPC y with | true => aBinP D A op t (ev T x) | false => aBin D op t (ev T x) (ev T y)))
  | .unOp op _ x => aUn op (ev T x)
  | .convert s d x => aConv D s d (ev T x)
  | .extract x i => aExtract i (ev T x)
  | .makeInterface t x => aMkI D t (ev T x)
  | .makeFunc (.func f) ⟨[]⟩ caps => yes (.fn f (caps.toList.map (ev T)))
  | .build t ps => aBuild D A t (ps.toList.map fun p => (p.1, ev T p.2))
  | .slice t x lo hi none => aSlice D A t (ev T x) (lo.map (ev T)) (hi.map (ev T))
  | .nilCheck x => aNilCheck A (ev T x)
  | .typeAssert x _ u ok => aAssert D u ok (ev T x)
  | .call c => aCall D A T c
  | _ => no
theorem aBin_sound {P : Program} {D : Tab} (hD : TabOk P D) {c : Cx} {op : BinOp} {t : TypeId} {ox oy : Operand} {x y : AV} {v w : Value} (hx : Rel c x v) (hy : Rel c y w) (h : Hold (aBin D op t x y).1) :
    ∃ r, (do eqGuard op t ox oy v w; binOp op t v w : Sem Value).run P c.w = .ok r c.w ∧ Rel c (aBin D op t x y).2 r := by
  cases x <;> try exact False.elim h
  rename_i u a
  cases y <;> try (cases u <;> exact False.elim h)
  rename_i u' b
  cases u <;> cases u' <;> try exact False.elim h
  · obtain rfl := rel_int.1 hx
    obtain rfl := rel_int.1 hy
    exact aBinI_sound h
  · obtain rfl := rel_bool.1 hx
    obtain rfl := rel_bool.1 hy
    exact aBinB_sound hD h
  · obtain rfl := rel_str.1 hx
    obtain rfl := rel_str.1 hy
    exact aBinS_sound h
theorem mapEv {c : Cx} {T : List (Nat × AV)} {a : Act} : ∀ l : List Operand, (∀ x ∈ l, Rel c (ev T x) (a.eval x)) → RelL c (l.map (ev T)) (l.map a.eval)
  | [], _ => by simp only [List.map_nil]; unfold RelL; rfl
  | x :: l, hT => by
    simp only [List.map_cons]; unfold RelL
    exact ⟨_, _, rfl, hT x (List.mem_cons_self ..), mapEv l (fun y hy => hT y (List.mem_cons_of_mem _ hy))⟩
theorem optEv {c : Cx} {T : List (Nat × AV)} {a : Act} (x : Option Operand) (hT : ∀ y, x = some y → Rel c (ev T y) (a.eval y)) : optVal c (x.map (ev T)) (x.map a.eval) := by
  cases x with
  | none => exact trivial
  | some x => exact hT x rfl
theorem lift_value {P : Program} {w w' : World} {s : Sem Value} {v : Value} (h : s.run P w = .ok v w') : (do pure (Next.value (← s)) : Sem Next).run P w = .ok (.value v) w' := by
  simp [h]
theorem apure_sound {P : Program} {D : Tab} (hD : TabOk P D) {c : Cx} (H : HR c) {T : List (Nat × AV)} {a : Act} {o : Oper} (hT : ∀ x ∈ o.op.operands, Rel c (ev T x) (a.eval x)) (h : Hold (apure D c.G c.A T o.op).1) :
    ∃ v, (execOp a.eval o).run P c.w = .ok (.value v) c.w ∧ Rel c (apure D c.G c.A T o.op).2 v := by
  obtain ⟨dst, op, type, pos, after, guard⟩ := o
  simp only at h ⊢
  unfold apure at *
  cases op <;> try exact False.elim h
  case move x => exact ⟨_, rfl, hT x (by simp [Op.operands])⟩
  case assign x => exact ⟨_, rfl, hT x (by simp [Op.operands])⟩
  case pick x a' b =>
    obtain ⟨r, h1, h2⟩ := aPick_sound (P := P) (hT x (by simp [Op.operands])) (hT a' (by simp [Op.operands])) (hT b (by simp [Op.operands])) h
    refine ⟨r, ?_, h2⟩
    have h1' : ((asBool (a.eval x)).run P c.w).andThen (fun b' w' => (Result.ok (if b' = true then a.eval a' else a.eval b) w' : Result Value)) = .ok r c.w := by simpa using h1
    unfold execOp
    simp only [Sem.run_bind]
    cases hb : (asBool (a.eval x)).run P c.w with
    | ok b' w' => rw [hb] at h1'; simp at h1' ⊢; exact ⟨h1'.1, h1'.2⟩
    | halt e w' => rw [hb] at h1'; simp at h1'
  case field t x f =>
    obtain ⟨r, h1, h2⟩ := aField_sound hD (hT x (by simp [Op.operands])) h
    exact ⟨r, lift_value h1, h2⟩
  case fieldAddr t x f =>
    obtain ⟨r, h1, h2⟩ := aFieldAddr_sound hD (hT x (by simp [Op.operands])) h
    exact ⟨r, lift_value h1, h2⟩
  case indexAddr t x i =>
    obtain ⟨r, h1, h2⟩ := aIndexAddr_sound hD (hT x (by simp [Op.operands])) (hT i (by simp [Op.operands])) h
    exact ⟨r, lift_value h1, h2⟩
  case index t x i =>
    obtain ⟨r, h1, h2⟩ := aIndex_sound hD (hT x (by simp [Op.operands])) (hT i (by simp [Op.operands])) h
    exact ⟨r, lift_value h1, h2⟩
  case load t x =>
    obtain ⟨r, h1, h2⟩ := aLoad_sound hD H (hT x (by simp [Op.operands])) h
    exact ⟨r, lift_value h1, h2⟩
  case binOp op t x y yt =>
    simp only at h ⊢
    cases hn : isNilC y with
    | true =>
      rw [hn] at h
      have hy : y = .const .nilIface := by
        unfold isNilC at hn
        split at hn
        · rfl
        · cases hn
      subst hy
      obtain ⟨r, h1, h2⟩ := aBinNil_sound hD (x := x) (hT x (by simp [Op.operands])) h
      exact ⟨r, lift_value h1, h2⟩
    | false =>
      rw [hn] at h
      simp only at h ⊢
      cases hp : isNilPC y with
      | true =>
        rw [hp] at h
        have hy : y = .const (.pointer none) := by
          unfold isNilPC at hp
          split at hp
          · rfl
          · cases hp
        subst hy
        obtain ⟨r, h1, h2⟩ := aBinP_sound hD (x := x) (y := .const (.pointer none)) (hT x (by simp [Op.operands])) h
        exact ⟨r, lift_value h1, h2⟩
      | false =>
      rw [hp] at h
      obtain ⟨r, h1, h2⟩ := aBin_sound hD (ox := x) (oy := y) (hT x (by simp [Op.operands])) (hT y (by simp [Op.operands])) h
      exact ⟨r, lift_value h1, h2⟩
  case unOp op t x =>
    obtain ⟨r, h1, h2⟩ := aUn_sound hD (hT x (by simp [Op.operands])) h
    exact ⟨r, lift_value h1, h2⟩
  case convert s d x =>
    obtain ⟨r, h1, h2⟩ := aConv_sound hD (hT x (by simp [Op.operands])) h
    exact ⟨r, lift_value h1, h2⟩
  case extract x i =>
    obtain ⟨r, h1, h2⟩ := aExtract_sound hD (hT x (by simp [Op.operands])) h
    exact ⟨r, lift_value h1, h2⟩
  case makeInterface t x =>
    obtain ⟨r, h1, h2⟩ := aMkI_sound hD (hT x (by simp [Op.operands])) h
    exact ⟨r, lift_value h1, h2⟩
  case makeFunc fn first caps =>
    cases fn <;> try exact False.elim h
    rename_i fid
    obtain ⟨l⟩ := first
    cases l with
    | cons x l => exact False.elim h
    | nil =>
      refine ⟨.func (.func fid) #[] (caps.map a.eval), by simp [execOp, Instr.makeFunc], ?_⟩
      unfold yes Rel
      exact ⟨caps.toList.map a.eval, by congr 1; exact Array.ext' (by simp), mapEv caps.toList (fun y hy => hT y (by simp [Op.operands]; simpa using hy))⟩
  case build t ps =>
    obtain ⟨r, h1, h2⟩ := aBuild_sound hD (vs := ps.map fun (i, x) => (i, a.eval x)) (by simp) (fun i p v h1 h2 => by
      simp only [List.getElem?_map, Array.toList_map] at h1 h2
      cases hp : ps.toList[i]? with
      | none => rw [hp] at h1; cases h1
      | some q =>
        rw [hp] at h1 h2
        simp at h1 h2
        rw [← h1, ← h2]
        exact ⟨rfl, hT q.2 (by simp only [Op.operands, List.mem_toArray, List.mem_map]; exact ⟨q, List.mem_of_getElem? hp, rfl⟩)⟩) h
    exact ⟨r, lift_value h1, h2⟩
  case slice t x lo hi mx =>
    cases mx <;> try exact False.elim h
    obtain ⟨r, h1, h2⟩ := aSlice_sound hD (hT x (by simp [Op.operands])) (optEv lo fun y hy => hT y (by simp [Op.operands, hy])) (optEv hi fun y hy => hT y (by simp [Op.operands, hy])) h
    exact ⟨r, lift_value h1, h2⟩
  case nilCheck x =>
    obtain ⟨r, h1, h2⟩ := aNilCheck_sound (P := P) (hT x (by simp [Op.operands])) h
    exact ⟨r, h1, h2⟩
  case typeAssert x t u ok =>
    obtain ⟨r, h1, h2⟩ := aAssert_sound hD (t := t) (hT x (by simp [Op.operands])) h
    exact ⟨r, lift_value h1, h2⟩
  case call cl =>
    obtain ⟨callee, args, argTypes⟩ := cl
    unfold aCall at *
    simp only at h ⊢
    cases callee <;> try exact False.elim h
    rename_i b
    obtain ⟨args⟩ := args
    cases b <;> try exact False.elim h
    case len =>
      cases args with
      | nil => exact False.elim h
      | cons x l =>
        cases l with
        | cons y l => exact False.elim h
        | nil =>
          simp only at h ⊢
          cases ht : argTypes[0]? with
          | none => rw [ht] at h; exact False.elim h
          | some t =>
            rw [ht] at h
            obtain ⟨r, h1, h2⟩ := aLen_sound hD (ty := type) ht (hT x (by simp [Op.operands, Call.operands])) h
            refine ⟨r, ?_, h2⟩
            simpa [execOp, resolve, invoke, builtin] using lift_value h1
    case min =>
      cases args with
      | nil => exact False.elim h
      | cons x l =>
        obtain ⟨r, h1, h2⟩ := aFold_sound (P := P) (mx := false) _ _ _ _ (hT x (by simp [Op.operands, Call.operands])) (mapEv l fun y hy => hT y (by simp [Op.operands, Call.operands, hy])) h
        exact ⟨r, by simpa [execOp, resolve, invoke, builtin, Builtin.min_] using lift_value h1, h2⟩
    case max =>
      cases args with
      | nil => exact False.elim h
      | cons x l =>
        obtain ⟨r, h1, h2⟩ := aFold_sound (P := P) (mx := true) _ _ _ _ (hT x (by simp [Op.operands, Call.operands])) (mapEv l fun y hy => hT y (by simp [Op.operands, Call.operands, hy])) h
        exact ⟨r, by simpa [execOp, resolve, invoke, builtin, Builtin.max_] using lift_value h1, h2⟩
end Go.Ab
