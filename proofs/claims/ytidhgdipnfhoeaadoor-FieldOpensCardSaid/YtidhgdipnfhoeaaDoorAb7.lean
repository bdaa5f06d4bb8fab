/-
  Operations that only look (6): numbers, conversions, slices, lengths.
-/
import Derived.Test.YtidhgdipnfhoeaaDoorAb6
namespace Go.Ab
open Go
theorem arI_sound {c : Cx} {k : IntKind} {n : Int} (h : Hold (arI k n).1) : Rel c (arI k n).2 (.int k (k.wrap n)) := by
  unfold arI at *
  cases k <;> try exact rel_int.2 rfl
  simp only at h ⊢
  rw [I64.wrap h]; exact rel_int.2 rfl
theorem aBinI_sound {P : Program} {c : Cx} {op : BinOp} {t : TypeId} {x y : Operand} {k k' : IntKind} {a b : Int} (h : Hold (aBinI op k k' a b).1) :
    ∃ r, (do eqGuard op t x y (.int k a) (.int k' b); binOp op t (.int k a) (.int k' b) : Sem Value).run P c.w = .ok r c.w ∧ Rel c (aBinI op k k' a b).2 r := by
  have hg : (eqGuard op t x y (.int k a) (.int k' b)).run P c.w = .ok () c.w := by
    unfold eqGuard; cases op <;> simp
  unfold aBinI at *
  cases op <;> try exact False.elim h
  case shl => exact ⟨_, by simp [hg, binOp, Op.shift, show ¬ b < 0 from fun hb => absurd (show (0 : Int) ≤ b from h) (by omega)], rel_int.2 rfl⟩
  case shr => exact ⟨_, by simp [hg, binOp, Op.shift, show ¬ b < 0 from fun hb => absurd (show (0 : Int) ≤ b from h) (by omega)], rel_int.2 rfl⟩
  all_goals (
    simp only at h ⊢
    have hb := (gate_of h).1
    have h2 := (gate_of h).2
    clear h
    rw [gate_true hb]
    have := kEq_of hb
    subst this
    have h := h2
    clear h2)
  case add => exact ⟨_, by simp [hg, binOp, Op.intArith], arI_sound h⟩
  case sub => exact ⟨_, by simp [hg, binOp, Op.intArith], arI_sound h⟩
  case mul => exact ⟨_, by simp [hg, binOp, Op.intArith], arI_sound h⟩
  case quo =>
    obtain ⟨h1, h2⟩ := andC_of h
    have h1 : b ≠ 0 := h1
    exact ⟨_, by simp [hg, binOp, Op.intDiv, h1], arI_sound h2⟩
  case rem => exact ⟨_, by simp [hg, binOp, Op.intDiv, show b ≠ 0 from h], rel_int.2 rfl⟩
  case eql => exact ⟨_, by simp [hg, binOp, Op.intCmp], rel_bool.2 rfl⟩
  case neq => exact ⟨_, by simp [hg, binOp, Op.intCmp], rel_bool.2 rfl⟩
  case lss => exact ⟨_, by simp [hg, binOp, Op.intCmp], rel_bool.2 rfl⟩
  case leq => exact ⟨_, by simp [hg, binOp, Op.intCmp], rel_bool.2 rfl⟩
  case gtr => exact ⟨_, by simp [hg, binOp, Op.intCmp], rel_bool.2 rfl⟩
  case geq => exact ⟨_, by simp [hg, binOp, Op.intCmp], rel_bool.2 rfl⟩
theorem aBinS_sound {P : Program} {c : Cx} {op : BinOp} {t : TypeId} {x y : Operand} {a b : ByteArray} (h : Hold (aBinS op a b).1) :
    ∃ r, (do eqGuard op t x y (.string a) (.string b); binOp op t (.string a) (.string b) : Sem Value).run P c.w = .ok r c.w ∧ Rel c (aBinS op a b).2 r := by
  have hg : (eqGuard op t x y (.string a) (.string b)).run P c.w = .ok () c.w := by
    unfold eqGuard; cases op <;> simp
  unfold aBinS at *
  cases op <;> try exact False.elim h
  all_goals simp only at h ⊢
  case add =>
    have h : ((a.size + b.size : Nat) : Int) ≤ IntKind.i64.max := h
    have h' : ¬ (((a.size + b.size : Nat) : Int) > IntKind.i64.max) := by omega
    exact ⟨.string (a ++ b), by simp only [Sem.run_bind, hg, Result.andThen_ok, binOp, Op.stringOp, if_neg h', Sem.run_pure], rel_str.2 rfl⟩
  all_goals exact ⟨_, by simp only [Sem.run_bind, hg, Result.andThen_ok, binOp, Op.stringOp, Sem.run_pure], rel_bool.2 rfl⟩
theorem run_equal_bool {P : Program} {t : TypeId} {a b : Bool} {w : World} (h : P.underlying t = some .bool) : (Op.equal t (.bool a) (.bool b)).run P w = .ok (a == b) w := by
  unfold Op.equal Op.maxDepth
  rw [show (10000 : Nat) = 9999 + 1 from rfl]
  unfold Op.equalIn
  simp [run_underlying' h]
theorem aBinB_sound {P : Program} {D : Tab} (hD : TabOk P D) {c : Cx} {op : BinOp} {t : TypeId} {x y : Operand} {a b : Bool} (h : Hold (aBinB D op t a b).1) :
    ∃ r, (do eqGuard op t x y (.bool a) (.bool b); binOp op t (.bool a) (.bool b) : Sem Value).run P c.w = .ok r c.w ∧ Rel c (aBinB D op t a b).2 r := by
  have hg : (eqGuard op t x y (.bool a) (.bool b)).run P c.w = .ok () c.w := by
    unfold eqGuard; cases op <;> simp
  unfold aBinB at *
  cases op <;> try exact False.elim h
  all_goals simp only at h ⊢
  all_goals obtain ⟨hb, _⟩ := gate_of h
  all_goals rw [gate_true hb]
  all_goals exact ⟨_, by simp only [Sem.run_bind, hg, Result.andThen_ok, binOp, run_equal_bool (of_tbool hD hb), Sem.run_pure], rel_bool.2 rfl⟩
theorem isNil_val {c : Cx} {x : AV} {v : Value} {b : Bool} (hx : Rel c x v) (h : isNil x = some b) : (b = true ∧ v = .nilIface) ∨ (b = false ∧ ∃ t u, v = .iface t u) := by
  unfold isNil at h
  split at h
  · cases h; exact .inl ⟨rfl, (rel_raw_of hx).1⟩
  · cases h; exact .inr ⟨rfl, _, _, (rel_raw_of hx).1⟩
  · cases h; unfold Rel at hx; obtain ⟨u, rfl, _⟩ := hx; exact .inr ⟨rfl, _, _, rfl⟩
  · cases h
theorem run_equal_nil {P : Program} {D : Tab} (hD : TabOk P D) {t : TypeId} {v : Value} {b : Bool} {w : World} (h : tiface D t = true) (hv : (b = true ∧ v = .nilIface) ∨ (b = false ∧ ∃ t u, v = .iface t u)) :
    (Op.equal t v .nilIface).run P w = .ok b w := by
  obtain ⟨ms, hu⟩ := of_tiface hD h
  unfold Op.equal Op.maxDepth
  rw [show (10000 : Nat) = 9999 + 1 from rfl]
  unfold Op.equalIn
  rcases hv with ⟨rfl, rfl⟩ | ⟨rfl, t', u, rfl⟩
  · simp [run_underlying' hu]
  · simp [run_underlying' hu]
theorem aBinNil_sound {P : Program} {D : Tab} (hD : TabOk P D) {c : Cx} {op : BinOp} {t : TypeId} {x : Operand} {a : AV} {v : Value} (hx : Rel c a v) (h : Hold (aBinNil D op t a).1) :
    ∃ r, (do eqGuard op t x (.const .nilIface) v .nilIface; binOp op t v .nilIface : Sem Value).run P c.w = .ok r c.w ∧ Rel c (aBinNil D op t a).2 r := by
  unfold aBinNil at *
  cases hn : isNil a with
  | none => rw [hn] at h; exact False.elim h
  | some b =>
    rw [hn] at h
    have hv := isNil_val hx hn
    have hg : (eqGuard op t x (.const .nilIface) v .nilIface).run P c.w = .ok () c.w := by
      unfold eqGuard
      rcases hv with ⟨_, rfl⟩ | ⟨_, t', u, rfl⟩ <;> cases op <;> simp
    have hb : ∀ y : Value, y = v → ∀ w : World, op = .eql ∨ op = .neq → binOp op t y .nilIface = (if op = .eql then (do pure (.bool (← Op.equal t y .nilIface))) else (do pure (.bool (!(← Op.equal t y .nilIface))))) := by
      intro y hy w ho
      subst hy
      rcases hv with ⟨_, rfl⟩ | ⟨_, t', u, rfl⟩ <;> rcases ho with rfl | rfl <;> rfl
    cases op <;> try exact False.elim h
    · simp only at h ⊢
      obtain ⟨hgb, _⟩ := gate_of h
      rw [gate_true hgb]
      have h := hgb
      exact ⟨.bool b, by rw [hb v rfl c.w (.inl rfl)]; simp only [Sem.run_bind, hg, Result.andThen_ok, if_true, run_equal_nil hD h hv, Sem.run_pure], rel_bool.2 rfl⟩
    · simp only at h ⊢
      obtain ⟨hgb, _⟩ := gate_of h
      rw [gate_true hgb]
      have h := hgb
      exact ⟨.bool (!b), by rw [hb v rfl c.w (.inr rfl)]; simp [hg, run_equal_nil hD h hv], rel_bool.2 rfl⟩
/-! ### one operand -/
def aUn (op : UnOp) (x : AV) : AR :=
  match op, x with
  | .neg, .fz (.int k) n => arI k ((0 : Int) - n)
  | .not, .fz .bool b => (none, .fz .bool (!b))
  | _, _ => no
theorem aUn_sound {P : Program} {D : Tab} (hD : TabOk P D) {c : Cx} {op : UnOp} {x : AV} {v : Value} (hx : Rel c x v) (h : Hold (aUn op x).1) : ∃ r, (Op.unary op v).run P c.w = .ok r c.w ∧ Rel c (aUn op x).2 r := by
  cases op <;> cases x <;> try exact False.elim h
  · rename_i u n
    cases u <;> try exact False.elim h
    obtain rfl := rel_int.1 hx
    exact ⟨.int _ (IntKind.wrap _ (0 - n)), by simp [Op.unary, Op.intArith], arI_sound h⟩
  · rename_i u n
    cases u <;> try exact False.elim h
    obtain rfl := rel_bool.1 hx
    exact ⟨_, by simp [Op.unary], rel_bool.2 rfl⟩
def aConv (D : Tab) (src dst : TypeId) (x : AV) : AR :=
  match aInt x, tkind D dst with
  | some n, some k => gate (tlook D src).isSome (arI k n)
  | _, _ => no
theorem aConv_sound {P : Program} {D : Tab} (hD : TabOk P D) {c : Cx} {s d : TypeId} {x : AV} {v : Value} (hx : Rel c x v) (h : Hold (aConv D s d x).1) : ∃ r, (convert s d v).run P c.w = .ok r c.w ∧ Rel c (aConv D s d x).2 r := by
  unfold aConv at *
  cases hn : aInt x with
  | none => rw [hn] at h; exact False.elim h
  | some n =>
    cases hk : tkind D d with
    | none => rw [hn, hk] at h; exact False.elim h
    | some k =>
      rw [hn, hk] at h
      simp only at h ⊢
      obtain ⟨hb, h⟩ := gate_of h
      rw [gate_true hb]
      obtain ⟨k', rfl⟩ := aInt_of hn hx
      obtain ⟨ds, hs⟩ := Option.isSome_iff_exists.1 (of_known hD hb)
      refine ⟨.int k (k.wrap n), ?_, arI_sound h⟩
      unfold convert
      simp only [Sem.run_bind, run_underlying' hs, run_underlying' (of_tkind hD hk), Result.andThen_ok]
      cases ds <;> simp [Conv.intToInt]
def aExtract (i : Nat) : AV → AR
  | .tup vs => gate (Nat.blt i vs.length) (none, vs.getD i .unk)
  | _ => no
theorem aExtract_sound {P : Program} {D : Tab} (hD : TabOk P D) {c : Cx} {i : Nat} {x : AV} {v : Value} (hx : Rel c x v) (h : Hold (aExtract i x).1) : ∃ r, (Instr.extract v i).run P c.w = .ok r c.w ∧ Rel c (aExtract i x).2 r := by
  cases x <;> try exact False.elim h
  rename_i vs
  unfold Rel at hx
  obtain ⟨us, rfl, hr⟩ := hx
  obtain ⟨hb, _⟩ := gate_of h
  have hlt : i < vs.length := blt_of hb
  obtain ⟨v', e1, e2⟩ := hr.get _ _ i (vs[i]) (List.getElem?_eq_getElem hlt)
  exact ⟨v', by simp [Instr.extract, e1], by unfold aExtract; simp only; rw [gate_true hb]; simpa [List.getD, hlt] using e2⟩
def aLen (D : Tab) (A : List AO) (t : TypeId) : AV → AR
  | .fz (.list _) xs => gate (telem D t).isSome (none, .fz (.int .i64) ((List.length xs : Nat) : Int))
  | .ref tok _ len => match A[tok]? with
    | some (.row _ _) => gate (telem D t).isSome (none, .fz (.int .i64) ((len : Nat) : Int))
    | _ => no
  | .nilSl => gate (telem D t).isSome (none, .fz (.int .i64) (0 : Int))
  | .fz .str s => gate (tstr D t) (none, .fz (.int .i64) ((ByteArray.size s : Nat) : Int))
  | _ => no
theorem aLen_sound {P : Program} {D : Tab} (hD : TabOk P D) {c : Cx} {t ty : TypeId} {x : AV} {v : Value} {ts : Array TypeId} (ht : ts[0]? = some t) (hx : Rel c x v) (h : Hold (aLen D c.A t x).1) :
    ∃ r, (Builtin.len_ ts ty #[v]).run P c.w = .ok r c.w ∧ Rel c (aLen D c.A t x).2 r := by
  have key : (telem D t).isSome = true → ∀ p n cap, (Builtin.len_ ts ty #[.slice p n cap]).run P c.w = .ok (.int .i64 (n : Int)) c.w := by
    intro h p n cap
    obtain ⟨e, he⟩ := Option.isSome_iff_exists.1 h
    simp [Builtin.len_, ht, run_underlying' (of_telem hD he), goInt]
  unfold aLen at *
  cases x <;> try exact False.elim h
  case fz u xs =>
    cases u <;> try exact False.elim h
    case list e =>
      obtain ⟨hb, _⟩ := gate_of h
      obtain ⟨p, cap, rfl, _⟩ := rel_list hx
      exact ⟨_, key hb _ _ _, by simp only [gate_true hb]; exact rel_int.2 rfl⟩
    case str =>
      obtain ⟨hb, _⟩ := gate_of h
      obtain rfl := rel_str.1 hx
      exact ⟨.int .i64 (ByteArray.size xs : Nat), by simp [Builtin.len_, ht, run_underlying' (of_tstr hD hb), goInt], by simp only; rw [gate_true hb]; exact rel_int.2 rfl⟩
  case ref tok off len =>
    simp only at h ⊢
    unfold Rel at hx
    cases ht : c.A[tok]? with
    | none => rw [ht] at h; exact False.elim h
    | some o =>
      rw [ht] at h hx
      cases o <;> try exact False.elim h
      simp only at h hx ⊢
      obtain ⟨hb, _⟩ := gate_of h
      rw [gate_true hb]
      rcases hx with ⟨b, cap, cs, et, a, _, rfl, _⟩ | ⟨_, _, rfl, rfl⟩
      · exact ⟨_, key hb _ _ _, rel_int.2 rfl⟩
      · exact ⟨_, key hb _ _ _, rel_int.2 rfl⟩
  case nilSl =>
    obtain ⟨hb, _⟩ := gate_of h
    unfold Rel at hx; subst hx
    exact ⟨_, key hb _ _ _, by simp only [gate_true hb]; exact rel_int.2 rfl⟩
end Go.Ab
