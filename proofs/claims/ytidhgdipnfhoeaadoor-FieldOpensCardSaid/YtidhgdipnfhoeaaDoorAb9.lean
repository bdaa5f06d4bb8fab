/-
  Cells of values; structs built.
-/
import Derived.Test.YtidhgdipnfhoeaaDoorAb8
namespace Go.Ab
open Go
def cavN (f : Nat → List AV) : Nat → List AV
  | 0 => []
  | n + 1 => cavN f n ++ f n
def Ty.cav : (t : Ty) → t.den → List AV
  | .one a, x => a.cav x
  | .pair a b, x => a.cav x.1 ++ b.cav x.2
  | .arr n e, x => cavN (fun i => e.cav (List.getD x i e.dft)) n
  | t, x => [.fz t x]
def acells : AV → List AV
  | .agg vs => vs
  | .fz t x => t.cav x
  | v => [v]
/-- fits one cell -/
def AV.one : AV → Bool
  | .fz t _ => !t.isAgg
  | .agg _ | .tup _ | .opt _ _ | .unk => false
  | .ref _ _ _ | .ptr _ _ | .elt _ _ _ | .nilSl | .fptr _ _ | .glob _ | .fn _ _ | .ifc _ _ => true
/-- a token that is dead tells nothing -/
def AV.sure (A : List AO) : AV → Bool
  | .ref tok _ _ => match A[tok]? with | some (.row _ _) => true | _ => false
  | .ptr tok _ => match A[tok]? with | some (.box _) => true | _ => false
  | .elt tok _ _ => match A[tok]? with | some (.row _ _) => true | _ => false
  | _ => true
theorem cav_sound {c : Cx} : ∀ (t : Ty) (x : t.den) (cs : List Value), FzC c.I c.w t x cs → RelL c (t.cav x) cs := by
  have base : ∀ (t : Ty) (x : t.den) (cs : List Value), t.isAgg = false → FzC c.I c.w t x cs → RelL c [.fz t x] cs := by
    intro t x cs ha h
    have hl := h.len
    rw [isAgg_size ha] at hl
    match cs, hl with
    | [v], _ =>
      unfold RelL
      refine ⟨v, [], rfl, ?_, by unfold RelL; rfl⟩
      have := rel_fz_mk h
      unfold valOf at this; rw [if_neg (by simp [ha])] at this
      exact this
  intro t
  induction t with
  | one a ih => intro x cs h; exact ih x cs h
  | pair a b iha ihb =>
    intro x cs h
    obtain ⟨l, r, rfl, h1, h2⟩ := h
    exact RelL.append _ _ _ _ (iha _ _ h1) (ihb _ _ h2)
  | arr n e ih =>
    intro x cs h
    obtain ⟨hl, css, hn, rfl, hall⟩ := h
    show RelL c (cavN (fun i => e.cav (List.getD x i e.dft)) n) css.flatten
    have key : ∀ m, m ≤ n → RelL c (cavN (fun i => e.cav (List.getD x i e.dft)) m) (css.take m).flatten := by
      intro m
      induction m with
      | zero => intro _; unfold cavN RelL; rfl
      | succ m ihm =>
        intro hm
        have h0 := ihm (by omega)
        have hm' : m < List.length x := by omega
        have h1 := ih _ _ (hall m hm')
        rw [List.take_succ_eq_append_getElem (by omega), List.flatten_append]
        unfold cavN
        refine RelL.append _ _ _ _ h0 ?_
        have e1 : List.getD x m e.dft = x[m] := getD_of_lt hm'
        have e2 : css.getD m [] = css[m] := getD_of_lt (by omega)
        rw [e1]
        rw [e2] at h1
        simpa using h1
    have := key n (Nat.le_refl _)
    rw [← hn, List.take_length] at this
    rw [hn] at this; exact this
  | int k | bool | str | flt k | raw | list e => intro x cs h; exact base _ x cs rfl h
theorem one_ocell {c : Cx} {a : AV} {v : Value} (ho : a.one = true) (hs : a.sure c.A = true) (h : Rel c a v) : ocell v = true := by
  cases a <;> try (cases ho; done)
  case fz t x =>
    have ha : t.isAgg = false := by simpa [AV.one] using ho
    unfold Rel at h
    obtain ⟨cs, h1, rfl⟩ := h
    have hl := h1.len
    rw [isAgg_size ha] at hl
    have h2 := h1.cells1
    match cs, hl with
    | [v], _ => unfold valOf; rw [if_neg (by simp [ha])]; exact h2 v (by simp)
  case fptr t x => unfold Rel at h; obtain ⟨b, o, cs, rfl, _⟩ := h; rfl
  case ref tok off len =>
    unfold Rel at h; unfold AV.sure at hs; simp only at hs
    cases ht : c.A[tok]? with
    | none => rw [ht] at h; exact False.elim h
    | some o =>
      rw [ht] at h hs
      cases o <;> try (cases hs; done)
      rcases h with ⟨b, cap, cs, et, a, _, rfl, _⟩ | ⟨_, _, _, rfl⟩ <;> rfl
  case nilSl => unfold Rel at h; subst h; rfl
  case ptr tok off =>
    unfold Rel at h; unfold AV.sure at hs; simp only at hs
    cases ht : c.A[tok]? with
    | none => rw [ht] at h; exact False.elim h
    | some o =>
      rw [ht] at h hs
      cases o <;> try (cases hs; done)
      obtain ⟨b, _, rfl⟩ := h; rfl
  case elt tok i off =>
    unfold Rel at h; unfold AV.sure at hs; simp only at hs
    cases ht : c.A[tok]? with
    | none => rw [ht] at h; exact False.elim h
    | some o =>
      rw [ht] at h hs
      cases o <;> try (cases hs; done)
      obtain ⟨b, _, rfl⟩ := h; rfl
  case glob g => unfold Rel at h; subst h; rfl
  case fn f l => unfold Rel at h; obtain ⟨vs, rfl, _⟩ := h; rfl
  case ifc t a => unfold Rel at h; obtain ⟨u, rfl, _⟩ := h; rfl
/-- all cells are known -/
def goodC (A : List AO) (l : List AV) : Bool := l.all fun a => a.one && a.sure A
theorem goodC_ocell {c : Cx} : ∀ (l : List AV) (vs : List Value), goodC c.A l = true → RelL c l vs → ∀ v ∈ vs, ocell v = true
  | [], vs, _, h => by unfold RelL at h; subst h; intro v hv; cases hv
  | a :: l, vs, hg, h => by
    unfold RelL at h
    obtain ⟨v, r, rfl, h1, h2⟩ := h
    unfold goodC at hg
    simp only [List.all_cons, Bool.and_eq_true] at hg
    intro u hu
    rcases List.mem_cons.1 hu with rfl | hu
    · exact one_ocell hg.1.1 hg.1.2 h1
    · exact goodC_ocell l r hg.2 h2 u hu
theorem ocell_cells {v : Value} (h : ocell v = true) : v.cells = #[v] := by cases v <;> first | rfl | cases h
theorem cells_sound {c : Cx} {a : AV} {v : Value} (hg : goodC c.A (acells a) = true) (h : Rel c a v) : RelL c (acells a) v.cells.toList := by
  have single : a.one = true → a.sure c.A = true → RelL c [a] v.cells.toList := by
    intro h1 h2
    rw [ocell_cells (one_ocell h1 h2 h)]
    unfold RelL
    exact ⟨v, [], rfl, h, by unfold RelL; rfl⟩
  cases a
  case agg vs => unfold Rel at h; obtain ⟨us, rfl, hr⟩ := h; simpa [Value.cells, acells] using hr
  case fz t x =>
    unfold Rel at h
    obtain ⟨cs, h1, rfl⟩ := h
    rw [valOf_cells h1]
    exact cav_sound t x cs h1
  all_goals (
    unfold goodC acells at hg
    simp only [List.all_cons, List.all_nil, Bool.and_true, Bool.and_eq_true] at hg
    exact single hg.1 hg.2)
/-! ### built -/
def setRange {α : Type} (l : List α) (off : Nat) (vs : List α) : List α := l.take off ++ vs ++ l.drop (off + vs.length)
def fits (A : List AO) (l : List AV) (sz off n : Nat) : Bool := goodC A l && (Nat.beq l.length sz && Nat.ble (off + sz) n)
theorem fits_of {A : List AO} {l : List AV} {sz off n : Nat} (h : fits A l sz off n = true) : goodC A l = true ∧ l.length = sz ∧ off + sz ≤ n := by
  unfold fits at h
  simp only [Bool.and_eq_true] at h
  exact ⟨h.1, beq_eq h.2.1, Nat.le_of_ble_eq_true h.2.2⟩
def aFill (pl : Nat → Option (Nat × Nat)) (A : List AO) : List AV → List (Nat × AV) → Option (List AV)
  | cells, [] => some cells
  | cells, (i, v) :: rest => match pl i with
    | none => none
    | some (off, sz) => match fits A (acells v) sz off cells.length with
      | true => aFill pl A (setRange cells off (acells v)) rest
      | false => none
def Z.av : Z → AV
  | .int k => .fz (.int k) (0 : Int)
  | .bool => .fz .bool false
  | .str => .fz .str ByteArray.empty
  | .flt k => .fz (.flt k) (0 : Nat)
  | .nilSl => .nilSl
  | .nilI => .fz .raw .nilIface
  | .nilF => .fz .raw .nilFunc
  | .nilP => .fz .raw (.pointer none)
  | .nilM => .fz .raw (.map none)
theorem Z.rel (c : Cx) (z : Z) : Rel c z.av z.val := by
  cases z
  · exact rel_int.2 rfl
  · exact rel_bool.2 rfl
  · exact rel_str.2 rfl
  · exact rel_flt.2 rfl
  · unfold Z.av Rel; rfl
  · exact (rel_raw rfl).2 rfl
  · exact (rel_raw rfl).2 rfl
  · exact (rel_raw rfl).2 rfl
  · exact (rel_raw rfl).2 rfl
theorem relL_zs (c : Cx) : ∀ zs : List Z, RelL c (zs.map Z.av) (zs.map Z.val)
  | [] => by simp only [List.map_nil]; unfold RelL; rfl
  | z :: zs => by
    simp only [List.map_cons]; unfold RelL
    exact ⟨_, _, rfl, z.rel c, relL_zs c zs⟩
def tzero (D : Tab) (t : TypeId) : Option (List AV) := match tlook D t with
  | some i => match i.z with
    | [] => none
    | z :: zs => some (z.av :: zs.map Z.av)
  | none => none
theorem tzero_sound {P : Program} {D : Tab} (hD : TabOk P D) {t : TypeId} {z : List AV} (h : tzero D t = some z) (c : Cx) : ∃ zv, (zeroValue t).run P c.w = .ok zv c.w ∧ RelL c z zv.cells.toList := by
  unfold tzero at h
  cases hi : tlook D t with
  | none => rw [hi] at h; cases h
  | some e =>
    rw [hi] at h
    simp only at h
    cases hz : e.z with
    | nil => rw [hz] at h; cases h
    | cons z0 zs =>
      rw [hz] at h
      cases h
      obtain ⟨i, d, h1, _, _, _, h5, _⟩ := tlook_info hD hi
      cases hv : i.zero with
      | none => rw [hv, hz] at h5; cases h5
      | some v =>
        rw [hv, hz] at h5
        refine ⟨v, by simp [zeroValue, typeInfo, h1, hv], ?_⟩
        rw [zsAre_map h5]
        exact relL_zs c (z0 :: zs)
theorem setRange_rel {c : Cx} {l : List AV} {vs : List Value} {off : Nat} {a : List AV} {u : List Value} (h : RelL c l vs) (h' : RelL c a u) : RelL c (setRange l off a) (setRange vs off u) := by
  have hl := h'.length
  unfold setRange
  rw [hl]
  refine RelL.append _ _ _ _ (RelL.append _ _ _ _ ?_ h') ?_
  · refine RelL.of_get _ _ (by simp [h.length]) (fun i a v h1 h2 => ?_)
    rw [List.getElem?_take] at h1 h2
    split at h1
    · rename_i hi; rw [if_pos hi] at h2
      obtain ⟨v', e1, e2⟩ := h.get _ _ _ _ h1
      rw [e1] at h2; cases h2; exact e2
    · cases h1
  · refine RelL.of_get _ _ (by simp [h.length]) (fun i a v h1 h2 => ?_)
    rw [List.getElem?_drop] at h1 h2
    obtain ⟨v', e1, e2⟩ := h.get _ _ _ _ h1
    rw [e1] at h2; cases h2; exact e2
theorem fold_set (u : List Value) : ∀ (off k : Nat) (cs : Array Value), off + k + u.length ≤ cs.size →
    ((u.zipIdx k).foldl (fun cs (x : Value × Nat) => cs.setIfInBounds (off + x.2) x.1) cs).toList = setRange cs.toList (off + k) u := by
  induction u with
  | nil => intro off k cs h; simp [setRange]
  | cons v u ih =>
    intro off k cs h
    simp only [List.zipIdx_cons, List.foldl_cons]
    simp at h
    rw [ih off (k + 1) _ (by simp; omega)]
    unfold setRange
    simp only [Array.toList_setIfInBounds, List.length_cons]
    have e1 : (cs.toList.set (off + k) v).take (off + (k + 1)) = cs.toList.take (off + k) ++ [v] := by
      rw [show off + (k + 1) = off + k + 1 by omega, List.take_succ_eq_append_getElem (by simp; omega), List.take_set_of_le (Nat.le_refl _)]
      simp
    have e2 : (cs.toList.set (off + k) v).drop (off + (k + 1) + u.length) = cs.toList.drop (off + k + (u.length + 1)) := by
      rw [List.drop_set_of_lt (by omega)]; congr 1; omega
    rw [e1, e2]; simp
theorem aFill_sound {c : Cx} {pl : Nat → Option (Nat × Nat)} : ∀ (ps : List (Nat × AV)) (vs : List (Nat × Value)) (cells : List AV) (cs : Array Value) (r : List AV), ps.length = vs.length →
    (∀ (i : Nat) a v, ps[i]? = some a → vs[i]? = some v → a.1 = v.1 ∧ Rel c a.2 v.2) → RelL c cells cs.toList → aFill pl c.A cells ps = some r → ∃ cs', Instr.fill pl cs vs = some cs' ∧ RelL c r cs'.toList
  | [], vs, cells, cs, r, hl, _, hr, h => by
    have : vs = [] := List.eq_nil_of_length_eq_zero (by simpa using hl.symm)
    subst this
    unfold aFill at h; cases h
    exact ⟨cs, rfl, hr⟩
  | (i, a) :: ps, [], _, _, _, hl, _, _, _ => by simp at hl
  | (i, a) :: ps, (j, v) :: vs, cells, cs, r, hl, hall, hr, h => by
    obtain ⟨e1, e2⟩ := hall 0 _ _ rfl rfl
    simp at e1 e2
    subst e1
    unfold aFill at h
    cases hp : pl i with
    | none => rw [hp] at h; cases h
    | some os =>
      obtain ⟨off, sz⟩ := os
      rw [hp] at h
      simp only at h
      split at h
      · rename_i hc
        obtain ⟨g1, g2, g3⟩ := fits_of hc
        have hcs := cells_sound g1 e2
        have hlen := hcs.length
        have hcl := hr.length
        have hsz : v.cells.size = sz := by rw [← g2, ← hlen]; simp
        have hcz : cs.size = cells.length := by rw [← hcl]; simp
        obtain ⟨cs', k1, k2⟩ := aFill_sound ps vs _ ((v.cells.zipIdx.foldl (fun cs (x : Value × Nat) => cs.setIfInBounds (off + x.2) x.1) cs)) r (by simpa using hl)
          (fun i a v h1 h2 => hall (i + 1) a v (by simpa using h1) (by simpa using h2)) (by
            have := fold_set v.cells.toList off 0 cs (by simp; omega)
            rw [← Array.foldl_toList]
            simp only [Array.toList_zipIdx]
            rw [Nat.add_zero] at this
            rw [this]
            exact setRange_rel hr hcs) h
        refine ⟨cs', ?_, k2⟩
        unfold Instr.fill
        simp only [hp]
        rw [if_neg (by simp; omega)]
        exact k1
      · cases h
def tplaces (D : Tab) (t : TypeId) : Option (List (Nat × Nat)) := match tlook D t with
  | some i => match i.d with
    | .struct fs => some (fs.map fun f => (f.1, tsz D f.2))
    | _ => none
  | none => none
def allPos : List (Nat × Nat) → Bool
  | [] => true
  | x :: l => Nat.blt 0 x.2 && allPos l
def aBuild (D : Tab) (A : List AO) (t : TypeId) (ps : List (Nat × AV)) : AR :=
  match tplaces D t, tzero D t with
  | some pl, some z => match aFill (fun i => pl[i]?) A z ps with
    | some r => gate (allPos pl) (none, .agg r)
    | none => no
  | _, _ => no
theorem allPos_of : ∀ {l : List (Nat × Nat)}, allPos l = true → ∀ x ∈ l, 0 < x.2
  | [], _, x, hx => by cases hx
  | y :: l, h, x, hx => by
    unfold allPos at h
    simp only [Bool.and_eq_true] at h
    rcases List.mem_cons.1 hx with rfl | hx
    · exact blt_of h.1
    · exact allPos_of h.2 x hx
theorem of_tplaces {P : Program} {D : Tab} (hD : TabOk P D) {t : TypeId} {pl : List (Nat × Nat)} (h : tplaces D t = some pl) : ∃ fs : Array Field, P.underlying t = some (.struct fs) ∧ pl = fs.toList.map fun f => (f.offset, tsz D f.type) := by
  unfold tplaces at h
  cases hi : tlook D t with
  | none => rw [hi] at h; cases h
  | some e =>
    rw [hi] at h
    obtain ⟨i, d, _, h2, _, h4, _⟩ := tlook_info hD hi
    simp only at h
    cases hd : e.d <;> rw [hd] at h h4 <;> try (cases h; done)
    cases d <;> try (cases h4; done)
    rename_i l fs
    simp only [tiIs, decide_eq_true_eq] at h4
    cases h
    refine ⟨fs, h2, ?_⟩
    rw [← h4]; simp
theorem run_mapM {α β : Type} {P : Program} {w : World} {f : α → Sem β} {g : α → β} : ∀ (l : List α), (∀ x ∈ l, (f x).run P w = .ok (g x) w) → (l.mapM f).run P w = .ok (l.map g) w
  | [], _ => by simp
  | a :: l, h => by
    have ih := run_mapM (f := f) (g := g) l (fun x hx => h x (List.mem_cons_of_mem _ hx))
    simp [List.mapM_cons, h a (List.mem_cons_self ..), ih]
theorem aBuild_sound {P : Program} {D : Tab} (hD : TabOk P D) {c : Cx} {t : TypeId} {ps : List (Nat × AV)} {vs : Array (Nat × Value)} (hl : ps.length = vs.toList.length)
    (hall : ∀ (i : Nat) a v, ps[i]? = some a → vs.toList[i]? = some v → a.1 = v.1 ∧ Rel c a.2 v.2) (h : Hold (aBuild D c.A t ps).1) :
    ∃ r, (Instr.build t vs).run P c.w = .ok r c.w ∧ Rel c (aBuild D c.A t ps).2 r := by
  unfold aBuild at *
  cases hp : tplaces D t with
  | none => rw [hp] at h; exact False.elim h
  | some pl =>
    cases hz : tzero D t with
    | none => rw [hp, hz] at h; exact False.elim h
    | some z =>
      rw [hp, hz] at h
      simp only at h ⊢
      cases hf : aFill (fun i => pl[i]?) c.A z ps with
      | none => rw [hf] at h; exact False.elim h
      | some r =>
        rw [hf] at h
        simp only at h ⊢
        have hb := (gate_of h).1
        rw [gate_true hb]
        obtain ⟨fs, hu, rfl⟩ := of_tplaces hD hp
        obtain ⟨zv, hzr, hzrel⟩ := tzero_sound hD hz c
        obtain ⟨cs', k1, k2⟩ := aFill_sound ps vs.toList _ zv.cells r hl hall hzrel hf
        refine ⟨.agg cs', ?_, by unfold Rel; exact ⟨cs'.toList, by simp, k2⟩⟩
        have hm : (fs.toList.mapM fun f => do pure (f.offset, ← sizeOf f.type) : Sem (List (Nat × Nat))).run P c.w = .ok (fs.toList.map fun f => (f.offset, tsz D f.type)) c.w := by
          refine run_mapM _ (fun f hf => ?_)
          have := allPos_of hb (f.offset, tsz D f.type) (List.mem_map.2 ⟨f, hf, rfl⟩)
          simp [run_sizeOf hD rfl this]
        have hm' : (fs.mapM fun f => do pure (f.offset, ← sizeOf f.type) : Sem (Array (Nat × Nat))).run P c.w = .ok (fs.toList.map fun f => (f.offset, tsz D f.type)).toArray c.w := by
          rw [Array.mapM_eq_mapM_toList, Sem.run_map, hm]; rfl
        unfold Instr.build
        simp only [Sem.run_bind, hzr, Result.andThen_ok, run_underlying' hu, hm']
        have hpl : (fun (i : Nat) => (List.map (fun f => (f.offset, tsz D f.type)) fs.toList).toArray[i]?) = (fun (i : Nat) => (List.map (fun f => (f.offset, tsz D f.type)) fs.toList)[i]?) := by
          funext i; simp
        rw [hpl, k1]
        rfl
/-! ### pointers and nil -/
def tptr (D : Tab) (t : TypeId) : Bool := match tlook D t with
  | some i => match i.d with
    | .ptr _ => true
    | _ => false
  | none => false
theorem of_tptr {P : Program} {D : Tab} (hD : TabOk P D) {t : TypeId} (h : tptr D t = true) : ∃ e, P.underlying t = some (.pointer e) := by
  unfold tptr at h
  cases hi : tlook D t with
  | none => rw [hi] at h; cases h
  | some x =>
    rw [hi] at h
    obtain ⟨i, d, _, h2, _, h4, _⟩ := tlook_info hD hi
    simp only at h
    cases hd : x.d <;> rw [hd] at h h4 <;> try (cases h; done)
    cases d <;> try (cases h4; done)
    exact ⟨_, h2⟩
def isNilP (A : List AO) : AV → Option Bool
  | .fz .raw (.pointer none) => some true
  | .fptr _ _ => some false
  | .ptr tok _ => match A[tok]? with
    | some (.box _) => some false
    | _ => none
  | .elt tok _ _ => match A[tok]? with
    | some (.row _ _) => some false
    | _ => none
  | _ => none
def isNilPC : Operand → Bool
  | .const (.pointer none) => true
  | _ => false
def aBinP (D : Tab) (A : List AO) (op : BinOp) (t : TypeId) (x : AV) : AR :=
  match isNilP A x, op with
  | some b, .eql => gate (tptr D t) (none, .fz .bool b)
  | some b, .neq => gate (tptr D t) (none, .fz .bool (!b))
  | _, _ => no
theorem isNilP_val {c : Cx} {x : AV} {v : Value} {b : Bool} (hx : Rel c x v) (h : isNilP c.A x = some b) : (b = true ∧ v = .pointer none) ∨ (b = false ∧ ∃ a, v = .pointer (some a)) := by
  unfold isNilP at h
  split at h
  · cases h; exact .inl ⟨rfl, (rel_raw_of hx).1⟩
  · cases h; unfold Rel at hx; obtain ⟨b, off, cs, h1, _⟩ := hx; exact .inr ⟨rfl, _, h1⟩
  · unfold Rel at hx
    split at h
    · rename_i hA; cases h; rw [hA] at hx; obtain ⟨b, _, h2⟩ := hx; exact .inr ⟨rfl, _, h2⟩
    · cases h
  · unfold Rel at hx
    split at h
    · rename_i hA; cases h; rw [hA] at hx; obtain ⟨b, _, h2⟩ := hx; exact .inr ⟨rfl, _, h2⟩
    · cases h
  · cases h
theorem aBinP_sound {P : Program} {D : Tab} (hD : TabOk P D) {c : Cx} {op : BinOp} {t : TypeId} {x y : Operand} {a : AV} {v : Value} (hx : Rel c a v) (h : Hold (aBinP D c.A op t a).1) :
    ∃ r, (do eqGuard op t x y v (.pointer none); binOp op t v (.pointer none) : Sem Value).run P c.w = .ok r c.w ∧ Rel c (aBinP D c.A op t a).2 r := by
  unfold aBinP at *
  cases hn : isNilP c.A a with
  | none => rw [hn] at h; exact False.elim h
  | some b =>
    rw [hn] at h
    have hv := isNilP_val hx hn
    have hg : (eqGuard op t x y v (.pointer none)).run P c.w = .ok () c.w := by
      unfold eqGuard
      rcases hv with ⟨_, rfl⟩ | ⟨_, a', rfl⟩ <;> cases op <;> simp
    have heq : tptr D t = true → (Op.equal t v (.pointer none)).run P c.w = .ok b c.w := by
      intro hp
      obtain ⟨e, hu⟩ := of_tptr hD hp
      unfold Op.equal Op.maxDepth
      rw [show (10000 : Nat) = 9999 + 1 from rfl]
      unfold Op.equalIn
      rcases hv with ⟨rfl, rfl⟩ | ⟨rfl, a', rfl⟩
      · simp [run_underlying' hu]
      · simp [run_underlying' hu]
    cases op <;> try exact False.elim h
    · simp only at h ⊢
      obtain ⟨hgb, _⟩ := gate_of h
      rw [gate_true hgb]
      refine ⟨.bool b, ?_, rel_bool.2 rfl⟩
      rcases hv with ⟨rfl, rfl⟩ | ⟨rfl, a', rfl⟩ <;> simp [hg, binOp, heq hgb]
    · simp only at h ⊢
      obtain ⟨hgb, _⟩ := gate_of h
      rw [gate_true hgb]
      refine ⟨.bool (!b), ?_, rel_bool.2 rfl⟩
      rcases hv with ⟨rfl, rfl⟩ | ⟨rfl, a', rfl⟩ <;> simp [hg, binOp, heq hgb]
end Go.Ab
