/-
  Cells of values; structs built.
-/
import Derived.Test.YtcfalmdfohphoaaDoorM1
namespace Go.Ab
open Go
def cavN (f : Nat → List AV) : Nat → List AV
  | 0 => []
  | n + 1 => cavN f n ++ f n
def Ty.cav : (t : Ty) → t.den → List AV
  | .one a, x => a.cav x
  | .pair a b, x => a.cav x.1 ++ b.cav x.2
  | .arr n e, x => cavN (fun i => e.cav (List.getD x i e.dft)) n
  | t, x => [.fz t x]
def acells : AV → List AV
  | .agg vs => vs
  | .fz t x => t.cav x
  | v => [v]
/-- fits one cell -/
def AV.one : AV → Bool
  | .fz t _ => !t.isAgg
  | .agg _ | .tup _ | .opt _ _ | .unk => false
  | .ref _ _ _ | .ptr _ _ | .elt _ _ _ | .nilSl | .fptr _ _ | .glob _ | .fn _ _ | .ifc _ _ => true
/-- a token that is dead tells nothing -/
def AV.sure (A : List AO) : AV → Bool
  | .ref tok _ _ => match A[tok]? with | some (.row _ _) => true | _ => false
  | .ptr tok _ => match A[tok]? with | some (.box _) => true | some (.mapo _ _) => true | _ => false
  | .elt tok _ _ => match A[tok]? with | some (.row _ _) => true | _ => false
  | _ => true
theorem cav_sound {c : Cx} : ∀ (t : Ty) (x : t.den) (cs : List Value), FzC c.I c.w t x cs → RelL c (t.cav x) cs := by
  have base : ∀ (t : Ty) (x : t.den) (cs : List Value), t.isAgg = false → FzC c.I c.w t x cs → RelL c [.fz t x] cs := by
    intro t x cs ha h
    have hl := h.len
    rw [isAgg_size ha] at hl
    match cs, hl with
    | [v], _ =>
      unfold RelL
      refine ⟨v, [], rfl, ?_, by unfold RelL; rfl⟩
      have := rel_fz_mk h
      unfold valOf at this; rw [if_neg (by simp [ha])] at this
      exact this
  intro t
  induction t with
  | one a ih => intro x cs h; exact ih x cs h
  | pair a b iha ihb =>
    intro x cs h
    obtain ⟨l, r, rfl, h1, h2⟩ := h
    exact RelL.append _ _ _ _ (iha _ _ h1) (ihb _ _ h2)
  | arr n e ih =>
    intro x cs h
    obtain ⟨hl, css, hn, rfl, hall⟩ := h
    show RelL c (cavN (fun i => e.cav (List.getD x i e.dft)) n) css.flatten
    have key : ∀ m, m ≤ n → RelL c (cavN (fun i => e.cav (List.getD x i e.dft)) m) (css.take m).flatten := by
      intro m
      induction m with
      | zero => intro _; unfold cavN RelL; rfl
      | succ m ihm =>
        intro hm
        have h0 := ihm (by omega)
        have hm' : m < List.length x := by omega
        have h1 := ih _ _ (hall m hm')
        rw [List.take_succ_eq_append_getElem (by omega), List.flatten_append]
        unfold cavN
        refine RelL.append _ _ _ _ h0 ?_
        have e1 : List.getD x m e.dft = x[m] := getD_of_lt hm'
        have e2 : css.getD m [] = css[m] := getD_of_lt (by omega)
        rw [e1]
        rw [e2] at h1
        simpa using h1
    have := key n (Nat.le_refl _)
    rw [← hn, List.take_length] at this
    rw [hn] at this; exact this
  | int k | bool | str | flt k | raw | list e => intro x cs h; exact base _ x cs rfl h
theorem one_ocell {c : Cx} {a : AV} {v : Value} (ho : a.one = true) (hs : a.sure c.A = true) (h : Rel c a v) : ocell v = true := by
  cases a <;> try (cases ho; done)
  case fz t x =>
    have ha : t.isAgg = false := by simpa [AV.one] using ho
    unfold Rel at h
    obtain ⟨cs, h1, rfl⟩ := h
    have hl := h1.len
    rw [isAgg_size ha] at hl
    have h2 := h1.cells1
    match cs, hl with
    | [v], _ => unfold valOf; rw [if_neg (by simp [ha])]; exact h2 v (by simp)
  case fptr t x => unfold Rel at h; obtain ⟨b, o, cs, rfl, _⟩ := h; rfl
  case ref tok off len =>
    unfold Rel at h; unfold AV.sure at hs; simp only at hs
    cases ht : c.A[tok]? with
    | none => rw [ht] at h; exact False.elim h
    | some o =>
      rw [ht] at h hs
      cases o <;> try (cases hs; done)
      rcases h with ⟨b, cap, cs, et, a, _, rfl, _⟩ | ⟨_, _, _, p, rfl⟩ <;> rfl
  case nilSl => unfold Rel at h; obtain ⟨p, rfl⟩ := h; rfl
  case ptr tok off =>
    unfold Rel at h; unfold AV.sure at hs; simp only at hs
    cases ht : c.A[tok]? with
    | none => rw [ht] at h; exact False.elim h
    | some o =>
      rw [ht] at h hs
      cases o <;> try (cases hs; done)
      · obtain ⟨b, _, rfl⟩ := h; rfl
      · rename_i i vs
        obtain ⟨b, _, rfl⟩ := h; cases i.isIter <;> rfl
  case elt tok i off =>
    unfold Rel at h; unfold AV.sure at hs; simp only at hs
    cases ht : c.A[tok]? with
    | none => rw [ht] at h; exact False.elim h
    | some o =>
      rw [ht] at h hs
      cases o <;> try (cases hs; done)
      obtain ⟨b, _, rfl⟩ := h; rfl
  case glob g => unfold Rel at h; subst h; rfl
  case fn f l => unfold Rel at h; obtain ⟨vs, rfl, _⟩ := h; rfl
  case ifc t a => unfold Rel at h; obtain ⟨u, rfl, _⟩ := h; rfl
/-- all cells are known -/
def goodC (A : List AO) (l : List AV) : Bool := l.all fun a => a.one && a.sure A
theorem goodC_ocell {c : Cx} : ∀ (l : List AV) (vs : List Value), goodC c.A l = true → RelL c l vs → ∀ v ∈ vs, ocell v = true
  | [], vs, _, h => by unfold RelL at h; subst h; intro v hv; cases hv
  | a :: l, vs, hg, h => by
    unfold RelL at h
    obtain ⟨v, r, rfl, h1, h2⟩ := h
    unfold goodC at hg
    simp only [List.all_cons, Bool.and_eq_true] at hg
    intro u hu
    rcases List.mem_cons.1 hu with rfl | hu
    · exact one_ocell hg.1.1 hg.1.2 h1
    · exact goodC_ocell l r hg.2 h2 u hu
theorem ocell_cells {v : Value} (h : ocell v = true) : v.cells = #[v] := by cases v <;> first | rfl | cases h
theorem cells_sound {c : Cx} {a : AV} {v : Value} (hg : goodC c.A (acells a) = true) (h : Rel c a v) : RelL c (acells a) v.cells.toList := by
  have single : a.one = true → a.sure c.A = true → RelL c [a] v.cells.toList := by
    intro h1 h2
    rw [ocell_cells (one_ocell h1 h2 h)]
    unfold RelL
    exact ⟨v, [], rfl, h, by unfold RelL; rfl⟩
  cases a
  case agg vs => unfold Rel at h; obtain ⟨us, rfl, hr⟩ := h; simpa [Value.cells, acells] using hr
  case fz t x =>
    unfold Rel at h
    obtain ⟨cs, h1, rfl⟩ := h
    rw [valOf_cells h1]
    exact cav_sound t x cs h1
  all_goals (
    unfold goodC acells at hg
    simp only [List.all_cons, List.all_nil, Bool.and_true, Bool.and_eq_true] at hg
    exact single hg.1 hg.2)
/-! ### built -/
def setRange {α : Type} (l : List α) (off : Nat) (vs : List α) : List α := l.take off ++ vs ++ l.drop (off + vs.length)
def fits (A : List AO) (l : List AV) (sz off n : Nat) : Bool := goodC A l && (Nat.beq l.length sz && Nat.ble (off + sz) n)
theorem fits_of {A : List AO} {l : List AV} {sz off n : Nat} (h : fits A l sz off n = true) : goodC A l = true ∧ l.length = sz ∧ off + sz ≤ n := by
  unfold fits at h
  simp only [Bool.and_eq_true] at h
  exact ⟨h.1, beq_eq h.2.1, Nat.le_of_ble_eq_true h.2.2⟩
def aFill (pl : Nat → Option (Nat × Nat)) (A : List AO) : List AV → List (Nat × AV) → Option (List AV)
  | cells, [] => some cells
  | cells, (i, v) :: rest => match pl i with
    | none => none
    | some (off, sz) => match fits A (acells v) sz off cells.length with
      | true => aFill pl A (setRange cells off (acells v)) rest
      | false => none
def Z.av : Z → AV
  | .int k => .fz (.int k) (0 : Int)
  | .bool => .fz .bool false
  | .str => .fz .str ByteArray.empty
  | .flt k => .fz (.flt k) (0 : Nat)
  | .nilSl => .nilSl
  | .nilI => .fz .raw .nilIface
  | .nilF => .fz .raw .nilFunc
  | .nilP => .fz .raw (.pointer none)
  | .nilM => .fz .raw (.map none)
theorem Z.rel (c : Cx) (z : Z) : Rel c z.av z.val := by
  cases z
  · exact rel_int.2 rfl
  · exact rel_bool.2 rfl
  · exact rel_str.2 rfl
  · exact rel_flt.2 rfl
  · unfold Z.av Rel; exact ⟨none, rfl⟩
  · exact (rel_raw rfl).2 rfl
  · exact (rel_raw rfl).2 rfl
  · exact (rel_raw rfl).2 rfl
  · exact (rel_raw rfl).2 rfl
theorem relL_zs (c : Cx) : ∀ zs : List Z, RelL c (zs.map Z.av) (zs.map Z.val)
  | [] => by simp only [List.map_nil]; unfold RelL; rfl
  | z :: zs => by
    simp only [List.map_cons]; unfold RelL
    exact ⟨_, _, rfl, z.rel c, relL_zs c zs⟩
def tzero (D : Tab) (t : TypeId) : Option (List AV) := match tlook D t with
  | some i => match i.z with
    | [] => none
    | z :: zs => some (z.av :: zs.map Z.av)
  | none => none
theorem tzero_sound {P : Program} {D : Tab} (hD : TabOk P D) {t : TypeId} {z : List AV} (h : tzero D t = some z) (c : Cx) : ∃ zv, (zeroValue t).run P c.w = .ok zv c.w ∧ RelL c z zv.cells.toList := by
  unfold tzero at h
  cases hi : tlook D t with
  | none => rw [hi] at h; cases h
  | some e =>
    rw [hi] at h
    simp only at h
    cases hz : e.z with
    | nil => rw [hz] at h; cases h
    | cons z0 zs =>
      rw [hz] at h
      cases h
      obtain ⟨i, d, h1, _, _, _, h5, _⟩ := tlook_info hD hi
      cases hv : i.zero with
      | none => rw [hv, hz] at h5; cases h5
      | some v =>
        rw [hv, hz] at h5
        refine ⟨v, by simp [zeroValue, typeInfo, h1, hv], ?_⟩
        rw [zsAre_map h5]
        exact relL_zs c (z0 :: zs)
theorem setRange_rel {c : Cx} {l : List AV} {vs : List Value} {off : Nat} {a : List AV} {u : List Value} (h : RelL c l vs) (h' : RelL c a u) : RelL c (setRange l off a) (setRange vs off u) := by
  have hl := h'.length
  unfold setRange
  rw [hl]
  refine RelL.append _ _ _ _ (RelL.append _ _ _ _ ?_ h') ?_
  · refine RelL.of_get _ _ (by simp [h.length]) (fun i a v h1 h2 => ?_)
    rw [List.getElem?_take] at h1 h2
    split at h1
    · rename_i hi; rw [if_pos hi] at h2
      obtain ⟨v', e1, e2⟩ := h.get _ _ _ _ h1
      rw [e1] at h2; cases h2; exact e2
    · cases h1
  · refine RelL.of_get _ _ (by simp [h.length]) (fun i a v h1 h2 => ?_)
    rw [List.getElem?_drop] at h1 h2
    obtain ⟨v', e1, e2⟩ := h.get _ _ _ _ h1
    rw [e1] at h2; cases h2; exact e2
theorem fold_set (u : List Value) : ∀ (off k : Nat) (cs : Array Value), off + k + u.length ≤ cs.size →
    ((u.zipIdx k).foldl (fun cs (x : Value × Nat) => cs.setIfInBounds (off + x.2) x.1) cs).toList = setRange cs.toList (off + k) u := by
  induction u with
  | nil => intro off k cs h; simp [setRange]
  | cons v u ih =>
    intro off k cs h
    simp only [List.zipIdx_cons, List.foldl_cons]
    simp at h
    rw [ih off (k + 1) _ (by simp; omega)]
    unfold setRange
    simp only [Array.toList_setIfInBounds, List.length_cons]
    have e1 : (cs.toList.set (off + k) v).take (off + (k + 1)) = cs.toList.take (off + k) ++ [v] := by
      rw [show off + (k + 1) = off + k + 1 by omega, List.take_succ_eq_append_getElem (by simp; omega), List.take_set_of_le (Nat.le_refl _)]
      simp
    have e2 : (cs.toList.set (off + k) v).drop (off + (k + 1) + u.length) = cs.toList.drop (off + k + (u.length + 1)) := by
      rw [List.drop_set_of_lt (by omega)]; congr 1; omega
    rw [e1, e2]; simp
theorem aFill_sound {c : Cx} {pl : Nat → Option (Nat × Nat)} : ∀ (ps : List (Nat × AV)) (vs : List (Nat × Value)) (cells : List AV) (cs : Array Value) (r : List AV), ps.length = vs.length →
    (∀ (i : Nat) a v, ps[i]? = some a → vs[i]? = some v → a.1 = v.1 ∧ Rel c a.2 v.2) → RelL c cells cs.toList → aFill pl c.A cells ps = some r → ∃ cs', Instr.fill pl cs vs = some cs' ∧ RelL c r cs'.toList
  | [], vs, cells, cs, r, hl, _, hr, h => by
    have : vs = [] := List.eq_nil_of_length_eq_zero (by simpa using hl.symm)
    subst this
    unfold aFill at h; cases h
    exact ⟨cs, rfl, hr⟩
  | (i, a) :: ps, [], _, _, _, hl, _, _, _ => by simp at hl
  | (i, a) :: ps, (j, v) :: vs, cells, cs, r, hl, hall, hr, h => by
    obtain ⟨e1, e2⟩ := hall 0 _ _ rfl rfl
    simp at e1 e2
    subst e1
    unfold aFill at h
    cases hp : pl i with
    | none => rw [hp] at h; cases h
    | some os =>
      obtain ⟨off, sz⟩ := os
      rw [hp] at h
      simp only at h
      split at h
      · rename_i hc
        obtain ⟨g1, g2, g3⟩ := fits_of hc
        have hcs := cells_sound g1 e2
        have hlen := hcs.length
        have hcl := hr.length
        have hsz : v.cells.size = sz := by rw [← g2, ← hlen]; simp
        have hcz : cs.size = cells.length := by rw [← hcl]; simp
        obtain ⟨cs', k1, k2⟩ := aFill_sound ps vs _ ((v.cells.zipIdx.foldl (fun cs (x : Value × Nat) => cs.setIfInBounds (off + x.2) x.1) cs)) r (by simpa using hl)
          (fun i a v h1 h2 => hall (i + 1) a v (by simpa using h1) (by simpa using h2)) (by
            have := fold_set v.cells.toList off 0 cs (by simp; omega)
            rw [← Array.foldl_toList]
            simp only [Array.toList_zipIdx]
            rw [Nat.add_zero] at this
            rw [this]
            exact setRange_rel hr hcs) h
        refine ⟨cs', ?_, k2⟩
        unfold Instr.fill
        simp only [hp]
        rw [if_neg (by simp; omega)]
        exact k1
      · cases h
def tplaces (D : Tab) (t : TypeId) : Option (List (Nat × Nat)) := match tlook D t with
  | some i => match i.d with
    | .struct fs => some (fs.map fun f => (f.1, tsz D f.2))
    | _ => none
  | none => none
def allPos : List (Nat × Nat) → Bool
  | [] => true
  | x :: l => Nat.blt 0 x.2 && allPos l
def aBuildS (D : Tab) (A : List AO) (t : TypeId) (ps : List (Nat × AV)) : AR :=
  match tplaces D t, tzero D t with
  | some pl, some z => match aFill (fun i => pl[i]?) A z ps with
    | some r => gate (allPos pl) (none, .agg r)
    | none => no
  | _, _ => no
theorem allPos_of : ∀ {l : List (Nat × Nat)}, allPos l = true → ∀ x ∈ l, 0 < x.2
  | [], _, x, hx => by cases hx
  | y :: l, h, x, hx => by
    unfold allPos at h
    simp only [Bool.and_eq_true] at h
    rcases List.mem_cons.1 hx with rfl | hx
    · exact blt_of h.1
    · exact allPos_of h.2 x hx
theorem of_tplaces {P : Program} {D : Tab} (hD : TabOk P D) {t : TypeId} {pl : List (Nat × Nat)} (h : tplaces D t = some pl) : ∃ fs : Array Field, P.underlying t = some (.struct fs) ∧ pl = fs.toList.map fun f => (f.offset, tsz D f.type) := by
  unfold tplaces at h
  cases hi : tlook D t with
  | none => rw [hi] at h; cases h
  | some e =>
    rw [hi] at h
    obtain ⟨i, d, _, h2, _, h4, _⟩ := tlook_info hD hi
    simp only at h
    cases hd : e.d <;> rw [hd] at h h4 <;> try (cases h; done)
    cases d <;> try (cases h4; done)
    rename_i l fs
    simp only [tiIs, decide_eq_true_eq] at h4
    cases h
    refine ⟨fs, h2, ?_⟩
    rw [← h4]; simp
theorem run_mapM {α β : Type} {P : Program} {w : World} {f : α → Sem β} {g : α → β} : ∀ (l : List α), (∀ x ∈ l, (f x).run P w = .ok (g x) w) → (l.mapM f).run P w = .ok (l.map g) w
  | [], _ => by simp
  | a :: l, h => by
    have ih := run_mapM (f := f) (g := g) l (fun x hx => h x (List.mem_cons_of_mem _ hx))
    simp [List.mapM_cons, h a (List.mem_cons_self ..), ih]
theorem aBuildS_sound {P : Program} {D : Tab} (hD : TabOk P D) {c : Cx} {t : TypeId} {ps : List (Nat × AV)} {vs : Array (Nat × Value)} (hl : ps.length = vs.toList.length)
    (hall : ∀ (i : Nat) a v, ps[i]? = some a → vs.toList[i]? = some v → a.1 = v.1 ∧ Rel c a.2 v.2) (h : Hold (aBuildS D c.A t ps).1) :
    ∃ r, (Instr.build t vs).run P c.w = .ok r c.w ∧ Rel c (aBuildS D c.A t ps).2 r := by
  unfold aBuildS at *
  cases hp : tplaces D t with
  | none => rw [hp] at h; exact False.elim h
  | some pl =>
    cases hz : tzero D t with
    | none => rw [hp, hz] at h; exact False.elim h
    | some z =>
      rw [hp, hz] at h
      simp only at h ⊢
      cases hf : aFill (fun i => pl[i]?) c.A z ps with
      | none => rw [hf] at h; exact False.elim h
      | some r =>
        rw [hf] at h
        simp only at h ⊢
        have hb := (gate_of h).1
        rw [gate_true hb]
        obtain ⟨fs, hu, rfl⟩ := of_tplaces hD hp
        obtain ⟨zv, hzr, hzrel⟩ := tzero_sound hD hz c
        obtain ⟨cs', k1, k2⟩ := aFill_sound ps vs.toList _ zv.cells r hl hall hzrel hf
        refine ⟨.agg cs', ?_, by unfold Rel; exact ⟨cs'.toList, by simp, k2⟩⟩
        have hm : (fs.toList.mapM fun f => do pure (f.offset, ← sizeOf f.type) : Sem (List (Nat × Nat))).run P c.w = .ok (fs.toList.map fun f => (f.offset, tsz D f.type)) c.w := by
          refine run_mapM _ (fun f hf => ?_)
          have := allPos_of hb (f.offset, tsz D f.type) (List.mem_map.2 ⟨f, hf, rfl⟩)
          simp [run_sizeOf hD rfl this]
        have hm' : (fs.mapM fun f => do pure (f.offset, ← sizeOf f.type) : Sem (Array (Nat × Nat))).run P c.w = .ok (fs.toList.map fun f => (f.offset, tsz D f.type)).toArray c.w := by
          rw [Array.mapM_eq_mapM_toList, Sem.run_map, hm]; rfl
        unfold Instr.build
        simp only [Sem.run_bind, hzr, Result.andThen_ok, run_underlying' hu, hm']
        have hpl : (fun (i : Nat) => (List.map (fun f => (f.offset, tsz D f.type)) fs.toList).toArray[i]?) = (fun (i : Nat) => (List.map (fun f => (f.offset, tsz D f.type)) fs.toList)[i]?) := by
          funext i; simp
        rw [hpl, k1]
        rfl
def seqB (A : List AO) (s : Nat) : Nat → List (Nat × AV) → Bool
  | _, [] => true
  | k, (i, v) :: r => (Nat.beq i k && goodC A (acells v)) && (Nat.beq (acells v).length s && seqB A s (k + 1) r)
def catV : List (Nat × AV) → List AV
  | [] => []
  | (_, v) :: r => acells v ++ catV r
theorem aFill_seq {A : List AO} {s : Nat} : ∀ (ps : List (Nat × AV)) (k : Nat) (cells : List AV), seqB A s k ps = true → cells.length = (k + ps.length) * s → aFill (fun i => some (i * s, s)) A cells ps = some (cells.take (k * s) ++ catV ps)
  | [], k, cells, _, hl => by
    unfold aFill catV
    rw [List.append_nil, List.take_of_length_le (by simp at hl; omega)]
  | (i, v) :: r, k, cells, h, hl => by
    unfold seqB at h
    simp only [Bool.and_eq_true] at h
    obtain ⟨⟨h1, h2⟩, h3, h4⟩ := h
    have h1 := beq_eq h1
    subst h1
    have h3 := beq_eq h3
    have hle : i * s + s ≤ cells.length := by
      rw [hl, List.length_cons, ← Nat.succ_mul]; exact Nat.mul_le_mul_right _ (by omega)
    have hf : fits A (acells v) s (i * s) cells.length = true := by
      unfold fits
      rw [h2, h3]
      simp [hle]
    have hlen : (setRange cells (i * s) (acells v)).length = cells.length := by
      unfold setRange; simp [h3]; omega
    unfold aFill catV
    simp only [hf]
    rw [aFill_seq r (i + 1) _ h4 (by rw [hlen, hl, List.length_cons]; congr 1; omega)]
    congr 1
    have htk : (setRange cells (i * s) (acells v)).take ((i + 1) * s) = cells.take (i * s) ++ acells v := by
      unfold setRange
      rw [Nat.succ_mul, List.take_left' (by simp [h3]; omega)]
    rw [htk, List.append_assoc]
def aBuildA (D : Tab) (A : List AO) (t : TypeId) (el : Nat) (ps : List (Nat × AV)) : AR :=
  match tzero D t with
  | some z => match seqB A (tsz D el) 0 ps && Nat.beq z.length (ps.length * tsz D el) with
    | true => gate (Nat.blt 0 (tsz D el)) (none, .agg (catV ps))
    | false => match aFill (fun i => some (i * tsz D el, tsz D el)) A z ps with
      | some r => gate (Nat.blt 0 (tsz D el)) (none, .agg r)
      | none => no
  | _ => no
def aBuild (D : Tab) (A : List AO) (t : TypeId) (ps : List (Nat × AV)) : AR := match tarr D t with
  | some (_, el) => aBuildA D A t el ps
  | none => aBuildS D A t ps
theorem aBuild_sound {P : Program} {D : Tab} (hD : TabOk P D) {c : Cx} {t : TypeId} {ps : List (Nat × AV)} {vs : Array (Nat × Value)} (hl : ps.length = vs.toList.length)
    (hall : ∀ (i : Nat) a v, ps[i]? = some a → vs.toList[i]? = some v → a.1 = v.1 ∧ Rel c a.2 v.2) (h : Hold (aBuild D c.A t ps).1) :
    ∃ r, (Instr.build t vs).run P c.w = .ok r c.w ∧ Rel c (aBuild D c.A t ps).2 r := by
  unfold aBuild at *
  cases ht : tarr D t with
  | none => rw [ht] at h; exact aBuildS_sound hD hl hall h
  | some ne =>
    obtain ⟨n, el⟩ := ne
    rw [ht] at h
    simp only at h ⊢
    unfold aBuildA at *
    cases hz : tzero D t with
    | none => rw [hz] at h; exact False.elim h
    | some z =>
      rw [hz] at h
      simp only at h ⊢
      have key : ∀ r, aFill (fun i => some (i * tsz D el, tsz D el)) c.A z ps = some r → Nat.blt 0 (tsz D el) = true → ∃ r', (Instr.build t vs).run P c.w = .ok r' c.w ∧ Rel c (.agg r) r' := by
        intro r hf hb
        have hu := of_tarr hD ht
        obtain ⟨zv, hzr, hzrel⟩ := tzero_sound hD hz c
        obtain ⟨cs', k1, k2⟩ := aFill_sound ps vs.toList _ zv.cells r hl hall hzrel hf
        refine ⟨.agg cs', ?_, by unfold Rel; exact ⟨cs'.toList, by simp, k2⟩⟩
        unfold Instr.build
        simp only [Sem.run_bind, hzr, Result.andThen_ok, run_underlying' hu, run_sizeOf hD rfl (blt_of hb)]
        rw [k1]
        rfl
      cases hs : (seqB c.A (tsz D el) 0 ps && Nat.beq z.length (ps.length * tsz D el)) with
      | true =>
        rw [hs] at h
        simp only at h ⊢
        have hb := (gate_of h).1
        rw [gate_true hb]
        simp only [Bool.and_eq_true] at hs
        have hf := aFill_seq ps 0 z hs.1 (by rw [Nat.zero_add]; exact beq_eq hs.2)
        rw [Nat.zero_mul, List.take_zero, List.nil_append] at hf
        exact key _ hf hb
      | false =>
        rw [hs] at h
        simp only at h ⊢
        cases hf : aFill (fun i => some (i * tsz D el, tsz D el)) c.A z ps with
        | none => rw [hf] at h; exact False.elim h
        | some r =>
          rw [hf] at h
          simp only at h ⊢
          have hb := (gate_of h).1
          rw [gate_true hb]
          exact key r hf hb
/-! ### pointers and nil -/
def tptr (D : Tab) (t : TypeId) : Bool := match tlook D t with
  | some i => match i.d with
    | .ptr _ => true
    | _ => false
  | none => false
theorem of_tptr {P : Program} {D : Tab} (hD : TabOk P D) {t : TypeId} (h : tptr D t = true) : ∃ e, P.underlying t = some (.pointer e) := by
  unfold tptr at h
  cases hi : tlook D t with
  | none => rw [hi] at h; cases h
  | some x =>
    rw [hi] at h
    obtain ⟨i, d, _, h2, _, h4, _⟩ := tlook_info hD hi
    simp only at h
    cases hd : x.d <;> rw [hd] at h h4 <;> try (cases h; done)
    cases d <;> try (cases h4; done)
    exact ⟨_, h2⟩
def isNilP (A : List AO) : AV → Option Bool
  | .fz .raw (.pointer none) => some true
  | .fptr _ _ => some false
  | .ptr tok _ => match A[tok]? with
    | some (.box _) => some false
    | _ => none
  | .elt tok _ _ => match A[tok]? with
    | some (.row _ _) => some false
    | _ => none
  | _ => none
def isNilPC : Operand → Bool
  | .const (.pointer none) => true
  | _ => false
def aBinP (D : Tab) (A : List AO) (op : BinOp) (t : TypeId) (x : AV) : AR :=
  match isNilP A x, op with
  | some b, .eql => gate (tptr D t) (none, .fz .bool b)
  | some b, .neq => gate (tptr D t) (none, .fz .bool (!b))
  | _, _ => no
theorem isNilP_val {c : Cx} {x : AV} {v : Value} {b : Bool} (hx : Rel c x v) (h : isNilP c.A x = some b) : (b = true ∧ v = .pointer none) ∨ (b = false ∧ ∃ a, v = .pointer (some a)) := by
  unfold isNilP at h
  split at h
  · cases h; exact .inl ⟨rfl, (rel_raw_of hx).1⟩
  · cases h; unfold Rel at hx; obtain ⟨b, off, cs, h1, _⟩ := hx; exact .inr ⟨rfl, _, h1⟩
  · unfold Rel at hx
    split at h
    · rename_i hA; cases h; rw [hA] at hx; obtain ⟨b, _, h2⟩ := hx; exact .inr ⟨rfl, _, h2⟩
    · cases h
  · unfold Rel at hx
    split at h
    · rename_i hA; cases h; rw [hA] at hx; obtain ⟨b, _, h2⟩ := hx; exact .inr ⟨rfl, _, h2⟩
    · cases h
  · cases h
theorem aBinP_sound {P : Program} {D : Tab} (hD : TabOk P D) {c : Cx} {op : BinOp} {t : TypeId} {x y : Operand} {a : AV} {v : Value} (hx : Rel c a v) (h : Hold (aBinP D c.A op t a).1) :
    ∃ r, (do eqGuard op t x y v (.pointer none); binOp op t v (.pointer none) : Sem Value).run P c.w = .ok r c.w ∧ Rel c (aBinP D c.A op t a).2 r := by
  unfold aBinP at *
  cases hn : isNilP c.A a with
  | none => rw [hn] at h; exact False.elim h
  | some b =>
    rw [hn] at h
    have hv := isNilP_val hx hn
    have hg : (eqGuard op t x y v (.pointer none)).run P c.w = .ok () c.w := by
      unfold eqGuard
      rcases hv with ⟨_, rfl⟩ | ⟨_, a', rfl⟩ <;> cases op <;> simp
    have heq : tptr D t = true → (Op.equal t v (.pointer none)).run P c.w = .ok b c.w := by
      intro hp
      obtain ⟨e, hu⟩ := of_tptr hD hp
      unfold Op.equal Op.maxDepth
      rw [show (10000 : Nat) = 9999 + 1 from rfl]
      unfold Op.equalIn
      rcases hv with ⟨rfl, rfl⟩ | ⟨rfl, a', rfl⟩
      · simp [run_underlying' hu]
      · simp [run_underlying' hu]
    cases op <;> try exact False.elim h
    · simp only at h ⊢
      obtain ⟨hgb, _⟩ := gate_of h
      rw [gate_true hgb]
      refine ⟨.bool b, ?_, rel_bool.2 rfl⟩
      rcases hv with ⟨rfl, rfl⟩ | ⟨rfl, a', rfl⟩ <;> simp [hg, binOp, heq hgb]
    · simp only at h ⊢
      obtain ⟨hgb, _⟩ := gate_of h
      rw [gate_true hgb]
      refine ⟨.bool (!b), ?_, rel_bool.2 rfl⟩
      rcases hv with ⟨rfl, rfl⟩ | ⟨rfl, a', rfl⟩ <;> simp [hg, binOp, heq hgb]
/-! ### slices and functions with nil -/
def isNilZC : Operand → Bool
  | .const (.slice none 0 0) => true
  | .const .nilFunc => true
  | _ => false
def telemB (D : Tab) (t : TypeId) : Bool := match telem D t with
  | some _ => true
  | none => false
def tfunc (D : Tab) (t : TypeId) : Bool := match tlook D t with
  | some i => match i.d with
    | .fn => true
    | _ => false
  | none => false
theorem of_tfunc {P : Program} {D : Tab} (hD : TabOk P D) {t : TypeId} (h : tfunc D t = true) : ∃ a b c, P.underlying t = some (.func a b c) := by
  unfold tfunc at h
  split at h
  · rename_i i hi
    split at h
    · rename_i hd
      obtain ⟨_, d, _, h2, _, h4, _⟩ := tlook_info hD hi
      rw [hd] at h4
      cases d <;> first | exact ⟨_, _, _, h2⟩ | cases h4
    · cases h
  · cases h
def aNilZ (D : Tab) (A : List AO) (t : TypeId) : AV → Option (Option Prop × Bool)
  | .fz (.list _) xs => match telemB D t with
    | true => some (some (0 < List.length xs), false)
    | false => none
  | .ref tok _ len => match A[tok]? with
    | some (.row _ _) => match telemB D t with
      | true => some (some (0 < len), false)
      | false => none
    | _ => none
  | .fn _ _ => match tfunc D t with
    | true => some (none, false)
    | false => none
  | .fz .raw .nilFunc => match tfunc D t with
    | true => some (none, true)
    | false => none
  | _ => none
def aBinZ' (D : Tab) (A : List AO) (op : BinOp) (t : TypeId) (x : AV) : AR :=
  match aNilZ D A t x, op with
  | some (C, b), .eql => (C, .fz .bool b)
  | some (C, b), .neq => (C, .fz .bool (!b))
  | _, _ => no
def yOkZ (D : Tab) (t : TypeId) : Operand → Bool
  | .const (.slice none 0 0) => telemB D t
  | .const .nilFunc => tfunc D t
  | _ => false
def aBinZ (D : Tab) (A : List AO) (op : BinOp) (t : TypeId) (x : AV) (y : Operand) : AR := match yOkZ D t y with
  | true => aBinZ' D A op t x
  | false => no
theorem aNilZ_val {P : Program} {D : Tab} (hD : TabOk P D) {c : Cx} {t : TypeId} {x : AV} {v : Value} {C : Option Prop} {b : Bool} (hx : Rel c x v) (h : aNilZ D c.A t x = some (C, b)) (hC : Hold C) :
    ((∃ e, P.underlying t = some (.slice e)) ∧ b = false ∧ ∃ a n m, v = .slice (some a) n m) ∨ ((∃ a b c, P.underlying t = some (.func a b c)) ∧ ((b = false ∧ ∃ f r s, v = .func f r s) ∨ (b = true ∧ v = .nilFunc))) := by
  have sl : telemB D t = true → ∃ e, P.underlying t = some (.slice e) := fun h => by
    unfold telemB at h
    split at h
    · rename_i e he; exact ⟨e, of_telem hD he⟩
    · cases h
  unfold aNilZ at h
  split at h
  · rename_i e xs
    split at h
    · rename_i ht
      cases h
      have hC : 0 < List.length xs := hC
      obtain ⟨p, cap, rfl, hf⟩ := rel_list hx
      unfold FzC at hf
      obtain ⟨p', cap', hv, _, hall⟩ := hf
      simp at hv
      obtain ⟨b, off, cs, hp, _⟩ := hall 0 hC
      exact .inl ⟨sl ht, rfl, _, _, _, by rw [hv.1, hp]⟩
    · cases h
  · rename_i tok off len
    split at h
    · rename_i e xs hA
      split at h
      · rename_i ht
        cases h
        have hC : 0 < len := hC
        unfold Rel at hx
        rw [hA] at hx
        rcases hx with ⟨b, cap, cs, et, a, _, rfl, _⟩ | ⟨_, _, h0, _⟩
        · exact .inl ⟨sl ht, rfl, _, _, _, rfl⟩
        · omega
      · cases h
    · cases h
  · split at h
    · rename_i ht
      cases h
      unfold Rel at hx
      obtain ⟨vs, rfl, _⟩ := hx
      exact .inr ⟨of_tfunc hD ht, .inl ⟨rfl, _, _, _, rfl⟩⟩
    · cases h
  · split at h
    · rename_i ht
      cases h
      exact .inr ⟨of_tfunc hD ht, .inr ⟨rfl, (rel_raw_of hx).1⟩⟩
    · cases h
  · cases h
theorem aBinZ_sound' {P : Program} {D : Tab} (hD : TabOk P D) {c : Cx} {op : BinOp} {t : TypeId} {x y : Operand} {a : AV} {v z : Value} (hz : z = .slice none 0 0 ∧ (∃ e, P.underlying t = some (.slice e)) ∨ z = .nilFunc ∧ ∃ a b c, P.underlying t = some (.func a b c)) (hx : Rel c a v) (h : Hold (aBinZ' D c.A op t a).1) :
    ∃ r, (do eqGuard op t x y v z; binOp op t v z : Sem Value).run P c.w = .ok r c.w ∧ Rel c (aBinZ' D c.A op t a).2 r := by
  unfold aBinZ' at *
  cases hn : aNilZ D c.A t a with
  | none => rw [hn] at h; exact False.elim h
  | some Cb =>
    obtain ⟨C, b⟩ := Cb
    rw [hn] at h
    have hC : Hold C := by cases op <;> first | exact h | exact False.elim h
    have hv := aNilZ_val hD hx hn hC
    have hg : (eqGuard op t x y v z).run P c.w = .ok () c.w := by
      unfold eqGuard
      rcases hv with ⟨_, _, a', n, m, rfl⟩ | ⟨_, ⟨_, f, r, s, rfl⟩ | ⟨_, rfl⟩⟩ <;> rcases hz with ⟨rfl, _⟩ | ⟨rfl, _⟩ <;> cases op <;> simp
    have heq : (Op.equal t v z).run P c.w = .ok b c.w := by
      unfold Op.equal Op.maxDepth
      rw [show (10000 : Nat) = 9999 + 1 from rfl]
      unfold Op.equalIn
      rcases hv with ⟨⟨e, hu⟩, rfl, a', n, m, rfl⟩ | ⟨⟨_, _, _, hu⟩, ⟨rfl, f, r, s, rfl⟩ | ⟨rfl, rfl⟩⟩ <;> rcases hz with ⟨rfl, e2, hu2⟩ | ⟨rfl, _, _, _, hu2⟩ <;> (try (rw [hu] at hu2; cases hu2; done)) <;> simp [run_underlying' hu]
    cases op <;> try exact False.elim h
    · refine ⟨.bool b, ?_, rel_bool.2 rfl⟩
      rcases hv with ⟨_, _, a', n, m, rfl⟩ | ⟨_, ⟨_, f, r, s, rfl⟩ | ⟨_, rfl⟩⟩ <;> rcases hz with ⟨rfl, _⟩ | ⟨rfl, _⟩ <;> simp [hg, binOp, heq]
    · refine ⟨.bool (!b), ?_, rel_bool.2 rfl⟩
      rcases hv with ⟨_, _, a', n, m, rfl⟩ | ⟨_, ⟨_, f, r, s, rfl⟩ | ⟨_, rfl⟩⟩ <;> rcases hz with ⟨rfl, _⟩ | ⟨rfl, _⟩ <;> simp [hg, binOp, heq]
theorem aBinZ_sound {P : Program} {D : Tab} (hD : TabOk P D) {c : Cx} {op : BinOp} {t : TypeId} {x : Operand} {y : Operand} {a : AV} {v : Value} (hx : Rel c a v) (h : Hold (aBinZ D c.A op t a y).1) :
    ∃ z, y = .const z ∧ ∃ r, (do eqGuard op t x y v z; binOp op t v z : Sem Value).run P c.w = .ok r c.w ∧ Rel c (aBinZ D c.A op t a y).2 r := by
  unfold aBinZ at *
  cases hy : yOkZ D t y with
  | false => rw [hy] at h; exact False.elim h
  | true =>
    rw [hy] at h
    unfold yOkZ at hy
    split at hy
    · refine ⟨_, rfl, aBinZ_sound' hD (.inl ⟨rfl, ?_⟩) hx h⟩
      unfold telemB at hy
      split at hy
      · rename_i e he; exact ⟨e, of_telem hD he⟩
      · cases hy
    · exact ⟨_, rfl, aBinZ_sound' hD (.inr ⟨rfl, of_tfunc hD hy⟩) hx h⟩
    · cases hy
end Go.Ab
/-
  All operations that only look.
-/
namespace Go.Ab
open Go
def aCall (D : Tab) (A : List AO) (T : List (Nat × AV)) (c : Call) : AR :=
  match c.callee, c.args.toList with
  | .builtin .len, [x] => match c.argTypes[0]? with
    | some t => aLen D A t (ev T x)
    | none => no
  | .builtin .min, x :: l => aFold false (ev T x) (l.map (ev T))
  | .builtin .max, x :: l => aFold true (ev T x) (l.map (ev T))
  | _, _ => no
def apure (D : Tab) (G : List (Nat × Value)) (A : List AO) (T : List (Nat × AV)) : Op → AR
  | .move x => yes (ev T x)
  | .assign x => yes (ev T x)
  | .pick c a b => aPick (ev T c) (ev T a) (ev T b)
  | .field t x f => aField D t f (ev T x)
  | .fieldAddr t x f => aFieldAddr D A t f (ev T x)
  | .indexAddr t x i => aIndexAddr D A t (ev T x) (ev T i)
  | .index t x i => aIndex D t (ev T x) (ev T i)
  | .load t x => aLoad D G A t (ev T x)
  | .binOp op t x y _ => (match isNilC y with | true => aBinNil D op t (ev T x) | false => (match isNilPC y with | true => aBinP D A op t (ev T x) | false => (match isNilZC y with | true => aBinZ D A op t (ev T x) y | false => aBin D op t (ev T x) (ev T y))))
  | .unOp op _ x => aUn op (ev T x)
  | .convert s d x => aConv D s d (ev T x)
  | .extract x i => aExtract i (ev T x)
  | .makeInterface t x => aMkI D t (ev T x)
  | .makeFunc (.func f) ⟨[]⟩ caps => yes (.fn f (caps.toList.map (ev T)))
  | .build t ps => aBuild D A t (ps.toList.map fun p => (p.1, ev T p.2))
  | .slice t x lo hi none => aSlice D A t (ev T x) (lo.map (ev T)) (hi.map (ev T))
  | .slice t x lo (some h) (some m) => aSlice3 D A t (ev T x) (lo.map (ev T)) (ev T h) (ev T m)
  | .nilCheck x => aNilCheck A (ev T x)
  | .typeAssert x _ u ok => aAssert D u ok (ev T x)
  | .call c => aCall D A T c
  | _ => no
theorem cellsI_sound {I : Nat → Prop} {w : World} : ∀ (t : Ty) (x : t.den) (vs : List Value) (l : List Int), FzC I w t x vs → cellsI t x = some l → vs = l.map (Value.int .i64)
  | .int k, x, vs, l, h, hl => by
    unfold FzC at h
    cases k <;> unfold cellsI at hl <;> cases hl
    rw [h]; rfl
  | .one a, x, vs, l, h, hl => by
    unfold FzC at h; unfold cellsI at hl
    exact cellsI_sound a x vs l h hl
  | .pair a b, x, vs, l, h, hl => by
    unfold FzC at h; unfold cellsI at hl
    obtain ⟨u, v, rfl, h1, h2⟩ := h
    split at hl
    · rename_i l1 l2 e1 e2
      cases hl
      rw [cellsI_sound a _ _ _ h1 e1, cellsI_sound b _ _ _ h2 e2, List.map_append]
    · cases hl
  | .bool, _, _, _, _, hl => by unfold cellsI at hl; cases hl
  | .str, _, _, _, _, hl => by unfold cellsI at hl; cases hl
  | .flt _, _, _, _, _, hl => by unfold cellsI at hl; cases hl
  | .raw, _, _, _, _, hl => by unfold cellsI at hl; cases hl
  | .list _, _, _, _, _, hl => by unfold cellsI at hl; cases hl
  | .arr _ _, _, _, _, _, hl => by unfold cellsI at hl; cases hl
theorem numsL_sound {c : Cx} : ∀ (l : List AV) (vs : List Value) (xs : List Int), RelL c l vs → numsL l = some xs → vs = xs.map (Value.int .i64)
  | [], vs, xs, h, hl => by unfold RelL at h; unfold numsL at hl; cases hl; exact h
  | a :: l, vs, xs, h, hl => by
    unfold numsL at hl
    split at hl
    · rename_i e; cases e
    · rename_i n l' e
      cases e
      unfold RelL at h
      obtain ⟨v, r, rfl, h1, h2⟩ := h
      split at hl
      · rename_i r' hr
        cases hl
        rw [numsL_sound _ _ _ h2 hr, rel_int.1 h1]; rfl
      · cases hl
    · cases hl
theorem numsI_sound {c : Cx} {x : AV} {v : Value} {xs : List Int} (h : Rel c x v) (hl : numsI x = some xs) : v = .agg (ivs xs) := by
  unfold numsI at hl
  split at hl
  · obtain ⟨cs, rfl, h1⟩ := rel_agg rfl h
    rw [cellsI_sound _ _ _ _ h1 hl]; rfl
  · obtain ⟨cs, rfl, h1⟩ := rel_agg rfl h
    rw [cellsI_sound _ _ _ _ h1 hl]; rfl
  · unfold Rel at h
    obtain ⟨vs, rfl, h1⟩ := h
    rw [numsL_sound _ _ _ h1 hl]; rfl
  · cases hl
theorem eqL_eq : ∀ (xs ys : List Int), eqL xs ys = (xs == ys)
  | [], [] => rfl
  | [], _ :: _ => rfl
  | [_], [] => rfl
  | _ :: _ :: _, [] => rfl
  | [a], [b] => by unfold eqL; simp
  | [a], b :: c :: l => by
    unfold eqL
    have : eqL [] (c :: l) = false := rfl
    simp [this]
  | a :: b :: l, [c] => by
    unfold eqL
    have : eqL (b :: l) [] = false := by cases l <;> rfl
    simp [this]
  | a :: b :: l, c :: d :: m => by
    unfold eqL
    rw [eqL_eq (b :: l) (d :: m)]
    simp
theorem cellsP_sound {I : Nat → Prop} {w : World} : ∀ (t : Ty) (x : t.den) (vs : List Value) (l : List Pv), FzC I w t x vs → cellsP t x = some l → vs = l.map Pv.val
  | .int k, n, vs, l, h, hl => by
    unfold FzC at h
    cases k <;> unfold cellsP at hl <;> cases hl
    rw [h]; rfl
  | .str, n, vs, l, h, hl => by
    unfold FzC at h
    unfold cellsP at hl
    cases hl
    rw [h]; rfl
  | .one a, x, vs, l, h, hl => by
    unfold FzC at h; unfold cellsP at hl
    exact cellsP_sound a x vs l h hl
  | .pair a b, x, vs, l, h, hl => by
    unfold FzC at h; unfold cellsP at hl
    obtain ⟨u, v, rfl, h1, h2⟩ := h
    split at hl
    · rename_i l1 l2 e1 e2
      cases hl
      rw [cellsP_sound a _ _ _ h1 e1, cellsP_sound b _ _ _ h2 e2, List.map_append]
    · cases hl
  | .bool, _, _, _, _, hl => by unfold cellsP at hl; cases hl
  | .flt _, _, _, _, _, hl => by unfold cellsP at hl; cases hl
  | .raw, _, _, _, _, hl => by unfold cellsP at hl; cases hl
  | .list _, _, _, _, _, hl => by unfold cellsP at hl; cases hl
  | .arr _ _, _, _, _, _, hl => by unfold cellsP at hl; cases hl
theorem pvsL_sound {c : Cx} : ∀ (l : List AV) (vs : List Value) (xs : List Pv), RelL c l vs → pvsL l = some xs → vs = xs.map Pv.val
  | [], vs, xs, h, hl => by unfold RelL at h; unfold pvsL at hl; cases hl; exact h
  | a :: l, vs, xs, h, hl => by
    unfold pvsL at hl
    split at hl
    · rename_i e; cases e
    · rename_i n l' e
      cases e
      unfold RelL at h
      obtain ⟨v, r, rfl, h1, h2⟩ := h
      split at hl
      · rename_i r' hr
        cases hl
        rw [pvsL_sound _ _ _ h2 hr, rel_int.1 h1]; rfl
      · cases hl
    · rename_i n l' e
      cases e
      unfold RelL at h
      obtain ⟨v, r, rfl, h1, h2⟩ := h
      split at hl
      · rename_i r' hr
        cases hl
        rw [pvsL_sound _ _ _ h2 hr, rel_str.1 h1]; rfl
      · cases hl
    · cases hl
theorem pvsA_sound {c : Cx} {x : AV} {v : Value} {xs : List Pv} (h : Rel c x v) (hl : pvsA x = some xs) : v = .agg (pvs xs) := by
  unfold pvsA at hl
  split at hl
  · obtain ⟨cs, rfl, h1⟩ := rel_agg rfl h
    rw [cellsP_sound _ _ _ _ h1 hl]; rfl
  · obtain ⟨cs, rfl, h1⟩ := rel_agg rfl h
    rw [cellsP_sound _ _ _ _ h1 hl]; rfl
  · unfold Rel at h
    obtain ⟨vs, rfl, h1⟩ := h
    rw [pvsL_sound _ _ _ h1 hl]; rfl
  · cases hl
theorem aBinM_sound {P : Program} {D : Tab} (hD : TabOk P D) {c : Cx} {op : BinOp} {t : TypeId} {ox oy : Operand} {x y : AV} {v w : Value} (hx : Rel c x v) (hy : Rel c y w) (h : Hold (aBinM op (teqm D t) x y).1) :
    ∃ r, (do eqGuard op t ox oy v w; binOp op t v w : Sem Value).run P c.w = .ok r c.w ∧ Rel c (aBinM op (teqm D t) x y).2 r := by
  cases hs : teqm D t with
  | nil => rw [hs] at h; exact False.elim h
  | cons b s =>
    rw [hs] at h
    unfold aBinM at *
    simp only at h ⊢
    split at h
    · rename_i xs ys h1 h2
      obtain ⟨e1, e2, e3⟩ := of_teqm hD hs (by simp)
      obtain rfl := pvsA_sound hx h1
      obtain rfl := pvsA_sound hy h2
      obtain ⟨hb, h⟩ := gate_of h
      rw [gate_true hb]
      simp only [Bool.and_eq_true] at hb
      have hr := eqM_run (P := P) 9994 6 t (b :: s) e1 xs ys c.w (kindsB_of hb.1) (kindsB_of hb.2)
      simp only [pvl, e3] at hr
      have hg := run_eqGuard_agg (P := P) c.w op t ox oy (pvs xs) (pvs ys) e2
      cases op <;> try exact False.elim h
      · refine ⟨_, ?_, rel_bool.2 rfl⟩
        rw [eqV_eq]
        simp only [Sem.run_bind, hg, Result.andThen_ok, run_eql_struct]
        rw [hr]; rfl
      · refine ⟨_, ?_, rel_bool.2 rfl⟩
        rw [eqV_eq]
        simp only [Sem.run_bind, hg, Result.andThen_ok, run_neq_struct]
        rw [hr]; rfl
    · exact False.elim h
theorem aBinA_sound {P : Program} {D : Tab} (hD : TabOk P D) {c : Cx} {op : BinOp} {t : TypeId} {ox oy : Operand} {x y : AV} {v w : Value} (hx : Rel c x v) (hy : Rel c y w) (h : Hold (aBinA D op t x y).1) :
    ∃ r, (do eqGuard op t ox oy v w; binOp op t v w : Sem Value).run P c.w = .ok r c.w ∧ Rel c (aBinA D op t x y).2 r := by
  unfold aBinA at *
  split at h
  · exact aBinM_sound hD hx hy h
  · rename_i k hk
    split at h
    · rename_i xs ys h1 h2
      obtain ⟨e1, e2, e3⟩ := of_teqn hD hk
      obtain rfl := numsI_sound hx h1
      obtain rfl := numsI_sound hy h2
      obtain ⟨hb, h⟩ := gate_of h
      rw [gate_true hb]
      simp only [Bool.and_eq_true] at hb
      have hr := eqT_run (P := P) 9994 6 t (k + 1) e1 xs ys c.w (beq_eq hb.1) (beq_eq hb.2)
      simp only [ivl, e3] at hr
      have hg := run_eqGuard_agg (P := P) c.w op t ox oy (ivs xs) (ivs ys) e2
      cases op <;> try exact False.elim h
      · refine ⟨_, ?_, rel_bool.2 rfl⟩
        rw [eqL_eq]
        simp only [Sem.run_bind, hg, Result.andThen_ok, run_eql_struct]
        rw [hr]; rfl
      · refine ⟨_, ?_, rel_bool.2 rfl⟩
        rw [eqL_eq]
        simp only [Sem.run_bind, hg, Result.andThen_ok, run_neq_struct]
        rw [hr]; rfl
    · exact False.elim h
theorem aBin_sound {P : Program} {D : Tab} (hD : TabOk P D) {c : Cx} {op : BinOp} {t : TypeId} {ox oy : Operand} {x y : AV} {v w : Value} (hx : Rel c x v) (hy : Rel c y w) (h : Hold (aBin D op t x y).1) :
    ∃ r, (do eqGuard op t ox oy v w; binOp op t v w : Sem Value).run P c.w = .ok r c.w ∧ Rel c (aBin D op t x y).2 r := by
  unfold aBin at *
  split at h
  · obtain rfl := rel_int.1 hx
    obtain rfl := rel_int.1 hy
    exact aBinI_sound h
  · obtain rfl := rel_str.1 hx
    obtain rfl := rel_str.1 hy
    exact aBinS_sound h
  · obtain rfl := rel_bool.1 hx
    obtain rfl := rel_bool.1 hy
    exact aBinB_sound hD h
  · obtain rfl := rel_flt.1 hx
    obtain rfl := rel_flt.1 hy
    exact aBinF_sound h
  · exact aBinA_sound hD hx hy h
theorem mapEv {c : Cx} {T : List (Nat × AV)} {a : Act} : ∀ l : List Operand, (∀ x ∈ l, Rel c (ev T x) (a.eval x)) → RelL c (l.map (ev T)) (l.map a.eval)
  | [], _ => by simp only [List.map_nil]; unfold RelL; rfl
  | x :: l, hT => by
    simp only [List.map_cons]; unfold RelL
    exact ⟨_, _, rfl, hT x (List.mem_cons_self ..), mapEv l (fun y hy => hT y (List.mem_cons_of_mem _ hy))⟩
theorem optEv {c : Cx} {T : List (Nat × AV)} {a : Act} (x : Option Operand) (hT : ∀ y, x = some y → Rel c (ev T y) (a.eval y)) : optVal c (x.map (ev T)) (x.map a.eval) := by
  cases x with
  | none => exact trivial
  | some x => exact hT x rfl
theorem lift_value {P : Program} {w w' : World} {s : Sem Value} {v : Value} (h : s.run P w = .ok v w') : (do pure (Next.value (← s)) : Sem Next).run P w = .ok (.value v) w' := by
  simp [h]
theorem apure_sound {P : Program} {D : Tab} (hD : TabOk P D) {c : Cx} (H : HR c) {T : List (Nat × AV)} {a : Act} {o : Oper} (hT : ∀ x ∈ o.op.operands, Rel c (ev T x) (a.eval x)) (h : Hold (apure D c.G c.A T o.op).1) :
    ∃ v, (execOp a.eval o).run P c.w = .ok (.value v) c.w ∧ Rel c (apure D c.G c.A T o.op).2 v := by
  obtain ⟨dst, op, type, pos, after, guard⟩ := o
  simp only at h ⊢
  unfold apure at *
  cases op <;> try exact False.elim h
  case move x => exact ⟨_, rfl, hT x (by simp [Op.operands])⟩
  case assign x => exact ⟨_, rfl, hT x (by simp [Op.operands])⟩
  case pick x a' b =>
    obtain ⟨r, h1, h2⟩ := aPick_sound (P := P) (hT x (by simp [Op.operands])) (hT a' (by simp [Op.operands])) (hT b (by simp [Op.operands])) h
    refine ⟨r, ?_, h2⟩
    have h1' : ((asBool (a.eval x)).run P c.w).andThen (fun b' w' => (Result.ok (if b' = true then a.eval a' else a.eval b) w' : Result Value)) = .ok r c.w := by simpa using h1
    unfold execOp
    simp only [Sem.run_bind]
    cases hb : (asBool (a.eval x)).run P c.w with
    | ok b' w' => rw [hb] at h1'; simp at h1' ⊢; exact ⟨h1'.1, h1'.2⟩
    | halt e w' => rw [hb] at h1'; simp at h1'
  case field t x f =>
    obtain ⟨r, h1, h2⟩ := aField_sound hD (hT x (by simp [Op.operands])) h
    exact ⟨r, lift_value h1, h2⟩
  case fieldAddr t x f =>
    obtain ⟨r, h1, h2⟩ := aFieldAddr_sound hD (hT x (by simp [Op.operands])) h
    exact ⟨r, lift_value h1, h2⟩
  case indexAddr t x i =>
    obtain ⟨r, h1, h2⟩ := aIndexAddr_sound hD (hT x (by simp [Op.operands])) (hT i (by simp [Op.operands])) h
    exact ⟨r, lift_value h1, h2⟩
  case index t x i =>
    obtain ⟨r, h1, h2⟩ := aIndex_sound hD (hT x (by simp [Op.operands])) (hT i (by simp [Op.operands])) h
    exact ⟨r, lift_value h1, h2⟩
  case load t x =>
    obtain ⟨r, h1, h2⟩ := aLoad_sound hD H (hT x (by simp [Op.operands])) h
    exact ⟨r, lift_value h1, h2⟩
  case binOp op t x y yt =>
    simp only at h ⊢
    cases hn : isNilC y with
    | true =>
      rw [hn] at h
      have hy : y = .const .nilIface := by
        unfold isNilC at hn
        split at hn
        · rfl
        · cases hn
      subst hy
      obtain ⟨r, h1, h2⟩ := aBinNil_sound hD (x := x) (hT x (by simp [Op.operands])) h
      exact ⟨r, lift_value h1, h2⟩
    | false =>
      rw [hn] at h
      simp only at h ⊢
      cases hp : isNilPC y with
      | true =>
        rw [hp] at h
        have hy : y = .const (.pointer none) := by
          unfold isNilPC at hp
          split at hp
          · rfl
          · cases hp
        subst hy
        obtain ⟨r, h1, h2⟩ := aBinP_sound hD (x := x) (y := .const (.pointer none)) (hT x (by simp [Op.operands])) h
        exact ⟨r, lift_value h1, h2⟩
      | false =>
      rw [hp] at h
      cases hz : isNilZC y with
      | true =>
        rw [hz] at h
        obtain ⟨z, hy, r, h1, h2⟩ := aBinZ_sound hD (x := x) (hT x (by simp [Op.operands])) h
        subst hy
        exact ⟨r, lift_value h1, h2⟩
      | false =>
      rw [hz] at h
      obtain ⟨r, h1, h2⟩ := aBin_sound hD (ox := x) (oy := y) (hT x (by simp [Op.operands])) (hT y (by simp [Op.operands])) h
      exact ⟨r, lift_value h1, h2⟩
  case unOp op t x =>
    obtain ⟨r, h1, h2⟩ := aUn_sound hD (hT x (by simp [Op.operands])) h
    exact ⟨r, lift_value h1, h2⟩
  case convert s d x =>
    obtain ⟨r, h1, h2⟩ := aConv_sound hD (hT x (by simp [Op.operands])) h
    exact ⟨r, lift_value h1, h2⟩
  case extract x i =>
    obtain ⟨r, h1, h2⟩ := aExtract_sound hD (hT x (by simp [Op.operands])) h
    exact ⟨r, lift_value h1, h2⟩
  case makeInterface t x =>
    obtain ⟨r, h1, h2⟩ := aMkI_sound hD (hT x (by simp [Op.operands])) h
    exact ⟨r, lift_value h1, h2⟩
  case makeFunc fn first caps =>
    cases fn <;> try exact False.elim h
    rename_i fid
    obtain ⟨l⟩ := first
    cases l with
    | cons x l => exact False.elim h
    | nil =>
      refine ⟨.func (.func fid) #[] (caps.map a.eval), by simp [execOp, Instr.makeFunc], ?_⟩
      unfold yes Rel
      exact ⟨caps.toList.map a.eval, by congr 1; exact Array.ext' (by simp), mapEv caps.toList (fun y hy => hT y (by simp [Op.operands]; simpa using hy))⟩
  case build t ps =>
    obtain ⟨r, h1, h2⟩ := aBuild_sound hD (vs := ps.map fun (i, x) => (i, a.eval x)) (by simp) (fun i p v h1 h2 => by
      simp only [List.getElem?_map, Array.toList_map] at h1 h2
      cases hp : ps.toList[i]? with
      | none => rw [hp] at h1; cases h1
      | some q =>
        rw [hp] at h1 h2
        simp at h1 h2
        rw [← h1, ← h2]
        exact ⟨rfl, hT q.2 (by simp only [Op.operands, List.mem_toArray, List.mem_map]; exact ⟨q, List.mem_of_getElem? hp, rfl⟩)⟩) h
    exact ⟨r, lift_value h1, h2⟩
  case slice t x lo hi mx =>
    cases mx with
    | some m =>
      cases hi with
      | none => exact False.elim h
      | some hi =>
        obtain ⟨r, h1, h2⟩ := aSlice3_sound hD (hT x (by simp [Op.operands])) (optEv lo fun y hy => hT y (by simp [Op.operands, hy])) (hT hi (by simp [Op.operands])) (hT m (by simp [Op.operands])) h
        exact ⟨r, lift_value h1, h2⟩
    | none =>
    obtain ⟨r, h1, h2⟩ := aSlice_sound hD (hT x (by simp [Op.operands])) (optEv lo fun y hy => hT y (by simp [Op.operands, hy])) (optEv hi fun y hy => hT y (by simp [Op.operands, hy])) h
    exact ⟨r, lift_value h1, h2⟩
  case nilCheck x =>
    obtain ⟨r, h1, h2⟩ := aNilCheck_sound (P := P) (hT x (by simp [Op.operands])) h
    exact ⟨r, h1, h2⟩
  case typeAssert x t u ok =>
    obtain ⟨r, h1, h2⟩ := aAssert_sound hD (t := t) (hT x (by simp [Op.operands])) h
    exact ⟨r, lift_value h1, h2⟩
  case call cl =>
    obtain ⟨callee, args, argTypes⟩ := cl
    unfold aCall at *
    simp only at h ⊢
    cases callee <;> try exact False.elim h
    rename_i b
    obtain ⟨args⟩ := args
    cases b <;> try exact False.elim h
    case len =>
      cases args with
      | nil => exact False.elim h
      | cons x l =>
        cases l with
        | cons y l => exact False.elim h
        | nil =>
          simp only at h ⊢
          cases ht : argTypes[0]? with
          | none => rw [ht] at h; exact False.elim h
          | some t =>
            rw [ht] at h
            obtain ⟨r, h1, h2⟩ := aLen_sound hD (ty := type) ht (hT x (by simp [Op.operands, Call.operands])) h
            refine ⟨r, ?_, h2⟩
            simpa [execOp, resolve, invoke, builtin] using lift_value h1
    case min =>
      cases args with
      | nil => exact False.elim h
      | cons x l =>
        obtain ⟨r, h1, h2⟩ := aFold_sound (P := P) (mx := false) _ _ _ _ (hT x (by simp [Op.operands, Call.operands])) (mapEv l fun y hy => hT y (by simp [Op.operands, Call.operands, hy])) h
        exact ⟨r, by simpa [execOp, resolve, invoke, builtin, Builtin.min_] using lift_value h1, h2⟩
    case max =>
      cases args with
      | nil => exact False.elim h
      | cons x l =>
        obtain ⟨r, h1, h2⟩ := aFold_sound (P := P) (mx := true) _ _ _ _ (hT x (by simp [Op.operands, Call.operands])) (mapEv l fun y hy => hT y (by simp [Op.operands, Call.operands, hy])) h
        exact ⟨r, by simpa [execOp, resolve, invoke, builtin, Builtin.max_] using lift_value h1, h2⟩
end Go.Ab
/-
  How an abstract state may go on: what is new, what is written, what is let go.
-/
namespace Go.Ab
open Go
/-- the streams are as they were -/
structure WSame (w w' : World) : Prop where
  os : w'.os = w.os
  tape : w'.tape = w.tape
  output : w'.output = w.output
theorem WSame.refl (w : World) : WSame w w := ⟨rfl, rfl, rfl⟩
theorem WSame.trans {w w' w'' : World} (h : WSame w w') (h' : WSame w' w'') : WSame w w'' := ⟨h'.os.trans h.os, h'.tape.trans h.tape, h'.output.trans h.output⟩
structure Ext (c c' : Cx) : Prop where
  le : Le c.A.length c c'
  X : c'.X = c.X
  G : c'.G = c.G
  far : ∀ b, c.X b → c'.w.heap[b]? = c.w.heap[b]?
  st : WSame c.w c'.w
theorem TokLe.refl {c : Cx} {t : Nat} (h : t < c.A.length) : TokLe c c t := by
  unfold TokLe
  rw [List.getElem?_eq_getElem h]
  cases hA : c.A[t] with
  | row e xs => exact .inl ⟨⟨xs, rfl⟩, rfl, fun b cs et _ hh => ⟨cs, hh, rfl⟩⟩
  | box vs => exact .inl ⟨⟨vs, rfl⟩, rfl⟩
  | mapo i vs => exact .inl ⟨⟨i, vs, rfl, rfl⟩, rfl⟩
  | dead => trivial
  | room => rfl
theorem Ext.refl (c : Cx) : Ext c c := ⟨⟨fun _b h _ => ⟨h, rfl⟩, fun _t h => TokLe.refl h, Nat.le_refl _⟩, rfl, rfl, fun _ _ => rfl, WSame.refl _⟩
theorem TokLe.trans {c c' c'' : Cx} {t : Nat} (h : TokLe c c' t) (h' : TokLe c' c'' t) : TokLe c c'' t := by
  unfold TokLe at *
  cases h2 : c''.A[t]? with
  | none => rw [h2] at h'; exact h'
  | some o =>
    rw [h2] at h'
    cases o with
    | dead => trivial
    | room =>
      have h' : c'.A[t]? = some .room := h'
      rw [h'] at h; exact h
    | row e xs =>
      simp only at h' ⊢
      rcases h' with h' | h'
      rotate_left
      · rw [h'] at h; exact .inr h
      obtain ⟨⟨xs', h1⟩, hr, hh⟩ := h'
      rw [h1] at h
      rcases h with h | h
      rotate_left
      · exact .inr h
      obtain ⟨hx, hr', hh'⟩ := h
      refine .inl ⟨hx, hr.trans hr', fun b cs et hb hc => ?_⟩
      obtain ⟨cs', k1, k2⟩ := hh' b cs et hb hc
      obtain ⟨cs'', k3, k4⟩ := hh b cs' et (hr'.trans hb) k1
      exact ⟨cs'', k3, k4.trans k2⟩
    | box vs =>
      simp only at h' ⊢
      rcases h' with ⟨⟨xs', h1⟩, hr⟩ | ⟨e, xs', h1⟩ | h1
      · rw [h1] at h
        rcases h with h | h
        · exact .inl ⟨h.1, hr.trans h.2⟩
        · exact .inr h
      · rw [h1] at h
        rcases h with h | h
        · exact .inr (.inl ⟨e, h.1⟩)
        · exact .inr (.inr h)
      · rw [h1] at h
        exact .inr (.inr h)
    | mapo i vs =>
      simp only at h' ⊢
      rcases h' with ⟨⟨j, vs', h1, hj⟩, hr⟩ | h1
      · rw [h1] at h
        rcases h with ⟨⟨k, vs0, h2, hk⟩, hr2⟩ | h
        · exact .inl ⟨⟨k, vs0, h2, hk.trans hj⟩, hr.trans hr2⟩
        · exact .inr h
      · rw [h1] at h
        exact .inr h
theorem Ext.trans {c c' c'' : Cx} (h : Ext c c') (h' : Ext c' c'') : Ext c c'' := by
  refine ⟨⟨fun b hI hb => ?_, fun t ht => ?_, Nat.le_trans h.le.len h'.le.len⟩, h'.X.trans h.X, h'.G.trans h.G, fun b hb => ?_, h.st.trans h'.st⟩
  · obtain ⟨k1, k2⟩ := h.le.I b hI hb
    obtain ⟨k3, k4⟩ := h'.le.I b k1 (heap_lt hb k2)
    exact ⟨k3, k4.trans k2⟩
  · exact (h.le.tok t ht).trans (h'.le.tok t (Nat.lt_of_lt_of_le ht h.le.len))
  · exact (h'.far b (by rw [h.X]; exact hb)).trans (h.far b hb)
/-- tokens below n go on -/
structure ExtN (n : Nat) (c c' : Cx) : Prop where
  le : Le n c c'
  X : c'.X = c.X
  G : c'.G = c.G
  far : ∀ b, c.X b → c'.w.heap[b]? = c.w.heap[b]?
  st : WSame c.w c'.w
theorem Ext.toN {c c' : Cx} (h : Ext c c') : ExtN c.A.length c c' := ⟨h.le, h.X, h.G, h.far, h.st⟩
theorem ExtN.trans {n : Nat} {c c' c'' : Cx} (h : ExtN n c c') (h' : ExtN n c' c'') : ExtN n c c'' := by
  refine ⟨⟨fun b hI hb => ?_, fun t ht => (h.le.tok t ht).trans (h'.le.tok t ht), h'.le.len⟩, h'.X.trans h.X, h'.G.trans h.G, fun b hb => ?_, h.st.trans h'.st⟩
  · obtain ⟨k1, k2⟩ := h.le.I b hI hb
    obtain ⟨k3, k4⟩ := h'.le.I b k1 (heap_lt hb k2)
    exact ⟨k3, k4.trans k2⟩
  · exact (h'.far b (by rw [h.X]; exact hb)).trans (h.far b hb)
theorem Ext.toN' {n : Nat} {c c' : Cx} (h : Ext c c') (hn : n ≤ c.A.length) : ExtN n c c' :=
  ⟨⟨h.le.I, fun t ht => h.le.tok t (by omega), by have := h.le.len; omega⟩, h.X, h.G, h.far, h.st⟩
theorem ExtN.step {n : Nat} {c c' c'' : Cx} (h : ExtN n c c') (h' : Ext c' c'') : ExtN n c c'' := h.trans (h'.toN' h.le.len)
theorem Rel.ext {c c' : Cx} (H : Ext c c') {a : AV} {v : Value} (h : Rel c a v) : Rel c' a v := Rel.mono H.le a v h.ok h
theorem RelL.ext {c c' : Cx} (H : Ext c c') {l : List AV} {vs : List Value} (h : RelL c l vs) : RelL c' l vs := RelL.mono H.le l vs h.ok h
theorem TR.ext {c c' : Cx} (H : Ext c c') {T : List (Nat × AV)} {t : Array Value} (h : TR c T t) : TR c' T t := fun n => (h n).ext H
theorem FzC.ext {c c' : Cx} (H : Ext c c') {t : Ty} {x : t.den} {vs : List Value} (h : FzC c.I c.w t x vs) : FzC c'.I c'.w t x vs := h.mono H.le.I
theorem live_lt {c : Cx} {t : Nat} (h : c.live t) : t < c.A.length := by obtain ⟨o, h, _⟩ := h; exact get_lt h
/-! ### a draw -/
theorem ext_draw {c : Cx} (H : HR c) (w' : World) (hw : w'.heap = c.w.heap) (hs : WSame c.w w') : Ext c { c with w := w' } ∧ HR { c with w := w' } := by
  have E : Ext c { c with w := w' } := by
    refine ⟨⟨fun b h _ => ⟨h, by show w'.heap[b]? = _; rw [hw]⟩, fun t h => ?_, Nat.le_refl _⟩, rfl, rfl, fun b _ => by show w'.heap[b]? = _; rw [hw], hs⟩
    have := TokLe.refl h
    unfold TokLe at *
    simpa [hw] using this
  refine ⟨E, ⟨H.far, H.inj, fun t o h => ?_, fun b h => by show b < w'.heap.size; rw [hw]; exact H.old b h, fun g v h => ?_⟩⟩
  · have := H.obj t o h
    cases o with
    | dead => trivial
    | room => trivial
    | row e xs =>
      rcases this with h | ⟨b, cs, et, h1, h2, h3⟩
      · exact .inl h
      · refine .inr ⟨b, cs, et, h1, by show w'.heap[b]? = _; rw [hw]; exact h2, fun i hi => ?_⟩
        obtain ⟨ds, k1, k2⟩ := h3 i hi
        exact ⟨ds, FzC.ext E k1, k2⟩
    | box vs =>
      obtain ⟨b, cs, et, h1, h2, h3⟩ := this
      exact ⟨b, cs, et, h1, by show w'.heap[b]? = _; rw [hw]; exact h2, h3.ext E⟩
    | mapo i vs =>
      obtain ⟨b, ob, us, h1, h2, h4, h3⟩ := this
      exact ⟨b, ob, us, h1, by show w'.heap[b]? = _; rw [hw]; exact h2, h4, h3.ext E⟩
  · exact (H.glo g v h).mono E.le.I
/-! ### a new object -/
def Cx.newO (c : Cx) (ob : Obj) (o : AO) : Cx :=
  { c with w := c.w.alloc ob, ρ := fun t => if t = c.A.length then some c.w.heap.size else c.ρ t, A := c.A ++ [o] }
def Cx.new (c : Cx) (cs : Array Value) (et : TypeId) (o : AO) : Cx :=
  { c with w := c.w.alloc (.cells cs et), ρ := fun t => if t = c.A.length then some c.w.heap.size else c.ρ t, A := c.A ++ [o] }
theorem newO_A_old {c : Cx} {ob : Obj} {o : AO} {t : Nat} (h : t < c.A.length) : (c.newO ob o).A[t]? = c.A[t]? := by
  show (c.A ++ [o])[t]? = _; rw [List.getElem?_append_left h]
theorem newO_A_new {c : Cx} {ob : Obj} {o : AO} : (c.newO ob o).A[c.A.length]? = some o := by
  show (c.A ++ [o])[_]? = _; simp
theorem newO_ρ_old {c : Cx} {ob : Obj} {o : AO} {t : Nat} (h : t < c.A.length) : (c.newO ob o).ρ t = c.ρ t := by
  show (if _ then _ else _) = _; rw [if_neg (by omega)]
theorem newO_ρ_new {c : Cx} {ob : Obj} {o : AO} : (c.newO ob o).ρ c.A.length = some c.w.heap.size := by
  show (if _ then _ else _) = _; rw [if_pos rfl]
theorem newO_heap_old {c : Cx} {ob : Obj} {o : AO} {b : Nat} (h : b < c.w.heap.size) : (c.newO ob o).w.heap[b]? = c.w.heap[b]? := heap_alloc_old _ _ h
theorem newO_heap_new {c : Cx} {ob : Obj} {o : AO} : (c.newO ob o).w.heap[c.w.heap.size]? = some ob := heap_alloc_new _ _
theorem new_heap_new {c : Cx} {cs : Array Value} {et : TypeId} {o : AO} : (c.new cs et o).w.heap[c.w.heap.size]? = some (.cells cs et (0, 0)) := heap_alloc_new _ _
theorem some_lt {w : World} {b : Nat} {o : Obj} (h : w.heap[b]? = some o) : b < w.heap.size := by
  rcases Nat.lt_or_ge b w.heap.size with h' | h'
  · exact h'
  · rw [Array.getElem?_eq_none h'] at h; cases h
theorem new_A_old {c : Cx} {cs : Array Value} {et : TypeId} {o : AO} {t : Nat} (h : t < c.A.length) : (c.new cs et o).A[t]? = c.A[t]? := newO_A_old (ob := .cells cs et) h
theorem new_A_new {c : Cx} {cs : Array Value} {et : TypeId} {o : AO} : (c.new cs et o).A[c.A.length]? = some o := newO_A_new (ob := .cells cs et)
theorem new_ρ_old {c : Cx} {cs : Array Value} {et : TypeId} {o : AO} {t : Nat} (h : t < c.A.length) : (c.new cs et o).ρ t = c.ρ t := newO_ρ_old (ob := .cells cs et) h
theorem new_ρ_new {c : Cx} {cs : Array Value} {et : TypeId} {o : AO} : (c.new cs et o).ρ c.A.length = some c.w.heap.size := newO_ρ_new (ob := .cells cs et)
theorem new_heap_old {c : Cx} {cs : Array Value} {et : TypeId} {o : AO} {b : Nat} (h : b < c.w.heap.size) : (c.new cs et o).w.heap[b]? = c.w.heap[b]? := heap_alloc_old _ _ h
theorem ext_newO {c : Cx} (H : HR c) (ob : Obj) (o : AO) : Ext c (c.newO ob o) := by
  refine ⟨⟨fun b hI hb => ⟨⟨hI.1, fun t ht => ?_⟩, newO_heap_old hb⟩, fun t ht => ?_, by show _ ≤ (c.A ++ [o]).length; simp⟩, rfl, rfl, fun b hb => newO_heap_old (H.old b hb), ⟨rfl, rfl, rfl⟩⟩
  · have hlt := live_lt ht
    have hl : (c.newO ob o).A.length = c.A.length + 1 := by show (c.A ++ [o]).length = _; simp
    rw [hl] at hlt
    by_cases h : t = c.A.length
    · subst h; rw [newO_ρ_new]; intro e; cases e; omega
    · rw [newO_ρ_old (by omega)]
      obtain ⟨o', h1, h2⟩ := ht
      rw [newO_A_old (by omega)] at h1
      exact hI.2 t ⟨o', h1, h2⟩
  · have := TokLe.refl ht
    unfold TokLe at *
    rw [newO_A_old ht, newO_ρ_old ht]
    cases hA : c.A[t]? with
    | none => rw [hA] at this; exact this
    | some o' =>
      rw [hA] at this
      cases o' with
      | dead => trivial
      | room => exact this
      | box vs => exact this
      | mapo i vs => exact this
      | row e xs =>
        simp only at this ⊢
        rcases this with this | this
        rotate_left
        · exact .inr this
        refine .inl ⟨this.1, by simp, fun b cs' et' hb hc => ⟨cs', ?_, rfl⟩⟩
        rw [newO_heap_old (some_lt hc)]; exact hc
theorem ext_new {c : Cx} (H : HR c) (cs : Array Value) (et : TypeId) (o : AO) : Ext c (c.new cs et o) := ext_newO H _ o
theorem objOk_ext {c c' : Cx} (E : Ext c c') {r : Option Nat} {o : AO} (h : ObjOk c r o) (hb : o.live = true → ∀ b, r = some b → c'.w.heap[b]? = c.w.heap[b]?) : ObjOk c' r o := by
  cases o with
  | dead => trivial
  | room => trivial
  | row e xs =>
    rcases h with h | ⟨b, cs, et, h1, h2, h3⟩
    · exact .inl h
    · refine .inr ⟨b, cs, et, h1, by rw [hb rfl b h1]; exact h2, fun i hi => ?_⟩
      obtain ⟨ds, k1, k2⟩ := h3 i hi
      exact ⟨ds, FzC.ext E k1, k2⟩
  | box vs =>
    obtain ⟨b, cs, et, h1, h2, h3⟩ := h
    exact ⟨b, cs, et, h1, by rw [hb rfl b h1]; exact h2, h3.ext E⟩
  | mapo i vs =>
    obtain ⟨b, ob, us, h1, h2, h4, h3⟩ := h
    exact ⟨b, ob, us, h1, by rw [hb rfl b h1]; exact h2, h4, h3.ext E⟩
theorem newO_live {c : Cx} {ob : Obj} {o : AO} {t : Nat} (h : (c.newO ob o).live t) : (t = c.A.length) ∨ (t < c.A.length ∧ c.live t) := by
  have hlt := live_lt h
  have hl : (c.newO ob o).A.length = c.A.length + 1 := by show (c.A ++ [o]).length = _; simp
  by_cases h' : t = c.A.length
  · exact .inl h'
  · obtain ⟨o', h1, h2⟩ := h
    rw [newO_A_old (by omega)] at h1
    exact .inr ⟨by omega, o', h1, h2⟩
theorem new_live {c : Cx} {cs : Array Value} {et : TypeId} {o : AO} {t : Nat} (h : (c.new cs et o).live t) : (t = c.A.length) ∨ (t < c.A.length ∧ c.live t) := newO_live (ob := .cells cs et) h
theorem hr_newO {c : Cx} (H : HR c) {ob : Obj} {o : AO} (ho : ObjOk (c.newO ob o) (some c.w.heap.size) o) : HR (c.newO ob o) := by
  have E := ext_newO H ob o
  refine ⟨fun t b ht hb => ?_, fun t u b ht hu h1 h2 => ?_, fun t o' h => ?_, fun b hb => ?_, fun g v h => ?_⟩
  · rcases newO_live ht with rfl | ⟨hlt, hl⟩
    · rw [newO_ρ_new] at hb; cases hb
      intro hX; exact absurd (H.old _ hX) (by omega)
    · rw [newO_ρ_old hlt] at hb; exact H.far t b hl hb
  · rcases newO_live ht with rfl | ⟨hlt, hl⟩
    · rcases newO_live hu with rfl | ⟨hlu, hlu'⟩
      · rfl
      · rw [newO_ρ_new] at h1; cases h1
        rw [newO_ρ_old hlu] at h2
        exact absurd (H.lt hlu' h2) (by omega)
    · rcases newO_live hu with rfl | ⟨hlu, hlu'⟩
      · rw [newO_ρ_new] at h2; cases h2
        rw [newO_ρ_old hlt] at h1
        exact absurd (H.lt hl h1) (by omega)
      · rw [newO_ρ_old hlt] at h1; rw [newO_ρ_old hlu] at h2
        exact H.inj t u b hl hlu' h1 h2
  · by_cases h' : t < c.A.length
    · rw [newO_A_old h'] at h
      rw [newO_ρ_old h']
      refine objOk_ext E (H.obj t o' h) (fun hl b hb => newO_heap_old ?_)
      exact H.lt ⟨o', h, hl⟩ hb
    · have hlt := get_lt h
      have hl : (c.newO ob o).A.length = c.A.length + 1 := by show (c.A ++ [o]).length = _; simp
      have : t = c.A.length := by omega
      subst this
      rw [newO_A_new] at h; cases h
      rw [newO_ρ_new]; exact ho
  · have : (c.newO ob o).w.heap.size = c.w.heap.size + 1 := by show (c.w.heap.push _).size = _; exact Array.size_push _
    rw [this]; have := H.old b hb; omega
  · exact (H.glo g v h).mono E.le.I
theorem hr_new {c : Cx} (H : HR c) {cs : Array Value} {et : TypeId} {o : AO} (ho : ObjOk (c.new cs et o) (some c.w.heap.size) o) : HR (c.new cs et o) := hr_newO H ho
/-! ### what is written -/
def Cx.wr (c : Cx) (tok b : Nat) (cs : Array Value) (o : AO) : Cx := { c with w := c.w.setRow b cs, A := c.A.set tok o }
def AO.like : AO → AO → Prop
  | .row e _, .row e' _ => e = e'
  | .box _, .box _ => True
  | _, _ => False
theorem like_live {o o' : AO} (h : o.like o') : o.live = true ∧ o'.live = true := by cases o <;> cases o' <;> first | exact ⟨rfl, rfl⟩ | exact h.elim
theorem wr_live {c : Cx} {tok b : Nat} {cs : Array Value} {o o' : AO} (h0 : c.A[tok]? = some o) (hl : o.like o') {t : Nat} (h : (c.wr tok b cs o').live t) : c.live t := by
  obtain ⟨x, h1, h2⟩ := h
  by_cases ht : tok = t
  · subst ht; exact ⟨o, h0, (like_live hl).1⟩
  · refine ⟨x, ?_, h2⟩
    have : (c.A.set tok o')[t]? = some x := h1
    rwa [List.getElem?_set_ne ht] at this
theorem ext_wr {c : Cx} (H : HR c) {tok b : Nat} {cs old : Array Value} {et : TypeId} {o o' : AO} (h0 : c.A[tok]? = some o) (hl : o.like o') (hr : c.ρ tok = some b) (hh : c.w.heap[b]? = some (.cells old et (0, 0))) (hs : cs.size = old.size) :
    Ext c (c.wr tok b cs o') := by
  have hlive : c.live tok := ⟨o, h0, (like_live hl).1⟩
  have hX := H.far tok b hlive hr
  have oth : ∀ k, k ≠ b → (c.wr tok b cs o').w.heap[k]? = c.w.heap[k]? := fun k hk => setRow_other c.w b k cs hk
  refine ⟨⟨fun k hI hk => ⟨⟨hI.1, fun t ht => hI.2 t (wr_live h0 hl ht)⟩, oth k (fun e => ?_)⟩, fun t ht => ?_, by show _ ≤ (c.A.set tok o').length; simp⟩, rfl, rfl, fun k hk => oth k (fun e => ?_), ⟨rfl, rfl, rfl⟩⟩
  · subst e; exact hI.2 tok hlive hr
  · unfold TokLe
    by_cases htt : tok = t
    · subst htt
      have : (c.wr tok b cs o').A[tok]? = some o' := by show (c.A.set tok o')[tok]? = _; rw [List.getElem?_set_self ht]
      rw [this]
      cases o <;> cases o' <;> try exact hl.elim
      · have he : _ = _ := hl
        subst he
        refine .inl ⟨⟨_, h0⟩, rfl, fun b' cs' et' hb' hc => ?_⟩
        rw [hr] at hb'; cases hb'
        rw [hh] at hc; cases hc
        exact ⟨cs, setRow_heap c.w b _ cs et (0, 0) hh, hs⟩
      · exact .inl ⟨⟨_, h0⟩, rfl⟩
    · have : (c.wr tok b cs o').A[t]? = c.A[t]? := by show (c.A.set tok o')[t]? = _; rw [List.getElem?_set_ne htt]
      rw [this]
      have ht0 := TokLe.refl ht
      unfold TokLe at ht0
      cases hA : c.A[t]? with
      | none => rw [hA] at ht0; exact ht0
      | some x =>
        rw [hA] at ht0
        cases x with
        | dead => trivial
        | room => exact ht0
        | box vs => exact ht0
        | mapo i vs => exact ht0
        | row e xs =>
          simp only at ht0 ⊢
          rcases ht0 with ht0 | ht0
          rotate_left
          · exact .inr ht0
          refine .inl ⟨ht0.1, rfl, fun b' cs' et' hb' hc => ?_⟩
          by_cases hbb : b' = b
          · subst hbb
            rw [hh] at hc; cases hc
            exact ⟨cs, setRow_heap c.w b' _ cs et (0, 0) hh, hs⟩
          · exact ⟨cs', (oth b' hbb).trans hc, rfl⟩
  · subst e; exact hX hk
theorem hr_wr {c : Cx} (H : HR c) {tok b : Nat} {cs old : Array Value} {et : TypeId} {o o' : AO} (h0 : c.A[tok]? = some o) (hl : o.like o') (hr : c.ρ tok = some b) (hh : c.w.heap[b]? = some (.cells old et (0, 0))) (hs : cs.size = old.size)
    (ho : ObjOk (c.wr tok b cs o') (some b) o') : HR (c.wr tok b cs o') := by
  have E := ext_wr H h0 hl hr hh hs
  have hlive : c.live tok := ⟨o, h0, (like_live hl).1⟩
  have htl := get_lt h0
  have oth : ∀ k, k ≠ b → (c.wr tok b cs o').w.heap[k]? = c.w.heap[k]? := fun k hk => setRow_other c.w b k cs hk
  refine ⟨fun t k ht hk => H.far t k (wr_live h0 hl ht) hk, fun t u k ht hu h1 h2 => H.inj t u k (wr_live h0 hl ht) (wr_live h0 hl hu) h1 h2, fun t x h => ?_, fun k hk => ?_, fun g v h => ?_⟩
  · by_cases htt : tok = t
    · subst htt
      have : (c.wr tok b cs o').A[tok]? = some o' := by show (c.A.set tok o')[tok]? = _; rw [List.getElem?_set_self htl]
      rw [this] at h; cases h
      show ObjOk _ (c.ρ tok) _
      rw [hr]; exact ho
    · have : (c.wr tok b cs o').A[t]? = c.A[t]? := by show (c.A.set tok o')[t]? = _; rw [List.getElem?_set_ne htt]
      rw [this] at h
      refine objOk_ext E (H.obj t x h) (fun hxl k hk => oth k (fun e => ?_))
      subst e
      exact htt (H.inj tok t k hlive ⟨x, h, hxl⟩ hr hk)
  · show k < (c.w.setRow b cs).heap.size
    rw [size_setRow]; exact H.old k hk
  · exact (H.glo g v h).mono (ext_wr H h0 hl hr hh hs).le.I
/-! ### let go -/
def Cx.kill (c : Cx) (tok : Nat) : Cx := { c with A := c.A.set tok .dead }
theorem kill_other {c : Cx} {tok t : Nat} (h : tok ≠ t) : (c.kill tok).A[t]? = c.A[t]? := by show (c.A.set tok _)[t]? = _; rw [List.getElem?_set_ne h]
theorem kill_self {c : Cx} {tok : Nat} (h : tok < c.A.length) : (c.kill tok).A[tok]? = some .dead := by show (c.A.set tok _)[tok]? = _; rw [List.getElem?_set_self h]
theorem kill_live {c : Cx} {tok t : Nat} (h : (c.kill tok).live t) : t ≠ tok ∧ c.live t := by
  obtain ⟨x, h1, h2⟩ := h
  by_cases ht : tok = t
  · subst ht
    have hlt := get_lt h1
    have : (c.kill tok).A.length = c.A.length := by show (c.A.set tok _).length = _; simp
    rw [kill_self (by omega)] at h1; cases h1; cases h2
  · rw [kill_other ht] at h1; exact ⟨fun e => ht e.symm, x, h1, h2⟩
theorem ext_kill (c : Cx) (tok : Nat) : Ext c (c.kill tok) := by
  refine ⟨⟨fun b hI _ => ⟨⟨hI.1, fun t ht => hI.2 t (kill_live ht).2⟩, rfl⟩, fun t ht => ?_, by show _ ≤ (c.A.set tok _).length; simp⟩, rfl, rfl, fun b _ => rfl, ⟨rfl, rfl, rfl⟩⟩
  by_cases htt : tok = t
  · subst htt; unfold TokLe; rw [kill_self ht]; trivial
  · have := TokLe.refl ht
    unfold TokLe at *
    rw [kill_other htt]; exact this
theorem hr_kill {c : Cx} (H : HR c) (tok : Nat) : HR (c.kill tok) := by
  refine ⟨fun t b ht hb => H.far t b (kill_live ht).2 hb, fun t u b ht hu => H.inj t u b (kill_live ht).2 (kill_live hu).2, fun t o h => ?_, H.old, fun g v h => ?_⟩
  · by_cases htt : tok = t
    · subst htt
      have hlt := get_lt h
      have : (c.kill tok).A.length = c.A.length := by show (c.A.set tok _).length = _; simp
      rw [kill_self (by omega)] at h; cases h; trivial
    · rw [kill_other htt] at h
      exact objOk_ext (ext_kill c tok) (H.obj t o h) (fun _ _ _ => rfl)
  · exact (H.glo g v h).mono (ext_kill c tok).le.I
/-! ### another name -/
def Cx.mv (c : Cx) (tok : Nat) (o : AO) : Cx := { c with ρ := fun t => if t = c.A.length then c.ρ tok else c.ρ t, A := c.A.set tok .dead ++ [o] }
theorem mv_A {c : Cx} {tok : Nat} {o : AO} {t : Nat} (h : t < c.A.length) : (c.mv tok o).A[t]? = (c.kill tok).A[t]? := by
  show (c.A.set tok .dead ++ [o])[t]? = _
  rw [List.getElem?_append_left (by simpa using h)]; rfl
theorem mv_new {c : Cx} {tok : Nat} {o : AO} : (c.mv tok o).A[c.A.length]? = some o := by
  show (c.A.set tok .dead ++ [o])[_]? = _
  rw [List.getElem?_append_right (by simp)]; simp
theorem mv_len {c : Cx} {tok : Nat} {o : AO} : (c.mv tok o).A.length = c.A.length + 1 := by show (c.A.set tok .dead ++ [o]).length = _; simp
theorem mv_ρ {c : Cx} {tok : Nat} {o : AO} {t : Nat} (h : t < c.A.length) : (c.mv tok o).ρ t = c.ρ t := by show (if _ then _ else _) = _; rw [if_neg (by omega)]
theorem mv_ρn {c : Cx} {tok : Nat} {o : AO} : (c.mv tok o).ρ c.A.length = c.ρ tok := by show (if _ then _ else _) = _; rw [if_pos rfl]
theorem mv_live {c : Cx} {tok : Nat} {o : AO} {t : Nat} (h : (c.mv tok o).live t) : t = c.A.length ∨ (t < c.A.length ∧ t ≠ tok ∧ c.live t) := by
  have hlt := live_lt h
  rw [mv_len] at hlt
  by_cases h' : t = c.A.length
  · exact .inl h'
  · obtain ⟨x, h1, h2⟩ := h
    rw [mv_A (by omega)] at h1
    obtain ⟨k1, k2⟩ := kill_live ⟨x, h1, h2⟩
    exact .inr ⟨by omega, k1, k2⟩
theorem ext_mv {c : Cx} {tok : Nat} {o : AO} (hlive : c.live tok) : Ext c (c.mv tok o) := by
  refine ⟨⟨fun b hI _ => ⟨⟨hI.1, fun t ht => ?_⟩, rfl⟩, fun t ht => ?_, by rw [mv_len]; omega⟩, rfl, rfl, fun b _ => rfl, ⟨rfl, rfl, rfl⟩⟩
  · rcases mv_live ht with rfl | ⟨h1, _, h3⟩
    · rw [mv_ρn]; exact hI.2 tok hlive
    · rw [mv_ρ h1]; exact hI.2 t h3
  · have := (ext_kill c tok).le.tok t ht
    unfold TokLe at *
    rw [mv_A ht, mv_ρ ht]; exact this
theorem hr_mv {c : Cx} (H : HR c) {tok : Nat} {o : AO} (hlive : c.live tok) (ho : ObjOk c (c.ρ tok) o) : HR (c.mv tok o) := by
  have E := ext_mv (o := o) hlive
  refine ⟨fun t b ht hb => ?_, fun t u b ht hu h1 h2 => ?_, fun t x h => ?_, H.old, fun g v h => ?_⟩
  · rcases mv_live ht with rfl | ⟨h1, _, h3⟩
    · rw [mv_ρn] at hb; exact H.far tok b hlive hb
    · rw [mv_ρ h1] at hb; exact H.far t b h3 hb
  · rcases mv_live ht with rfl | ⟨k1, k2, k3⟩ <;> rcases mv_live hu with rfl | ⟨j1, j2, j3⟩
    · rfl
    · rw [mv_ρn] at h1; rw [mv_ρ j1] at h2; exact absurd (H.inj tok u b hlive j3 h1 h2).symm j2
    · rw [mv_ρn] at h2; rw [mv_ρ k1] at h1; exact absurd (H.inj t tok b k3 hlive h1 h2) k2
    · rw [mv_ρ k1] at h1; rw [mv_ρ j1] at h2; exact H.inj t u b k3 j3 h1 h2
  · by_cases h' : t < c.A.length
    · rw [mv_A h'] at h
      rw [mv_ρ h']
      by_cases htt : tok = t
      · subst htt; rw [kill_self h'] at h; cases h; trivial
      · rw [kill_other htt] at h
        exact objOk_ext E (H.obj t x h) (fun _ _ _ => rfl)
    · have hlt := get_lt h
      rw [mv_len] at hlt
      have : t = c.A.length := by omega
      subst this
      rw [mv_new] at h; cases h
      rw [mv_ρn]
      exact objOk_ext E ho (fun _ _ _ => rfl)
  · exact (H.glo g v h).mono E.le.I
end Go.Ab
/-
  Cells of lists; data out of abstract values; what is frozen.
-/
namespace Go.Ab
open Go
/-! ### cells of a list of data -/
def Cells (I : Nat → Prop) (w : World) (e : Ty) (xs : List e.den) (L : List Value) : Prop :=
  L.length = List.length xs * e.size ∧ ∀ i (h : i < List.length xs), FzC I w e (xs[i]) ((L.drop (i * e.size)).take e.size)
theorem Cells.nil {I : Nat → Prop} {w : World} {e : Ty} : Cells I w e [] [] := ⟨by simp, fun i h => absurd h (by simp)⟩
theorem Cells.append {I : Nat → Prop} {w : World} {e : Ty} {xs ys : List e.den} {L M : List Value} (h : Cells I w e xs L) (h' : Cells I w e ys M) : Cells I w e (xs ++ ys) (L ++ M) := by
  refine ⟨by rw [List.length_append, h.1, h'.1, List.length_append, Nat.add_mul], fun i hi => ?_⟩
  by_cases hlt : i < List.length xs
  · have hle : i * e.size + e.size ≤ L.length := by rw [h.1, ← Nat.succ_mul]; exact Nat.mul_le_mul_right _ hlt
    rw [List.getElem_append_left hlt, List.drop_append_of_le_length (by omega), List.take_append_of_le_length (by simp; omega)]
    exact h.2 i hlt
  · have hge : List.length xs ≤ i := by omega
    rw [List.getElem_append_right hge]
    have hL : L.length ≤ i * e.size := by rw [h.1]; exact Nat.mul_le_mul_right _ hge
    rw [List.drop_append, List.drop_eq_nil_of_le hL, List.nil_append]
    have := h'.2 (i - List.length xs) (by simp at hi; omega)
    rw [h.1, ← Nat.sub_mul]; exact this
theorem Cells.one {I : Nat → Prop} {w : World} {e : Ty} {x : e.den} {L : List Value} (h : FzC I w e x L) : Cells I w e [x] L := by
  refine ⟨by simp [h.len], fun i hi => ?_⟩
  have : i = 0 := by simp at hi; omega
  subst this
  simp only [Nat.zero_mul, List.drop_zero, List.getElem_cons_zero]
  rw [← h.len, List.take_length]; exact h
theorem Cells.take {I : Nat → Prop} {w : World} {e : Ty} {xs : List e.den} {L : List Value} (h : Cells I w e xs L) (n : Nat) (hn : n ≤ List.length xs) : Cells I w e (xs.take n) (L.take (n * e.size)) := by
  have hle : n * e.size ≤ L.length := by rw [h.1]; exact Nat.mul_le_mul_right _ hn
  refine ⟨by rw [List.length_take, List.length_take, Nat.min_eq_left hle, Nat.min_eq_left hn], fun i hi => ?_⟩
  have hi' : i < n := by simp at hi; omega
  have h1 : i * e.size + e.size ≤ n * e.size := by rw [← Nat.succ_mul]; exact Nat.mul_le_mul_right _ hi'
  rw [List.getElem_take, List.drop_take, List.take_take, Nat.min_eq_left (by omega)]
  exact h.2 i (by omega)
theorem Cells.drop {I : Nat → Prop} {w : World} {e : Ty} {xs : List e.den} {L : List Value} (h : Cells I w e xs L) (n : Nat) : Cells I w e (xs.drop n) (L.drop (n * e.size)) := by
  refine ⟨by rw [List.length_drop, h.1, List.length_drop, Nat.sub_mul], fun i hi => ?_⟩
  rw [List.length_drop] at hi
  rw [List.getElem_drop, List.drop_drop, ← Nat.add_mul]
  exact h.2 (n + i) (by omega)
theorem Cells.seg {I : Nat → Prop} {w : World} {e : Ty} {xs : List e.den} {L : List Value} (h : Cells I w e xs L) (o n : Nat) (hn : o + n ≤ List.length xs) : Cells I w e ((xs.drop o).take n) ((L.drop (o * e.size)).take (n * e.size)) :=
  (h.drop o).take n (by simp; omega)
theorem Cells.mono {I I' : Nat → Prop} {w w' : World} (hm : ∀ b, I b → b < w.heap.size → I' b ∧ w'.heap[b]? = w.heap[b]?) {e : Ty} {xs : List e.den} {L : List Value} (h : Cells I w e xs L) : Cells I' w' e xs L :=
  ⟨h.1, fun i hi => (h.2 i hi).mono hm⟩
theorem Cells.ext {c c' : Cx} (H : Ext c c') {e : Ty} {xs : List e.den} {L : List Value} (h : Cells c.I c.w e xs L) : Cells c'.I c'.w e xs L := h.mono H.le.I
theorem Cells.ocell {I : Nat → Prop} {w : World} {e : Ty} : ∀ {xs : List e.den} {L : List Value}, Cells I w e xs L → ∀ v ∈ L, ocell v = true
  | [], L, h, v, hv => by
    have : L = [] := List.eq_nil_of_length_eq_zero (by simpa using h.1)
    subst this; cases hv
  | x :: xs, L, h, v, hv => by
    have h0 := h.2 0 (by simp)
    simp only [Nat.zero_mul, List.drop_zero] at h0
    have h1 := h.drop 1
    simp only [List.drop_succ_cons, List.drop_zero, Nat.one_mul] at h1
    rw [← List.take_append_drop e.size L] at hv
    rcases List.mem_append.1 hv with hv | hv
    · exact h0.cells1 _ _ _ v hv
    · exact Cells.ocell h1 v hv
theorem Cells.set {I : Nat → Prop} {w : World} {e : Ty} {xs : List e.den} {L : List Value} (h : Cells I w e xs L) {i : Nat} (hi : i < List.length xs) {y : e.den} {M : List Value} (hy : FzC I w e y M) :
    Cells I w e (xs.set i y) (L.take (i * e.size) ++ M ++ L.drop (i * e.size + e.size)) := by
  have e1 : xs.set i y = xs.take i ++ [y] ++ xs.drop (i + 1) := by
    rw [List.set_eq_take_append_cons_drop, if_pos hi]; simp
  rw [e1]
  have := ((h.take i (by omega)).append (Cells.one hy)).append (h.drop (i + 1))
  rwa [Nat.succ_mul] at this
/-- a row's block -/
theorem row_iff {c : Cx} {r : Option Nat} {e : Ty} {xs : List e.den} (h : ObjOk c r (.row e xs)) : (r = none ∧ xs = []) ∨ ∃ b cs et L R, r = some b ∧ c.w.heap[b]? = some (.cells cs et (0, 0)) ∧ cs.toList = L ++ R ∧ Cells c.I c.w e xs L := by
  rcases h with ⟨h1, h2⟩ | ⟨b, cs, et, h1, h2, h3⟩
  · exact .inl ⟨h1, List.eq_nil_of_length_eq_zero h2⟩
  · refine .inr ⟨b, cs, et, cs.toList.take (List.length xs * e.size), cs.toList.drop (List.length xs * e.size), h1, h2, by simp, ?_⟩
    have key : ∀ i (hi : i < List.length xs), ∃ ds, FzC c.I c.w e xs[i] ds ∧ (cs.toList.drop (i * e.size)).take e.size = ds := by
      intro i hi
      obtain ⟨ds, k1, k2⟩ := h3 i hi
      refine ⟨ds, k1, ?_⟩
      have hl := k1.len
      apply List.ext_getElem?
      intro j
      rw [List.getElem?_take, List.getElem?_drop]
      by_cases hj : j < e.size
      · rw [if_pos hj]
        have := k2 j (by omega)
        rw [List.getElem?_eq_getElem (l := ds) (by omega), ← this]; simp
      · rw [if_neg hj, List.getElem?_eq_none (by omega)]
    have hlen : List.length xs * e.size ≤ cs.toList.length := by
      rcases Nat.eq_zero_or_pos (List.length xs) with h0 | h0
      · rw [h0]; omega
      · obtain ⟨ds, k1, k2⟩ := key (List.length xs - 1) (by omega)
        have := congrArg List.length k2
        rw [k1.len, List.length_take, List.length_drop] at this
        by_cases hz : e.size = 0
        · rw [hz]; omega
        · have h5 : List.length xs * e.size = (List.length xs - 1) * e.size + e.size := by
            rw [← Nat.succ_mul]; congr 1; omega
          omega
    refine ⟨by rw [List.length_take]; omega, fun i hi => ?_⟩
    obtain ⟨ds, k1, k2⟩ := key i hi
    have h1 : i * e.size + e.size ≤ List.length xs * e.size := by rw [← Nat.succ_mul]; exact Nat.mul_le_mul_right _ hi
    rw [List.drop_take, List.take_take, Nat.min_eq_left (by omega), k2]
    exact k1
theorem row_mk {c : Cx} {b : Nat} {cs : Array Value} {et : TypeId} {e : Ty} {xs : List e.den} {L R : List Value} (h2 : c.w.heap[b]? = some (.cells cs et (0, 0))) (h3 : cs.toList = L ++ R) (h4 : Cells c.I c.w e xs L) : ObjOk c (some b) (.row e xs) := by
  refine .inr ⟨b, cs, et, rfl, h2, fun i hi => ?_⟩
  have k := h4.2 i hi
  refine ⟨_, k, fun j hj => ?_⟩
  have hl := k.len
  have hj' : j < e.size := by omega
  have h1 : i * e.size + e.size ≤ List.length xs * e.size := by rw [← Nat.succ_mul]; exact Nat.mul_le_mul_right _ hi
  have h5 := h4.1
  rw [← Array.getElem?_toList, h3, List.getElem?_append_left (by omega)]
  rw [← List.getElem?_eq_getElem hj, List.getElem?_take, if_pos hj', List.getElem?_drop]
/-- an immutable list's cells -/
theorem list_cells {I : Nat → Prop} {w : World} {e : Ty} {xs : List e.den} {v : Value} (h : FzC I w (.list e) xs [v]) (_hs : 0 < e.size) : ∃ p cap L, v = .slice p (List.length xs) cap ∧ List.length xs ≤ cap ∧ Cells I w e xs L ∧ (0 < List.length xs → ∃ b off, p = some ⟨b, off, none⟩ ∧ ∀ j (hj : j < L.length), w.cell? ⟨b, off + j, none⟩ = some L[j]) := by
  unfold FzC at h
  obtain ⟨p, cap, hv, hle, hall⟩ := h
  simp at hv
  rcases Nat.eq_zero_or_pos (List.length xs) with h0 | h0
  · have : xs = [] := List.eq_nil_of_length_eq_zero h0
    subst this
    exact ⟨p, cap, [], hv, hle, Cells.nil, fun h => absurd h (by simp)⟩
  · obtain ⟨b, off, _, hp, _⟩ := hall 0 h0
    have key : ∀ m (hm : m ≤ List.length xs), ∃ L, Cells I w e (xs.take m) L ∧ ∀ j (hj : j < L.length), w.cell? ⟨b, off + j, none⟩ = some L[j] := by
      intro m
      induction m with
      | zero => intro _; exact ⟨[], by simpa using Cells.nil, fun j hj => absurd hj (by simp)⟩
      | succ m ih =>
        intro hm
        obtain ⟨L, h1, h2⟩ := ih (by omega)
        obtain ⟨b', off', cs, hp', _, _, hf, hc⟩ := hall m (by omega)
        rw [hp] at hp'; cases hp'
        have hL : L.length = m * e.size := by rw [h1.1, List.length_take, Nat.min_eq_left (by omega)]
        refine ⟨L ++ cs, ?_, fun j hj => ?_⟩
        · rw [List.take_succ_eq_append_getElem (by omega)]
          exact h1.append (Cells.one hf)
        · by_cases hlt : j < L.length
          · rw [List.getElem_append_left hlt]; exact h2 j hlt
          · rw [List.getElem_append_right (by omega)]
            have := hc (j - L.length) (by simp at hj; omega)
            rw [← this]; congr 2; omega
    obtain ⟨L, h1, h2⟩ := key (List.length xs) (Nat.le_refl _)
    rw [List.take_length] at h1
    exact ⟨p, cap, L, hv, hle, h1, fun _ => ⟨b, off, hp, h2⟩⟩
/-! ### data out of cells -/
def Ty.ofN {α : Type} (f : List AV → Option α) (s : Nat) : Nat → List AV → Option (List α)
  | 0, _ => some []
  | n + 1, l => match f (l.take s), Ty.ofN f s n (l.drop s) with
    | some x, some xs => some (x :: xs)
    | _, _ => none
def ofInt (k : IntKind) (l : List AV) : Option Int := match l with
  | [.fz (.int k') n] => match kEq k k' with
    | true => some n
    | false => none
  | _ => none
def ofBool (l : List AV) : Option Bool := match l with
  | [.fz .bool b] => some b
  | _ => none
def ofStr (l : List AV) : Option ByteArray := match l with
  | [.fz .str s] => some s
  | _ => none
def fkEq : FloatKind → FloatKind → Bool
  | .f32, .f32 => true
  | .f64, .f64 => true
  | _, _ => false
theorem fkEq_of {a b : FloatKind} (h : fkEq a b = true) : a = b := by cases a <;> cases b <;> first | rfl | cases h
def ofFlt (k : FloatKind) (l : List AV) : Option Nat := match l with
  | [.fz (.flt k') n] => match fkEq k k' with
    | true => some n
    | false => none
  | _ => none
def ofRaw (l : List AV) : Option Value := match l with
  | [.fz .raw v] => some v
  | [.glob g] => some (.pointer (some ⟨g, 0, none⟩))
  | _ => none
def ofList (e : Ty) (l : List AV) : Option (List e.den) := match l with
  | [.fz (.list e') xs] => if h : e' = e then some (h ▸ xs) else none
  | [.nilSl] => some []
  | _ => none
def Ty.ofC : (t : Ty) → List AV → Option t.den
  | .int k, l => ofInt k l
  | .bool, l => ofBool l
  | .str, l => ofStr l
  | .flt k, l => ofFlt k l
  | .raw, l => ofRaw l
  | .list e, l => ofList e l
  | .one a, l => Ty.ofC a l
  | .pair a b, l => match Ty.ofC a (l.take a.size), Ty.ofC b (l.drop a.size) with
    | some x, some y => some (x, y)
    | _, _ => none
  | .arr n e, l => match Nat.beq l.length (n * e.size) with
    | true => Ty.ofN (fun l => Ty.ofC e l) e.size n l
    | false => none
def Ty.ofV (t : Ty) (v : AV) : Option t.den := match v with
  | .fz u x => if h : u = t then some (h ▸ x) else t.ofC (acells (.fz u x))
  | v => t.ofC (acells v)
theorem RelL.one {c : Cx} {a : AV} {vs : List Value} (h : RelL c [a] vs) : ∃ v, vs = [v] ∧ Rel c a v := by
  unfold RelL at h
  obtain ⟨v, r, rfl, h1, h2⟩ := h
  unfold RelL at h2; subst h2
  exact ⟨v, rfl, h1⟩
theorem RelL.split {c : Cx} {l : List AV} {vs : List Value} (h : RelL c l vs) (n : Nat) : RelL c (l.take n) (vs.take n) ∧ RelL c (l.drop n) (vs.drop n) := by
  refine ⟨RelL.of_get _ _ (by simp [h.length]) (fun i a v h1 h2 => ?_), RelL.of_get _ _ (by simp [h.length]) (fun i a v h1 h2 => ?_)⟩
  · rw [List.getElem?_take] at h1 h2
    split at h1
    · rename_i hi; rw [if_pos hi] at h2
      obtain ⟨v', e1, e2⟩ := h.get _ _ _ _ h1
      rw [e1] at h2; cases h2; exact e2
    · cases h1
  · rw [List.getElem?_drop] at h1 h2
    obtain ⟨v', e1, e2⟩ := h.get _ _ _ _ h1
    rw [e1] at h2; cases h2; exact e2
theorem fz_one {c : Cx} {t : Ty} {x : t.den} {v : Value} (ha : t.isAgg = false) (h : Rel c (.fz t x) v) : FzC c.I c.w t x [v] := by
  unfold Rel at h
  obtain ⟨cs, h1, rfl⟩ := h
  have hl := h1.len
  rw [isAgg_size ha] at hl
  match cs, hl with
  | [v], _ => unfold valOf; rw [if_neg (by simp [ha])]; exact h1
theorem one_cell {c : Cx} {a : AV} {vs : List Value} {Q : List Value → Prop} (h : RelL c [a] vs) (hq : ∀ v, Rel c a v → Q [v]) : Q vs := by
  obtain ⟨v, rfl, h1⟩ := h.one; exact hq v h1
theorem ofN_sound {c : Cx} {e : Ty} {f : List AV → Option e.den} (hf : ∀ l vs x, f l = some x → RelL c l vs → FzC c.I c.w e x vs) : ∀ (n : Nat) (l : List AV) (vs : List Value) (x : List e.den), Ty.ofN f e.size n l = some x → RelL c l vs → l.length = n * e.size →
    List.length x = n ∧ ∃ css : List (List Value), css.length = n ∧ vs = css.flatten ∧ ∀ i (h : i < List.length x), FzC c.I c.w e (x[i]) (css.getD i [])
  | 0, l, vs, x, h, hr, hl => by
    unfold Ty.ofN at h; cases h
    have hl' : l = [] := List.eq_nil_of_length_eq_zero (by simpa using hl)
    subst hl'; unfold RelL at hr; subst hr
    exact ⟨rfl, [], rfl, rfl, fun i hi => absurd hi (by simp)⟩
  | n + 1, l, vs, x, h, hr, hl => by
    unfold Ty.ofN at h
    have hs := hr.split e.size
    split at h
    · rename_i y ys h1 h2
      cases h
      obtain ⟨k1, css, k2, k3, k4⟩ := ofN_sound hf n _ _ _ h2 hs.2 (by rw [List.length_drop, hl, Nat.succ_mul]; omega)
      refine ⟨by simp [k1], vs.take e.size :: css, by simp [k2], by simp [← k3], fun i hi => ?_⟩
      cases i with
      | zero => exact hf _ _ _ h1 hs.1
      | succ i => exact k4 i (by simpa using hi)
    · cases h
theorem ofC_sound {c : Cx} : ∀ (t : Ty) (l : List AV) (vs : List Value) (x : t.den), t.ofC l = some x → RelL c l vs → FzC c.I c.w t x vs := by
  intro t
  induction t with
  | int k =>
    intro l vs x h hr
    have h : ofInt k l = some x := h
    unfold ofInt at h
    split at h
    · split at h
      · rename_i he; cases h; have := kEq_of he; subst this
        exact one_cell hr fun v hv => fz_one rfl hv
      · cases h
    · cases h
  | bool =>
    intro l vs x h hr
    have h : ofBool l = some x := h
    unfold ofBool at h
    split at h
    · cases h; exact one_cell hr fun v hv => fz_one rfl hv
    · cases h
  | str =>
    intro l vs x h hr
    have h : ofStr l = some x := h
    unfold ofStr at h
    split at h
    · cases h; exact one_cell hr fun v hv => fz_one rfl hv
    · cases h
  | flt k =>
    intro l vs x h hr
    have h : ofFlt k l = some x := h
    unfold ofFlt at h
    split at h
    · split at h
      · rename_i he; cases h; have := fkEq_of he; subst this
        exact one_cell hr fun v hv => fz_one rfl hv
      · cases h
    · cases h
  | raw =>
    intro l vs x h hr
    have h : ofRaw l = some x := h
    unfold ofRaw at h
    split at h
    · cases h; exact one_cell hr fun v hv => fz_one rfl hv
    · cases h
      refine one_cell hr fun v hv => ?_
      unfold Rel at hv; subst hv
      exact ⟨rfl, rfl⟩
    · cases h
  | list e _ =>
    intro l vs x h hr
    have h : ofList e l = some x := h
    unfold ofList at h
    split at h
    · split at h
      · rename_i he; subst he; cases h
        exact one_cell hr fun v hv => fz_one rfl hv
      · cases h
    · cases h
      refine one_cell hr fun v hv => ?_
      unfold Rel at hv; obtain ⟨p, rfl⟩ := hv
      exact ⟨p, 0, rfl, Nat.le_refl _, fun i hi => absurd hi (by simp)⟩
    · cases h
  | one a ih => intro l vs x h hr; exact ih l vs x h hr
  | pair a b iha ihb =>
    intro l vs x h hr
    unfold Ty.ofC at h
    have hs := hr.split a.size
    split at h
    · rename_i y z h1 h2
      cases h
      exact ⟨_, _, (List.take_append_drop a.size vs).symm, iha _ _ _ h1 hs.1, ihb _ _ _ h2 hs.2⟩
    · cases h
  | arr n e ih =>
    intro l vs x h hr
    unfold Ty.ofC at h
    split at h
    · rename_i hb
      exact ofN_sound (fun l vs x h hr => ih l vs x h hr) n l vs x h hr (beq_eq hb)
    · cases h
/-- a value's cells as data -/
theorem ofV_sound {c : Cx} {t : Ty} {a : AV} {v : Value} {x : t.den} (hg : goodC c.A (acells a) = true) (h : t.ofV a = some x) (hr : Rel c a v) : FzC c.I c.w t x v.cells.toList := by
  unfold Ty.ofV at h
  split at h
  · split at h
    · rename_i he; subst he; cases h
      unfold Rel at hr
      obtain ⟨cs, h1, rfl⟩ := hr
      rw [valOf_cells h1]; exact h1
    · exact ofC_sound t _ _ _ h (cells_sound hg hr)
  · exact ofC_sound t _ _ _ h (cells_sound hg hr)
/-! ### a list that nobody writes any more -/
theorem ref_freeze {c : Cx} (H : HR c) {tok off len : Nat} {e : Ty} {xs : List e.den} {v : Value} (h0 : c.A[tok]? = some (.row e xs)) (h : Rel c (.ref tok off len) v) (hle : off + len ≤ List.length xs) :
    Rel (c.kill tok) (.fz (.list e) ((List.drop off xs).take len)) v := by
  have E := ext_kill c tok
  have hlive : c.live tok := ⟨_, h0, rfl⟩
  unfold Rel at h
  rw [h0] at h
  simp only at h
  have hl : ((List.drop off xs).take len).length = len := by rw [List.length_take, List.length_drop]; omega
  rcases h with ⟨b, cap, cs, et, a, hr, rfl, ha, hcap, hh, hsz⟩ | ⟨hr, rfl, rfl, p, rfl⟩
  · have ho := H.obj tok _ h0
    rw [hr] at ho
    rcases row_iff ho with ⟨h1, _⟩ | ⟨b', cs', et', L, R, h1, h2, h3, h4⟩
    · cases h1
    · cases h1
      rw [hh] at h2; cases h2
      have hI : (c.kill tok).I b := ⟨H.far tok b hlive hr, fun t ht he => (kill_live ht).1 (H.inj t tok b (kill_live ht).2 hlive he hr)⟩
      unfold Rel
      refine ⟨[.slice (some a) len cap], ?_, rfl⟩
      unfold FzC
      refine ⟨some a, cap, by rw [hl], by omega, fun i hi => ?_⟩
      have hi' : i < len := by omega
      have := ha (by omega); subst this
      have hf := (h4.ext E).2 (off + i) (by omega)
      refine ⟨b, off * e.size, (L.drop ((off + i) * e.size)).take e.size, rfl, hI, some_lt hh, ?_, fun j hj => ?_⟩
      · rw [List.getElem_take, List.getElem_drop]; exact hf
      · have hj' : j < e.size := by have := hf.len; omega
        have h6 : (off + i) * e.size + e.size ≤ L.length := by rw [h4.1, ← Nat.succ_mul]; exact Nat.mul_le_mul_right _ (by omega)
        show c.w.cell? _ = _
        unfold World.cell?
        simp only [hh]
        rw [← List.getElem?_eq_getElem hj, List.getElem?_take, if_pos hj', List.getElem?_drop, ← Array.getElem?_toList, h3, List.getElem?_append_left (by rw [Nat.add_mul] at h6; omega)]
        simp [Nat.add_mul]
  · unfold Rel
    refine ⟨[.slice p 0 0], ?_, rfl⟩
    unfold FzC
    refine ⟨p, 0, by simp, by simp, fun i hi => absurd hi (by simp)⟩
end Go.Ab
/-
  Operations that make or write memory (1): variables, stores.
-/
namespace Go.Ab
open Go
structure ER where
  C : Option Prop
  v : AV
  A : List AO
def eno : ER := ⟨some False, .unk, []⟩
def egate (b : Bool) (x : ER) : ER := match b with
  | true => x
  | false => eno
theorem egate_of {b : Bool} {x : ER} (h : Hold (egate b x).C) : b = true ∧ Hold x.C := by
  cases b
  · exact False.elim h
  · exact ⟨rfl, h⟩
theorem egate_true {b : Bool} {x : ER} (h : b = true) : egate b x = x := by subst h; rfl
/-- what an operation must do -/
def EffOk (P : Program) (c : Cx) (s : Sem Next) (r : ER) : Prop :=
  ∃ c' nx v, s.run P c.w = .ok nx c'.w ∧ (nx = .value v ∨ (nx = .skip ∧ v = undef)) ∧ Ext c c' ∧ HR c' ∧ c'.A = r.A ∧ Rel c' r.v v
theorem ocell_oneCell {v : Value} (h : ocell v = true) : v.oneCell' = true := by cases v <;> first | rfl | cases h
/-! ### freezing -/
def frz : List AO → List AV → Option Prop × List AV × List AO
  | A, [] => (none, [], A)
  | A, a :: l => match a with
    | .ref tok off len => match A[tok]? with
      | some (.row e xs) => match frz (A.set tok .dead) l with
        | (C, l', A') => (andC (some (off + len ≤ List.length xs)) C, .fz (.list e) ((List.drop off xs).take len) :: l', A')
      | _ => (some False, [], A)
    | a => match frz A l with
      | (C, l', A') => (C, a :: l', A')
/-- the same, but some let go -/
structure Killed (c c' : Cx) : Prop where
  w : c'.w = c.w
  ρ : c'.ρ = c.ρ
  len : c'.A.length = c.A.length
  A : ∀ t : Nat, c'.A[t]? = c.A[t]? ∨ c'.A[t]? = some .dead
theorem Killed.refl (c : Cx) : Killed c c := ⟨rfl, rfl, rfl, fun _ => .inl rfl⟩
theorem Killed.trans {c c' c'' : Cx} (h : Killed c c') (h' : Killed c' c'') : Killed c c'' := by
  refine ⟨h'.w.trans h.w, h'.ρ.trans h.ρ, h'.len.trans h.len, fun t => ?_⟩
  rcases h'.A t with h1 | h1
  · rcases h.A t with h2 | h2
    · exact .inl (h1.trans h2)
    · exact .inr (h1.trans h2)
  · exact .inr h1
theorem killed_kill (c : Cx) (tok : Nat) (h : tok < c.A.length) : Killed c (c.kill tok) := by
  refine ⟨rfl, rfl, by show (c.A.set tok _).length = _; simp, fun t => ?_⟩
  by_cases ht : tok = t
  · subst ht; exact .inr (kill_self h)
  · exact .inl (kill_other ht)
theorem frz_sound : ∀ (l : List AV) (c : Cx) (vs : List Value), HR c → RelL c l vs → Hold (frz c.A l).1 → ∃ c', Killed c c' ∧ Ext c c' ∧ HR c' ∧ c'.A = (frz c.A l).2.2 ∧ RelL c' (frz c.A l).2.1 vs
  | [], c, vs, H, hr, _ => ⟨c, Killed.refl c, Ext.refl c, H, rfl, hr⟩
  | a :: l, c, vs, H, hr, hC => by
    unfold RelL at hr
    obtain ⟨v, r, rfl, h1, h2⟩ := hr
    unfold frz at *
    split
    · rename_i tok off len
      simp only at hC ⊢
      cases h0 : c.A[tok]? with
      | none => rw [h0] at hC; exact False.elim hC
      | some o =>
        rw [h0] at hC
        cases o <;> try exact False.elim hC
        rename_i e xs
        simp only at hC ⊢
        obtain ⟨hle, hC⟩ := andC_of hC
        have hf := ref_freeze H h0 h1 hle
        obtain ⟨c', k1, k2, k3, k4, k5⟩ := frz_sound l (c.kill tok) r (hr_kill H tok) (h2.ext (ext_kill c tok)) hC
        refine ⟨c', (killed_kill c tok (get_lt h0)).trans k1, (ext_kill c tok).trans k2, k3, k4, ?_⟩
        unfold RelL
        exact ⟨v, r, rfl, hf.ext k2, k5⟩
    · rename_i hne
      split at hC
      · rename_i tok off len; exact absurd rfl (hne tok off len)
      · obtain ⟨c', k1, k2, k3, k4, k5⟩ := frz_sound l c r H h2 hC
        refine ⟨c', k1, k2, k3, k4, ?_⟩
        unfold RelL
        exact ⟨v, r, rfl, h1.ext k2, k5⟩
/-- a value as data -/
def toD (A : List AO) (t : Ty) (v : AV) : Option Prop × Option t.den × List AO := match goodC A (acells v) with
  | true => match v with
    | .fz u x => (none, t.ofV (.fz u x), A)
    | v => match frz A (acells v) with
      | (C, l, A') => (C, t.ofC l, A')
  | false => (some False, none, A)
theorem toD_sound {c : Cx} (H : HR c) {t : Ty} {a : AV} {v : Value} {x : t.den} (hr : Rel c a v) (hC : Hold (toD c.A t a).1) (hx : (toD c.A t a).2.1 = some x) :
    ∃ c', Killed c c' ∧ Ext c c' ∧ HR c' ∧ c'.A = (toD c.A t a).2.2 ∧ FzC c'.I c'.w t x v.cells.toList := by
  unfold toD at *
  cases hg : goodC c.A (acells a) with
  | false => rw [hg] at hC; exact False.elim hC
  | true =>
    rw [hg] at hC hx
    simp only at hC hx ⊢
    split
    · rename_i u y
      exact ⟨c, Killed.refl c, Ext.refl c, H, rfl, ofV_sound hg hx hr⟩
    · rename_i hne
      split at hC
      · rename_i u y; exact absurd rfl (hne u y)
      · split at hx
        · rename_i u y _; exact absurd rfl (hne u y)
        · obtain ⟨c', k1, k2, k3, k4, k5⟩ := frz_sound _ c _ H (cells_sound hg hr) hC
          exact ⟨c', k1, k2, k3, k4, ofC_sound t _ _ _ hx k5⟩
/-! ### new variables -/
def aAlloc (D : Tab) (A : List AO) (t : TypeId) : ER := match tzero D t with
  | some z => ⟨none, .ptr A.length 0, A ++ [.box z]⟩
  | none => eno
def aBox (A : List AO) (v : AV) : ER := egate (goodC A (acells v)) ⟨none, .ptr A.length 0, A ++ [.box (acells v)]⟩
theorem newVar_sound {P : Program} {c : Cx} (H : HR c) {t : TypeId} {v : Value} {l : List AV} (hr : RelL c l v.cells.toList) :
    ∃ c', (newVar t v).run P c.w = .ok ⟨c.w.heap.size, 0, none⟩ c'.w ∧ Ext c c' ∧ HR c' ∧ c'.A = c.A ++ [.box l] ∧ Rel c' (.ptr c.A.length 0) (.pointer (some ⟨c.w.heap.size, 0, none⟩)) := by
  have E := ext_new H v.cells t (.box l)
  refine ⟨c.new v.cells t (.box l), by simp [newVar, newRow]; rfl, E, hr_new H ?_, rfl, ?_⟩
  · exact ⟨c.w.heap.size, v.cells.toList, t, rfl, by simpa using new_heap_new, hr.ext E⟩
  · unfold Rel
    rw [new_A_new]
    exact ⟨c.w.heap.size, new_ρ_new, rfl⟩
theorem aAlloc_sound {P : Program} {D : Tab} (hD : TabOk P D) {c : Cx} (H : HR c) {t : TypeId} (h : Hold (aAlloc D c.A t).C) : EffOk P c (do pure (.value (← Instr.alloc t true (.tuple #[])))) (aAlloc D c.A t) := by
  unfold aAlloc at *
  cases hz : tzero D t with
  | none => rw [hz] at h; exact False.elim h
  | some z =>
    obtain ⟨zv, h1, h2⟩ := tzero_sound hD hz c
    obtain ⟨c', k1, k2, k3, k4, k5⟩ := newVar_sound (P := P) (t := t) H h2
    exact ⟨c', _, _, by simp [Instr.alloc, h1, k1], .inl rfl, k2, k3, k4, k5⟩
theorem aBox_sound {P : Program} {c : Cx} (H : HR c) {t : TypeId} {a : AV} {v : Value} (hr : Rel c a v) (h : Hold (aBox c.A a).C) : EffOk P c (do pure (.value (← Instr.box t v))) (aBox c.A a) := by
  unfold aBox at *
  obtain ⟨hb, _⟩ := egate_of h
  rw [egate_true hb]
  obtain ⟨c', k1, k2, k3, k4, k5⟩ := newVar_sound (P := P) (t := t) H (cells_sound hb hr)
  exact ⟨c', _, _, by simp [Instr.box, k1], .inl rfl, k2, k3, k4, k5⟩
/-! ### stores -/
def aStoreE (A : List AO) (tok i off : Nat) (sz : Nat) (v : AV) : ER := match A[tok]? with
  | some (.row e _) => match Nat.beq off 0 && Nat.beq sz e.size with
    | true => match toD A e v with
      | (C, some y, A') => match A'[tok]? with
        | some (.row e' xs) => if he : e = e' then ⟨andC C (some (i < List.length xs)), .unk, A'.set tok (.row e' (List.set xs i (he ▸ y)))⟩ else eno
        | _ => eno
      | _ => eno
    | false => match frz A (acells v) with
      | (C, l, A') => match A'[tok]? with
        | some (.row e' xs) => match e'.ofC (setRange (e'.cav (List.getD xs i e'.dft)) off l) with
          | some y => egate (goodC A (acells v) && Nat.beq (acells v).length sz && Nat.ble (off + sz) e'.size) ⟨andC C (some (i < List.length xs)), .unk, A'.set tok (.row e' (List.set xs i y))⟩
          | none => eno
        | _ => eno
  | _ => eno
def aStore (D : Tab) (A : List AO) (t : TypeId) (addr v : AV) : ER := match Nat.blt 0 (tsz D t) with
  | true => match addr with
    | .ptr tok off => match A[tok]? with
      | some (.box vs) => egate (fits A (acells v) (tsz D t) off vs.length) ⟨none, .unk, A.set tok (.box (setRange vs off (acells v)))⟩
      | _ => eno
    | .elt tok i off => aStoreE A tok i off (tsz D t) v
    | _ => eno
  | false => eno
theorem setRange_toList (cs : Array Value) (o : Nat) (vs : List Value) : setRange cs.toList o vs = cs.toList.take o ++ vs ++ cs.toList.drop (o + vs.length) := rfl
theorem run_storeVar' {P : Program} {D : Tab} (hD : TabOk P D) {w : World} {t : TypeId} {b o : Nat} {v : Value} {cur : Array Value} {et : TypeId} (hg : w.heap[b]? = some (.cells cur et (0, 0))) (hz : 0 < tsz D t) (hs : v.cells.size = tsz D t) (hfit : o + tsz D t ≤ cur.size)
    (h1 : ∀ u ∈ v.cells.toList, ocell u = true) : (Instr.storeAt t (.pointer (some ⟨b, o, none⟩)) v).run P w = .ok () (w.setRow b (setRange cur.toList o v.cells.toList).toArray) := by
  have := run_storeCells_at P b o et v.cells.toList 0 cur w hg (by simp; omega) (fun u hu => ocell_oneCell (h1 u hu))
  simp only [Nat.add_zero] at this
  simp [Instr.storeAt, Instr.sureAddr, storeVar, run_sizeOf hD rfl hz, hs, this, setRange]
theorem setRange_size {cur : Array Value} {o : Nat} {vs : List Value} (h : o + vs.length ≤ cur.size) : (setRange cur.toList o vs).toArray.size = cur.size := by
  unfold setRange; simp; omega
theorem aStore_sound {P : Program} {D : Tab} (hD : TabOk P D) {c : Cx} (H : HR c) {t : TypeId} {x y : AV} {a v : Value} (hx : Rel c x a) (hy : Rel c y v) (h : Hold (aStore D c.A t x y).C) :
    EffOk P c (do Instr.storeAt t a v; pure .skip) (aStore D c.A t x y) := by
  unfold aStore at *
  cases hz : Nat.blt 0 (tsz D t) with
  | false => rw [hz] at h; exact False.elim h
  | true =>
  rw [hz] at h
  simp only at h ⊢
  have hz := blt_of hz
  cases x <;> try exact False.elim h
  case ptr tok off =>
    simp only at h ⊢
    cases h0 : c.A[tok]? with
    | none => rw [h0] at h; exact False.elim h
    | some o =>
      rw [h0] at h
      cases o <;> try exact False.elim h
      rename_i vs
      simp only at h ⊢
      obtain ⟨hb, _⟩ := egate_of h
      rw [egate_true hb]
      obtain ⟨g1, g2, g3⟩ := fits_of hb
      unfold Rel at hx
      rw [h0] at hx
      obtain ⟨b, hr, rfl⟩ := hx
      have ho := H.obj tok _ h0
      rw [hr] at ho
      obtain ⟨b', cs, et, hb', hh, hrel⟩ := ho
      cases hb'
      have hcs := cells_sound g1 hy
      have hl1 := hcs.length
      have hl2 := hrel.length
      have hsz : v.cells.size = tsz D t := by rw [← g2, ← hl1]; simp
      have hrun := run_storeVar' (w := c.w) (o := off) hD hh hz hsz (by simp; omega) (goodC_ocell _ _ g1 hcs)
      have hsize : (setRange cs off v.cells.toList).toArray.size = cs.toArray.size := by
        have := setRange_size (cur := cs.toArray) (o := off) (vs := v.cells.toList) (by simp; omega)
        simpa using this
      have E := ext_wr (o' := .box (setRange vs off (acells y))) H h0 trivial hr hh hsize
      refine ⟨c.wr tok b (setRange cs off v.cells.toList).toArray (.box (setRange vs off (acells y))), .skip, undef, ?_, .inr ⟨rfl, rfl⟩, E, hr_wr H h0 trivial hr hh hsize ?_, rfl, by unfold Rel; trivial⟩
      · simp only [Sem.run_bind, hrun, Result.andThen_ok, Sem.run_pure]; rfl
      · exact ⟨b, _, et, rfl, setRow_heap c.w b _ _ et (0, 0) hh, setRange_rel (hrel.ext E) (hcs.ext E)⟩
  case elt tok i off =>
    simp only at h ⊢
    unfold aStoreE at *
    have hx0 := hx
    unfold Rel at hx
    cases h0 : c.A[tok]? with
    | none => rw [h0] at h; exact False.elim h
    | some o =>
      rw [h0] at h hx
      cases o <;> try exact False.elim h
      rename_i e xs0
      simp only at h hx ⊢
      obtain ⟨b, hr, rfl⟩ := hx
      -- what follows once the data are known
      have fin : ∀ (c1 : Cx) (xs : List e.den) (z : e.den) (o' : Nat) (M : List Value), c1.w = c.w → Ext c c1 → HR c1 → c1.A[tok]? = some (.row e xs) → i < List.length xs → v.cells.size = tsz D t → (∀ u ∈ v.cells.toList, ocell u = true) →
          (∀ L : List Value, Cells c1.I c1.w e xs L → i * e.size + off + tsz D t ≤ L.length ∧ Cells c1.I c1.w e (List.set xs i z) (setRange L (i * e.size + off) v.cells.toList)) →
          EffOk P c (do Instr.storeAt t (.pointer (some ⟨b, i * e.size + off, none⟩)) v; pure .skip) ⟨none, .unk, c1.A.set tok (.row e (List.set xs i z))⟩ := by
        intro c1 xs z o' M hw E1 H1 hA hi hsz hoc hcell
        have hr1 : c1.ρ tok = some b := by
          have := E1.le.tok tok (get_lt h0)
          unfold TokLe at this
          rw [hA] at this
          rcases this with this | this
          · exact this.2.1.trans hr
          · rw [h0] at this; cases this
        have ho := H1.obj tok _ hA
        rw [hr1] at ho
        rcases row_iff ho with ⟨hn, _⟩ | ⟨b', cs, et, L, R, hb', hh, hcs, hL⟩
        · cases hn
        · cases hb'
          obtain ⟨hlen, hnew⟩ := hcell L hL
          have hLe : L.length ≤ cs.size := by have := congrArg List.length hcs; simp at this; omega
          have hrun := run_storeVar' (w := c1.w) (o := i * e.size + off) hD hh hz hsz (by omega) hoc
          have hvl : v.cells.toList.length = tsz D t := by simpa using hsz
          have hsize : (setRange cs.toList (i * e.size + off) v.cells.toList).toArray.size = cs.size := setRange_size (by omega)
          have E := ext_wr (o' := .row e (List.set xs i z)) H1 hA rfl hr1 hh hsize
          refine ⟨c1.wr tok b (setRange cs.toList (i * e.size + off) v.cells.toList).toArray (.row e (List.set xs i z)), .skip, undef, ?_, .inr ⟨rfl, rfl⟩, E1.trans E, hr_wr H1 hA rfl hr1 hh hsize ?_, rfl, by unfold Rel; trivial⟩
          · rw [← hw]; simp only [Sem.run_bind, hrun, Result.andThen_ok, Sem.run_pure]; rfl
          · refine row_mk (L := setRange L (i * e.size + off) v.cells.toList) (R := R) (setRow_heap c1.w b _ _ et (0, 0) hh) ?_ (hnew.ext E)
            rw [hcs]; unfold setRange
            rw [List.take_append_of_le_length (by omega), List.drop_append_of_le_length (by omega)]
            simp [List.append_assoc]
      cases hw : (Nat.beq off 0 && Nat.beq (tsz D t) e.size) with
      | true =>
        rw [hw] at h
        simp only [Bool.and_eq_true] at hw
        have hoff := beq_eq hw.1
        have hsz := beq_eq hw.2
        subst hoff
        simp only at h ⊢
        generalize hd : toD c.A e y = d at *
        obtain ⟨C, oy, A'⟩ := d
        cases oy with
        | none => exact False.elim h
        | some z =>
          simp only at h ⊢
          cases hA : A'[tok]? with
          | none => rw [hA] at h; exact False.elim h
          | some o' =>
            rw [hA] at h
            cases o' <;> try exact False.elim h
            rename_i e' xs
            simp only at h ⊢
            by_cases he : e = e'
            · subst he
              rw [dif_pos rfl] at h ⊢
              obtain ⟨hC, hi⟩ := andC_of h
              obtain ⟨c1, k1, k2, k3, k4, k5⟩ := toD_sound (t := e) (x := z) H hy (by rw [hd]; exact hC) (by rw [hd])
              rw [hd] at k4
              have hvl := k5.len
              have := fin c1 xs z 0 [] k1.w k2 k3 (by rw [k4]; exact hA) hi (by rw [hsz, ← hvl]; simp) (k5.cells1 _ _ _) (fun L hL => by
                have hle : i * e.size + e.size ≤ L.length := by rw [hL.1, ← Nat.succ_mul]; exact Nat.mul_le_mul_right _ hi
                refine ⟨by omega, ?_⟩
                have := hL.set (y := z) hi k5
                unfold setRange
                rw [Nat.add_zero, hvl]
                exact this)
              rw [k4] at this
              obtain ⟨c', nx, v', j1, j2, j3, j4, j5, j6⟩ := this
              exact ⟨c', nx, v', j1, j2, j3, j4, j5, j6⟩
            · rw [dif_neg he] at h; exact False.elim h
      | false =>
        rw [hw] at h
        simp only at h ⊢
        generalize hd : frz c.A (acells y) = d at *
        obtain ⟨C, l, A'⟩ := d
        simp only at h ⊢
        cases hA : A'[tok]? with
        | none => rw [hA] at h; exact False.elim h
        | some o' =>
          rw [hA] at h
          cases o' <;> try exact False.elim h
          rename_i e' xs
          simp only at h ⊢
          cases hz' : e'.ofC (setRange (e'.cav (List.getD xs i e'.dft)) off l) with
          | none => rw [hz'] at h; exact False.elim h
          | some z =>
            rw [hz'] at h
            simp only at h ⊢
            obtain ⟨hb, h⟩ := egate_of h
            rw [egate_true hb]
            simp only [Bool.and_eq_true] at hb
            obtain ⟨⟨g1, g2⟩, g3⟩ := hb
            have g2 := beq_eq g2
            have g3 := Nat.le_of_ble_eq_true g3
            obtain ⟨hC, hi⟩ := andC_of h
            have hcs := cells_sound g1 hy
            obtain ⟨c1, k1, k2, k3, k4, k5⟩ := frz_sound _ c _ H hcs (by rw [hd]; exact hC)
            rw [hd] at k4 k5
            simp only at k4 k5
            have hA1 : c1.A[tok]? = some (.row e' xs) := by rw [k4]; exact hA
            have hee : e = e' := by
              have := k2.le.tok tok (get_lt h0)
              unfold TokLe at this
              rw [hA1] at this
              rcases this with ⟨⟨xs', h1⟩, _⟩ | h1
              · rw [h0] at h1; cases h1; rfl
              · rw [h0] at h1; cases h1
            subst hee
            have hi : i < List.length xs := hi
            have hl1 := hcs.length
            have hvl : v.cells.toList.length = tsz D t := by omega
            have := fin c1 xs z 0 [] k1.w k2 k3 hA1 hi (by simpa using hvl) (goodC_ocell _ _ g1 hcs) (fun L hL => by
              have hle : i * e.size + e.size ≤ L.length := by rw [hL.1, ← Nat.succ_mul]; exact Nat.mul_le_mul_right _ hi
              refine ⟨by omega, ?_⟩
              have hold := hL.2 i hi
              have hcav := cav_sound e _ _ hold
              have hg : List.getD xs i e.dft = xs[i] := getD_of_lt hi
              rw [hg] at hz'
              have hnew := ofC_sound e _ _ _ hz' (setRange_rel hcav k5)
              have := hL.set (y := z) hi hnew
              have e1 : L.take (i * e.size) ++ setRange ((L.drop (i * e.size)).take e.size) off v.cells.toList ++ L.drop (i * e.size + e.size) = setRange L (i * e.size + off) v.cells.toList := by
                unfold setRange
                have e2 : ((L.drop (i * e.size)).take e.size).take off = (L.drop (i * e.size)).take off := by rw [List.take_take, Nat.min_eq_left (by omega)]
                have e3 : L.take (i * e.size + off) = L.take (i * e.size) ++ (L.drop (i * e.size)).take off := List.take_add
                have e4 : ((L.drop (i * e.size)).take e.size).drop (off + v.cells.toList.length) ++ L.drop (i * e.size + e.size) = L.drop (i * e.size + off + v.cells.toList.length) := by
                  rw [List.drop_take, List.drop_drop]
                  have e5 : L.drop (i * e.size + e.size) = (L.drop (i * e.size + (off + v.cells.toList.length))).drop (e.size - (off + v.cells.toList.length)) := by
                    rw [List.drop_drop]; congr 1; omega
                  rw [e5, List.take_append_drop]; congr 1; omega
                rw [e2, e3, ← e4]; simp [List.append_assoc]
              rw [e1] at this; exact this)
            rw [k4] at this
            obtain ⟨c', nx, v', j1, j2, j3, j4, j5, j6⟩ := this
            exact ⟨c', nx, v', j1, j2, j3, j4, j5, j6⟩
end Go.Ab
/-
  Operations that make or write memory (2): slices made, built, appended to, copied into.
-/
namespace Go.Ab
open Go
/-! ### types of elements -/
def tyL (g : TypeId → Option Ty) : List (Nat × Nat) → Option Ty
  | [] => none
  | [x] => g x.2
  | x :: l => match g x.2, tyL g l with
    | some a, some b => some (.pair a b)
    | _, _ => none
def tyFs (g : TypeId → Option Ty) (l : List (Nat × Nat)) : Option Ty := match l with
  | [x] => match g x.2 with
    | some a => some (.one a)
    | none => none
  | l => tyL g l
def tyOf (D : Tab) : Nat → TypeId → Option Ty
  | 0, _ => none
  | f + 1, t => match tlook D t with
    | none => none
    | some e => match e.d with
      | .int k => some (.int k)
      | .bool => some .bool
      | .str => some .str
      | .flt k => some (.flt k)
      | .slice u => match tyOf D f u with
        | some x => some (.list x)
        | none => none
      | .arr n u => match tyOf D f u with
        | some x => some (.arr n x)
        | none => none
      | .struct fs => tyFs (tyOf D f) fs
      | .ifc => some .raw
      | .ptr _ => some .raw
      | .fn => none
      | .other => none
def zRep : Nat → List Z → List Z
  | 0, _ => []
  | n + 1, l => l ++ zRep n l
def Ty.zs : Ty → List Z
  | .int k => [.int k]
  | .bool => [.bool]
  | .str => [.str]
  | .flt k => [.flt k]
  | .raw => [.nilI]
  | .list _ => [.nilSl]
  | .one a => a.zs
  | .pair a b => a.zs ++ b.zs
  | .arr n e => zRep n e.zs
theorem zRep_flat (_I : Nat → Prop) (_w : World) (n : Nat) (l : List Z) : (zRep n l).map Z.val = (List.replicate n (l.map Z.val)).flatten := by
  induction n with
  | zero => rfl
  | succ n ih => unfold zRep; rw [List.map_append, ih, List.replicate_succ, List.flatten_cons]
theorem dft_fz (I : Nat → Prop) (w : World) : ∀ t : Ty, FzC I w t t.dft (t.zs.map Z.val)
  | .int k => rfl
  | .bool => rfl
  | .str => rfl
  | .flt k => rfl
  | .raw => ⟨rfl, rfl⟩
  | .list e => ⟨none, 0, rfl, Nat.le_refl _, fun i hi => absurd hi (by unfold Ty.dft; simp)⟩
  | .one a => dft_fz I w a
  | .pair a b => ⟨_, _, by show (a.zs ++ b.zs).map Z.val = _; rw [List.map_append], dft_fz I w a, dft_fz I w b⟩
  | .arr n e => by
    refine ⟨by unfold Ty.dft; simp, List.replicate n (e.zs.map Z.val), by simp, by show (zRep n e.zs).map Z.val = _; rw [zRep_flat I w], fun i hi => ?_⟩
    have hi' : i < n := by unfold Ty.dft at hi; simpa using hi
    have e1 : (List.replicate n (List.map Z.val e.zs)).getD i [] = e.zs.map Z.val := by simp [List.getD, hi']
    have e2 : (Ty.arr n e).dft[i] = e.dft := (show ∀ (l : List e.den) (_ : l = List.replicate n e.dft) (h : i < l.length), l[i] = e.dft by intro l hl h; subst hl; simp) _ rfl hi
    rw [e1, e2]; exact dft_fz I w e
def zEq : Z → Z → Bool
  | .int k, .int k' => kEq k k'
  | .bool, .bool => true
  | .str, .str => true
  | .flt k, .flt k' => fkEq k k'
  | .nilSl, .nilSl => true
  | .nilI, .nilI => true
  | .nilF, .nilF => true
  | .nilP, .nilP => true
  | .nilM, .nilM => true
  | _, _ => false
def zsEq : List Z → List Z → Bool
  | [], [] => true
  | a :: l, b :: m => zEq a b && zsEq l m
  | _, _ => false
theorem zEq_of {a b : Z} (h : zEq a b = true) : a = b := by
  cases a <;> cases b <;> first | rfl | (cases h; done) | (have := kEq_of h; subst this; rfl) | (have := fkEq_of h; subst this; rfl)
theorem zsEq_of : ∀ {l m : List Z}, zsEq l m = true → l = m
  | [], [], _ => rfl
  | [], _ :: _, h => by cases h
  | _ :: _, [], h => by cases h
  | a :: l, b :: m, h => by
    unfold zsEq at h
    simp only [Bool.and_eq_true] at h
    rw [zEq_of h.1, zsEq_of h.2]
/-- an element's type: its size, its zero are as they should be -/
def elOk (D : Tab) (el : TypeId) (e : Ty) : Bool := match tlook D el with
  | some i => (Nat.beq i.sz e.size && Nat.blt 0 e.size) && (zsEq i.z e.zs && Nat.ble i.bt 4096)
  | none => false
theorem elOk_of {P : Program} {D : Tab} (hD : TabOk P D) {el : TypeId} {e : Ty} (h : elOk D el e = true) :
    ∃ i z, P.info? el = some i ∧ i.zero = some z ∧ i.size = e.size ∧ 0 < e.size ∧ i.bytes ≤ 4096 ∧ z.cells.toList = e.zs.map Z.val ∧ i.bytes = tby D el := by
  unfold elOk at h
  unfold tby
  cases hi : tlook D el with
  | none => rw [hi] at h; cases h
  | some x =>
    rw [hi] at h
    simp only [Bool.and_eq_true] at h
    obtain ⟨⟨h1, h2⟩, h3, h4⟩ := h
    obtain ⟨i, d, k1, k2, k3, k4, k5, k6, k7⟩ := tlook_info hD hi
    have hz := zsEq_of h3
    have hpos := blt_of h2
    have hlen : (e.zs.map Z.val).length = e.size := (dft_fz (fun _ => True) default e).len
    cases hv : i.zero with
    | none =>
      rw [hv] at k5
      simp only [List.isEmpty_iff] at k5
      rw [← hz, k5] at hlen
      simp at hlen; omega
    | some v =>
      rw [hv] at k5
      refine ⟨i, v, k1, hv, by rw [k3]; exact beq_eq h1, hpos, by rw [k7]; exact Nat.le_of_ble_eq_true h4, ?_, k7⟩
      rw [zsAre_map k5, hz]
theorem zcells {I : Nat → Prop} {w : World} {e : Ty} {z : Array Value} (hz : z.toList = e.zs.map Z.val) (_hpos : 0 < e.size) (n : Nat) :
    Cells I w e (List.replicate n e.dft) ((Array.range (n * e.size)).map (z[· % z.size]!)).toList := by
  have hd := dft_fz I w e
  have hlen : z.toList.length = e.size := by rw [hz]; exact hd.len
  have hsz : z.size = e.size := by simpa using hlen
  refine ⟨by simp, fun i hi => ?_⟩
  have hi' : i < n := by simpa using hi
  have e0 : (List.replicate n e.dft)[i] = e.dft := by simp
  rw [e0]
  have : (((Array.range (n * e.size)).map (z[· % z.size]!)).toList.drop (i * e.size)).take e.size = e.zs.map Z.val := by
    rw [← hz]
    apply List.ext_getElem?
    intro j
    rw [List.getElem?_take, List.getElem?_drop]
    by_cases hj : j < e.size
    · rw [if_pos hj]
      have hlt : i * e.size + j < n * e.size := by
        have : i * e.size + e.size ≤ n * e.size := by rw [← Nat.succ_mul]; exact Nat.mul_le_mul_right _ hi'
        omega
      have hm : (i * e.size + j) % z.size = j := by rw [hsz, Nat.mul_comm, Nat.mul_add_mod, Nat.mod_eq_of_lt hj]
      simp [hlt, hm]
      rw [getElem!_pos z j (by omega), Array.getElem?_eq_getElem (by omega)]
    · rw [if_neg hj, List.getElem?_eq_none (by omega)]
  rw [this]; exact hd
/-! ### make -/
def aMake (D : Tab) (A : List AO) (t : TypeId) (n m : AV) : ER := match telem D t with
  | some el => match tyOf D 8 el with
    | some e => match aInt n, aInt m with
      | some n, some m => egate (elOk D el e) ⟨some (0 ≤ n ∧ n ≤ m ∧ m ≤ 4294967296), .ref A.length 0 n.toNat, A ++ [.row e (List.replicate n.toNat e.dft)]⟩
      | _, _ => eno
    | none => eno
  | none => eno
theorem row_new_sound {c : Cx} (H : HR c) {el : TypeId} {e : Ty} {xs : List e.den} {cs : Array Value} {L R : List Value} {n cap : Nat} (_hpos : 0 < e.size) (hcs : cs.toList = L ++ R) (hL : Cells c.I c.w e xs L) (hcap : cs.size = cap * e.size) (_hn : n = List.length xs) (hle : n ≤ cap) :
    Ext c (c.new cs el (.row e xs)) ∧ HR (c.new cs el (.row e xs)) ∧ Rel (c.new cs el (.row e xs)) (.ref c.A.length 0 n) (.slice (some ⟨c.w.heap.size, 0, none⟩) n cap) := by
  have E := ext_new H cs el (.row e xs)
  refine ⟨E, hr_new H (row_mk new_heap_new hcs (hL.ext E)), ?_⟩
  unfold Rel
  rw [new_A_new]
  exact .inl ⟨c.w.heap.size, cap, cs, el, _, new_ρ_new, rfl, fun _ => by simp, hle, new_heap_new, by rw [hcap]; simp⟩
theorem aMake_sound {P : Program} {D : Tab} (hD : TabOk P D) {c : Cx} (H : HR c) {t : TypeId} {x y : AV} {a b : Value} (hx : Rel c x a) (hy : Rel c y b) (h : Hold (aMake D c.A t x y).C) :
    EffOk P c (do pure (.value (← Instr.makeSlice t a b))) (aMake D c.A t x y) := by
  unfold aMake at *
  cases hel : telem D t with
  | none => rw [hel] at h; exact False.elim h
  | some el =>
  rw [hel] at h
  simp only at h ⊢
  cases hty : tyOf D 8 el with
  | none => rw [hty] at h; exact False.elim h
  | some e =>
  rw [hty] at h
  simp only at h ⊢
  cases hn : aInt x with
  | none => rw [hn] at h; exact False.elim h
  | some n =>
  cases hm : aInt y with
  | none => rw [hn, hm] at h; exact False.elim h
  | some m =>
  rw [hn, hm] at h
  simp only at h ⊢
  obtain ⟨hb, h1, h2, h3⟩ := egate_of h
  rw [egate_true hb]
  obtain ⟨k, rfl⟩ := aInt_of hn hx
  obtain ⟨k', rfl⟩ := aInt_of hm hy
  obtain ⟨i, z, j1, j2, j3, j4, j5, j6, _⟩ := elOk_of hD hb
  obtain ⟨n, rfl⟩ := Int.eq_ofNat_of_zero_le h1
  obtain ⟨m, rfl⟩ := Int.eq_ofNat_of_zero_le (show 0 ≤ m by omega)
  have w1 : IntKind.i64.wrap (n : Int) = n := I64.wrap (by unfold I64; omega)
  have w2 : IntKind.i64.wrap (m : Int) = m := I64.wrap (by unfold I64; omega)
  have hbm : i.bytes * m ≤ 17592186044416 := by
    have := Nat.mul_le_mul j5 (show m ≤ 4294967296 by omega)
    simpa using this
  have hcells := zcells (I := c.I) (w := c.w) (z := z.cells) j6 j4 m
  have hLL := hcells.take n (by simp; omega)
  rw [List.take_replicate, Nat.min_eq_left (by omega)] at hLL
  obtain ⟨E, H', hrel⟩ := row_new_sound (el := el) (cap := m) (n := n) (cs := (Array.range (m * e.size)).map (z.cells[· % z.cells.size]!)) (L := (((Array.range (m * e.size)).map (z.cells[· % z.cells.size]!)).toList.take (n * e.size))) (R := (((Array.range (m * e.size)).map (z.cells[· % z.cells.size]!)).toList.drop (n * e.size))) H j4 (by rw [List.take_append_drop]) hLL (by simp) (by simp) (by omega)
  refine ⟨_, _, _, ?_, .inl rfl, E, H', rfl, hrel⟩
  have hbi : ¬ (281474976710656 < (i.bytes : Int) * (m : Int)) := by
    have : ((i.bytes * m : Nat) : Int) ≤ 17592186044416 := Int.ofNat_le.mpr hbm
    rw [Int.natCast_mul] at this; omega
  have hask : (askRoom (m * i.bytes)).run P c.w = .ok () c.w := by
    unfold askRoom roomBytes
    rw [if_neg (by rw [Nat.mul_comm]; omega)]; rfl
  by_cases hm0 : m = 0
  · subst hm0
    have hn0 : n = 0 := by omega
    subst hn0
    have w0 : IntKind.i64.wrap 0 = 0 := I64.wrap (by unfold I64; omega)
    simp [Instr.makeSlice, run_underlying' (of_telem hD hel), asInt, asIntOf, typeInfo, j1, w0, askRoom, roomBytes, sizeOf, newRow, Cx.new]
    have er : Array.range 0 = #[] := rfl
    rw [er, Array.map_empty, Array.map_empty]
  · have hne : ¬ (m = 0 ∨ e.size = 0) := by omega
    have g1 : ¬ ((m : Int) < 0) := by omega
    have g2 : ¬ ((n : Int) < 0) := by omega
    have g3 : ¬ ((m : Int) < (n : Int)) := by omega
    simp [Instr.makeSlice, run_underlying' (of_telem hD hel), asInt, asIntOf, typeInfo, j1, w1, w2, g1, g2, g3, hbi, sizeOf, j3, zeroValue, j2, newRow, Cx.new]
    intro h
    rcases Nat.mul_eq_zero.1 h with h | h <;> omega
/-! ### a built slice -/
def aPutAll (e : Ty) : List AO → List e.den → List (Nat × AV) → Option Prop × Option (List e.den) × List AO
  | A, xs, [] => (none, some xs, A)
  | A, xs, (i, v) :: ps => match Nat.blt i xs.length && Nat.beq (acells v).length e.size with
    | true => match toD A e v with
      | (C, some y, A') => match aPutAll e A' (List.set xs i y) ps with
        | (C', r, A'') => (andC C C', r, A'')
      | (_, none, A') => (some False, none, A')
    | false => (some False, none, A)
def aBuildSlice (D : Tab) (A : List AO) (t : TypeId) (n : Nat) (ps : List (Nat × AV)) : ER := match telem D t with
  | some el => match tyOf D 8 el with
    | some e => match elOk D el e && Nat.ble (n * e.size) 16777216 with
      | true => match aPutAll e A (List.replicate n e.dft) ps with
        | (C, some xs, A') => ⟨C, .ref A'.length 0 n, A' ++ [.row e xs]⟩
        | _ => eno
      | false => eno
    | none => eno
  | none => eno
theorem toD_good {A : List AO} {t : Ty} {v : AV} (h : Hold (toD A t v).1) : goodC A (acells v) = true := by
  unfold toD at h
  cases hg : goodC A (acells v) with
  | true => rfl
  | false => rw [hg] at h; exact False.elim h
theorem fold_fill (u : List Value) (off : Nat) (cs : Array Value) (h : off + u.length ≤ cs.size) :
    (u.toArray.zipIdx.foldl (fun cs (x : Value × Nat) => cs.setIfInBounds (off + x.2) x.1) cs).toList = setRange cs.toList off u := by
  rw [← Array.foldl_toList]
  simp only [Array.toList_zipIdx]
  have := fold_set u off 0 cs (by simpa using h)
  simpa using this
theorem aPutAll_sound {e : Ty} (hpos : 0 < e.size) : ∀ (ps : List (Nat × AV)) (vs : List (Nat × Value)) (c : Cx) (xs : List e.den) (cs : Array Value), HR c → ps.length = vs.length →
    (∀ (i : Nat) a v, ps[i]? = some a → vs[i]? = some v → a.1 = v.1 ∧ Rel c a.2 v.2) → Cells c.I c.w e xs cs.toList → Hold (aPutAll e c.A xs ps).1 → ∀ ys, (aPutAll e c.A xs ps).2.1 = some ys →
    ∃ c' cs', c'.w = c.w ∧ Ext c c' ∧ HR c' ∧ c'.A = (aPutAll e c.A xs ps).2.2 ∧ Instr.fill (fun i => some (i * e.size, e.size)) cs vs = some cs' ∧ Cells c'.I c'.w e ys cs'.toList ∧ List.length ys = List.length xs
  | [], vs, c, xs, cs, H, hl, _, hc, _, ys, hy => by
    have : vs = [] := List.eq_nil_of_length_eq_zero (by simpa using hl.symm)
    subst this
    unfold aPutAll at hy; cases hy
    exact ⟨c, cs, rfl, Ext.refl c, H, rfl, rfl, hc, rfl⟩
  | (i, a) :: ps, [], _, _, _, _, hl, _, _, _, _, _ => by simp at hl
  | (i, a) :: ps, (j, v) :: vs, c, xs, cs, H, hl, hall, hc, hC, ys, hy => by
    obtain ⟨e1, e2⟩ := hall 0 _ _ rfl rfl
    simp at e1 e2
    subst e1
    unfold aPutAll at *
    cases hb : (Nat.blt i xs.length && Nat.beq (acells a).length e.size) with
    | false => rw [hb] at hC; exact False.elim hC
    | true =>
      rw [hb] at hC hy
      simp only [Bool.and_eq_true] at hb
      have hi := blt_of hb.1
      have hal := beq_eq hb.2
      simp only at hC hy ⊢
      generalize hd : toD c.A e a = d at *
      obtain ⟨C, oy, A1⟩ := d
      cases oy with
      | none => exact False.elim hC
      | some y =>
        simp only at hC hy ⊢
        obtain ⟨hC1, hC2⟩ := andC_of hC
        have hC1' : Hold (toD c.A e a).1 := by rw [hd]; exact hC1
        obtain ⟨c1, k1, k2, k3, k4, k5⟩ := toD_sound (t := e) (x := y) H e2 hC1' (by rw [hd])
        rw [hd] at k4
        have k4 : c1.A = A1 := k4
        have hvl := k5.len
        have hcl := hc.1
        have hle : i * e.size + e.size ≤ List.length xs * e.size := by rw [← Nat.succ_mul]; exact Nat.mul_le_mul_right _ hi
        have hcs : cs.size = List.length xs * e.size := by simpa using hcl
        have hfl := fold_fill v.cells.toList (i * e.size) cs (by omega)
        rw [← k4] at hC2 hy
        obtain ⟨c', cs', j1, j2, j3, j4, j5, j6, j7⟩ := aPutAll_sound hpos ps vs c1 (List.set xs i y) (v.cells.zipIdx.foldl (fun cs (x : Value × Nat) => cs.setIfInBounds (i * e.size + x.2) x.1) cs) k3 (by simpa using hl)
          (fun n p q h1 h2 => by
            obtain ⟨g1, g2⟩ := hall (n + 1) p q (by simpa using h1) (by simpa using h2)
            exact ⟨g1, g2.ext k2⟩) (by
            have hfl' : (v.cells.zipIdx.foldl (fun cs (x : Value × Nat) => cs.setIfInBounds (i * e.size + x.2) x.1) cs).toList = setRange cs.toList (i * e.size) v.cells.toList := by simpa using hfl
            rw [hfl']
            have := (hc.ext k2).set (y := y) hi k5
            unfold setRange; rw [hvl]; exact this) hC2 ys hy
        refine ⟨c', cs', j1.trans k1.w, k2.trans j2, j3, by rw [j4, k4], ?_, j6, by rw [j7]; simp⟩
        unfold Instr.fill
        simp only
        rw [if_neg (by simp at hvl ⊢; omega)]
        exact j5
theorem aBuildSlice_sound {P : Program} {D : Tab} (hD : TabOk P D) {c : Cx} (H : HR c) {t : TypeId} {n : Nat} {ps : List (Nat × AV)} {vs : Array (Nat × Value)} (hl : ps.length = vs.toList.length)
    (hall : ∀ (i : Nat) a v, ps[i]? = some a → vs.toList[i]? = some v → a.1 = v.1 ∧ Rel c a.2 v.2) (h : Hold (aBuildSlice D c.A t n ps).C) :
    EffOk P c (do pure (.value (← Instr.buildSlice t n vs))) (aBuildSlice D c.A t n ps) := by
  unfold aBuildSlice at *
  cases hel : telem D t with
  | none => rw [hel] at h; exact False.elim h
  | some el =>
  rw [hel] at h
  simp only at h ⊢
  cases hty : tyOf D 8 el with
  | none => rw [hty] at h; exact False.elim h
  | some e =>
  rw [hty] at h
  simp only at h ⊢
  cases hb : (elOk D el e && Nat.ble (n * e.size) 16777216) with
  | false => rw [hb] at h; exact False.elim h
  | true =>
  rw [hb] at h
  simp only [Bool.and_eq_true] at hb
  simp only at h ⊢
  obtain ⟨i, z, j1, j2, j3, j4, j5, j6, _⟩ := elOk_of hD hb.1
  have hn := Nat.le_of_ble_eq_true hb.2
  generalize hp : aPutAll e c.A (List.replicate n e.dft) ps = d at *
  obtain ⟨C, oxs, A'⟩ := d
  cases oxs with
  | none => exact False.elim h
  | some xs =>
    simp only at h ⊢
    have hz := zcells (I := c.I) (w := c.w) (z := z.cells) j6 j4 n
    obtain ⟨c1, cs', k1, k2, k3, k4, k5, k6, k7⟩ := aPutAll_sound j4 ps vs.toList c _ ((Array.range (n * e.size)).map (z.cells[· % z.cells.size]!)) H hl hall hz (by rw [hp]; exact h) xs (by rw [hp])
    rw [hp] at k4
    have k4 : c1.A = A' := k4
    have hlen : List.length xs = n := by rw [k7]; simp
    have hcs : cs'.size = n * e.size := by have := k6.1; rw [hlen] at this; simpa using this
    obtain ⟨E, H', hrel⟩ := row_new_sound (el := el) (cap := n) (n := n) (cs := cs') (L := cs'.toList) (R := []) k3 j4 (by simp) k6 hcs hlen.symm (Nat.le_refl _)
    refine ⟨_, _, _, ?_, .inl rfl, k2.trans E, H', by rw [← k4]; rfl, by rw [← k4]; exact hrel⟩
    have hb16 : ¬ (16777216 < n * e.size) := by omega
    have hnew : (c1.new cs' el (.row e xs)).w = c.w.alloc (.cells cs' el) := by show c1.w.alloc _ = _; rw [k1]
    rw [hnew, k1]
    simp [Instr.buildSlice, run_underlying' (of_telem hD hel), sizeOf, typeInfo, j1, j3, hb16, newRow, zeroValue, j2]
    by_cases h0 : n * e.size = 0
    · rw [if_pos h0]
      have hf : Instr.fill (fun i => some (i * e.size, e.size)) (Array.map (fun _ => (default : Value)) (Array.range (n * e.size))) vs.toList = some cs' := by
        rw [← k5, h0]
        have er : Array.range 0 = #[] := rfl
        rw [er, Array.map_empty, Array.map_empty]
      rw [hf]; simp
    · rw [if_neg h0, k5]; simp
end Go.Ab
