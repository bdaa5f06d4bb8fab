/-
  Operations that make or write memory (1): variables, stores.
-/
import Derived.Test.YtidhgdipnfhoeaaDoorAc2
namespace Go.Ab
open Go
structure ER where
  C : Option Prop
  v : AV
  A : List AO
def eno : ER := ⟨some False, .unk, []⟩
def egate (b : Bool) (x : ER) : ER := match b with
  | true => x
  | false => eno
theorem egate_of {b : Bool} {x : ER} (h : Hold (egate b x).C) : b = true ∧ Hold x.C := by
  cases b
  · exact False.elim h
  · exact ⟨rfl, h⟩
theorem egate_true {b : Bool} {x : ER} (h : b = true) : egate b x = x := by subst h; rfl
/-- what an operation must do -/
def EffOk (P : Program) (c : Cx) (s : Sem Next) (r : ER) : Prop :=
  ∃ c' nx v, s.run P c.w = .ok nx c'.w ∧ (nx = .value v ∨ (nx = .skip ∧ v = undef)) ∧ Ext c c' ∧ HR c' ∧ c'.A = r.A ∧ Rel c' r.v v
theorem ocell_oneCell {v : Value} (h : ocell v = true) : v.oneCell' = true := by cases v <;> first | rfl | cases h
/-! ### freezing -/
def frz : List AO → List AV → Option Prop × List AV × List AO
  | A, [] => (none, [], A)
  | A, a :: l => match a with
    | .ref tok off len => match A[tok]? with
      | some (.row e xs) => match frz (A.set tok .dead) l with
        | (C, l', A') => (andC (some (off + len ≤ List.length xs)) C, .fz (.list e) ((List.drop off xs).take len) :: l', A')
      | _ => (some False, [], A)
    | a => match frz A l with
      | (C, l', A') => (C, a :: l', A')
/-- the same, but some let go -/
structure Killed (c c' : Cx) : Prop where
  w : c'.w = c.w
  ρ : c'.ρ = c.ρ
  len : c'.A.length = c.A.length
  A : ∀ t : Nat, c'.A[t]? = c.A[t]? ∨ c'.A[t]? = some .dead
theorem Killed.refl (c : Cx) : Killed c c := ⟨rfl, rfl, rfl, fun _ => .inl rfl⟩
theorem Killed.trans {c c' c'' : Cx} (h : Killed c c') (h' : Killed c' c'') : Killed c c'' := by
  refine ⟨h'.w.trans h.w, h'.ρ.trans h.ρ, h'.len.trans h.len, fun t => ?_⟩
  rcases h'.A t with h1 | h1
  · rcases h.A t with h2 | h2
    · exact .inl (h1.trans h2)
    · exact .inr (h1.trans h2)
  · exact .inr h1
theorem killed_kill (c : Cx) (tok : Nat) (h : tok < c.A.length) : Killed c (c.kill tok) := by
  refine ⟨rfl, rfl, by show (c.A.set tok _).length = _; simp, fun t => ?_⟩
  by_cases ht : tok = t
  · subst ht; exact .inr (kill_self h)
  · exact .inl (kill_other ht)
theorem frz_sound : ∀ (l : List AV) (c : Cx) (vs : List Value), HR c → RelL c l vs → Hold (frz c.A l).1 → ∃ c', Killed c c' ∧ Ext c c' ∧ HR c' ∧ c'.A = (frz c.A l).2.2 ∧ RelL c' (frz c.A l).2.1 vs
  | [], c, vs, H, hr, _ => ⟨c, Killed.refl c, Ext.refl c, H, rfl, hr⟩
  | a :: l, c, vs, H, hr, hC => by
    unfold RelL at hr
    obtain ⟨v, r, rfl, h1, h2⟩ := hr
    unfold frz at *
    split
    · rename_i tok off len
      simp only at hC ⊢
      cases h0 : c.A[tok]? with
      | none => rw [h0] at hC; exact False.elim hC
      | some o =>
        rw [h0] at hC
        cases o <;> try exact False.elim hC
        rename_i e xs
        simp only at hC ⊢
        obtain ⟨hle, hC⟩ := andC_of hC
        have hf := ref_freeze H h0 h1 hle
        obtain ⟨c', k1, k2, k3, k4, k5⟩ := frz_sound l (c.kill tok) r (hr_kill H tok) (h2.ext (ext_kill c tok)) hC
        refine ⟨c', (killed_kill c tok (get_lt h0)).trans k1, (ext_kill c tok).trans k2, k3, k4, ?_⟩
        unfold RelL
        exact ⟨v, r, rfl, hf.ext k2, k5⟩
    · rename_i hne
      split at hC
      · rename_i tok off len; exact absurd rfl (hne tok off len)
      · obtain ⟨c', k1, k2, k3, k4, k5⟩ := frz_sound l c r H h2 hC
        refine ⟨c', k1, k2, k3, k4, ?_⟩
        unfold RelL
        exact ⟨v, r, rfl, h1.ext k2, k5⟩
/-- a value as data -/
def toD (A : List AO) (t : Ty) (v : AV) : Option Prop × Option t.den × List AO := match goodC A (acells v) with
  | true => match v with
    | .fz u x => (none, t.ofV (.fz u x), A)
    | v => match frz A (acells v) with
      | (C, l, A') => (C, t.ofC l, A')
  | false => (some False, none, A)
theorem toD_sound {c : Cx} (H : HR c) {t : Ty} {a : AV} {v : Value} {x : t.den} (hr : Rel c a v) (hC : Hold (toD c.A t a).1) (hx : (toD c.A t a).2.1 = some x) :
    ∃ c', Killed c c' ∧ Ext c c' ∧ HR c' ∧ c'.A = (toD c.A t a).2.2 ∧ FzC c'.I c'.w t x v.cells.toList := by
  unfold toD at *
  cases hg : goodC c.A (acells a) with
  | false => rw [hg] at hC; exact False.elim hC
  | true =>
    rw [hg] at hC hx
    simp only at hC hx ⊢
    split
    · rename_i u y
      exact ⟨c, Killed.refl c, Ext.refl c, H, rfl, ofV_sound hg hx hr⟩
    · rename_i hne
      split at hC
      · rename_i u y; exact absurd rfl (hne u y)
      · split at hx
        · rename_i u y _; exact absurd rfl (hne u y)
        · obtain ⟨c', k1, k2, k3, k4, k5⟩ := frz_sound _ c _ H (cells_sound hg hr) hC
          exact ⟨c', k1, k2, k3, k4, ofC_sound t _ _ _ hx k5⟩
/-! ### new variables -/
def aAlloc (D : Tab) (A : List AO) (t : TypeId) : ER := match tzero D t with
  | some z => ⟨none, .ptr A.length 0, A ++ [.box z]⟩
  | none => eno
def aBox (A : List AO) (v : AV) : ER := egate (goodC A (acells v)) ⟨none, .ptr A.length 0, A ++ [.box (acells v)]⟩
theorem newVar_sound {P : Program} {c : Cx} (H : HR c) {t : TypeId} {v : Value} {l : List AV} (hr : RelL c l v.cells.toList) :
    ∃ c', (newVar t v).run P c.w = .ok ⟨c.w.heap.size, 0, none⟩ c'.w ∧ Ext c c' ∧ HR c' ∧ c'.A = c.A ++ [.box l] ∧ Rel c' (.ptr c.A.length 0) (.pointer (some ⟨c.w.heap.size, 0, none⟩)) := by
  have E := ext_new H v.cells t (.box l)
  refine ⟨c.new v.cells t (.box l), by simp [newVar, newRow]; rfl, E, hr_new H ?_, rfl, ?_⟩
  · exact ⟨c.w.heap.size, v.cells.toList, t, rfl, by simpa using new_heap_new, hr.ext E⟩
  · unfold Rel
    rw [new_A_new]
    exact ⟨c.w.heap.size, new_ρ_new, rfl⟩
theorem aAlloc_sound {P : Program} {D : Tab} (hD : TabOk P D) {c : Cx} (H : HR c) {t : TypeId} (h : Hold (aAlloc D c.A t).C) : EffOk P c (do pure (.value (← Instr.alloc t true (.tuple #[])))) (aAlloc D c.A t) := by
  unfold aAlloc at *
  cases hz : tzero D t with
  | none => rw [hz] at h; exact False.elim h
  | some z =>
    obtain ⟨zv, h1, h2⟩ := tzero_sound hD hz c
    obtain ⟨c', k1, k2, k3, k4, k5⟩ := newVar_sound (P := P) (t := t) H h2
    exact ⟨c', _, _, by simp [Instr.alloc, h1, k1], .inl rfl, k2, k3, k4, k5⟩
theorem aBox_sound {P : Program} {c : Cx} (H : HR c) {t : TypeId} {a : AV} {v : Value} (hr : Rel c a v) (h : Hold (aBox c.A a).C) : EffOk P c (do pure (.value (← Instr.box t v))) (aBox c.A a) := by
  unfold aBox at *
  obtain ⟨hb, _⟩ := egate_of h
  rw [egate_true hb]
  obtain ⟨c', k1, k2, k3, k4, k5⟩ := newVar_sound (P := P) (t := t) H (cells_sound hb hr)
  exact ⟨c', _, _, by simp [Instr.box, k1], .inl rfl, k2, k3, k4, k5⟩
/-! ### stores -/
def aStoreE (A : List AO) (tok i off : Nat) (sz : Nat) (v : AV) : ER := match A[tok]? with
  | some (.row e _) => match Nat.beq off 0 && Nat.beq sz e.size with
    | true => match toD A e v with
      | (C, some y, A') => match A'[tok]? with
        | some (.row e' xs) => if he : e = e' then ⟨andC C (some (i < List.length xs)), .unk, A'.set tok (.row e' (List.set xs i (he ▸ y)))⟩ else eno
        | _ => eno
      | _ => eno
    | false => match frz A (acells v) with
      | (C, l, A') => match A'[tok]? with
        | some (.row e' xs) => match e'.ofC (setRange (e'.cav (List.getD xs i e'.dft)) off l) with
          | some y => egate (goodC A (acells v) && Nat.beq (acells v).length sz && Nat.ble (off + sz) e'.size) ⟨andC C (some (i < List.length xs)), .unk, A'.set tok (.row e' (List.set xs i y))⟩
          | none => eno
        | _ => eno
  | _ => eno
def aStore (D : Tab) (A : List AO) (t : TypeId) (addr v : AV) : ER := match Nat.blt 0 (tsz D t) with
  | true => match addr with
    | .ptr tok off => match A[tok]? with
      | some (.box vs) => egate (fits A (acells v) (tsz D t) off vs.length) ⟨none, .unk, A.set tok (.box (setRange vs off (acells v)))⟩
      | _ => eno
    | .elt tok i off => aStoreE A tok i off (tsz D t) v
    | _ => eno
  | false => eno
theorem setRange_toList (cs : Array Value) (o : Nat) (vs : List Value) : setRange cs.toList o vs = cs.toList.take o ++ vs ++ cs.toList.drop (o + vs.length) := rfl
theorem run_storeVar' {P : Program} {D : Tab} (hD : TabOk P D) {w : World} {t : TypeId} {b o : Nat} {v : Value} {cur : Array Value} {et : TypeId} (hg : w.heap[b]? = some (.cells cur et (0, 0))) (hz : 0 < tsz D t) (hs : v.cells.size = tsz D t) (hfit : o + tsz D t ≤ cur.size)
    (h1 : ∀ u ∈ v.cells.toList, ocell u = true) : (Instr.storeAt t (.pointer (some ⟨b, o, none⟩)) v).run P w = .ok () (w.setRow b (setRange cur.toList o v.cells.toList).toArray) := by
  have := run_storeCells_at P b o et v.cells.toList 0 cur w hg (by simp; omega) (fun u hu => ocell_oneCell (h1 u hu))
  simp only [Nat.add_zero] at this
  simp [Instr.storeAt, Instr.sureAddr, storeVar, run_sizeOf hD rfl hz, hs, this, setRange]
theorem setRange_size {cur : Array Value} {o : Nat} {vs : List Value} (h : o + vs.length ≤ cur.size) : (setRange cur.toList o vs).toArray.size = cur.size := by
  unfold setRange; simp; omega
theorem aStore_sound {P : Program} {D : Tab} (hD : TabOk P D) {c : Cx} (H : HR c) {t : TypeId} {x y : AV} {a v : Value} (hx : Rel c x a) (hy : Rel c y v) (h : Hold (aStore D c.A t x y).C) :
    EffOk P c (do Instr.storeAt t a v; pure .skip) (aStore D c.A t x y) := by
  unfold aStore at *
  cases hz : Nat.blt 0 (tsz D t) with
  | false => rw [hz] at h; exact False.elim h
  | true =>
  rw [hz] at h
  simp only at h ⊢
  have hz := blt_of hz
  cases x <;> try exact False.elim h
  case ptr tok off =>
    simp only at h ⊢
    cases h0 : c.A[tok]? with
    | none => rw [h0] at h; exact False.elim h
    | some o =>
      rw [h0] at h
      cases o <;> try exact False.elim h
      rename_i vs
      simp only at h ⊢
      obtain ⟨hb, _⟩ := egate_of h
      rw [egate_true hb]
      obtain ⟨g1, g2, g3⟩ := fits_of hb
      unfold Rel at hx
      rw [h0] at hx
      obtain ⟨b, hr, rfl⟩ := hx
      have ho := H.obj tok _ h0
      rw [hr] at ho
      obtain ⟨b', cs, et, hb', hh, hrel⟩ := ho
      cases hb'
      have hcs := cells_sound g1 hy
      have hl1 := hcs.length
      have hl2 := hrel.length
      have hsz : v.cells.size = tsz D t := by rw [← g2, ← hl1]; simp
      have hrun := run_storeVar' (w := c.w) (o := off) hD hh hz hsz (by simp; omega) (goodC_ocell _ _ g1 hcs)
      have hsize : (setRange cs off v.cells.toList).toArray.size = cs.toArray.size := by
        have := setRange_size (cur := cs.toArray) (o := off) (vs := v.cells.toList) (by simp; omega)
        simpa using this
      have E := ext_wr (o' := .box (setRange vs off (acells y))) H h0 trivial hr hh hsize
      refine ⟨c.wr tok b (setRange cs off v.cells.toList).toArray (.box (setRange vs off (acells y))), .skip, undef, ?_, .inr ⟨rfl, rfl⟩, E, hr_wr H h0 trivial hr hh hsize ?_, rfl, by unfold Rel; trivial⟩
      · simp only [Sem.run_bind, hrun, Result.andThen_ok, Sem.run_pure]; rfl
      · exact ⟨b, _, et, rfl, setRow_heap c.w b _ _ et (0, 0) hh, setRange_rel (hrel.ext E) (hcs.ext E)⟩
  case elt tok i off =>
    simp only at h ⊢
    unfold aStoreE at *
    have hx0 := hx
    unfold Rel at hx
    cases h0 : c.A[tok]? with
    | none => rw [h0] at h; exact False.elim h
    | some o =>
      rw [h0] at h hx
      cases o <;> try exact False.elim h
      rename_i e xs0
      simp only at h hx ⊢
      obtain ⟨b, hr, rfl⟩ := hx
      -- what follows once the data are known
      have fin : ∀ (c1 : Cx) (xs : List e.den) (z : e.den) (o' : Nat) (M : List Value), c1.w = c.w → Ext c c1 → HR c1 → c1.A[tok]? = some (.row e xs) → i < List.length xs → v.cells.size = tsz D t → (∀ u ∈ v.cells.toList, ocell u = true) →
          (∀ L : List Value, Cells c1.I c1.w e xs L → i * e.size + off + tsz D t ≤ L.length ∧ Cells c1.I c1.w e (List.set xs i z) (setRange L (i * e.size + off) v.cells.toList)) →
          EffOk P c (do Instr.storeAt t (.pointer (some ⟨b, i * e.size + off, none⟩)) v; pure .skip) ⟨none, .unk, c1.A.set tok (.row e (List.set xs i z))⟩ := by
        intro c1 xs z o' M hw E1 H1 hA hi hsz hoc hcell
        have hr1 : c1.ρ tok = some b := by
          have := E1.le.tok tok (get_lt h0)
          unfold TokLe at this
          rw [hA] at this
          exact this.2.1.trans hr
        have ho := H1.obj tok _ hA
        rw [hr1] at ho
        rcases row_iff ho with ⟨hn, _⟩ | ⟨b', cs, et, L, R, hb', hh, hcs, hL⟩
        · cases hn
        · cases hb'
          obtain ⟨hlen, hnew⟩ := hcell L hL
          have hLe : L.length ≤ cs.size := by have := congrArg List.length hcs; simp at this; omega
          have hrun := run_storeVar' (w := c1.w) (o := i * e.size + off) hD hh hz hsz (by omega) hoc
          have hvl : v.cells.toList.length = tsz D t := by simpa using hsz
          have hsize : (setRange cs.toList (i * e.size + off) v.cells.toList).toArray.size = cs.size := setRange_size (by omega)
          have E := ext_wr (o' := .row e (List.set xs i z)) H1 hA rfl hr1 hh hsize
          refine ⟨c1.wr tok b (setRange cs.toList (i * e.size + off) v.cells.toList).toArray (.row e (List.set xs i z)), .skip, undef, ?_, .inr ⟨rfl, rfl⟩, E1.trans E, hr_wr H1 hA rfl hr1 hh hsize ?_, rfl, by unfold Rel; trivial⟩
          · rw [← hw]; simp only [Sem.run_bind, hrun, Result.andThen_ok, Sem.run_pure]; rfl
          · refine row_mk (L := setRange L (i * e.size + off) v.cells.toList) (R := R) (setRow_heap c1.w b _ _ et (0, 0) hh) ?_ (hnew.ext E)
            rw [hcs]; unfold setRange
            rw [List.take_append_of_le_length (by omega), List.drop_append_of_le_length (by omega)]
            simp [List.append_assoc]
      cases hw : (Nat.beq off 0 && Nat.beq (tsz D t) e.size) with
      | true =>
        rw [hw] at h
        simp only [Bool.and_eq_true] at hw
        have hoff := beq_eq hw.1
        have hsz := beq_eq hw.2
        subst hoff
        simp only at h ⊢
        generalize hd : toD c.A e y = d at *
        obtain ⟨C, oy, A'⟩ := d
        cases oy with
        | none => exact False.elim h
        | some z =>
          simp only at h ⊢
          cases hA : A'[tok]? with
          | none => rw [hA] at h; exact False.elim h
          | some o' =>
            rw [hA] at h
            cases o' <;> try exact False.elim h
            rename_i e' xs
            simp only at h ⊢
            by_cases he : e = e'
            · subst he
              rw [dif_pos rfl] at h ⊢
              obtain ⟨hC, hi⟩ := andC_of h
              obtain ⟨c1, k1, k2, k3, k4, k5⟩ := toD_sound (t := e) (x := z) H hy (by rw [hd]; exact hC) (by rw [hd])
              rw [hd] at k4
              have hvl := k5.len
              have := fin c1 xs z 0 [] k1.w k2 k3 (by rw [k4]; exact hA) hi (by rw [hsz, ← hvl]; simp) (k5.cells1 _ _ _) (fun L hL => by
                have hle : i * e.size + e.size ≤ L.length := by rw [hL.1, ← Nat.succ_mul]; exact Nat.mul_le_mul_right _ hi
                refine ⟨by omega, ?_⟩
                have := hL.set (y := z) hi k5
                unfold setRange
                rw [Nat.add_zero, hvl]
                exact this)
              rw [k4] at this
              obtain ⟨c', nx, v', j1, j2, j3, j4, j5, j6⟩ := this
              exact ⟨c', nx, v', j1, j2, j3, j4, j5, j6⟩
            · rw [dif_neg he] at h; exact False.elim h
      | false =>
        rw [hw] at h
        simp only at h ⊢
        generalize hd : frz c.A (acells y) = d at *
        obtain ⟨C, l, A'⟩ := d
        simp only at h ⊢
        cases hA : A'[tok]? with
        | none => rw [hA] at h; exact False.elim h
        | some o' =>
          rw [hA] at h
          cases o' <;> try exact False.elim h
          rename_i e' xs
          simp only at h ⊢
          cases hz' : e'.ofC (setRange (e'.cav (List.getD xs i e'.dft)) off l) with
          | none => rw [hz'] at h; exact False.elim h
          | some z =>
            rw [hz'] at h
            simp only at h ⊢
            obtain ⟨hb, h⟩ := egate_of h
            rw [egate_true hb]
            simp only [Bool.and_eq_true] at hb
            obtain ⟨⟨g1, g2⟩, g3⟩ := hb
            have g2 := beq_eq g2
            have g3 := Nat.le_of_ble_eq_true g3
            obtain ⟨hC, hi⟩ := andC_of h
            have hcs := cells_sound g1 hy
            obtain ⟨c1, k1, k2, k3, k4, k5⟩ := frz_sound _ c _ H hcs (by rw [hd]; exact hC)
            rw [hd] at k4 k5
            simp only at k4 k5
            have hA1 : c1.A[tok]? = some (.row e' xs) := by rw [k4]; exact hA
            have hee : e = e' := by
              have := k2.le.tok tok (get_lt h0)
              unfold TokLe at this
              rw [hA1] at this
              obtain ⟨⟨xs', h1⟩, _⟩ := this
              rw [h0] at h1; cases h1; rfl
            subst hee
            have hi : i < List.length xs := hi
            have hl1 := hcs.length
            have hvl : v.cells.toList.length = tsz D t := by omega
            have := fin c1 xs z 0 [] k1.w k2 k3 hA1 hi (by simpa using hvl) (goodC_ocell _ _ g1 hcs) (fun L hL => by
              have hle : i * e.size + e.size ≤ L.length := by rw [hL.1, ← Nat.succ_mul]; exact Nat.mul_le_mul_right _ hi
              refine ⟨by omega, ?_⟩
              have hold := hL.2 i hi
              have hcav := cav_sound e _ _ hold
              have hg : List.getD xs i e.dft = xs[i] := getD_of_lt hi
              rw [hg] at hz'
              have hnew := ofC_sound e _ _ _ hz' (setRange_rel hcav k5)
              have := hL.set (y := z) hi hnew
              have e1 : L.take (i * e.size) ++ setRange ((L.drop (i * e.size)).take e.size) off v.cells.toList ++ L.drop (i * e.size + e.size) = setRange L (i * e.size + off) v.cells.toList := by
                unfold setRange
                have e2 : ((L.drop (i * e.size)).take e.size).take off = (L.drop (i * e.size)).take off := by rw [List.take_take, Nat.min_eq_left (by omega)]
                have e3 : L.take (i * e.size + off) = L.take (i * e.size) ++ (L.drop (i * e.size)).take off := List.take_add
                have e4 : ((L.drop (i * e.size)).take e.size).drop (off + v.cells.toList.length) ++ L.drop (i * e.size + e.size) = L.drop (i * e.size + off + v.cells.toList.length) := by
                  rw [List.drop_take, List.drop_drop]
                  have e5 : L.drop (i * e.size + e.size) = (L.drop (i * e.size + (off + v.cells.toList.length))).drop (e.size - (off + v.cells.toList.length)) := by
                    rw [List.drop_drop]; congr 1; omega
                  rw [e5, List.take_append_drop]; congr 1; omega
                rw [e2, e3, ← e4]; simp [List.append_assoc]
              rw [e1] at this; exact this)
            rw [k4] at this
            obtain ⟨c', nx, v', j1, j2, j3, j4, j5, j6⟩ := this
            exact ⟨c', nx, v', j1, j2, j3, j4, j5, j6⟩
end Go.Ab
