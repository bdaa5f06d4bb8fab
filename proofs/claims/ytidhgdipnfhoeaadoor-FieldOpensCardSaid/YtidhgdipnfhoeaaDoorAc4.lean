/-
  Operations that make or write memory (2): slices made, built, appended to, copied into.
-/
import Derived.Test.YtidhgdipnfhoeaaDoorAc3
namespace Go.Ab
open Go
/-! ### types of elements -/
def tyL (g : TypeId → Option Ty) : List (Nat × Nat) → Option Ty
  | [] => none
  | [x] => g x.2
  | x :: l => match g x.2, tyL g l with
    | some a, some b => some (.pair a b)
    | _, _ => none
def tyFs (g : TypeId → Option Ty) (l : List (Nat × Nat)) : Option Ty := match l with
  | [x] => match g x.2 with
    | some a => some (.one a)
    | none => none
  | l => tyL g l
def tyOf (D : Tab) : Nat → TypeId → Option Ty
  | 0, _ => none
  | f + 1, t => match tlook D t with
    | none => none
    | some e => match e.d with
      | .int k => some (.int k)
      | .bool => some .bool
      | .str => some .str
      | .flt k => some (.flt k)
      | .slice u => match tyOf D f u with
        | some x => some (.list x)
        | none => none
      | .arr n u => match tyOf D f u with
        | some x => some (.arr n x)
        | none => none
      | .struct fs => tyFs (tyOf D f) fs
      | .ifc => some .raw
      | .ptr _ => some .raw
      | .other => none
def zRep : Nat → List Z → List Z
  | 0, _ => []
  | n + 1, l => l ++ zRep n l
def Ty.zs : Ty → List Z
  | .int k => [.int k]
  | .bool => [.bool]
  | .str => [.str]
  | .flt k => [.flt k]
  | .raw => [.nilI]
  | .list _ => [.nilSl]
  | .one a => a.zs
  | .pair a b => a.zs ++ b.zs
  | .arr n e => zRep n e.zs
theorem zRep_flat (I : Nat → Prop) (w : World) (n : Nat) (l : List Z) : (zRep n l).map Z.val = (List.replicate n (l.map Z.val)).flatten := by
  induction n with
  | zero => rfl
  | succ n ih => unfold zRep; rw [List.map_append, ih, List.replicate_succ, List.flatten_cons]
theorem dft_fz (I : Nat → Prop) (w : World) : ∀ t : Ty, FzC I w t t.dft (t.zs.map Z.val)
  | .int k => rfl
  | .bool => rfl
  | .str => rfl
  | .flt k => rfl
  | .raw => ⟨rfl, rfl⟩
  | .list e => ⟨none, 0, rfl, Nat.le_refl _, fun i hi => absurd hi (by unfold Ty.dft; simp)⟩
  | .one a => dft_fz I w a
  | .pair a b => ⟨_, _, by show (a.zs ++ b.zs).map Z.val = _; rw [List.map_append], dft_fz I w a, dft_fz I w b⟩
  | .arr n e => by
    refine ⟨by unfold Ty.dft; simp, List.replicate n (e.zs.map Z.val), by simp, by show (zRep n e.zs).map Z.val = _; rw [zRep_flat I w], fun i hi => ?_⟩
    have hi' : i < n := by unfold Ty.dft at hi; simpa using hi
    have e1 : (List.replicate n (List.map Z.val e.zs)).getD i [] = e.zs.map Z.val := by simp [List.getD, hi']
    have e2 : (Ty.arr n e).dft[i] = e.dft := (show ∀ (l : List e.den) (_ : l = List.replicate n e.dft) (h : i < l.length), l[i] = e.dft by intro l hl h; subst hl; simp) _ rfl hi
    rw [e1, e2]; exact dft_fz I w e
def zEq : Z → Z → Bool
  | .int k, .int k' => kEq k k'
  | .bool, .bool => true
  | .str, .str => true
  | .flt k, .flt k' => fkEq k k'
  | .nilSl, .nilSl => true
  | .nilI, .nilI => true
  | .nilF, .nilF => true
  | .nilP, .nilP => true
  | .nilM, .nilM => true
  | _, _ => false
def zsEq : List Z → List Z → Bool
  | [], [] => true
  | a :: l, b :: m => zEq a b && zsEq l m
  | _, _ => false
theorem zEq_of {a b : Z} (h : zEq a b = true) : a = b := by
  cases a <;> cases b <;> first | rfl | (cases h; done) | (have := kEq_of h; subst this; rfl) | (have := fkEq_of h; subst this; rfl)
theorem zsEq_of : ∀ {l m : List Z}, zsEq l m = true → l = m
  | [], [], _ => rfl
  | [], _ :: _, h => by cases h
  | _ :: _, [], h => by cases h
  | a :: l, b :: m, h => by
    unfold zsEq at h
    simp only [Bool.and_eq_true] at h
    rw [zEq_of h.1, zsEq_of h.2]
/-- an element's type: its size, its zero are as they should be -/
def elOk (D : Tab) (el : TypeId) (e : Ty) : Bool := match tlook D el with
  | some i => (Nat.beq i.sz e.size && Nat.blt 0 e.size) && (zsEq i.z e.zs && Nat.ble i.bt 4096)
  | none => false
theorem elOk_of {P : Program} {D : Tab} (hD : TabOk P D) {el : TypeId} {e : Ty} (h : elOk D el e = true) :
    ∃ i z, P.info? el = some i ∧ i.zero = some z ∧ i.size = e.size ∧ 0 < e.size ∧ i.bytes ≤ 4096 ∧ z.cells.toList = e.zs.map Z.val ∧ i.bytes = tby D el := by
  unfold elOk at h
  unfold tby
  cases hi : tlook D el with
  | none => rw [hi] at h; cases h
  | some x =>
    rw [hi] at h
    simp only [Bool.and_eq_true] at h
    obtain ⟨⟨h1, h2⟩, h3, h4⟩ := h
    obtain ⟨i, d, k1, k2, k3, k4, k5, k6, k7⟩ := tlook_info hD hi
    have hz := zsEq_of h3
    have hpos := blt_of h2
    have hlen : (e.zs.map Z.val).length = e.size := (dft_fz (fun _ => True) default e).len
    cases hv : i.zero with
    | none =>
      rw [hv] at k5
      simp only [List.isEmpty_iff] at k5
      rw [← hz, k5] at hlen
      simp at hlen; omega
    | some v =>
      rw [hv] at k5
      refine ⟨i, v, k1, hv, by rw [k3]; exact beq_eq h1, hpos, by rw [k7]; exact Nat.le_of_ble_eq_true h4, ?_, k7⟩
      rw [zsAre_map k5, hz]
theorem zcells {I : Nat → Prop} {w : World} {e : Ty} {z : Array Value} (hz : z.toList = e.zs.map Z.val) (hpos : 0 < e.size) (n : Nat) :
    Cells I w e (List.replicate n e.dft) ((Array.range (n * e.size)).map (z[· % z.size]!)).toList := by
  have hd := dft_fz I w e
  have hlen : z.toList.length = e.size := by rw [hz]; exact hd.len
  have hsz : z.size = e.size := by simpa using hlen
  refine ⟨by simp, fun i hi => ?_⟩
  have hi' : i < n := by simpa using hi
  have e0 : (List.replicate n e.dft)[i] = e.dft := by simp
  rw [e0]
  have : (((Array.range (n * e.size)).map (z[· % z.size]!)).toList.drop (i * e.size)).take e.size = e.zs.map Z.val := by
    rw [← hz]
    apply List.ext_getElem?
    intro j
    rw [List.getElem?_take, List.getElem?_drop]
    by_cases hj : j < e.size
    · rw [if_pos hj]
      have hlt : i * e.size + j < n * e.size := by
        have : i * e.size + e.size ≤ n * e.size := by rw [← Nat.succ_mul]; exact Nat.mul_le_mul_right _ hi'
        omega
      have hm : (i * e.size + j) % z.size = j := by rw [hsz, Nat.mul_comm, Nat.mul_add_mod, Nat.mod_eq_of_lt hj]
      simp [hlt, hm]
      rw [getElem!_pos z j (by omega), Array.getElem?_eq_getElem (by omega)]
    · rw [if_neg hj, List.getElem?_eq_none (by omega)]
  rw [this]; exact hd
/-! ### make -/
def aMake (D : Tab) (A : List AO) (t : TypeId) (n m : AV) : ER := match telem D t with
  | some el => match tyOf D 8 el with
    | some e => match aInt n, aInt m with
      | some n, some m => egate (elOk D el e) ⟨some (0 ≤ n ∧ n ≤ m ∧ m ≤ 4294967296), .ref A.length 0 n.toNat, A ++ [.row e (List.replicate n.toNat e.dft)]⟩
      | _, _ => eno
    | none => eno
  | none => eno
theorem row_new_sound {c : Cx} (H : HR c) {el : TypeId} {e : Ty} {xs : List e.den} {cs : Array Value} {L R : List Value} {n cap : Nat} (hpos : 0 < e.size) (hcs : cs.toList = L ++ R) (hL : Cells c.I c.w e xs L) (hcap : cs.size = cap * e.size) (hn : n = List.length xs) (hle : n ≤ cap) :
    Ext c (c.new cs el (.row e xs)) ∧ HR (c.new cs el (.row e xs)) ∧ Rel (c.new cs el (.row e xs)) (.ref c.A.length 0 n) (.slice (some ⟨c.w.heap.size, 0, none⟩) n cap) := by
  have E := ext_new H cs el (.row e xs)
  refine ⟨E, hr_new H (row_mk new_heap_new hcs (hL.ext E)), ?_⟩
  unfold Rel
  rw [new_A_new]
  exact .inl ⟨c.w.heap.size, cap, cs, el, _, new_ρ_new, rfl, fun _ => by simp, hle, new_heap_new, by rw [hcap]; simp⟩
theorem aMake_sound {P : Program} {D : Tab} (hD : TabOk P D) {c : Cx} (H : HR c) {t : TypeId} {x y : AV} {a b : Value} (hx : Rel c x a) (hy : Rel c y b) (h : Hold (aMake D c.A t x y).C) :
    EffOk P c (do pure (.value (← Instr.makeSlice t a b))) (aMake D c.A t x y) := by
  unfold aMake at *
  cases hel : telem D t with
  | none => rw [hel] at h; exact False.elim h
  | some el =>
  rw [hel] at h
  simp only at h ⊢
  cases hty : tyOf D 8 el with
  | none => rw [hty] at h; exact False.elim h
  | some e =>
  rw [hty] at h
  simp only at h ⊢
  cases hn : aInt x with
  | none => rw [hn] at h; exact False.elim h
  | some n =>
  cases hm : aInt y with
  | none => rw [hn, hm] at h; exact False.elim h
  | some m =>
  rw [hn, hm] at h
  simp only at h ⊢
  obtain ⟨hb, h1, h2, h3⟩ := egate_of h
  rw [egate_true hb]
  obtain ⟨k, rfl⟩ := aInt_of hn hx
  obtain ⟨k', rfl⟩ := aInt_of hm hy
  obtain ⟨i, z, j1, j2, j3, j4, j5, j6, _⟩ := elOk_of hD hb
  obtain ⟨n, rfl⟩ := Int.eq_ofNat_of_zero_le h1
  obtain ⟨m, rfl⟩ := Int.eq_ofNat_of_zero_le (show 0 ≤ m by omega)
  have w1 : IntKind.i64.wrap (n : Int) = n := I64.wrap (by unfold I64; omega)
  have w2 : IntKind.i64.wrap (m : Int) = m := I64.wrap (by unfold I64; omega)
  have hbm : i.bytes * m ≤ 17592186044416 := by
    have := Nat.mul_le_mul j5 (show m ≤ 4294967296 by omega)
    simpa using this
  have hcells := zcells (I := c.I) (w := c.w) (z := z.cells) j6 j4 m
  have hLL := hcells.take n (by simp; omega)
  rw [List.take_replicate, Nat.min_eq_left (by omega)] at hLL
  obtain ⟨E, H', hrel⟩ := row_new_sound (el := el) (cap := m) (n := n) (cs := (Array.range (m * e.size)).map (z.cells[· % z.cells.size]!)) (L := (((Array.range (m * e.size)).map (z.cells[· % z.cells.size]!)).toList.take (n * e.size))) (R := (((Array.range (m * e.size)).map (z.cells[· % z.cells.size]!)).toList.drop (n * e.size))) H j4 (by rw [List.take_append_drop]) hLL (by simp) (by simp) (by omega)
  refine ⟨_, _, _, ?_, .inl rfl, E, H', rfl, hrel⟩
  have hbi : ¬ (281474976710656 < (i.bytes : Int) * (m : Int)) := by
    have : ((i.bytes * m : Nat) : Int) ≤ 17592186044416 := Int.ofNat_le.mpr hbm
    rw [Int.natCast_mul] at this; omega
  have hask : (askRoom (m * i.bytes)).run P c.w = .ok () c.w := by
    unfold askRoom roomBytes
    rw [if_neg (by rw [Nat.mul_comm]; omega)]; rfl
  by_cases hm0 : m = 0
  · subst hm0
    have hn0 : n = 0 := by omega
    subst hn0
    have w0 : IntKind.i64.wrap 0 = 0 := I64.wrap (by unfold I64; omega)
    simp [Instr.makeSlice, run_underlying' (of_telem hD hel), asInt, asIntOf, typeInfo, j1, w0, askRoom, roomBytes, sizeOf, newRow, Cx.new]
    have er : Array.range 0 = #[] := rfl
    rw [er, Array.map_empty, Array.map_empty]
  · have hne : ¬ (m = 0 ∨ e.size = 0) := by omega
    have g1 : ¬ ((m : Int) < 0) := by omega
    have g2 : ¬ ((n : Int) < 0) := by omega
    have g3 : ¬ ((m : Int) < (n : Int)) := by omega
    simp [Instr.makeSlice, run_underlying' (of_telem hD hel), asInt, asIntOf, typeInfo, j1, w1, w2, g1, g2, g3, hbi, hask, sizeOf, j3, zeroValue, j2, newRow, Cx.new]
    intro h
    rcases Nat.mul_eq_zero.1 h with h | h <;> omega
/-! ### a built slice -/
def aPutAll (e : Ty) : List AO → List e.den → List (Nat × AV) → Option Prop × Option (List e.den) × List AO
  | A, xs, [] => (none, some xs, A)
  | A, xs, (i, v) :: ps => match Nat.blt i xs.length && Nat.beq (acells v).length e.size with
    | true => match toD A e v with
      | (C, some y, A') => match aPutAll e A' (List.set xs i y) ps with
        | (C', r, A'') => (andC C C', r, A'')
      | (_, none, A') => (some False, none, A')
    | false => (some False, none, A)
def aBuildSlice (D : Tab) (A : List AO) (t : TypeId) (n : Nat) (ps : List (Nat × AV)) : ER := match telem D t with
  | some el => match tyOf D 8 el with
    | some e => match elOk D el e && Nat.ble (n * e.size) 16777216 with
      | true => match aPutAll e A (List.replicate n e.dft) ps with
        | (C, some xs, A') => ⟨C, .ref A'.length 0 n, A' ++ [.row e xs]⟩
        | _ => eno
      | false => eno
    | none => eno
  | none => eno
theorem toD_good {A : List AO} {t : Ty} {v : AV} (h : Hold (toD A t v).1) : goodC A (acells v) = true := by
  unfold toD at h
  cases hg : goodC A (acells v) with
  | true => rfl
  | false => rw [hg] at h; exact False.elim h
theorem fold_fill {e : Nat} (u : List Value) (off : Nat) (cs : Array Value) (h : off + u.length ≤ cs.size) :
    (u.toArray.zipIdx.foldl (fun cs (x : Value × Nat) => cs.setIfInBounds (off + x.2) x.1) cs).toList = setRange cs.toList off u := by
  rw [← Array.foldl_toList]
  simp only [Array.toList_zipIdx]
  have := fold_set u off 0 cs (by simpa using h)
  simpa using this
theorem aPutAll_sound {e : Ty} (hpos : 0 < e.size) : ∀ (ps : List (Nat × AV)) (vs : List (Nat × Value)) (c : Cx) (xs : List e.den) (cs : Array Value), HR c → ps.length = vs.length →
    (∀ (i : Nat) a v, ps[i]? = some a → vs[i]? = some v → a.1 = v.1 ∧ Rel c a.2 v.2) → Cells c.I c.w e xs cs.toList → Hold (aPutAll e c.A xs ps).1 → ∀ ys, (aPutAll e c.A xs ps).2.1 = some ys →
    ∃ c' cs', c'.w = c.w ∧ Ext c c' ∧ HR c' ∧ c'.A = (aPutAll e c.A xs ps).2.2 ∧ Instr.fill (fun i => some (i * e.size, e.size)) cs vs = some cs' ∧ Cells c'.I c'.w e ys cs'.toList ∧ List.length ys = List.length xs
  | [], vs, c, xs, cs, H, hl, _, hc, _, ys, hy => by
    have : vs = [] := List.eq_nil_of_length_eq_zero (by simpa using hl.symm)
    subst this
    unfold aPutAll at hy; cases hy
    exact ⟨c, cs, rfl, Ext.refl c, H, rfl, rfl, hc, rfl⟩
  | (i, a) :: ps, [], _, _, _, _, hl, _, _, _, _, _ => by simp at hl
  | (i, a) :: ps, (j, v) :: vs, c, xs, cs, H, hl, hall, hc, hC, ys, hy => by
    obtain ⟨e1, e2⟩ := hall 0 _ _ rfl rfl
    simp at e1 e2
    subst e1
    unfold aPutAll at *
    cases hb : (Nat.blt i xs.length && Nat.beq (acells a).length e.size) with
    | false => rw [hb] at hC; exact False.elim hC
    | true =>
      rw [hb] at hC hy
      simp only [Bool.and_eq_true] at hb
      have hi := blt_of hb.1
      have hal := beq_eq hb.2
      simp only at hC hy ⊢
      generalize hd : toD c.A e a = d at *
      obtain ⟨C, oy, A1⟩ := d
      cases oy with
      | none => exact False.elim hC
      | some y =>
        simp only at hC hy ⊢
        obtain ⟨hC1, hC2⟩ := andC_of hC
        have hC1' : Hold (toD c.A e a).1 := by rw [hd]; exact hC1
        obtain ⟨c1, k1, k2, k3, k4, k5⟩ := toD_sound (t := e) (x := y) H e2 hC1' (by rw [hd])
        rw [hd] at k4
        have k4 : c1.A = A1 := k4
        have hvl := k5.len
        have hcl := hc.1
        have hle : i * e.size + e.size ≤ List.length xs * e.size := by rw [← Nat.succ_mul]; exact Nat.mul_le_mul_right _ hi
        have hcs : cs.size = List.length xs * e.size := by simpa using hcl
        have hfl := fold_fill (e := e.size) v.cells.toList (i * e.size) cs (by omega)
        rw [← k4] at hC2 hy
        obtain ⟨c', cs', j1, j2, j3, j4, j5, j6, j7⟩ := aPutAll_sound hpos ps vs c1 (List.set xs i y) (v.cells.zipIdx.foldl (fun cs (x : Value × Nat) => cs.setIfInBounds (i * e.size + x.2) x.1) cs) k3 (by simpa using hl)
          (fun n p q h1 h2 => by
            obtain ⟨g1, g2⟩ := hall (n + 1) p q (by simpa using h1) (by simpa using h2)
            exact ⟨g1, g2.ext k2⟩) (by
            have hfl' : (v.cells.zipIdx.foldl (fun cs (x : Value × Nat) => cs.setIfInBounds (i * e.size + x.2) x.1) cs).toList = setRange cs.toList (i * e.size) v.cells.toList := by simpa using hfl
            rw [hfl']
            have := (hc.ext k2).set (y := y) hi k5
            unfold setRange; rw [hvl]; exact this) hC2 ys hy
        refine ⟨c', cs', j1.trans k1.w, k2.trans j2, j3, by rw [j4, k4], ?_, j6, by rw [j7]; simp⟩
        unfold Instr.fill
        simp only
        rw [if_neg (by simp at hvl ⊢; omega)]
        exact j5
theorem aBuildSlice_sound {P : Program} {D : Tab} (hD : TabOk P D) {c : Cx} (H : HR c) {t : TypeId} {n : Nat} {ps : List (Nat × AV)} {vs : Array (Nat × Value)} (hl : ps.length = vs.toList.length)
    (hall : ∀ (i : Nat) a v, ps[i]? = some a → vs.toList[i]? = some v → a.1 = v.1 ∧ Rel c a.2 v.2) (h : Hold (aBuildSlice D c.A t n ps).C) :
    EffOk P c (do pure (.value (← Instr.buildSlice t n vs))) (aBuildSlice D c.A t n ps) := by
  unfold aBuildSlice at *
  cases hel : telem D t with
  | none => rw [hel] at h; exact False.elim h
  | some el =>
  rw [hel] at h
  simp only at h ⊢
  cases hty : tyOf D 8 el with
  | none => rw [hty] at h; exact False.elim h
  | some e =>
  rw [hty] at h
  simp only at h ⊢
  cases hb : (elOk D el e && Nat.ble (n * e.size) 16777216) with
  | false => rw [hb] at h; exact False.elim h
  | true =>
  rw [hb] at h
  simp only [Bool.and_eq_true] at hb
  simp only at h ⊢
  obtain ⟨i, z, j1, j2, j3, j4, j5, j6, _⟩ := elOk_of hD hb.1
  have hn := Nat.le_of_ble_eq_true hb.2
  generalize hp : aPutAll e c.A (List.replicate n e.dft) ps = d at *
  obtain ⟨C, oxs, A'⟩ := d
  cases oxs with
  | none => exact False.elim h
  | some xs =>
    simp only at h ⊢
    have hz := zcells (I := c.I) (w := c.w) (z := z.cells) j6 j4 n
    obtain ⟨c1, cs', k1, k2, k3, k4, k5, k6, k7⟩ := aPutAll_sound j4 ps vs.toList c _ ((Array.range (n * e.size)).map (z.cells[· % z.cells.size]!)) H hl hall hz (by rw [hp]; exact h) xs (by rw [hp])
    rw [hp] at k4
    have k4 : c1.A = A' := k4
    have hlen : List.length xs = n := by rw [k7]; simp
    have hcs : cs'.size = n * e.size := by have := k6.1; rw [hlen] at this; simpa using this
    obtain ⟨E, H', hrel⟩ := row_new_sound (el := el) (cap := n) (n := n) (cs := cs') (L := cs'.toList) (R := []) k3 j4 (by simp) k6 hcs hlen.symm (Nat.le_refl _)
    refine ⟨_, _, _, ?_, .inl rfl, k2.trans E, H', by rw [← k4]; rfl, by rw [← k4]; exact hrel⟩
    have hb16 : ¬ (16777216 < n * e.size) := by omega
    have hnew : (c1.new cs' el (.row e xs)).w = c.w.alloc (.cells cs' el) := by show c1.w.alloc _ = _; rw [k1]
    rw [hnew, k1]
    simp [Instr.buildSlice, run_underlying' (of_telem hD hel), sizeOf, typeInfo, j1, j3, hb16, newRow, zeroValue, j2]
    by_cases h0 : n * e.size = 0
    · rw [if_pos h0]
      have hf : Instr.fill (fun i => some (i * e.size, e.size)) (Array.map (fun _ => (default : Value)) (Array.range (n * e.size))) vs.toList = some cs' := by
        rw [← k5, h0]
        have er : Array.range 0 = #[] := rfl
        rw [er, Array.map_empty, Array.map_empty]
      rw [hf]; simp
    · rw [if_neg h0, k5]; simp
end Go.Ab
