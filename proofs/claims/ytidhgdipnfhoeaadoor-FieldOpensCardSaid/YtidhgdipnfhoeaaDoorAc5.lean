/-
  Operations that make or write memory (3): append, copy.
-/
import Derived.Test.YtidhgdipnfhoeaaDoorAc4
namespace Go.Ab
open Go
/-! ### where cells come from -/
def bytesI (s : ByteArray) : List Int := s.data.toList.map fun b => ((b.toNat : Nat) : Int)
def aSrc (e : Ty) (A : List AO) (y : AV) : Option Prop × Option (List e.den) := match y with
  | .ref tok off len => match A[tok]? with
    | some (.row e' ys) => if h : e' = e then (some (off + len ≤ List.length ys), some (h ▸ ((List.drop off ys).take len))) else (some False, none)
    | _ => (some False, none)
  | .fz (.list e') ys => if h : e' = e then (none, some (h ▸ ys)) else (some False, none)
  | .nilSl => (none, some [])
  | .fz .str s => if h : Ty.int .u8 = e then (none, some (h ▸ (bytesI s : List (Ty.den (.int .u8))))) else (some False, none)
  | _ => (some False, none)
/-- what is read of a value -/
structure SrcOk (P : Program) (c : Cx) (e : Ty) (v : Value) (ys : List e.den) (L : List Value) : Prop where
  cells : Cells c.I c.w e ys L
  len : ∀ w, (Builtin.lenOf v).run P w = .ok (List.length ys) w
  first : ∀ w, w.heap = c.w.heap → ∀ n, n ≤ List.length ys → (Builtin.firstCells e.size n v).run P w = .ok (L.take (n * e.size)).toArray w
theorem heap_cell {w w' : World} (h : w'.heap = w.heap) (a : Addr) : w'.cell? a = w.cell? a := by unfold World.cell?; rw [h]
theorem src_slice {P : Program} {c : Cx} {e : Ty} {ys : List e.den} {L : List Value} {p : Option Addr} {cap : Nat} (hL : Cells c.I c.w e ys L) (hp : 0 < List.length ys → ∃ b off, p = some ⟨b, off, none⟩ ∧ ∀ j (hj : j < L.length), c.w.cell? ⟨b, off + j, none⟩ = some L[j]) :
    SrcOk P c e (.slice p (List.length ys) cap) ys L := by
  refine ⟨hL, fun w => rfl, fun w hw n hn => ?_⟩
  rcases Nat.eq_zero_or_pos n with rfl | hn0
  · have : (L.take (0 * e.size)).toArray = #[] := by simp
    rw [this]
    cases p with
    | none => rfl
    | some a => simp only [Builtin.firstCells, Nat.zero_mul]; rfl
  · obtain ⟨b, off, rfl, hc⟩ := hp (by omega)
    have hle : n * e.size ≤ L.length := by rw [hL.1]; exact Nat.mul_le_mul_right _ hn
    have := run_loadCells_list (P := P) w ⟨b, off, none⟩ (L.take (n * e.size)) (fun j v hj => by
      rw [plain_add, heap_cell hw]
      have hlt := get_lt hj
      rw [List.length_take] at hlt
      rw [List.getElem?_take, if_pos (by omega)] at hj
      rw [hc j (by omega)]
      rw [List.getElem?_eq_getElem (by omega)] at hj; exact hj)
    rw [List.length_take, Nat.min_eq_left hle] at this
    simp only [Builtin.firstCells]; exact this
theorem aSrc_sound {P : Program} {c : Cx} (H : HR c) {e : Ty} (hpos : 0 < e.size) {y : AV} {v : Value} {ys : List e.den} (hy : Rel c y v) (hC : Hold (aSrc e c.A y).1) (hs : (aSrc e c.A y).2 = some ys) : ∃ L, SrcOk P c e v ys L := by
  unfold aSrc at *
  cases y <;> try (cases hs; done)
  case ref tok off len =>
    have hy0 := hy
    unfold Rel at hy
    simp only at hC hs
    cases h0 : c.A[tok]? with
    | none => rw [h0] at hs; cases hs
    | some o =>
      rw [h0] at hC hs hy
      cases o <;> try (cases hs; done)
      rename_i e' zs
      simp only at hC hs hy
      by_cases he : e' = e
      · subst he
        rw [dif_pos rfl] at hC hs
        cases hs
        have hle : off + len ≤ List.length zs := hC
        have hl : ((List.drop off zs).take len).length = len := by rw [List.length_take, List.length_drop]; omega
        have ho := H.obj tok _ h0
        rcases hy with ⟨b, cap, cs, et, a, hr, rfl, ha, hcap, hh, hsz⟩ | ⟨hr, rfl, rfl, rfl⟩
        · rw [hr] at ho
          rcases row_iff ho with ⟨h1, _⟩ | ⟨b', cs', et', L, R, h1, h2, h3, h4⟩
          · cases h1
          · cases h1
            rw [hh] at h2; cases h2
            have hseg := h4.seg off len hle
            refine ⟨(L.drop (off * e'.size)).take (len * e'.size), ?_⟩
            have := src_slice (P := P) (p := some a) (cap := cap) hseg (fun h => by
              rw [hl] at h
              have := ha (by omega); subst this
              refine ⟨b, _, rfl, fun j hj => ?_⟩
              rw [List.length_take, List.length_drop] at hj
              have h6 : off * e'.size + len * e'.size ≤ L.length := by rw [h4.1, ← Nat.add_mul]; exact Nat.mul_le_mul_right _ hle
              unfold World.cell?
              simp only [hh]
              rw [← Array.getElem?_toList, h3, List.getElem?_append_left (by omega)]
              simp [List.getElem?_eq_getElem (show off * e'.size + j < L.length by omega)])
            rw [hl] at this; exact this
        · rw [hr] at ho
          refine ⟨[], ?_⟩
          have : SrcOk P c e' (.slice none (List.length ([] : List e'.den)) 0) [] [] := src_slice Cells.nil (fun h => absurd h (by simp))
          simpa using this
      · rw [dif_neg he] at hs; cases hs
  case nilSl =>
    cases hs
    unfold Rel at hy; subst hy
    exact ⟨[], src_slice (p := none) (ys := ([] : List e.den)) Cells.nil (fun h => absurd h (by simp))⟩
  case fz t x =>
    cases t <;> try (cases hs; done)
    case list e' =>
      simp only at hC hs
      by_cases he : e' = e
      · subst he
        rw [dif_pos rfl] at hs; cases hs
        have hf := fz_one rfl hy
        obtain ⟨p, cap, L, rfl, hle, hL, hp⟩ := list_cells hf hpos
        exact ⟨L, src_slice hL hp⟩
      · rw [dif_neg he] at hs; cases hs
    case str =>
      simp only at hC hs
      by_cases he : Ty.int .u8 = e
      · subst he
        rw [dif_pos rfl] at hs; cases hs
        obtain rfl := rel_str.1 hy
        have hlen : List.length (bytesI x) = ByteArray.size x := by unfold bytesI; simp
        refine ⟨(bytesI x).map (Value.int .u8), ⟨by simp [Ty.size], fun i hi => ?_⟩, fun w => by rw [hlen]; rfl, fun w hw n hn => ?_⟩
        · have hi' : i < (bytesI x).length := hi
          show FzC _ _ (.int .u8) _ _
          unfold FzC
          simp only [Ty.size, Nat.mul_one]
          rw [List.drop_eq_getElem_cons (by simpa using hi')]
          simp
        · have hn : n ≤ ByteArray.size x := by rw [← hlen]; exact hn
          simp only [Builtin.firstCells, Sem.run_pure, Ty.size, Nat.mul_one]
          congr 1
          apply Array.ext'
          simp [bytesI, List.map_take, ByteArray.data_extract]
          rfl
      · rw [dif_neg he] at hs; cases hs
/-! ### a nil slice of one's own -/
def Cx.nilRow (c : Cx) (e : Ty) : Cx := { c with ρ := fun t => if t = c.A.length then none else c.ρ t, A := c.A ++ [.row e []] }
theorem nilRow_sound {c : Cx} (H : HR c) (e : Ty) : Ext c (c.nilRow e) ∧ HR (c.nilRow e) ∧ Rel (c.nilRow e) (.ref c.A.length 0 0) (.slice none 0 0) := by
  have oldA : ∀ t, t < c.A.length → (c.nilRow e).A[t]? = c.A[t]? := fun t h => by show (c.A ++ [_])[t]? = _; rw [List.getElem?_append_left h]
  have newA : (c.nilRow e).A[c.A.length]? = some (.row e []) := by show (c.A ++ [_])[_]? = _; simp
  have oldρ : ∀ t, t < c.A.length → (c.nilRow e).ρ t = c.ρ t := fun t h => by show (if _ then _ else _) = _; rw [if_neg (by omega)]
  have newρ : (c.nilRow e).ρ c.A.length = none := by show (if _ then _ else _) = _; rw [if_pos rfl]
  have hlen : (c.nilRow e).A.length = c.A.length + 1 := by show (c.A ++ [_]).length = _; simp
  have hl : ∀ t b, (c.nilRow e).live t → (c.nilRow e).ρ t = some b → c.live t ∧ c.ρ t = some b := by
    intro t b ht hb
    have hlt := live_lt ht
    rw [hlen] at hlt
    by_cases h : t = c.A.length
    · subst h; rw [newρ] at hb; cases hb
    · obtain ⟨o, h1, h2⟩ := ht
      rw [oldA t (by omega)] at h1
      rw [oldρ t (by omega)] at hb
      exact ⟨⟨o, h1, h2⟩, hb⟩
  have E : Ext c (c.nilRow e) := by
    refine ⟨⟨fun b hI _ => ⟨⟨hI.1, fun t ht hb => ?_⟩, rfl⟩, fun t ht => ?_, by rw [hlen]; omega⟩, rfl, rfl, fun b _ => rfl, ⟨rfl, rfl, rfl⟩⟩
    · obtain ⟨k1, k2⟩ := hl t b ht hb
      exact hI.2 t k1 k2
    · have := TokLe.refl ht
      unfold TokLe at *
      rw [oldA t ht, oldρ t ht]; exact this
  refine ⟨E, ⟨fun t b ht hb => ?_, fun t u b ht hu h1 h2 => ?_, fun t o h => ?_, H.old, fun g v h => ?_⟩, ?_⟩
  · obtain ⟨k1, k2⟩ := hl t b ht hb; exact H.far t b k1 k2
  · obtain ⟨k1, k2⟩ := hl t b ht h1
    obtain ⟨j1, j2⟩ := hl u b hu h2
    exact H.inj t u b k1 j1 k2 j2
  · by_cases h' : t < c.A.length
    · rw [oldA t h'] at h; rw [oldρ t h']
      exact objOk_ext E (H.obj t o h) (fun _ _ _ => rfl)
    · have hlt := get_lt h
      rw [hlen] at hlt
      have : t = c.A.length := by omega
      subst this
      rw [newA] at h; cases h
      rw [newρ]; exact .inl ⟨rfl, rfl⟩
  · exact (H.glo g v h).mono E.le.I
  · unfold Rel; rw [newA]; exact .inr ⟨newρ, rfl, rfl, rfl⟩
/-! ### append -/
def notInt (D : Tab) (t : TypeId) : Bool := (telem D t).isSome || tstr D t
def aAppend (D : Tab) (A : List AO) (t0 t1 : TypeId) (x y : AV) : ER := match telem D t0 with
  | some el => match tyOf D 8 el with
    | some e => match elOk D el e && notInt D t1 with
      | true => match aSrc e A y with
        | (C, some ys) => match x with
          | .nilSl => ⟨andC C (some (List.length ys ≤ 4294967296)), .ref A.length 0 (List.length ys), A ++ [.row e ys]⟩
          | .ref tok 0 len => match A[tok]? with
            | some (.row e' xs) => if he : e' = e then ⟨andC C (some (len ≤ List.length xs ∧ len + List.length ys ≤ 4294967296)), .ref A.length 0 (len + List.length ys), A.set tok .dead ++ [.row e ((he ▸ (List.take len xs)) ++ ys)]⟩ else eno
            | _ => eno
          | _ => eno
        | _ => eno
      | false => eno
    | none => eno
  | none => eno
theorem zeroCells_len (z : Array Value) (n : Nat) : (Builtin.zeroCells z n).size = n * z.size := by simp [Builtin.zeroCells]
theorem run_zeros {P : Program} {D : Tab} (hD : TabOk P D) {t1 : TypeId} (h : notInt D t1 = true) (w : World) : (do pure ((← underlying t1) matches .int _) : Sem Bool).run P w = .ok false w := by
  unfold notInt at h
  simp only [Bool.or_eq_true] at h
  rcases h with h | h
  · obtain ⟨e, he⟩ := Option.isSome_iff_exists.1 h
    simp [run_underlying' (of_telem hD he)]
  · simp [run_underlying' (of_tstr hD h)]
theorem run_append_any {P : Program} {D : Tab} (hD : TabOk P D) {w : World} {t0 t1 ty el : TypeId} {i : TypeInfo} {z : Value} {p : Option Addr} {sLen sCap n : Nat} {x : Value} {L M : List Value}
    (hu : P.underlying t0 = some (.slice el)) (hi : P.info? el = some i) (hz : i.zero = some z) (h1 : notInt D t1 = true) (hlen : (Builtin.lenOf x).run P w = .ok n w)
    (hM : ∀ w', w'.heap = w.heap → (Builtin.firstCells i.size n x).run P w' = .ok M.toArray w') (hL : ∀ w', w'.heap = w.heap → (Builtin.firstCells i.size sLen (.slice p sLen sCap)).run P w' = .ok L.toArray w')
    (hg : sCap < sLen + n) (hsmall : sLen + n ≤ 4294967296) (hb : i.bytes ≤ 4096) :
    ∃ cap, sLen + n ≤ cap ∧ (Builtin.append_ #[t0, t1] ty #[.slice p sLen sCap, x]).run P w = .ok (.slice (some ⟨w.heap.size, 0, none⟩) (sLen + n) cap) (w.drew.alloc (.cells (L.toArray ++ M.toArray ++ Builtin.zeroCells z.cells (cap - (sLen + n))) el)) := by
  refine ⟨grownCap w (sLen + n) sCap el, ?_, ?_⟩
  · unfold grownCap Question.cut; simp
  · have hn : ¬ (sLen + n ≤ sCap) := by omega
    have h63 : ¬ (9223372036854775807 < ((sLen : Int) + (n : Int))) := by omega
    have h48 : ¬ (281474976710656 < Builtin.nextslicecap (sLen + n) sCap * i.bytes) := by
      have h1 := nextslicecap_le hg
      have h2 : Builtin.nextslicecap (sLen + n) sCap * i.bytes ≤ (2 * (sLen + n)) * 4096 := Nat.mul_le_mul h1 hb
      omega
    have hz' := run_zeros hD h1 w
    simp only [Sem.run_bind] at hz'
    have hM' := hM w.drew rfl
    have hL' := hL w.drew rfl
    obtain ⟨d, hd⟩ : ∃ d, P.underlying t1 = some d := by
      unfold notInt at h1
      simp only [Bool.or_eq_true] at h1
      rcases h1 with h | h
      · obtain ⟨e, he⟩ := Option.isSome_iff_exists.1 h; exact ⟨_, of_telem hD he⟩
      · exact ⟨_, of_tstr hD h⟩
    have hnd : ∀ k, d ≠ .int k := by
      intro k e
      rw [run_underlying' hd] at hz'
      subst e; simp at hz'
    have hm : (match d with | .int _ => true | _ => false) = false := by cases d <;> first | rfl | exact absurd rfl (hnd _)
    simp [Builtin.append_, run_underlying' hu, run_underlying' hd, hm, sizeOf, typeInfo, zeroValue, hi, hz, hlen, hn, h63, h48, Question.forced, hL', hM', newRow, grownCap]
    congr 2
    apply Array.ext'
    simp [List.append_assoc]
theorem run_append_in {P : Program} {D : Tab} (hD : TabOk P D) {w : World} {t0 t1 ty el : TypeId} {i : TypeInfo} {p : Option Addr} {sLen sCap n : Nat} {x : Value} {M : List Value}
    (hu : P.underlying t0 = some (.slice el)) (hi : P.info? el = some i) (h1 : notInt D t1 = true) (hlen : (Builtin.lenOf x).run P w = .ok n w)
    (hM : (Builtin.firstCells i.size n x).run P w = .ok M.toArray w) (hg : sLen + n ≤ sCap) {w' : World} (hst : ∀ a, p = some a → (storeCells (a.add (sLen * i.size)) M).run P w = .ok () w') (hnone : p = none → w' = w) :
    (Builtin.append_ #[t0, t1] ty #[.slice p sLen sCap, x]).run P w = .ok (.slice p (sLen + n) sCap) w' := by
  have hz' := run_zeros hD h1 w
  simp only [Sem.run_bind] at hz'
  obtain ⟨d, hd⟩ : ∃ d, P.underlying t1 = some d := by
    unfold notInt at h1
    simp only [Bool.or_eq_true] at h1
    rcases h1 with h | h
    · obtain ⟨e, he⟩ := Option.isSome_iff_exists.1 h; exact ⟨_, of_telem hD he⟩
    · exact ⟨_, of_tstr hD h⟩
  have hnd : ∀ k, d ≠ .int k := by
    intro k e
    rw [run_underlying' hd] at hz'
    subst e; simp at hz'
  have hm : (match d with | .int _ => true | _ => false) = false := by cases d <;> first | rfl | exact absurd rfl (hnd _)
  cases p with
  | none =>
    have := hnone rfl; subst this
    simp [Builtin.append_, run_underlying' hu, run_underlying' hd, hm, sizeOf, typeInfo, hi, hlen, hg, hM]
  | some a =>
    have := hst a rfl
    simp [Builtin.append_, run_underlying' hu, run_underlying' hd, hm, sizeOf, typeInfo, hi, hlen, hg, hM, this]
theorem aAppend_sound {P : Program} {D : Tab} (hD : TabOk P D) {c : Cx} (H : HR c) {t0 t1 ty : TypeId} {x y : AV} {a v : Value} (hx : Rel c x a) (hy : Rel c y v) (h : Hold (aAppend D c.A t0 t1 x y).C) :
    EffOk P c (do pure (.value (← Builtin.append_ #[t0, t1] ty #[a, v]))) (aAppend D c.A t0 t1 x y) := by
  unfold aAppend at *
  cases hel : telem D t0 with
  | none => rw [hel] at h; exact False.elim h
  | some el =>
  rw [hel] at h
  simp only at h ⊢
  cases hty : tyOf D 8 el with
  | none => rw [hty] at h; exact False.elim h
  | some e =>
  rw [hty] at h
  simp only at h ⊢
  cases hb : (elOk D el e && notInt D t1) with
  | false => rw [hb] at h; exact False.elim h
  | true =>
  rw [hb] at h
  simp only [Bool.and_eq_true] at hb
  simp only at h ⊢
  obtain ⟨i, z, j1, j2, j3, j4, j5, j6, _⟩ := elOk_of hD hb.1
  have hu := of_telem hD hel
  generalize hs : aSrc e c.A y = s at *
  obtain ⟨C, oys⟩ := s
  cases oys with
  | none => exact False.elim h
  | some ys =>
  simp only at h ⊢
  have src : Hold C → ∃ M, SrcOk P c e v ys M := fun hC => aSrc_sound H j4 hy (by rw [hs]; exact hC) (by rw [hs])
  have hzl : z.cells.size = e.size := by
    have := congrArg List.length j6
    rw [(dft_fz (fun _ => True) default e).len] at this
    simpa using this
  -- a new block
  have grow : ∀ (c1 : Cx) (p : Option Addr) (sLen sCap : Nat) (xs : List e.den) (L M : List Value), c1.w.heap = c.w.heap → Ext c c1 → HR c1 → c1.w = c.w.drew → Cells c1.I c1.w e xs L → SrcOk P c e v ys M → List.length xs = sLen →
      (∀ w', w'.heap = c.w.heap → (Builtin.firstCells i.size sLen (.slice p sLen sCap)).run P w' = .ok L.toArray w') → sCap < sLen + List.length ys → sLen + List.length ys ≤ 4294967296 →
      EffOk P c (do pure (.value (← Builtin.append_ #[t0, t1] ty #[.slice p sLen sCap, v]))) ⟨none, .ref c1.A.length 0 (sLen + List.length ys), c1.A ++ [.row e (xs ++ ys)]⟩ := by
    intro c1 p sLen sCap xs L M hh E1 H1 hw hL hM hxl hfL hg hsm
    have hMl := hM.cells.1
    have hfM : ∀ w', w'.heap = c.w.heap → (Builtin.firstCells i.size (List.length ys) v).run P w' = .ok M.toArray w' := fun w' hw' => by
      have := hM.first w' hw' (List.length ys) (Nat.le_refl _)
      rw [j3, this, ← hMl, List.take_length]
    obtain ⟨cap, hcap, hrun⟩ := run_append_any (ty := ty) hD hu j1 j2 hb.2 (hM.len c.w) hfM hfL hg hsm j5
    have hcells : Cells c1.I c1.w e (xs ++ ys) (L ++ M) := hL.append (hM.cells.ext E1)
    have hLl := hL.1
    obtain ⟨E2, H2, hrel⟩ := row_new_sound (el := el) (cap := cap) (n := sLen + List.length ys) (cs := L.toArray ++ M.toArray ++ Builtin.zeroCells z.cells (cap - (sLen + List.length ys))) (L := L ++ M) (R := (Builtin.zeroCells z.cells (cap - (sLen + List.length ys))).toList) H1 j4 (by simp) hcells
      (by simp only [Array.size_append, zeroCells_len, hzl, List.size_toArray, hLl, hMl, hxl, ← Nat.add_mul]; congr 1; omega) (by simp [hxl]) hcap
    refine ⟨_, _, _, ?_, .inl rfl, E1.trans E2, H2, rfl, hrel⟩
    have hs1 : c.w.heap.size = c1.w.heap.size := by rw [hh]
    have hw2 : (c1.new (L.toArray ++ M.toArray ++ Builtin.zeroCells z.cells (cap - (sLen + List.length ys))) el (.row e (xs ++ ys))).w = c.w.drew.alloc (.cells (L.toArray ++ M.toArray ++ Builtin.zeroCells z.cells (cap - (sLen + List.length ys))) el) := by
      show c1.w.alloc _ = _; rw [hw]
    rw [hw2, ← hs1]
    simp only [Sem.run_bind, hrun, Result.andThen_ok, Sem.run_pure]
  have hdraw := ext_draw H c.w.drew rfl ⟨rfl, rfl, rfl⟩
  cases x <;> try exact False.elim h
  case nilSl =>
    simp only at h ⊢
    obtain ⟨hC, hle⟩ := andC_of h
    have hle : List.length ys ≤ 4294967296 := hle
    obtain ⟨M, hM⟩ := src hC
    unfold Rel at hx; subst hx
    rcases Nat.eq_zero_or_pos (List.length ys) with h0 | h0
    · have hys : ys = [] := List.eq_nil_of_length_eq_zero h0
      subst hys
      obtain ⟨E, H', hrel⟩ := nilRow_sound H e
      refine ⟨_, _, _, ?_, .inl rfl, E, H', rfl, hrel⟩
      have hf := hM.first c.w rfl 0 (Nat.le_refl _)
      have hML : M.take (0 * e.size) = [] := by simp
      rw [hML, ← j3] at hf
      have := run_append_in (ty := ty) (p := none) (sLen := 0) (sCap := 0) (w' := c.w) hD hu j1 hb.2 (hM.len c.w) hf (by simp) (fun a h => by cases h) (fun _ => rfl)
      simp only [Sem.run_bind, this, Result.andThen_ok, Sem.run_pure]
      rfl
    · have := grow { c with w := c.w.drew } none 0 0 [] [] M rfl hdraw.1 hdraw.2 rfl Cells.nil hM rfl (fun w' _ => rfl) (by omega) (by omega)
      obtain ⟨c', nx, u, k1, k2, k3, k4, k5, k6⟩ := this
      exact ⟨c', nx, u, k1, k2, k3, k4, by simpa using k5, by simpa using k6⟩
  case ref tok off len =>
    cases off with
    | succ o => exact False.elim h
    | zero =>
    simp only at h ⊢
    have hx0 := hx
    unfold Rel at hx
    cases h0 : c.A[tok]? with
    | none => rw [h0] at h; exact False.elim h
    | some o =>
    rw [h0] at h hx
    cases o <;> try exact False.elim h
    rename_i e' xs
    simp only at h hx ⊢
    by_cases he : e' = e
    · subst he
      rw [dif_pos rfl] at h ⊢
      obtain ⟨hC, hlen, hsm⟩ := andC_of h
      obtain ⟨M, hM⟩ := src hC
      have hlive : c.live tok := ⟨_, h0, rfl⟩
      have hMl := hM.cells.1
      have ho := H.obj tok _ h0
      have hxl : (List.take len xs).length = len := by rw [List.length_take]; omega
      -- a new block, the old one let go
      have grow2 : ∀ (p : Option Addr) (cap : Nat) (L : List Value), Cells c.I c.w e' (List.take len xs) L → (∀ w', w'.heap = c.w.heap → (Builtin.firstCells i.size len (.slice p len cap)).run P w' = .ok L.toArray w') → cap < len + List.length ys →
          EffOk P c (do pure (.value (← Builtin.append_ #[t0, t1] ty #[.slice p len cap, v]))) ⟨none, .ref c.A.length 0 (len + List.length ys), c.A.set tok .dead ++ [.row e' (List.take len xs ++ ys)]⟩ := by
        intro p cap L hL hfL hg
        have Ek := ext_kill c tok
        have Hk := hr_kill H tok
        have hd2 := ext_draw Hk (c.kill tok).w.drew rfl ⟨rfl, rfl, rfl⟩
        have := grow { c.kill tok with w := (c.kill tok).w.drew } p len cap (List.take len xs) L M rfl (Ek.trans hd2.1) hd2.2 rfl ((hL.ext Ek).ext hd2.1) hM hxl hfL hg hsm
        have hlA : ({ c.kill tok with w := (c.kill tok).w.drew } : Cx).A.length = c.A.length := by show (c.A.set tok _).length = _; simp
        rw [hlA] at this; exact this
      rcases hx with ⟨b, cap, cs, et, ad, hr, rfl, ha, hcap, hh, hsz⟩ | ⟨hr, _, rfl, rfl⟩
      · rw [hr] at ho
        rcases row_iff ho with ⟨h1, _⟩ | ⟨b', cs', et', L, R, h1, h2, h3, h4⟩
        · cases h1
        · cases h1
          rw [hh] at h2; cases h2
          have hLt := h4.take len hlen
          have hle : len * e'.size ≤ L.length := by rw [h4.1]; exact Nat.mul_le_mul_right _ hlen
          have hlL : (L.take (len * e'.size)).length = len * e'.size := by rw [List.length_take]; omega
          by_cases hg : cap < len + List.length ys
          · refine grow2 (some ad) cap _ hLt (fun w' hw' => ?_) hg
            rcases Nat.eq_zero_or_pos len with hl0 | hl0
            · subst hl0
              have : L.take (0 * e'.size) = [] := by simp
              rw [this]; simp only [Builtin.firstCells, Nat.zero_mul]; rfl
            · have := ha (by omega); subst this
              have := run_loadCells_list (P := P) w' ⟨b, 0 * e'.size, none⟩ (L.take (len * e'.size)) (fun j u hj => by
                rw [plain_add, heap_cell hw']
                have hlt := get_lt hj
                rw [hlL] at hlt
                rw [List.getElem?_take, if_pos hlt] at hj
                unfold World.cell?
                simp only [hh, Nat.zero_mul, Nat.zero_add]
                rw [← Array.getElem?_toList, h3, List.getElem?_append_left (by omega)]
                simpa using hj)
              rw [hlL, ← j3] at this
              simp only [Builtin.firstCells]; rw [← j3] at *; exact this
          · -- within the block
            have hfM := hM.first c.w rfl (List.length ys) (Nat.le_refl _)
            rw [← hMl, List.take_length, ← j3] at hfM
            have hfit : (len + List.length ys) * e'.size ≤ cs.size := by
              have : (len + List.length ys) * e'.size ≤ (0 + cap) * e'.size := Nat.mul_le_mul_right _ (by omega)
              omega
            rw [Nat.add_mul] at hfit
            have hst := run_storeCells_at P b (len * e'.size) et M 0 cs c.w hh (by omega) (fun u hu => ocell_oneCell (hM.cells.ocell u hu))
            simp only [Nat.add_zero] at hst
            have hsize : (setRange cs.toList (len * e'.size) M).toArray.size = cs.size := setRange_size (by omega)
            have E1 := ext_wr (o' := .row e' (List.take len xs ++ ys)) H h0 rfl hr hh hsize
            have hprefix : (setRange cs.toList (len * e'.size) M) = (L.take (len * e'.size) ++ M) ++ (cs.toList.drop (len * e'.size + M.length)) := by
              unfold setRange
              rw [h3, List.take_append_of_le_length hle]
            have H1 := hr_wr (o' := .row e' (List.take len xs ++ ys)) H h0 rfl hr hh hsize (row_mk (setRow_heap c.w b _ _ et (0, 0) hh) hprefix ((hLt.append hM.cells).ext E1))
            have htl := get_lt h0
            have hA1 : (c.wr tok b (setRange cs.toList (len * e'.size) M).toArray (.row e' (List.take len xs ++ ys))).A[tok]? = some (.row e' (List.take len xs ++ ys)) := by
              show (c.A.set tok _)[tok]? = _; rw [List.getElem?_set_self htl]
            have hlive1 : (c.wr tok b (setRange cs.toList (len * e'.size) M).toArray (.row e' (List.take len xs ++ ys))).live tok := ⟨_, hA1, rfl⟩
            have ho1 := H1.obj tok _ hA1
            have E2 := ext_mv (o := .row e' (List.take len xs ++ ys)) hlive1
            have H2 := hr_mv (o := .row e' (List.take len xs ++ ys)) H1 hlive1 ho1
            have hrun := run_append_in (ty := ty) (p := some ad) (sLen := len) (sCap := cap) (w' := c.w.setRow b (setRange cs.toList (len * e'.size) M).toArray) hD hu j1 hb.2 (hM.len c.w) hfM (by omega) (fun a' ha' => by
              cases ha'
              rcases Nat.eq_zero_or_pos cap with hc0 | hc0
              · have hM0 : M = [] := List.eq_nil_of_length_eq_zero (by rw [hMl, show List.length ys = 0 by omega]; simp)
                subst hM0
                simp only [storeCells, Sem.run_pure]
                congr 1
                have : (setRange cs.toList (len * e'.size) []).toArray = cs := by unfold setRange; simp
                rw [this, setRow_self c.w b cs et (0, 0) hh]
              · have := ha hc0; subst this
                rw [plain_add, j3]
                simp only [Nat.zero_mul, Nat.zero_add]
                exact hst) (fun h => by cases h)
            refine ⟨_, .value (.slice (some ad) (len + List.length ys) cap), .slice (some ad) (len + List.length ys) cap, ?_, .inl rfl, E1.trans E2, H2, ?_, ?_⟩
            · simp only [Sem.run_bind, hrun, Result.andThen_ok, Sem.run_pure]; rfl
            · show (c.A.set tok _).set tok .dead ++ _ = _
              rw [List.set_set]
            · unfold Rel
              have hlA : (c.wr tok b (setRange cs.toList (len * e'.size) M).toArray (.row e' (List.take len xs ++ ys))).A.length = c.A.length := by show (c.A.set tok _).length = _; simp
              rw [← hlA, mv_new]
              refine .inl ⟨b, cap, _, et, ad, mv_ρn.trans hr, rfl, ha, by omega, setRow_heap c.w b _ _ et (0, 0) hh, ?_⟩
              rw [hsize]; exact hsz
      · -- nil
        rw [hr] at ho
        rcases Nat.eq_zero_or_pos (List.length ys) with h0' | h0'
        · have hys : ys = [] := List.eq_nil_of_length_eq_zero h0'
          subst hys
          have E2 := ext_mv (o := .row e' (List.take 0 xs ++ [])) hlive
          have H2 := hr_mv (o := .row e' (List.take 0 xs ++ [])) H hlive (by rw [hr]; exact .inl ⟨rfl, by simp⟩)
          have hf := hM.first c.w rfl 0 (Nat.le_refl _)
          have hML : M.take (0 * e'.size) = [] := by simp
          rw [hML, ← j3] at hf
          have := run_append_in (ty := ty) (p := none) (sLen := 0) (sCap := 0) (w' := c.w) hD hu j1 hb.2 (hM.len c.w) hf (by simp) (fun a h => by cases h) (fun _ => rfl)
          refine ⟨_, .value (.slice none 0 0), .slice none 0 0, ?_, .inl rfl, E2, H2, rfl, ?_⟩
          · simp only [Sem.run_bind, this, Result.andThen_ok, Sem.run_pure]; rfl
          · unfold Rel
            rw [mv_new]
            exact .inr ⟨mv_ρn.trans hr, rfl, rfl, rfl⟩
        · exact grow2 none 0 [] (by simpa using Cells.nil) (fun w' _ => rfl) (by omega)
    · rw [dif_neg he] at h; exact False.elim h
end Go.Ab
