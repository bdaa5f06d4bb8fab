/-
  Operations that only look: what an abstract state makes of them, and that the real ones do so.
-/
import Derived.Test.YtidhgdipnfhoeaaDoorAb1
namespace Go.Ab
open Go
/-! ### what a program's table of types says -/
/-- what a type is; its size; its zero -/
inductive TI where
  | int (k : IntKind) | bool | str | flt (k : FloatKind) | slice (e : Nat) | arr (n e : Nat) | struct (fs : List (Nat × Nat)) | ifc | ptr (e : Nat) | other
inductive Z where
  | int (k : IntKind) | bool | str | flt (k : FloatKind) | nilSl | nilI | nilF | nilP | nilM
structure TE where
  sz : Nat
  d : TI
  z : List Z
  conc : Bool
  bt : Nat
abbrev Tab := List (Nat × TE)
def Z.val : Z → Value
  | .int k => .int k 0
  | .bool => .bool false
  | .str => .string ByteArray.empty
  | .flt k => .float k 0
  | .nilSl => .slice none 0 0
  | .nilI => .nilIface
  | .nilF => .nilFunc
  | .nilP => .pointer none
  | .nilM => .map none
def zIs : Z → Value → Bool
  | .int k, .int k' n => decide (k = k') && decide (n = 0)
  | .bool, .bool b => !b
  | .str, .string s => s.data.toList.isEmpty
  | .flt k, .float k' n => decide (k = k') && decide (n = 0)
  | .nilSl, .slice none 0 0 => true
  | .nilI, .nilIface => true
  | .nilF, .nilFunc => true
  | .nilP, .pointer none => true
  | .nilM, .map none => true
  | _, _ => false
def zsAre : List Z → List Value → Bool
  | [], [] => true
  | z :: zs, v :: vs => zIs z v && zsAre zs vs
  | _, _ => false
def tiIs : TI → TypeDesc → Bool
  | .int k, .int k' => decide (k = k')
  | .bool, .bool => true
  | .str, .string => true
  | .flt k, .float k' => decide (k = k')
  | .slice e, .slice e' => Nat.beq e e'
  | .arr n e, .array n' e' => Nat.beq n n' && Nat.beq e e'
  | .struct l, .struct fs => decide (fs.toList.map (fun f => (f.offset, f.type)) = l)
  | .ifc, .interface _ => true
  | .ptr e, .pointer e' => Nat.beq e e'
  | .other, d => match d with | .struct _ | .array _ _ => false | _ => true
  | _, _ => false
def teIs (P : Program) (x : Nat × TE) : Bool := match P.info? x.1, P.underlying x.1 with
  | some i, some d => (Nat.beq i.size x.2.sz && Nat.beq i.bytes x.2.bt) && tiIs x.2.d d && (match i.zero with | some v => zsAre x.2.z v.cells.toList | none => x.2.z.isEmpty) && (!x.2.conc || P.concrete x.1)
  | _, _ => false
/-- the table tells the truth -/
def TabOk (P : Program) (D : Tab) : Prop := D.all (teIs P) = true
def tlook : Tab → Nat → Option TE
  | [], _ => none
  | (t, e) :: D, u => match Nat.beq t u with | true => some e | false => tlook D u
def tsz (D : Tab) (t : TypeId) : Nat := match tlook D t with | some i => i.sz | none => 0
def tby (D : Tab) (t : TypeId) : Nat := match tlook D t with | some i => i.bt | none => 0
def tagg (D : Tab) (t : TypeId) : Option Bool := match tlook D t with
  | some i => match i.d with
    | .struct _ => some true
    | .arr _ _ => some true
    | _ => some false
  | none => none
def tfld (D : Tab) (t : TypeId) (f : Nat) : Option (Nat × TypeId) := match tlook D t with
  | some i => match i.d with
    | .struct fs => fs[f]?
    | _ => none
  | none => none
def telem (D : Tab) (t : TypeId) : Option TypeId := match tlook D t with
  | some i => match i.d with
    | .slice e => some e
    | _ => none
  | none => none
def tarr (D : Tab) (t : TypeId) : Option (Nat × TypeId) := match tlook D t with
  | some i => match i.d with
    | .arr n e => some (n, e)
    | _ => none
  | none => none
def tkind (D : Tab) (t : TypeId) : Option IntKind := match tlook D t with
  | some i => match i.d with
    | .int k => some k
    | _ => none
  | none => none
def tstr (D : Tab) (t : TypeId) : Bool := match tlook D t with
  | some i => match i.d with
    | .str => true
    | _ => false
  | none => false
def tbool (D : Tab) (t : TypeId) : Bool := match tlook D t with
  | some i => match i.d with
    | .bool => true
    | _ => false
  | none => false
def tiface (D : Tab) (t : TypeId) : Bool := match tlook D t with
  | some i => match i.d with
    | .ifc => true
    | _ => false
  | none => false
def tconc (D : Tab) (t : TypeId) : Bool := match tlook D t with
  | some i => i.conc
  | none => false
theorem beq_eq {a b : Nat} (h : Nat.beq a b = true) : a = b := Nat.eq_of_beq_eq_true h
theorem tlook_te {P : Program} {D : Tab} (hD : TabOk P D) {t : Nat} {e : TE} (h : tlook D t = some e) : teIs P (t, e) = true := by
  unfold TabOk at hD
  induction D with
  | nil => cases h
  | cons x D ih =>
    obtain ⟨u, e'⟩ := x
    simp only [List.all_cons, Bool.and_eq_true] at hD
    unfold tlook at h
    split at h
    · rename_i hb; cases h; rw [← beq_eq hb]; exact hD.1
    · exact ih hD.2 h
theorem tlook_info {P : Program} {D : Tab} (hD : TabOk P D) {t : Nat} {e : TE} (h : tlook D t = some e) :
    ∃ i d, P.info? t = some i ∧ P.underlying t = some d ∧ i.size = e.sz ∧ tiIs e.d d = true ∧ (match i.zero with | some v => zsAre e.z v.cells.toList | none => e.z.isEmpty) = true ∧ (e.conc = true → P.concrete t = true) ∧ i.bytes = e.bt := by
  have hx := tlook_te hD h
  unfold teIs at hx
  cases hi : P.info? t with
  | none => simp only [hi] at hx; cases hx
  | some i =>
    cases hu : P.underlying t with
    | none => simp only [hi, hu] at hx; cases hx
    | some d =>
      simp only [hi, hu, Bool.and_eq_true, Bool.or_eq_true, Bool.not_eq_true'] at hx
      refine ⟨i, d, rfl, rfl, beq_eq hx.1.1.1.1, hx.1.1.2, hx.1.2, fun hc => ?_, beq_eq hx.1.1.1.2⟩
      rcases hx.2 with h | h
      · rw [hc] at h; cases h
      · exact h
section
variable {P : Program} {D : Tab} (hD : TabOk P D)
include hD
theorem run_sizeOf {t : TypeId} {n : Nat} (h : tsz D t = n) (hn : 0 < n) (w : World) : (sizeOf t).run P w = .ok n w := by
  unfold tsz at h
  cases hi : tlook D t with
  | none => rw [hi] at h; simp at h; omega
  | some e =>
    rw [hi] at h; simp at h
    obtain ⟨i, d, h1, _, h3, _⟩ := tlook_info hD hi
    simp [sizeOf, typeInfo, h1, h3, h]
theorem run_isAgg {t : TypeId} {b : Bool} (h : tagg D t = some b) (w : World) : (isAgg t).run P w = .ok b w := by
  unfold tagg at h
  cases hi : tlook D t with
  | none => rw [hi] at h; cases h
  | some e =>
    rw [hi] at h
    obtain ⟨i, d, _, h2, _, h4, _⟩ := tlook_info hD hi
    simp only at h
    cases hd : e.d <;> rw [hd] at h h4 <;> cases d <;> simp_all [tiIs, isAgg, underlying]
theorem of_tfld {t : TypeId} {f off : Nat} {ft : TypeId} (h : tfld D t f = some (off, ft)) : ∃ fs x, P.underlying t = some (.struct fs) ∧ fs[f]? = some x ∧ x.offset = off ∧ x.type = ft := by
  unfold tfld at h
  cases hi : tlook D t with
  | none => rw [hi] at h; cases h
  | some e =>
    rw [hi] at h
    obtain ⟨i, d, _, h2, _, h4, _⟩ := tlook_info hD hi
    simp only at h
    cases hd : e.d <;> rw [hd] at h h4 <;> try (cases h; done)
    cases d <;> try (cases h4; done)
    rename_i l fs
    simp only [tiIs, decide_eq_true_eq] at h4
    simp only at h
    rw [← h4, List.getElem?_map] at h
    cases hf : fs.toList[f]? with
    | none => rw [hf] at h; cases h
    | some x =>
      rw [hf] at h
      simp at h
      exact ⟨fs, x, h2, by simpa using hf, h.1, h.2⟩
theorem of_telem {t e : TypeId} (h : telem D t = some e) : P.underlying t = some (.slice e) := by
  unfold telem at h
  cases hi : tlook D t with
  | none => rw [hi] at h; cases h
  | some x =>
    rw [hi] at h
    obtain ⟨i, d, _, h2, _, h4, _⟩ := tlook_info hD hi
    simp only at h
    cases hd : x.d <;> rw [hd] at h h4 <;> try (cases h; done)
    cases d <;> try (cases h4; done)
    cases h; rw [h2, beq_eq h4]
theorem of_tarr {t e : TypeId} {n : Nat} (h : tarr D t = some (n, e)) : P.underlying t = some (.array n e) := by
  unfold tarr at h
  cases hi : tlook D t with
  | none => rw [hi] at h; cases h
  | some x =>
    rw [hi] at h
    obtain ⟨i, d, _, h2, _, h4, _⟩ := tlook_info hD hi
    simp only at h
    cases hd : x.d <;> rw [hd] at h h4 <;> try (cases h; done)
    cases d <;> try (cases h4; done)
    simp only [tiIs, Bool.and_eq_true] at h4
    cases h; rw [h2, beq_eq h4.1, beq_eq h4.2]
theorem of_tkind {t : TypeId} {k : IntKind} (h : tkind D t = some k) : P.underlying t = some (.int k) := by
  unfold tkind at h
  cases hi : tlook D t with
  | none => rw [hi] at h; cases h
  | some x =>
    rw [hi] at h
    obtain ⟨i, d, _, h2, _, h4, _⟩ := tlook_info hD hi
    simp only at h
    cases hd : x.d <;> rw [hd] at h h4 <;> try (cases h; done)
    cases d <;> try (cases h4; done)
    simp only [tiIs, decide_eq_true_eq] at h4
    cases h; rw [h2, h4]
theorem of_tstr {t : TypeId} (h : tstr D t = true) : P.underlying t = some .string := by
  unfold tstr at h
  cases hi : tlook D t with
  | none => rw [hi] at h; cases h
  | some x =>
    rw [hi] at h
    obtain ⟨i, d, _, h2, _, h4, _⟩ := tlook_info hD hi
    simp only at h
    cases hd : x.d <;> rw [hd] at h h4 <;> try (cases h; done)
    cases d <;> try (cases h4; done)
    exact h2
theorem of_tbool {t : TypeId} (h : tbool D t = true) : P.underlying t = some .bool := by
  unfold tbool at h
  cases hi : tlook D t with
  | none => rw [hi] at h; cases h
  | some x =>
    rw [hi] at h
    obtain ⟨i, d, _, h2, _, h4, _⟩ := tlook_info hD hi
    simp only at h
    cases hd : x.d <;> rw [hd] at h h4 <;> try (cases h; done)
    cases d <;> try (cases h4; done)
    exact h2
theorem of_tiface {t : TypeId} (h : tiface D t = true) : ∃ ms, P.underlying t = some (.interface ms) := by
  unfold tiface at h
  cases hi : tlook D t with
  | none => rw [hi] at h; cases h
  | some x =>
    rw [hi] at h
    obtain ⟨i, d, _, h2, _, h4, _⟩ := tlook_info hD hi
    simp only at h
    cases hd : x.d <;> rw [hd] at h h4 <;> try (cases h; done)
    cases d <;> try (cases h4; done)
    exact ⟨_, h2⟩
theorem of_tconc {t : TypeId} (h : tconc D t = true) : P.concrete t = true := by
  unfold tconc at h
  cases hi : tlook D t with
  | none => rw [hi] at h; cases h
  | some x =>
    rw [hi] at h
    obtain ⟨_, _, _, _, _, _, _, h7, _⟩ := tlook_info hD hi
    exact h7 h
theorem of_known {t : TypeId} (h : (tlook D t).isSome = true) : (P.underlying t).isSome = true := by
  cases hi : tlook D t with
  | none => rw [hi] at h; cases h
  | some x =>
    obtain ⟨_, _, _, h2, _⟩ := tlook_info hD hi
    rw [h2]; rfl
end
theorem zIs_val {z : Z} {v : Value} (h : zIs z v = true) : v = z.val := by
  unfold zIs at h
  split at h
  · simp at h; rw [h.1, h.2]; rfl
  · simp at h; rw [h]; rfl
  · rename_i s
    obtain ⟨⟨l⟩⟩ := s
    simp at h; subst h; rfl
  · simp at h; rw [h.1, h.2]; rfl
  · rfl
  · rfl
  · rfl
  · rfl
  · rfl
  · cases h
theorem zsAre_map : ∀ {zs : List Z} {vs : List Value}, zsAre zs vs = true → vs = zs.map Z.val
  | [], [], _ => rfl
  | [], _ :: _, h => by cases h
  | _ :: _, [], h => by cases h
  | z :: zs, v :: vs, h => by
    unfold zsAre at h
    simp only [Bool.and_eq_true] at h
    rw [List.map_cons, zIs_val h.1, zsAre_map h.2]
/-! ### parts -/
def bEq : Bool → Bool → Bool
  | true, true => true
  | false, false => true
  | _, _ => false
theorem bEq_of {a b : Bool} (h : bEq a b = true) : a = b := by cases a <;> cases b <;> first | rfl | cases h
/-- all of it -/
def isAll (off sz n : Nat) (ag ag' : Bool) : Bool := Nat.beq off 0 && (Nat.beq sz n && bEq ag ag')
theorem isAll_of {off sz n : Nat} {ag ag' : Bool} (h : isAll off sz n ag ag' = true) : off = 0 ∧ sz = n ∧ ag = ag' := by
  unfold isAll at h
  simp only [Bool.and_eq_true] at h
  exact ⟨beq_eq h.1, beq_eq h.2.1, bEq_of h.2.2⟩
def Ty.sub : (t : Ty) → t.den → Bool → Nat → Nat → Option (Σ u : Ty, u.den)
  | .int k, x, ag, off, sz => match isAll off sz 1 ag false with | true => some ⟨.int k, x⟩ | false => none
  | .bool, x, ag, off, sz => match isAll off sz 1 ag false with | true => some ⟨.bool, x⟩ | false => none
  | .str, x, ag, off, sz => match isAll off sz 1 ag false with | true => some ⟨.str, x⟩ | false => none
  | .flt k, x, ag, off, sz => match isAll off sz 1 ag false with | true => some ⟨.flt k, x⟩ | false => none
  | .raw, x, ag, off, sz => match isAll off sz 1 ag false with | true => some ⟨.raw, x⟩ | false => none
  | .list e, x, ag, off, sz => match isAll off sz 1 ag false with | true => some ⟨.list e, x⟩ | false => none
  | .one a, x, ag, off, sz => match isAll off sz a.size ag true with | true => some ⟨.one a, x⟩ | false => Ty.sub a x ag off sz
  | .pair a b, x, ag, off, sz => match isAll off sz (a.size + b.size) ag true with
    | true => some ⟨.pair a b, x⟩
    | false => match Nat.blt off a.size with
      | true => Ty.sub a x.1 ag off sz
      | false => Ty.sub b x.2 ag (off - a.size) sz
  | .arr n e, x, ag, off, sz => match isAll off sz (n * e.size) ag true with
    | true => some ⟨.arr n e, x⟩
    | false => match Nat.blt (off / e.size) n with
      | true => Ty.sub e (List.getD x (off / e.size) e.dft) ag (off % e.size) sz
      | false => none
theorem blt_of {a b : Nat} (h : Nat.blt a b = true) : a < b := by
  have := Nat.le_of_ble_eq_true h; omega
theorem getD_flatten {s : Nat} : ∀ (css : List (List Value)) (i r m : Nat), (∀ j, j < css.length → (css.getD j []).length = s) → i < css.length → r + m ≤ s → (css.flatten.drop (i * s + r)).take m = ((css.getD i []).drop r).take m
  | [], i, r, m, _, hi, _ => by simp at hi
  | c :: css, i, r, m, h, hi, hr => by
    have h0 : c.length = s := by simpa using h 0 (by simp)
    cases i with
    | zero =>
      simp only [List.flatten_cons, Nat.zero_mul, Nat.zero_add, List.getD_cons_zero]
      rw [List.drop_append_of_le_length (by omega), List.take_append_of_le_length (by simp; omega)]
    | succ i =>
      simp only [List.flatten_cons, List.getD_cons_succ]
      rw [show (i + 1) * s + r = c.length + (i * s + r) by rw [Nat.succ_mul, h0]; omega, List.drop_append]
      rw [List.drop_eq_nil_of_le (by omega), List.nil_append, show c.length + (i * s + r) - c.length = i * s + r by omega]
      exact getD_flatten css i r m (fun j hj => by have := h (j + 1) (by simp; omega); simpa using this) (by simpa using hi) hr
theorem sub_sound {I : Nat → Prop} {w : World} : ∀ (t : Ty) (x : t.den) (cs : List Value) (ag : Bool) (off sz : Nat) (u : Ty) (y : u.den), FzC I w t x cs → t.sub x ag off sz = some ⟨u, y⟩ →
    u.size = sz ∧ u.isAgg = ag ∧ FzC I w u y ((cs.drop off).take sz) := by
  intro t
  have base : ∀ (t : Ty) (x : t.den) (cs : List Value) (ag : Bool) (off sz : Nat) (u : Ty) (y : u.den), FzC I w t x cs → (off = 0 ∧ sz = t.size ∧ ag = t.isAgg) → (⟨t, x⟩ : Σ u : Ty, u.den) = ⟨u, y⟩ →
      u.size = sz ∧ u.isAgg = ag ∧ FzC I w u y ((cs.drop off).take sz) := by
    intro t x cs ag off sz u y h h1 h2
    cases h2
    obtain ⟨rfl, rfl, rfl⟩ := h1
    refine ⟨rfl, rfl, ?_⟩
    rw [List.drop_zero, ← h.len, List.take_length]; exact h
  induction t with
  | int k | bool | str | flt k | raw | list e =>
    intro x cs ag off sz u y h hs
    unfold Ty.sub at hs
    split at hs
    · rename_i hc; exact base _ _ _ _ _ _ _ _ h (isAll_of hc) (Option.some.inj hs)
    · cases hs
  | one a ih =>
    intro x cs ag off sz u y h hs
    unfold Ty.sub at hs
    split at hs
    · rename_i hc; exact base (.one a) _ _ _ _ _ _ _ h (isAll_of hc) (Option.some.inj hs)
    · exact ih x cs ag off sz u y h hs
  | pair a b iha ihb =>
    intro x cs ag off sz u y h hs
    unfold Ty.sub at hs
    split at hs
    · rename_i hc; exact base (.pair a b) _ _ _ _ _ _ _ h (isAll_of hc) (Option.some.inj hs)
    · obtain ⟨l, r, rfl, h1, h2⟩ := h
      split at hs
      · rename_i hlt
        have hlt := blt_of hlt
        obtain ⟨k1, k2, k3⟩ := iha x.1 l ag off sz u y h1 hs
        refine ⟨k1, k2, ?_⟩
        have hl := k3.len
        simp at hl
        have hll := h1.len
        rw [List.drop_append_of_le_length (by omega)]
        by_cases hz : sz = 0
        · subst hz; simpa using k3
        · rw [List.take_append_of_le_length (by simp; omega)]; exact k3
      · rename_i hlt
        have hlt : ¬ off < a.size := fun h => by
          have : Nat.blt off a.size = true := Nat.ble_eq_true_of_le h
          rw [this] at hlt; cases hlt
        obtain ⟨k1, k2, k3⟩ := ihb x.2 r ag (off - a.size) sz u y h2 hs
        refine ⟨k1, k2, ?_⟩
        have hll := h1.len
        rw [List.drop_append, List.drop_eq_nil_of_le (by omega), List.nil_append, hll]; exact k3
  | arr n e ih =>
    intro x cs ag off sz u y h hs
    unfold Ty.sub at hs
    split at hs
    · rename_i hc; exact base (.arr n e) _ _ _ _ _ _ _ h (isAll_of hc) (Option.some.inj hs)
    · split at hs
      · rename_i hlt
        have hlt := blt_of hlt
        obtain ⟨hl, css, hn, rfl, hall⟩ := h
        have he : List.getD x (off / e.size) e.dft = x[off / e.size]'(by rw [hl]; exact hlt) := by simp [List.getD, List.getElem?_eq_getElem (show off / e.size < List.length x by rw [hl]; exact hlt)]
        rw [he] at hs
        obtain ⟨k1, k2, k3⟩ := ih _ _ ag _ sz u y (hall _ (by rw [hl]; exact hlt)) hs
        refine ⟨k1, k2, ?_⟩
        have hlen : ∀ j, j < css.length → (css.getD j []).length = e.size := fun j hj => (hall j (by rw [hl, ← hn]; exact hj)).len
        have hsz := k3.len
        have hci := hlen (off / e.size) (by rw [hn]; exact hlt)
        rw [List.length_take, List.length_drop, hci, k1] at hsz
        by_cases hz : sz = 0
        · subst hz; simpa using k3
        · have hpos : 0 < e.size := by omega
          have := getD_flatten (s := e.size) css (off / e.size) (off % e.size) sz hlen (by rw [hn]; exact hlt) (by omega)
          rw [show off / e.size * e.size + off % e.size = off by rw [Nat.mul_comm]; exact Nat.div_add_mod _ _] at this
          rw [this]; exact k3
      · cases hs
end Go.Ab
