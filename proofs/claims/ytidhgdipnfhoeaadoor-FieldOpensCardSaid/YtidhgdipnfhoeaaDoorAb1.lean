/-
  Abstract states: values and memory told by lists and numbers; what a real state owes to them.
-/
import Derived.WalkKit
namespace Go.Ab
open Go
def ocell : Value → Bool
  | .agg _ | .tuple _ => false
  | _ => true
/-! ### types of data that nobody writes -/
inductive Ty where
  | int (k : IntKind) | bool | str | flt (k : FloatKind) | raw
  | one (a : Ty) | pair (a b : Ty) | list (e : Ty) | arr (n : Nat) (e : Ty)
  deriving DecidableEq
@[reducible] def Ty.den : Ty → Type
  | .int _ => Int
  | .bool => Bool
  | .str => ByteArray
  | .flt _ => Nat
  | .raw => Value
  | .one a => a.den
  | .pair a b => a.den × b.den
  | .list e => List e.den
  | .arr _ e => List e.den
def Ty.size : Ty → Nat
  | .one a => a.size
  | .pair a b => a.size + b.size
  | .arr n e => n * e.size
  | _ => 1
def Ty.isAgg : Ty → Bool
  | .one _ | .pair _ _ | .arr _ _ => true
  | _ => false
def Ty.dft : (t : Ty) → t.den
  | .int _ => (0 : Int)
  | .bool => false
  | .str => ByteArray.empty
  | .flt _ => (0 : Nat)
  | .raw => Value.nilIface
  | .one a => a.dft
  | .pair a b => (a.dft, b.dft)
  | .list _ => []
  | .arr n e => List.replicate n e.dft
/-- the cells 'vs' hold the datum 'x'; what they lead to lies in blocks of I -/
def FzC (I : Nat → Prop) (w : World) : (t : Ty) → t.den → List Value → Prop
  | .int k, x, vs => vs = [.int k x]
  | .bool, x, vs => vs = [.bool x]
  | .str, x, vs => vs = [.string x]
  | .flt k, x, vs => vs = [.float k x]
  | .raw, x, vs => vs = [x] ∧ ocell x = true
  | .one a, x, vs => FzC I w a x vs
  | .pair a b, x, vs => ∃ l r, vs = l ++ r ∧ FzC I w a x.1 l ∧ FzC I w b x.2 r
  | .list e, x, vs => ∃ p cap, vs = [.slice p (List.length x) cap] ∧ List.length x ≤ cap ∧ ∀ i (h : i < List.length x), ∃ b off cs, p = some ⟨b, off, none⟩ ∧ I b ∧ b < w.heap.size ∧ FzC I w e (x[i]) cs ∧
      ∀ j (hj : j < cs.length), w.cell? ⟨b, off + i * e.size + j, none⟩ = some cs[j]
  | .arr n e, x, vs => List.length x = n ∧ ∃ css : List (List Value), css.length = n ∧ vs = css.flatten ∧ ∀ i (h : i < List.length x), FzC I w e (x[i]) (css.getD i [])
theorem cell_heap {w w' : World} {b : Nat} (h : w'.heap[b]? = w.heap[b]?) (o : Nat) (s : Option Nat) : w'.cell? ⟨b, o, s⟩ = w.cell? ⟨b, o, s⟩ := by
  unfold World.cell?; rw [h]
theorem FzC.mono {I I' : Nat → Prop} {w w' : World} (h : ∀ b, I b → b < w.heap.size → I' b ∧ w'.heap[b]? = w.heap[b]?) :
    ∀ (t : Ty) (x : t.den) (vs : List Value), FzC I w t x vs → FzC I' w' t x vs
  | .int _, _, _, hx => hx
  | .bool, _, _, hx => hx
  | .str, _, _, hx => hx
  | .flt _, _, _, hx => hx
  | .raw, _, _, hx => hx
  | .one a, x, vs, hx => FzC.mono h a x vs hx
  | .pair a b, x, vs, hx => by
    obtain ⟨l, r, e, h1, h2⟩ := hx
    exact ⟨l, r, e, FzC.mono h a _ _ h1, FzC.mono h b _ _ h2⟩
  | .list e, x, vs, hx => by
    obtain ⟨p, cap, he, hle, hall⟩ := hx
    refine ⟨p, cap, he, hle, fun i hi => ?_⟩
    obtain ⟨b, off, cs, hp, hI, hb, hc, hcell⟩ := hall i hi
    obtain ⟨hI', hh⟩ := h b hI hb
    have hb' : b < w'.heap.size := by
      rw [Array.getElem?_eq_getElem hb] at hh
      rcases Nat.lt_or_ge b w'.heap.size with h | h
      · exact h
      · rw [Array.getElem?_eq_none h] at hh; cases hh
    exact ⟨b, off, cs, hp, hI', hb', FzC.mono h e _ _ hc, fun j hj => (cell_heap hh _ _).trans (hcell j hj)⟩
  | .arr n e, x, vs, hx => by
    obtain ⟨hl, css, hn, he, hall⟩ := hx
    exact ⟨hl, css, hn, he, fun i hi => FzC.mono h e _ _ (hall i hi)⟩
theorem flatten_len {n s : Nat} {css : List (List Value)} (hn : css.length = n) (h : ∀ i, i < n → (css.getD i []).length = s) : css.flatten.length = n * s := by
  subst hn
  induction css with
  | nil => simp
  | cons c css ih =>
    have h0 := h 0 (by simp)
    simp at h0
    have := ih (fun i hi => by have := h (i + 1) (by simp; omega); simpa using this)
    simp only [List.flatten_cons, List.length_append, this, h0, List.length_cons, Nat.succ_mul]
    omega
theorem FzC.len {I : Nat → Prop} {w : World} : ∀ (t : Ty) (x : t.den) (vs : List Value), FzC I w t x vs → vs.length = t.size
  | .int _, _, _, hx => by rw [hx]; rfl
  | .bool, _, _, hx => by rw [hx]; rfl
  | .str, _, _, hx => by rw [hx]; rfl
  | .flt _, _, _, hx => by rw [hx]; rfl
  | .raw, _, _, hx => by rw [hx.1]; rfl
  | .one a, x, vs, hx => FzC.len a x vs hx
  | .pair a b, x, vs, hx => by
    obtain ⟨l, r, e, h1, h2⟩ := hx
    rw [e, List.length_append, FzC.len a _ _ h1, FzC.len b _ _ h2]; rfl
  | .list e, x, vs, hx => by obtain ⟨p, cap, he, _⟩ := hx; rw [he]; rfl
  | .arr n e, x, vs, hx => by
    obtain ⟨hl, css, hn, he, hall⟩ := hx
    rw [he]
    exact flatten_len hn (fun i hi => FzC.len e _ _ (hall i (by rw [hl]; exact hi)))
theorem mem_flatten_getD {css : List (List Value)} {v : Value} (h : v ∈ css.flatten) : ∃ i, i < css.length ∧ v ∈ css.getD i [] := by
  obtain ⟨c, hc, hv⟩ := List.mem_flatten.1 h
  obtain ⟨i, hi, rfl⟩ := List.getElem_of_mem hc
  exact ⟨i, hi, by simpa [List.getD, hi] using hv⟩
theorem FzC.cells1 {I : Nat → Prop} {w : World} : ∀ (t : Ty) (x : t.den) (vs : List Value), FzC I w t x vs → ∀ v ∈ vs, ocell v = true
  | .int _, _, _, hx => by rw [hx]; intro v hv; simp at hv; rw [hv]; rfl
  | .bool, _, _, hx => by rw [hx]; intro v hv; simp at hv; rw [hv]; rfl
  | .str, _, _, hx => by rw [hx]; intro v hv; simp at hv; rw [hv]; rfl
  | .flt _, _, _, hx => by rw [hx]; intro v hv; simp at hv; rw [hv]; rfl
  | .raw, _, _, hx => by rw [hx.1]; intro v hv; simp at hv; rw [hv]; exact hx.2
  | .one a, x, vs, hx => FzC.cells1 a x vs hx
  | .pair a b, x, vs, hx => by
    obtain ⟨l, r, e, h1, h2⟩ := hx
    intro v hv
    rw [e, List.mem_append] at hv
    rcases hv with hv | hv
    · exact FzC.cells1 a _ _ h1 v hv
    · exact FzC.cells1 b _ _ h2 v hv
  | .list e, x, vs, hx => by obtain ⟨p, cap, he, _⟩ := hx; rw [he]; intro v hv; simp at hv; rw [hv]; rfl
  | .arr n e, x, vs, hx => by
    obtain ⟨hl, css, hn, he, hall⟩ := hx
    intro v hv
    rw [he] at hv
    obtain ⟨i, hi, hv⟩ := mem_flatten_getD hv
    exact FzC.cells1 e _ _ (hall i (by rw [hl, ← hn]; exact hi)) v hv
/-- the value whose cells these are -/
def valOf (t : Ty) (cs : List Value) : Value := if t.isAgg then .agg cs.toArray else cs.headD .nilIface
theorem valOf_cells {I : Nat → Prop} {w : World} {t : Ty} {x : t.den} {cs : List Value} (h : FzC I w t x cs) : (valOf t cs).cells.toList = cs := by
  have hl := h.len
  have h1 := h.cells1
  unfold valOf
  by_cases ha : t.isAgg = true
  · rw [if_pos ha]; simp [Value.cells]
  · rw [if_neg ha]
    have hs : t.size = 1 := by cases t <;> first | rfl | (exact absurd rfl ha)
    rw [hs] at hl
    match cs, hl with
    | [v], _ =>
      have := h1 v (by simp)
      cases v <;> first | rfl | (simp [ocell] at this)
/-! ### abstract values -/
inductive AV where
  | fz (t : Ty) (x : t.den)
  | fptr (t : Ty) (x : t.den)
  | ref (tok off len : Nat)
  | nilSl
  | ptr (tok off : Nat)
  | elt (tok i off : Nat)
  | glob (g : Nat)
  | agg (vs : List AV)
  | tup (vs : List AV)
  | fn (f : FuncId) (caps : List AV)
  | ifc (t : TypeId) (v : AV)
  | opt (g : Bool) (v : AV)
  | unk
inductive AO where
  | row (e : Ty) (xs : List e.den)
  | box (vs : List AV)
  | dead
/-- tokens' blocks; what lies behind the tokens; blocks that are another's; the world -/
structure Cx where
  ρ : Nat → Option Nat
  A : List AO
  X : Nat → Prop
  w : World
  G : List (Nat × Value)
def AO.live : AO → Bool
  | .dead => false
  | _ => true
def Cx.live (c : Cx) (t : Nat) : Prop := ∃ o, c.A[t]? = some o ∧ o.live = true
def Cx.I (c : Cx) (b : Nat) : Prop := ¬ c.X b ∧ ∀ t, c.live t → c.ρ t ≠ some b
mutual
def AV.ok (n : Nat) : AV → Prop
  | .ref tok _ _ | .ptr tok _ | .elt tok _ _ => tok < n
  | .agg l | .tup l | .fn _ l => okL n l
  | .ifc _ a => a.ok n
  | .opt g a => g = true → a.ok n
  | _ => True
def okL (n : Nat) : List AV → Prop
  | [] => True
  | a :: l => a.ok n ∧ okL n l
end
mutual
def Rel (c : Cx) : AV → Value → Prop
  | .fz t x, v => ∃ cs, FzC c.I c.w t x cs ∧ v = valOf t cs
  | .fptr t x, v => ∃ b off cs, v = .pointer (some ⟨b, off, none⟩) ∧ c.I b ∧ b < c.w.heap.size ∧ FzC c.I c.w t x cs ∧ ∀ j (h : j < cs.length), c.w.cell? ⟨b, off + j, none⟩ = some cs[j]
  | .ref tok off len, v => match c.A[tok]? with
    | some (.row e _) => (∃ b cap cs et a, c.ρ tok = some b ∧ v = .slice (some a) len cap ∧ (0 < cap → a = ⟨b, off * e.size, none⟩) ∧ len ≤ cap ∧ c.w.heap[b]? = some (.cells cs et (0, 0)) ∧ (off + cap) * e.size ≤ cs.size) ∨
        (c.ρ tok = none ∧ off = 0 ∧ len = 0 ∧ v = .slice none 0 0)
    | some _ => True
    | none => False
  | .nilSl, v => v = .slice none 0 0
  | .ptr tok off, v => match c.A[tok]? with
    | some (.box _) => ∃ b, c.ρ tok = some b ∧ v = .pointer (some ⟨b, off, none⟩)
    | some .dead => True
    | _ => False
  | .elt tok i off, v => match c.A[tok]? with
    | some (.row e _) => ∃ b, c.ρ tok = some b ∧ v = .pointer (some ⟨b, i * e.size + off, none⟩)
    | some _ => True
    | none => False
  | .glob g, v => v = .pointer (some ⟨g, 0, none⟩)
  | .agg l, v => ∃ vs : List Value, v = .agg vs.toArray ∧ RelL c l vs
  | .tup l, v => ∃ vs : List Value, v = .tuple vs.toArray ∧ RelL c l vs
  | .fn f l, v => ∃ vs : List Value, v = .func (.func f) #[] vs.toArray ∧ RelL c l vs
  | .ifc t a, v => ∃ u, v = .iface t u ∧ Rel c a u
  | .opt g a, v => (g = true → Rel c a v) ∧ (g = false → v = undef)
  | .unk, _ => True
def RelL (c : Cx) : List AV → List Value → Prop
  | [], vs => vs = []
  | a :: l, vs => ∃ v r, vs = v :: r ∧ Rel c a v ∧ RelL c l r
end
def ObjOk (c : Cx) (r : Option Nat) : AO → Prop
  | .dead => True
  | .row e xs => (r = none ∧ List.length xs = 0) ∨ ∃ b cs et, r = some b ∧ c.w.heap[b]? = some (.cells cs et (0, 0)) ∧
      ∀ i (h : i < xs.length), ∃ ds, FzC c.I c.w e xs[i] ds ∧ ∀ j (hj : j < ds.length), cs[i * e.size + j]? = some ds[j]
  | .box vs => ∃ b cs et, r = some b ∧ c.w.heap[b]? = some (.cells (List.toArray cs) et (0, 0)) ∧ RelL c vs cs
def gk : List (Nat × Value) → Nat → Option Value
  | [], _ => none
  | (m, v) :: G, n => if m = n then some v else gk G n
/-- a known variable: its cell, and the block that it leads to, stay as they are -/
structure GloOk (c : Cx) (g : Nat) (v : Value) : Prop where
  I : c.I g
  cell : c.w.cell? ⟨g, 0, none⟩ = some v
  one : ocell v = true
  tgt : ∀ T a, v = .iface T (.pointer (some a)) → c.I a.block ∧ ∃ cs et, c.w.heap[a.block]? = some (.cells cs et (0, 0))
theorem GloOk.lt {c : Cx} {g : Nat} {v : Value} (h : GloOk c g v) : g < c.w.heap.size := by
  have k2 := h.cell
  unfold World.cell? at k2
  rcases Nat.lt_or_ge g c.w.heap.size with h' | h'
  · exact h'
  · simp only [Array.getElem?_eq_none h'] at k2; cases k2
theorem GloOk.mono {c c' : Cx} (hm : ∀ b, c.I b → b < c.w.heap.size → c'.I b ∧ c'.w.heap[b]? = c.w.heap[b]?) {g : Nat} {v : Value} (h : GloOk c g v) : GloOk c' g v := by
  obtain ⟨k1, k2⟩ := hm g h.I h.lt
  refine ⟨k1, (cell_heap k2 _ _).trans h.cell, h.one, fun T a e => ?_⟩
  obtain ⟨j1, cs, et, j2⟩ := h.tgt T a e
  have hlt : a.block < c.w.heap.size := by
    rcases Nat.lt_or_ge a.block c.w.heap.size with h' | h'
    · exact h'
    · rw [Array.getElem?_eq_none h'] at j2; cases j2
  obtain ⟨l1, l2⟩ := hm a.block j1 hlt
  exact ⟨l1, cs, et, by rw [l2]; exact j2⟩
structure HR (c : Cx) : Prop where
  far : ∀ t b, c.live t → c.ρ t = some b → ¬ c.X b
  inj : ∀ t u b, c.live t → c.live u → c.ρ t = some b → c.ρ u = some b → t = u
  obj : ∀ (t : Nat) o, c.A[t]? = some o → ObjOk c (c.ρ t) o
  old : ∀ b, c.X b → b < c.w.heap.size
  glo : ∀ g v, gk c.G g = some v → GloOk c g v
theorem ObjOk.lt {c : Cx} {o : AO} {b : Nat} (h : ObjOk c (some b) o) (hl : o.live = true) : b < c.w.heap.size := by
  have key : ∀ {cs et}, c.w.heap[b]? = some (.cells cs et (0, 0)) → b < c.w.heap.size := fun h => by
    rcases Nat.lt_or_ge b c.w.heap.size with h' | h'
    · exact h'
    · rw [Array.getElem?_eq_none h'] at h; cases h
  cases o with
  | dead => cases hl
  | row e xs =>
    rcases h with ⟨h, _⟩ | ⟨b', cs, et, hb, hh, _⟩
    · cases h
    · cases hb; exact key hh
  | box vs =>
    obtain ⟨b', cs, et, hb, hh, _⟩ := h
    cases hb; exact key hh
theorem HR.lt {c : Cx} (h : HR c) {t b : Nat} (hl : c.live t) (hr : c.ρ t = some b) : b < c.w.heap.size := by
  obtain ⟨o, ho, hl⟩ := hl
  have := h.obj t o ho
  rw [hr] at this
  exact this.lt hl
theorem get_lt {α : Type} {l : List α} {i : Nat} {x : α} (h : l[i]? = some x) : i < l.length := by
  rcases Nat.lt_or_ge i l.length with h' | h'
  · exact h'
  · rw [List.getElem?_eq_none h'] at h; cases h
mutual
theorem Rel.ok {c : Cx} : ∀ (a : AV) (v : Value), Rel c a v → a.ok c.A.length
  | .fz _ _, _, _ => trivial
  | .fptr _ _, _, _ => trivial
  | .ref tok _ _, _, h => by
    unfold Rel at h; unfold AV.ok
    cases ht : c.A[tok]? with
    | none => rw [ht] at h; exact h.elim
    | some o => exact get_lt ht
  | .nilSl, _, _ => trivial
  | .ptr tok _, _, h => by
    unfold Rel at h; unfold AV.ok
    cases ht : c.A[tok]? with
    | none => rw [ht] at h; exact h.elim
    | some o => exact get_lt ht
  | .elt tok _ _, _, h => by
    unfold Rel at h; unfold AV.ok
    cases ht : c.A[tok]? with
    | none => rw [ht] at h; exact h.elim
    | some o => exact get_lt ht
  | .glob _, _, _ => trivial
  | .agg l, _, h => by unfold Rel at h; obtain ⟨vs, _, h⟩ := h; exact RelL.ok l vs h
  | .tup l, _, h => by unfold Rel at h; obtain ⟨vs, _, h⟩ := h; exact RelL.ok l vs h
  | .fn _ l, _, h => by unfold Rel at h; obtain ⟨vs, _, h⟩ := h; exact RelL.ok l vs h
  | .ifc _ a, _, h => by unfold Rel at h; obtain ⟨u, _, h⟩ := h; exact Rel.ok a u h
  | .opt _ a, v, h => by unfold Rel at h; unfold AV.ok; exact fun hg => Rel.ok a v (h.1 hg)
  | .unk, _, _ => trivial
theorem RelL.ok {c : Cx} : ∀ (l : List AV) (vs : List Value), RelL c l vs → okL c.A.length l
  | [], _, _ => trivial
  | a :: l, vs, h => by
    unfold RelL at h
    obtain ⟨v, r, _, h1, h2⟩ := h
    exact ⟨Rel.ok a v h1, RelL.ok l r h2⟩
end
/-- what a token was, it is, or it is dead -/
def TokLe (c c' : Cx) (tok : Nat) : Prop :=
  match c'.A[tok]? with
  | some (.row e _) => (∃ xs, c.A[tok]? = some (.row e xs)) ∧ c'.ρ tok = c.ρ tok ∧
      ∀ b cs et, c.ρ tok = some b → c.w.heap[b]? = some (.cells cs et (0, 0)) → ∃ cs', c'.w.heap[b]? = some (.cells cs' et (0, 0)) ∧ cs'.size = cs.size
  | some (.box _) => ((∃ vs, c.A[tok]? = some (.box vs)) ∧ c'.ρ tok = c.ρ tok) ∨ ∃ e xs, c.A[tok]? = some (.row e xs)
  | some .dead => True
  | none => False
structure Le (n : Nat) (c c' : Cx) : Prop where
  I : ∀ b, c.I b → b < c.w.heap.size → c'.I b ∧ c'.w.heap[b]? = c.w.heap[b]?
  tok : ∀ tok, tok < n → TokLe c c' tok
  len : n ≤ c'.A.length
theorem heap_lt {w w' : World} {b : Nat} (hb : b < w.heap.size) (h : w'.heap[b]? = w.heap[b]?) : b < w'.heap.size := by
  rw [Array.getElem?_eq_getElem hb] at h
  rcases Nat.lt_or_ge b w'.heap.size with h' | h'
  · exact h'
  · rw [Array.getElem?_eq_none h'] at h; cases h
mutual
theorem AV.ok_le {n m : Nat} (h : n ≤ m) : ∀ (a : AV), a.ok n → a.ok m
  | .fz _ _, _ => trivial
  | .fptr _ _, _ => trivial
  | .ref tok _ _, h1 => by unfold AV.ok at *; omega
  | .nilSl, _ => trivial
  | .ptr tok _, h1 => by unfold AV.ok at *; omega
  | .elt tok _ _, h1 => by unfold AV.ok at *; omega
  | .glob _, _ => trivial
  | .agg l, h1 => by unfold AV.ok at *; exact okL_le h l h1
  | .tup l, h1 => by unfold AV.ok at *; exact okL_le h l h1
  | .fn _ l, h1 => by unfold AV.ok at *; exact okL_le h l h1
  | .ifc _ a, h1 => by unfold AV.ok at *; exact AV.ok_le h a h1
  | .opt _ a, h1 => by unfold AV.ok at *; exact fun hg => AV.ok_le h a (h1 hg)
  | .unk, _ => trivial
theorem okL_le {n m : Nat} (h : n ≤ m) : ∀ (l : List AV), okL n l → okL m l
  | [], _ => trivial
  | a :: l, h1 => by unfold okL at *; exact ⟨AV.ok_le h a h1.1, okL_le h l h1.2⟩
end
mutual
theorem Rel.mono {n : Nat} {c c' : Cx} (H : Le n c c') : ∀ (a : AV) (v : Value), a.ok n → Rel c a v → Rel c' a v
  | .fz t x, v, _, h => by
    unfold Rel at *
    obtain ⟨cs, h1, h2⟩ := h
    exact ⟨cs, h1.mono H.I, h2⟩
  | .fptr t x, v, _, h => by
    unfold Rel at *
    obtain ⟨b, off, cs, h1, h2, h3, h4, h5⟩ := h
    obtain ⟨k1, k2⟩ := H.I b h2 h3
    exact ⟨b, off, cs, h1, k1, heap_lt h3 k2, h4.mono H.I, fun j hj => (cell_heap k2 _ _).trans (h5 j hj)⟩
  | .ref tok off len, v, hok, h => by
    unfold AV.ok at hok
    have ht := H.tok tok hok
    unfold Rel at *
    unfold TokLe at ht
    cases hc : c'.A[tok]? with
    | none => rw [hc] at ht; exact ht.elim
    | some o =>
      rw [hc] at ht
      cases o with
      | dead => trivial
      | box vs => trivial
      | row e xs =>
        simp only at ht ⊢
        obtain ⟨⟨xs0, h0⟩, hr, hh⟩ := ht
        rw [h0] at h
        simp only at h
        rcases h with ⟨b, cap, cs, et, a, h1, h2, h3, h4, h5, h6⟩ | ⟨h1, h2⟩
        · obtain ⟨cs', k1, k2⟩ := hh b cs et h1 h5
          exact .inl ⟨b, cap, cs', et, a, hr.trans h1, h2, h3, h4, k1, by rw [k2]; exact h6⟩
        · exact .inr ⟨hr.trans h1, h2⟩
  | .nilSl, v, _, h => h
  | .ptr tok off, v, hok, h => by
    unfold AV.ok at hok
    have ht := H.tok tok hok
    unfold Rel at *
    unfold TokLe at ht
    cases hc : c'.A[tok]? with
    | none => rw [hc] at ht; exact ht.elim
    | some o =>
      rw [hc] at ht
      cases o with
      | dead => trivial
      | row e xs =>
        simp only at ht
        obtain ⟨⟨xs0, h0⟩, _⟩ := ht
        rw [h0] at h; exact h
      | box vs =>
        simp only at ht ⊢
        rcases ht with ⟨⟨vs0, h0⟩, hr⟩ | ⟨e, xs, h0⟩ <;> rw [h0] at h <;> try exact h.elim
        simp only at h
        obtain ⟨b, h1, h2⟩ := h
        exact ⟨b, hr.trans h1, h2⟩
  | .elt tok i off, v, hok, h => by
    unfold AV.ok at hok
    have ht := H.tok tok hok
    unfold Rel at *
    unfold TokLe at ht
    cases hc : c'.A[tok]? with
    | none => rw [hc] at ht; exact ht.elim
    | some o =>
      rw [hc] at ht
      cases o with
      | dead => trivial
      | box vs => trivial
      | row e xs =>
        simp only at ht ⊢
        obtain ⟨⟨xs0, h0⟩, hr, _⟩ := ht
        rw [h0] at h
        simp only at h
        obtain ⟨b, h1, h2⟩ := h
        exact ⟨b, hr.trans h1, h2⟩
  | .glob g, v, _, h => h
  | .agg l, v, hok, h => by
    unfold AV.ok at hok; unfold Rel at *
    obtain ⟨vs, h1, h2⟩ := h
    exact ⟨vs, h1, RelL.mono H l vs hok h2⟩
  | .tup l, v, hok, h => by
    unfold AV.ok at hok; unfold Rel at *
    obtain ⟨vs, h1, h2⟩ := h
    exact ⟨vs, h1, RelL.mono H l vs hok h2⟩
  | .fn f l, v, hok, h => by
    unfold AV.ok at hok; unfold Rel at *
    obtain ⟨vs, h1, h2⟩ := h
    exact ⟨vs, h1, RelL.mono H l vs hok h2⟩
  | .ifc t a, v, hok, h => by
    unfold AV.ok at hok; unfold Rel at *
    obtain ⟨u, h1, h2⟩ := h
    exact ⟨u, h1, Rel.mono H a u hok h2⟩
  | .opt g a, v, hok, h => by
    unfold AV.ok at hok; unfold Rel at *
    exact ⟨fun hg => Rel.mono H a v (hok hg) (h.1 hg), h.2⟩
  | .unk, v, _, _ => by unfold Rel; trivial
theorem RelL.mono {n : Nat} {c c' : Cx} (H : Le n c c') : ∀ (l : List AV) (vs : List Value), okL n l → RelL c l vs → RelL c' l vs
  | [], vs, _, h => h
  | a :: l, vs, hok, h => by
    unfold okL at hok
    unfold RelL at *
    obtain ⟨v, r, e, h1, h2⟩ := h
    exact ⟨v, r, e, Rel.mono H a v hok.1 h1, RelL.mono H l r hok.2 h2⟩
end
theorem RelL.length {c : Cx} : ∀ (l : List AV) (vs : List Value), RelL c l vs → vs.length = l.length
  | [], vs, h => by unfold RelL at h; rw [h]; rfl
  | a :: l, vs, h => by
    unfold RelL at h
    obtain ⟨v, r, e, _, h2⟩ := h
    rw [e, List.length_cons, List.length_cons, RelL.length l r h2]
theorem RelL.get {c : Cx} : ∀ (l : List AV) (vs : List Value) (i : Nat) (a : AV), RelL c l vs → l[i]? = some a → ∃ v, vs[i]? = some v ∧ Rel c a v
  | [], _, _, _, _, h => by simp at h
  | b :: l, vs, i, a, h, hi => by
    unfold RelL at h
    obtain ⟨v, r, e, h1, h2⟩ := h
    subst e
    cases i with
    | zero => simp at hi; subst hi; exact ⟨v, rfl, h1⟩
    | succ i => simp at hi ⊢; exact RelL.get l r i a h2 hi
theorem RelL.of_get {c : Cx} : ∀ (l : List AV) (vs : List Value), vs.length = l.length → (∀ (i : Nat) (a : AV) (v : Value), l[i]? = some a → vs[i]? = some v → Rel c a v) → RelL c l vs
  | [], vs, h, _ => by unfold RelL; exact List.eq_nil_of_length_eq_zero (by simpa using h)
  | a :: l, [], h, _ => by simp at h
  | a :: l, v :: vs, h, hall => by
    unfold RelL
    exact ⟨v, vs, rfl, hall 0 a v rfl rfl, RelL.of_get l vs (by simpa using h) (fun i a v h1 h2 => hall (i + 1) a v (by simpa using h1) (by simpa using h2))⟩
theorem RelL.append {c : Cx} : ∀ (l l' : List AV) (vs vs' : List Value), RelL c l vs → RelL c l' vs' → RelL c (l ++ l') (vs ++ vs')
  | [], l', vs, vs', h, h' => by unfold RelL at h; subst h; exact h'
  | a :: l, l', vs, vs', h, h' => by
    unfold RelL at h
    obtain ⟨v, r, e, h1, h2⟩ := h
    subst e
    show RelL c (a :: (l ++ l')) (v :: (r ++ vs'))
    unfold RelL
    exact ⟨v, r ++ vs', rfl, h1, RelL.append l l' r vs' h2 h'⟩
end Go.Ab
