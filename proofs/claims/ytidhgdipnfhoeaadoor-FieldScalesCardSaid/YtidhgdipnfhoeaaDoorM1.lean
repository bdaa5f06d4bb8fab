/-
  Abstract states: values and memory told by lists and numbers; what a real state owes to them.
-/
import Derived.WalkKit
namespace Go.Ab
open Go
def ocell : Value → Bool
  | .agg _ | .tuple _ => false
  | _ => true
/-! ### types of data that nobody writes -/
inductive Ty where
  | int (k : IntKind) | bool | str | flt (k : FloatKind) | raw
  | one (a : Ty) | pair (a b : Ty) | list (e : Ty) | arr (n : Nat) (e : Ty)
  deriving DecidableEq
@[reducible] def Ty.den : Ty → Type
  | .int _ => Int
  | .bool => Bool
  | .str => ByteArray
  | .flt _ => Nat
  | .raw => Value
  | .one a => a.den
  | .pair a b => a.den × b.den
  | .list e => List e.den
  | .arr _ e => List e.den
def Ty.size : Ty → Nat
  | .one a => a.size
  | .pair a b => a.size + b.size
  | .arr n e => n * e.size
  | _ => 1
def Ty.isAgg : Ty → Bool
  | .one _ | .pair _ _ | .arr _ _ => true
  | _ => false
def Ty.dft : (t : Ty) → t.den
  | .int _ => (0 : Int)
  | .bool => false
  | .str => ByteArray.empty
  | .flt _ => (0 : Nat)
  | .raw => Value.nilIface
  | .one a => a.dft
  | .pair a b => (a.dft, b.dft)
  | .list _ => []
  | .arr n e => List.replicate n e.dft
/-- the cells 'vs' hold the datum 'x'; what they lead to lies in blocks of I -/
def FzC (I : Nat → Prop) (w : World) : (t : Ty) → t.den → List Value → Prop
  | .int k, x, vs => vs = [.int k x]
  | .bool, x, vs => vs = [.bool x]
  | .str, x, vs => vs = [.string x]
  | .flt k, x, vs => vs = [.float k x]
  | .raw, x, vs => vs = [x] ∧ ocell x = true
  | .one a, x, vs => FzC I w a x vs
  | .pair a b, x, vs => ∃ l r, vs = l ++ r ∧ FzC I w a x.1 l ∧ FzC I w b x.2 r
  | .list e, x, vs => ∃ p cap, vs = [.slice p (List.length x) cap] ∧ List.length x ≤ cap ∧ ∀ i (h : i < List.length x), ∃ b off cs, p = some ⟨b, off, none⟩ ∧ I b ∧ b < w.heap.size ∧ FzC I w e (x[i]) cs ∧
      ∀ j (hj : j < cs.length), w.cell? ⟨b, off + i * e.size + j, none⟩ = some cs[j]
  | .arr n e, x, vs => List.length x = n ∧ ∃ css : List (List Value), css.length = n ∧ vs = css.flatten ∧ ∀ i (h : i < List.length x), FzC I w e (x[i]) (css.getD i [])
theorem cell_heap {w w' : World} {b : Nat} (h : w'.heap[b]? = w.heap[b]?) (o : Nat) (s : Option Nat) : w'.cell? ⟨b, o, s⟩ = w.cell? ⟨b, o, s⟩ := by
  unfold World.cell?; rw [h]
theorem FzC.mono {I I' : Nat → Prop} {w w' : World} (h : ∀ b, I b → b < w.heap.size → I' b ∧ w'.heap[b]? = w.heap[b]?) :
    ∀ (t : Ty) (x : t.den) (vs : List Value), FzC I w t x vs → FzC I' w' t x vs
  | .int _, _, _, hx => hx
  | .bool, _, _, hx => hx
  | .str, _, _, hx => hx
  | .flt _, _, _, hx => hx
  | .raw, _, _, hx => hx
  | .one a, x, vs, hx => FzC.mono h a x vs hx
  | .pair a b, x, vs, hx => by
    obtain ⟨l, r, e, h1, h2⟩ := hx
    exact ⟨l, r, e, FzC.mono h a _ _ h1, FzC.mono h b _ _ h2⟩
  | .list e, x, vs, hx => by
    obtain ⟨p, cap, he, hle, hall⟩ := hx
    refine ⟨p, cap, he, hle, fun i hi => ?_⟩
    obtain ⟨b, off, cs, hp, hI, hb, hc, hcell⟩ := hall i hi
    obtain ⟨hI', hh⟩ := h b hI hb
    have hb' : b < w'.heap.size := by
      rw [Array.getElem?_eq_getElem hb] at hh
      rcases Nat.lt_or_ge b w'.heap.size with h | h
      · exact h
      · rw [Array.getElem?_eq_none h] at hh; cases hh
    exact ⟨b, off, cs, hp, hI', hb', FzC.mono h e _ _ hc, fun j hj => (cell_heap hh _ _).trans (hcell j hj)⟩
  | .arr n e, x, vs, hx => by
    obtain ⟨hl, css, hn, he, hall⟩ := hx
    exact ⟨hl, css, hn, he, fun i hi => FzC.mono h e _ _ (hall i hi)⟩
theorem flatten_len {n s : Nat} {css : List (List Value)} (hn : css.length = n) (h : ∀ i, i < n → (css.getD i []).length = s) : css.flatten.length = n * s := by
  subst hn
  induction css with
  | nil => simp
  | cons c css ih =>
    have h0 := h 0 (by simp)
    simp at h0
    have := ih (fun i hi => by have := h (i + 1) (by simp; omega); simpa using this)
    simp only [List.flatten_cons, List.length_append, this, h0, List.length_cons, Nat.succ_mul]
    omega
theorem FzC.len {I : Nat → Prop} {w : World} : ∀ (t : Ty) (x : t.den) (vs : List Value), FzC I w t x vs → vs.length = t.size
  | .int _, _, _, hx => by rw [hx]; rfl
  | .bool, _, _, hx => by rw [hx]; rfl
  | .str, _, _, hx => by rw [hx]; rfl
  | .flt _, _, _, hx => by rw [hx]; rfl
  | .raw, _, _, hx => by rw [hx.1]; rfl
  | .one a, x, vs, hx => FzC.len a x vs hx
  | .pair a b, x, vs, hx => by
    obtain ⟨l, r, e, h1, h2⟩ := hx
    rw [e, List.length_append, FzC.len a _ _ h1, FzC.len b _ _ h2]; rfl
  | .list e, x, vs, hx => by obtain ⟨p, cap, he, _⟩ := hx; rw [he]; rfl
  | .arr n e, x, vs, hx => by
    obtain ⟨hl, css, hn, he, hall⟩ := hx
    rw [he]
    exact flatten_len hn (fun i hi => FzC.len e _ _ (hall i (by rw [hl]; exact hi)))
theorem mem_flatten_getD {css : List (List Value)} {v : Value} (h : v ∈ css.flatten) : ∃ i, i < css.length ∧ v ∈ css.getD i [] := by
  obtain ⟨c, hc, hv⟩ := List.mem_flatten.1 h
  obtain ⟨i, hi, rfl⟩ := List.getElem_of_mem hc
  exact ⟨i, hi, by simpa [List.getD, hi] using hv⟩
theorem FzC.cells1 {I : Nat → Prop} {w : World} : ∀ (t : Ty) (x : t.den) (vs : List Value), FzC I w t x vs → ∀ v ∈ vs, ocell v = true
  | .int _, _, _, hx => by rw [hx]; intro v hv; simp at hv; rw [hv]; rfl
  | .bool, _, _, hx => by rw [hx]; intro v hv; simp at hv; rw [hv]; rfl
  | .str, _, _, hx => by rw [hx]; intro v hv; simp at hv; rw [hv]; rfl
  | .flt _, _, _, hx => by rw [hx]; intro v hv; simp at hv; rw [hv]; rfl
  | .raw, _, _, hx => by rw [hx.1]; intro v hv; simp at hv; rw [hv]; exact hx.2
  | .one a, x, vs, hx => FzC.cells1 a x vs hx
  | .pair a b, x, vs, hx => by
    obtain ⟨l, r, e, h1, h2⟩ := hx
    intro v hv
    rw [e, List.mem_append] at hv
    rcases hv with hv | hv
    · exact FzC.cells1 a _ _ h1 v hv
    · exact FzC.cells1 b _ _ h2 v hv
  | .list e, x, vs, hx => by obtain ⟨p, cap, he, _⟩ := hx; rw [he]; intro v hv; simp at hv; rw [hv]; rfl
  | .arr n e, x, vs, hx => by
    obtain ⟨hl, css, hn, he, hall⟩ := hx
    intro v hv
    rw [he] at hv
    obtain ⟨i, hi, hv⟩ := mem_flatten_getD hv
    exact FzC.cells1 e _ _ (hall i (by rw [hl, ← hn]; exact hi)) v hv
/-- the value whose cells these are -/
def valOf (t : Ty) (cs : List Value) : Value := if t.isAgg then .agg cs.toArray else cs.headD .nilIface
theorem valOf_cells {I : Nat → Prop} {w : World} {t : Ty} {x : t.den} {cs : List Value} (h : FzC I w t x cs) : (valOf t cs).cells.toList = cs := by
  have hl := h.len
  have h1 := h.cells1
  unfold valOf
  by_cases ha : t.isAgg = true
  · rw [if_pos ha]; simp [Value.cells]
  · rw [if_neg ha]
    have hs : t.size = 1 := by cases t <;> first | rfl | (exact absurd rfl ha)
    rw [hs] at hl
    match cs, hl with
    | [v], _ =>
      have := h1 v (by simp)
      cases v <;> first | rfl | (simp [ocell] at this)
/-! ### abstract values -/
inductive AV where
  | fz (t : Ty) (x : t.den)
  | fptr (t : Ty) (x : t.den)
  | ref (tok off len : Nat)
  | nilSl
  | ptr (tok off : Nat)
  | elt (tok i off : Nat)
  | glob (g : Nat)
  | agg (vs : List AV)
  | tup (vs : List AV)
  | fn (f : FuncId) (caps : List AV)
  | ifc (t : TypeId) (v : AV)
  | opt (g : Bool) (v : AV)
  | unk
inductive AO where
  | row (e : Ty) (xs : List e.den)
  | box (vs : List AV)
  | dead
/-- tokens' blocks; what lies behind the tokens; blocks that are another's; the world -/
structure Cx where
  ρ : Nat → Option Nat
  A : List AO
  X : Nat → Prop
  w : World
  G : List (Nat × Value)
def AO.live : AO → Bool
  | .dead => false
  | _ => true
def Cx.live (c : Cx) (t : Nat) : Prop := ∃ o, c.A[t]? = some o ∧ o.live = true
def Cx.I (c : Cx) (b : Nat) : Prop := ¬ c.X b ∧ ∀ t, c.live t → c.ρ t ≠ some b
mutual
def AV.ok (n : Nat) : AV → Prop
  | .ref tok _ _ | .ptr tok _ | .elt tok _ _ => tok < n
  | .agg l | .tup l | .fn _ l => okL n l
  | .ifc _ a => a.ok n
  | .opt g a => g = true → a.ok n
  | _ => True
def okL (n : Nat) : List AV → Prop
  | [] => True
  | a :: l => a.ok n ∧ okL n l
end
mutual
def Rel (c : Cx) : AV → Value → Prop
  | .fz t x, v => ∃ cs, FzC c.I c.w t x cs ∧ v = valOf t cs
  | .fptr t x, v => ∃ b off cs, v = .pointer (some ⟨b, off, none⟩) ∧ c.I b ∧ b < c.w.heap.size ∧ FzC c.I c.w t x cs ∧ ∀ j (h : j < cs.length), c.w.cell? ⟨b, off + j, none⟩ = some cs[j]
  | .ref tok off len, v => match c.A[tok]? with
    | some (.row e _) => (∃ b cap cs et a, c.ρ tok = some b ∧ v = .slice (some a) len cap ∧ (0 < cap → a = ⟨b, off * e.size, none⟩) ∧ len ≤ cap ∧ c.w.heap[b]? = some (.cells cs et (0, 0)) ∧ (off + cap) * e.size ≤ cs.size) ∨
        (c.ρ tok = none ∧ off = 0 ∧ len = 0 ∧ v = .slice none 0 0)
    | some _ => True
    | none => False
  | .nilSl, v => v = .slice none 0 0
  | .ptr tok off, v => match c.A[tok]? with
    | some (.box _) => ∃ b, c.ρ tok = some b ∧ v = .pointer (some ⟨b, off, none⟩)
    | some .dead => True
    | _ => False
  | .elt tok i off, v => match c.A[tok]? with
    | some (.row e _) => ∃ b, c.ρ tok = some b ∧ v = .pointer (some ⟨b, i * e.size + off, none⟩)
    | some _ => True
    | none => False
  | .glob g, v => v = .pointer (some ⟨g, 0, none⟩)
  | .agg l, v => ∃ vs : List Value, v = .agg vs.toArray ∧ RelL c l vs
  | .tup l, v => ∃ vs : List Value, v = .tuple vs.toArray ∧ RelL c l vs
  | .fn f l, v => ∃ vs : List Value, v = .func (.func f) #[] vs.toArray ∧ RelL c l vs
  | .ifc t a, v => ∃ u, v = .iface t u ∧ Rel c a u
  | .opt g a, v => (g = true → Rel c a v) ∧ (g = false → v = undef)
  | .unk, _ => True
def RelL (c : Cx) : List AV → List Value → Prop
  | [], vs => vs = []
  | a :: l, vs => ∃ v r, vs = v :: r ∧ Rel c a v ∧ RelL c l r
end
def ObjOk (c : Cx) (r : Option Nat) : AO → Prop
  | .dead => True
  | .row e xs => (r = none ∧ List.length xs = 0) ∨ ∃ b cs et, r = some b ∧ c.w.heap[b]? = some (.cells cs et (0, 0)) ∧
      ∀ i (h : i < xs.length), ∃ ds, FzC c.I c.w e xs[i] ds ∧ ∀ j (hj : j < ds.length), cs[i * e.size + j]? = some ds[j]
  | .box vs => ∃ b cs et, r = some b ∧ c.w.heap[b]? = some (.cells (List.toArray cs) et (0, 0)) ∧ RelL c vs cs
def gk : List (Nat × Value) → Nat → Option Value
  | [], _ => none
  | (m, v) :: G, n => if m = n then some v else gk G n
/-- a known variable: its cell, and the block that it leads to, stay as they are -/
structure GloOk (c : Cx) (g : Nat) (v : Value) : Prop where
  I : c.I g
  cell : c.w.cell? ⟨g, 0, none⟩ = some v
  one : ocell v = true
  tgt : ∀ T a, v = .iface T (.pointer (some a)) → c.I a.block ∧ ∃ cs et, c.w.heap[a.block]? = some (.cells cs et (0, 0))
theorem GloOk.lt {c : Cx} {g : Nat} {v : Value} (h : GloOk c g v) : g < c.w.heap.size := by
  have k2 := h.cell
  unfold World.cell? at k2
  rcases Nat.lt_or_ge g c.w.heap.size with h' | h'
  · exact h'
  · simp only [Array.getElem?_eq_none h'] at k2; cases k2
theorem GloOk.mono {c c' : Cx} (hm : ∀ b, c.I b → b < c.w.heap.size → c'.I b ∧ c'.w.heap[b]? = c.w.heap[b]?) {g : Nat} {v : Value} (h : GloOk c g v) : GloOk c' g v := by
  obtain ⟨k1, k2⟩ := hm g h.I h.lt
  refine ⟨k1, (cell_heap k2 _ _).trans h.cell, h.one, fun T a e => ?_⟩
  obtain ⟨j1, cs, et, j2⟩ := h.tgt T a e
  have hlt : a.block < c.w.heap.size := by
    rcases Nat.lt_or_ge a.block c.w.heap.size with h' | h'
    · exact h'
    · rw [Array.getElem?_eq_none h'] at j2; cases j2
  obtain ⟨l1, l2⟩ := hm a.block j1 hlt
  exact ⟨l1, cs, et, by rw [l2]; exact j2⟩
structure HR (c : Cx) : Prop where
  far : ∀ t b, c.live t → c.ρ t = some b → ¬ c.X b
  inj : ∀ t u b, c.live t → c.live u → c.ρ t = some b → c.ρ u = some b → t = u
  obj : ∀ (t : Nat) o, c.A[t]? = some o → ObjOk c (c.ρ t) o
  old : ∀ b, c.X b → b < c.w.heap.size
  glo : ∀ g v, gk c.G g = some v → GloOk c g v
theorem ObjOk.lt {c : Cx} {o : AO} {b : Nat} (h : ObjOk c (some b) o) (hl : o.live = true) : b < c.w.heap.size := by
  have key : ∀ {cs et}, c.w.heap[b]? = some (.cells cs et (0, 0)) → b < c.w.heap.size := fun h => by
    rcases Nat.lt_or_ge b c.w.heap.size with h' | h'
    · exact h'
    · rw [Array.getElem?_eq_none h'] at h; cases h
  cases o with
  | dead => cases hl
  | row e xs =>
    rcases h with ⟨h, _⟩ | ⟨b', cs, et, hb, hh, _⟩
    · cases h
    · cases hb; exact key hh
  | box vs =>
    obtain ⟨b', cs, et, hb, hh, _⟩ := h
    cases hb; exact key hh
theorem HR.lt {c : Cx} (h : HR c) {t b : Nat} (hl : c.live t) (hr : c.ρ t = some b) : b < c.w.heap.size := by
  obtain ⟨o, ho, hl⟩ := hl
  have := h.obj t o ho
  rw [hr] at this
  exact this.lt hl
theorem get_lt {α : Type} {l : List α} {i : Nat} {x : α} (h : l[i]? = some x) : i < l.length := by
  rcases Nat.lt_or_ge i l.length with h' | h'
  · exact h'
  · rw [List.getElem?_eq_none h'] at h; cases h
mutual
theorem Rel.ok {c : Cx} : ∀ (a : AV) (v : Value), Rel c a v → a.ok c.A.length
  | .fz _ _, _, _ => trivial
  | .fptr _ _, _, _ => trivial
  | .ref tok _ _, _, h => by
    unfold Rel at h; unfold AV.ok
    cases ht : c.A[tok]? with
    | none => rw [ht] at h; exact h.elim
    | some o => exact get_lt ht
  | .nilSl, _, _ => trivial
  | .ptr tok _, _, h => by
    unfold Rel at h; unfold AV.ok
    cases ht : c.A[tok]? with
    | none => rw [ht] at h; exact h.elim
    | some o => exact get_lt ht
  | .elt tok _ _, _, h => by
    unfold Rel at h; unfold AV.ok
    cases ht : c.A[tok]? with
    | none => rw [ht] at h; exact h.elim
    | some o => exact get_lt ht
  | .glob _, _, _ => trivial
  | .agg l, _, h => by unfold Rel at h; obtain ⟨vs, _, h⟩ := h; exact RelL.ok l vs h
  | .tup l, _, h => by unfold Rel at h; obtain ⟨vs, _, h⟩ := h; exact RelL.ok l vs h
  | .fn _ l, _, h => by unfold Rel at h; obtain ⟨vs, _, h⟩ := h; exact RelL.ok l vs h
  | .ifc _ a, _, h => by unfold Rel at h; obtain ⟨u, _, h⟩ := h; exact Rel.ok a u h
  | .opt _ a, v, h => by unfold Rel at h; unfold AV.ok; exact fun hg => Rel.ok a v (h.1 hg)
  | .unk, _, _ => trivial
theorem RelL.ok {c : Cx} : ∀ (l : List AV) (vs : List Value), RelL c l vs → okL c.A.length l
  | [], _, _ => trivial
  | a :: l, vs, h => by
    unfold RelL at h
    obtain ⟨v, r, _, h1, h2⟩ := h
    exact ⟨Rel.ok a v h1, RelL.ok l r h2⟩
end
/-- what a token was, it is, or it is dead -/
def TokLe (c c' : Cx) (tok : Nat) : Prop :=
  match c'.A[tok]? with
  | some (.row e _) => (∃ xs, c.A[tok]? = some (.row e xs)) ∧ c'.ρ tok = c.ρ tok ∧
      ∀ b cs et, c.ρ tok = some b → c.w.heap[b]? = some (.cells cs et (0, 0)) → ∃ cs', c'.w.heap[b]? = some (.cells cs' et (0, 0)) ∧ cs'.size = cs.size
  | some (.box _) => ((∃ vs, c.A[tok]? = some (.box vs)) ∧ c'.ρ tok = c.ρ tok) ∨ ∃ e xs, c.A[tok]? = some (.row e xs)
  | some .dead => True
  | none => False
structure Le (n : Nat) (c c' : Cx) : Prop where
  I : ∀ b, c.I b → b < c.w.heap.size → c'.I b ∧ c'.w.heap[b]? = c.w.heap[b]?
  tok : ∀ tok, tok < n → TokLe c c' tok
  len : n ≤ c'.A.length
theorem heap_lt {w w' : World} {b : Nat} (hb : b < w.heap.size) (h : w'.heap[b]? = w.heap[b]?) : b < w'.heap.size := by
  rw [Array.getElem?_eq_getElem hb] at h
  rcases Nat.lt_or_ge b w'.heap.size with h' | h'
  · exact h'
  · rw [Array.getElem?_eq_none h'] at h; cases h
mutual
theorem AV.ok_le {n m : Nat} (h : n ≤ m) : ∀ (a : AV), a.ok n → a.ok m
  | .fz _ _, _ => trivial
  | .fptr _ _, _ => trivial
  | .ref tok _ _, h1 => by unfold AV.ok at *; omega
  | .nilSl, _ => trivial
  | .ptr tok _, h1 => by unfold AV.ok at *; omega
  | .elt tok _ _, h1 => by unfold AV.ok at *; omega
  | .glob _, _ => trivial
  | .agg l, h1 => by unfold AV.ok at *; exact okL_le h l h1
  | .tup l, h1 => by unfold AV.ok at *; exact okL_le h l h1
  | .fn _ l, h1 => by unfold AV.ok at *; exact okL_le h l h1
  | .ifc _ a, h1 => by unfold AV.ok at *; exact AV.ok_le h a h1
  | .opt _ a, h1 => by unfold AV.ok at *; exact fun hg => AV.ok_le h a (h1 hg)
  | .unk, _ => trivial
theorem okL_le {n m : Nat} (h : n ≤ m) : ∀ (l : List AV), okL n l → okL m l
  | [], _ => trivial
  | a :: l, h1 => by unfold okL at *; exact ⟨AV.ok_le h a h1.1, okL_le h l h1.2⟩
end
mutual
theorem Rel.mono {n : Nat} {c c' : Cx} (H : Le n c c') : ∀ (a : AV) (v : Value), a.ok n → Rel c a v → Rel c' a v
  | .fz t x, v, _, h => by
    unfold Rel at *
    obtain ⟨cs, h1, h2⟩ := h
    exact ⟨cs, h1.mono H.I, h2⟩
  | .fptr t x, v, _, h => by
    unfold Rel at *
    obtain ⟨b, off, cs, h1, h2, h3, h4, h5⟩ := h
    obtain ⟨k1, k2⟩ := H.I b h2 h3
    exact ⟨b, off, cs, h1, k1, heap_lt h3 k2, h4.mono H.I, fun j hj => (cell_heap k2 _ _).trans (h5 j hj)⟩
  | .ref tok off len, v, hok, h => by
    unfold AV.ok at hok
    have ht := H.tok tok hok
    unfold Rel at *
    unfold TokLe at ht
    cases hc : c'.A[tok]? with
    | none => rw [hc] at ht; exact ht.elim
    | some o =>
      rw [hc] at ht
      cases o with
      | dead => trivial
      | box vs => trivial
      | row e xs =>
        simp only at ht ⊢
        obtain ⟨⟨xs0, h0⟩, hr, hh⟩ := ht
        rw [h0] at h
        simp only at h
        rcases h with ⟨b, cap, cs, et, a, h1, h2, h3, h4, h5, h6⟩ | ⟨h1, h2⟩
        · obtain ⟨cs', k1, k2⟩ := hh b cs et h1 h5
          exact .inl ⟨b, cap, cs', et, a, hr.trans h1, h2, h3, h4, k1, by rw [k2]; exact h6⟩
        · exact .inr ⟨hr.trans h1, h2⟩
  | .nilSl, v, _, h => h
  | .ptr tok off, v, hok, h => by
    unfold AV.ok at hok
    have ht := H.tok tok hok
    unfold Rel at *
    unfold TokLe at ht
    cases hc : c'.A[tok]? with
    | none => rw [hc] at ht; exact ht.elim
    | some o =>
      rw [hc] at ht
      cases o with
      | dead => trivial
      | row e xs =>
        simp only at ht
        obtain ⟨⟨xs0, h0⟩, _⟩ := ht
        rw [h0] at h; exact h
      | box vs =>
        simp only at ht ⊢
        rcases ht with ⟨⟨vs0, h0⟩, hr⟩ | ⟨e, xs, h0⟩ <;> rw [h0] at h <;> try exact h.elim
        simp only at h
        obtain ⟨b, h1, h2⟩ := h
        exact ⟨b, hr.trans h1, h2⟩
  | .elt tok i off, v, hok, h => by
    unfold AV.ok at hok
    have ht := H.tok tok hok
    unfold Rel at *
    unfold TokLe at ht
    cases hc : c'.A[tok]? with
    | none => rw [hc] at ht; exact ht.elim
    | some o =>
      rw [hc] at ht
      cases o with
      | dead => trivial
      | box vs => trivial
      | row e xs =>
        simp only at ht ⊢
        obtain ⟨⟨xs0, h0⟩, hr, _⟩ := ht
        rw [h0] at h
        simp only at h
        obtain ⟨b, h1, h2⟩ := h
        exact ⟨b, hr.trans h1, h2⟩
  | .glob g, v, _, h => h
  | .agg l, v, hok, h => by
    unfold AV.ok at hok; unfold Rel at *
    obtain ⟨vs, h1, h2⟩ := h
    exact ⟨vs, h1, RelL.mono H l vs hok h2⟩
  | .tup l, v, hok, h => by
    unfold AV.ok at hok; unfold Rel at *
    obtain ⟨vs, h1, h2⟩ := h
    exact ⟨vs, h1, RelL.mono H l vs hok h2⟩
  | .fn f l, v, hok, h => by
    unfold AV.ok at hok; unfold Rel at *
    obtain ⟨vs, h1, h2⟩ := h
    exact ⟨vs, h1, RelL.mono H l vs hok h2⟩
  | .ifc t a, v, hok, h => by
    unfold AV.ok at hok; unfold Rel at *
    obtain ⟨u, h1, h2⟩ := h
    exact ⟨u, h1, Rel.mono H a u hok h2⟩
  | .opt g a, v, hok, h => by
    unfold AV.ok at hok; unfold Rel at *
    exact ⟨fun hg => Rel.mono H a v (hok hg) (h.1 hg), h.2⟩
  | .unk, v, _, _ => by unfold Rel; trivial
theorem RelL.mono {n : Nat} {c c' : Cx} (H : Le n c c') : ∀ (l : List AV) (vs : List Value), okL n l → RelL c l vs → RelL c' l vs
  | [], vs, _, h => h
  | a :: l, vs, hok, h => by
    unfold okL at hok
    unfold RelL at *
    obtain ⟨v, r, e, h1, h2⟩ := h
    exact ⟨v, r, e, Rel.mono H a v hok.1 h1, RelL.mono H l r hok.2 h2⟩
end
theorem RelL.length {c : Cx} : ∀ (l : List AV) (vs : List Value), RelL c l vs → vs.length = l.length
  | [], vs, h => by unfold RelL at h; rw [h]; rfl
  | a :: l, vs, h => by
    unfold RelL at h
    obtain ⟨v, r, e, _, h2⟩ := h
    rw [e, List.length_cons, List.length_cons, RelL.length l r h2]
theorem RelL.get {c : Cx} : ∀ (l : List AV) (vs : List Value) (i : Nat) (a : AV), RelL c l vs → l[i]? = some a → ∃ v, vs[i]? = some v ∧ Rel c a v
  | [], _, _, _, _, h => by simp at h
  | b :: l, vs, i, a, h, hi => by
    unfold RelL at h
    obtain ⟨v, r, e, h1, h2⟩ := h
    subst e
    cases i with
    | zero => simp at hi; subst hi; exact ⟨v, rfl, h1⟩
    | succ i => simp at hi ⊢; exact RelL.get l r i a h2 hi
theorem RelL.of_get {c : Cx} : ∀ (l : List AV) (vs : List Value), vs.length = l.length → (∀ (i : Nat) (a : AV) (v : Value), l[i]? = some a → vs[i]? = some v → Rel c a v) → RelL c l vs
  | [], vs, h, _ => by unfold RelL; exact List.eq_nil_of_length_eq_zero (by simpa using h)
  | a :: l, [], h, _ => by simp at h
  | a :: l, v :: vs, h, hall => by
    unfold RelL
    exact ⟨v, vs, rfl, hall 0 a v rfl rfl, RelL.of_get l vs (by simpa using h) (fun i a v h1 h2 => hall (i + 1) a v (by simpa using h1) (by simpa using h2))⟩
theorem RelL.append {c : Cx} : ∀ (l l' : List AV) (vs vs' : List Value), RelL c l vs → RelL c l' vs' → RelL c (l ++ l') (vs ++ vs')
  | [], l', vs, vs', h, h' => by unfold RelL at h; subst h; exact h'
  | a :: l, l', vs, vs', h, h' => by
    unfold RelL at h
    obtain ⟨v, r, e, h1, h2⟩ := h
    subst e
    show RelL c (a :: (l ++ l')) (v :: (r ++ vs'))
    unfold RelL
    exact ⟨v, r ++ vs', rfl, h1, RelL.append l l' r vs' h2 h'⟩
end Go.Ab
/-
  Operations that only look: what an abstract state makes of them, and that the real ones do so.
-/
namespace Go.Ab
open Go
/-! ### what a program's table of types says -/
/-- what a type is; its size; its zero -/
inductive TI where
  | int (k : IntKind) | bool | str | flt (k : FloatKind) | slice (e : Nat) | arr (n e : Nat) | struct (fs : List (Nat × Nat)) | ifc | ptr (e : Nat) | other
inductive Z where
  | int (k : IntKind) | bool | str | flt (k : FloatKind) | nilSl | nilI | nilF | nilP | nilM
structure TE where
  sz : Nat
  d : TI
  z : List Z
  conc : Bool
  bt : Nat
abbrev Tab := List (Nat × TE)
def Z.val : Z → Value
  | .int k => .int k 0
  | .bool => .bool false
  | .str => .string ByteArray.empty
  | .flt k => .float k 0
  | .nilSl => .slice none 0 0
  | .nilI => .nilIface
  | .nilF => .nilFunc
  | .nilP => .pointer none
  | .nilM => .map none
def zIs : Z → Value → Bool
  | .int k, .int k' n => decide (k = k') && decide (n = 0)
  | .bool, .bool b => !b
  | .str, .string s => s.data.toList.isEmpty
  | .flt k, .float k' n => decide (k = k') && decide (n = 0)
  | .nilSl, .slice none 0 0 => true
  | .nilI, .nilIface => true
  | .nilF, .nilFunc => true
  | .nilP, .pointer none => true
  | .nilM, .map none => true
  | _, _ => false
def zsAre : List Z → List Value → Bool
  | [], [] => true
  | z :: zs, v :: vs => zIs z v && zsAre zs vs
  | _, _ => false
def tiIs : TI → TypeDesc → Bool
  | .int k, .int k' => decide (k = k')
  | .bool, .bool => true
  | .str, .string => true
  | .flt k, .float k' => decide (k = k')
  | .slice e, .slice e' => Nat.beq e e'
  | .arr n e, .array n' e' => Nat.beq n n' && Nat.beq e e'
  | .struct l, .struct fs => decide (fs.toList.map (fun f => (f.offset, f.type)) = l)
  | .ifc, .interface _ => true
  | .ptr e, .pointer e' => Nat.beq e e'
  | .other, d => match d with | .struct _ | .array _ _ => false | _ => true
  | _, _ => false
def teIs (P : Program) (x : Nat × TE) : Bool := match P.info? x.1, P.underlying x.1 with
  | some i, some d => (Nat.beq i.size x.2.sz && Nat.beq i.bytes x.2.bt) && tiIs x.2.d d && (match i.zero with | some v => zsAre x.2.z v.cells.toList | none => x.2.z.isEmpty) && (!x.2.conc || P.concrete x.1)
  | _, _ => false
/-- the table tells the truth -/
def TabOk (P : Program) (D : Tab) : Prop := D.all (teIs P) = true
def tlook : Tab → Nat → Option TE
  | [], _ => none
  | (t, e) :: D, u => match Nat.beq t u with | true => some e | false => tlook D u
def tsz (D : Tab) (t : TypeId) : Nat := match tlook D t with | some i => i.sz | none => 0
def tby (D : Tab) (t : TypeId) : Nat := match tlook D t with | some i => i.bt | none => 0
def tagg (D : Tab) (t : TypeId) : Option Bool := match tlook D t with
  | some i => match i.d with
    | .struct _ => some true
    | .arr _ _ => some true
    | _ => some false
  | none => none
def tfld (D : Tab) (t : TypeId) (f : Nat) : Option (Nat × TypeId) := match tlook D t with
  | some i => match i.d with
    | .struct fs => fs[f]?
    | _ => none
  | none => none
def telem (D : Tab) (t : TypeId) : Option TypeId := match tlook D t with
  | some i => match i.d with
    | .slice e => some e
    | _ => none
  | none => none
def tarr (D : Tab) (t : TypeId) : Option (Nat × TypeId) := match tlook D t with
  | some i => match i.d with
    | .arr n e => some (n, e)
    | _ => none
  | none => none
def tkind (D : Tab) (t : TypeId) : Option IntKind := match tlook D t with
  | some i => match i.d with
    | .int k => some k
    | _ => none
  | none => none
def tstr (D : Tab) (t : TypeId) : Bool := match tlook D t with
  | some i => match i.d with
    | .str => true
    | _ => false
  | none => false
def tbool (D : Tab) (t : TypeId) : Bool := match tlook D t with
  | some i => match i.d with
    | .bool => true
    | _ => false
  | none => false
def tiface (D : Tab) (t : TypeId) : Bool := match tlook D t with
  | some i => match i.d with
    | .ifc => true
    | _ => false
  | none => false
def tconc (D : Tab) (t : TypeId) : Bool := match tlook D t with
  | some i => i.conc
  | none => false
theorem beq_eq {a b : Nat} (h : Nat.beq a b = true) : a = b := Nat.eq_of_beq_eq_true h
theorem tlook_te {P : Program} {D : Tab} (hD : TabOk P D) {t : Nat} {e : TE} (h : tlook D t = some e) : teIs P (t, e) = true := by
  unfold TabOk at hD
  induction D with
  | nil => cases h
  | cons x D ih =>
    obtain ⟨u, e'⟩ := x
    simp only [List.all_cons, Bool.and_eq_true] at hD
    unfold tlook at h
    split at h
    · rename_i hb; cases h; rw [← beq_eq hb]; exact hD.1
    · exact ih hD.2 h
theorem tlook_info {P : Program} {D : Tab} (hD : TabOk P D) {t : Nat} {e : TE} (h : tlook D t = some e) :
    ∃ i d, P.info? t = some i ∧ P.underlying t = some d ∧ i.size = e.sz ∧ tiIs e.d d = true ∧ (match i.zero with | some v => zsAre e.z v.cells.toList | none => e.z.isEmpty) = true ∧ (e.conc = true → P.concrete t = true) ∧ i.bytes = e.bt := by
  have hx := tlook_te hD h
  unfold teIs at hx
  cases hi : P.info? t with
  | none => simp only [hi] at hx; cases hx
  | some i =>
    cases hu : P.underlying t with
    | none => simp only [hi, hu] at hx; cases hx
    | some d =>
      simp only [hi, hu, Bool.and_eq_true, Bool.or_eq_true, Bool.not_eq_true'] at hx
      refine ⟨i, d, rfl, rfl, beq_eq hx.1.1.1.1, hx.1.1.2, hx.1.2, fun hc => ?_, beq_eq hx.1.1.1.2⟩
      rcases hx.2 with h | h
      · rw [hc] at h; cases h
      · exact h
section
variable {P : Program} {D : Tab} (hD : TabOk P D)
include hD
theorem run_sizeOf {t : TypeId} {n : Nat} (h : tsz D t = n) (hn : 0 < n) (w : World) : (sizeOf t).run P w = .ok n w := by
  unfold tsz at h
  cases hi : tlook D t with
  | none => rw [hi] at h; simp at h; omega
  | some e =>
    rw [hi] at h; simp at h
    obtain ⟨i, d, h1, _, h3, _⟩ := tlook_info hD hi
    simp [sizeOf, typeInfo, h1, h3, h]
theorem run_isAgg {t : TypeId} {b : Bool} (h : tagg D t = some b) (w : World) : (isAgg t).run P w = .ok b w := by
  unfold tagg at h
  cases hi : tlook D t with
  | none => rw [hi] at h; cases h
  | some e =>
    rw [hi] at h
    obtain ⟨i, d, _, h2, _, h4, _⟩ := tlook_info hD hi
    simp only at h
    cases hd : e.d <;> rw [hd] at h h4 <;> cases d <;> simp_all [tiIs, isAgg, underlying]
theorem of_tfld {t : TypeId} {f off : Nat} {ft : TypeId} (h : tfld D t f = some (off, ft)) : ∃ fs x, P.underlying t = some (.struct fs) ∧ fs[f]? = some x ∧ x.offset = off ∧ x.type = ft := by
  unfold tfld at h
  cases hi : tlook D t with
  | none => rw [hi] at h; cases h
  | some e =>
    rw [hi] at h
    obtain ⟨i, d, _, h2, _, h4, _⟩ := tlook_info hD hi
    simp only at h
    cases hd : e.d <;> rw [hd] at h h4 <;> try (cases h; done)
    cases d <;> try (cases h4; done)
    rename_i l fs
    simp only [tiIs, decide_eq_true_eq] at h4
    simp only at h
    rw [← h4, List.getElem?_map] at h
    cases hf : fs.toList[f]? with
    | none => rw [hf] at h; cases h
    | some x =>
      rw [hf] at h
      simp at h
      exact ⟨fs, x, h2, by simpa using hf, h.1, h.2⟩
theorem of_telem {t e : TypeId} (h : telem D t = some e) : P.underlying t = some (.slice e) := by
  unfold telem at h
  cases hi : tlook D t with
  | none => rw [hi] at h; cases h
  | some x =>
    rw [hi] at h
    obtain ⟨i, d, _, h2, _, h4, _⟩ := tlook_info hD hi
    simp only at h
    cases hd : x.d <;> rw [hd] at h h4 <;> try (cases h; done)
    cases d <;> try (cases h4; done)
    cases h; rw [h2, beq_eq h4]
theorem of_tarr {t e : TypeId} {n : Nat} (h : tarr D t = some (n, e)) : P.underlying t = some (.array n e) := by
  unfold tarr at h
  cases hi : tlook D t with
  | none => rw [hi] at h; cases h
  | some x =>
    rw [hi] at h
    obtain ⟨i, d, _, h2, _, h4, _⟩ := tlook_info hD hi
    simp only at h
    cases hd : x.d <;> rw [hd] at h h4 <;> try (cases h; done)
    cases d <;> try (cases h4; done)
    simp only [tiIs, Bool.and_eq_true] at h4
    cases h; rw [h2, beq_eq h4.1, beq_eq h4.2]
theorem of_tkind {t : TypeId} {k : IntKind} (h : tkind D t = some k) : P.underlying t = some (.int k) := by
  unfold tkind at h
  cases hi : tlook D t with
  | none => rw [hi] at h; cases h
  | some x =>
    rw [hi] at h
    obtain ⟨i, d, _, h2, _, h4, _⟩ := tlook_info hD hi
    simp only at h
    cases hd : x.d <;> rw [hd] at h h4 <;> try (cases h; done)
    cases d <;> try (cases h4; done)
    simp only [tiIs, decide_eq_true_eq] at h4
    cases h; rw [h2, h4]
theorem of_tstr {t : TypeId} (h : tstr D t = true) : P.underlying t = some .string := by
  unfold tstr at h
  cases hi : tlook D t with
  | none => rw [hi] at h; cases h
  | some x =>
    rw [hi] at h
    obtain ⟨i, d, _, h2, _, h4, _⟩ := tlook_info hD hi
    simp only at h
    cases hd : x.d <;> rw [hd] at h h4 <;> try (cases h; done)
    cases d <;> try (cases h4; done)
    exact h2
theorem of_tbool {t : TypeId} (h : tbool D t = true) : P.underlying t = some .bool := by
  unfold tbool at h
  cases hi : tlook D t with
  | none => rw [hi] at h; cases h
  | some x =>
    rw [hi] at h
    obtain ⟨i, d, _, h2, _, h4, _⟩ := tlook_info hD hi
    simp only at h
    cases hd : x.d <;> rw [hd] at h h4 <;> try (cases h; done)
    cases d <;> try (cases h4; done)
    exact h2
theorem of_tiface {t : TypeId} (h : tiface D t = true) : ∃ ms, P.underlying t = some (.interface ms) := by
  unfold tiface at h
  cases hi : tlook D t with
  | none => rw [hi] at h; cases h
  | some x =>
    rw [hi] at h
    obtain ⟨i, d, _, h2, _, h4, _⟩ := tlook_info hD hi
    simp only at h
    cases hd : x.d <;> rw [hd] at h h4 <;> try (cases h; done)
    cases d <;> try (cases h4; done)
    exact ⟨_, h2⟩
theorem of_tconc {t : TypeId} (h : tconc D t = true) : P.concrete t = true := by
  unfold tconc at h
  cases hi : tlook D t with
  | none => rw [hi] at h; cases h
  | some x =>
    rw [hi] at h
    obtain ⟨_, _, _, _, _, _, _, h7, _⟩ := tlook_info hD hi
    exact h7 h
theorem of_known {t : TypeId} (h : (tlook D t).isSome = true) : (P.underlying t).isSome = true := by
  cases hi : tlook D t with
  | none => rw [hi] at h; cases h
  | some x =>
    obtain ⟨_, _, _, h2, _⟩ := tlook_info hD hi
    rw [h2]; rfl
end
theorem zIs_val {z : Z} {v : Value} (h : zIs z v = true) : v = z.val := by
  unfold zIs at h
  split at h
  · simp at h; rw [h.1, h.2]; rfl
  · simp at h; rw [h]; rfl
  · rename_i s
    obtain ⟨⟨l⟩⟩ := s
    simp at h; subst h; rfl
  · simp at h; rw [h.1, h.2]; rfl
  · rfl
  · rfl
  · rfl
  · rfl
  · rfl
  · cases h
theorem zsAre_map : ∀ {zs : List Z} {vs : List Value}, zsAre zs vs = true → vs = zs.map Z.val
  | [], [], _ => rfl
  | [], _ :: _, h => by cases h
  | _ :: _, [], h => by cases h
  | z :: zs, v :: vs, h => by
    unfold zsAre at h
    simp only [Bool.and_eq_true] at h
    rw [List.map_cons, zIs_val h.1, zsAre_map h.2]
/-! ### parts -/
def bEq : Bool → Bool → Bool
  | true, true => true
  | false, false => true
  | _, _ => false
theorem bEq_of {a b : Bool} (h : bEq a b = true) : a = b := by cases a <;> cases b <;> first | rfl | cases h
/-- all of it -/
def isAll (off sz n : Nat) (ag ag' : Bool) : Bool := Nat.beq off 0 && (Nat.beq sz n && bEq ag ag')
theorem isAll_of {off sz n : Nat} {ag ag' : Bool} (h : isAll off sz n ag ag' = true) : off = 0 ∧ sz = n ∧ ag = ag' := by
  unfold isAll at h
  simp only [Bool.and_eq_true] at h
  exact ⟨beq_eq h.1, beq_eq h.2.1, bEq_of h.2.2⟩
def Ty.sub : (t : Ty) → t.den → Bool → Nat → Nat → Option (Σ u : Ty, u.den)
  | .int k, x, ag, off, sz => match isAll off sz 1 ag false with | true => some ⟨.int k, x⟩ | false => none
  | .bool, x, ag, off, sz => match isAll off sz 1 ag false with | true => some ⟨.bool, x⟩ | false => none
  | .str, x, ag, off, sz => match isAll off sz 1 ag false with | true => some ⟨.str, x⟩ | false => none
  | .flt k, x, ag, off, sz => match isAll off sz 1 ag false with | true => some ⟨.flt k, x⟩ | false => none
  | .raw, x, ag, off, sz => match isAll off sz 1 ag false with | true => some ⟨.raw, x⟩ | false => none
  | .list e, x, ag, off, sz => match isAll off sz 1 ag false with | true => some ⟨.list e, x⟩ | false => none
  | .one a, x, ag, off, sz => match isAll off sz a.size ag true with | true => some ⟨.one a, x⟩ | false => Ty.sub a x ag off sz
  | .pair a b, x, ag, off, sz => match isAll off sz (a.size + b.size) ag true with
    | true => some ⟨.pair a b, x⟩
    | false => match Nat.blt off a.size with
      | true => Ty.sub a x.1 ag off sz
      | false => Ty.sub b x.2 ag (off - a.size) sz
  | .arr n e, x, ag, off, sz => match isAll off sz (n * e.size) ag true with
    | true => some ⟨.arr n e, x⟩
    | false => match Nat.blt (off / e.size) n with
      | true => Ty.sub e (List.getD x (off / e.size) e.dft) ag (off % e.size) sz
      | false => none
theorem blt_of {a b : Nat} (h : Nat.blt a b = true) : a < b := by
  have := Nat.le_of_ble_eq_true h; omega
theorem getD_flatten {s : Nat} : ∀ (css : List (List Value)) (i r m : Nat), (∀ j, j < css.length → (css.getD j []).length = s) → i < css.length → r + m ≤ s → (css.flatten.drop (i * s + r)).take m = ((css.getD i []).drop r).take m
  | [], i, r, m, _, hi, _ => by simp at hi
  | c :: css, i, r, m, h, hi, hr => by
    have h0 : c.length = s := by simpa using h 0 (by simp)
    cases i with
    | zero =>
      simp only [List.flatten_cons, Nat.zero_mul, Nat.zero_add, List.getD_cons_zero]
      rw [List.drop_append_of_le_length (by omega), List.take_append_of_le_length (by simp; omega)]
    | succ i =>
      simp only [List.flatten_cons, List.getD_cons_succ]
      rw [show (i + 1) * s + r = c.length + (i * s + r) by rw [Nat.succ_mul, h0]; omega, List.drop_append]
      rw [List.drop_eq_nil_of_le (by omega), List.nil_append, show c.length + (i * s + r) - c.length = i * s + r by omega]
      exact getD_flatten css i r m (fun j hj => by have := h (j + 1) (by simp; omega); simpa using this) (by simpa using hi) hr
theorem sub_sound {I : Nat → Prop} {w : World} : ∀ (t : Ty) (x : t.den) (cs : List Value) (ag : Bool) (off sz : Nat) (u : Ty) (y : u.den), FzC I w t x cs → t.sub x ag off sz = some ⟨u, y⟩ →
    u.size = sz ∧ u.isAgg = ag ∧ FzC I w u y ((cs.drop off).take sz) := by
  intro t
  have base : ∀ (t : Ty) (x : t.den) (cs : List Value) (ag : Bool) (off sz : Nat) (u : Ty) (y : u.den), FzC I w t x cs → (off = 0 ∧ sz = t.size ∧ ag = t.isAgg) → (⟨t, x⟩ : Σ u : Ty, u.den) = ⟨u, y⟩ →
      u.size = sz ∧ u.isAgg = ag ∧ FzC I w u y ((cs.drop off).take sz) := by
    intro t x cs ag off sz u y h h1 h2
    cases h2
    obtain ⟨rfl, rfl, rfl⟩ := h1
    refine ⟨rfl, rfl, ?_⟩
    rw [List.drop_zero, ← h.len, List.take_length]; exact h
  induction t with
  | int k | bool | str | flt k | raw | list e =>
    intro x cs ag off sz u y h hs
    unfold Ty.sub at hs
    split at hs
    · rename_i hc; exact base _ _ _ _ _ _ _ _ h (isAll_of hc) (Option.some.inj hs)
    · cases hs
  | one a ih =>
    intro x cs ag off sz u y h hs
    unfold Ty.sub at hs
    split at hs
    · rename_i hc; exact base (.one a) _ _ _ _ _ _ _ h (isAll_of hc) (Option.some.inj hs)
    · exact ih x cs ag off sz u y h hs
  | pair a b iha ihb =>
    intro x cs ag off sz u y h hs
    unfold Ty.sub at hs
    split at hs
    · rename_i hc; exact base (.pair a b) _ _ _ _ _ _ _ h (isAll_of hc) (Option.some.inj hs)
    · obtain ⟨l, r, rfl, h1, h2⟩ := h
      split at hs
      · rename_i hlt
        have hlt := blt_of hlt
        obtain ⟨k1, k2, k3⟩ := iha x.1 l ag off sz u y h1 hs
        refine ⟨k1, k2, ?_⟩
        have hl := k3.len
        simp at hl
        have hll := h1.len
        rw [List.drop_append_of_le_length (by omega)]
        by_cases hz : sz = 0
        · subst hz; simpa using k3
        · rw [List.take_append_of_le_length (by simp; omega)]; exact k3
      · rename_i hlt
        have hlt : ¬ off < a.size := fun h => by
          have : Nat.blt off a.size = true := Nat.ble_eq_true_of_le h
          rw [this] at hlt; cases hlt
        obtain ⟨k1, k2, k3⟩ := ihb x.2 r ag (off - a.size) sz u y h2 hs
        refine ⟨k1, k2, ?_⟩
        have hll := h1.len
        rw [List.drop_append, List.drop_eq_nil_of_le (by omega), List.nil_append, hll]; exact k3
  | arr n e ih =>
    intro x cs ag off sz u y h hs
    unfold Ty.sub at hs
    split at hs
    · rename_i hc; exact base (.arr n e) _ _ _ _ _ _ _ h (isAll_of hc) (Option.some.inj hs)
    · split at hs
      · rename_i hlt
        have hlt := blt_of hlt
        obtain ⟨hl, css, hn, rfl, hall⟩ := h
        have he : List.getD x (off / e.size) e.dft = x[off / e.size]'(by rw [hl]; exact hlt) := by simp [List.getD, List.getElem?_eq_getElem (show off / e.size < List.length x by rw [hl]; exact hlt)]
        rw [he] at hs
        obtain ⟨k1, k2, k3⟩ := ih _ _ ag _ sz u y (hall _ (by rw [hl]; exact hlt)) hs
        refine ⟨k1, k2, ?_⟩
        have hlen : ∀ j, j < css.length → (css.getD j []).length = e.size := fun j hj => (hall j (by rw [hl, ← hn]; exact hj)).len
        have hsz := k3.len
        have hci := hlen (off / e.size) (by rw [hn]; exact hlt)
        rw [List.length_take, List.length_drop, hci, k1] at hsz
        by_cases hz : sz = 0
        · subst hz; simpa using k3
        · have hpos : 0 < e.size := by omega
          have := getD_flatten (s := e.size) css (off / e.size) (off % e.size) sz hlen (by rw [hn]; exact hlt) (by omega)
          rw [show off / e.size * e.size + off % e.size = off by rw [Nat.mul_comm]; exact Nat.div_add_mod _ _] at this
          rw [this]; exact k3
      · cases hs
end Go.Ab
/-
  Operations that only look: what an abstract state makes of them, and that the real ones do so (2).
-/
namespace Go.Ab
open Go
/-! ### reading of a relation -/
theorem rel_int {c : Cx} {k : IntKind} {n : Int} {v : Value} : Rel c (.fz (.int k) n) v ↔ v = .int k n := by
  unfold Rel FzC valOf; simp [Ty.isAgg]
theorem rel_bool {c : Cx} {b : Bool} {v : Value} : Rel c (.fz .bool b) v ↔ v = .bool b := by
  unfold Rel FzC valOf; simp [Ty.isAgg]
theorem rel_str {c : Cx} {s : ByteArray} {v : Value} : Rel c (.fz .str s) v ↔ v = .string s := by
  unfold Rel FzC valOf; simp [Ty.isAgg]
theorem rel_flt {c : Cx} {k : FloatKind} {n : Nat} {v : Value} : Rel c (.fz (.flt k) n) v ↔ v = .float k n := by
  unfold Rel FzC valOf; simp [Ty.isAgg]
theorem rel_raw {c : Cx} {x : Value} {v : Value} (h : ocell x = true) : Rel c (.fz .raw x) v ↔ v = x := by
  unfold Rel FzC valOf; simp [Ty.isAgg, h]
theorem rel_raw_of {c : Cx} {x : Value} {v : Value} (h : Rel c (.fz .raw x) v) : v = x ∧ ocell x = true := by
  unfold Rel FzC at h
  obtain ⟨cs, ⟨h1, h2⟩, h3⟩ := h
  subst h1
  exact ⟨h3, h2⟩
theorem rel_list {c : Cx} {e : Ty} {xs : List e.den} {v : Value} (h : Rel c (.fz (.list e) xs) v) : ∃ p cap, v = .slice p xs.length cap ∧ FzC c.I c.w (.list e) xs [v] := by
  unfold Rel at h
  obtain ⟨cs, h1, h2⟩ := h
  have h1' := h1
  unfold FzC at h1
  obtain ⟨p, cap, rfl, _⟩ := h1
  simp [valOf, Ty.isAgg] at h2
  subst h2
  exact ⟨p, cap, rfl, h1'⟩
theorem rel_agg {c : Cx} {t : Ty} {x : t.den} {v : Value} (ha : t.isAgg = true) (h : Rel c (.fz t x) v) : ∃ cs, v = .agg cs.toArray ∧ FzC c.I c.w t x cs := by
  unfold Rel at h
  obtain ⟨cs, h1, h2⟩ := h
  unfold valOf at h2; rw [if_pos ha] at h2
  exact ⟨cs, h2, h1⟩
theorem rel_fz_mk {c : Cx} {t : Ty} {x : t.den} {cs : List Value} (h : FzC c.I c.w t x cs) : Rel c (.fz t x) (valOf t cs) := by
  unfold Rel; exact ⟨cs, h, rfl⟩
/-! ### operands -/
def lk : List (Nat × AV) → Nat → AV
  | [], _ => .unk
  | (m, v) :: T, n => if m = n then v else lk T n
def ofV0 : Value → AV
  | .int k n => .fz (.int k) n
  | .bool b => .fz .bool b
  | .string s => .fz .str s
  | .float k n => .fz (.flt k) n
  | .slice none 0 0 => .nilSl
  | .nilIface => .fz .raw .nilIface
  | .nilFunc => .fz .raw .nilFunc
  | .pointer none => .fz .raw (.pointer none)
  | .map none => .fz .raw (.map none)
  | .func (.func f) ⟨[]⟩ ⟨[]⟩ => .fn f []
  | _ => .unk
def ofV : Value → AV
  | .agg cs => .agg (cs.toList.map ofV0)
  | .tuple ⟨[]⟩ => .tup []
  | v => ofV0 v
theorem rel_ofV0 (c : Cx) (v : Value) : Rel c (ofV0 v) v := by
  unfold ofV0
  split
  · exact rel_int.2 rfl
  · exact rel_bool.2 rfl
  · exact rel_str.2 rfl
  · exact rel_flt.2 rfl
  · unfold Rel; rfl
  · exact (rel_raw rfl).2 rfl
  · exact (rel_raw rfl).2 rfl
  · exact (rel_raw rfl).2 rfl
  · exact (rel_raw rfl).2 rfl
  · unfold Rel; exact ⟨[], rfl, by unfold RelL; rfl⟩
  · unfold Rel; trivial
theorem rel_ofV (c : Cx) (v : Value) : Rel c (ofV v) v := by
  unfold ofV
  split
  · rename_i cs
    unfold Rel
    refine ⟨cs.toList, by simp, RelL.of_get _ _ (by simp) (fun i a v h1 h2 => ?_)⟩
    simp only [List.getElem?_map, h2, Option.map_some, Option.some.injEq] at h1
    rw [← h1]; exact rel_ofV0 c v
  · unfold Rel; exact ⟨[], rfl, by unfold RelL; rfl⟩
  · exact rel_ofV0 c v
def ev (T : List (Nat × AV)) : Operand → AV
  | .tmp n => lk T n
  | .const v => ofV v
  | .global g => .glob g
  | .func f => .fn f []
/-- the temporaries -/
def TR (c : Cx) (T : List (Nat × AV)) (tmps : Array Value) : Prop := ∀ n, Rel c (lk T n) (tmps.getD n undef)
theorem TR.ev {c : Cx} {T : List (Nat × AV)} {a : Act} (h : TR c T a.tmps) (x : Operand) : Rel c (Ab.ev T x) (a.eval x) := by
  cases x with
  | tmp n => exact h n
  | const v => exact rel_ofV c v
  | global g => unfold Ab.ev Act.eval Rel; rfl
  | func f => unfold Ab.ev Act.eval Rel; exact ⟨[], rfl, by unfold RelL; rfl⟩
theorem TR.put {c : Cx} {T : List (Nat × AV)} {tmps : Array Value} (h : TR c T tmps) {d : Nat} {av : AV} {v : Value} (hd : d < tmps.size) (hv : Rel c av v) : TR c ((d, av) :: T) (tmps.setIfInBounds d v) := by
  intro n
  unfold lk
  by_cases hn : d = n
  · subst hn; rw [if_pos rfl]; simpa [Array.getD, hd] using hv
  · rw [if_neg hn]
    have : (tmps.setIfInBounds d v).getD n undef = tmps.getD n undef := by simp [Array.getD_eq_getD_getElem?, hn]
    rw [this]; exact h n
/-! ### the operations -/
/-- what must be so; what comes -/
abbrev AR := Option Prop × AV
@[reducible] def Hold : Option Prop → Prop
  | none => True
  | some p => p
def yes (v : AV) : AR := (none, v)
def no : AR := (some False, .unk)
def gate (b : Bool) (x : AR) : AR := match b with
  | true => x
  | false => no
theorem gate_of {b : Bool} {x : AR} (h : Hold (gate b x).1) : b = true ∧ Hold x.1 := by
  cases b
  · exact False.elim h
  · exact ⟨rfl, h⟩
theorem gate_true {b : Bool} {x : AR} (h : b = true) : gate b x = x := by subst h; rfl
def andC : Option Prop → Option Prop → Option Prop
  | none, q => q
  | p, none => p
  | some p, some q => some (p ∧ q)
theorem andC_of {p q : Option Prop} (h : Hold (andC p q)) : Hold p ∧ Hold q := by
  cases p <;> cases q
  · exact ⟨trivial, trivial⟩
  · exact ⟨trivial, h⟩
  · exact ⟨h, trivial⟩
  · exact h
def impC (b : Bool) : Option Prop → Option Prop
  | none => none
  | some p => some (b = true → p)
theorem impC_of {b : Bool} {p : Option Prop} (h : Hold (impC b p)) (hb : b = true) : Hold p := by
  cases p
  · trivial
  · exact h hb
def aPart (ag : Option Bool) (off sz : Nat) : AV → AR
  | .agg vs => match ag with
    | some true => gate (Nat.blt 0 sz) (none, .agg ((vs.drop off).take sz))
    | some false => gate (Nat.blt 0 sz && Nat.blt off vs.length) (none, vs.getD off .unk)
    | none => no
  | .fz t x => match ag with
    | some b => match t.sub x b off sz with
      | some ⟨u, y⟩ => gate (Nat.blt 0 sz && t.isAgg) (none, .fz u y)
      | none => no
    | none => no
  | _ => no
def aField (D : Tab) (t : TypeId) (f : Nat) (x : AV) : AR :=
  match tfld D t f with
  | some (off, ft) => aPart (tagg D ft) off (tsz D ft) x
  | none => no
def stripO (g : Bool) : AV → AR
  | .opt h v => (some (g = true → h = true), v)
  | v => (none, v)
def iteAV (c : Bool) : AV → AV → AV
  | .fz .bool x, .fz .bool y => .fz .bool (bif c then x else y)
  | .fz (.int .i64) x, .fz (.int .i64) y => .fz (.int .i64) (bif c then x else y)
  | a, b => bif c then a else b
def pickAV (c : Bool) (a b : AR) : AR := match a.2, b.2 with
  | .unk, y => (andC (some (c = false)) b.1, y)
  | x, .unk => (andC (some (c = true)) a.1, x)
  | x, y => (andC a.1 b.1, iteAV c x y)
def aPick (c a b : AV) : AR :=
  match c with
  | .fz .bool c => pickAV c (stripO c a) (stripO (!c) b)
  | _ => no
/-- fits an int -/
def I64 (n : Int) : Prop := -9223372036854775808 ≤ n ∧ n ≤ 9223372036854775807
theorem I64.wrap {n : Int} (h : I64 n) : IntKind.i64.wrap n = n := by
  unfold I64 at h
  unfold IntKind.wrap
  simp [IntKind.bits, IntKind.signed, IntKind.max]
  omega
def arI (k : IntKind) (n : Int) : AR := match k with
  | .i64 => (some (I64 n), .fz (.int .i64) n)
  | k => (none, .fz (.int k) (k.wrap n))
def kEq : IntKind → IntKind → Bool
  | .i8, .i8 => true | .i16, .i16 => true | .i32, .i32 => true | .i64, .i64 => true
  | .u8, .u8 => true | .u16, .u16 => true | .u32, .u32 => true | .u64, .u64 => true
  | _, _ => false
theorem kEq_of {a b : IntKind} (h : kEq a b = true) : a = b := by cases a <;> cases b <;> first | rfl | cases h
def aBinI (op : BinOp) (k k' : IntKind) (a b : Int) : AR := match op with
  | .add => gate (kEq k k') (arI k (a + b))
  | .sub => gate (kEq k k') (arI k (a - b))
  | .mul => gate (kEq k k') (arI k (a * b))
  | .quo => gate (kEq k k') (andC (some (b ≠ 0)) (arI k (a.tdiv b)).1, (arI k (a.tdiv b)).2)
  | .rem => gate (kEq k k') (some (b ≠ 0), .fz (.int k) (a.tmod b))
  | .eql => gate (kEq k k') (none, .fz .bool (a == b))
  | .neq => gate (kEq k k') (none, .fz .bool (a != b))
  | .lss => gate (kEq k k') (none, .fz .bool (decide (a < b)))
  | .leq => gate (kEq k k') (none, .fz .bool (decide (a ≤ b)))
  | .gtr => gate (kEq k k') (none, .fz .bool (decide (b < a)))
  | .geq => gate (kEq k k') (none, .fz .bool (decide (b ≤ a)))
  | .shl => (some (0 ≤ b), .fz (.int k) (k.wrap (a * 2 ^ (min b.toNat k.bits))))
  | .shr => (some (0 ≤ b), .fz (.int k) (a.fdiv (2 ^ (min b.toNat k.bits))))
  | _ => no
def aBinS (op : BinOp) (a b : ByteArray) : AR := match op with
  | .add => (some (((a.size + b.size : Nat) : Int) ≤ IntKind.i64.max), .fz .str (a ++ b))
  | .eql => (none, .fz .bool (a.toList == b.toList))
  | .neq => (none, .fz .bool (!(a.toList == b.toList)))
  | .lss => (none, .fz .bool (Op.bytesLess a.toList b.toList))
  | .leq => (none, .fz .bool (Op.bytesLess a.toList b.toList || a.toList == b.toList))
  | .gtr => (none, .fz .bool (!(Op.bytesLess a.toList b.toList || a.toList == b.toList)))
  | .geq => (none, .fz .bool (!(Op.bytesLess a.toList b.toList)))
  | _ => no
def aBinB (D : Tab) (op : BinOp) (t : TypeId) (a b : Bool) : AR := match op with
  | .eql => gate (tbool D t) (none, .fz .bool (a == b))
  | .neq => gate (tbool D t) (none, .fz .bool (!(a == b)))
  | _ => no
/-- is it nil? -/
def isNil : AV → Option Bool
  | .fz .raw .nilIface => some true
  | .fz .raw (.iface _ _) => some false
  | .ifc _ _ => some false
  | _ => none
def aBin (D : Tab) (op : BinOp) (t : TypeId) (x y : AV) : AR :=
  match x, y with
  | .fz (.int k) a, .fz (.int k') b => aBinI op k k' a b
  | .fz .str a, .fz .str b => aBinS op a b
  | .fz .bool a, .fz .bool b => aBinB D op t a b
  | _, _ => no
def aBinNil (D : Tab) (op : BinOp) (t : TypeId) (x : AV) : AR :=
  match isNil x, op with
  | some b, .eql => gate (tiface D t) (none, .fz .bool b)
  | some b, .neq => gate (tiface D t) (none, .fz .bool (!b))
  | _, _ => no
def isNilC : Operand → Bool
  | .const .nilIface => true
  | _ => false
theorem aPart_sound {P : Program} {D : Tab} (hD : TabOk P D) {c : Cx} {t : TypeId} {off : Nat} {x : AV} {cs : Array Value} (hx : Rel c x (.agg cs)) (h : Hold (aPart (tagg D t) off (tsz D t) x).1) :
    ∃ v, (part t cs off).run P c.w = .ok v c.w ∧ Rel c (aPart (tagg D t) off (tsz D t) x).2 v := by
  generalize hsz : tsz D t = sz at *
  generalize hag : tagg D t = ag at *
  cases x <;> try exact False.elim h
  · rename_i u x
    unfold aPart at *
    cases ag with
    | none => exact False.elim h
    | some b =>
      simp only at h ⊢
      cases hs : u.sub x b off sz with
      | none => rw [hs] at h; exact False.elim h
      | some uy =>
        obtain ⟨u', y⟩ := uy
        rw [hs] at h
        simp only at h ⊢
        obtain ⟨hb, _⟩ := gate_of h
        rw [gate_true hb]
        simp only [Bool.and_eq_true] at hb
        obtain ⟨hz, hu⟩ := hb
        have hz := blt_of hz
        obtain ⟨cs', hcs, hf⟩ := rel_agg hu hx
        cases hcs
        obtain ⟨k1, k2, k3⟩ := sub_sound u x cs' b off sz u' y hf hs
        have hr := rel_fz_mk k3
        cases b with
        | true =>
          refine ⟨.agg (cs'.toArray.extract off (off + sz)), by simp [part, run_isAgg hD hag, run_sizeOf hD hsz hz], ?_⟩
          have : valOf u' ((cs'.drop off).take sz) = .agg (cs'.toArray.extract off (off + sz)) := by
            unfold valOf; rw [if_pos k2]; simp
          rw [← this]; exact hr
        | false =>
          have hl := k3.len
          have h1 : u'.size = 1 := by cases u' <;> first | rfl | (cases k2)
          have hlt : off < cs'.length := by simp at hl; omega
          refine ⟨cs'[off], by simp [part, run_isAgg hD hag, hlt], ?_⟩
          have : valOf u' ((cs'.drop off).take sz) = cs'[off] := by
            unfold valOf; rw [if_neg (by simp [k2])]
            rw [List.drop_eq_getElem_cons hlt]
            cases sz with
            | zero => omega
            | succ n => rfl
          rw [← this]; exact hr
  · rename_i vs
    unfold aPart at *
    unfold Rel at hx
    obtain ⟨us, hus, hr⟩ := hx
    cases hus
    cases ag with
    | none => exact False.elim h
    | some b =>
      cases b with
      | true =>
        simp only at h ⊢
        obtain ⟨hb, _⟩ := gate_of h
        rw [gate_true hb]
        refine ⟨.agg (us.toArray.extract off (off + sz)), by simp [part, run_isAgg hD hag, run_sizeOf hD hsz (blt_of hb)], ?_⟩
        unfold Rel
        refine ⟨(us.drop off).take sz, by simp, RelL.of_get _ _ (by simp [hr.length]) (fun i a v h1 h2 => ?_)⟩
        rw [List.getElem?_take, List.getElem?_drop] at h1 h2
        split at h1
        · rename_i hi
          rw [if_pos hi] at h2
          obtain ⟨v', e1, e2⟩ := hr.get _ _ _ _ h1
          rw [e1] at h2; cases h2; exact e2
        · cases h1
      | false =>
        simp only at h ⊢
        obtain ⟨hb, _⟩ := gate_of h
        rw [gate_true hb]
        simp only [Bool.and_eq_true] at hb
        have hlt := blt_of hb.2
        obtain ⟨v, e1, e2⟩ := hr.get _ _ off (vs[off]) (List.getElem?_eq_getElem hlt)
        refine ⟨v, by simp [part, run_isAgg hD hag, e1], ?_⟩
        simpa [List.getD, hlt] using e2
end Go.Ab
/-
  Operations that only look (3): addresses, loads, indexes.
-/
namespace Go.Ab
open Go
/-- an index within -/
def inR (n : Int) (m : Nat) : Prop := 0 ≤ n ∧ n < (m : Int)
def toPtr : Option (Σ u : Ty, u.den) → AR
  | some ⟨u, y⟩ => (none, .fptr u y)
  | none => no
def aFieldAddr (D : Tab) (A : List AO) (t : TypeId) (f : Nat) (x : AV) : AR :=
  match tfld D t f, x with
  | some (off, ft), .ptr tok o => match A[tok]? with
    | some (.box _) => gate (Nat.blt 0 (tsz D ft)) (none, .ptr tok (o + off))
    | _ => no
  | some (off, ft), .elt tok i o => match A[tok]? with
    | some (.row _ _) => gate (Nat.blt 0 (tsz D ft)) (none, .elt tok i (o + off))
    | _ => no
  | some (off, ft), .fptr u y => match tagg D ft with
    | some ag => gate (Nat.blt 0 (tsz D ft)) (toPtr (u.sub y ag off (tsz D ft)))
    | none => no
  | _, _ => no
def aInt : AV → Option Int
  | .fz (.int _) n => some n
  | _ => none
theorem aInt_of {c : Cx} {i : AV} {n : Int} {j : Value} (h : aInt i = some n) (hi : Rel c i j) : ∃ k, j = .int k n := by
  cases i <;> try (cases h)
  rename_i u x
  cases u <;> try (cases h)
  exact ⟨_, rel_int.1 hi⟩
def aIndexAddrI (D : Tab) (A : List AO) (t : TypeId) (n : Int) : AV → AR
  | .fz (.list e) xs => match telem D t with
    | some el => gate (Nat.beq (tsz D el) e.size && Nat.blt 0 e.size) (some (inR n (List.length xs)), .fptr e (List.getD xs (Int.toNat n) e.dft))
    | none => no
  | .ref tok off len => match A[tok]?, telem D t with
    | some (.row e _), some el => gate (Nat.beq (tsz D el) e.size && Nat.blt 0 e.size) (some (inR n len), .elt tok (off + (Int.toNat n)) 0)
    | _, _ => no
  | .ptr tok off => match A[tok]?, tarr D t with
    | some (.box _), some (m, el) => gate (Nat.blt 0 (tsz D el)) (some (inR n m), .ptr tok (off + (Int.toNat n) * tsz D el))
    | _, _ => no
  | .fptr (.arr m e) x => match tarr D t with
    | some (m', el) => gate (Nat.beq m m' && Nat.beq (tsz D el) e.size && Nat.blt 0 e.size) (some (inR n m), .fptr e (List.getD x (Int.toNat n) e.dft))
    | none => no
  | _ => no
def aIndexAddr (D : Tab) (A : List AO) (t : TypeId) (x i : AV) : AR :=
  match aInt i with
  | some n => aIndexAddrI D A t n x
  | none => no
def oIs (b : Bool) : Option Bool → Bool
  | some c => bEq b c
  | none => false
theorem oIs_of {b : Bool} {o : Option Bool} (h : oIs b o = true) : o = some b := by
  cases o with
  | none => cases h
  | some c => rw [bEq_of h]
def aIndexI (D : Tab) (t : TypeId) (n : Int) : AV → AR
  | .fz (.arr m e) x => match tarr D t with
    | some (m', el) => gate (Nat.beq m m' && Nat.beq (tsz D el) e.size && oIs e.isAgg (tagg D el) && Nat.blt 0 e.size) (some (inR n m), .fz e (List.getD x (Int.toNat n) e.dft))
    | none => no
  | .fz .str s => gate (tstr D t) (some (inR n (ByteArray.size s)), .fz (.int .u8) ((((ByteArray.data s).toList.getD (Int.toNat n) 0).toNat : Nat) : Int))
  | .agg vs => match tarr D t with
    | some (m, el) => (andC (some (inR n m)) (aPart (tagg D el) ((Int.toNat n) * tsz D el) (tsz D el) (.agg vs)).1, (aPart (tagg D el) ((Int.toNat n) * tsz D el) (tsz D el) (.agg vs)).2)
    | none => no
  | _ => no
def aIndex (D : Tab) (t : TypeId) (x i : AV) : AR :=
  match aInt i with
  | some n => aIndexI D t n x
  | none => no
def aLoad (D : Tab) (G : List (Nat × Value)) (A : List AO) (t : TypeId) (x : AV) : AR :=
  match tagg D t, x with
  | some ag, .ptr tok off => match A[tok]? with
    | some (.box vs) => match ag with
      | true => gate (Nat.blt 0 (tsz D t) && Nat.ble (off + tsz D t) vs.length) (none, .agg ((vs.drop off).take (tsz D t)))
      | false => gate (Nat.beq (tsz D t) 1 && Nat.blt off vs.length) (none, vs.getD off .unk)
    | _ => no
  | some ag, .fptr u y => gate (Nat.beq (tsz D t) u.size && Nat.blt 0 u.size && bEq u.isAgg ag) (none, .fz u y)
  | some ag, .elt tok i off => match A[tok]? with
    | some (.row e xs) => match e.sub (List.getD xs i e.dft) ag off (tsz D t) with
      | some ⟨u, y⟩ => gate (Nat.blt 0 (tsz D t)) (some (i < List.length xs), .fz u y)
      | none => no
    | _ => no
  | some ag, .glob g => match gk G g with
    | some v => gate (bEq ag false && Nat.beq (tsz D t) 1) (none, .fz .raw v)
    | none => no
  | _, _ => no
theorem plain_add (b o k : Nat) : (⟨b, o, none⟩ : Addr).add k = ⟨b, o + k, none⟩ := by
  unfold Addr.add; split
  · rename_i h; rw [h]; rfl
  · rfl
theorem run_loadVar {P : Program} {D : Tab} (hD : TabOk P D) {w : World} {t : TypeId} {ag : Bool} {b o : Nat} {cs : List Value} (hag : tagg D t = some ag) (hsz : tsz D t = cs.length) (h0 : 0 < cs.length) (h1 : ag = false → cs.length = 1)
    (hc : ∀ j (h : j < cs.length), w.cell? ⟨b, o + j, none⟩ = some cs[j]) : (loadVar t ⟨b, o, none⟩).run P w = .ok (if ag = true then .agg cs.toArray else cs.headD .nilIface) w := by
  cases ag with
  | true =>
    have hl := run_loadCells_list (P := P) (w := w) ⟨b, o, none⟩ cs (fun j v hj => by
      have hlt := get_lt hj
      rw [plain_add, hc j hlt]; rw [List.getElem?_eq_getElem hlt] at hj; exact hj)
    simp [loadVar, run_isAgg hD hag, run_sizeOf hD hsz h0, hl]
  | false =>
    have hl := h1 rfl
    match cs, hl with
    | [v], _ =>
      have := hc 0 (by simp)
      simp at this
      simp [loadVar, run_isAgg hD hag, this]
theorem isAgg_size {u : Ty} (h : u.isAgg = false) : u.size = 1 := by cases u <;> first | rfl | (cases h)
theorem if_valOf {u : Ty} {cs : List Value} : (if u.isAgg = true then Value.agg cs.toArray else cs.headD .nilIface) = valOf u cs := rfl
theorem aLoad_sound {P : Program} {D : Tab} (hD : TabOk P D) {c : Cx} (H : HR c) {t : TypeId} {x : AV} {v : Value} (hx : Rel c x v) (h : Hold (aLoad D c.G c.A t x).1) :
    ∃ r, (Instr.loadAt t v).run P c.w = .ok r c.w ∧ Rel c (aLoad D c.G c.A t x).2 r := by
  unfold aLoad at *
  cases hag : tagg D t with
  | none => rw [hag] at h; exact False.elim h
  | some ag =>
    rw [hag] at h
    cases x <;> try exact False.elim h
    case fptr u y =>
      simp only at h ⊢
      obtain ⟨hb, _⟩ := gate_of h
      rw [gate_true hb]
      simp only [Bool.and_eq_true] at hb
      obtain ⟨⟨h1, h2⟩, h3⟩ := hb
      have h1 := beq_eq h1
      have h2 := blt_of h2
      have h3 := bEq_of h3
      unfold Rel at hx
      obtain ⟨b, o, cs, rfl, hI, hlt, hf, hc⟩ := hx
      have hl := hf.len
      refine ⟨valOf u cs, ?_, rel_fz_mk hf⟩
      have := run_loadVar hD (w := c.w) (t := t) (b := b) (o := o) (cs := cs) hag (by omega) (by omega) (fun ha => by subst h3; rw [hl]; exact isAgg_size ha) hc
      subst h3
      rw [if_valOf] at this
      simpa [Instr.loadAt, Instr.sureAddr] using this
    case glob g =>
      simp only at h ⊢
      cases hg : gk c.G g with
      | none => rw [hg] at h; exact False.elim h
      | some u =>
        rw [hg] at h
        obtain ⟨hb, _⟩ := gate_of h
        simp only
        rw [gate_true hb]
        simp only [Bool.and_eq_true] at hb
        have h1 := bEq_of hb.1
        subst h1
        obtain ⟨_, k2, k3, _⟩ := H.glo g u hg
        unfold Rel at hx
        subst hx
        refine ⟨u, ?_, (rel_raw k3).2 rfl⟩
        simp [Instr.loadAt, Instr.sureAddr, loadVar, run_isAgg hD hag, k2]
    case ptr tok off =>
      simp only at h ⊢
      unfold Rel at hx
      cases ht : c.A[tok]? with
      | none => rw [ht] at h; exact False.elim h
      | some o =>
        rw [ht] at h hx
        cases o <;> try exact False.elim h
        rename_i vs
        simp only at h hx ⊢
        obtain ⟨b, hr, rfl⟩ := hx
        have ho := H.obj tok _ ht
        rw [hr] at ho
        obtain ⟨b', cs, et, hb, hh, hrel⟩ := ho
        cases hb
        have hlen := hrel.length
        have hcell : ∀ j (hj : j < ((cs.drop off).take (tsz D t)).length), c.w.cell? ⟨b, off + j, none⟩ = some ((cs.drop off).take (tsz D t))[j] := by
          intro j hj
          simp at hj
          simp [World.cell?, hh]
        cases ag with
        | true =>
          simp only at h ⊢
          obtain ⟨hb, _⟩ := gate_of h
          rw [gate_true hb]
          simp only [Bool.and_eq_true] at hb
          have h1 := blt_of hb.1
          have h2 := Nat.le_of_ble_eq_true hb.2
          have := run_loadVar hD (w := c.w) (t := t) (b := b) (o := off) (cs := (cs.drop off).take (tsz D t)) hag (by simp; omega) (by simp; omega) (fun ha => by cases ha) hcell
          refine ⟨_, by simpa [Instr.loadAt, Instr.sureAddr] using this, ?_⟩
          unfold Rel
          refine ⟨(cs.drop off).take (tsz D t), by simp, RelL.of_get _ _ (by simp; omega) (fun i a v h1 h2 => ?_)⟩
          rw [List.getElem?_take, List.getElem?_drop] at h1 h2
          split at h1
          · rename_i hi
            rw [if_pos hi] at h2
            obtain ⟨v', e1, e2⟩ := hrel.get _ _ _ _ h1
            rw [e1] at h2; cases h2; exact e2
          · cases h1
        | false =>
          simp only at h ⊢
          obtain ⟨hb, _⟩ := gate_of h
          rw [gate_true hb]
          simp only [Bool.and_eq_true] at hb
          have h1 := beq_eq hb.1
          have hlt := blt_of hb.2
          have := run_loadVar hD (w := c.w) (t := t) (b := b) (o := off) (cs := (cs.drop off).take (tsz D t)) hag (by simp; omega) (by simp; omega) (fun ha => by simp; omega) hcell
          obtain ⟨v', e1, e2⟩ := hrel.get _ _ off (vs[off]) (List.getElem?_eq_getElem hlt)
          have e3 : ((cs.drop off).take (tsz D t)).headD .nilIface = v' := by
            rw [h1, List.drop_eq_getElem_cons (by omega)]
            rw [List.getElem?_eq_getElem (by omega)] at e1
            have := Option.some.inj e1
            rw [← this]; rfl
          simp only [Bool.false_eq_true, if_false] at this
          rw [e3] at this
          refine ⟨v', by simpa [Instr.loadAt, Instr.sureAddr] using this, ?_⟩
          simpa [List.getD, hlt] using e2
    case elt tok i off =>
      simp only at h ⊢
      unfold Rel at hx
      cases ht : c.A[tok]? with
      | none => rw [ht] at h; exact False.elim h
      | some o =>
        rw [ht] at h hx
        cases o <;> try exact False.elim h
        rename_i e xs
        simp only at h hx ⊢
        cases hs : e.sub (List.getD xs i e.dft) ag off (tsz D t) with
        | none => rw [hs] at h; exact False.elim h
        | some uy =>
          obtain ⟨u, y⟩ := uy
          rw [hs] at h
          simp only at h ⊢
          obtain ⟨hb, h1⟩ := gate_of h
          rw [gate_true hb]
          have h2 := blt_of hb
          obtain ⟨b, hr, rfl⟩ := hx
          have ho := H.obj tok _ ht
          rw [hr] at ho
          rcases ho with ⟨hn, _⟩ | ⟨b', cs, et, hb, hh, hrow⟩
          · cases hn
          · cases hb
            have h1 : i < List.length xs := h1
            obtain ⟨ds, hf, hd⟩ := hrow i h1
            have hg : List.getD xs i e.dft = xs[i] := by simp [List.getD, List.getElem?_eq_getElem h1]
            rw [hg] at hs
            obtain ⟨k1, k2, k3⟩ := sub_sound e _ ds ag off (tsz D t) u y hf hs
            have hl := k3.len
            have hle := k3.len
            simp at hle
            have hcell : ∀ j (hj : j < ((ds.drop off).take (tsz D t)).length), c.w.cell? ⟨b, i * e.size + off + j, none⟩ = some ((ds.drop off).take (tsz D t))[j] := by
              intro j hj
              simp at hj
              have := hd (off + j) (by omega)
              simp [World.cell?, hh, Nat.add_assoc, this]
            have := run_loadVar hD (w := c.w) (t := t) (b := b) (o := i * e.size + off) (cs := (ds.drop off).take (tsz D t)) hag (by rw [hl]; exact k1.symm) (by rw [hl]; omega) (fun ha => by rw [hl]; exact isAgg_size (k2.trans ha)) hcell
            subst k2
            rw [if_valOf] at this
            exact ⟨_, by simpa [Instr.loadAt, Instr.sureAddr] using this, rel_fz_mk k3⟩
end Go.Ab
/-
  Operations that only look (4): fields, indexes, picks, numbers, making of values.
-/
namespace Go.Ab
open Go
theorem run_underlying' {P : Program} {t : TypeId} {d : TypeDesc} (h : P.underlying t = some d) (w : World) : (underlying t).run P w = .ok d w := by
  simp [underlying, h]
theorem aFieldAddr_sound {P : Program} {D : Tab} (hD : TabOk P D) {c : Cx} {t : TypeId} {f : Nat} {x : AV} {v : Value} (hx : Rel c x v) (h : Hold (aFieldAddr D c.A t f x).1) :
    ∃ r, (Instr.fieldAt t v f).run P c.w = .ok r c.w ∧ Rel c (aFieldAddr D c.A t f x).2 r := by
  unfold aFieldAddr at *
  cases hf : tfld D t f with
  | none => rw [hf] at h; cases x <;> exact False.elim h
  | some p =>
    obtain ⟨off, ft⟩ := p
    rw [hf] at h
    obtain ⟨fs, fd, hu, hfs, rfl, rfl⟩ := of_tfld hD hf
    have key : ∀ (b o : Nat), 0 < tsz D fd.type → (Instr.fieldAt t (.pointer (some ⟨b, o, none⟩)) f).run P c.w = .ok (.pointer (some ⟨b, o + fd.offset, none⟩)) c.w := by
      intro b o hz
      simp [Instr.fieldAt, run_underlying' hu, hfs, Instr.sureAddr, fieldPlace, run_sizeOf hD rfl hz, plain_add]
      intro h0; omega
    cases x <;> try exact False.elim h
    case ptr tok o =>
      simp only at h ⊢
      unfold Rel at hx
      cases ht : c.A[tok]? with
      | none => rw [ht] at h; exact False.elim h
      | some ob =>
        rw [ht] at hx h
        cases ob <;> try exact False.elim h
        obtain ⟨b, hr, rfl⟩ := hx
        obtain ⟨hb, _⟩ := gate_of h
        rw [gate_true hb]
        exact ⟨_, key b o (blt_of hb), by unfold Rel; rw [ht]; exact ⟨b, hr, rfl⟩⟩
    case elt tok i o =>
      simp only at h ⊢
      unfold Rel at hx
      cases ht : c.A[tok]? with
      | none => rw [ht] at h; exact False.elim h
      | some ob =>
        rw [ht] at hx h
        cases ob <;> try exact False.elim h
        obtain ⟨b, hr, rfl⟩ := hx
        obtain ⟨hb, _⟩ := gate_of h
        rw [gate_true hb]
        exact ⟨_, key b _ (blt_of hb), by unfold Rel; rw [ht]; exact ⟨b, hr, by rw [Nat.add_assoc]⟩⟩
    case fptr u y =>
      simp only at h ⊢
      cases hag : tagg D fd.type with
      | none => rw [hag] at h; exact False.elim h
      | some ag =>
        rw [hag] at h
        simp only at h ⊢
        obtain ⟨hb, h⟩ := gate_of h
        rw [gate_true hb]
        have hz := blt_of hb
        cases hs : u.sub y ag fd.offset (tsz D fd.type) with
        | none => rw [hs] at h; exact False.elim h
        | some uy =>
          obtain ⟨u', y'⟩ := uy
          simp only [toPtr]
          unfold Rel at hx
          obtain ⟨b, o, cs, rfl, hI, hlt, hfz, hc⟩ := hx
          obtain ⟨k1, k2, k3⟩ := sub_sound u y cs ag _ _ u' y' hfz hs
          refine ⟨_, key b o hz, ?_⟩
          unfold Rel
          refine ⟨b, o + fd.offset, _, rfl, hI, hlt, k3, fun j hj => ?_⟩
          simp at hj
          have := hc (fd.offset + j) (by omega)
          simp [Nat.add_assoc, this]
theorem getD_of_lt {α : Type} {l : List α} {i : Nat} {d : α} (h : i < l.length) : l.getD i d = l[i] := by simp [List.getD, List.getElem?_eq_getElem h]
theorem aIndexAddr_sound {P : Program} {D : Tab} (hD : TabOk P D) {c : Cx} {t : TypeId} {x i : AV} {v j : Value} (hx : Rel c x v) (hi : Rel c i j) (h : Hold (aIndexAddr D c.A t x i).1) :
    ∃ r, (Instr.indexAt t v j).run P c.w = .ok r c.w ∧ Rel c (aIndexAddr D c.A t x i).2 r := by
  unfold aIndexAddr at *
  cases hn : aInt i with
  | none => rw [hn] at h; exact False.elim h
  | some n =>
  rw [hn] at h
  simp only at h ⊢
  obtain ⟨k, rfl⟩ := aInt_of hn hi
  clear hn hi
  unfold aIndexAddrI at *
  cases x <;> try exact False.elim h
  case fz u xs =>
    cases u <;> try exact False.elim h
    rename_i e
    simp only at h ⊢
    cases hel : telem D t with
    | none => rw [hel] at h; exact False.elim h
    | some el =>
      rw [hel] at h
      simp only at h ⊢
      obtain ⟨hb, h3, h4⟩ := gate_of h
      rw [gate_true hb]
      simp only [Bool.and_eq_true] at hb
      have h1 := beq_eq hb.1
      have h2 := blt_of hb.2
      obtain ⟨p, cap, rfl, hf⟩ := rel_list hx
      obtain ⟨m, rfl⟩ := Int.eq_ofNat_of_zero_le h3
      have hm : m < List.length xs := by omega
      unfold FzC at hf
      obtain ⟨p', cap', hv, _, hall⟩ := hf
      simp at hv
      obtain ⟨rfl, rfl⟩ := hv
      obtain ⟨b, o, cs, rfl, hI, hlt, hfz, hc⟩ := hall m hm
      refine ⟨.pointer (some ⟨b, o + m * e.size, none⟩), ?_, ?_⟩
      · simp [Instr.indexAt, asIntOf, run_underlying' (of_telem hD hel), run_sizeOf hD h1 h2, plain_add, hm]
      · unfold Rel
        refine ⟨b, _, cs, rfl, hI, hlt, ?_, hc⟩
        have : List.getD xs (Int.toNat (m : Int)) e.dft = xs[m] := by rw [Int.toNat_natCast]; exact getD_of_lt hm
        rw [this]; exact hfz
  case ref tok off len =>
    simp only at h ⊢
    unfold Rel at hx
    cases ht : c.A[tok]? with
    | none => rw [ht] at h; exact False.elim h
    | some o =>
      rw [ht] at h hx
      cases o <;> try exact False.elim h
      rename_i e xs
      simp only at h hx ⊢
      cases hel : telem D t with
      | none => rw [hel] at h; exact False.elim h
      | some el =>
        rw [hel] at h
        simp only at h ⊢
        obtain ⟨hb, h3, h4⟩ := gate_of h
        rw [gate_true hb]
        simp only [Bool.and_eq_true] at hb
        have h1 := beq_eq hb.1
        have h2 := blt_of hb.2
        obtain ⟨m, rfl⟩ := Int.eq_ofNat_of_zero_le h3
        rcases hx with ⟨b, cap, cs, et, a, hr, rfl, ha, hle, hh, hsz⟩ | ⟨_, _, hl, _⟩
        · have := ha (by omega); subst this
          have hm : m < len := by omega
          refine ⟨.pointer (some ⟨b, off * e.size + m * e.size, none⟩), ?_, ?_⟩
          · simp [Instr.indexAt, asIntOf, run_underlying' (of_telem hD hel), run_sizeOf hD h1 h2, plain_add, hm]
          · unfold Rel; rw [ht]; exact ⟨b, hr, by rw [Int.toNat_natCast, Nat.add_mul, Nat.add_zero]⟩
        · omega
  case ptr tok off =>
    simp only at h ⊢
    unfold Rel at hx
    cases ht : c.A[tok]? with
    | none => rw [ht] at h; exact False.elim h
    | some o =>
      rw [ht] at h hx
      cases o <;> try exact False.elim h
      simp only at h hx ⊢
      cases hel : tarr D t with
      | none => rw [hel] at h; exact False.elim h
      | some me =>
        obtain ⟨m, el⟩ := me
        rw [hel] at h
        simp only at h ⊢
        obtain ⟨hb, h3, h4⟩ := gate_of h
        rw [gate_true hb]
        have h1 := blt_of hb
        obtain ⟨q, rfl⟩ := Int.eq_ofNat_of_zero_le h3
        obtain ⟨b, hr, rfl⟩ := hx
        have hm : q < m := by omega
        refine ⟨.pointer (some ⟨b, off + q * tsz D el, none⟩), ?_, ?_⟩
        · simp [Instr.indexAt, asIntOf, run_underlying' (of_tarr hD hel), run_sizeOf hD rfl h1, plain_add, Instr.sureAddr, hm]
        · unfold Rel; rw [ht]; exact ⟨b, hr, by rw [Int.toNat_natCast]⟩
  case fptr u y =>
    cases u <;> try exact False.elim h
    rename_i m e
    simp only at h ⊢
    cases hel : tarr D t with
    | none => rw [hel] at h; exact False.elim h
    | some me =>
      obtain ⟨m', el⟩ := me
      rw [hel] at h
      simp only at h ⊢
      obtain ⟨hb, h3, h4⟩ := gate_of h
      rw [gate_true hb]
      simp only [Bool.and_eq_true] at hb
      have h0 := beq_eq hb.1.1
      have h1 := beq_eq hb.1.2
      have h2 := blt_of hb.2
      subst h0
      obtain ⟨q, rfl⟩ := Int.eq_ofNat_of_zero_le h3
      have hm : q < m := by omega
      unfold Rel at hx
      obtain ⟨b, o, cs, rfl, hI, hlt, hfz, hc⟩ := hx
      obtain ⟨hl, css, hn, rfl, hall⟩ := hfz
      have hlen : ∀ j, j < css.length → (css.getD j []).length = e.size := fun j hj => (hall j (by rw [hl, ← hn]; exact hj)).len
      have hg : List.getD y (Int.toNat (q : Int)) e.dft = y[q]'(by rw [hl]; exact hm) := by rw [Int.toNat_natCast]; exact getD_of_lt (by rw [hl]; exact hm)
      have hf := hall q (by rw [hl]; exact hm)
      refine ⟨.pointer (some ⟨b, o + q * e.size, none⟩), ?_, ?_⟩
      · simp [Instr.indexAt, asIntOf, run_underlying' (of_tarr hD hel), run_sizeOf hD h1 h2, plain_add, Instr.sureAddr, hm]
      · rw [hg]
        unfold Rel
        refine ⟨b, _, css.getD q [], rfl, hI, hlt, hf, fun j hj => ?_⟩
        have hq := hlen q (by omega)
        have h5 := getD_flatten (s := e.size) css q 0 e.size hlen (by omega) (by omega)
        have h6 : (css.flatten.drop (q * e.size)).take e.size = css.getD q [] := by
          rw [Nat.add_zero] at h5; rw [h5, List.drop_zero, ← hq, List.take_length]
        have h7 : css.flatten[q * e.size + j]? = (css.getD q [])[j]? := by
          rw [← h6, List.getElem?_take, if_pos (by omega), List.getElem?_drop]
        rw [List.getElem?_eq_getElem hj] at h7
        have h8 := hc (q * e.size + j) (get_lt h7)
        rw [List.getElem?_eq_getElem (get_lt h7)] at h7
        rw [Nat.add_assoc, h8]; exact h7
end Go.Ab
/-
  Operations that only look (5): values' parts, picks, numbers, slices, and all together.
-/
namespace Go.Ab
open Go
theorem rel_agg' {c : Cx} {u : Ty} {x : u.den} {v : Value} (ha : u.isAgg = true) (h : Rel c (.fz u x) v) : ∃ cs : Array Value, v = .agg cs := by
  obtain ⟨cs, rfl, _⟩ := rel_agg ha h; exact ⟨_, rfl⟩
theorem aPart_agg {c : Cx} {ag : Option Bool} {off sz : Nat} {x : AV} {v : Value} (hx : Rel c x v) (h : Hold (aPart ag off sz x).1) : ∃ cs : Array Value, v = .agg cs := by
  unfold aPart at h
  cases x <;> try exact False.elim h
  · rename_i u x
    cases ag with
    | none => exact False.elim h
    | some b =>
      simp only at h
      cases hs : u.sub x b off sz with
      | none => rw [hs] at h; exact False.elim h
      | some uy =>
        obtain ⟨u', y⟩ := uy
        rw [hs] at h
        obtain ⟨hb, _⟩ := gate_of h
        simp only [Bool.and_eq_true] at hb
        exact rel_agg' hb.2 hx
  · unfold Rel at hx; obtain ⟨us, rfl, _⟩ := hx; exact ⟨_, rfl⟩
theorem aField_sound {P : Program} {D : Tab} (hD : TabOk P D) {c : Cx} {t : TypeId} {f : Nat} {x : AV} {v : Value} (hx : Rel c x v) (h : Hold (aField D t f x).1) :
    ∃ r, (Instr.field t v f).run P c.w = .ok r c.w ∧ Rel c (aField D t f x).2 r := by
  unfold aField at *
  cases hf : tfld D t f with
  | none => rw [hf] at h; exact False.elim h
  | some p =>
    obtain ⟨off, ft⟩ := p
    rw [hf] at h
    simp only at h ⊢
    obtain ⟨fs, fd, hu, hfs, rfl, rfl⟩ := of_tfld hD hf
    obtain ⟨cs, rfl⟩ := aPart_agg hx h
    obtain ⟨r, h1, h2⟩ := aPart_sound hD hx h
    exact ⟨r, by simp [Instr.field, run_underlying' hu, hfs, asAgg, h1], h2⟩
theorem aIndex_sound {P : Program} {D : Tab} (hD : TabOk P D) {c : Cx} {t : TypeId} {x i : AV} {v j : Value} (hx : Rel c x v) (hi : Rel c i j) (h : Hold (aIndex D t x i).1) :
    ∃ r, (Instr.index t v j).run P c.w = .ok r c.w ∧ Rel c (aIndex D t x i).2 r := by
  unfold aIndex at *
  cases hn : aInt i with
  | none => rw [hn] at h; exact False.elim h
  | some n =>
  rw [hn] at h
  simp only at h ⊢
  obtain ⟨k, rfl⟩ := aInt_of hn hi
  clear hn hi
  unfold aIndexI at *
  cases x <;> try exact False.elim h
  case fz u xs =>
    cases u <;> try exact False.elim h
    case str =>
      simp only at h ⊢
      obtain ⟨hb, h2, h3⟩ := gate_of h
      rw [gate_true hb]
      have h1 := of_tstr hD hb
      obtain rfl := rel_str.1 hx
      obtain ⟨q, rfl⟩ := Int.eq_ofNat_of_zero_le h2
      have hq : q < ByteArray.size xs := by omega
      have hg : (xs : ByteArray)[q]? = some ((ByteArray.data xs).toList.getD (Int.toNat (q : Int)) 0) := by
        rw [Int.toNat_natCast, getD_of_lt (by simpa using hq)]
        simp [hq]; rfl
      refine ⟨.int .u8 ((((ByteArray.data xs).toList.getD (Int.toNat (q : Int)) 0).toNat : Nat) : Int), ?_, rel_int.2 rfl⟩
      simp [Instr.index, asIntOf, run_underlying' h1, hg]
    case arr m e =>
      simp only at h ⊢
      cases hel : tarr D t with
      | none => rw [hel] at h; exact False.elim h
      | some me =>
        obtain ⟨m', el⟩ := me
        rw [hel] at h
        simp only at h ⊢
        obtain ⟨hb, h3, h4⟩ := gate_of h
        rw [gate_true hb]
        simp only [Bool.and_eq_true] at hb
        have h0 := beq_eq hb.1.1.1
        have h1 := beq_eq hb.1.1.2
        have hag := oIs_of hb.1.2
        have h2 := blt_of hb.2
        subst h0
        obtain ⟨q, rfl⟩ := Int.eq_ofNat_of_zero_le h3
        have hm : q < m := by omega
        obtain ⟨cs, rfl, hfz⟩ := rel_agg rfl hx
        obtain ⟨hl, css, hn, rfl, hall⟩ := hfz
        have hlen : ∀ j, j < css.length → (css.getD j []).length = e.size := fun j hj => (hall j (by rw [hl, ← hn]; exact hj)).len
        have hg : List.getD xs (Int.toNat (q : Int)) e.dft = xs[q]'(by rw [hl]; exact hm) := by rw [Int.toNat_natCast]; exact getD_of_lt (by rw [hl]; exact hm)
        have hf := hall q (by rw [hl]; exact hm)
        have h5 := getD_flatten (s := e.size) css q 0 e.size hlen (by omega) (by omega)
        have h6 : (css.flatten.drop (q * e.size)).take e.size = css.getD q [] := by
          rw [Nat.add_zero] at h5; rw [h5, List.drop_zero, ← hlen q (by omega), List.take_length]
        rw [hg]
        refine ⟨valOf e (css.getD q []), ?_, rel_fz_mk hf⟩
        unfold valOf
        cases ha : e.isAgg with
        | true =>
          rw [ha] at hag
          simp [Instr.index, asIntOf, run_underlying' (of_tarr hD hel), run_sizeOf hD h1 h2, part, run_isAgg hD hag, hm]
          have := h6
          simpa using this
        | false =>
          rw [ha] at hag
          have hs1 := isAgg_size ha
          have hq := hlen q (by omega)
          rw [hs1] at hq h6
          have h7 : css.flatten[q * 1]? = some ((css.getD q []).headD .nilIface) := by
            have h8 : css.flatten[q * 1]? = (css.getD q [])[0]? := by rw [← h6, List.getElem?_take, if_pos (by omega), List.getElem?_drop, Nat.add_zero]
            rw [h8]
            match css.getD q [], hq with
            | [v], _ => rfl
          rw [Nat.mul_one] at h7
          simp [Instr.index, asIntOf, run_underlying' (of_tarr hD hel), run_sizeOf hD (h1.trans hs1) (by omega), part, run_isAgg hD hag, hm, h7]
  case agg vs =>
    simp only at h ⊢
    cases hel : tarr D t with
    | none => rw [hel] at h; exact False.elim h
    | some me =>
      obtain ⟨m, el⟩ := me
      rw [hel] at h
      simp only at h ⊢
      obtain ⟨⟨h3, h4⟩, h5⟩ := andC_of h
      obtain ⟨q, rfl⟩ := Int.eq_ofNat_of_zero_le h3
      have hm : q < m := by omega
      obtain ⟨cs, rfl⟩ := aPart_agg hx h5
      obtain ⟨r, k1, k2⟩ := aPart_sound hD hx h5
      have hz : 0 < tsz D el := by
        unfold aPart at h5
        cases hg : tagg D el with
        | none => rw [hg] at h5; exact h5.elim
        | some b =>
          rw [hg] at h5
          cases b with
          | true => exact blt_of (gate_of h5).1
          | false =>
            have hb := (gate_of h5).1
            simp only [Bool.and_eq_true] at hb
            exact blt_of hb.1
      refine ⟨r, ?_, k2⟩
      rw [Int.toNat_natCast] at k1
      simp [Instr.index, asIntOf, run_underlying' (of_tarr hD hel), run_sizeOf hD rfl hz, hm, k1]
theorem stripO_sound {c : Cx} {g : Bool} {a : AV} {v : Value} (h : Rel c a v) (hg : g = true) (hs : Hold (stripO g a).1) : Rel c (stripO g a).2 v := by
  cases a <;> try exact h
  unfold Rel at h
  exact h.1 (hs hg)
theorem iteAV_sound {c : Cx} {g : Bool} {a b : AV} {v : Value} (h1 : g = true → Rel c a v) (h2 : g = false → Rel c b v) : Rel c (iteAV g a b) v := by
  unfold iteAV
  split
  · cases g
    · exact h2 rfl
    · exact h1 rfl
  · cases g
    · exact h2 rfl
    · exact h1 rfl
  · cases g
    · exact h2 rfl
    · exact h1 rfl
theorem aPick_sound {P : Program} {c : Cx} {x a b : AV} {vx va vb : Value} (hx : Rel c x vx) (ha : Rel c a va) (hb : Rel c b vb) (h : Hold (aPick x a b).1) :
    ∃ r, (do pure (if ← asBool vx then va else vb) : Sem Value).run P c.w = .ok r c.w ∧ Rel c (aPick x a b).2 r := by
  unfold aPick at *
  cases x <;> try exact False.elim h
  rename_i u g
  cases u <;> try exact False.elim h
  obtain rfl := rel_bool.1 hx
  refine ⟨if g = true then va else vb, by simp [asBool], ?_⟩
  simp only at h ⊢
  unfold pickAV at *
  split at h
  · rename_i y hy1 hy2
    obtain ⟨hg, hb1⟩ := andC_of h
    have hg : g = false := hg
    rw [if_neg (by simp [hg])]
    exact stripO_sound hb (by simp [hg]) hb1
  · rename_i y hy1 hy2 hy3
    obtain ⟨hg, ha1⟩ := andC_of h
    have hg : g = true := hg
    rw [if_pos hg]
    exact stripO_sound ha hg ha1
  obtain ⟨ha1, hb1⟩ := andC_of h
  refine iteAV_sound (fun hg => ?_) (fun hg => ?_)
  · rw [if_pos hg]; exact stripO_sound ha hg ha1
  · rw [if_neg (by simp [hg])]; exact stripO_sound hb (by simp [hg]) hb1
end Go.Ab
/-
  Operations that only look (6): numbers, conversions, slices, lengths.
-/
namespace Go.Ab
open Go
theorem arI_sound {c : Cx} {k : IntKind} {n : Int} (h : Hold (arI k n).1) : Rel c (arI k n).2 (.int k (k.wrap n)) := by
  unfold arI at *
  cases k <;> try exact rel_int.2 rfl
  simp only at h ⊢
  rw [I64.wrap h]; exact rel_int.2 rfl
theorem aBinI_sound {P : Program} {c : Cx} {op : BinOp} {t : TypeId} {x y : Operand} {k k' : IntKind} {a b : Int} (h : Hold (aBinI op k k' a b).1) :
    ∃ r, (do eqGuard op t x y (.int k a) (.int k' b); binOp op t (.int k a) (.int k' b) : Sem Value).run P c.w = .ok r c.w ∧ Rel c (aBinI op k k' a b).2 r := by
  have hg : (eqGuard op t x y (.int k a) (.int k' b)).run P c.w = .ok () c.w := by
    unfold eqGuard; cases op <;> simp
  unfold aBinI at *
  cases op <;> try exact False.elim h
  case shl => exact ⟨_, by simp [hg, binOp, Op.shift, show ¬ b < 0 from fun hb => absurd (show (0 : Int) ≤ b from h) (by omega)], rel_int.2 rfl⟩
  case shr => exact ⟨_, by simp [hg, binOp, Op.shift, show ¬ b < 0 from fun hb => absurd (show (0 : Int) ≤ b from h) (by omega)], rel_int.2 rfl⟩
  all_goals (
    simp only at h ⊢
    have hb := (gate_of h).1
    have h2 := (gate_of h).2
    clear h
    rw [gate_true hb]
    have := kEq_of hb
    subst this
    have h := h2
    clear h2)
  case add => exact ⟨_, by simp [hg, binOp, Op.intArith], arI_sound h⟩
  case sub => exact ⟨_, by simp [hg, binOp, Op.intArith], arI_sound h⟩
  case mul => exact ⟨_, by simp [hg, binOp, Op.intArith], arI_sound h⟩
  case quo =>
    obtain ⟨h1, h2⟩ := andC_of h
    have h1 : b ≠ 0 := h1
    exact ⟨_, by simp [hg, binOp, Op.intDiv, h1], arI_sound h2⟩
  case rem => exact ⟨_, by simp [hg, binOp, Op.intDiv, show b ≠ 0 from h], rel_int.2 rfl⟩
  case eql => exact ⟨_, by simp [hg, binOp, Op.intCmp], rel_bool.2 rfl⟩
  case neq => exact ⟨_, by simp [hg, binOp, Op.intCmp], rel_bool.2 rfl⟩
  case lss => exact ⟨_, by simp [hg, binOp, Op.intCmp], rel_bool.2 rfl⟩
  case leq => exact ⟨_, by simp [hg, binOp, Op.intCmp], rel_bool.2 rfl⟩
  case gtr => exact ⟨_, by simp [hg, binOp, Op.intCmp], rel_bool.2 rfl⟩
  case geq => exact ⟨_, by simp [hg, binOp, Op.intCmp], rel_bool.2 rfl⟩
theorem aBinS_sound {P : Program} {c : Cx} {op : BinOp} {t : TypeId} {x y : Operand} {a b : ByteArray} (h : Hold (aBinS op a b).1) :
    ∃ r, (do eqGuard op t x y (.string a) (.string b); binOp op t (.string a) (.string b) : Sem Value).run P c.w = .ok r c.w ∧ Rel c (aBinS op a b).2 r := by
  have hg : (eqGuard op t x y (.string a) (.string b)).run P c.w = .ok () c.w := by
    unfold eqGuard; cases op <;> simp
  unfold aBinS at *
  cases op <;> try exact False.elim h
  all_goals simp only at h ⊢
  case add =>
    have h : ((a.size + b.size : Nat) : Int) ≤ IntKind.i64.max := h
    have h' : ¬ (((a.size + b.size : Nat) : Int) > IntKind.i64.max) := by omega
    exact ⟨.string (a ++ b), by simp only [Sem.run_bind, hg, Result.andThen_ok, binOp, Op.stringOp, if_neg h', Sem.run_pure], rel_str.2 rfl⟩
  all_goals exact ⟨_, by simp only [Sem.run_bind, hg, Result.andThen_ok, binOp, Op.stringOp, Sem.run_pure], rel_bool.2 rfl⟩
theorem run_equal_bool {P : Program} {t : TypeId} {a b : Bool} {w : World} (h : P.underlying t = some .bool) : (Op.equal t (.bool a) (.bool b)).run P w = .ok (a == b) w := by
  unfold Op.equal Op.maxDepth
  rw [show (10000 : Nat) = 9999 + 1 from rfl]
  unfold Op.equalIn
  simp [run_underlying' h]
theorem aBinB_sound {P : Program} {D : Tab} (hD : TabOk P D) {c : Cx} {op : BinOp} {t : TypeId} {x y : Operand} {a b : Bool} (h : Hold (aBinB D op t a b).1) :
    ∃ r, (do eqGuard op t x y (.bool a) (.bool b); binOp op t (.bool a) (.bool b) : Sem Value).run P c.w = .ok r c.w ∧ Rel c (aBinB D op t a b).2 r := by
  have hg : (eqGuard op t x y (.bool a) (.bool b)).run P c.w = .ok () c.w := by
    unfold eqGuard; cases op <;> simp
  unfold aBinB at *
  cases op <;> try exact False.elim h
  all_goals simp only at h ⊢
  all_goals obtain ⟨hb, _⟩ := gate_of h
  all_goals rw [gate_true hb]
  all_goals exact ⟨_, by simp only [Sem.run_bind, hg, Result.andThen_ok, binOp, run_equal_bool (of_tbool hD hb), Sem.run_pure], rel_bool.2 rfl⟩
theorem isNil_val {c : Cx} {x : AV} {v : Value} {b : Bool} (hx : Rel c x v) (h : isNil x = some b) : (b = true ∧ v = .nilIface) ∨ (b = false ∧ ∃ t u, v = .iface t u) := by
  unfold isNil at h
  split at h
  · cases h; exact .inl ⟨rfl, (rel_raw_of hx).1⟩
  · cases h; exact .inr ⟨rfl, _, _, (rel_raw_of hx).1⟩
  · cases h; unfold Rel at hx; obtain ⟨u, rfl, _⟩ := hx; exact .inr ⟨rfl, _, _, rfl⟩
  · cases h
theorem run_equal_nil {P : Program} {D : Tab} (hD : TabOk P D) {t : TypeId} {v : Value} {b : Bool} {w : World} (h : tiface D t = true) (hv : (b = true ∧ v = .nilIface) ∨ (b = false ∧ ∃ t u, v = .iface t u)) :
    (Op.equal t v .nilIface).run P w = .ok b w := by
  obtain ⟨ms, hu⟩ := of_tiface hD h
  unfold Op.equal Op.maxDepth
  rw [show (10000 : Nat) = 9999 + 1 from rfl]
  unfold Op.equalIn
  rcases hv with ⟨rfl, rfl⟩ | ⟨rfl, t', u, rfl⟩
  · simp [run_underlying' hu]
  · simp [run_underlying' hu]
theorem aBinNil_sound {P : Program} {D : Tab} (hD : TabOk P D) {c : Cx} {op : BinOp} {t : TypeId} {x : Operand} {a : AV} {v : Value} (hx : Rel c a v) (h : Hold (aBinNil D op t a).1) :
    ∃ r, (do eqGuard op t x (.const .nilIface) v .nilIface; binOp op t v .nilIface : Sem Value).run P c.w = .ok r c.w ∧ Rel c (aBinNil D op t a).2 r := by
  unfold aBinNil at *
  cases hn : isNil a with
  | none => rw [hn] at h; exact False.elim h
  | some b =>
    rw [hn] at h
    have hv := isNil_val hx hn
    have hg : (eqGuard op t x (.const .nilIface) v .nilIface).run P c.w = .ok () c.w := by
      unfold eqGuard
      rcases hv with ⟨_, rfl⟩ | ⟨_, t', u, rfl⟩ <;> cases op <;> simp
    have hb : ∀ y : Value, y = v → ∀ w : World, op = .eql ∨ op = .neq → binOp op t y .nilIface = (if op = .eql then (do pure (.bool (← Op.equal t y .nilIface))) else (do pure (.bool (!(← Op.equal t y .nilIface))))) := by
      intro y hy w ho
      subst hy
      rcases hv with ⟨_, rfl⟩ | ⟨_, t', u, rfl⟩ <;> rcases ho with rfl | rfl <;> rfl
    cases op <;> try exact False.elim h
    · simp only at h ⊢
      obtain ⟨hgb, _⟩ := gate_of h
      rw [gate_true hgb]
      have h := hgb
      exact ⟨.bool b, by rw [hb v rfl c.w (.inl rfl)]; simp only [Sem.run_bind, hg, Result.andThen_ok, if_true, run_equal_nil hD h hv, Sem.run_pure], rel_bool.2 rfl⟩
    · simp only at h ⊢
      obtain ⟨hgb, _⟩ := gate_of h
      rw [gate_true hgb]
      have h := hgb
      exact ⟨.bool (!b), by rw [hb v rfl c.w (.inr rfl)]; simp [hg, run_equal_nil hD h hv], rel_bool.2 rfl⟩
/-! ### one operand -/
def aUn (op : UnOp) (x : AV) : AR :=
  match op, x with
  | .neg, .fz (.int k) n => arI k ((0 : Int) - n)
  | .not, .fz .bool b => (none, .fz .bool (!b))
  | _, _ => no
theorem aUn_sound {P : Program} {D : Tab} (hD : TabOk P D) {c : Cx} {op : UnOp} {x : AV} {v : Value} (hx : Rel c x v) (h : Hold (aUn op x).1) : ∃ r, (Op.unary op v).run P c.w = .ok r c.w ∧ Rel c (aUn op x).2 r := by
  cases op <;> cases x <;> try exact False.elim h
  · rename_i u n
    cases u <;> try exact False.elim h
    obtain rfl := rel_int.1 hx
    exact ⟨.int _ (IntKind.wrap _ (0 - n)), by simp [Op.unary, Op.intArith], arI_sound h⟩
  · rename_i u n
    cases u <;> try exact False.elim h
    obtain rfl := rel_bool.1 hx
    exact ⟨_, by simp [Op.unary], rel_bool.2 rfl⟩
def aConv (D : Tab) (src dst : TypeId) (x : AV) : AR :=
  match aInt x, tkind D dst with
  | some n, some k => gate (tlook D src).isSome (arI k n)
  | _, _ => no
theorem aConv_sound {P : Program} {D : Tab} (hD : TabOk P D) {c : Cx} {s d : TypeId} {x : AV} {v : Value} (hx : Rel c x v) (h : Hold (aConv D s d x).1) : ∃ r, (convert s d v).run P c.w = .ok r c.w ∧ Rel c (aConv D s d x).2 r := by
  unfold aConv at *
  cases hn : aInt x with
  | none => rw [hn] at h; exact False.elim h
  | some n =>
    cases hk : tkind D d with
    | none => rw [hn, hk] at h; exact False.elim h
    | some k =>
      rw [hn, hk] at h
      simp only at h ⊢
      obtain ⟨hb, h⟩ := gate_of h
      rw [gate_true hb]
      obtain ⟨k', rfl⟩ := aInt_of hn hx
      obtain ⟨ds, hs⟩ := Option.isSome_iff_exists.1 (of_known hD hb)
      refine ⟨.int k (k.wrap n), ?_, arI_sound h⟩
      unfold convert
      simp only [Sem.run_bind, run_underlying' hs, run_underlying' (of_tkind hD hk), Result.andThen_ok]
      cases ds <;> simp [Conv.intToInt]
def aExtract (i : Nat) : AV → AR
  | .tup vs => gate (Nat.blt i vs.length) (none, vs.getD i .unk)
  | _ => no
theorem aExtract_sound {P : Program} {D : Tab} (hD : TabOk P D) {c : Cx} {i : Nat} {x : AV} {v : Value} (hx : Rel c x v) (h : Hold (aExtract i x).1) : ∃ r, (Instr.extract v i).run P c.w = .ok r c.w ∧ Rel c (aExtract i x).2 r := by
  cases x <;> try exact False.elim h
  rename_i vs
  unfold Rel at hx
  obtain ⟨us, rfl, hr⟩ := hx
  obtain ⟨hb, _⟩ := gate_of h
  have hlt : i < vs.length := blt_of hb
  obtain ⟨v', e1, e2⟩ := hr.get _ _ i (vs[i]) (List.getElem?_eq_getElem hlt)
  exact ⟨v', by simp [Instr.extract, e1], by unfold aExtract; simp only; rw [gate_true hb]; simpa [List.getD, hlt] using e2⟩
def aLen (D : Tab) (A : List AO) (t : TypeId) : AV → AR
  | .fz (.list _) xs => gate (telem D t).isSome (none, .fz (.int .i64) ((List.length xs : Nat) : Int))
  | .ref tok _ len => match A[tok]? with
    | some (.row _ _) => gate (telem D t).isSome (none, .fz (.int .i64) ((len : Nat) : Int))
    | _ => no
  | .nilSl => gate (telem D t).isSome (none, .fz (.int .i64) (0 : Int))
  | .fz .str s => gate (tstr D t) (none, .fz (.int .i64) ((ByteArray.size s : Nat) : Int))
  | _ => no
theorem aLen_sound {P : Program} {D : Tab} (hD : TabOk P D) {c : Cx} {t ty : TypeId} {x : AV} {v : Value} {ts : Array TypeId} (ht : ts[0]? = some t) (hx : Rel c x v) (h : Hold (aLen D c.A t x).1) :
    ∃ r, (Builtin.len_ ts ty #[v]).run P c.w = .ok r c.w ∧ Rel c (aLen D c.A t x).2 r := by
  have key : (telem D t).isSome = true → ∀ p n cap, (Builtin.len_ ts ty #[.slice p n cap]).run P c.w = .ok (.int .i64 (n : Int)) c.w := by
    intro h p n cap
    obtain ⟨e, he⟩ := Option.isSome_iff_exists.1 h
    simp [Builtin.len_, ht, run_underlying' (of_telem hD he), goInt]
  unfold aLen at *
  cases x <;> try exact False.elim h
  case fz u xs =>
    cases u <;> try exact False.elim h
    case list e =>
      obtain ⟨hb, _⟩ := gate_of h
      obtain ⟨p, cap, rfl, _⟩ := rel_list hx
      exact ⟨_, key hb _ _ _, by simp only [gate_true hb]; exact rel_int.2 rfl⟩
    case str =>
      obtain ⟨hb, _⟩ := gate_of h
      obtain rfl := rel_str.1 hx
      exact ⟨.int .i64 (ByteArray.size xs : Nat), by simp [Builtin.len_, ht, run_underlying' (of_tstr hD hb), goInt], by simp only; rw [gate_true hb]; exact rel_int.2 rfl⟩
  case ref tok off len =>
    simp only at h ⊢
    unfold Rel at hx
    cases ht : c.A[tok]? with
    | none => rw [ht] at h; exact False.elim h
    | some o =>
      rw [ht] at h hx
      cases o <;> try exact False.elim h
      simp only at h hx ⊢
      obtain ⟨hb, _⟩ := gate_of h
      rw [gate_true hb]
      rcases hx with ⟨b, cap, cs, et, a, _, rfl, _⟩ | ⟨_, _, rfl, rfl⟩
      · exact ⟨_, key hb _ _ _, rel_int.2 rfl⟩
      · exact ⟨_, key hb _ _ _, rel_int.2 rfl⟩
  case nilSl =>
    obtain ⟨hb, _⟩ := gate_of h
    unfold Rel at hx; subst hx
    exact ⟨_, key hb _ _ _, by simp only [gate_true hb]; exact rel_int.2 rfl⟩
end Go.Ab
/-
  Operations that only look (7): slices of slices, functions, interfaces, building of values.
-/
namespace Go.Ab
open Go
def aOpt : Option AV → Int → Option Int
  | none, d => some d
  | some v, _ => aInt v
def aSliceI (D : Tab) (A : List AO) (t : TypeId) (lo hi : Int) : AV → AR
  | .fz (.list e) xs => match telem D t with
    | some el => gate (Nat.beq (tsz D el) e.size && Nat.blt 0 e.size) (some (0 ≤ lo ∧ lo ≤ hi ∧ hi ≤ (List.length xs : Int)), .fz (.list e) ((List.drop lo.toNat xs).take (hi.toNat - lo.toNat)))
    | none => no
  | .ref tok off len => match A[tok]?, telem D t with
    | some (.row e _), some el => gate (Nat.beq (tsz D el) e.size && Nat.blt 0 e.size) (some (0 ≤ lo ∧ lo ≤ hi ∧ hi ≤ (len : Int)), .ref tok (off + lo.toNat) (hi.toNat - lo.toNat))
    | _, _ => no
  | .fz .str s => gate (tstr D t) (some (0 ≤ lo ∧ lo ≤ hi ∧ hi ≤ (ByteArray.size s : Int)), .fz .str (ByteArray.extract s lo.toNat hi.toNat))
  | _ => no
def aLenN : AV → Int
  | .fz (.list _) xs => (List.length xs : Nat)
  | .ref _ _ len => (len : Nat)
  | .fz .str s => (ByteArray.size s : Nat)
  | _ => 0
def aSlice (D : Tab) (A : List AO) (t : TypeId) (x : AV) (lo hi : Option AV) : AR :=
  match aOpt lo 0, aOpt hi (aLenN x) with
  | some l, some h => aSliceI D A t l h x
  | _, _ => no
def optVal (c : Cx) : Option AV → Option Value → Prop
  | none, none => True
  | some a, some v => Rel c a v
  | _, _ => False
theorem run_bound {P : Program} {w : World} {k : IntKind} {i : Int} {y : Nat} {code : BoundsCode} (h0 : 0 ≤ i) (h : i ≤ (y : Int)) : (Instr.sliceBound (.int k i) y code).run P w = .ok i.toNat w := by
  simp [Instr.sliceBound, asIntOf, h0, h]
theorem run_bounds {P : Program} {c : Cx} {isS : Bool} {len cap : Nat} {lo hi : Option AV} {vl vh : Option Value} {l h : Int} (hl : optVal c lo vl) (hh : optVal c hi vh) (el : aOpt lo 0 = some l) (eh : aOpt hi (len : Int) = some h)
    (h0 : 0 ≤ l) (h1 : l ≤ h) (h2 : h ≤ (cap : Int)) (w : World) : (Instr.sliceBounds isS len cap vl vh none).run P w = .ok (l.toNat, h.toNat, cap) w := by
  have e1 : ∀ code, (match vh with | some v => Instr.sliceBound v cap code | none => pure len : Sem Nat).run P w = .ok h.toNat w := by
    intro code
    cases hi with
    | none =>
      cases vh with
      | none => simp [aOpt] at eh; subst eh; simp
      | some v => exact hh.elim
    | some a =>
      cases vh with
      | none => exact hh.elim
      | some v =>
        obtain ⟨k, rfl⟩ := aInt_of eh hh
        exact run_bound (by omega) h2
  have e2 : ∀ code, (match vl with | some v => Instr.sliceBound v h.toNat code | none => pure 0 : Sem Nat).run P w = .ok l.toNat w := by
    intro code
    cases lo with
    | none =>
      cases vl with
      | none => simp [aOpt] at el; subst el; simp
      | some v => exact hl.elim
    | some a =>
      cases vl with
      | none => exact hl.elim
      | some v =>
        obtain ⟨k, rfl⟩ := aInt_of el hl
        exact run_bound h0 (by omega)
  unfold Instr.sliceBounds
  have e1' := e1 (if isS = true then BoundsCode.sliceAcap else .sliceAlen)
  have e2' := e2 .sliceB
  cases vh <;> cases vl <;> simp_all
theorem aSlice_sound {P : Program} {D : Tab} (hD : TabOk P D) {c : Cx} {t : TypeId} {x : AV} {v : Value} {lo hi : Option AV} {vl vh : Option Value} (hx : Rel c x v) (hl : optVal c lo vl) (hh : optVal c hi vh) (h : Hold (aSlice D c.A t x lo hi).1) :
    ∃ r, (Instr.sliceAt t v vl vh none).run P c.w = .ok r c.w ∧ Rel c (aSlice D c.A t x lo hi).2 r := by
  unfold aSlice at *
  cases el : aOpt lo 0 with
  | none => rw [el] at h; exact False.elim h
  | some l =>
    cases eh : aOpt hi (aLenN x) with
    | none => rw [el, eh] at h; exact False.elim h
    | some u =>
      rw [el, eh] at h
      simp only at h ⊢
      cases x <;> try exact False.elim h
      case fz ty xs =>
        cases ty <;> try exact False.elim h
        case str =>
          unfold aSliceI at *
          simp only at h ⊢
          have hb := (gate_of h).1
          obtain ⟨h2, h3, h4⟩ := (gate_of h).2
          rw [gate_true hb]
          have h1 := of_tstr hD hb
          obtain rfl := rel_str.1 hx
          have hb := run_bounds (P := P) (isS := false) (cap := ByteArray.size xs) hl hh el eh h2 h3 h4 c.w
          refine ⟨.string (ByteArray.extract xs l.toNat u.toNat), ?_, rel_str.2 rfl⟩
          simp only [Instr.sliceAt, Instr.slice, Sem.run_bind, run_underlying' h1, Result.andThen_ok]
          simp [hb]
        case list e =>
          unfold aSliceI at *
          simp only at h ⊢
          cases hel : telem D t with
          | none => rw [hel] at h; exact False.elim h
          | some elt =>
            rw [hel] at h
            have hb := (gate_of h).1
            obtain ⟨h3, h4, h5⟩ := (gate_of h).2
            simp only
            rw [gate_true hb]
            simp only [Bool.and_eq_true] at hb
            have h1 := beq_eq hb.1
            have h2 := blt_of hb.2
            obtain ⟨p, cap, rfl, hf⟩ := rel_list hx
            unfold FzC at hf
            obtain ⟨p', cap', hv, hle, hall⟩ := hf
            simp at hv
            obtain ⟨rfl, rfl⟩ := hv
            have hb := run_bounds (P := P) (isS := true) (cap := cap) hl hh el eh h3 h4 (by omega) c.w
            have hlen : ((List.drop l.toNat xs).take (u.toNat - l.toNat)).length = u.toNat - l.toNat := by
              rw [List.length_take, List.length_drop]; omega
            refine ⟨.slice (if cap = l.toNat then p else p.map (·.add (l.toNat * e.size))) (u.toNat - l.toNat) (cap - l.toNat), ?_, ?_⟩
            · simp only [Instr.sliceAt, Instr.slice, Sem.run_bind, run_underlying' (of_telem hD hel), Result.andThen_ok, hb, run_sizeOf hD h1 h2, Sem.run_pure]
            · unfold Rel
              refine ⟨[.slice (if cap = l.toNat then p else p.map (·.add (l.toNat * e.size))) (u.toNat - l.toNat) (cap - l.toNat)], ?_, rfl⟩
              unfold FzC
              refine ⟨_, cap - l.toNat, by rw [hlen], by rw [hlen]; omega, fun i hi => ?_⟩
              rw [hlen] at hi
              obtain ⟨b, o, cs, rfl, hI, hlt, hfz, hc⟩ := hall (l.toNat + i) (by omega)
              refine ⟨b, o + l.toNat * e.size, cs, ?_, hI, hlt, ?_, fun j hj => ?_⟩
              · rw [if_neg (by omega)]; simp [plain_add]
              · have : ((List.drop l.toNat xs).take (u.toNat - l.toNat))[i] = xs[l.toNat + i]'(by omega) := by simp
                rw [this]; exact hfz
              · have := hc j hj
                rw [show o + l.toNat * e.size + i * e.size + j = o + (l.toNat + i) * e.size + j by rw [Nat.add_mul]; omega]
                exact this
      case ref tok off len =>
        unfold aSliceI at *
        simp only at h ⊢
        unfold Rel at hx
        cases ht : c.A[tok]? with
        | none => rw [ht] at h; exact False.elim h
        | some o =>
          rw [ht] at h hx
          cases o <;> try exact False.elim h
          rename_i e xs
          simp only at h hx ⊢
          cases hel : telem D t with
          | none => rw [hel] at h; exact False.elim h
          | some elt =>
            rw [hel] at h
            have hb := (gate_of h).1
            obtain ⟨h3, h4, h5⟩ := (gate_of h).2
            simp only
            rw [gate_true hb]
            simp only [Bool.and_eq_true] at hb
            have h1 := beq_eq hb.1
            have h2 := blt_of hb.2
            have fin : ∀ (p : Option Addr) (cap : Nat), len ≤ cap → (Instr.sliceAt t (.slice p len cap) vl vh none).run P c.w = .ok (.slice (if cap = l.toNat then p else p.map (·.add (l.toNat * e.size))) (u.toNat - l.toNat) (cap - l.toNat)) c.w := by
              intro p cap hle
              have hb := run_bounds (P := P) (isS := true) (cap := cap) hl hh el eh h3 h4 (by omega) c.w
              simp only [Instr.sliceAt, Instr.slice, Sem.run_bind, run_underlying' (of_telem hD hel), Result.andThen_ok, hb, run_sizeOf hD h1 h2, Sem.run_pure]
            rcases hx with ⟨b, cap, cs, et, a, hr, rfl, ha, hle, hh', hsz⟩ | ⟨hr, rfl, rfl, rfl⟩
            · refine ⟨_, fin _ _ hle, ?_⟩
              unfold Rel
              rw [ht]
              refine .inl ⟨b, cap - l.toNat, cs, et, (if cap = l.toNat then a else a.add (l.toNat * e.size)), hr, by split <;> rfl, fun hc => ?_, by omega, hh', ?_⟩
              · rw [if_neg (by omega), ha (by omega), plain_add, Nat.add_mul]
              · rw [show off + l.toNat + (cap - l.toNat) = off + cap by omega]; exact hsz
            · refine ⟨_, fin _ _ (Nat.le_refl _), ?_⟩
              unfold Rel
              rw [ht]
              have : l.toNat = 0 := by omega
              exact .inr ⟨hr, by omega, by omega, by rw [this]; simp; omega⟩
/-! ### functions, interfaces -/
def liveA (A : List AO) : AV → Bool
  | .ptr tok _ => match A[tok]? with | some (.box _) => true | _ => false
  | .elt tok _ _ => match A[tok]? with | some (.row _ _) => true | _ => false
  | .fptr _ _ | .glob _ | .fn _ _ => true
  | _ => false
def aNilCheck (A : List AO) (x : AV) : AR := gate (liveA A x) (none, x)
theorem aNilCheck_sound {P : Program} {c : Cx} {x : AV} {v : Value} (hx : Rel c x v) (h : Hold (aNilCheck c.A x).1) :
    ∃ r, (execOp (fun _ => v) { dst := none, op := .nilCheck (.tmp 0), type := 0, pos := "", after := #[], guard := none }).run P c.w = .ok (.value r) c.w ∧ Rel c (aNilCheck c.A x).2 r := by
  unfold aNilCheck at *
  have hb := (gate_of h).1
  rw [gate_true hb]
  refine ⟨v, ?_, hx⟩
  have : (∃ a, v = .pointer (some a)) ∨ (∃ f cs, v = .func (.func f) #[] cs) := by
    replace h : liveA c.A x = true := hb
    cases x <;> try (cases h; done)
    case fptr u y => unfold Rel at hx; obtain ⟨b, o, cs, rfl, _⟩ := hx; exact .inl ⟨_, rfl⟩
    case ptr tok off =>
      unfold Rel at hx; unfold liveA at h; simp only at h
      cases ht : c.A[tok]? with
      | none => rw [ht] at h; cases h
      | some o =>
        rw [ht] at h hx
        cases o <;> try (cases h; done)
        obtain ⟨b, _, rfl⟩ := hx; exact .inl ⟨_, rfl⟩
    case elt tok i off =>
      unfold Rel at hx; unfold liveA at h; simp only at h
      cases ht : c.A[tok]? with
      | none => rw [ht] at h; cases h
      | some o =>
        rw [ht] at h hx
        cases o <;> try (cases h; done)
        obtain ⟨b, _, rfl⟩ := hx; exact .inl ⟨_, rfl⟩
    case glob g => unfold Rel at hx; subst hx; exact .inl ⟨_, rfl⟩
    case fn f l => unfold Rel at hx; obtain ⟨vs, rfl, _⟩ := hx; exact .inr ⟨_, _, rfl⟩
  rcases this with ⟨a, rfl⟩ | ⟨f, cs, rfl⟩ <;> simp [execOp]
def aMkI (D : Tab) (t : TypeId) (x : AV) : AR := gate (tconc D t) (none, .ifc t x)
theorem aMkI_sound {P : Program} {D : Tab} (hD : TabOk P D) {c : Cx} {t : TypeId} {x : AV} {v : Value} (hx : Rel c x v) (h : Hold (aMkI D t x).1) : ∃ r, (Instr.makeInterface t v).run P c.w = .ok r c.w ∧ Rel c (aMkI D t x).2 r := by
  unfold aMkI at *
  have hb := (gate_of h).1
  rw [gate_true hb]
  exact ⟨_, run_makeInterface c.w t v (of_tconc hD hb), by unfold Rel; exact ⟨v, rfl, hx⟩⟩
def aAssert (D : Tab) (asserted : TypeId) (ok : Bool) : AV → AR
  | .ifc t v => gate (Nat.beq t asserted && tconc D asserted) (none, match ok with | true => .tup [v, .fz .bool true] | false => v)
  | _ => no
theorem aAssert_sound {P : Program} {D : Tab} (hD : TabOk P D) {c : Cx} {t u : TypeId} {ok : Bool} {x : AV} {v : Value} (hx : Rel c x v) (h : Hold (aAssert D u ok x).1) :
    ∃ r, (Instr.typeAssert v t u ok).run P c.w = .ok r c.w ∧ Rel c (aAssert D u ok x).2 r := by
  cases x <;> try exact False.elim h
  rename_i t' a
  unfold aAssert at *
  simp only at h ⊢
  have hb := (gate_of h).1
  rw [gate_true hb]
  simp only [Bool.and_eq_true] at hb
  have h0 := beq_eq hb.1
  subst h0
  have h2 := of_tconc hD hb.2
  unfold Rel at hx
  obtain ⟨w, rfl, hr⟩ := hx
  unfold Program.concrete at h2
  cases hd : P.underlying t' with
  | none => simp [hd] at h2
  | some d =>
    have hrun : (Instr.typeAssert (.iface t' w) t t' ok).run P c.w = .ok (if ok = true then .tuple #[w, .bool true] else w) c.w := by
      cases d <;> first | (simp [hd] at h2; done) | (simp [Instr.typeAssert, run_underlying' hd])
    refine ⟨_, hrun, ?_⟩
    cases ok with
    | false => exact hr
    | true =>
      simp only [if_true]
      unfold Rel
      refine ⟨[w, .bool true], rfl, ?_⟩
      unfold RelL
      refine ⟨w, [.bool true], rfl, hr, ?_⟩
      unfold RelL
      exact ⟨.bool true, [], rfl, rel_bool.2 rfl, by unfold RelL; rfl⟩
def aMM (mx : Bool) (x y : AV) : AR := match x with
  | .fz (.int k) a => match aInt y with
    | some b => match mx with
      | true => (none, .fz (.int k) (max a b))
      | false => (none, .fz (.int k) (min a b))
    | none => no
  | _ => no
def aFold (mx : Bool) : AV → List AV → AR
  | x, [] => (none, x)
  | x, y :: r => (andC (aMM mx x y).1 (aFold mx (aMM mx x y).2 r).1, (aFold mx (aMM mx x y).2 r).2)
theorem max_if (a b : Int) : (if a < b then b else a) = max a b := by split <;> omega
theorem min_if (a b : Int) : (if b < a then b else a) = min a b := by split <;> omega
theorem aMM_sound {P : Program} {c : Cx} {mx : Bool} {x y : AV} {v w : Value} (hx : Rel c x v) (hy : Rel c y w) (h : Hold (aMM mx x y).1) :
    ∃ r, ((if mx = true then Builtin.max2 v w else Builtin.min2 v w).run P c.w = .ok r c.w) ∧ Rel c (aMM mx x y).2 r := by
  unfold aMM at *
  cases x <;> try exact False.elim h
  rename_i u a
  cases u <;> try exact False.elim h
  rename_i k
  simp only at h ⊢
  cases hn : aInt y with
  | none => rw [hn] at h; exact False.elim h
  | some b =>
    obtain ⟨k', rfl⟩ := aInt_of hn hy
    obtain rfl := rel_int.1 hx
    simp only
    cases mx with
    | true => exact ⟨.int k (if a < b then b else a), by simp [Builtin.max2], rel_int.2 (by rw [max_if])⟩
    | false => exact ⟨.int k (if b < a then b else a), by simp [Builtin.min2], rel_int.2 (by rw [min_if])⟩
theorem aFold_sound {P : Program} {c : Cx} {mx : Bool} : ∀ (l : List AV) (vs : List Value) (x : AV) (v : Value), Rel c x v → RelL c l vs → Hold (aFold mx x l).1 →
    ∃ r, ((vs.foldlM (if mx = true then Builtin.max2 else Builtin.min2) v).run P c.w = .ok r c.w) ∧ Rel c (aFold mx x l).2 r
  | [], vs, x, v, hx, hl, _ => by
    unfold RelL at hl; subst hl
    exact ⟨v, by simp, hx⟩
  | y :: l, vs, x, v, hx, hl, h => by
    unfold RelL at hl
    obtain ⟨w, r, rfl, h1, h2⟩ := hl
    have hc := andC_of h
    obtain ⟨r1, k1, k2⟩ := aMM_sound (P := P) hx h1 hc.1
    obtain ⟨r2, k3, k4⟩ := aFold_sound l r _ r1 k2 h2 hc.2
    refine ⟨r2, ?_, k4⟩
    simp only [List.foldlM_cons, Sem.run_bind]
    have e : (if mx = true then Builtin.max2 else Builtin.min2) v w = (if mx = true then Builtin.max2 v w else Builtin.min2 v w) := by cases mx <;> rfl
    rw [e, k1]; exact k3
end Go.Ab
/-
  Cells of values; structs built.
-/
namespace Go.Ab
open Go
def cavN (f : Nat → List AV) : Nat → List AV
  | 0 => []
  | n + 1 => cavN f n ++ f n
def Ty.cav : (t : Ty) → t.den → List AV
  | .one a, x => a.cav x
  | .pair a b, x => a.cav x.1 ++ b.cav x.2
  | .arr n e, x => cavN (fun i => e.cav (List.getD x i e.dft)) n
  | t, x => [.fz t x]
def acells : AV → List AV
  | .agg vs => vs
  | .fz t x => t.cav x
  | v => [v]
/-- fits one cell -/
def AV.one : AV → Bool
  | .fz t _ => !t.isAgg
  | .agg _ | .tup _ | .opt _ _ | .unk => false
  | .ref _ _ _ | .ptr _ _ | .elt _ _ _ | .nilSl | .fptr _ _ | .glob _ | .fn _ _ | .ifc _ _ => true
/-- a token that is dead tells nothing -/
def AV.sure (A : List AO) : AV → Bool
  | .ref tok _ _ => match A[tok]? with | some (.row _ _) => true | _ => false
  | .ptr tok _ => match A[tok]? with | some (.box _) => true | _ => false
  | .elt tok _ _ => match A[tok]? with | some (.row _ _) => true | _ => false
  | _ => true
theorem cav_sound {c : Cx} : ∀ (t : Ty) (x : t.den) (cs : List Value), FzC c.I c.w t x cs → RelL c (t.cav x) cs := by
  have base : ∀ (t : Ty) (x : t.den) (cs : List Value), t.isAgg = false → FzC c.I c.w t x cs → RelL c [.fz t x] cs := by
    intro t x cs ha h
    have hl := h.len
    rw [isAgg_size ha] at hl
    match cs, hl with
    | [v], _ =>
      unfold RelL
      refine ⟨v, [], rfl, ?_, by unfold RelL; rfl⟩
      have := rel_fz_mk h
      unfold valOf at this; rw [if_neg (by simp [ha])] at this
      exact this
  intro t
  induction t with
  | one a ih => intro x cs h; exact ih x cs h
  | pair a b iha ihb =>
    intro x cs h
    obtain ⟨l, r, rfl, h1, h2⟩ := h
    exact RelL.append _ _ _ _ (iha _ _ h1) (ihb _ _ h2)
  | arr n e ih =>
    intro x cs h
    obtain ⟨hl, css, hn, rfl, hall⟩ := h
    show RelL c (cavN (fun i => e.cav (List.getD x i e.dft)) n) css.flatten
    have key : ∀ m, m ≤ n → RelL c (cavN (fun i => e.cav (List.getD x i e.dft)) m) (css.take m).flatten := by
      intro m
      induction m with
      | zero => intro _; unfold cavN RelL; rfl
      | succ m ihm =>
        intro hm
        have h0 := ihm (by omega)
        have hm' : m < List.length x := by omega
        have h1 := ih _ _ (hall m hm')
        rw [List.take_succ_eq_append_getElem (by omega), List.flatten_append]
        unfold cavN
        refine RelL.append _ _ _ _ h0 ?_
        have e1 : List.getD x m e.dft = x[m] := getD_of_lt hm'
        have e2 : css.getD m [] = css[m] := getD_of_lt (by omega)
        rw [e1]
        rw [e2] at h1
        simpa using h1
    have := key n (Nat.le_refl _)
    rw [← hn, List.take_length] at this
    rw [hn] at this; exact this
  | int k | bool | str | flt k | raw | list e => intro x cs h; exact base _ x cs rfl h
theorem one_ocell {c : Cx} {a : AV} {v : Value} (ho : a.one = true) (hs : a.sure c.A = true) (h : Rel c a v) : ocell v = true := by
  cases a <;> try (cases ho; done)
  case fz t x =>
    have ha : t.isAgg = false := by simpa [AV.one] using ho
    unfold Rel at h
    obtain ⟨cs, h1, rfl⟩ := h
    have hl := h1.len
    rw [isAgg_size ha] at hl
    have h2 := h1.cells1
    match cs, hl with
    | [v], _ => unfold valOf; rw [if_neg (by simp [ha])]; exact h2 v (by simp)
  case fptr t x => unfold Rel at h; obtain ⟨b, o, cs, rfl, _⟩ := h; rfl
  case ref tok off len =>
    unfold Rel at h; unfold AV.sure at hs; simp only at hs
    cases ht : c.A[tok]? with
    | none => rw [ht] at h; exact False.elim h
    | some o =>
      rw [ht] at h hs
      cases o <;> try (cases hs; done)
      rcases h with ⟨b, cap, cs, et, a, _, rfl, _⟩ | ⟨_, _, _, rfl⟩ <;> rfl
  case nilSl => unfold Rel at h; subst h; rfl
  case ptr tok off =>
    unfold Rel at h; unfold AV.sure at hs; simp only at hs
    cases ht : c.A[tok]? with
    | none => rw [ht] at h; exact False.elim h
    | some o =>
      rw [ht] at h hs
      cases o <;> try (cases hs; done)
      obtain ⟨b, _, rfl⟩ := h; rfl
  case elt tok i off =>
    unfold Rel at h; unfold AV.sure at hs; simp only at hs
    cases ht : c.A[tok]? with
    | none => rw [ht] at h; exact False.elim h
    | some o =>
      rw [ht] at h hs
      cases o <;> try (cases hs; done)
      obtain ⟨b, _, rfl⟩ := h; rfl
  case glob g => unfold Rel at h; subst h; rfl
  case fn f l => unfold Rel at h; obtain ⟨vs, rfl, _⟩ := h; rfl
  case ifc t a => unfold Rel at h; obtain ⟨u, rfl, _⟩ := h; rfl
/-- all cells are known -/
def goodC (A : List AO) (l : List AV) : Bool := l.all fun a => a.one && a.sure A
theorem goodC_ocell {c : Cx} : ∀ (l : List AV) (vs : List Value), goodC c.A l = true → RelL c l vs → ∀ v ∈ vs, ocell v = true
  | [], vs, _, h => by unfold RelL at h; subst h; intro v hv; cases hv
  | a :: l, vs, hg, h => by
    unfold RelL at h
    obtain ⟨v, r, rfl, h1, h2⟩ := h
    unfold goodC at hg
    simp only [List.all_cons, Bool.and_eq_true] at hg
    intro u hu
    rcases List.mem_cons.1 hu with rfl | hu
    · exact one_ocell hg.1.1 hg.1.2 h1
    · exact goodC_ocell l r hg.2 h2 u hu
theorem ocell_cells {v : Value} (h : ocell v = true) : v.cells = #[v] := by cases v <;> first | rfl | cases h
theorem cells_sound {c : Cx} {a : AV} {v : Value} (hg : goodC c.A (acells a) = true) (h : Rel c a v) : RelL c (acells a) v.cells.toList := by
  have single : a.one = true → a.sure c.A = true → RelL c [a] v.cells.toList := by
    intro h1 h2
    rw [ocell_cells (one_ocell h1 h2 h)]
    unfold RelL
    exact ⟨v, [], rfl, h, by unfold RelL; rfl⟩
  cases a
  case agg vs => unfold Rel at h; obtain ⟨us, rfl, hr⟩ := h; simpa [Value.cells, acells] using hr
  case fz t x =>
    unfold Rel at h
    obtain ⟨cs, h1, rfl⟩ := h
    rw [valOf_cells h1]
    exact cav_sound t x cs h1
  all_goals (
    unfold goodC acells at hg
    simp only [List.all_cons, List.all_nil, Bool.and_true, Bool.and_eq_true] at hg
    exact single hg.1 hg.2)
/-! ### built -/
def setRange {α : Type} (l : List α) (off : Nat) (vs : List α) : List α := l.take off ++ vs ++ l.drop (off + vs.length)
def fits (A : List AO) (l : List AV) (sz off n : Nat) : Bool := goodC A l && (Nat.beq l.length sz && Nat.ble (off + sz) n)
theorem fits_of {A : List AO} {l : List AV} {sz off n : Nat} (h : fits A l sz off n = true) : goodC A l = true ∧ l.length = sz ∧ off + sz ≤ n := by
  unfold fits at h
  simp only [Bool.and_eq_true] at h
  exact ⟨h.1, beq_eq h.2.1, Nat.le_of_ble_eq_true h.2.2⟩
def aFill (pl : Nat → Option (Nat × Nat)) (A : List AO) : List AV → List (Nat × AV) → Option (List AV)
  | cells, [] => some cells
  | cells, (i, v) :: rest => match pl i with
    | none => none
    | some (off, sz) => match fits A (acells v) sz off cells.length with
      | true => aFill pl A (setRange cells off (acells v)) rest
      | false => none
def Z.av : Z → AV
  | .int k => .fz (.int k) (0 : Int)
  | .bool => .fz .bool false
  | .str => .fz .str ByteArray.empty
  | .flt k => .fz (.flt k) (0 : Nat)
  | .nilSl => .nilSl
  | .nilI => .fz .raw .nilIface
  | .nilF => .fz .raw .nilFunc
  | .nilP => .fz .raw (.pointer none)
  | .nilM => .fz .raw (.map none)
theorem Z.rel (c : Cx) (z : Z) : Rel c z.av z.val := by
  cases z
  · exact rel_int.2 rfl
  · exact rel_bool.2 rfl
  · exact rel_str.2 rfl
  · exact rel_flt.2 rfl
  · unfold Z.av Rel; rfl
  · exact (rel_raw rfl).2 rfl
  · exact (rel_raw rfl).2 rfl
  · exact (rel_raw rfl).2 rfl
  · exact (rel_raw rfl).2 rfl
theorem relL_zs (c : Cx) : ∀ zs : List Z, RelL c (zs.map Z.av) (zs.map Z.val)
  | [] => by simp only [List.map_nil]; unfold RelL; rfl
  | z :: zs => by
    simp only [List.map_cons]; unfold RelL
    exact ⟨_, _, rfl, z.rel c, relL_zs c zs⟩
def tzero (D : Tab) (t : TypeId) : Option (List AV) := match tlook D t with
  | some i => match i.z with
    | [] => none
    | z :: zs => some (z.av :: zs.map Z.av)
  | none => none
theorem tzero_sound {P : Program} {D : Tab} (hD : TabOk P D) {t : TypeId} {z : List AV} (h : tzero D t = some z) (c : Cx) : ∃ zv, (zeroValue t).run P c.w = .ok zv c.w ∧ RelL c z zv.cells.toList := by
  unfold tzero at h
  cases hi : tlook D t with
  | none => rw [hi] at h; cases h
  | some e =>
    rw [hi] at h
    simp only at h
    cases hz : e.z with
    | nil => rw [hz] at h; cases h
    | cons z0 zs =>
      rw [hz] at h
      cases h
      obtain ⟨i, d, h1, _, _, _, h5, _⟩ := tlook_info hD hi
      cases hv : i.zero with
      | none => rw [hv, hz] at h5; cases h5
      | some v =>
        rw [hv, hz] at h5
        refine ⟨v, by simp [zeroValue, typeInfo, h1, hv], ?_⟩
        rw [zsAre_map h5]
        exact relL_zs c (z0 :: zs)
theorem setRange_rel {c : Cx} {l : List AV} {vs : List Value} {off : Nat} {a : List AV} {u : List Value} (h : RelL c l vs) (h' : RelL c a u) : RelL c (setRange l off a) (setRange vs off u) := by
  have hl := h'.length
  unfold setRange
  rw [hl]
  refine RelL.append _ _ _ _ (RelL.append _ _ _ _ ?_ h') ?_
  · refine RelL.of_get _ _ (by simp [h.length]) (fun i a v h1 h2 => ?_)
    rw [List.getElem?_take] at h1 h2
    split at h1
    · rename_i hi; rw [if_pos hi] at h2
      obtain ⟨v', e1, e2⟩ := h.get _ _ _ _ h1
      rw [e1] at h2; cases h2; exact e2
    · cases h1
  · refine RelL.of_get _ _ (by simp [h.length]) (fun i a v h1 h2 => ?_)
    rw [List.getElem?_drop] at h1 h2
    obtain ⟨v', e1, e2⟩ := h.get _ _ _ _ h1
    rw [e1] at h2; cases h2; exact e2
theorem fold_set (u : List Value) : ∀ (off k : Nat) (cs : Array Value), off + k + u.length ≤ cs.size →
    ((u.zipIdx k).foldl (fun cs (x : Value × Nat) => cs.setIfInBounds (off + x.2) x.1) cs).toList = setRange cs.toList (off + k) u := by
  induction u with
  | nil => intro off k cs h; simp [setRange]
  | cons v u ih =>
    intro off k cs h
    simp only [List.zipIdx_cons, List.foldl_cons]
    simp at h
    rw [ih off (k + 1) _ (by simp; omega)]
    unfold setRange
    simp only [Array.toList_setIfInBounds, List.length_cons]
    have e1 : (cs.toList.set (off + k) v).take (off + (k + 1)) = cs.toList.take (off + k) ++ [v] := by
      rw [show off + (k + 1) = off + k + 1 by omega, List.take_succ_eq_append_getElem (by simp; omega), List.take_set_of_le (Nat.le_refl _)]
      simp
    have e2 : (cs.toList.set (off + k) v).drop (off + (k + 1) + u.length) = cs.toList.drop (off + k + (u.length + 1)) := by
      rw [List.drop_set_of_lt (by omega)]; congr 1; omega
    rw [e1, e2]; simp
theorem aFill_sound {c : Cx} {pl : Nat → Option (Nat × Nat)} : ∀ (ps : List (Nat × AV)) (vs : List (Nat × Value)) (cells : List AV) (cs : Array Value) (r : List AV), ps.length = vs.length →
    (∀ (i : Nat) a v, ps[i]? = some a → vs[i]? = some v → a.1 = v.1 ∧ Rel c a.2 v.2) → RelL c cells cs.toList → aFill pl c.A cells ps = some r → ∃ cs', Instr.fill pl cs vs = some cs' ∧ RelL c r cs'.toList
  | [], vs, cells, cs, r, hl, _, hr, h => by
    have : vs = [] := List.eq_nil_of_length_eq_zero (by simpa using hl.symm)
    subst this
    unfold aFill at h; cases h
    exact ⟨cs, rfl, hr⟩
  | (i, a) :: ps, [], _, _, _, hl, _, _, _ => by simp at hl
  | (i, a) :: ps, (j, v) :: vs, cells, cs, r, hl, hall, hr, h => by
    obtain ⟨e1, e2⟩ := hall 0 _ _ rfl rfl
    simp at e1 e2
    subst e1
    unfold aFill at h
    cases hp : pl i with
    | none => rw [hp] at h; cases h
    | some os =>
      obtain ⟨off, sz⟩ := os
      rw [hp] at h
      simp only at h
      split at h
      · rename_i hc
        obtain ⟨g1, g2, g3⟩ := fits_of hc
        have hcs := cells_sound g1 e2
        have hlen := hcs.length
        have hcl := hr.length
        have hsz : v.cells.size = sz := by rw [← g2, ← hlen]; simp
        have hcz : cs.size = cells.length := by rw [← hcl]; simp
        obtain ⟨cs', k1, k2⟩ := aFill_sound ps vs _ ((v.cells.zipIdx.foldl (fun cs (x : Value × Nat) => cs.setIfInBounds (off + x.2) x.1) cs)) r (by simpa using hl)
          (fun i a v h1 h2 => hall (i + 1) a v (by simpa using h1) (by simpa using h2)) (by
            have := fold_set v.cells.toList off 0 cs (by simp; omega)
            rw [← Array.foldl_toList]
            simp only [Array.toList_zipIdx]
            rw [Nat.add_zero] at this
            rw [this]
            exact setRange_rel hr hcs) h
        refine ⟨cs', ?_, k2⟩
        unfold Instr.fill
        simp only [hp]
        rw [if_neg (by simp; omega)]
        exact k1
      · cases h
def tplaces (D : Tab) (t : TypeId) : Option (List (Nat × Nat)) := match tlook D t with
  | some i => match i.d with
    | .struct fs => some (fs.map fun f => (f.1, tsz D f.2))
    | _ => none
  | none => none
def allPos : List (Nat × Nat) → Bool
  | [] => true
  | x :: l => Nat.blt 0 x.2 && allPos l
def aBuild (D : Tab) (A : List AO) (t : TypeId) (ps : List (Nat × AV)) : AR :=
  match tplaces D t, tzero D t with
  | some pl, some z => match aFill (fun i => pl[i]?) A z ps with
    | some r => gate (allPos pl) (none, .agg r)
    | none => no
  | _, _ => no
theorem allPos_of : ∀ {l : List (Nat × Nat)}, allPos l = true → ∀ x ∈ l, 0 < x.2
  | [], _, x, hx => by cases hx
  | y :: l, h, x, hx => by
    unfold allPos at h
    simp only [Bool.and_eq_true] at h
    rcases List.mem_cons.1 hx with rfl | hx
    · exact blt_of h.1
    · exact allPos_of h.2 x hx
theorem of_tplaces {P : Program} {D : Tab} (hD : TabOk P D) {t : TypeId} {pl : List (Nat × Nat)} (h : tplaces D t = some pl) : ∃ fs : Array Field, P.underlying t = some (.struct fs) ∧ pl = fs.toList.map fun f => (f.offset, tsz D f.type) := by
  unfold tplaces at h
  cases hi : tlook D t with
  | none => rw [hi] at h; cases h
  | some e =>
    rw [hi] at h
    obtain ⟨i, d, _, h2, _, h4, _⟩ := tlook_info hD hi
    simp only at h
    cases hd : e.d <;> rw [hd] at h h4 <;> try (cases h; done)
    cases d <;> try (cases h4; done)
    rename_i l fs
    simp only [tiIs, decide_eq_true_eq] at h4
    cases h
    refine ⟨fs, h2, ?_⟩
    rw [← h4]; simp
theorem run_mapM {α β : Type} {P : Program} {w : World} {f : α → Sem β} {g : α → β} : ∀ (l : List α), (∀ x ∈ l, (f x).run P w = .ok (g x) w) → (l.mapM f).run P w = .ok (l.map g) w
  | [], _ => by simp
  | a :: l, h => by
    have ih := run_mapM (f := f) (g := g) l (fun x hx => h x (List.mem_cons_of_mem _ hx))
    simp [List.mapM_cons, h a (List.mem_cons_self ..), ih]
theorem aBuild_sound {P : Program} {D : Tab} (hD : TabOk P D) {c : Cx} {t : TypeId} {ps : List (Nat × AV)} {vs : Array (Nat × Value)} (hl : ps.length = vs.toList.length)
    (hall : ∀ (i : Nat) a v, ps[i]? = some a → vs.toList[i]? = some v → a.1 = v.1 ∧ Rel c a.2 v.2) (h : Hold (aBuild D c.A t ps).1) :
    ∃ r, (Instr.build t vs).run P c.w = .ok r c.w ∧ Rel c (aBuild D c.A t ps).2 r := by
  unfold aBuild at *
  cases hp : tplaces D t with
  | none => rw [hp] at h; exact False.elim h
  | some pl =>
    cases hz : tzero D t with
    | none => rw [hp, hz] at h; exact False.elim h
    | some z =>
      rw [hp, hz] at h
      simp only at h ⊢
      cases hf : aFill (fun i => pl[i]?) c.A z ps with
      | none => rw [hf] at h; exact False.elim h
      | some r =>
        rw [hf] at h
        simp only at h ⊢
        have hb := (gate_of h).1
        rw [gate_true hb]
        obtain ⟨fs, hu, rfl⟩ := of_tplaces hD hp
        obtain ⟨zv, hzr, hzrel⟩ := tzero_sound hD hz c
        obtain ⟨cs', k1, k2⟩ := aFill_sound ps vs.toList _ zv.cells r hl hall hzrel hf
        refine ⟨.agg cs', ?_, by unfold Rel; exact ⟨cs'.toList, by simp, k2⟩⟩
        have hm : (fs.toList.mapM fun f => do pure (f.offset, ← sizeOf f.type) : Sem (List (Nat × Nat))).run P c.w = .ok (fs.toList.map fun f => (f.offset, tsz D f.type)) c.w := by
          refine run_mapM _ (fun f hf => ?_)
          have := allPos_of hb (f.offset, tsz D f.type) (List.mem_map.2 ⟨f, hf, rfl⟩)
          simp [run_sizeOf hD rfl this]
        have hm' : (fs.mapM fun f => do pure (f.offset, ← sizeOf f.type) : Sem (Array (Nat × Nat))).run P c.w = .ok (fs.toList.map fun f => (f.offset, tsz D f.type)).toArray c.w := by
          rw [Array.mapM_eq_mapM_toList, Sem.run_map, hm]; rfl
        unfold Instr.build
        simp only [Sem.run_bind, hzr, Result.andThen_ok, run_underlying' hu, hm']
        have hpl : (fun (i : Nat) => (List.map (fun f => (f.offset, tsz D f.type)) fs.toList).toArray[i]?) = (fun (i : Nat) => (List.map (fun f => (f.offset, tsz D f.type)) fs.toList)[i]?) := by
          funext i; simp
        rw [hpl, k1]
        rfl
/-! ### pointers and nil -/
def tptr (D : Tab) (t : TypeId) : Bool := match tlook D t with
  | some i => match i.d with
    | .ptr _ => true
    | _ => false
  | none => false
theorem of_tptr {P : Program} {D : Tab} (hD : TabOk P D) {t : TypeId} (h : tptr D t = true) : ∃ e, P.underlying t = some (.pointer e) := by
  unfold tptr at h
  cases hi : tlook D t with
  | none => rw [hi] at h; cases h
  | some x =>
    rw [hi] at h
    obtain ⟨i, d, _, h2, _, h4, _⟩ := tlook_info hD hi
    simp only at h
    cases hd : x.d <;> rw [hd] at h h4 <;> try (cases h; done)
    cases d <;> try (cases h4; done)
    exact ⟨_, h2⟩
def isNilP (A : List AO) : AV → Option Bool
  | .fz .raw (.pointer none) => some true
  | .fptr _ _ => some false
  | .ptr tok _ => match A[tok]? with
    | some (.box _) => some false
    | _ => none
  | .elt tok _ _ => match A[tok]? with
    | some (.row _ _) => some false
    | _ => none
  | _ => none
def isNilPC : Operand → Bool
  | .const (.pointer none) => true
  | _ => false
def aBinP (D : Tab) (A : List AO) (op : BinOp) (t : TypeId) (x : AV) : AR :=
  match isNilP A x, op with
  | some b, .eql => gate (tptr D t) (none, .fz .bool b)
  | some b, .neq => gate (tptr D t) (none, .fz .bool (!b))
  | _, _ => no
theorem isNilP_val {c : Cx} {x : AV} {v : Value} {b : Bool} (hx : Rel c x v) (h : isNilP c.A x = some b) : (b = true ∧ v = .pointer none) ∨ (b = false ∧ ∃ a, v = .pointer (some a)) := by
  unfold isNilP at h
  split at h
  · cases h; exact .inl ⟨rfl, (rel_raw_of hx).1⟩
  · cases h; unfold Rel at hx; obtain ⟨b, off, cs, h1, _⟩ := hx; exact .inr ⟨rfl, _, h1⟩
  · unfold Rel at hx
    split at h
    · rename_i hA; cases h; rw [hA] at hx; obtain ⟨b, _, h2⟩ := hx; exact .inr ⟨rfl, _, h2⟩
    · cases h
  · unfold Rel at hx
    split at h
    · rename_i hA; cases h; rw [hA] at hx; obtain ⟨b, _, h2⟩ := hx; exact .inr ⟨rfl, _, h2⟩
    · cases h
  · cases h
theorem aBinP_sound {P : Program} {D : Tab} (hD : TabOk P D) {c : Cx} {op : BinOp} {t : TypeId} {x y : Operand} {a : AV} {v : Value} (hx : Rel c a v) (h : Hold (aBinP D c.A op t a).1) :
    ∃ r, (do eqGuard op t x y v (.pointer none); binOp op t v (.pointer none) : Sem Value).run P c.w = .ok r c.w ∧ Rel c (aBinP D c.A op t a).2 r := by
  unfold aBinP at *
  cases hn : isNilP c.A a with
  | none => rw [hn] at h; exact False.elim h
  | some b =>
    rw [hn] at h
    have hv := isNilP_val hx hn
    have hg : (eqGuard op t x y v (.pointer none)).run P c.w = .ok () c.w := by
      unfold eqGuard
      rcases hv with ⟨_, rfl⟩ | ⟨_, a', rfl⟩ <;> cases op <;> simp
    have heq : tptr D t = true → (Op.equal t v (.pointer none)).run P c.w = .ok b c.w := by
      intro hp
      obtain ⟨e, hu⟩ := of_tptr hD hp
      unfold Op.equal Op.maxDepth
      rw [show (10000 : Nat) = 9999 + 1 from rfl]
      unfold Op.equalIn
      rcases hv with ⟨rfl, rfl⟩ | ⟨rfl, a', rfl⟩
      · simp [run_underlying' hu]
      · simp [run_underlying' hu]
    cases op <;> try exact False.elim h
    · simp only at h ⊢
      obtain ⟨hgb, _⟩ := gate_of h
      rw [gate_true hgb]
      refine ⟨.bool b, ?_, rel_bool.2 rfl⟩
      rcases hv with ⟨rfl, rfl⟩ | ⟨rfl, a', rfl⟩ <;> simp [hg, binOp, heq hgb]
    · simp only at h ⊢
      obtain ⟨hgb, _⟩ := gate_of h
      rw [gate_true hgb]
      refine ⟨.bool (!b), ?_, rel_bool.2 rfl⟩
      rcases hv with ⟨rfl, rfl⟩ | ⟨rfl, a', rfl⟩ <;> simp [hg, binOp, heq hgb]
end Go.Ab
/-
  All operations that only look.
-/
namespace Go.Ab
open Go
def aCall (D : Tab) (A : List AO) (T : List (Nat × AV)) (c : Call) : AR :=
  match c.callee, c.args.toList with
  | .builtin .len, [x] => match c.argTypes[0]? with
    | some t => aLen D A t (ev T x)
    | none => no
  | .builtin .min, x :: l => aFold false (ev T x) (l.map (ev T))
  | .builtin .max, x :: l => aFold true (ev T x) (l.map (ev T))
  | _, _ => no
def apure (D : Tab) (G : List (Nat × Value)) (A : List AO) (T : List (Nat × AV)) : Op → AR
  | .move x => yes (ev T x)
  | .assign x => yes (ev T x)
  | .pick c a b => aPick (ev T c) (ev T a) (ev T b)
  | .field t x f => aField D t f (ev T x)
  | .fieldAddr t x f => aFieldAddr D A t f (ev T x)
  | .indexAddr t x i => aIndexAddr D A t (ev T x) (ev T i)
  | .index t x i => aIndex D t (ev T x) (ev T i)
  | .load t x => aLoad D G A t (ev T x)
  | .binOp op t x y _ => (match isNilC y with | true => aBinNil D op t (ev T x) | false => (match isNilPC y with | true => aBinP D A op t (ev T x) | false => aBin D op t (ev T x) (ev T y)))
  | .unOp op _ x => aUn op (ev T x)
  | .convert s d x => aConv D s d (ev T x)
  | .extract x i => aExtract i (ev T x)
  | .makeInterface t x => aMkI D t (ev T x)
  | .makeFunc (.func f) ⟨[]⟩ caps => yes (.fn f (caps.toList.map (ev T)))
  | .build t ps => aBuild D A t (ps.toList.map fun p => (p.1, ev T p.2))
  | .slice t x lo hi none => aSlice D A t (ev T x) (lo.map (ev T)) (hi.map (ev T))
  | .nilCheck x => aNilCheck A (ev T x)
  | .typeAssert x _ u ok => aAssert D u ok (ev T x)
  | .call c => aCall D A T c
  | _ => no
theorem aBin_sound {P : Program} {D : Tab} (hD : TabOk P D) {c : Cx} {op : BinOp} {t : TypeId} {ox oy : Operand} {x y : AV} {v w : Value} (hx : Rel c x v) (hy : Rel c y w) (h : Hold (aBin D op t x y).1) :
    ∃ r, (do eqGuard op t ox oy v w; binOp op t v w : Sem Value).run P c.w = .ok r c.w ∧ Rel c (aBin D op t x y).2 r := by
  cases x <;> try exact False.elim h
  rename_i u a
  cases y <;> try (cases u <;> exact False.elim h)
  rename_i u' b
  cases u <;> cases u' <;> try exact False.elim h
  · obtain rfl := rel_int.1 hx
    obtain rfl := rel_int.1 hy
    exact aBinI_sound h
  · obtain rfl := rel_bool.1 hx
    obtain rfl := rel_bool.1 hy
    exact aBinB_sound hD h
  · obtain rfl := rel_str.1 hx
    obtain rfl := rel_str.1 hy
    exact aBinS_sound h
theorem mapEv {c : Cx} {T : List (Nat × AV)} {a : Act} : ∀ l : List Operand, (∀ x ∈ l, Rel c (ev T x) (a.eval x)) → RelL c (l.map (ev T)) (l.map a.eval)
  | [], _ => by simp only [List.map_nil]; unfold RelL; rfl
  | x :: l, hT => by
    simp only [List.map_cons]; unfold RelL
    exact ⟨_, _, rfl, hT x (List.mem_cons_self ..), mapEv l (fun y hy => hT y (List.mem_cons_of_mem _ hy))⟩
theorem optEv {c : Cx} {T : List (Nat × AV)} {a : Act} (x : Option Operand) (hT : ∀ y, x = some y → Rel c (ev T y) (a.eval y)) : optVal c (x.map (ev T)) (x.map a.eval) := by
  cases x with
  | none => exact trivial
  | some x => exact hT x rfl
theorem lift_value {P : Program} {w w' : World} {s : Sem Value} {v : Value} (h : s.run P w = .ok v w') : (do pure (Next.value (← s)) : Sem Next).run P w = .ok (.value v) w' := by
  simp [h]
theorem apure_sound {P : Program} {D : Tab} (hD : TabOk P D) {c : Cx} (H : HR c) {T : List (Nat × AV)} {a : Act} {o : Oper} (hT : ∀ x ∈ o.op.operands, Rel c (ev T x) (a.eval x)) (h : Hold (apure D c.G c.A T o.op).1) :
    ∃ v, (execOp a.eval o).run P c.w = .ok (.value v) c.w ∧ Rel c (apure D c.G c.A T o.op).2 v := by
  obtain ⟨dst, op, type, pos, after, guard⟩ := o
  simp only at h ⊢
  unfold apure at *
  cases op <;> try exact False.elim h
  case move x => exact ⟨_, rfl, hT x (by simp [Op.operands])⟩
  case assign x => exact ⟨_, rfl, hT x (by simp [Op.operands])⟩
  case pick x a' b =>
    obtain ⟨r, h1, h2⟩ := aPick_sound (P := P) (hT x (by simp [Op.operands])) (hT a' (by simp [Op.operands])) (hT b (by simp [Op.operands])) h
    refine ⟨r, ?_, h2⟩
    have h1' : ((asBool (a.eval x)).run P c.w).andThen (fun b' w' => (Result.ok (if b' = true then a.eval a' else a.eval b) w' : Result Value)) = .ok r c.w := by simpa using h1
    unfold execOp
    simp only [Sem.run_bind]
    cases hb : (asBool (a.eval x)).run P c.w with
    | ok b' w' => rw [hb] at h1'; simp at h1' ⊢; exact ⟨h1'.1, h1'.2⟩
    | halt e w' => rw [hb] at h1'; simp at h1'
  case field t x f =>
    obtain ⟨r, h1, h2⟩ := aField_sound hD (hT x (by simp [Op.operands])) h
    exact ⟨r, lift_value h1, h2⟩
  case fieldAddr t x f =>
    obtain ⟨r, h1, h2⟩ := aFieldAddr_sound hD (hT x (by simp [Op.operands])) h
    exact ⟨r, lift_value h1, h2⟩
  case indexAddr t x i =>
    obtain ⟨r, h1, h2⟩ := aIndexAddr_sound hD (hT x (by simp [Op.operands])) (hT i (by simp [Op.operands])) h
    exact ⟨r, lift_value h1, h2⟩
  case index t x i =>
    obtain ⟨r, h1, h2⟩ := aIndex_sound hD (hT x (by simp [Op.operands])) (hT i (by simp [Op.operands])) h
    exact ⟨r, lift_value h1, h2⟩
  case load t x =>
    obtain ⟨r, h1, h2⟩ := aLoad_sound hD H (hT x (by simp [Op.operands])) h
    exact ⟨r, lift_value h1, h2⟩
  case binOp op t x y yt =>
    simp only at h ⊢
    cases hn : isNilC y with
    | true =>
      rw [hn] at h
      have hy : y = .const .nilIface := by
        unfold isNilC at hn
        split at hn
        · rfl
        · cases hn
      subst hy
      obtain ⟨r, h1, h2⟩ := aBinNil_sound hD (x := x) (hT x (by simp [Op.operands])) h
      exact ⟨r, lift_value h1, h2⟩
    | false =>
      rw [hn] at h
      simp only at h ⊢
      cases hp : isNilPC y with
      | true =>
        rw [hp] at h
        have hy : y = .const (.pointer none) := by
          unfold isNilPC at hp
          split at hp
          · rfl
          · cases hp
        subst hy
        obtain ⟨r, h1, h2⟩ := aBinP_sound hD (x := x) (y := .const (.pointer none)) (hT x (by simp [Op.operands])) h
        exact ⟨r, lift_value h1, h2⟩
      | false =>
      rw [hp] at h
      obtain ⟨r, h1, h2⟩ := aBin_sound hD (ox := x) (oy := y) (hT x (by simp [Op.operands])) (hT y (by simp [Op.operands])) h
      exact ⟨r, lift_value h1, h2⟩
  case unOp op t x =>
    obtain ⟨r, h1, h2⟩ := aUn_sound hD (hT x (by simp [Op.operands])) h
    exact ⟨r, lift_value h1, h2⟩
  case convert s d x =>
    obtain ⟨r, h1, h2⟩ := aConv_sound hD (hT x (by simp [Op.operands])) h
    exact ⟨r, lift_value h1, h2⟩
  case extract x i =>
    obtain ⟨r, h1, h2⟩ := aExtract_sound hD (hT x (by simp [Op.operands])) h
    exact ⟨r, lift_value h1, h2⟩
  case makeInterface t x =>
    obtain ⟨r, h1, h2⟩ := aMkI_sound hD (hT x (by simp [Op.operands])) h
    exact ⟨r, lift_value h1, h2⟩
  case makeFunc fn first caps =>
    cases fn <;> try exact False.elim h
    rename_i fid
    obtain ⟨l⟩ := first
    cases l with
    | cons x l => exact False.elim h
    | nil =>
      refine ⟨.func (.func fid) #[] (caps.map a.eval), by simp [execOp, Instr.makeFunc], ?_⟩
      unfold yes Rel
      exact ⟨caps.toList.map a.eval, by congr 1; exact Array.ext' (by simp), mapEv caps.toList (fun y hy => hT y (by simp [Op.operands]; simpa using hy))⟩
  case build t ps =>
    obtain ⟨r, h1, h2⟩ := aBuild_sound hD (vs := ps.map fun (i, x) => (i, a.eval x)) (by simp) (fun i p v h1 h2 => by
      simp only [List.getElem?_map, Array.toList_map] at h1 h2
      cases hp : ps.toList[i]? with
      | none => rw [hp] at h1; cases h1
      | some q =>
        rw [hp] at h1 h2
        simp at h1 h2
        rw [← h1, ← h2]
        exact ⟨rfl, hT q.2 (by simp only [Op.operands, List.mem_toArray, List.mem_map]; exact ⟨q, List.mem_of_getElem? hp, rfl⟩)⟩) h
    exact ⟨r, lift_value h1, h2⟩
  case slice t x lo hi mx =>
    cases mx <;> try exact False.elim h
    obtain ⟨r, h1, h2⟩ := aSlice_sound hD (hT x (by simp [Op.operands])) (optEv lo fun y hy => hT y (by simp [Op.operands, hy])) (optEv hi fun y hy => hT y (by simp [Op.operands, hy])) h
    exact ⟨r, lift_value h1, h2⟩
  case nilCheck x =>
    obtain ⟨r, h1, h2⟩ := aNilCheck_sound (P := P) (hT x (by simp [Op.operands])) h
    exact ⟨r, h1, h2⟩
  case typeAssert x t u ok =>
    obtain ⟨r, h1, h2⟩ := aAssert_sound hD (t := t) (hT x (by simp [Op.operands])) h
    exact ⟨r, lift_value h1, h2⟩
  case call cl =>
    obtain ⟨callee, args, argTypes⟩ := cl
    unfold aCall at *
    simp only at h ⊢
    cases callee <;> try exact False.elim h
    rename_i b
    obtain ⟨args⟩ := args
    cases b <;> try exact False.elim h
    case len =>
      cases args with
      | nil => exact False.elim h
      | cons x l =>
        cases l with
        | cons y l => exact False.elim h
        | nil =>
          simp only at h ⊢
          cases ht : argTypes[0]? with
          | none => rw [ht] at h; exact False.elim h
          | some t =>
            rw [ht] at h
            obtain ⟨r, h1, h2⟩ := aLen_sound hD (ty := type) ht (hT x (by simp [Op.operands, Call.operands])) h
            refine ⟨r, ?_, h2⟩
            simpa [execOp, resolve, invoke, builtin] using lift_value h1
    case min =>
      cases args with
      | nil => exact False.elim h
      | cons x l =>
        obtain ⟨r, h1, h2⟩ := aFold_sound (P := P) (mx := false) _ _ _ _ (hT x (by simp [Op.operands, Call.operands])) (mapEv l fun y hy => hT y (by simp [Op.operands, Call.operands, hy])) h
        exact ⟨r, by simpa [execOp, resolve, invoke, builtin, Builtin.min_] using lift_value h1, h2⟩
    case max =>
      cases args with
      | nil => exact False.elim h
      | cons x l =>
        obtain ⟨r, h1, h2⟩ := aFold_sound (P := P) (mx := true) _ _ _ _ (hT x (by simp [Op.operands, Call.operands])) (mapEv l fun y hy => hT y (by simp [Op.operands, Call.operands, hy])) h
        exact ⟨r, by simpa [execOp, resolve, invoke, builtin, Builtin.max_] using lift_value h1, h2⟩
end Go.Ab
