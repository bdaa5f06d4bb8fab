/-
  Abstract states: values and memory told by lists and numbers; what a real state owes to them.
-/
import Derived.WalkKit
import Derived.Laws.BytesString
import Derived.ChangeKeysEq
import Derived.Laws.StructEq
namespace Go.Ab
open Go
def ocell : Value → Bool
  | .agg _ | .tuple _ => false
  | _ => true
/-! ### types of data that nobody writes -/
inductive Ty where
  | int (k : IntKind) | bool | str | flt (k : FloatKind) | raw
  | one (a : Ty) | pair (a b : Ty) | list (e : Ty) | arr (n : Nat) (e : Ty)
  deriving DecidableEq
@[reducible] def Ty.den : Ty → Type
  | .int _ => Int
  | .bool => Bool
  | .str => ByteArray
  | .flt _ => Nat
  | .raw => Value
  | .one a => a.den
  | .pair a b => a.den × b.den
  | .list e => List e.den
  | .arr _ e => List e.den
def Ty.size : Ty → Nat
  | .one a => a.size
  | .pair a b => a.size + b.size
  | .arr n e => n * e.size
  | _ => 1
def Ty.isAgg : Ty → Bool
  | .one _ | .pair _ _ | .arr _ _ => true
  | _ => false
def Ty.dft : (t : Ty) → t.den
  | .int _ => (0 : Int)
  | .bool => false
  | .str => ByteArray.empty
  | .flt _ => (0 : Nat)
  | .raw => Value.nilIface
  | .one a => a.dft
  | .pair a b => (a.dft, b.dft)
  | .list _ => []
  | .arr n e => List.replicate n e.dft
/-- the cells 'vs' hold the datum 'x'; what they lead to lies in blocks of I -/
def FzC (I : Nat → Prop) (w : World) : (t : Ty) → t.den → List Value → Prop
  | .int k, x, vs => vs = [.int k x]
  | .bool, x, vs => vs = [.bool x]
  | .str, x, vs => vs = [.string x]
  | .flt k, x, vs => vs = [.float k x]
  | .raw, x, vs => vs = [x] ∧ ocell x = true
  | .one a, x, vs => FzC I w a x vs
  | .pair a b, x, vs => ∃ l r, vs = l ++ r ∧ FzC I w a x.1 l ∧ FzC I w b x.2 r
  | .list e, x, vs => ∃ p cap, vs = [.slice p (List.length x) cap] ∧ List.length x ≤ cap ∧ ∀ i (h : i < List.length x), ∃ b off cs, p = some ⟨b, off, none⟩ ∧ I b ∧ b < w.heap.size ∧ FzC I w e (x[i]) cs ∧
      ∀ j (hj : j < cs.length), w.cell? ⟨b, off + i * e.size + j, none⟩ = some cs[j]
  | .arr n e, x, vs => List.length x = n ∧ ∃ css : List (List Value), css.length = n ∧ vs = css.flatten ∧ ∀ i (h : i < List.length x), FzC I w e (x[i]) (css.getD i [])
theorem cell_heap {w w' : World} {b : Nat} (h : w'.heap[b]? = w.heap[b]?) (o : Nat) (s : Option Nat) : w'.cell? ⟨b, o, s⟩ = w.cell? ⟨b, o, s⟩ := by
  unfold World.cell?; rw [h]
theorem FzC.mono {I I' : Nat → Prop} {w w' : World} (h : ∀ b, I b → b < w.heap.size → I' b ∧ w'.heap[b]? = w.heap[b]?) :
    ∀ (t : Ty) (x : t.den) (vs : List Value), FzC I w t x vs → FzC I' w' t x vs
  | .int _, _, _, hx => hx
  | .bool, _, _, hx => hx
  | .str, _, _, hx => hx
  | .flt _, _, _, hx => hx
  | .raw, _, _, hx => hx
  | .one a, x, vs, hx => FzC.mono h a x vs hx
  | .pair a b, x, vs, hx => by
    obtain ⟨l, r, e, h1, h2⟩ := hx
    exact ⟨l, r, e, FzC.mono h a _ _ h1, FzC.mono h b _ _ h2⟩
  | .list e, x, vs, hx => by
    obtain ⟨p, cap, he, hle, hall⟩ := hx
    refine ⟨p, cap, he, hle, fun i hi => ?_⟩
    obtain ⟨b, off, cs, hp, hI, hb, hc, hcell⟩ := hall i hi
    obtain ⟨hI', hh⟩ := h b hI hb
    have hb' : b < w'.heap.size := by
      rw [Array.getElem?_eq_getElem hb] at hh
      rcases Nat.lt_or_ge b w'.heap.size with h | h
      · exact h
      · rw [Array.getElem?_eq_none h] at hh; cases hh
    exact ⟨b, off, cs, hp, hI', hb', FzC.mono h e _ _ hc, fun j hj => (cell_heap hh _ _).trans (hcell j hj)⟩
  | .arr n e, x, vs, hx => by
    obtain ⟨hl, css, hn, he, hall⟩ := hx
    exact ⟨hl, css, hn, he, fun i hi => FzC.mono h e _ _ (hall i hi)⟩
theorem flatten_len {n s : Nat} {css : List (List Value)} (hn : css.length = n) (h : ∀ i, i < n → (css.getD i []).length = s) : css.flatten.length = n * s := by
  subst hn
  induction css with
  | nil => simp
  | cons c css ih =>
    have h0 := h 0 (by simp)
    simp at h0
    have := ih (fun i hi => by have := h (i + 1) (by simp; omega); simpa using this)
    simp only [List.flatten_cons, List.length_append, this, h0, List.length_cons, Nat.succ_mul]
    omega
theorem FzC.len {I : Nat → Prop} {w : World} : ∀ (t : Ty) (x : t.den) (vs : List Value), FzC I w t x vs → vs.length = t.size
  | .int _, _, _, hx => by rw [hx]; rfl
  | .bool, _, _, hx => by rw [hx]; rfl
  | .str, _, _, hx => by rw [hx]; rfl
  | .flt _, _, _, hx => by rw [hx]; rfl
  | .raw, _, _, hx => by rw [hx.1]; rfl
  | .one a, x, vs, hx => FzC.len a x vs hx
  | .pair a b, x, vs, hx => by
    obtain ⟨l, r, e, h1, h2⟩ := hx
    rw [e, List.length_append, FzC.len a _ _ h1, FzC.len b _ _ h2]; rfl
  | .list e, x, vs, hx => by obtain ⟨p, cap, he, _⟩ := hx; rw [he]; rfl
  | .arr n e, x, vs, hx => by
    obtain ⟨hl, css, hn, he, hall⟩ := hx
    rw [he]
    exact flatten_len hn (fun i hi => FzC.len e _ _ (hall i (by rw [hl]; exact hi)))
theorem mem_flatten_getD {css : List (List Value)} {v : Value} (h : v ∈ css.flatten) : ∃ i, i < css.length ∧ v ∈ css.getD i [] := by
  obtain ⟨c, hc, hv⟩ := List.mem_flatten.1 h
  obtain ⟨i, hi, rfl⟩ := List.getElem_of_mem hc
  exact ⟨i, hi, by simpa [List.getD, hi] using hv⟩
theorem FzC.cells1 {I : Nat → Prop} {w : World} : ∀ (t : Ty) (x : t.den) (vs : List Value), FzC I w t x vs → ∀ v ∈ vs, ocell v = true
  | .int _, _, _, hx => by rw [hx]; intro v hv; simp at hv; rw [hv]; rfl
  | .bool, _, _, hx => by rw [hx]; intro v hv; simp at hv; rw [hv]; rfl
  | .str, _, _, hx => by rw [hx]; intro v hv; simp at hv; rw [hv]; rfl
  | .flt _, _, _, hx => by rw [hx]; intro v hv; simp at hv; rw [hv]; rfl
  | .raw, _, _, hx => by rw [hx.1]; intro v hv; simp at hv; rw [hv]; exact hx.2
  | .one a, x, vs, hx => FzC.cells1 a x vs hx
  | .pair a b, x, vs, hx => by
    obtain ⟨l, r, e, h1, h2⟩ := hx
    intro v hv
    rw [e, List.mem_append] at hv
    rcases hv with hv | hv
    · exact FzC.cells1 a _ _ h1 v hv
    · exact FzC.cells1 b _ _ h2 v hv
  | .list e, x, vs, hx => by obtain ⟨p, cap, he, _⟩ := hx; rw [he]; intro v hv; simp at hv; rw [hv]; rfl
  | .arr n e, x, vs, hx => by
    obtain ⟨hl, css, hn, he, hall⟩ := hx
    intro v hv
    rw [he] at hv
    obtain ⟨i, hi, hv⟩ := mem_flatten_getD hv
    exact FzC.cells1 e _ _ (hall i (by rw [hl, ← hn]; exact hi)) v hv
/-- the value whose cells these are -/
def valOf (t : Ty) (cs : List Value) : Value := if t.isAgg then .agg cs.toArray else cs.headD .nilIface
theorem valOf_cells {I : Nat → Prop} {w : World} {t : Ty} {x : t.den} {cs : List Value} (h : FzC I w t x cs) : (valOf t cs).cells.toList = cs := by
  have hl := h.len
  have h1 := h.cells1
  unfold valOf
  by_cases ha : t.isAgg = true
  · rw [if_pos ha]; simp [Value.cells]
  · rw [if_neg ha]
    have hs : t.size = 1 := by cases t <;> first | rfl | (exact absurd rfl ha)
    rw [hs] at hl
    match cs, hl with
    | [v], _ =>
      have := h1 v (by simp)
      cases v <;> first | rfl | (simp [ocell] at this)
/-! ### abstract values -/
inductive AV where
  | fz (t : Ty) (x : t.den)
  | fptr (t : Ty) (x : t.den)
  | ref (tok off len : Nat)
  | nilSl
  | ptr (tok off : Nat)
  | elt (tok i off : Nat)
  | glob (g : Nat)
  | agg (vs : List AV)
  | tup (vs : List AV)
  | fn (f : FuncId) (caps : List AV)
  | ifc (t : TypeId) (v : AV)
  | opt (g : Bool) (v : AV)
  | unk
/-- what is known of a map, or of one that goes through a map: numbers alone (the map's block, its clock; keys and stamps in their order; the stamps that have been handed out) -/
inductive MI where
  | map (bm clock : Nat) (ks : List (Nat × Value))
  | iter (bm since : Nat) (seen : List Nat) (last : Nat)
def MI.isIter : MI → Bool
  | .map .. => false
  | .iter .. => true
/-- the value that leads to it -/
def MI.val (b : Nat) : Bool → Value
  | false => .map (some b)
  | true => .pointer (some ⟨b, 0, none⟩)
/-- the object in block b, and the values that it holds -/
def MOk : MI → Nat → Obj → List Value → Prop
  | .map bm clock ks, b, o, us => b = bm ∧ ∃ es : Array MapEntry, o = .map es clock ∧ es.toList.map (fun e => (e.born, e.key)) = ks ∧ es.toList.map (·.val) = us ∧ ∀ e ∈ es.toList, e.born < clock
  | .iter bm since seen last, _, o, us => o = .mapIter (some bm) since seen.toArray last ∧ us = [] ∧ since ≤ last
inductive AO where
  | row (e : Ty) (xs : List e.den)
  | box (vs : List AV)
  | dead
  | room
  | mapo (i : MI) (vs : List AV)
/-- tokens' blocks; what lies behind the tokens; blocks that are another's; the world -/
structure Cx where
  ρ : Nat → Option Nat
  A : List AO
  X : Nat → Prop
  w : World
  G : List (Nat × Value)
def AO.live : AO → Bool
  | .dead => false
  | .room => false
  | _ => true
def Cx.live (c : Cx) (t : Nat) : Prop := ∃ o, c.A[t]? = some o ∧ o.live = true
def Cx.I (c : Cx) (b : Nat) : Prop := ¬ c.X b ∧ ∀ t, c.live t → c.ρ t ≠ some b
mutual
def AV.ok (n : Nat) : AV → Prop
  | .ref tok _ _ | .ptr tok _ | .elt tok _ _ => tok < n
  | .agg l | .tup l | .fn _ l => okL n l
  | .ifc _ a => a.ok n
  | .opt g a => g = true → a.ok n
  | _ => True
def okL (n : Nat) : List AV → Prop
  | [] => True
  | a :: l => a.ok n ∧ okL n l
end
mutual
def Rel (c : Cx) : AV → Value → Prop
  | .fz t x, v => ∃ cs, FzC c.I c.w t x cs ∧ v = valOf t cs
  | .fptr t x, v => ∃ b off cs, v = .pointer (some ⟨b, off, none⟩) ∧ c.I b ∧ b < c.w.heap.size ∧ FzC c.I c.w t x cs ∧ ∀ j (h : j < cs.length), c.w.cell? ⟨b, off + j, none⟩ = some cs[j]
  | .ref tok off len, v => match c.A[tok]? with
    | some (.row e _) => (∃ b cap cs et a, c.ρ tok = some b ∧ v = .slice (some a) len cap ∧ (0 < cap → a = ⟨b, off * e.size, none⟩) ∧ len ≤ cap ∧ c.w.heap[b]? = some (.cells cs et (0, 0)) ∧ (off + cap) * e.size ≤ cs.size) ∨
        (c.ρ tok = none ∧ off = 0 ∧ len = 0 ∧ ∃ p, v = .slice p 0 0)
    | some .room => False
    | some _ => True
    | none => False
  | .nilSl, v => ∃ p, v = .slice p 0 0
  | .ptr tok off, v => match c.A[tok]? with
    | some (.box _) => ∃ b, c.ρ tok = some b ∧ v = .pointer (some ⟨b, off, none⟩)
    | some (.mapo i _) => ∃ b, c.ρ tok = some b ∧ v = MI.val b i.isIter
    | some .dead => True
    | _ => False
  | .elt tok i off, v => match c.A[tok]? with
    | some (.row e _) => ∃ b, c.ρ tok = some b ∧ v = .pointer (some ⟨b, i * e.size + off, none⟩)
    | some .room => False
    | some _ => True
    | none => False
  | .glob g, v => v = .pointer (some ⟨g, 0, none⟩)
  | .agg l, v => ∃ vs : List Value, v = .agg vs.toArray ∧ RelL c l vs
  | .tup l, v => ∃ vs : List Value, v = .tuple vs.toArray ∧ RelL c l vs
  | .fn f l, v => ∃ vs : List Value, v = .func (.func f) #[] vs.toArray ∧ RelL c l vs
  | .ifc t a, v => ∃ u, v = .iface t u ∧ Rel c a u
  | .opt g a, v => (g = true → Rel c a v) ∧ (g = false → v = undef)
  | .unk, _ => True
def RelL (c : Cx) : List AV → List Value → Prop
  | [], vs => vs = []
  | a :: l, vs => ∃ v r, vs = v :: r ∧ Rel c a v ∧ RelL c l r
end
def ObjOk (c : Cx) (r : Option Nat) : AO → Prop
  | .dead => True
  | .room => True
  | .row e xs => (r = none ∧ List.length xs = 0) ∨ ∃ b cs et, r = some b ∧ c.w.heap[b]? = some (.cells cs et (0, 0)) ∧
      ∀ i (h : i < xs.length), ∃ ds, FzC c.I c.w e xs[i] ds ∧ ∀ j (hj : j < ds.length), cs[i * e.size + j]? = some ds[j]
  | .box vs => ∃ b cs et, r = some b ∧ c.w.heap[b]? = some (.cells (List.toArray cs) et (0, 0)) ∧ RelL c vs cs
  | .mapo i vs => ∃ b ob us, r = some b ∧ c.w.heap[b]? = some ob ∧ MOk i b ob us ∧ RelL c vs us
def gk : List (Nat × Value) → Nat → Option Value
  | [], _ => none
  | (m, v) :: G, n => if m = n then some v else gk G n
/-- a known variable of many cells is told as these cells -/
def isTab : Value → Bool
  | .agg _ => true
  | _ => false
theorem isTab_of {v : Value} (h : isTab v = true) : ∃ cs, v = .agg cs := by cases v <;> first | exact ⟨_, rfl⟩ | cases h
/-- a known variable: its cell, and the block that it leads to, stay as they are -/
structure GloOk (c : Cx) (g : Nat) (v : Value) : Prop where
  I : c.I g
  cell : isTab v = false → c.w.cell? ⟨g, 0, none⟩ = some v
  one : isTab v = false → ocell v = true
  tgt : ∀ T a, v = .iface T (.pointer (some a)) → c.I a.block ∧ ∃ cs et, c.w.heap[a.block]? = some (.cells cs et (0, 0))
  tab : ∀ cs, v = .agg cs → ∃ et fr, c.w.heap[g]? = some (.cells cs et fr)
theorem GloOk.lt {c : Cx} {g : Nat} {v : Value} (h : GloOk c g v) : g < c.w.heap.size := by
  rcases Nat.lt_or_ge g c.w.heap.size with h' | h'
  · exact h'
  · cases ht : isTab v with
    | true =>
      obtain ⟨cs, e⟩ := isTab_of ht
      obtain ⟨et, fr, k⟩ := h.tab cs e
      rw [Array.getElem?_eq_none h'] at k; cases k
    | false =>
      have k2 := h.cell ht
      unfold World.cell? at k2
      simp only [Array.getElem?_eq_none h'] at k2; cases k2
theorem GloOk.mono {c c' : Cx} (hm : ∀ b, c.I b → b < c.w.heap.size → c'.I b ∧ c'.w.heap[b]? = c.w.heap[b]?) {g : Nat} {v : Value} (h : GloOk c g v) : GloOk c' g v := by
  obtain ⟨k1, k2⟩ := hm g h.I h.lt
  refine ⟨k1, fun ht => (cell_heap k2 _ _).trans (h.cell ht), h.one, fun T a e => ?_, fun cs e => by rw [k2]; exact h.tab cs e⟩
  obtain ⟨j1, cs, et, j2⟩ := h.tgt T a e
  have hlt : a.block < c.w.heap.size := by
    rcases Nat.lt_or_ge a.block c.w.heap.size with h' | h'
    · exact h'
    · rw [Array.getElem?_eq_none h'] at j2; cases j2
  obtain ⟨l1, l2⟩ := hm a.block j1 hlt
  exact ⟨l1, cs, et, by rw [l2]; exact j2⟩
structure HR (c : Cx) : Prop where
  far : ∀ t b, c.live t → c.ρ t = some b → ¬ c.X b
  inj : ∀ t u b, c.live t → c.live u → c.ρ t = some b → c.ρ u = some b → t = u
  obj : ∀ (t : Nat) o, c.A[t]? = some o → ObjOk c (c.ρ t) o
  old : ∀ b, c.X b → b < c.w.heap.size
  glo : ∀ g v, gk c.G g = some v → GloOk c g v
theorem ObjOk.lt {c : Cx} {o : AO} {b : Nat} (h : ObjOk c (some b) o) (hl : o.live = true) : b < c.w.heap.size := by
  have key : ∀ {ob}, c.w.heap[b]? = some ob → b < c.w.heap.size := fun h => by
    rcases Nat.lt_or_ge b c.w.heap.size with h' | h'
    · exact h'
    · rw [Array.getElem?_eq_none h'] at h; cases h
  cases o with
  | dead => cases hl
  | room => cases hl
  | row e xs =>
    rcases h with ⟨h, _⟩ | ⟨b', cs, et, hb, hh, _⟩
    · cases h
    · cases hb; exact key hh
  | box vs =>
    obtain ⟨b', cs, et, hb, hh, _⟩ := h
    cases hb; exact key hh
  | mapo i vs =>
    obtain ⟨b', ob, us, hb, hh, _⟩ := h
    cases hb; exact key hh
theorem HR.lt {c : Cx} (h : HR c) {t b : Nat} (hl : c.live t) (hr : c.ρ t = some b) : b < c.w.heap.size := by
  obtain ⟨o, ho, hl⟩ := hl
  have := h.obj t o ho
  rw [hr] at this
  exact this.lt hl
theorem get_lt {α : Type} {l : List α} {i : Nat} {x : α} (h : l[i]? = some x) : i < l.length := by
  rcases Nat.lt_or_ge i l.length with h' | h'
  · exact h'
  · rw [List.getElem?_eq_none h'] at h; cases h
mutual
theorem Rel.ok {c : Cx} : ∀ (a : AV) (v : Value), Rel c a v → a.ok c.A.length
  | .fz _ _, _, _ => trivial
  | .fptr _ _, _, _ => trivial
  | .ref tok _ _, _, h => by
    unfold Rel at h; unfold AV.ok
    cases ht : c.A[tok]? with
    | none => rw [ht] at h; exact h.elim
    | some o => exact get_lt ht
  | .nilSl, _, _ => trivial
  | .ptr tok _, _, h => by
    unfold Rel at h; unfold AV.ok
    cases ht : c.A[tok]? with
    | none => rw [ht] at h; exact h.elim
    | some o => exact get_lt ht
  | .elt tok _ _, _, h => by
    unfold Rel at h; unfold AV.ok
    cases ht : c.A[tok]? with
    | none => rw [ht] at h; exact h.elim
    | some o => exact get_lt ht
  | .glob _, _, _ => trivial
  | .agg l, _, h => by unfold Rel at h; obtain ⟨vs, _, h⟩ := h; exact RelL.ok l vs h
  | .tup l, _, h => by unfold Rel at h; obtain ⟨vs, _, h⟩ := h; exact RelL.ok l vs h
  | .fn _ l, _, h => by unfold Rel at h; obtain ⟨vs, _, h⟩ := h; exact RelL.ok l vs h
  | .ifc _ a, _, h => by unfold Rel at h; obtain ⟨u, _, h⟩ := h; exact Rel.ok a u h
  | .opt _ a, v, h => by unfold Rel at h; unfold AV.ok; exact fun hg => Rel.ok a v (h.1 hg)
  | .unk, _, _ => trivial
theorem RelL.ok {c : Cx} : ∀ (l : List AV) (vs : List Value), RelL c l vs → okL c.A.length l
  | [], _, _ => trivial
  | a :: l, vs, h => by
    unfold RelL at h
    obtain ⟨v, r, _, h1, h2⟩ := h
    exact ⟨Rel.ok a v h1, RelL.ok l r h2⟩
end
/-- what a token was, it is, or it is dead -/
def TokLe (c c' : Cx) (tok : Nat) : Prop :=
  match c'.A[tok]? with
  | some (.row e _) => ((∃ xs, c.A[tok]? = some (.row e xs)) ∧ c'.ρ tok = c.ρ tok ∧
      ∀ b cs et, c.ρ tok = some b → c.w.heap[b]? = some (.cells cs et (0, 0)) → ∃ cs', c'.w.heap[b]? = some (.cells cs' et (0, 0)) ∧ cs'.size = cs.size) ∨ c.A[tok]? = some .room
  | some (.box _) => ((∃ vs, c.A[tok]? = some (.box vs)) ∧ c'.ρ tok = c.ρ tok) ∨ (∃ e xs, c.A[tok]? = some (.row e xs)) ∨ c.A[tok]? = some .room
  | some (.mapo i _) => ((∃ j vs, c.A[tok]? = some (.mapo j vs) ∧ j.isIter = i.isIter) ∧ c'.ρ tok = c.ρ tok) ∨ c.A[tok]? = some .room
  | some .dead => True
  | some .room => c.A[tok]? = some .room
  | none => False
structure Le (n : Nat) (c c' : Cx) : Prop where
  I : ∀ b, c.I b → b < c.w.heap.size → c'.I b ∧ c'.w.heap[b]? = c.w.heap[b]?
  tok : ∀ tok, tok < n → TokLe c c' tok
  len : n ≤ c'.A.length
theorem heap_lt {w w' : World} {b : Nat} (hb : b < w.heap.size) (h : w'.heap[b]? = w.heap[b]?) : b < w'.heap.size := by
  rw [Array.getElem?_eq_getElem hb] at h
  rcases Nat.lt_or_ge b w'.heap.size with h' | h'
  · exact h'
  · rw [Array.getElem?_eq_none h'] at h; cases h
mutual
theorem AV.ok_le {n m : Nat} (h : n ≤ m) : ∀ (a : AV), a.ok n → a.ok m
  | .fz _ _, _ => trivial
  | .fptr _ _, _ => trivial
  | .ref tok _ _, h1 => by unfold AV.ok at *; omega
  | .nilSl, _ => trivial
  | .ptr tok _, h1 => by unfold AV.ok at *; omega
  | .elt tok _ _, h1 => by unfold AV.ok at *; omega
  | .glob _, _ => trivial
  | .agg l, h1 => by unfold AV.ok at *; exact okL_le h l h1
  | .tup l, h1 => by unfold AV.ok at *; exact okL_le h l h1
  | .fn _ l, h1 => by unfold AV.ok at *; exact okL_le h l h1
  | .ifc _ a, h1 => by unfold AV.ok at *; exact AV.ok_le h a h1
  | .opt _ a, h1 => by unfold AV.ok at *; exact fun hg => AV.ok_le h a (h1 hg)
  | .unk, _ => trivial
theorem okL_le {n m : Nat} (h : n ≤ m) : ∀ (l : List AV), okL n l → okL m l
  | [], _ => trivial
  | a :: l, h1 => by unfold okL at *; exact ⟨AV.ok_le h a h1.1, okL_le h l h1.2⟩
end
mutual
theorem Rel.mono {n : Nat} {c c' : Cx} (H : Le n c c') : ∀ (a : AV) (v : Value), a.ok n → Rel c a v → Rel c' a v
  | .fz t x, v, _, h => by
    unfold Rel at *
    obtain ⟨cs, h1, h2⟩ := h
    exact ⟨cs, h1.mono H.I, h2⟩
  | .fptr t x, v, _, h => by
    unfold Rel at *
    obtain ⟨b, off, cs, h1, h2, h3, h4, h5⟩ := h
    obtain ⟨k1, k2⟩ := H.I b h2 h3
    exact ⟨b, off, cs, h1, k1, heap_lt h3 k2, h4.mono H.I, fun j hj => (cell_heap k2 _ _).trans (h5 j hj)⟩
  | .ref tok off len, v, hok, h => by
    unfold AV.ok at hok
    have ht := H.tok tok hok
    unfold Rel at *
    unfold TokLe at ht
    cases hc : c'.A[tok]? with
    | none => rw [hc] at ht; exact ht.elim
    | some o =>
      rw [hc] at ht
      cases o with
      | dead => trivial
      | box vs => trivial
      | mapo i vs => trivial
      | room => rw [show c.A[tok]? = some .room from ht] at h; exact h.elim
      | row e xs =>
        simp only at ht ⊢
        rcases ht with ht | ht
        rotate_left
        · rw [ht] at h; exact h.elim
        obtain ⟨⟨xs0, h0⟩, hr, hh⟩ := ht
        rw [h0] at h
        simp only at h
        rcases h with ⟨b, cap, cs, et, a, h1, h2, h3, h4, h5, h6⟩ | ⟨h1, h2⟩
        · obtain ⟨cs', k1, k2⟩ := hh b cs et h1 h5
          exact .inl ⟨b, cap, cs', et, a, hr.trans h1, h2, h3, h4, k1, by rw [k2]; exact h6⟩
        · exact .inr ⟨hr.trans h1, h2⟩
  | .nilSl, v, _, h => h
  | .ptr tok off, v, hok, h => by
    unfold AV.ok at hok
    have ht := H.tok tok hok
    unfold Rel at *
    unfold TokLe at ht
    cases hc : c'.A[tok]? with
    | none => rw [hc] at ht; exact ht.elim
    | some o =>
      rw [hc] at ht
      cases o with
      | dead => trivial
      | room => rw [show c.A[tok]? = some .room from ht] at h; exact h.elim
      | row e xs =>
        simp only at ht
        rcases ht with ht | ht
        rotate_left
        · rw [ht] at h; exact h.elim
        obtain ⟨⟨xs0, h0⟩, _⟩ := ht
        rw [h0] at h; exact h
      | box vs =>
        simp only at ht ⊢
        rcases ht with ⟨⟨vs0, h0⟩, hr⟩ | ⟨e, xs, h0⟩ | h0 <;> rw [h0] at h <;> try exact h.elim
        simp only at h
        obtain ⟨b, h1, h2⟩ := h
        exact ⟨b, hr.trans h1, h2⟩
      | mapo i vs =>
        simp only at ht ⊢
        rcases ht with ⟨⟨j, vs0, h0, hi⟩, hr⟩ | h0 <;> rw [h0] at h <;> try exact h.elim
        simp only at h
        obtain ⟨b, h1, h2⟩ := h
        exact ⟨b, hr.trans h1, by rw [← hi]; exact h2⟩
  | .elt tok i off, v, hok, h => by
    unfold AV.ok at hok
    have ht := H.tok tok hok
    unfold Rel at *
    unfold TokLe at ht
    cases hc : c'.A[tok]? with
    | none => rw [hc] at ht; exact ht.elim
    | some o =>
      rw [hc] at ht
      cases o with
      | dead => trivial
      | box vs => trivial
      | mapo i vs => trivial
      | room => rw [show c.A[tok]? = some .room from ht] at h; exact h.elim
      | row e xs =>
        simp only at ht ⊢
        rcases ht with ht | ht
        rotate_left
        · rw [ht] at h; exact h.elim
        obtain ⟨⟨xs0, h0⟩, hr, _⟩ := ht
        rw [h0] at h
        simp only at h
        obtain ⟨b, h1, h2⟩ := h
        exact ⟨b, hr.trans h1, h2⟩
  | .glob g, v, _, h => h
  | .agg l, v, hok, h => by
    unfold AV.ok at hok; unfold Rel at *
    obtain ⟨vs, h1, h2⟩ := h
    exact ⟨vs, h1, RelL.mono H l vs hok h2⟩
  | .tup l, v, hok, h => by
    unfold AV.ok at hok; unfold Rel at *
    obtain ⟨vs, h1, h2⟩ := h
    exact ⟨vs, h1, RelL.mono H l vs hok h2⟩
  | .fn f l, v, hok, h => by
    unfold AV.ok at hok; unfold Rel at *
    obtain ⟨vs, h1, h2⟩ := h
    exact ⟨vs, h1, RelL.mono H l vs hok h2⟩
  | .ifc t a, v, hok, h => by
    unfold AV.ok at hok; unfold Rel at *
    obtain ⟨u, h1, h2⟩ := h
    exact ⟨u, h1, Rel.mono H a u hok h2⟩
  | .opt g a, v, hok, h => by
    unfold AV.ok at hok; unfold Rel at *
    exact ⟨fun hg => Rel.mono H a v (hok hg) (h.1 hg), h.2⟩
  | .unk, v, _, _ => by unfold Rel; trivial
theorem RelL.mono {n : Nat} {c c' : Cx} (H : Le n c c') : ∀ (l : List AV) (vs : List Value), okL n l → RelL c l vs → RelL c' l vs
  | [], vs, _, h => h
  | a :: l, vs, hok, h => by
    unfold okL at hok
    unfold RelL at *
    obtain ⟨v, r, e, h1, h2⟩ := h
    exact ⟨v, r, e, Rel.mono H a v hok.1 h1, RelL.mono H l r hok.2 h2⟩
end
theorem RelL.length {c : Cx} : ∀ (l : List AV) (vs : List Value), RelL c l vs → vs.length = l.length
  | [], vs, h => by unfold RelL at h; rw [h]; rfl
  | a :: l, vs, h => by
    unfold RelL at h
    obtain ⟨v, r, e, _, h2⟩ := h
    rw [e, List.length_cons, List.length_cons, RelL.length l r h2]
theorem RelL.get {c : Cx} : ∀ (l : List AV) (vs : List Value) (i : Nat) (a : AV), RelL c l vs → l[i]? = some a → ∃ v, vs[i]? = some v ∧ Rel c a v
  | [], _, _, _, _, h => by simp at h
  | b :: l, vs, i, a, h, hi => by
    unfold RelL at h
    obtain ⟨v, r, e, h1, h2⟩ := h
    subst e
    cases i with
    | zero => simp at hi; subst hi; exact ⟨v, rfl, h1⟩
    | succ i => simp at hi ⊢; exact RelL.get l r i a h2 hi
theorem RelL.of_get {c : Cx} : ∀ (l : List AV) (vs : List Value), vs.length = l.length → (∀ (i : Nat) (a : AV) (v : Value), l[i]? = some a → vs[i]? = some v → Rel c a v) → RelL c l vs
  | [], vs, h, _ => by unfold RelL; exact List.eq_nil_of_length_eq_zero (by simpa using h)
  | a :: l, [], h, _ => by simp at h
  | a :: l, v :: vs, h, hall => by
    unfold RelL
    exact ⟨v, vs, rfl, hall 0 a v rfl rfl, RelL.of_get l vs (by simpa using h) (fun i a v h1 h2 => hall (i + 1) a v (by simpa using h1) (by simpa using h2))⟩
theorem RelL.append {c : Cx} : ∀ (l l' : List AV) (vs vs' : List Value), RelL c l vs → RelL c l' vs' → RelL c (l ++ l') (vs ++ vs')
  | [], l', vs, vs', h, h' => by unfold RelL at h; subst h; exact h'
  | a :: l, l', vs, vs', h, h' => by
    unfold RelL at h
    obtain ⟨v, r, e, h1, h2⟩ := h
    subst e
    show RelL c (a :: (l ++ l')) (v :: (r ++ vs'))
    unfold RelL
    exact ⟨v, r ++ vs', rfl, h1, RelL.append l l' r vs' h2 h'⟩
end Go.Ab
/-
  Operations that only look: what an abstract state makes of them, and that the real ones do so.
-/
namespace Go.Ab
open Go
/-! ### what a program's table of types says -/
/-- what a type is; its size; its zero -/
inductive TI where
  | int (k : IntKind) | bool | str | flt (k : FloatKind) | slice (e : Nat) | arr (n e : Nat) | struct (fs : List (Nat × Nat)) | ifc | ptr (e : Nat) | fn | other
inductive Z where
  | int (k : IntKind) | bool | str | flt (k : FloatKind) | nilSl | nilI | nilF | nilP | nilM
structure TE where
  sz : Nat
  d : TI
  z : List Z
  conc : Bool
  bt : Nat
  eqn : Nat
abbrev Tab := List (Nat × TE)
def Z.val : Z → Value
  | .int k => .int k 0
  | .bool => .bool false
  | .str => .string ByteArray.empty
  | .flt k => .float k 0
  | .nilSl => .slice none 0 0
  | .nilI => .nilIface
  | .nilF => .nilFunc
  | .nilP => .pointer none
  | .nilM => .map none
def zIs : Z → Value → Bool
  | .int k, .int k' n => decide (k = k') && decide (n = 0)
  | .bool, .bool b => !b
  | .str, .string s => s.data.toList.isEmpty
  | .flt k, .float k' n => decide (k = k') && decide (n = 0)
  | .nilSl, .slice none 0 0 => true
  | .nilI, .nilIface => true
  | .nilF, .nilFunc => true
  | .nilP, .pointer none => true
  | .nilM, .map none => true
  | _, _ => false
def zsAre : List Z → List Value → Bool
  | [], [] => true
  | z :: zs, v :: vs => zIs z v && zsAre zs vs
  | _, _ => false
def tiIs : TI → TypeDesc → Bool
  | .int k, .int k' => decide (k = k')
  | .bool, .bool => true
  | .str, .string => true
  | .flt k, .float k' => decide (k = k')
  | .slice e, .slice e' => Nat.beq e e'
  | .arr n e, .array n' e' => Nat.beq n n' && Nat.beq e e'
  | .struct l, .struct fs => decide (fs.toList.map (fun f => (f.offset, f.type)) = l)
  | .ifc, .interface _ => true
  | .ptr e, .pointer e' => Nat.beq e e'
  | .fn, .func _ _ _ => true
  | .other, d => match d with | .struct _ | .array _ _ => false | _ => true
  | _, _ => false
/-- == over such values compares so many numbers, one behind the other, and nothing else -/
def eqFs (f : TypeId → Option Nat) : List Field → Nat → Option Nat
  | [], o => some o
  | g :: fs, o => if g.name ≠ "_" ∧ g.offset = o then (match f g.type with | some k => eqFs f fs (o + k) | none => none) else none
def eqT (P : Program) : Nat → TypeId → Option Nat
  | 0, _ => none
  | d + 1, t => match P.underlying t, P.info? t with
    | some (.int .i64), some i => if i.size = 1 then some 1 else none
    | some (.struct fs), some i => if P.stoodInHeld t = false ∧ eqFs (eqT P d) fs.toList 0 = some i.size then some i.size else none
    | some (.array n e), some i => match eqT P d e with
      | some k => if n * k = i.size then some i.size else none
      | none => none
    | _, _ => none
def isAggT (P : Program) (t : TypeId) : Bool := match P.underlying t with
  | some (.struct _) | some (.array _ _) => true
  | _ => false
/-- .. numbers and texts: which are texts -/
def sigN : Nat → Nat → List Bool
  | 0, _ => []
  | k + 1, m => Nat.beq (m % 2) 1 :: sigN k (m / 2)
def eqFsM (f : TypeId → Option (List Bool)) : List Field → Nat → Option (List Bool)
  | [], _ => some []
  | g :: fs, o => if g.name ≠ "_" ∧ g.offset = o then (match f g.type with | some k => (match eqFsM f fs (o + k.length) with | some r => some (k ++ r) | none => none) | none => none) else none
def eqM (P : Program) : Nat → TypeId → Option (List Bool)
  | 0, _ => none
  | d + 1, t => match P.underlying t, P.info? t with
    | some (.int .i64), some i => if i.size = 1 then some [false] else none
    | some .string, some i => if i.size = 1 then some [true] else none
    | some (.struct fs), some i => match eqFsM (eqM P d) fs.toList 0 with
      | some s => if P.stoodInHeld t = false ∧ s.length = i.size then some s else none
      | none => none
    | _, _ => none
def eqnOk (P : Program) (t : TypeId) (n : Nat) : Bool := match Nat.ble 1000 n with
  | false => Nat.beq n 0 || (decide (eqT P 6 t = some n) && (!P.eqGuardType P.depth t && isAggT P t))
  | true => decide (eqM P 6 t = some (sigN ((n - 1000) % 64) ((n - 1000) / 64))) && (!P.eqGuardType P.depth t && isAggT P t)
def teIs (P : Program) (x : Nat × TE) : Bool := match P.info? x.1, P.underlying x.1 with
  | some i, some d => (Nat.beq i.size x.2.sz && Nat.beq i.bytes x.2.bt) && tiIs x.2.d d && (match i.zero with | some v => zsAre x.2.z v.cells.toList | none => x.2.z.isEmpty) && (!x.2.conc || P.concrete x.1) && eqnOk P x.1 x.2.eqn
  | _, _ => false
/-- the table tells the truth -/
def TabOk (P : Program) (D : Tab) : Prop := D.all (teIs P) = true
def tlook : Tab → Nat → Option TE
  | [], _ => none
  | (t, e) :: D, u => match Nat.beq t u with | true => some e | false => tlook D u
def tsz (D : Tab) (t : TypeId) : Nat := match tlook D t with | some i => i.sz | none => 0
def tby (D : Tab) (t : TypeId) : Nat := match tlook D t with | some i => i.bt | none => 0
def tagg (D : Tab) (t : TypeId) : Option Bool := match tlook D t with
  | some i => match i.d with
    | .struct _ => some true
    | .arr _ _ => some true
    | _ => some false
  | none => none
def tfld (D : Tab) (t : TypeId) (f : Nat) : Option (Nat × TypeId) := match tlook D t with
  | some i => match i.d with
    | .struct fs => fs[f]?
    | _ => none
  | none => none
def telem (D : Tab) (t : TypeId) : Option TypeId := match tlook D t with
  | some i => match i.d with
    | .slice e => some e
    | _ => none
  | none => none
def tarr (D : Tab) (t : TypeId) : Option (Nat × TypeId) := match tlook D t with
  | some i => match i.d with
    | .arr n e => some (n, e)
    | _ => none
  | none => none
def tkind (D : Tab) (t : TypeId) : Option IntKind := match tlook D t with
  | some i => match i.d with
    | .int k => some k
    | _ => none
  | none => none
def tstr (D : Tab) (t : TypeId) : Bool := match tlook D t with
  | some i => match i.d with
    | .str => true
    | _ => false
  | none => false
def tbool (D : Tab) (t : TypeId) : Bool := match tlook D t with
  | some i => match i.d with
    | .bool => true
    | _ => false
  | none => false
def tiface (D : Tab) (t : TypeId) : Bool := match tlook D t with
  | some i => match i.d with
    | .ifc => true
    | _ => false
  | none => false
def teqn (D : Tab) (t : TypeId) : Nat := match tlook D t with
  | some i => match Nat.ble 1000 i.eqn with
    | false => i.eqn
    | true => 0
  | none => 0
def teqm (D : Tab) (t : TypeId) : List Bool := match tlook D t with
  | some i => match Nat.ble 1000 i.eqn with
    | true => sigN ((i.eqn - 1000) % 64) ((i.eqn - 1000) / 64)
    | false => []
  | none => []
def tconc (D : Tab) (t : TypeId) : Bool := match tlook D t with
  | some i => i.conc
  | none => false
theorem beq_eq {a b : Nat} (h : Nat.beq a b = true) : a = b := Nat.eq_of_beq_eq_true h
theorem tlook_te {P : Program} {D : Tab} (hD : TabOk P D) {t : Nat} {e : TE} (h : tlook D t = some e) : teIs P (t, e) = true := by
  unfold TabOk at hD
  induction D with
  | nil => cases h
  | cons x D ih =>
    obtain ⟨u, e'⟩ := x
    simp only [List.all_cons, Bool.and_eq_true] at hD
    unfold tlook at h
    split at h
    · rename_i hb; cases h; rw [← beq_eq hb]; exact hD.1
    · exact ih hD.2 h
theorem tlook_info {P : Program} {D : Tab} (hD : TabOk P D) {t : Nat} {e : TE} (h : tlook D t = some e) :
    ∃ i d, P.info? t = some i ∧ P.underlying t = some d ∧ i.size = e.sz ∧ tiIs e.d d = true ∧ (match i.zero with | some v => zsAre e.z v.cells.toList | none => e.z.isEmpty) = true ∧ (e.conc = true → P.concrete t = true) ∧ i.bytes = e.bt := by
  have hx := tlook_te hD h
  unfold teIs at hx
  cases hi : P.info? t with
  | none => simp only [hi] at hx; cases hx
  | some i =>
    cases hu : P.underlying t with
    | none => simp only [hi, hu] at hx; cases hx
    | some d =>
      simp only [hi, hu, Bool.and_eq_true, Bool.or_eq_true, Bool.not_eq_true'] at hx
      replace hx := hx.1
      refine ⟨i, d, rfl, rfl, beq_eq hx.1.1.1.1, hx.1.1.2, hx.1.2, fun hc => ?_, beq_eq hx.1.1.1.2⟩
      rcases hx.2 with h | h
      · rw [hc] at h; cases h
      · exact h
theorem of_teqn {P : Program} {D : Tab} (hD : TabOk P D) {t n : Nat} (h : teqn D t = n + 1) : eqT P 6 t = some (n + 1) ∧ P.eqGuardType P.depth t = false ∧ isAggT P t = true := by
  unfold teqn at h
  cases hi : tlook D t with
  | none => rw [hi] at h; cases h
  | some e =>
    rw [hi] at h
    simp only at h
    have hx := tlook_te hD hi
    unfold teIs at hx
    split at hx
    · simp only [Bool.and_eq_true] at hx
      have h2 := hx.2
      unfold eqnOk at h2
      cases hb : Nat.ble 1000 e.eqn with
      | true => rw [hb] at h; cases h
      | false =>
        rw [hb] at h h2
        simp only at h h2
        rw [h] at h2
        simp only [Bool.or_eq_true, Bool.and_eq_true, decide_eq_true_eq, Bool.not_eq_true'] at h2
        rcases h2 with h2 | ⟨h2, h3, h4⟩
        · exact absurd (beq_eq h2) (by omega)
        · exact ⟨h2, h3, h4⟩
    · cases hx
theorem of_teqm {P : Program} {D : Tab} (hD : TabOk P D) {t : Nat} {s : List Bool} (h : teqm D t = s) (hs : s ≠ []) : eqM P 6 t = some s ∧ P.eqGuardType P.depth t = false ∧ isAggT P t = true := by
  unfold teqm at h
  cases hi : tlook D t with
  | none => rw [hi] at h; exact absurd h.symm hs
  | some e =>
    rw [hi] at h
    simp only at h
    have hx := tlook_te hD hi
    unfold teIs at hx
    split at hx
    · simp only [Bool.and_eq_true] at hx
      have h2 := hx.2
      unfold eqnOk at h2
      cases hb : Nat.ble 1000 e.eqn with
      | false => rw [hb] at h; exact absurd h.symm hs
      | true =>
        rw [hb] at h h2
        simp only at h h2
        rw [h] at h2
        simp only [Bool.and_eq_true, decide_eq_true_eq, Bool.not_eq_true'] at h2
        exact h2
    · cases hx
section
variable {P : Program} {D : Tab} (hD : TabOk P D)
include hD
theorem run_sizeOf {t : TypeId} {n : Nat} (h : tsz D t = n) (hn : 0 < n) (w : World) : (sizeOf t).run P w = .ok n w := by
  unfold tsz at h
  cases hi : tlook D t with
  | none => rw [hi] at h; simp at h; omega
  | some e =>
    rw [hi] at h; simp at h
    obtain ⟨i, d, h1, _, h3, _⟩ := tlook_info hD hi
    simp [sizeOf, typeInfo, h1, h3, h]
theorem run_isAgg {t : TypeId} {b : Bool} (h : tagg D t = some b) (w : World) : (isAgg t).run P w = .ok b w := by
  unfold tagg at h
  cases hi : tlook D t with
  | none => rw [hi] at h; cases h
  | some e =>
    rw [hi] at h
    obtain ⟨i, d, _, h2, _, h4, _⟩ := tlook_info hD hi
    simp only at h
    cases hd : e.d <;> rw [hd] at h h4 <;> cases d <;> simp_all [tiIs, isAgg, underlying]
theorem of_tfld {t : TypeId} {f off : Nat} {ft : TypeId} (h : tfld D t f = some (off, ft)) : ∃ fs x, P.underlying t = some (.struct fs) ∧ fs[f]? = some x ∧ x.offset = off ∧ x.type = ft := by
  unfold tfld at h
  cases hi : tlook D t with
  | none => rw [hi] at h; cases h
  | some e =>
    rw [hi] at h
    obtain ⟨i, d, _, h2, _, h4, _⟩ := tlook_info hD hi
    simp only at h
    cases hd : e.d <;> rw [hd] at h h4 <;> try (cases h; done)
    cases d <;> try (cases h4; done)
    rename_i l fs
    simp only [tiIs, decide_eq_true_eq] at h4
    simp only at h
    rw [← h4, List.getElem?_map] at h
    cases hf : fs.toList[f]? with
    | none => rw [hf] at h; cases h
    | some x =>
      rw [hf] at h
      simp at h
      exact ⟨fs, x, h2, by simpa using hf, h.1, h.2⟩
theorem of_telem {t e : TypeId} (h : telem D t = some e) : P.underlying t = some (.slice e) := by
  unfold telem at h
  cases hi : tlook D t with
  | none => rw [hi] at h; cases h
  | some x =>
    rw [hi] at h
    obtain ⟨i, d, _, h2, _, h4, _⟩ := tlook_info hD hi
    simp only at h
    cases hd : x.d <;> rw [hd] at h h4 <;> try (cases h; done)
    cases d <;> try (cases h4; done)
    cases h; rw [h2, beq_eq h4]
theorem of_tarr {t e : TypeId} {n : Nat} (h : tarr D t = some (n, e)) : P.underlying t = some (.array n e) := by
  unfold tarr at h
  cases hi : tlook D t with
  | none => rw [hi] at h; cases h
  | some x =>
    rw [hi] at h
    obtain ⟨i, d, _, h2, _, h4, _⟩ := tlook_info hD hi
    simp only at h
    cases hd : x.d <;> rw [hd] at h h4 <;> try (cases h; done)
    cases d <;> try (cases h4; done)
    simp only [tiIs, Bool.and_eq_true] at h4
    cases h; rw [h2, beq_eq h4.1, beq_eq h4.2]
theorem of_tkind {t : TypeId} {k : IntKind} (h : tkind D t = some k) : P.underlying t = some (.int k) := by
  unfold tkind at h
  cases hi : tlook D t with
  | none => rw [hi] at h; cases h
  | some x =>
    rw [hi] at h
    obtain ⟨i, d, _, h2, _, h4, _⟩ := tlook_info hD hi
    simp only at h
    cases hd : x.d <;> rw [hd] at h h4 <;> try (cases h; done)
    cases d <;> try (cases h4; done)
    simp only [tiIs, decide_eq_true_eq] at h4
    cases h; rw [h2, h4]
theorem of_tstr {t : TypeId} (h : tstr D t = true) : P.underlying t = some .string := by
  unfold tstr at h
  cases hi : tlook D t with
  | none => rw [hi] at h; cases h
  | some x =>
    rw [hi] at h
    obtain ⟨i, d, _, h2, _, h4, _⟩ := tlook_info hD hi
    simp only at h
    cases hd : x.d <;> rw [hd] at h h4 <;> try (cases h; done)
    cases d <;> try (cases h4; done)
    exact h2
theorem of_tbool {t : TypeId} (h : tbool D t = true) : P.underlying t = some .bool := by
  unfold tbool at h
  cases hi : tlook D t with
  | none => rw [hi] at h; cases h
  | some x =>
    rw [hi] at h
    obtain ⟨i, d, _, h2, _, h4, _⟩ := tlook_info hD hi
    simp only at h
    cases hd : x.d <;> rw [hd] at h h4 <;> try (cases h; done)
    cases d <;> try (cases h4; done)
    exact h2
theorem of_tiface {t : TypeId} (h : tiface D t = true) : ∃ ms, P.underlying t = some (.interface ms) := by
  unfold tiface at h
  cases hi : tlook D t with
  | none => rw [hi] at h; cases h
  | some x =>
    rw [hi] at h
    obtain ⟨i, d, _, h2, _, h4, _⟩ := tlook_info hD hi
    simp only at h
    cases hd : x.d <;> rw [hd] at h h4 <;> try (cases h; done)
    cases d <;> try (cases h4; done)
    exact ⟨_, h2⟩
theorem of_tconc {t : TypeId} (h : tconc D t = true) : P.concrete t = true := by
  unfold tconc at h
  cases hi : tlook D t with
  | none => rw [hi] at h; cases h
  | some x =>
    rw [hi] at h
    obtain ⟨_, _, _, _, _, _, _, h7, _⟩ := tlook_info hD hi
    exact h7 h
theorem of_known {t : TypeId} (h : (tlook D t).isSome = true) : (P.underlying t).isSome = true := by
  cases hi : tlook D t with
  | none => rw [hi] at h; cases h
  | some x =>
    obtain ⟨_, _, _, h2, _⟩ := tlook_info hD hi
    rw [h2]; rfl
end
theorem zIs_val {z : Z} {v : Value} (h : zIs z v = true) : v = z.val := by
  unfold zIs at h
  split at h
  · simp at h; rw [h.1, h.2]; rfl
  · simp at h; rw [h]; rfl
  · rename_i s
    obtain ⟨⟨l⟩⟩ := s
    simp at h; subst h; rfl
  · simp at h; rw [h.1, h.2]; rfl
  · rfl
  · rfl
  · rfl
  · rfl
  · rfl
  · cases h
theorem zsAre_map : ∀ {zs : List Z} {vs : List Value}, zsAre zs vs = true → vs = zs.map Z.val
  | [], [], _ => rfl
  | [], _ :: _, h => by cases h
  | _ :: _, [], h => by cases h
  | z :: zs, v :: vs, h => by
    unfold zsAre at h
    simp only [Bool.and_eq_true] at h
    rw [List.map_cons, zIs_val h.1, zsAre_map h.2]
/-! ### parts -/
def bEq : Bool → Bool → Bool
  | true, true => true
  | false, false => true
  | _, _ => false
theorem bEq_of {a b : Bool} (h : bEq a b = true) : a = b := by cases a <;> cases b <;> first | rfl | cases h
/-- all of it -/
def isAll (off sz n : Nat) (ag ag' : Bool) : Bool := Nat.beq off 0 && (Nat.beq sz n && bEq ag ag')
theorem isAll_of {off sz n : Nat} {ag ag' : Bool} (h : isAll off sz n ag ag' = true) : off = 0 ∧ sz = n ∧ ag = ag' := by
  unfold isAll at h
  simp only [Bool.and_eq_true] at h
  exact ⟨beq_eq h.1, beq_eq h.2.1, bEq_of h.2.2⟩
def Ty.sub : (t : Ty) → t.den → Bool → Nat → Nat → Option (Σ u : Ty, u.den)
  | .int k, x, ag, off, sz => match isAll off sz 1 ag false with | true => some ⟨.int k, x⟩ | false => none
  | .bool, x, ag, off, sz => match isAll off sz 1 ag false with | true => some ⟨.bool, x⟩ | false => none
  | .str, x, ag, off, sz => match isAll off sz 1 ag false with | true => some ⟨.str, x⟩ | false => none
  | .flt k, x, ag, off, sz => match isAll off sz 1 ag false with | true => some ⟨.flt k, x⟩ | false => none
  | .raw, x, ag, off, sz => match isAll off sz 1 ag false with | true => some ⟨.raw, x⟩ | false => none
  | .list e, x, ag, off, sz => match isAll off sz 1 ag false with | true => some ⟨.list e, x⟩ | false => none
  | .one a, x, ag, off, sz => match isAll off sz a.size ag true with | true => some ⟨.one a, x⟩ | false => Ty.sub a x ag off sz
  | .pair a b, x, ag, off, sz => match isAll off sz (a.size + b.size) ag true with
    | true => some ⟨.pair a b, x⟩
    | false => match Nat.blt off a.size with
      | true => Ty.sub a x.1 ag off sz
      | false => Ty.sub b x.2 ag (off - a.size) sz
  | .arr n e, x, ag, off, sz => match isAll off sz (n * e.size) ag true with
    | true => some ⟨.arr n e, x⟩
    | false => match Nat.blt (off / e.size) n with
      | true => Ty.sub e (List.getD x (off / e.size) e.dft) ag (off % e.size) sz
      | false => none
theorem blt_of {a b : Nat} (h : Nat.blt a b = true) : a < b := by
  have := Nat.le_of_ble_eq_true h; omega
theorem getD_flatten {s : Nat} : ∀ (css : List (List Value)) (i r m : Nat), (∀ j, j < css.length → (css.getD j []).length = s) → i < css.length → r + m ≤ s → (css.flatten.drop (i * s + r)).take m = ((css.getD i []).drop r).take m
  | [], i, r, m, _, hi, _ => by simp at hi
  | c :: css, i, r, m, h, hi, hr => by
    have h0 : c.length = s := by simpa using h 0 (by simp)
    cases i with
    | zero =>
      simp only [List.flatten_cons, Nat.zero_mul, Nat.zero_add, List.getD_cons_zero]
      rw [List.drop_append_of_le_length (by omega), List.take_append_of_le_length (by simp; omega)]
    | succ i =>
      simp only [List.flatten_cons, List.getD_cons_succ]
      rw [show (i + 1) * s + r = c.length + (i * s + r) by rw [Nat.succ_mul, h0]; omega, List.drop_append]
      rw [List.drop_eq_nil_of_le (by omega), List.nil_append, show c.length + (i * s + r) - c.length = i * s + r by omega]
      exact getD_flatten css i r m (fun j hj => by have := h (j + 1) (by simp; omega); simpa using this) (by simpa using hi) hr
theorem sub_sound {I : Nat → Prop} {w : World} : ∀ (t : Ty) (x : t.den) (cs : List Value) (ag : Bool) (off sz : Nat) (u : Ty) (y : u.den), FzC I w t x cs → t.sub x ag off sz = some ⟨u, y⟩ →
    u.size = sz ∧ u.isAgg = ag ∧ FzC I w u y ((cs.drop off).take sz) := by
  intro t
  have base : ∀ (t : Ty) (x : t.den) (cs : List Value) (ag : Bool) (off sz : Nat) (u : Ty) (y : u.den), FzC I w t x cs → (off = 0 ∧ sz = t.size ∧ ag = t.isAgg) → (⟨t, x⟩ : Σ u : Ty, u.den) = ⟨u, y⟩ →
      u.size = sz ∧ u.isAgg = ag ∧ FzC I w u y ((cs.drop off).take sz) := by
    intro t x cs ag off sz u y h h1 h2
    cases h2
    obtain ⟨rfl, rfl, rfl⟩ := h1
    refine ⟨rfl, rfl, ?_⟩
    rw [List.drop_zero, ← h.len, List.take_length]; exact h
  induction t with
  | int k | bool | str | flt k | raw | list e =>
    intro x cs ag off sz u y h hs
    unfold Ty.sub at hs
    split at hs
    · rename_i hc; exact base _ _ _ _ _ _ _ _ h (isAll_of hc) (Option.some.inj hs)
    · cases hs
  | one a ih =>
    intro x cs ag off sz u y h hs
    unfold Ty.sub at hs
    split at hs
    · rename_i hc; exact base (.one a) _ _ _ _ _ _ _ h (isAll_of hc) (Option.some.inj hs)
    · exact ih x cs ag off sz u y h hs
  | pair a b iha ihb =>
    intro x cs ag off sz u y h hs
    unfold Ty.sub at hs
    split at hs
    · rename_i hc; exact base (.pair a b) _ _ _ _ _ _ _ h (isAll_of hc) (Option.some.inj hs)
    · obtain ⟨l, r, rfl, h1, h2⟩ := h
      split at hs
      · rename_i hlt
        have hlt := blt_of hlt
        obtain ⟨k1, k2, k3⟩ := iha x.1 l ag off sz u y h1 hs
        refine ⟨k1, k2, ?_⟩
        have hl := k3.len
        simp at hl
        have hll := h1.len
        rw [List.drop_append_of_le_length (by omega)]
        by_cases hz : sz = 0
        · subst hz; simpa using k3
        · rw [List.take_append_of_le_length (by simp; omega)]; exact k3
      · rename_i hlt
        have hlt : ¬ off < a.size := fun h => by
          have : Nat.blt off a.size = true := Nat.ble_eq_true_of_le h
          rw [this] at hlt; cases hlt
        obtain ⟨k1, k2, k3⟩ := ihb x.2 r ag (off - a.size) sz u y h2 hs
        refine ⟨k1, k2, ?_⟩
        have hll := h1.len
        rw [List.drop_append, List.drop_eq_nil_of_le (by omega), List.nil_append, hll]; exact k3
  | arr n e ih =>
    intro x cs ag off sz u y h hs
    unfold Ty.sub at hs
    split at hs
    · rename_i hc; exact base (.arr n e) _ _ _ _ _ _ _ h (isAll_of hc) (Option.some.inj hs)
    · split at hs
      · rename_i hlt
        have hlt := blt_of hlt
        obtain ⟨hl, css, hn, rfl, hall⟩ := h
        have he : List.getD x (off / e.size) e.dft = x[off / e.size]'(by rw [hl]; exact hlt) := by simp [List.getD, List.getElem?_eq_getElem (show off / e.size < List.length x by rw [hl]; exact hlt)]
        rw [he] at hs
        obtain ⟨k1, k2, k3⟩ := ih _ _ ag _ sz u y (hall _ (by rw [hl]; exact hlt)) hs
        refine ⟨k1, k2, ?_⟩
        have hlen : ∀ j, j < css.length → (css.getD j []).length = e.size := fun j hj => (hall j (by rw [hl, ← hn]; exact hj)).len
        have hsz := k3.len
        have hci := hlen (off / e.size) (by rw [hn]; exact hlt)
        rw [List.length_take, List.length_drop, hci, k1] at hsz
        by_cases hz : sz = 0
        · subst hz; simpa using k3
        · have hpos : 0 < e.size := by omega
          have := getD_flatten (s := e.size) css (off / e.size) (off % e.size) sz hlen (by rw [hn]; exact hlt) (by omega)
          rw [show off / e.size * e.size + off % e.size = off by rw [Nat.mul_comm]; exact Nat.div_add_mod _ _] at this
          rw [this]; exact k3
      · cases hs
end Go.Ab
/-
  Operations that only look: what an abstract state makes of them, and that the real ones do so (2).
-/
namespace Go.Ab
open Go
/-! ### reading of a relation -/
theorem rel_int {c : Cx} {k : IntKind} {n : Int} {v : Value} : Rel c (.fz (.int k) n) v ↔ v = .int k n := by
  unfold Rel FzC valOf; simp [Ty.isAgg]
theorem rel_bool {c : Cx} {b : Bool} {v : Value} : Rel c (.fz .bool b) v ↔ v = .bool b := by
  unfold Rel FzC valOf; simp [Ty.isAgg]
theorem rel_str {c : Cx} {s : ByteArray} {v : Value} : Rel c (.fz .str s) v ↔ v = .string s := by
  unfold Rel FzC valOf; simp [Ty.isAgg]
theorem rel_flt {c : Cx} {k : FloatKind} {n : Nat} {v : Value} : Rel c (.fz (.flt k) n) v ↔ v = .float k n := by
  unfold Rel FzC valOf; simp [Ty.isAgg]
theorem rel_raw {c : Cx} {x : Value} {v : Value} (h : ocell x = true) : Rel c (.fz .raw x) v ↔ v = x := by
  unfold Rel FzC valOf; simp [Ty.isAgg, h]
theorem rel_raw_of {c : Cx} {x : Value} {v : Value} (h : Rel c (.fz .raw x) v) : v = x ∧ ocell x = true := by
  unfold Rel FzC at h
  obtain ⟨cs, ⟨h1, h2⟩, h3⟩ := h
  subst h1
  exact ⟨h3, h2⟩
theorem rel_list {c : Cx} {e : Ty} {xs : List e.den} {v : Value} (h : Rel c (.fz (.list e) xs) v) : ∃ p cap, v = .slice p xs.length cap ∧ FzC c.I c.w (.list e) xs [v] := by
  unfold Rel at h
  obtain ⟨cs, h1, h2⟩ := h
  have h1' := h1
  unfold FzC at h1
  obtain ⟨p, cap, rfl, _⟩ := h1
  simp [valOf, Ty.isAgg] at h2
  subst h2
  exact ⟨p, cap, rfl, h1'⟩
theorem rel_agg {c : Cx} {t : Ty} {x : t.den} {v : Value} (ha : t.isAgg = true) (h : Rel c (.fz t x) v) : ∃ cs, v = .agg cs.toArray ∧ FzC c.I c.w t x cs := by
  unfold Rel at h
  obtain ⟨cs, h1, h2⟩ := h
  unfold valOf at h2; rw [if_pos ha] at h2
  exact ⟨cs, h2, h1⟩
theorem rel_fz_mk {c : Cx} {t : Ty} {x : t.den} {cs : List Value} (h : FzC c.I c.w t x cs) : Rel c (.fz t x) (valOf t cs) := by
  unfold Rel; exact ⟨cs, h, rfl⟩
/-! ### operands -/
def lk : List (Nat × AV) → Nat → AV
  | [], _ => .unk
  | (m, v) :: T, n => if m = n then v else lk T n
def ofV0 : Value → AV
  | .int k n => .fz (.int k) n
  | .bool b => .fz .bool b
  | .string s => .fz .str s
  | .float k n => .fz (.flt k) n
  | .slice none 0 0 => .nilSl
  | .nilIface => .fz .raw .nilIface
  | .nilFunc => .fz .raw .nilFunc
  | .pointer none => .fz .raw (.pointer none)
  | .map none => .fz .raw (.map none)
  | .func (.func f) ⟨[]⟩ ⟨[]⟩ => .fn f []
  | _ => .unk
def ofV : Value → AV
  | .agg cs => .agg (cs.toList.map ofV0)
  | .tuple ⟨[]⟩ => .tup []
  | v => ofV0 v
theorem rel_ofV0 (c : Cx) (v : Value) : Rel c (ofV0 v) v := by
  unfold ofV0
  split
  · exact rel_int.2 rfl
  · exact rel_bool.2 rfl
  · exact rel_str.2 rfl
  · exact rel_flt.2 rfl
  · unfold Rel; exact ⟨none, rfl⟩
  · exact (rel_raw rfl).2 rfl
  · exact (rel_raw rfl).2 rfl
  · exact (rel_raw rfl).2 rfl
  · exact (rel_raw rfl).2 rfl
  · unfold Rel; exact ⟨[], rfl, by unfold RelL; rfl⟩
  · unfold Rel; trivial
theorem rel_ofV (c : Cx) (v : Value) : Rel c (ofV v) v := by
  unfold ofV
  split
  · rename_i cs
    unfold Rel
    refine ⟨cs.toList, by simp, RelL.of_get _ _ (by simp) (fun i a v h1 h2 => ?_)⟩
    simp only [List.getElem?_map, h2, Option.map_some, Option.some.injEq] at h1
    rw [← h1]; exact rel_ofV0 c v
  · unfold Rel; exact ⟨[], rfl, by unfold RelL; rfl⟩
  · exact rel_ofV0 c v
def ev (T : List (Nat × AV)) : Operand → AV
  | .tmp n => lk T n
  | .const v => ofV v
  | .global g => .glob g
  | .func f => .fn f []
/-- the temporaries -/
def TR (c : Cx) (T : List (Nat × AV)) (tmps : Array Value) : Prop := ∀ n, Rel c (lk T n) (tmps.getD n undef)
theorem TR.ev {c : Cx} {T : List (Nat × AV)} {a : Act} (h : TR c T a.tmps) (x : Operand) : Rel c (Ab.ev T x) (a.eval x) := by
  cases x with
  | tmp n => exact h n
  | const v => exact rel_ofV c v
  | global g => unfold Ab.ev Act.eval Rel; rfl
  | func f => unfold Ab.ev Act.eval Rel; exact ⟨[], rfl, by unfold RelL; rfl⟩
theorem TR.put {c : Cx} {T : List (Nat × AV)} {tmps : Array Value} (h : TR c T tmps) {d : Nat} {av : AV} {v : Value} (hd : d < tmps.size) (hv : Rel c av v) : TR c ((d, av) :: T) (tmps.setIfInBounds d v) := by
  intro n
  unfold lk
  by_cases hn : d = n
  · subst hn; rw [if_pos rfl]; simpa [Array.getD, hd] using hv
  · rw [if_neg hn]
    have : (tmps.setIfInBounds d v).getD n undef = tmps.getD n undef := by simp [Array.getD_eq_getD_getElem?, hn]
    rw [this]; exact h n
/-! ### the operations -/
/-- what must be so; what comes -/
abbrev AR := Option Prop × AV
@[reducible] def Hold : Option Prop → Prop
  | none => True
  | some p => p
def yes (v : AV) : AR := (none, v)
def no : AR := (some False, .unk)
def gate (b : Bool) (x : AR) : AR := match b with
  | true => x
  | false => no
theorem gate_of {b : Bool} {x : AR} (h : Hold (gate b x).1) : b = true ∧ Hold x.1 := by
  cases b
  · exact False.elim h
  · exact ⟨rfl, h⟩
theorem gate_true {b : Bool} {x : AR} (h : b = true) : gate b x = x := by subst h; rfl
def andC : Option Prop → Option Prop → Option Prop
  | none, q => q
  | p, none => p
  | some p, some q => some (p ∧ q)
theorem andC_of {p q : Option Prop} (h : Hold (andC p q)) : Hold p ∧ Hold q := by
  cases p <;> cases q
  · exact ⟨trivial, trivial⟩
  · exact ⟨trivial, h⟩
  · exact ⟨h, trivial⟩
  · exact h
def impC (b : Bool) : Option Prop → Option Prop
  | none => none
  | some p => some (b = true → p)
theorem impC_of {b : Bool} {p : Option Prop} (h : Hold (impC b p)) (hb : b = true) : Hold p := by
  cases p
  · trivial
  · exact h hb
def aPart (ag : Option Bool) (off sz : Nat) : AV → AR
  | .agg vs => match ag with
    | some true => gate (Nat.blt 0 sz) (none, .agg ((vs.drop off).take sz))
    | some false => gate (Nat.blt 0 sz && Nat.blt off vs.length) (none, vs.getD off .unk)
    | none => no
  | .fz t x => match ag with
    | some b => match t.sub x b off sz with
      | some ⟨u, y⟩ => gate (Nat.blt 0 sz && t.isAgg) (none, .fz u y)
      | none => no
    | none => no
  | _ => no
def aField (D : Tab) (t : TypeId) (f : Nat) (x : AV) : AR :=
  match tfld D t f with
  | some (off, ft) => aPart (tagg D ft) off (tsz D ft) x
  | none => no
def stripO (g : Bool) : AV → AR
  | .opt h v => (some (g = true → h = true), v)
  | v => (none, v)
def iteAV (c : Bool) : AV → AV → AV
  | .fz .bool x, .fz .bool y => .fz .bool (bif c then x else y)
  | .fz (.int .i64) x, .fz (.int .i64) y => .fz (.int .i64) (bif c then x else y)
  | a, b => bif c then a else b
def pickAV (c : Bool) (a b : AR) : AR := match a.2, b.2 with
  | .unk, y => (andC (some (c = false)) b.1, y)
  | x, .unk => (andC (some (c = true)) a.1, x)
  | x, y => (andC a.1 b.1, iteAV c x y)
def aPick (c a b : AV) : AR :=
  match c with
  | .fz .bool c => pickAV c (stripO c a) (stripO (!c) b)
  | _ => no
/-- fits an int -/
def I64 (n : Int) : Prop := -9223372036854775808 ≤ n ∧ n ≤ 9223372036854775807
theorem I64.wrap {n : Int} (h : I64 n) : IntKind.i64.wrap n = n := by
  unfold I64 at h
  unfold IntKind.wrap
  simp [IntKind.bits, IntKind.signed]
  omega
def arI (k : IntKind) (n : Int) : AR := match k with
  | .i64 => (some (I64 n), .fz (.int .i64) n)
  | k => (none, .fz (.int k) (k.wrap n))
def kEq : IntKind → IntKind → Bool
  | .i8, .i8 => true | .i16, .i16 => true | .i32, .i32 => true | .i64, .i64 => true
  | .u8, .u8 => true | .u16, .u16 => true | .u32, .u32 => true | .u64, .u64 => true
  | _, _ => false
theorem kEq_of {a b : IntKind} (h : kEq a b = true) : a = b := by cases a <;> cases b <;> first | rfl | cases h
def bitI (op : BinOp) (k : IntKind) (a b : Int) : Int := match op with
  | .and => k.wrap ((BitVec.ofInt k.bits a &&& BitVec.ofInt k.bits b).toNat : Int)
  | .or => k.wrap ((BitVec.ofInt k.bits a ||| BitVec.ofInt k.bits b).toNat : Int)
  | .xor => k.wrap ((BitVec.ofInt k.bits a ^^^ BitVec.ofInt k.bits b).toNat : Int)
  | .andNot => k.wrap ((BitVec.ofInt k.bits a &&& ~~~(BitVec.ofInt k.bits b)).toNat : Int)
  | _ => 0
def aBinI (op : BinOp) (k k' : IntKind) (a b : Int) : AR := match op with
  | .and => gate (kEq k k') (none, .fz (.int k) (bitI .and k a b))
  | .or => gate (kEq k k') (none, .fz (.int k) (bitI .or k a b))
  | .xor => gate (kEq k k') (none, .fz (.int k) (bitI .xor k a b))
  | .andNot => gate (kEq k k') (none, .fz (.int k) (bitI .andNot k a b))
  | .add => gate (kEq k k') (arI k (a + b))
  | .sub => gate (kEq k k') (arI k (a - b))
  | .mul => gate (kEq k k') (arI k (a * b))
  | .quo => gate (kEq k k') (andC (some (b ≠ 0)) (arI k (a.tdiv b)).1, (arI k (a.tdiv b)).2)
  | .rem => gate (kEq k k') (some (b ≠ 0), .fz (.int k) (a.tmod b))
  | .eql => gate (kEq k k') (none, .fz .bool (a == b))
  | .neq => gate (kEq k k') (none, .fz .bool (a != b))
  | .lss => gate (kEq k k') (none, .fz .bool (decide (a < b)))
  | .leq => gate (kEq k k') (none, .fz .bool (decide (a ≤ b)))
  | .gtr => gate (kEq k k') (none, .fz .bool (decide (b < a)))
  | .geq => gate (kEq k k') (none, .fz .bool (decide (b ≤ a)))
  | .shl => (some (0 ≤ b), .fz (.int k) (k.wrap (a * 2 ^ (min b.toNat k.bits))))
  | .shr => (some (0 ≤ b), .fz (.int k) (a.fdiv (2 ^ (min b.toNat k.bits))))
def aBinS (op : BinOp) (a b : ByteArray) : AR := match op with
  | .add => (some (((a.size + b.size : Nat) : Int) ≤ IntKind.i64.max), .fz .str (a ++ b))
  | .eql => (none, .fz .bool (a.toList == b.toList))
  | .neq => (none, .fz .bool (!(a.toList == b.toList)))
  | .lss => (none, .fz .bool (Op.bytesLess a.toList b.toList))
  | .leq => (none, .fz .bool (Op.bytesLess a.toList b.toList || a.toList == b.toList))
  | .gtr => (none, .fz .bool (!(Op.bytesLess a.toList b.toList || a.toList == b.toList)))
  | .geq => (none, .fz .bool (!(Op.bytesLess a.toList b.toList)))
  | _ => no
def fkE : FloatKind → FloatKind → Bool
  | .f32, .f32 => true
  | .f64, .f64 => true
  | _, _ => false
theorem fkE_of {a b : FloatKind} (h : fkE a b = true) : a = b := by cases a <;> cases b <;> first | rfl | cases h
def fAns (k : FloatKind) (r : Option Nat) : AR := (some (r.isSome = true), .fz (.flt k) (r.getD (0 : Nat) : Nat))
/-- floats: sums and the like only where they are numbers -/
def aBinF (op : BinOp) (k k' : FloatKind) (a b : Nat) : AR := match op with
  | .add => gate (fkE k k') (fAns k (k.format.add a b))
  | .sub => gate (fkE k k') (fAns k (k.format.sub a b))
  | .mul => gate (fkE k k') (fAns k (k.format.mul a b))
  | .quo => gate (fkE k k') (fAns k (k.format.div a b))
  | .eql => gate (fkE k k') (none, .fz .bool (k.format.order a b == some .eq))
  | .neq => gate (fkE k k') (none, .fz .bool (k.format.order a b != some .eq))
  | .lss => gate (fkE k k') (none, .fz .bool (k.format.order a b == some .lt))
  | .leq => gate (fkE k k') (none, .fz .bool (k.format.order a b == some .lt || k.format.order a b == some .eq))
  | .gtr => gate (fkE k k') (none, .fz .bool (k.format.order a b == some .gt))
  | .geq => gate (fkE k k') (none, .fz .bool (k.format.order a b == some .gt || k.format.order a b == some .eq))
  | _ => no
def aBinB (D : Tab) (op : BinOp) (t : TypeId) (a b : Bool) : AR := match op with
  | .eql => gate (tbool D t) (none, .fz .bool (a == b))
  | .neq => gate (tbool D t) (none, .fz .bool (!(a == b)))
  | _ => no
/-- is it nil? -/
def isNil : AV → Option Bool
  | .fz .raw .nilIface => some true
  | .fz .raw (.iface _ _) => some false
  | .ifc _ _ => some false
  | _ => none
def cellsI : (t : Ty) → t.den → Option (List Int)
  | .int .i64, n => some [n]
  | .one a, x => cellsI a x
  | .pair a b, x => match cellsI a x.1, cellsI b x.2 with
    | some l, some r => some (l ++ r)
    | _, _ => none
  | _, _ => none
def numsL : List AV → Option (List Int)
  | [] => some []
  | .fz (.int .i64) n :: l => match numsL l with
    | some r => some (n :: r)
    | none => none
  | _ => none
def numsI : AV → Option (List Int)
  | .fz (.pair a b) x => cellsI (.pair a b) x
  | .fz (.one a) x => cellsI (.one a) x
  | .agg vs => numsL vs
  | _ => none
def eqL : List Int → List Int → Bool
  | [], [] => true
  | [a], [b] => a == b
  | a :: a1, b :: b1 => (a == b) && eqL a1 b1
  | _, _ => false
/-- a number or a text -/
inductive Pv where
  | i (n : Int)
  | s (b : ByteArray)
def Pv.isS : Pv → Bool
  | .i _ => false
  | .s _ => true
def Pv.val : Pv → Value
  | .i n => .int .i64 n
  | .s b => .string b
def peq : Pv → Pv → Bool
  | .i a, .i b => a == b
  | .s a, .s b => a.toList == b.toList
  | _, _ => false
def eqV : List Pv → List Pv → Bool
  | [], [] => true
  | [a], [b] => peq a b
  | a :: as, b :: bs => peq a b && eqV as bs
  | _, _ => false
def cellsP : (t : Ty) → t.den → Option (List Pv)
  | .int .i64, n => some [.i n]
  | .str, s => some [.s s]
  | .one a, x => cellsP a x
  | .pair a b, x => match cellsP a x.1, cellsP b x.2 with
    | some l, some r => some (l ++ r)
    | _, _ => none
  | _, _ => none
def pvsL : List AV → Option (List Pv)
  | [] => some []
  | .fz (.int .i64) n :: l => match pvsL l with
    | some r => some (.i n :: r)
    | none => none
  | .fz .str n :: l => match pvsL l with
    | some r => some (.s n :: r)
    | none => none
  | _ => none
def pvsA : AV → Option (List Pv)
  | .fz (.pair a b) x => cellsP (.pair a b) x
  | .fz (.one a) x => cellsP (.one a) x
  | .agg vs => pvsL vs
  | _ => none
def kindsB : List Pv → List Bool → Bool
  | [], [] => true
  | p :: l, b :: r => (match p, b with
    | .i _, false => kindsB l r
    | .s _, true => kindsB l r
    | _, _ => false)
  | _, _ => false
def aBinM (op : BinOp) (s : List Bool) (x y : AV) : AR := match s with
  | [] => no
  | b :: r => match pvsA x, pvsA y with
    | some xs, some ys => gate (kindsB xs (b :: r) && kindsB ys (b :: r)) (match op with
      | .eql => (none, .fz .bool (eqV xs ys))
      | .neq => (none, .fz .bool (!eqV xs ys))
      | _ => no)
    | _, _ => no
/-- numbers, one behind the other, with others -/
def aBinA (D : Tab) (op : BinOp) (t : TypeId) (x y : AV) : AR := match teqn D t with
  | 0 => aBinM op (teqm D t) x y
  | k + 1 => match numsI x, numsI y with
    | some xs, some ys => gate (Nat.beq xs.length (k + 1) && Nat.beq ys.length (k + 1)) (match op with
      | .eql => (none, .fz .bool (eqL xs ys))
      | .neq => (none, .fz .bool (!eqL xs ys))
      | _ => no)
    | _, _ => no
def aBin (D : Tab) (op : BinOp) (t : TypeId) (x y : AV) : AR :=
  match x, y with
  | .fz (.int k) a, .fz (.int k') b => aBinI op k k' a b
  | .fz .str a, .fz .str b => aBinS op a b
  | .fz .bool a, .fz .bool b => aBinB D op t a b
  | .fz (.flt k) a, .fz (.flt k') b => aBinF op k k' a b
  | x, y => aBinA D op t x y
def aBinNil (D : Tab) (op : BinOp) (t : TypeId) (x : AV) : AR :=
  match isNil x, op with
  | some b, .eql => gate (tiface D t) (none, .fz .bool b)
  | some b, .neq => gate (tiface D t) (none, .fz .bool (!b))
  | _, _ => no
def isNilC : Operand → Bool
  | .const .nilIface => true
  | _ => false
theorem aPart_sound {P : Program} {D : Tab} (hD : TabOk P D) {c : Cx} {t : TypeId} {off : Nat} {x : AV} {cs : Array Value} (hx : Rel c x (.agg cs)) (h : Hold (aPart (tagg D t) off (tsz D t) x).1) :
    ∃ v, (part t cs off).run P c.w = .ok v c.w ∧ Rel c (aPart (tagg D t) off (tsz D t) x).2 v := by
  generalize hsz : tsz D t = sz at *
  generalize hag : tagg D t = ag at *
  cases x <;> try exact False.elim h
  · rename_i u x
    unfold aPart at *
    cases ag with
    | none => exact False.elim h
    | some b =>
      simp only at h ⊢
      cases hs : u.sub x b off sz with
      | none => rw [hs] at h; exact False.elim h
      | some uy =>
        obtain ⟨u', y⟩ := uy
        rw [hs] at h
        simp only at h ⊢
        obtain ⟨hb, _⟩ := gate_of h
        rw [gate_true hb]
        simp only [Bool.and_eq_true] at hb
        obtain ⟨hz, hu⟩ := hb
        have hz := blt_of hz
        obtain ⟨cs', hcs, hf⟩ := rel_agg hu hx
        cases hcs
        obtain ⟨k1, k2, k3⟩ := sub_sound u x cs' b off sz u' y hf hs
        have hr := rel_fz_mk k3
        cases b with
        | true =>
          refine ⟨.agg (cs'.toArray.extract off (off + sz)), by simp [part, run_isAgg hD hag, run_sizeOf hD hsz hz], ?_⟩
          have : valOf u' ((cs'.drop off).take sz) = .agg (cs'.toArray.extract off (off + sz)) := by
            unfold valOf; rw [if_pos k2]; simp
          rw [← this]; exact hr
        | false =>
          have hl := k3.len
          have h1 : u'.size = 1 := by cases u' <;> first | rfl | (cases k2)
          have hlt : off < cs'.length := by simp at hl; omega
          refine ⟨cs'[off], by simp [part, run_isAgg hD hag, hlt], ?_⟩
          have : valOf u' ((cs'.drop off).take sz) = cs'[off] := by
            unfold valOf; rw [if_neg (by simp [k2])]
            rw [List.drop_eq_getElem_cons hlt]
            cases sz with
            | zero => omega
            | succ n => rfl
          rw [← this]; exact hr
  · rename_i vs
    unfold aPart at *
    unfold Rel at hx
    obtain ⟨us, hus, hr⟩ := hx
    cases hus
    cases ag with
    | none => exact False.elim h
    | some b =>
      cases b with
      | true =>
        simp only at h ⊢
        obtain ⟨hb, _⟩ := gate_of h
        rw [gate_true hb]
        refine ⟨.agg (us.toArray.extract off (off + sz)), by simp [part, run_isAgg hD hag, run_sizeOf hD hsz (blt_of hb)], ?_⟩
        unfold Rel
        refine ⟨(us.drop off).take sz, by simp, RelL.of_get _ _ (by simp [hr.length]) (fun i a v h1 h2 => ?_)⟩
        rw [List.getElem?_take, List.getElem?_drop] at h1 h2
        split at h1
        · rename_i hi
          rw [if_pos hi] at h2
          obtain ⟨v', e1, e2⟩ := hr.get _ _ _ _ h1
          rw [e1] at h2; cases h2; exact e2
        · cases h1
      | false =>
        simp only at h ⊢
        obtain ⟨hb, _⟩ := gate_of h
        rw [gate_true hb]
        simp only [Bool.and_eq_true] at hb
        have hlt := blt_of hb.2
        obtain ⟨v, e1, e2⟩ := hr.get _ _ off (vs[off]) (List.getElem?_eq_getElem hlt)
        refine ⟨v, by simp [part, run_isAgg hD hag, e1], ?_⟩
        simpa [List.getD, hlt] using e2
end Go.Ab
/-
  Operations that only look (3): addresses, loads, indexes.
-/
namespace Go.Ab
open Go
/-- an index within -/
def inR (n : Int) (m : Nat) : Prop := 0 ≤ n ∧ n < (m : Int)
def toPtr : Option (Σ u : Ty, u.den) → AR
  | some ⟨u, y⟩ => (none, .fptr u y)
  | none => no
def aFieldAddr (D : Tab) (A : List AO) (t : TypeId) (f : Nat) (x : AV) : AR :=
  match tfld D t f, x with
  | some (off, ft), .ptr tok o => match A[tok]? with
    | some (.box _) => gate (Nat.blt 0 (tsz D ft)) (none, .ptr tok (o + off))
    | _ => no
  | some (off, ft), .elt tok i o => match A[tok]? with
    | some (.row _ _) => gate (Nat.blt 0 (tsz D ft)) (none, .elt tok i (o + off))
    | _ => no
  | some (off, ft), .fptr u y => match tagg D ft with
    | some ag => gate (Nat.blt 0 (tsz D ft)) (toPtr (u.sub y ag off (tsz D ft)))
    | none => no
  | _, _ => no
def aInt : AV → Option Int
  | .fz (.int _) n => some n
  | _ => none
theorem aInt_of {c : Cx} {i : AV} {n : Int} {j : Value} (h : aInt i = some n) (hi : Rel c i j) : ∃ k, j = .int k n := by
  cases i <;> try (cases h)
  rename_i u x
  cases u <;> try (cases h)
  exact ⟨_, rel_int.1 hi⟩
def aIndexAddrI (D : Tab) (A : List AO) (t : TypeId) (n : Int) : AV → AR
  | .fz (.list e) xs => match telem D t with
    | some el => gate (Nat.beq (tsz D el) e.size && Nat.blt 0 e.size) (some (inR n (List.length xs)), .fptr e (List.getD xs (Int.toNat n) e.dft))
    | none => no
  | .ref tok off len => match A[tok]?, telem D t with
    | some (.row e _), some el => gate (Nat.beq (tsz D el) e.size && Nat.blt 0 e.size) (some (inR n len), .elt tok (off + (Int.toNat n)) 0)
    | _, _ => no
  | .ptr tok off => match A[tok]?, tarr D t with
    | some (.box _), some (m, el) => gate (Nat.blt 0 (tsz D el)) (some (inR n m), .ptr tok (off + (Int.toNat n) * tsz D el))
    | _, _ => no
  | .fptr (.arr m e) x => match tarr D t with
    | some (m', el) => gate (Nat.beq m m' && Nat.beq (tsz D el) e.size && Nat.blt 0 e.size) (some (inR n m), .fptr e (List.getD x (Int.toNat n) e.dft))
    | none => no
  | _ => no
def aIndexAddr (D : Tab) (A : List AO) (t : TypeId) (x i : AV) : AR :=
  match aInt i with
  | some n => aIndexAddrI D A t n x
  | none => no
def oIs (b : Bool) : Option Bool → Bool
  | some c => bEq b c
  | none => false
theorem oIs_of {b : Bool} {o : Option Bool} (h : oIs b o = true) : o = some b := by
  cases o with
  | none => cases h
  | some c => rw [bEq_of h]
def aIndexI (D : Tab) (t : TypeId) (n : Int) : AV → AR
  | .fz (.arr m e) x => match tarr D t with
    | some (m', el) => gate (Nat.beq m m' && Nat.beq (tsz D el) e.size && oIs e.isAgg (tagg D el) && Nat.blt 0 e.size) (some (inR n m), .fz e (List.getD x (Int.toNat n) e.dft))
    | none => no
  | .fz .str s => gate (tstr D t) (some (inR n (ByteArray.size s)), .fz (.int .u8) ((((ByteArray.data s).toList.getD (Int.toNat n) 0).toNat : Nat) : Int))
  | .agg vs => match tarr D t with
    | some (m, el) => (andC (some (inR n m)) (aPart (tagg D el) ((Int.toNat n) * tsz D el) (tsz D el) (.agg vs)).1, (aPart (tagg D el) ((Int.toNat n) * tsz D el) (tsz D el) (.agg vs)).2)
    | none => no
  | _ => no
def aIndex (D : Tab) (t : TypeId) (x i : AV) : AR :=
  match aInt i with
  | some n => aIndexI D t n x
  | none => no
def aLoad (D : Tab) (G : List (Nat × Value)) (A : List AO) (t : TypeId) (x : AV) : AR :=
  match tagg D t, x with
  | some ag, .ptr tok off => match A[tok]? with
    | some (.box vs) => match ag with
      | true => gate (Nat.blt 0 (tsz D t) && Nat.ble (off + tsz D t) vs.length) (none, .agg ((vs.drop off).take (tsz D t)))
      | false => gate (Nat.beq (tsz D t) 1 && Nat.blt off vs.length) (none, vs.getD off .unk)
    | _ => no
  | some ag, .fptr u y => gate (Nat.beq (tsz D t) u.size && Nat.blt 0 u.size && bEq u.isAgg ag) (none, .fz u y)
  | some ag, .elt tok i off => match A[tok]? with
    | some (.row e xs) => match e.sub (List.getD xs i e.dft) ag off (tsz D t) with
      | some ⟨u, y⟩ => gate (Nat.blt 0 (tsz D t)) (some (i < List.length xs), .fz u y)
      | none => no
    | _ => no
  | some ag, .glob g => match gk G g with
    | some v => gate (bEq ag false && Nat.beq (tsz D t) 1 && !isTab v) (none, .fz .raw v)
    | none => no
  | _, _ => no
theorem plain_add (b o k : Nat) : (⟨b, o, none⟩ : Addr).add k = ⟨b, o + k, none⟩ := by
  unfold Addr.add; split
  · rename_i h; rw [h]; rfl
  · rfl
theorem run_loadVar {P : Program} {D : Tab} (hD : TabOk P D) {w : World} {t : TypeId} {ag : Bool} {b o : Nat} {cs : List Value} (hag : tagg D t = some ag) (hsz : tsz D t = cs.length) (h0 : 0 < cs.length) (h1 : ag = false → cs.length = 1)
    (hc : ∀ j (h : j < cs.length), w.cell? ⟨b, o + j, none⟩ = some cs[j]) : (loadVar t ⟨b, o, none⟩).run P w = .ok (if ag = true then .agg cs.toArray else cs.headD .nilIface) w := by
  cases ag with
  | true =>
    have hl := run_loadCells_list (P := P) (w := w) ⟨b, o, none⟩ cs (fun j v hj => by
      have hlt := get_lt hj
      rw [plain_add, hc j hlt]; rw [List.getElem?_eq_getElem hlt] at hj; exact hj)
    simp [loadVar, run_isAgg hD hag, run_sizeOf hD hsz h0, hl]
  | false =>
    have hl := h1 rfl
    match cs, hl with
    | [v], _ =>
      have := hc 0 (by simp)
      simp at this
      simp [loadVar, run_isAgg hD hag, this]
theorem isAgg_size {u : Ty} (h : u.isAgg = false) : u.size = 1 := by cases u <;> first | rfl | (cases h)
theorem if_valOf {u : Ty} {cs : List Value} : (if u.isAgg = true then Value.agg cs.toArray else cs.headD .nilIface) = valOf u cs := rfl
theorem aLoad_sound {P : Program} {D : Tab} (hD : TabOk P D) {c : Cx} (H : HR c) {t : TypeId} {x : AV} {v : Value} (hx : Rel c x v) (h : Hold (aLoad D c.G c.A t x).1) :
    ∃ r, (Instr.loadAt t v).run P c.w = .ok r c.w ∧ Rel c (aLoad D c.G c.A t x).2 r := by
  unfold aLoad at *
  cases hag : tagg D t with
  | none => rw [hag] at h; exact False.elim h
  | some ag =>
    rw [hag] at h
    cases x <;> try exact False.elim h
    case fptr u y =>
      simp only at h ⊢
      obtain ⟨hb, _⟩ := gate_of h
      rw [gate_true hb]
      simp only [Bool.and_eq_true] at hb
      obtain ⟨⟨h1, h2⟩, h3⟩ := hb
      have h1 := beq_eq h1
      have h2 := blt_of h2
      have h3 := bEq_of h3
      unfold Rel at hx
      obtain ⟨b, o, cs, rfl, hI, hlt, hf, hc⟩ := hx
      have hl := hf.len
      refine ⟨valOf u cs, ?_, rel_fz_mk hf⟩
      have := run_loadVar hD (w := c.w) (t := t) (b := b) (o := o) (cs := cs) hag (by omega) (by omega) (fun ha => by subst h3; rw [hl]; exact isAgg_size ha) hc
      subst h3
      rw [if_valOf] at this
      simpa [Instr.loadAt, Instr.sureAddr] using this
    case glob g =>
      simp only at h ⊢
      cases hg : gk c.G g with
      | none => rw [hg] at h; exact False.elim h
      | some u =>
        rw [hg] at h
        obtain ⟨hb, _⟩ := gate_of h
        simp only
        rw [gate_true hb]
        simp only [Bool.and_eq_true] at hb
        have h1 := bEq_of hb.1.1
        subst h1
        have ht : isTab u = false := by simpa using hb.2
        have k2 := (H.glo g u hg).cell ht
        have k3 := (H.glo g u hg).one ht
        unfold Rel at hx
        subst hx
        refine ⟨u, ?_, (rel_raw k3).2 rfl⟩
        simp [Instr.loadAt, Instr.sureAddr, loadVar, run_isAgg hD hag, k2]
    case ptr tok off =>
      simp only at h ⊢
      unfold Rel at hx
      cases ht : c.A[tok]? with
      | none => rw [ht] at h; exact False.elim h
      | some o =>
        rw [ht] at h hx
        cases o <;> try exact False.elim h
        rename_i vs
        simp only at h hx ⊢
        obtain ⟨b, hr, rfl⟩ := hx
        have ho := H.obj tok _ ht
        rw [hr] at ho
        obtain ⟨b', cs, et, hb, hh, hrel⟩ := ho
        cases hb
        have hlen := hrel.length
        have hcell : ∀ j (hj : j < ((cs.drop off).take (tsz D t)).length), c.w.cell? ⟨b, off + j, none⟩ = some ((cs.drop off).take (tsz D t))[j] := by
          intro j hj
          simp at hj
          simp [World.cell?, hh]
        cases ag with
        | true =>
          simp only at h ⊢
          obtain ⟨hb, _⟩ := gate_of h
          rw [gate_true hb]
          simp only [Bool.and_eq_true] at hb
          have h1 := blt_of hb.1
          have h2 := Nat.le_of_ble_eq_true hb.2
          have := run_loadVar hD (w := c.w) (t := t) (b := b) (o := off) (cs := (cs.drop off).take (tsz D t)) hag (by simp; omega) (by simp; omega) (fun ha => by cases ha) hcell
          refine ⟨_, by simpa [Instr.loadAt, Instr.sureAddr] using this, ?_⟩
          unfold Rel
          refine ⟨(cs.drop off).take (tsz D t), by simp, RelL.of_get _ _ (by simp; omega) (fun i a v h1 h2 => ?_)⟩
          rw [List.getElem?_take, List.getElem?_drop] at h1 h2
          split at h1
          · rename_i hi
            rw [if_pos hi] at h2
            obtain ⟨v', e1, e2⟩ := hrel.get _ _ _ _ h1
            rw [e1] at h2; cases h2; exact e2
          · cases h1
        | false =>
          simp only at h ⊢
          obtain ⟨hb, _⟩ := gate_of h
          rw [gate_true hb]
          simp only [Bool.and_eq_true] at hb
          have h1 := beq_eq hb.1
          have hlt := blt_of hb.2
          have := run_loadVar hD (w := c.w) (t := t) (b := b) (o := off) (cs := (cs.drop off).take (tsz D t)) hag (by simp; omega) (by simp; omega) (fun ha => by simp; omega) hcell
          obtain ⟨v', e1, e2⟩ := hrel.get _ _ off (vs[off]) (List.getElem?_eq_getElem hlt)
          have e3 : ((cs.drop off).take (tsz D t)).headD .nilIface = v' := by
            rw [h1, List.drop_eq_getElem_cons (by omega)]
            rw [List.getElem?_eq_getElem (by omega)] at e1
            have := Option.some.inj e1
            rw [← this]; rfl
          simp only [Bool.false_eq_true, if_false] at this
          rw [e3] at this
          refine ⟨v', by simpa [Instr.loadAt, Instr.sureAddr] using this, ?_⟩
          simpa [List.getD, hlt] using e2
    case elt tok i off =>
      simp only at h ⊢
      unfold Rel at hx
      cases ht : c.A[tok]? with
      | none => rw [ht] at h; exact False.elim h
      | some o =>
        rw [ht] at h hx
        cases o <;> try exact False.elim h
        rename_i e xs
        simp only at h hx ⊢
        cases hs : e.sub (List.getD xs i e.dft) ag off (tsz D t) with
        | none => rw [hs] at h; exact False.elim h
        | some uy =>
          obtain ⟨u, y⟩ := uy
          rw [hs] at h
          simp only at h ⊢
          obtain ⟨hb, h1⟩ := gate_of h
          rw [gate_true hb]
          have h2 := blt_of hb
          obtain ⟨b, hr, rfl⟩ := hx
          have ho := H.obj tok _ ht
          rw [hr] at ho
          rcases ho with ⟨hn, _⟩ | ⟨b', cs, et, hb, hh, hrow⟩
          · cases hn
          · cases hb
            have h1 : i < List.length xs := h1
            obtain ⟨ds, hf, hd⟩ := hrow i h1
            have hg : List.getD xs i e.dft = xs[i] := by simp [List.getD, List.getElem?_eq_getElem h1]
            rw [hg] at hs
            obtain ⟨k1, k2, k3⟩ := sub_sound e _ ds ag off (tsz D t) u y hf hs
            have hl := k3.len
            have hle := k3.len
            simp at hle
            have hcell : ∀ j (hj : j < ((ds.drop off).take (tsz D t)).length), c.w.cell? ⟨b, i * e.size + off + j, none⟩ = some ((ds.drop off).take (tsz D t))[j] := by
              intro j hj
              simp at hj
              have := hd (off + j) (by omega)
              simp [World.cell?, hh, Nat.add_assoc, this]
            have := run_loadVar hD (w := c.w) (t := t) (b := b) (o := i * e.size + off) (cs := (ds.drop off).take (tsz D t)) hag (by rw [hl]; exact k1.symm) (by rw [hl]; omega) (fun ha => by rw [hl]; exact isAgg_size (k2.trans ha)) hcell
            subst k2
            rw [if_valOf] at this
            exact ⟨_, by simpa [Instr.loadAt, Instr.sureAddr] using this, rel_fz_mk k3⟩
end Go.Ab
/-
  Operations that only look (4): fields, indexes, picks, numbers, making of values.
-/
namespace Go.Ab
open Go
theorem run_underlying' {P : Program} {t : TypeId} {d : TypeDesc} (h : P.underlying t = some d) (w : World) : (underlying t).run P w = .ok d w := by
  simp [underlying, h]
theorem aFieldAddr_sound {P : Program} {D : Tab} (hD : TabOk P D) {c : Cx} {t : TypeId} {f : Nat} {x : AV} {v : Value} (hx : Rel c x v) (h : Hold (aFieldAddr D c.A t f x).1) :
    ∃ r, (Instr.fieldAt t v f).run P c.w = .ok r c.w ∧ Rel c (aFieldAddr D c.A t f x).2 r := by
  unfold aFieldAddr at *
  cases hf : tfld D t f with
  | none => rw [hf] at h; cases x <;> exact False.elim h
  | some p =>
    obtain ⟨off, ft⟩ := p
    rw [hf] at h
    obtain ⟨fs, fd, hu, hfs, rfl, rfl⟩ := of_tfld hD hf
    have key : ∀ (b o : Nat), 0 < tsz D fd.type → (Instr.fieldAt t (.pointer (some ⟨b, o, none⟩)) f).run P c.w = .ok (.pointer (some ⟨b, o + fd.offset, none⟩)) c.w := by
      intro b o hz
      simp [Instr.fieldAt, run_underlying' hu, hfs, Instr.sureAddr, fieldPlace, run_sizeOf hD rfl hz, plain_add]
      intro h0; omega
    cases x <;> try exact False.elim h
    case ptr tok o =>
      simp only at h ⊢
      unfold Rel at hx
      cases ht : c.A[tok]? with
      | none => rw [ht] at h; exact False.elim h
      | some ob =>
        rw [ht] at hx h
        cases ob <;> try exact False.elim h
        obtain ⟨b, hr, rfl⟩ := hx
        obtain ⟨hb, _⟩ := gate_of h
        rw [gate_true hb]
        exact ⟨_, key b o (blt_of hb), by unfold Rel; rw [ht]; exact ⟨b, hr, rfl⟩⟩
    case elt tok i o =>
      simp only at h ⊢
      unfold Rel at hx
      cases ht : c.A[tok]? with
      | none => rw [ht] at h; exact False.elim h
      | some ob =>
        rw [ht] at hx h
        cases ob <;> try exact False.elim h
        obtain ⟨b, hr, rfl⟩ := hx
        obtain ⟨hb, _⟩ := gate_of h
        rw [gate_true hb]
        exact ⟨_, key b _ (blt_of hb), by unfold Rel; rw [ht]; exact ⟨b, hr, by rw [Nat.add_assoc]⟩⟩
    case fptr u y =>
      simp only at h ⊢
      cases hag : tagg D fd.type with
      | none => rw [hag] at h; exact False.elim h
      | some ag =>
        rw [hag] at h
        simp only at h ⊢
        obtain ⟨hb, h⟩ := gate_of h
        rw [gate_true hb]
        have hz := blt_of hb
        cases hs : u.sub y ag fd.offset (tsz D fd.type) with
        | none => rw [hs] at h; exact False.elim h
        | some uy =>
          obtain ⟨u', y'⟩ := uy
          simp only [toPtr]
          unfold Rel at hx
          obtain ⟨b, o, cs, rfl, hI, hlt, hfz, hc⟩ := hx
          obtain ⟨k1, k2, k3⟩ := sub_sound u y cs ag _ _ u' y' hfz hs
          refine ⟨_, key b o hz, ?_⟩
          unfold Rel
          refine ⟨b, o + fd.offset, _, rfl, hI, hlt, k3, fun j hj => ?_⟩
          simp at hj
          have := hc (fd.offset + j) (by omega)
          simp [Nat.add_assoc, this]
theorem getD_of_lt {α : Type} {l : List α} {i : Nat} {d : α} (h : i < l.length) : l.getD i d = l[i] := by simp [List.getD, List.getElem?_eq_getElem h]
theorem aIndexAddr_sound {P : Program} {D : Tab} (hD : TabOk P D) {c : Cx} {t : TypeId} {x i : AV} {v j : Value} (hx : Rel c x v) (hi : Rel c i j) (h : Hold (aIndexAddr D c.A t x i).1) :
    ∃ r, (Instr.indexAt t v j).run P c.w = .ok r c.w ∧ Rel c (aIndexAddr D c.A t x i).2 r := by
  unfold aIndexAddr at *
  cases hn : aInt i with
  | none => rw [hn] at h; exact False.elim h
  | some n =>
  rw [hn] at h
  simp only at h ⊢
  obtain ⟨k, rfl⟩ := aInt_of hn hi
  clear hn hi
  unfold aIndexAddrI at *
  cases x <;> try exact False.elim h
  case fz u xs =>
    cases u <;> try exact False.elim h
    rename_i e
    simp only at h ⊢
    cases hel : telem D t with
    | none => rw [hel] at h; exact False.elim h
    | some el =>
      rw [hel] at h
      simp only at h ⊢
      obtain ⟨hb, h3, h4⟩ := gate_of h
      rw [gate_true hb]
      simp only [Bool.and_eq_true] at hb
      have h1 := beq_eq hb.1
      have h2 := blt_of hb.2
      obtain ⟨p, cap, rfl, hf⟩ := rel_list hx
      obtain ⟨m, rfl⟩ := Int.eq_ofNat_of_zero_le h3
      have hm : m < List.length xs := by omega
      unfold FzC at hf
      obtain ⟨p', cap', hv, _, hall⟩ := hf
      simp at hv
      obtain ⟨rfl, rfl⟩ := hv
      obtain ⟨b, o, cs, rfl, hI, hlt, hfz, hc⟩ := hall m hm
      refine ⟨.pointer (some ⟨b, o + m * e.size, none⟩), ?_, ?_⟩
      · simp [Instr.indexAt, asIntOf, run_underlying' (of_telem hD hel), run_sizeOf hD h1 h2, plain_add, hm]
      · unfold Rel
        refine ⟨b, _, cs, rfl, hI, hlt, ?_, hc⟩
        have : List.getD xs (Int.toNat (m : Int)) e.dft = xs[m] := by rw [Int.toNat_natCast]; exact getD_of_lt hm
        rw [this]; exact hfz
  case ref tok off len =>
    simp only at h ⊢
    unfold Rel at hx
    cases ht : c.A[tok]? with
    | none => rw [ht] at h; exact False.elim h
    | some o =>
      rw [ht] at h hx
      cases o <;> try exact False.elim h
      rename_i e xs
      simp only at h hx ⊢
      cases hel : telem D t with
      | none => rw [hel] at h; exact False.elim h
      | some el =>
        rw [hel] at h
        simp only at h ⊢
        obtain ⟨hb, h3, h4⟩ := gate_of h
        rw [gate_true hb]
        simp only [Bool.and_eq_true] at hb
        have h1 := beq_eq hb.1
        have h2 := blt_of hb.2
        obtain ⟨m, rfl⟩ := Int.eq_ofNat_of_zero_le h3
        rcases hx with ⟨b, cap, cs, et, a, hr, rfl, ha, hle, hh, hsz⟩ | ⟨_, _, hl, _⟩
        · have := ha (by omega); subst this
          have hm : m < len := by omega
          refine ⟨.pointer (some ⟨b, off * e.size + m * e.size, none⟩), ?_, ?_⟩
          · simp [Instr.indexAt, asIntOf, run_underlying' (of_telem hD hel), run_sizeOf hD h1 h2, plain_add, hm]
          · unfold Rel; rw [ht]; exact ⟨b, hr, by rw [Int.toNat_natCast, Nat.add_mul, Nat.add_zero]⟩
        · omega
  case ptr tok off =>
    simp only at h ⊢
    unfold Rel at hx
    cases ht : c.A[tok]? with
    | none => rw [ht] at h; exact False.elim h
    | some o =>
      rw [ht] at h hx
      cases o <;> try exact False.elim h
      simp only at h hx ⊢
      cases hel : tarr D t with
      | none => rw [hel] at h; exact False.elim h
      | some me =>
        obtain ⟨m, el⟩ := me
        rw [hel] at h
        simp only at h ⊢
        obtain ⟨hb, h3, h4⟩ := gate_of h
        rw [gate_true hb]
        have h1 := blt_of hb
        obtain ⟨q, rfl⟩ := Int.eq_ofNat_of_zero_le h3
        obtain ⟨b, hr, rfl⟩ := hx
        have hm : q < m := by omega
        refine ⟨.pointer (some ⟨b, off + q * tsz D el, none⟩), ?_, ?_⟩
        · simp [Instr.indexAt, asIntOf, run_underlying' (of_tarr hD hel), run_sizeOf hD rfl h1, plain_add, Instr.sureAddr, hm]
        · unfold Rel; rw [ht]; exact ⟨b, hr, by rw [Int.toNat_natCast]⟩
  case fptr u y =>
    cases u <;> try exact False.elim h
    rename_i m e
    simp only at h ⊢
    cases hel : tarr D t with
    | none => rw [hel] at h; exact False.elim h
    | some me =>
      obtain ⟨m', el⟩ := me
      rw [hel] at h
      simp only at h ⊢
      obtain ⟨hb, h3, h4⟩ := gate_of h
      rw [gate_true hb]
      simp only [Bool.and_eq_true] at hb
      have h0 := beq_eq hb.1.1
      have h1 := beq_eq hb.1.2
      have h2 := blt_of hb.2
      subst h0
      obtain ⟨q, rfl⟩ := Int.eq_ofNat_of_zero_le h3
      have hm : q < m := by omega
      unfold Rel at hx
      obtain ⟨b, o, cs, rfl, hI, hlt, hfz, hc⟩ := hx
      obtain ⟨hl, css, hn, rfl, hall⟩ := hfz
      have hlen : ∀ j, j < css.length → (css.getD j []).length = e.size := fun j hj => (hall j (by rw [hl, ← hn]; exact hj)).len
      have hg : List.getD y (Int.toNat (q : Int)) e.dft = y[q]'(by rw [hl]; exact hm) := by rw [Int.toNat_natCast]; exact getD_of_lt (by rw [hl]; exact hm)
      have hf := hall q (by rw [hl]; exact hm)
      refine ⟨.pointer (some ⟨b, o + q * e.size, none⟩), ?_, ?_⟩
      · simp [Instr.indexAt, asIntOf, run_underlying' (of_tarr hD hel), run_sizeOf hD h1 h2, plain_add, Instr.sureAddr, hm]
      · rw [hg]
        unfold Rel
        refine ⟨b, _, css.getD q [], rfl, hI, hlt, hf, fun j hj => ?_⟩
        have hq := hlen q (by omega)
        have h5 := getD_flatten (s := e.size) css q 0 e.size hlen (by omega) (by omega)
        have h6 : (css.flatten.drop (q * e.size)).take e.size = css.getD q [] := by
          rw [Nat.add_zero] at h5; rw [h5, List.drop_zero, ← hq, List.take_length]
        have h7 : css.flatten[q * e.size + j]? = (css.getD q [])[j]? := by
          rw [← h6, List.getElem?_take, if_pos (by omega), List.getElem?_drop]
        rw [List.getElem?_eq_getElem hj] at h7
        have h8 := hc (q * e.size + j) (get_lt h7)
        rw [List.getElem?_eq_getElem (get_lt h7)] at h7
        rw [Nat.add_assoc, h8]; exact h7
end Go.Ab
/-
  Operations that only look (5): values' parts, picks, numbers, slices, and all together.
-/
namespace Go.Ab
open Go
theorem rel_agg' {c : Cx} {u : Ty} {x : u.den} {v : Value} (ha : u.isAgg = true) (h : Rel c (.fz u x) v) : ∃ cs : Array Value, v = .agg cs := by
  obtain ⟨cs, rfl, _⟩ := rel_agg ha h; exact ⟨_, rfl⟩
theorem aPart_agg {c : Cx} {ag : Option Bool} {off sz : Nat} {x : AV} {v : Value} (hx : Rel c x v) (h : Hold (aPart ag off sz x).1) : ∃ cs : Array Value, v = .agg cs := by
  unfold aPart at h
  cases x <;> try exact False.elim h
  · rename_i u x
    cases ag with
    | none => exact False.elim h
    | some b =>
      simp only at h
      cases hs : u.sub x b off sz with
      | none => rw [hs] at h; exact False.elim h
      | some uy =>
        obtain ⟨u', y⟩ := uy
        rw [hs] at h
        obtain ⟨hb, _⟩ := gate_of h
        simp only [Bool.and_eq_true] at hb
        exact rel_agg' hb.2 hx
  · unfold Rel at hx; obtain ⟨us, rfl, _⟩ := hx; exact ⟨_, rfl⟩
theorem aField_sound {P : Program} {D : Tab} (hD : TabOk P D) {c : Cx} {t : TypeId} {f : Nat} {x : AV} {v : Value} (hx : Rel c x v) (h : Hold (aField D t f x).1) :
    ∃ r, (Instr.field t v f).run P c.w = .ok r c.w ∧ Rel c (aField D t f x).2 r := by
  unfold aField at *
  cases hf : tfld D t f with
  | none => rw [hf] at h; exact False.elim h
  | some p =>
    obtain ⟨off, ft⟩ := p
    rw [hf] at h
    simp only at h ⊢
    obtain ⟨fs, fd, hu, hfs, rfl, rfl⟩ := of_tfld hD hf
    obtain ⟨cs, rfl⟩ := aPart_agg hx h
    obtain ⟨r, h1, h2⟩ := aPart_sound hD hx h
    exact ⟨r, by simp [Instr.field, run_underlying' hu, hfs, asAgg, h1], h2⟩
theorem aIndex_sound {P : Program} {D : Tab} (hD : TabOk P D) {c : Cx} {t : TypeId} {x i : AV} {v j : Value} (hx : Rel c x v) (hi : Rel c i j) (h : Hold (aIndex D t x i).1) :
    ∃ r, (Instr.index t v j).run P c.w = .ok r c.w ∧ Rel c (aIndex D t x i).2 r := by
  unfold aIndex at *
  cases hn : aInt i with
  | none => rw [hn] at h; exact False.elim h
  | some n =>
  rw [hn] at h
  simp only at h ⊢
  obtain ⟨k, rfl⟩ := aInt_of hn hi
  clear hn hi
  unfold aIndexI at *
  cases x <;> try exact False.elim h
  case fz u xs =>
    cases u <;> try exact False.elim h
    case str =>
      simp only at h ⊢
      obtain ⟨hb, h2, h3⟩ := gate_of h
      rw [gate_true hb]
      have h1 := of_tstr hD hb
      obtain rfl := rel_str.1 hx
      obtain ⟨q, rfl⟩ := Int.eq_ofNat_of_zero_le h2
      have hq : q < ByteArray.size xs := by omega
      have hg : (xs : ByteArray)[q]? = some ((ByteArray.data xs).toList.getD (Int.toNat (q : Int)) 0) := by
        rw [Int.toNat_natCast, getD_of_lt (by simpa using hq)]
        simp [hq]; rfl
      refine ⟨.int .u8 ((((ByteArray.data xs).toList.getD (Int.toNat (q : Int)) 0).toNat : Nat) : Int), ?_, rel_int.2 rfl⟩
      simp [Instr.index, asIntOf, run_underlying' h1, hg]
    case arr m e =>
      simp only at h ⊢
      cases hel : tarr D t with
      | none => rw [hel] at h; exact False.elim h
      | some me =>
        obtain ⟨m', el⟩ := me
        rw [hel] at h
        simp only at h ⊢
        obtain ⟨hb, h3, h4⟩ := gate_of h
        rw [gate_true hb]
        simp only [Bool.and_eq_true] at hb
        have h0 := beq_eq hb.1.1.1
        have h1 := beq_eq hb.1.1.2
        have hag := oIs_of hb.1.2
        have h2 := blt_of hb.2
        subst h0
        obtain ⟨q, rfl⟩ := Int.eq_ofNat_of_zero_le h3
        have hm : q < m := by omega
        obtain ⟨cs, rfl, hfz⟩ := rel_agg rfl hx
        obtain ⟨hl, css, hn, rfl, hall⟩ := hfz
        have hlen : ∀ j, j < css.length → (css.getD j []).length = e.size := fun j hj => (hall j (by rw [hl, ← hn]; exact hj)).len
        have hg : List.getD xs (Int.toNat (q : Int)) e.dft = xs[q]'(by rw [hl]; exact hm) := by rw [Int.toNat_natCast]; exact getD_of_lt (by rw [hl]; exact hm)
        have hf := hall q (by rw [hl]; exact hm)
        have h5 := getD_flatten (s := e.size) css q 0 e.size hlen (by omega) (by omega)
        have h6 : (css.flatten.drop (q * e.size)).take e.size = css.getD q [] := by
          rw [Nat.add_zero] at h5; rw [h5, List.drop_zero, ← hlen q (by omega), List.take_length]
        rw [hg]
        refine ⟨valOf e (css.getD q []), ?_, rel_fz_mk hf⟩
        unfold valOf
        cases ha : e.isAgg with
        | true =>
          rw [ha] at hag
          simp [Instr.index, asIntOf, run_underlying' (of_tarr hD hel), run_sizeOf hD h1 h2, part, run_isAgg hD hag, hm]
          have := h6
          simpa using this
        | false =>
          rw [ha] at hag
          have hs1 := isAgg_size ha
          have hq := hlen q (by omega)
          rw [hs1] at hq h6
          have h7 : css.flatten[q * 1]? = some ((css.getD q []).headD .nilIface) := by
            have h8 : css.flatten[q * 1]? = (css.getD q [])[0]? := by rw [← h6, List.getElem?_take, if_pos (by omega), List.getElem?_drop, Nat.add_zero]
            rw [h8]
            match css.getD q [], hq with
            | [v], _ => rfl
          rw [Nat.mul_one] at h7
          simp [Instr.index, asIntOf, run_underlying' (of_tarr hD hel), run_sizeOf hD (h1.trans hs1) (by omega), part, run_isAgg hD hag, hm, h7]
  case agg vs =>
    simp only at h ⊢
    cases hel : tarr D t with
    | none => rw [hel] at h; exact False.elim h
    | some me =>
      obtain ⟨m, el⟩ := me
      rw [hel] at h
      simp only at h ⊢
      obtain ⟨⟨h3, h4⟩, h5⟩ := andC_of h
      obtain ⟨q, rfl⟩ := Int.eq_ofNat_of_zero_le h3
      have hm : q < m := by omega
      obtain ⟨cs, rfl⟩ := aPart_agg hx h5
      obtain ⟨r, k1, k2⟩ := aPart_sound hD hx h5
      have hz : 0 < tsz D el := by
        unfold aPart at h5
        cases hg : tagg D el with
        | none => rw [hg] at h5; exact h5.elim
        | some b =>
          rw [hg] at h5
          cases b with
          | true => exact blt_of (gate_of h5).1
          | false =>
            have hb := (gate_of h5).1
            simp only [Bool.and_eq_true] at hb
            exact blt_of hb.1
      refine ⟨r, ?_, k2⟩
      rw [Int.toNat_natCast] at k1
      simp [Instr.index, asIntOf, run_underlying' (of_tarr hD hel), run_sizeOf hD rfl hz, hm, k1]
theorem stripO_sound {c : Cx} {g : Bool} {a : AV} {v : Value} (h : Rel c a v) (hg : g = true) (hs : Hold (stripO g a).1) : Rel c (stripO g a).2 v := by
  cases a <;> try exact h
  unfold Rel at h
  exact h.1 (hs hg)
theorem iteAV_sound {c : Cx} {g : Bool} {a b : AV} {v : Value} (h1 : g = true → Rel c a v) (h2 : g = false → Rel c b v) : Rel c (iteAV g a b) v := by
  unfold iteAV
  split
  · cases g
    · exact h2 rfl
    · exact h1 rfl
  · cases g
    · exact h2 rfl
    · exact h1 rfl
  · cases g
    · exact h2 rfl
    · exact h1 rfl
theorem aPick_sound {P : Program} {c : Cx} {x a b : AV} {vx va vb : Value} (hx : Rel c x vx) (ha : Rel c a va) (hb : Rel c b vb) (h : Hold (aPick x a b).1) :
    ∃ r, (do pure (if ← asBool vx then va else vb) : Sem Value).run P c.w = .ok r c.w ∧ Rel c (aPick x a b).2 r := by
  unfold aPick at *
  cases x <;> try exact False.elim h
  rename_i u g
  cases u <;> try exact False.elim h
  obtain rfl := rel_bool.1 hx
  refine ⟨if g = true then va else vb, by simp [asBool], ?_⟩
  simp only at h ⊢
  unfold pickAV at *
  split at h
  · rename_i y hy1 hy2
    obtain ⟨hg, hb1⟩ := andC_of h
    have hg : g = false := hg
    rw [if_neg (by simp [hg])]
    exact stripO_sound hb (by simp [hg]) hb1
  · rename_i y hy1 hy2 hy3
    obtain ⟨hg, ha1⟩ := andC_of h
    have hg : g = true := hg
    rw [if_pos hg]
    exact stripO_sound ha hg ha1
  obtain ⟨ha1, hb1⟩ := andC_of h
  refine iteAV_sound (fun hg => ?_) (fun hg => ?_)
  · rw [if_pos hg]; exact stripO_sound ha hg ha1
  · rw [if_neg (by simp [hg])]; exact stripO_sound hb (by simp [hg]) hb1
end Go.Ab
/-
  Operations that only look (6): numbers, conversions, slices, lengths.
-/
namespace Go.Ab
open Go
theorem arI_sound {c : Cx} {k : IntKind} {n : Int} (h : Hold (arI k n).1) : Rel c (arI k n).2 (.int k (k.wrap n)) := by
  unfold arI at *
  cases k <;> try exact rel_int.2 rfl
  simp only at h ⊢
  rw [I64.wrap h]; exact rel_int.2 rfl
theorem aBinI_sound {P : Program} {c : Cx} {op : BinOp} {t : TypeId} {x y : Operand} {k k' : IntKind} {a b : Int} (h : Hold (aBinI op k k' a b).1) :
    ∃ r, (do eqGuard op t x y (.int k a) (.int k' b); binOp op t (.int k a) (.int k' b) : Sem Value).run P c.w = .ok r c.w ∧ Rel c (aBinI op k k' a b).2 r := by
  have hg : (eqGuard op t x y (.int k a) (.int k' b)).run P c.w = .ok () c.w := by
    unfold eqGuard; cases op <;> simp
  unfold aBinI at *
  cases op <;> try exact False.elim h
  case shl => exact ⟨_, by simp [hg, binOp, Op.shift, show ¬ b < 0 from fun hb => absurd (show (0 : Int) ≤ b from h) (by omega)], rel_int.2 rfl⟩
  case shr => exact ⟨_, by simp [hg, binOp, Op.shift, show ¬ b < 0 from fun hb => absurd (show (0 : Int) ≤ b from h) (by omega)], rel_int.2 rfl⟩
  all_goals (
    simp only at h ⊢
    have hb := (gate_of h).1
    have h2 := (gate_of h).2
    clear h
    rw [gate_true hb]
    have := kEq_of hb
    subst this
    have h := h2
    clear h2)
  case and => exact ⟨_, by simp only [Sem.run_bind, hg, Result.andThen_ok, binOp, Op.intBits, if_neg (fun h : k ≠ k => h rfl), Sem.run_pure, bitI], rel_int.2 rfl⟩
  case or => exact ⟨_, by simp only [Sem.run_bind, hg, Result.andThen_ok, binOp, Op.intBits, if_neg (fun h : k ≠ k => h rfl), Sem.run_pure, bitI], rel_int.2 rfl⟩
  case xor => exact ⟨_, by simp only [Sem.run_bind, hg, Result.andThen_ok, binOp, Op.intBits, if_neg (fun h : k ≠ k => h rfl), Sem.run_pure, bitI], rel_int.2 rfl⟩
  case andNot => exact ⟨_, by simp only [Sem.run_bind, hg, Result.andThen_ok, binOp, Op.intBits, if_neg (fun h : k ≠ k => h rfl), Sem.run_pure, bitI], rel_int.2 rfl⟩
  case add => exact ⟨_, by simp [hg, binOp, Op.intArith], arI_sound h⟩
  case sub => exact ⟨_, by simp [hg, binOp, Op.intArith], arI_sound h⟩
  case mul => exact ⟨_, by simp [hg, binOp, Op.intArith], arI_sound h⟩
  case quo =>
    obtain ⟨h1, h2⟩ := andC_of h
    have h1 : b ≠ 0 := h1
    exact ⟨_, by simp [hg, binOp, Op.intDiv, h1], arI_sound h2⟩
  case rem => exact ⟨_, by simp [hg, binOp, Op.intDiv, show b ≠ 0 from h], rel_int.2 rfl⟩
  case eql => exact ⟨_, by simp [hg, binOp, Op.intCmp], rel_bool.2 rfl⟩
  case neq => exact ⟨_, by simp [hg, binOp, Op.intCmp], rel_bool.2 rfl⟩
  case lss => exact ⟨_, by simp [hg, binOp, Op.intCmp], rel_bool.2 rfl⟩
  case leq => exact ⟨_, by simp [hg, binOp, Op.intCmp], rel_bool.2 rfl⟩
  case gtr => exact ⟨_, by simp [hg, binOp, Op.intCmp], rel_bool.2 rfl⟩
  case geq => exact ⟨_, by simp [hg, binOp, Op.intCmp], rel_bool.2 rfl⟩
theorem aBinS_sound {P : Program} {c : Cx} {op : BinOp} {t : TypeId} {x y : Operand} {a b : ByteArray} (h : Hold (aBinS op a b).1) :
    ∃ r, (do eqGuard op t x y (.string a) (.string b); binOp op t (.string a) (.string b) : Sem Value).run P c.w = .ok r c.w ∧ Rel c (aBinS op a b).2 r := by
  have hg : (eqGuard op t x y (.string a) (.string b)).run P c.w = .ok () c.w := by
    unfold eqGuard; cases op <;> simp
  unfold aBinS at *
  cases op <;> try exact False.elim h
  all_goals simp only at h ⊢
  case add =>
    have h : ((a.size + b.size : Nat) : Int) ≤ IntKind.i64.max := h
    have h' : ¬ (((a.size + b.size : Nat) : Int) > IntKind.i64.max) := by omega
    exact ⟨.string (a ++ b), by simp only [Sem.run_bind, hg, Result.andThen_ok, binOp, Op.stringOp, if_neg h', Sem.run_pure], rel_str.2 rfl⟩
  all_goals exact ⟨_, by simp only [Sem.run_bind, hg, Result.andThen_ok, binOp, Op.stringOp, Sem.run_pure], rel_bool.2 rfl⟩
theorem fAns_sound {c : Cx} {k : FloatKind} {o : Option Nat} (h : Hold (fAns k o).1) : ∃ r, o = some r ∧ Rel c (fAns k o).2 (.float k r) := by
  have h : o.isSome = true := h
  cases o with
  | none => cases h
  | some r => exact ⟨r, rfl, rel_flt.2 rfl⟩
theorem aBinF_sound {P : Program} {c : Cx} {op : BinOp} {t : TypeId} {x y : Operand} {k k' : FloatKind} {a b : Nat} (h : Hold (aBinF op k k' a b).1) :
    ∃ r, (do eqGuard op t x y (.float k a) (.float k' b); binOp op t (.float k a) (.float k' b) : Sem Value).run P c.w = .ok r c.w ∧ Rel c (aBinF op k k' a b).2 r := by
  have hg : (eqGuard op t x y (.float k a) (.float k' b)).run P c.w = .ok () c.w := by
    unfold eqGuard; cases op <;> simp
  unfold aBinF at *
  cases op <;> try exact False.elim h
  all_goals (
    simp only at h ⊢
    have hb := (gate_of h).1
    have h2 := (gate_of h).2
    clear h
    rw [gate_true hb]
    have := fkE_of hb
    subst this)
  case add => obtain ⟨r, e, hr⟩ := fAns_sound h2; exact ⟨_, by simp [hg, binOp, Op.floatArith, e], hr⟩
  case sub => obtain ⟨r, e, hr⟩ := fAns_sound h2; exact ⟨_, by simp [hg, binOp, Op.floatArith, e], hr⟩
  case mul => obtain ⟨r, e, hr⟩ := fAns_sound h2; exact ⟨_, by simp [hg, binOp, Op.floatArith, e], hr⟩
  case quo => obtain ⟨r, e, hr⟩ := fAns_sound h2; exact ⟨_, by simp [hg, binOp, Op.floatArith, e], hr⟩
  all_goals exact ⟨_, by simp [hg, binOp, Op.floatCmp], rel_bool.2 rfl⟩
theorem run_equal_bool {P : Program} {t : TypeId} {a b : Bool} {w : World} (h : P.underlying t = some .bool) : (Op.equal t (.bool a) (.bool b)).run P w = .ok (a == b) w := by
  unfold Op.equal Op.maxDepth
  rw [show (10000 : Nat) = 9999 + 1 from rfl]
  unfold Op.equalIn
  simp [run_underlying' h]
theorem aBinB_sound {P : Program} {D : Tab} (hD : TabOk P D) {c : Cx} {op : BinOp} {t : TypeId} {x y : Operand} {a b : Bool} (h : Hold (aBinB D op t a b).1) :
    ∃ r, (do eqGuard op t x y (.bool a) (.bool b); binOp op t (.bool a) (.bool b) : Sem Value).run P c.w = .ok r c.w ∧ Rel c (aBinB D op t a b).2 r := by
  have hg : (eqGuard op t x y (.bool a) (.bool b)).run P c.w = .ok () c.w := by
    unfold eqGuard; cases op <;> simp
  unfold aBinB at *
  cases op <;> try exact False.elim h
  all_goals simp only at h ⊢
  all_goals obtain ⟨hb, _⟩ := gate_of h
  all_goals rw [gate_true hb]
  all_goals exact ⟨_, by simp only [Sem.run_bind, hg, Result.andThen_ok, binOp, run_equal_bool (of_tbool hD hb), Sem.run_pure], rel_bool.2 rfl⟩
theorem isNil_val {c : Cx} {x : AV} {v : Value} {b : Bool} (hx : Rel c x v) (h : isNil x = some b) : (b = true ∧ v = .nilIface) ∨ (b = false ∧ ∃ t u, v = .iface t u) := by
  unfold isNil at h
  split at h
  · cases h; exact .inl ⟨rfl, (rel_raw_of hx).1⟩
  · cases h; exact .inr ⟨rfl, _, _, (rel_raw_of hx).1⟩
  · cases h; unfold Rel at hx; obtain ⟨u, rfl, _⟩ := hx; exact .inr ⟨rfl, _, _, rfl⟩
  · cases h
theorem run_equal_nil {P : Program} {D : Tab} (hD : TabOk P D) {t : TypeId} {v : Value} {b : Bool} {w : World} (h : tiface D t = true) (hv : (b = true ∧ v = .nilIface) ∨ (b = false ∧ ∃ t u, v = .iface t u)) :
    (Op.equal t v .nilIface).run P w = .ok b w := by
  obtain ⟨ms, hu⟩ := of_tiface hD h
  unfold Op.equal Op.maxDepth
  rw [show (10000 : Nat) = 9999 + 1 from rfl]
  unfold Op.equalIn
  rcases hv with ⟨rfl, rfl⟩ | ⟨rfl, t', u, rfl⟩
  · simp [run_underlying' hu]
  · simp [run_underlying' hu]
theorem aBinNil_sound {P : Program} {D : Tab} (hD : TabOk P D) {c : Cx} {op : BinOp} {t : TypeId} {x : Operand} {a : AV} {v : Value} (hx : Rel c a v) (h : Hold (aBinNil D op t a).1) :
    ∃ r, (do eqGuard op t x (.const .nilIface) v .nilIface; binOp op t v .nilIface : Sem Value).run P c.w = .ok r c.w ∧ Rel c (aBinNil D op t a).2 r := by
  unfold aBinNil at *
  cases hn : isNil a with
  | none => rw [hn] at h; exact False.elim h
  | some b =>
    rw [hn] at h
    have hv := isNil_val hx hn
    have hg : (eqGuard op t x (.const .nilIface) v .nilIface).run P c.w = .ok () c.w := by
      unfold eqGuard
      rcases hv with ⟨_, rfl⟩ | ⟨_, t', u, rfl⟩ <;> cases op <;> simp
    have hb : ∀ y : Value, y = v → ∀ w : World, op = .eql ∨ op = .neq → binOp op t y .nilIface = (if op = .eql then (do pure (.bool (← Op.equal t y .nilIface))) else (do pure (.bool (!(← Op.equal t y .nilIface))))) := by
      intro y hy w ho
      subst hy
      rcases hv with ⟨_, rfl⟩ | ⟨_, t', u, rfl⟩ <;> rcases ho with rfl | rfl <;> rfl
    cases op <;> try exact False.elim h
    · simp only at h ⊢
      obtain ⟨hgb, _⟩ := gate_of h
      rw [gate_true hgb]
      have h := hgb
      exact ⟨.bool b, by rw [hb v rfl c.w (.inl rfl)]; simp only [Sem.run_bind, hg, Result.andThen_ok, if_true, run_equal_nil hD h hv, Sem.run_pure], rel_bool.2 rfl⟩
    · simp only at h ⊢
      obtain ⟨hgb, _⟩ := gate_of h
      rw [gate_true hgb]
      have h := hgb
      exact ⟨.bool (!b), by rw [hb v rfl c.w (.inr rfl)]; simp [hg, run_equal_nil hD h hv], rel_bool.2 rfl⟩
/-! ### one operand -/
def aUn (op : UnOp) (x : AV) : AR :=
  match op, x with
  | .neg, .fz (.int k) n => arI k ((0 : Int) - n)
  | .not, .fz .bool b => (none, .fz .bool (!b))
  | .neg, .fz (.flt k) b => (none, .fz (.flt k) (Op.negFloat k b))
  | _, _ => no
theorem aUn_sound {P : Program} {D : Tab} (_hD : TabOk P D) {c : Cx} {op : UnOp} {x : AV} {v : Value} (hx : Rel c x v) (h : Hold (aUn op x).1) : ∃ r, (Op.unary op v).run P c.w = .ok r c.w ∧ Rel c (aUn op x).2 r := by
  cases op <;> cases x <;> try exact False.elim h
  · rename_i u n
    cases u <;> try exact False.elim h
    · obtain rfl := rel_int.1 hx
      exact ⟨.int _ (IntKind.wrap _ (0 - n)), by simp [Op.unary, Op.intArith], arI_sound h⟩
    · obtain rfl := rel_flt.1 hx
      exact ⟨_, by simp [Op.unary], rel_flt.2 rfl⟩
  · rename_i u n
    cases u <;> try exact False.elim h
    obtain rfl := rel_bool.1 hx
    exact ⟨_, by simp [Op.unary], rel_bool.2 rfl⟩
/-- whole numbers of other kinds; of 64 bits without a sign: they wrap -/
def aConvI (D : Tab) (src dst : TypeId) (x : AV) : AR :=
  match x with
  | .fz (.int .u64) n => match tkind D dst with
    | some k => gate (tlook D src).isSome (none, .fz (.int k) (k.wrap n))
    | none => no
  | x => match aInt x, tkind D dst with
    | some n, some k => gate (tlook D src).isSome (arI k n)
    | _, _ => no
theorem conv_ints {P : Program} {D : Tab} (hD : TabOk P D) {s d : TypeId} {k k' : IntKind} {n : Int} (hb : (tlook D s).isSome = true) (hk : tkind D d = some k) (w : World) : (convert s d (.int k' n)).run P w = .ok (.int k (k.wrap n)) w := by
  obtain ⟨ds, hs⟩ := Option.isSome_iff_exists.1 (of_known hD hb)
  unfold convert
  simp only [Sem.run_bind, run_underlying' hs, run_underlying' (of_tkind hD hk), Result.andThen_ok]
  cases ds <;> simp [Conv.intToInt]
theorem aConvI_sound {P : Program} {D : Tab} (hD : TabOk P D) {c : Cx} {s d : TypeId} {x : AV} {v : Value} (hx : Rel c x v) (h : Hold (aConvI D s d x).1) : ∃ r, (convert s d v).run P c.w = .ok r c.w ∧ Rel c (aConvI D s d x).2 r := by
  unfold aConvI at *
  split at h
  · rename_i n
    cases hk : tkind D d with
    | none => rw [hk] at h; exact False.elim h
    | some k =>
      rw [hk] at h
      simp only at h ⊢
      obtain ⟨hb, _⟩ := gate_of h
      rw [gate_true hb]
      obtain rfl := rel_int.1 hx
      exact ⟨_, conv_ints hD hb hk _, rel_int.2 rfl⟩
  · cases hn : aInt x with
    | none => rw [hn] at h; exact False.elim h
    | some n =>
      cases hk : tkind D d with
      | none => rw [hn, hk] at h; exact False.elim h
      | some k =>
        rw [hn, hk] at h
        simp only at h ⊢
        obtain ⟨hb, h⟩ := gate_of h
        rw [gate_true hb]
        obtain ⟨k', rfl⟩ := aInt_of hn hx
        exact ⟨_, conv_ints hD hb hk _, arI_sound h⟩
/-- bytes as a string -/
def byN (xs : List Int) : ByteArray := xs.foldl (fun r n => r.push (UInt8.ofNat n.toNat)) ByteArray.empty
theorem bytes_run {P : Program} {c : Cx} {xs : List Int} {v : Value} (h : Rel c (.fz (.list (.int .u8)) xs) v) : (Conv.bytesToString v).run P c.w = .ok (.string (byN xs)) c.w := by
  obtain ⟨p, cap, rfl, hf⟩ := rel_list h
  unfold FzC at hf
  obtain ⟨p', cap', e, hle, hall⟩ := hf
  simp at e
  obtain ⟨rfl, rfl⟩ := e
  cases p with
  | none =>
    cases xs with
    | nil => simp [Conv.bytesToString, byN]
    | cons x xs => obtain ⟨b, off, cs, hp, _⟩ := hall 0 (by simp); cases hp
  | some a =>
    have h1 := run_loadCells_list (P := P) c.w a (xs.map (Value.int .u8)) (fun j v hj => by
      have hlt := get_lt hj
      simp at hlt
      obtain ⟨b, off, cs, hp, _, _, hcs, hc⟩ := hall j hlt
      cases hp
      have hcs : cs = [.int .u8 xs[j]] := hcs
      subst hcs
      have := hc 0 (by simp)
      simp only [Ty.size, Nat.mul_one, Nat.add_zero, List.getElem_cons_zero] at this
      rw [List.getElem?_map, List.getElem?_eq_getElem hlt] at hj
      simp at hj
      rw [← hj, plain_add]; exact this)
    rw [List.length_map] at h1
    exact run_bytesToString c.w a _ cap xs h1
def isU8 (D : Tab) (e : TypeId) : Bool := match tkind D e with
  | some .u8 => true
  | _ => false
def aConv (D : Tab) (src dst : TypeId) (x : AV) : AR :=
  match tstr D dst, telem D src, x with
  | true, some e, .fz (.list (.int .u8)) xs => gate (isU8 D e) (none, .fz .str (byN xs))
  | true, some e, .nilSl => gate (isU8 D e) (none, .fz .str ByteArray.empty)
  | _, _, x => aConvI D src dst x
theorem isU8_of {D : Tab} {e : TypeId} (h : isU8 D e = true) : tkind D e = some .u8 := by
  unfold isU8 at h
  split at h
  · assumption
  · cases h
theorem aConv_sound {P : Program} {D : Tab} (hD : TabOk P D) {c : Cx} {s d : TypeId} {x : AV} {v : Value} (hx : Rel c x v) (h : Hold (aConv D s d x).1) : ∃ r, (convert s d v).run P c.w = .ok r c.w ∧ Rel c (aConv D s d x).2 r := by
  unfold aConv at *
  split at h
  · rename_i e xs hd hs
    obtain ⟨hb, _⟩ := gate_of h
    rw [gate_true hb]
    refine ⟨_, ?_, rel_str.2 rfl⟩
    obtain ⟨p, cap, rfl, _⟩ := rel_list hx
    rw [run_convert_bytes_string c.w s d e p _ cap (of_telem hD hs) (of_tkind hD (isU8_of hb)) (of_tstr hD hd)]
    exact bytes_run hx
  · rename_i e hd hs
    obtain ⟨hb, _⟩ := gate_of h
    rw [gate_true hb]
    refine ⟨_, ?_, rel_str.2 rfl⟩
    unfold Rel at hx
    obtain ⟨p, rfl⟩ := hx
    rw [run_convert_bytes_string c.w s d e p _ _ (of_telem hD hs) (of_tkind hD (isU8_of hb)) (of_tstr hD hd)]
    cases p <;> simp [Conv.bytesToString, loadCells, loadCellsFrom]
  · exact aConvI_sound hD hx h
def aExtract (i : Nat) : AV → AR
  | .tup vs => gate (Nat.blt i vs.length) (none, vs.getD i .unk)
  | _ => no
theorem aExtract_sound {P : Program} {D : Tab} (_hD : TabOk P D) {c : Cx} {i : Nat} {x : AV} {v : Value} (hx : Rel c x v) (h : Hold (aExtract i x).1) : ∃ r, (Instr.extract v i).run P c.w = .ok r c.w ∧ Rel c (aExtract i x).2 r := by
  cases x <;> try exact False.elim h
  rename_i vs
  unfold Rel at hx
  obtain ⟨us, rfl, hr⟩ := hx
  obtain ⟨hb, _⟩ := gate_of h
  have hlt : i < vs.length := blt_of hb
  obtain ⟨v', e1, e2⟩ := hr.get _ _ i (vs[i]) (List.getElem?_eq_getElem hlt)
  exact ⟨v', by simp [Instr.extract, e1], by unfold aExtract; simp only; rw [gate_true hb]; simpa [List.getD, hlt] using e2⟩
def aLen (D : Tab) (A : List AO) (t : TypeId) : AV → AR
  | .fz (.list _) xs => gate (telem D t).isSome (none, .fz (.int .i64) ((List.length xs : Nat) : Int))
  | .ref tok _ len => match A[tok]? with
    | some (.row _ _) => gate (telem D t).isSome (none, .fz (.int .i64) ((len : Nat) : Int))
    | _ => no
  | .nilSl => gate (telem D t).isSome (none, .fz (.int .i64) (0 : Int))
  | .fz .str s => gate (tstr D t) (none, .fz (.int .i64) ((ByteArray.size s : Nat) : Int))
  | _ => no
theorem aLen_sound {P : Program} {D : Tab} (hD : TabOk P D) {c : Cx} {t ty : TypeId} {x : AV} {v : Value} {ts : Array TypeId} (ht : ts[0]? = some t) (hx : Rel c x v) (h : Hold (aLen D c.A t x).1) :
    ∃ r, (Builtin.len_ ts ty #[v]).run P c.w = .ok r c.w ∧ Rel c (aLen D c.A t x).2 r := by
  have key : (telem D t).isSome = true → ∀ p n cap, (Builtin.len_ ts ty #[.slice p n cap]).run P c.w = .ok (.int .i64 (n : Int)) c.w := by
    intro h p n cap
    obtain ⟨e, he⟩ := Option.isSome_iff_exists.1 h
    simp [Builtin.len_, ht, run_underlying' (of_telem hD he), goInt]
  unfold aLen at *
  cases x <;> try exact False.elim h
  case fz u xs =>
    cases u <;> try exact False.elim h
    case list e =>
      obtain ⟨hb, _⟩ := gate_of h
      obtain ⟨p, cap, rfl, _⟩ := rel_list hx
      exact ⟨_, key hb _ _ _, by simp only [gate_true hb]; exact rel_int.2 rfl⟩
    case str =>
      obtain ⟨hb, _⟩ := gate_of h
      obtain rfl := rel_str.1 hx
      exact ⟨.int .i64 (ByteArray.size xs : Nat), by simp [Builtin.len_, ht, run_underlying' (of_tstr hD hb), goInt], by simp only; rw [gate_true hb]; exact rel_int.2 rfl⟩
  case ref tok off len =>
    simp only at h ⊢
    unfold Rel at hx
    cases ht : c.A[tok]? with
    | none => rw [ht] at h; exact False.elim h
    | some o =>
      rw [ht] at h hx
      cases o <;> try exact False.elim h
      simp only at h hx ⊢
      obtain ⟨hb, _⟩ := gate_of h
      rw [gate_true hb]
      rcases hx with ⟨b, cap, cs, et, a, _, rfl, _⟩ | ⟨_, _, rfl, p, rfl⟩
      · exact ⟨_, key hb _ _ _, rel_int.2 rfl⟩
      · exact ⟨_, key hb _ _ _, rel_int.2 rfl⟩
  case nilSl =>
    obtain ⟨hb, _⟩ := gate_of h
    unfold Rel at hx; obtain ⟨p, rfl⟩ := hx
    exact ⟨_, key hb _ _ _, by simp only [gate_true hb]; exact rel_int.2 rfl⟩
end Go.Ab
/-
  Operations that only look: == over what is made of numbers.
-/
namespace Go.Ab
open Go
def ivs (xs : List Int) : Array Value := (xs.map (Value.int .i64)).toArray
def ivl (P : Program) (t : TypeId) (xs : List Int) : Value := match isAggT P t with
  | true => .agg (ivs xs)
  | false => .int .i64 (xs.headD 0)
theorem eqT_size {P : Program} {d : Nat} {t : TypeId} {k : Nat} (h : eqT P d t = some k) : ∃ i, P.info? t = some i ∧ i.size = k := by
  cases d with
  | zero => cases h
  | succ d =>
    unfold eqT at h
    split at h
    · rename_i i _ hi
      split at h
      · rename_i hs; cases h; exact ⟨i, hi, hs⟩
      · cases h
    · rename_i fs i _ hi
      split at h <;> cases h
      exact ⟨i, hi, rfl⟩
    · rename_i n e i _ hi
      split at h
      · split at h <;> cases h
        exact ⟨i, hi, rfl⟩
      · cases h
    · cases h
theorem eqT_int {P : Program} {d : Nat} {t : TypeId} {k : Nat} (h : eqT P d t = some k) (ha : isAggT P t = false) : P.underlying t = some (.int .i64) ∧ k = 1 := by
  cases d with
  | zero => cases h
  | succ d =>
    unfold eqT at h
    unfold isAggT at ha
    split at h
    · rename_i hu _; split at h <;> cases h; exact ⟨hu, rfl⟩
    · rename_i hu _; rw [hu] at ha; cases ha
    · rename_i hu _; rw [hu] at ha; cases ha
    · cases h
theorem part_ivs {P : Program} {d : Nat} {t : TypeId} {k : Nat} (h : eqT P d t = some k) (w : World) (xs : List Int) (off : Nat) (hle : off + k ≤ xs.length) : (part t (ivs xs) off).run P w = .ok (ivl P t ((xs.drop off).take k)) w := by
  cases ha : isAggT P t with
  | true =>
    obtain ⟨i, hi, hs⟩ := eqT_size h
    have h1 : (isAgg t).run P w = .ok true w := by
      unfold isAggT at ha
      cases hu : P.underlying t with
      | none => rw [hu] at ha; cases ha
      | some u => rw [hu] at ha; cases u <;> simp at ha <;> simp [isAgg, run_underlying hu]
    have h2 : (sizeOf t).run P w = .ok k w := by simp [sizeOf, typeInfo, hi, hs]
    simp only [part, Sem.run_bind, h1, Result.andThen_ok, if_true, h2, Sem.run_pure, ivl, ha]
    unfold ivs
    congr 2
    apply Array.ext'
    simp [List.extract, List.map_take, List.map_drop]
  | false =>
    obtain ⟨hu, rfl⟩ := eqT_int h ha
    have h1 : (isAgg t).run P w = .ok false w := by simp [isAgg, run_underlying hu]
    have h2 : (ivs xs)[off]? = some (.int .i64 xs[off]) := by simp [ivs, show off < xs.length by omega]
    simp only [part, Sem.run_bind, h1, Result.andThen_ok, Bool.false_eq_true, if_false, h2, Sem.run_pure, ivl, ha]
    congr 2
    rw [List.drop_eq_getElem_cons (by omega), List.take_succ_cons, List.headD_cons]
theorem beq_take_drop (xs ys : List Int) (k : Nat) (hx : xs.length = ys.length) : (xs == ys) = ((xs.take k == ys.take k) && (xs.drop k == ys.drop k)) := by
  rw [Bool.eq_iff_iff]
  simp only [beq_iff_eq, Bool.and_eq_true]
  constructor
  · rintro rfl; exact ⟨rfl, rfl⟩
  · rintro ⟨h1, h2⟩
    rw [← List.take_append_drop k xs, h1, h2, List.take_append_drop]
theorem eqFs_run {P : Program} (d m : Nat) (ih : ∀ (t : TypeId) (k : Nat), eqT P d t = some k → ∀ (xs ys : List Int) (w : World), xs.length = k → ys.length = k → (Op.equalIn (m + d) t (ivl P t xs) (ivl P t ys)).run P w = .ok (xs == ys) w) (xs ys : List Int) (w : World) :
    ∀ (fs : List Field) (o k : Nat), eqFs (eqT P d) fs o = some k → xs.length = k → ys.length = k → o ≤ k ∧ (Op.eqFields (m + d) (ivs xs) (ivs ys) fs).run P w = .ok (xs.drop o == ys.drop o) w
  | [], o, k, h, hx, hy => by
    unfold eqFs at h
    cases h
    refine ⟨Nat.le_refl _, ?_⟩
    rw [List.drop_eq_nil_of_le (by omega), List.drop_eq_nil_of_le (by omega)]
    simp [Op.eqFields]
  | f :: fs, o, k, h, hx, hy => by
    unfold eqFs at h
    split at h
    · rename_i hc
      obtain ⟨hn, ho⟩ := hc
      split at h
      · rename_i k1 h1
        obtain ⟨hle, hr⟩ := eqFs_run d m ih xs ys w fs (o + k1) k h hx hy
        refine ⟨by omega, ?_⟩
        have p1 := part_ivs h1 w xs o (by omega)
        have p2 := part_ivs h1 w ys o (by omega)
        have p3 := ih f.type k1 h1 ((xs.drop o).take k1) ((ys.drop o).take k1) w (by simp; omega) (by simp; omega)
        unfold Op.eqFields
        rw [if_pos hn, ho]
        simp only [Sem.run_bind, p1, p2, p3, Result.andThen_ok]
        rw [beq_take_drop (xs.drop o) (ys.drop o) k1 (by simp; omega)]
        cases hb : ((xs.drop o).take k1 == (ys.drop o).take k1) with
        | false => simp
        | true =>
          simp only [Bool.not_true, Bool.false_eq_true, if_false, Bool.true_and]
          rw [hr, List.drop_drop, List.drop_drop]
      · cases h
    · cases h
theorem eqItems_run {P : Program} (d m : Nat) {e : TypeId} {k : Nat} (he : eqT P d e = some k) (ih : ∀ (xs ys : List Int) (w : World), xs.length = k → ys.length = k → (Op.equalIn (m + d) e (ivl P e xs) (ivl P e ys)).run P w = .ok (xs == ys) w) (xs ys : List Int) (w : World) :
    ∀ (n i : Nat), xs.length = (i + n) * k → ys.length = (i + n) * k → (Op.eqItems (m + d) e k (ivs xs) (ivs ys) (List.range' i n)).run P w = .ok (xs.drop (i * k) == ys.drop (i * k)) w
  | 0, i, hx, hy => by
    rw [Nat.add_zero] at hx hy
    rw [List.drop_eq_nil_of_le (by omega), List.drop_eq_nil_of_le (by omega)]
    simp [Op.eqItems]
  | n + 1, i, hx, hy => by
    have hr := eqItems_run d m he ih xs ys w n (i + 1) (by rw [hx]; congr 1; omega) (by rw [hy]; congr 1; omega)
    have hm : i * k + k ≤ (i + (n + 1)) * k := by rw [← Nat.succ_mul]; exact Nat.mul_le_mul_right _ (by omega)
    have p1 := part_ivs he w xs (i * k) (by omega)
    have p2 := part_ivs he w ys (i * k) (by omega)
    have p3 := ih ((xs.drop (i * k)).take k) ((ys.drop (i * k)).take k) w (by simp; omega) (by simp; omega)
    rw [List.range'_succ]
    unfold Op.eqItems
    simp only [Sem.run_bind, p1, p2, p3, Result.andThen_ok]
    rw [beq_take_drop (xs.drop (i * k)) (ys.drop (i * k)) k (by simp; omega)]
    cases hb : ((xs.drop (i * k)).take k == (ys.drop (i * k)).take k) with
    | false => simp
    | true =>
      simp only [Bool.not_true, Bool.false_eq_true, if_false, Bool.true_and]
      rw [hr, List.drop_drop, List.drop_drop, Nat.succ_mul]
theorem eqT_run {P : Program} (m : Nat) : ∀ (d : Nat) (t : TypeId) (k : Nat), eqT P d t = some k → ∀ (xs ys : List Int) (w : World), xs.length = k → ys.length = k → (Op.equalIn (m + d) t (ivl P t xs) (ivl P t ys)).run P w = .ok (xs == ys) w
  | 0, _, _, h => by cases h
  | d + 1, t, k, h => by
    intro xs ys w hx hy
    have ih := eqT_run (P := P) m d
    cases ha : isAggT P t with
    | false =>
      obtain ⟨hu, rfl⟩ := eqT_int h ha
      obtain ⟨a, rfl⟩ := List.length_eq_one_iff.1 hx
      obtain ⟨b, rfl⟩ := List.length_eq_one_iff.1 hy
      simp only [ivl, ha, List.headD_cons]
      rw [show m + (d + 1) = (m + d) + 1 from rfl, run_equalIn_int w (m + d) t _ _ a b hu]
      simp
    | true =>
      simp only [ivl, ha]
      unfold eqT at h
      split at h
      · rename_i hu _; unfold isAggT at ha; rw [hu] at ha; cases ha
      · rename_i fs i hu hi
        split at h
        · rename_i hc
          cases h
          have hf : P.fieldsOf t = fs := by simp [Program.fieldsOf, hu]
          rw [show m + (d + 1) = (m + d) + 1 from rfl, run_equalIn_struct w (m + d) t _ _ (by rw [hf]; exact hu) hc.1, hf]
          have := (eqFs_run d m ih xs ys w fs.toList 0 i.size hc.2 hx hy).2
          simpa using this
        · cases h
      · rename_i n e i hu hi
        split at h
        · rename_i k1 he
          split at h
          · rename_i hn
            cases h
            obtain ⟨j, hj, hs⟩ := eqT_size he
            have hc : P.cellsOf e = k1 := by simp [Program.cellsOf, hj, hs]
            rw [show m + (d + 1) = (m + d) + 1 from rfl, run_equalIn_array w (m + d) _ _ hu hj, hc, List.range_eq_range']
            have := eqItems_run d m he (ih e k1 he) xs ys w n 0 (by rw [Nat.zero_add, hn]; exact hx) (by rw [Nat.zero_add, hn]; exact hy)
            simpa using this
          · cases h
        · cases h
      · cases h
end Go.Ab
/-
  Operations that only look: == over what is made of numbers and texts.
-/
namespace Go.Ab
open Go
def pvs (xs : List Pv) : Array Value := (xs.map Pv.val).toArray
def pvl (P : Program) (t : TypeId) (xs : List Pv) : Value := match isAggT P t with
  | true => .agg (pvs xs)
  | false => (xs.headD (.i 0)).val
def eqW : List Pv → List Pv → Bool
  | [], [] => true
  | a :: as, b :: bs => peq a b && eqW as bs
  | _, _ => false
theorem eqV_eq : ∀ (xs ys : List Pv), eqV xs ys = eqW xs ys
  | [], [] => rfl
  | [], _ :: _ => rfl
  | [_], [] => rfl
  | _ :: _ :: _, [] => rfl
  | [a], [b] => by unfold eqV eqW eqW; simp
  | [a], b :: c :: l => by
    unfold eqV eqW
    have e1 : eqV [] (c :: l) = false := rfl
    have e2 : eqW [] (c :: l) = false := rfl
    rw [e1, e2]
  | a :: b :: l, [c] => by
    unfold eqV eqW
    have e1 : eqV (b :: l) [] = false := by cases l <;> rfl
    have e2 : eqW (b :: l) [] = false := rfl
    rw [e1, e2]
  | a :: b :: l, c :: d :: m => by
    unfold eqV eqW
    rw [eqV_eq (b :: l) (d :: m)]
theorem eqW_split : ∀ (k : Nat) (xs ys : List Pv), xs.length = ys.length → eqW xs ys = (eqW (xs.take k) (ys.take k) && eqW (xs.drop k) (ys.drop k))
  | 0, xs, ys, _ => by simp [eqW]
  | k + 1, [], [], _ => by simp [eqW]
  | k + 1, [], _ :: _, h => by simp at h
  | k + 1, _ :: _, [], h => by simp at h
  | k + 1, a :: xs, b :: ys, h => by
    have := eqW_split k xs ys (by simpa using h)
    simp only [List.take_succ_cons, List.drop_succ_cons, eqW]
    rw [this, Bool.and_assoc]
theorem kindsB_of : ∀ {xs : List Pv} {s : List Bool}, kindsB xs s = true → xs.map Pv.isS = s
  | [], [], _ => rfl
  | [], _ :: _, h => by cases h
  | _ :: _, [], h => by cases h
  | p :: l, b :: r, h => by
    unfold kindsB at h
    cases p <;> cases b <;> first | cases h | (rw [List.map_cons, kindsB_of h]; rfl)
theorem eqM_size {P : Program} {d : Nat} {t : TypeId} {s : List Bool} (h : eqM P d t = some s) : ∃ i, P.info? t = some i ∧ i.size = s.length := by
  cases d with
  | zero => cases h
  | succ d =>
    unfold eqM at h
    split at h
    · rename_i i _ hi
      split at h
      · rename_i hs; cases h; exact ⟨i, hi, hs⟩
      · cases h
    · rename_i i _ hi
      split at h
      · rename_i hs; cases h; exact ⟨i, hi, hs⟩
      · cases h
    · rename_i fs i _ hi
      split at h
      · split at h
        · rename_i hc; cases h; exact ⟨i, hi, hc.2.symm⟩
        · cases h
      · cases h
    · cases h
theorem eqM_cell {P : Program} {d : Nat} {t : TypeId} {s : List Bool} (h : eqM P d t = some s) (ha : isAggT P t = false) : (P.underlying t = some (.int .i64) ∧ s = [false]) ∨ (P.underlying t = some .string ∧ s = [true]) := by
  cases d with
  | zero => cases h
  | succ d =>
    unfold eqM at h
    unfold isAggT at ha
    split at h
    · rename_i hu _; split at h <;> cases h; exact .inl ⟨hu, rfl⟩
    · rename_i hu _; split at h <;> cases h; exact .inr ⟨hu, rfl⟩
    · rename_i hu _; rw [hu] at ha; cases ha
    · cases h
theorem part_pvs {P : Program} {d : Nat} {t : TypeId} {s : List Bool} (h : eqM P d t = some s) (w : World) (xs : List Pv) (off : Nat) (hle : off + s.length ≤ xs.length) : (part t (pvs xs) off).run P w = .ok (pvl P t ((xs.drop off).take s.length)) w := by
  cases ha : isAggT P t with
  | true =>
    obtain ⟨i, hi, hs⟩ := eqM_size h
    have h1 : (isAgg t).run P w = .ok true w := by
      unfold isAggT at ha
      cases hu : P.underlying t with
      | none => rw [hu] at ha; cases ha
      | some u => rw [hu] at ha; cases u <;> simp at ha <;> simp [isAgg, run_underlying hu]
    have h2 : (sizeOf t).run P w = .ok s.length w := by simp [sizeOf, typeInfo, hi, hs]
    simp only [part, Sem.run_bind, h1, Result.andThen_ok, if_true, h2, Sem.run_pure, pvl, ha]
    unfold pvs
    congr 2
    apply Array.ext'
    simp [List.extract, List.map_take, List.map_drop]
  | false =>
    have hl : s.length = 1 := by rcases eqM_cell h ha with ⟨_, rfl⟩ | ⟨_, rfl⟩ <;> rfl
    have h1 : (isAgg t).run P w = .ok false w := by rcases eqM_cell h ha with ⟨hu, _⟩ | ⟨hu, _⟩ <;> simp [isAgg, run_underlying hu]
    have h2 : (pvs xs)[off]? = some (xs[off]'(by omega)).val := by simp [pvs, show off < xs.length by omega]
    simp only [part, Sem.run_bind, h1, Result.andThen_ok, Bool.false_eq_true, if_false, h2, Sem.run_pure, pvl, ha]
    congr 2
    rw [hl, List.drop_eq_getElem_cons (by omega), List.take_succ_cons, List.headD_cons]
theorem eqFsM_run {P : Program} (d m : Nat) (ih : ∀ (t : TypeId) (s : List Bool), eqM P d t = some s → ∀ (xs ys : List Pv) (w : World), xs.map Pv.isS = s → ys.map Pv.isS = s → (Op.equalIn (m + d) t (pvl P t xs) (pvl P t ys)).run P w = .ok (eqW xs ys) w) (xs ys : List Pv) (w : World) :
    ∀ (fs : List Field) (o : Nat) (s : List Bool), eqFsM (eqM P d) fs o = some s → o ≤ xs.length → o ≤ ys.length → (xs.drop o).map Pv.isS = s → (ys.drop o).map Pv.isS = s → (Op.eqFields (m + d) (pvs xs) (pvs ys) fs).run P w = .ok (eqW (xs.drop o) (ys.drop o)) w
  | [], o, s, h, _, _, hx, hy => by
    unfold eqFsM at h
    cases h
    rw [List.map_eq_nil_iff.1 hx, List.map_eq_nil_iff.1 hy]
    simp [Op.eqFields, eqW]
  | f :: fs, o, s, h, ho1, ho2, hx, hy => by
    unfold eqFsM at h
    split at h
    · rename_i hc
      obtain ⟨hn, ho⟩ := hc
      split at h
      · rename_i k h1
        split at h
        · rename_i r hr
          cases h
          have lx : xs.length - o = k.length + r.length := by have := congrArg List.length hx; simpa using this
          have ly : ys.length - o = k.length + r.length := by have := congrArg List.length hy; simpa using this
          have tx : ((xs.drop o).take k.length).map Pv.isS = k := by rw [List.map_take, hx, List.take_left]
          have ty : ((ys.drop o).take k.length).map Pv.isS = k := by rw [List.map_take, hy, List.take_left]
          have dx : (xs.drop (o + k.length)).map Pv.isS = r := by rw [← List.drop_drop, List.map_drop, hx, List.drop_left]
          have dy : (ys.drop (o + k.length)).map Pv.isS = r := by rw [← List.drop_drop, List.map_drop, hy, List.drop_left]
          have hrun := eqFsM_run d m ih xs ys w fs (o + k.length) r hr (by omega) (by omega) dx dy
          have p1 := part_pvs h1 w xs o (by omega)
          have p2 := part_pvs h1 w ys o (by omega)
          have p3 := ih f.type k h1 _ _ w tx ty
          unfold Op.eqFields
          rw [if_pos hn, ho]
          simp only [Sem.run_bind, p1, p2, p3, Result.andThen_ok]
          rw [eqW_split k.length (xs.drop o) (ys.drop o) (by simp; omega)]
          cases hb : eqW ((xs.drop o).take k.length) ((ys.drop o).take k.length) with
          | false => simp
          | true =>
            simp only [Bool.not_true, Bool.false_eq_true, if_false, Bool.true_and]
            rw [hrun, List.drop_drop, List.drop_drop]
        · cases h
      · cases h
    · cases h
theorem eqM_run {P : Program} (m : Nat) : ∀ (d : Nat) (t : TypeId) (s : List Bool), eqM P d t = some s → ∀ (xs ys : List Pv) (w : World), xs.map Pv.isS = s → ys.map Pv.isS = s → (Op.equalIn (m + d) t (pvl P t xs) (pvl P t ys)).run P w = .ok (eqW xs ys) w
  | 0, _, _, h => by cases h
  | d + 1, t, s, h => by
    intro xs ys w hx hy
    have ih := eqM_run (P := P) m d
    cases ha : isAggT P t with
    | false =>
      have one : ∀ {l : List Pv} {b : Bool}, l.map Pv.isS = [b] → ∃ p, l = [p] ∧ p.isS = b := by
        intro l b hl
        match l, hl with
        | [p], hl => exact ⟨p, rfl, by simpa using hl⟩
      rcases eqM_cell h ha with ⟨hu, rfl⟩ | ⟨hu, rfl⟩
      · obtain ⟨p, rfl, hp⟩ := one hx
        obtain ⟨q, rfl, hq⟩ := one hy
        cases p with
        | s _ => cases hp
        | i a =>
          cases q with
          | s _ => cases hq
          | i b =>
            simp only [pvl, ha, List.headD_cons, Pv.val]
            rw [show m + (d + 1) = (m + d) + 1 from rfl, run_equalIn_int w (m + d) t _ _ a b hu]
            simp [eqW, peq]
      · obtain ⟨p, rfl, hp⟩ := one hx
        obtain ⟨q, rfl, hq⟩ := one hy
        cases p with
        | i _ => cases hp
        | s a =>
          cases q with
          | i _ => cases hq
          | s b =>
            simp only [pvl, ha, List.headD_cons, Pv.val]
            rw [show m + (d + 1) = (m + d) + 1 from rfl, run_equalIn_string w (m + d) t a b hu]
            simp [eqW, peq]
    | true =>
      simp only [pvl, ha]
      unfold eqM at h
      split at h
      · rename_i hu _; unfold isAggT at ha; rw [hu] at ha; cases ha
      · rename_i hu _; unfold isAggT at ha; rw [hu] at ha; cases ha
      · rename_i fs i hu hi
        split at h
        · rename_i s' hs'
          split at h
          · rename_i hc
            cases h
            have hf : P.fieldsOf t = fs := by simp [Program.fieldsOf, hu]
            rw [show m + (d + 1) = (m + d) + 1 from rfl, run_equalIn_struct w (m + d) t _ _ (by rw [hf]; exact hu) hc.1, hf]
            have := eqFsM_run d m ih xs ys w fs.toList 0 s hs' (Nat.zero_le _) (Nat.zero_le _) hx hy
            simpa using this
          · cases h
        · cases h
      · cases h
end Go.Ab
/-
  Operations that only look (7): slices of slices, functions, interfaces, building of values.
-/
namespace Go.Ab
open Go
def aOpt : Option AV → Int → Option Int
  | none, d => some d
  | some v, _ => aInt v
def aSliceI (D : Tab) (A : List AO) (t : TypeId) (lo hi : Int) : AV → AR
  | .fz (.list e) xs => match telem D t with
    | some el => gate (Nat.beq (tsz D el) e.size && Nat.blt 0 e.size) (some (0 ≤ lo ∧ lo ≤ hi ∧ hi ≤ (List.length xs : Int)), .fz (.list e) ((List.drop lo.toNat xs).take (hi.toNat - lo.toNat)))
    | none => no
  | .ref tok off len => match A[tok]?, telem D t with
    | some (.row e _), some el => gate (Nat.beq (tsz D el) e.size && Nat.blt 0 e.size) (some (0 ≤ lo ∧ lo ≤ hi ∧ hi ≤ (len : Int)), .ref tok (off + lo.toNat) (hi.toNat - lo.toNat))
    | _, _ => no
  | .fz .str s => gate (tstr D t) (some (0 ≤ lo ∧ lo ≤ hi ∧ hi ≤ (ByteArray.size s : Int)), .fz .str (ByteArray.extract s lo.toNat hi.toNat))
  | _ => no
def aLenN : AV → Int
  | .fz (.list _) xs => (List.length xs : Nat)
  | .ref _ _ len => (len : Nat)
  | .fz .str s => (ByteArray.size s : Nat)
  | _ => 0
def aSlice (D : Tab) (A : List AO) (t : TypeId) (x : AV) (lo hi : Option AV) : AR :=
  match aOpt lo 0, aOpt hi (aLenN x) with
  | some l, some h => aSliceI D A t l h x
  | _, _ => no
def optVal (c : Cx) : Option AV → Option Value → Prop
  | none, none => True
  | some a, some v => Rel c a v
  | _, _ => False
theorem run_bound {P : Program} {w : World} {k : IntKind} {i : Int} {y : Nat} {code : BoundsCode} (h0 : 0 ≤ i) (h : i ≤ (y : Int)) : (Instr.sliceBound (.int k i) y code).run P w = .ok i.toNat w := by
  simp [Instr.sliceBound, asIntOf, h0, h]
theorem run_bounds {P : Program} {c : Cx} {isS : Bool} {len cap : Nat} {lo hi : Option AV} {vl vh : Option Value} {l h : Int} (hl : optVal c lo vl) (hh : optVal c hi vh) (el : aOpt lo 0 = some l) (eh : aOpt hi (len : Int) = some h)
    (h0 : 0 ≤ l) (h1 : l ≤ h) (h2 : h ≤ (cap : Int)) (w : World) : (Instr.sliceBounds isS len cap vl vh none).run P w = .ok (l.toNat, h.toNat, cap) w := by
  have e1 : ∀ code, (match vh with | some v => Instr.sliceBound v cap code | none => pure len : Sem Nat).run P w = .ok h.toNat w := by
    intro code
    cases hi with
    | none =>
      cases vh with
      | none => simp [aOpt] at eh; subst eh; simp
      | some v => exact hh.elim
    | some a =>
      cases vh with
      | none => exact hh.elim
      | some v =>
        obtain ⟨k, rfl⟩ := aInt_of eh hh
        exact run_bound (by omega) h2
  have e2 : ∀ code, (match vl with | some v => Instr.sliceBound v h.toNat code | none => pure 0 : Sem Nat).run P w = .ok l.toNat w := by
    intro code
    cases lo with
    | none =>
      cases vl with
      | none => simp [aOpt] at el; subst el; simp
      | some v => exact hl.elim
    | some a =>
      cases vl with
      | none => exact hl.elim
      | some v =>
        obtain ⟨k, rfl⟩ := aInt_of el hl
        exact run_bound h0 (by omega)
  unfold Instr.sliceBounds
  have e1' := e1 (if isS = true then BoundsCode.sliceAcap else .sliceAlen)
  have e2' := e2 .sliceB
  cases vh <;> cases vl <;> simp_all
theorem aSlice_sound {P : Program} {D : Tab} (hD : TabOk P D) {c : Cx} {t : TypeId} {x : AV} {v : Value} {lo hi : Option AV} {vl vh : Option Value} (hx : Rel c x v) (hl : optVal c lo vl) (hh : optVal c hi vh) (h : Hold (aSlice D c.A t x lo hi).1) :
    ∃ r, (Instr.sliceAt t v vl vh none).run P c.w = .ok r c.w ∧ Rel c (aSlice D c.A t x lo hi).2 r := by
  unfold aSlice at *
  cases el : aOpt lo 0 with
  | none => rw [el] at h; exact False.elim h
  | some l =>
    cases eh : aOpt hi (aLenN x) with
    | none => rw [el, eh] at h; exact False.elim h
    | some u =>
      rw [el, eh] at h
      simp only at h ⊢
      cases x <;> try exact False.elim h
      case fz ty xs =>
        cases ty <;> try exact False.elim h
        case str =>
          unfold aSliceI at *
          simp only at h ⊢
          have hb := (gate_of h).1
          obtain ⟨h2, h3, h4⟩ := (gate_of h).2
          rw [gate_true hb]
          have h1 := of_tstr hD hb
          obtain rfl := rel_str.1 hx
          have hb := run_bounds (P := P) (isS := false) (cap := ByteArray.size xs) hl hh el eh h2 h3 h4 c.w
          refine ⟨.string (ByteArray.extract xs l.toNat u.toNat), ?_, rel_str.2 rfl⟩
          simp only [Instr.sliceAt, Instr.slice, Sem.run_bind, run_underlying' h1, Result.andThen_ok]
          simp [hb]
        case list e =>
          unfold aSliceI at *
          simp only at h ⊢
          cases hel : telem D t with
          | none => rw [hel] at h; exact False.elim h
          | some elt =>
            rw [hel] at h
            have hb := (gate_of h).1
            obtain ⟨h3, h4, h5⟩ := (gate_of h).2
            simp only
            rw [gate_true hb]
            simp only [Bool.and_eq_true] at hb
            have h1 := beq_eq hb.1
            have h2 := blt_of hb.2
            obtain ⟨p, cap, rfl, hf⟩ := rel_list hx
            unfold FzC at hf
            obtain ⟨p', cap', hv, hle, hall⟩ := hf
            simp at hv
            obtain ⟨rfl, rfl⟩ := hv
            have hb := run_bounds (P := P) (isS := true) (cap := cap) hl hh el eh h3 h4 (by omega) c.w
            have hlen : ((List.drop l.toNat xs).take (u.toNat - l.toNat)).length = u.toNat - l.toNat := by
              rw [List.length_take, List.length_drop]; omega
            refine ⟨.slice (if cap = l.toNat then p else p.map (·.add (l.toNat * e.size))) (u.toNat - l.toNat) (cap - l.toNat), ?_, ?_⟩
            · simp only [Instr.sliceAt, Instr.slice, Sem.run_bind, run_underlying' (of_telem hD hel), Result.andThen_ok, hb, run_sizeOf hD h1 h2, Sem.run_pure]
            · unfold Rel
              refine ⟨[.slice (if cap = l.toNat then p else p.map (·.add (l.toNat * e.size))) (u.toNat - l.toNat) (cap - l.toNat)], ?_, rfl⟩
              unfold FzC
              refine ⟨_, cap - l.toNat, by rw [hlen], by rw [hlen]; omega, fun i hi => ?_⟩
              rw [hlen] at hi
              obtain ⟨b, o, cs, rfl, hI, hlt, hfz, hc⟩ := hall (l.toNat + i) (by omega)
              refine ⟨b, o + l.toNat * e.size, cs, ?_, hI, hlt, ?_, fun j hj => ?_⟩
              · rw [if_neg (by omega)]; simp [plain_add]
              · have : ((List.drop l.toNat xs).take (u.toNat - l.toNat))[i] = xs[l.toNat + i]'(by omega) := by simp
                rw [this]; exact hfz
              · have := hc j hj
                rw [show o + l.toNat * e.size + i * e.size + j = o + (l.toNat + i) * e.size + j by rw [Nat.add_mul]; omega]
                exact this
      case ref tok off len =>
        unfold aSliceI at *
        simp only at h ⊢
        unfold Rel at hx
        cases ht : c.A[tok]? with
        | none => rw [ht] at h; exact False.elim h
        | some o =>
          rw [ht] at h hx
          cases o <;> try exact False.elim h
          rename_i e xs
          simp only at h hx ⊢
          cases hel : telem D t with
          | none => rw [hel] at h; exact False.elim h
          | some elt =>
            rw [hel] at h
            have hb := (gate_of h).1
            obtain ⟨h3, h4, h5⟩ := (gate_of h).2
            simp only
            rw [gate_true hb]
            simp only [Bool.and_eq_true] at hb
            have h1 := beq_eq hb.1
            have h2 := blt_of hb.2
            have fin : ∀ (p : Option Addr) (cap : Nat), len ≤ cap → (Instr.sliceAt t (.slice p len cap) vl vh none).run P c.w = .ok (.slice (if cap = l.toNat then p else p.map (·.add (l.toNat * e.size))) (u.toNat - l.toNat) (cap - l.toNat)) c.w := by
              intro p cap hle
              have hb := run_bounds (P := P) (isS := true) (cap := cap) hl hh el eh h3 h4 (by omega) c.w
              simp only [Instr.sliceAt, Instr.slice, Sem.run_bind, run_underlying' (of_telem hD hel), Result.andThen_ok, hb, run_sizeOf hD h1 h2, Sem.run_pure]
            rcases hx with ⟨b, cap, cs, et, a, hr, rfl, ha, hle, hh', hsz⟩ | ⟨hr, rfl, rfl, p, rfl⟩
            · refine ⟨_, fin _ _ hle, ?_⟩
              unfold Rel
              rw [ht]
              refine .inl ⟨b, cap - l.toNat, cs, et, (if cap = l.toNat then a else a.add (l.toNat * e.size)), hr, by split <;> rfl, fun hc => ?_, by omega, hh', ?_⟩
              · rw [if_neg (by omega), ha (by omega), plain_add, Nat.add_mul]
              · rw [show off + l.toNat + (cap - l.toNat) = off + cap by omega]; exact hsz
            · refine ⟨_, fin _ _ (Nat.le_refl _), ?_⟩
              unfold Rel
              rw [ht]
              have : l.toNat = 0 := by omega
              exact .inr ⟨hr, by omega, by omega, _, by rw [show u.toNat - l.toNat = 0 by omega, show (0 : Nat) - l.toNat = 0 by omega]⟩
/-! ### s[:0:0] -/
def isZ : Option Int → Bool
  | some (.ofNat 0) => true
  | _ => false
theorem isZ_of {o : Option Int} (h : isZ o = true) : o = some 0 := by
  unfold isZ at h
  split at h
  · rfl
  · cases h
def slB (A : List AO) : AV → Bool
  | .fz (.list _) _ => true
  | .nilSl => true
  | .ref tok _ _ => match A[tok]? with
    | some (.row _ _) => true
    | _ => false
  | _ => false
def aSlice3 (D : Tab) (A : List AO) (t : TypeId) (x : AV) (lo : Option AV) (hi m : AV) : AR := match telem D t with
  | some el => gate (slB A x && Nat.blt 0 (tsz D el) && isZ (aOpt lo 0) && isZ (aInt hi) && isZ (aInt m)) (none, .nilSl)
  | none => no
theorem slB_val {c : Cx} {x : AV} {v : Value} (h : slB c.A x = true) (hx : Rel c x v) : ∃ p len cap, v = .slice p len cap := by
  cases x <;> try (cases h; done)
  case fz ty xs =>
    cases ty <;> try (cases h; done)
    obtain ⟨p, cap, rfl, _⟩ := rel_list hx
    exact ⟨_, _, _, rfl⟩
  case nilSl => unfold Rel at hx; obtain ⟨p, rfl⟩ := hx; exact ⟨_, _, _, rfl⟩
  case ref tok off len =>
    unfold Rel at hx; unfold slB at h; simp only at h
    cases ht : c.A[tok]? with
    | none => rw [ht] at hx; exact hx.elim
    | some o =>
      rw [ht] at h hx
      cases o <;> try (cases h; done)
      rcases hx with ⟨b, cap, cs, et, a, _, rfl, _⟩ | ⟨_, _, _, p, rfl⟩ <;> exact ⟨_, _, _, rfl⟩
theorem aSlice3_sound {P : Program} {D : Tab} (hD : TabOk P D) {c : Cx} {t : TypeId} {x h m : AV} {v vh vm : Value} {lo : Option AV} {vl : Option Value} (hx : Rel c x v) (hl : optVal c lo vl) (hh : Rel c h vh) (hm : Rel c m vm) (hC : Hold (aSlice3 D c.A t x lo h m).1) :
    ∃ r, (Instr.sliceAt t v vl (some vh) (some vm)).run P c.w = .ok r c.w ∧ Rel c (aSlice3 D c.A t x lo h m).2 r := by
  unfold aSlice3 at *
  cases hel : telem D t with
  | none => rw [hel] at hC; exact False.elim hC
  | some el =>
    rw [hel] at hC
    obtain ⟨hb, _⟩ := gate_of hC
    simp only
    rw [gate_true hb]
    simp only [Bool.and_eq_true] at hb
    obtain ⟨⟨⟨⟨h1, h2⟩, h3⟩, h4⟩, h5⟩ := hb
    obtain ⟨p, len, cap, rfl⟩ := slB_val h1 hx
    have h3 := isZ_of h3
    obtain ⟨k1, rfl⟩ := aInt_of (isZ_of h4) hh
    obtain ⟨k2, rfl⟩ := aInt_of (isZ_of h5) hm
    have h2 := blt_of h2
    have e : ∀ (k : IntKind) (y : Nat) (code : BoundsCode), (Instr.sliceBound (.int k 0) y code).run P c.w = .ok 0 c.w := fun k y code => run_bound (Int.le_refl _) (by omega)
    have hs := run_sizeOf hD (t := el) rfl h2 c.w
    refine ⟨.slice p 0 0, ?_, by unfold Rel; exact ⟨_, rfl⟩⟩
    have hbd : (Instr.sliceBounds true len cap vl (some (.int k1 0)) (some (.int k2 0))).run P c.w = .ok (0, 0, 0) c.w := by
      cases lo with
      | none =>
        cases vl with
        | none => simp [Instr.sliceBounds, e]
        | some _ => exact hl.elim
      | some a =>
        cases vl with
        | none => exact hl.elim
        | some w =>
          obtain ⟨k3, rfl⟩ := aInt_of h3 hl
          simp [Instr.sliceBounds, e]
    simp only [Instr.sliceAt, Instr.slice, Sem.run_bind, run_underlying' (of_telem hD hel), Result.andThen_ok, hbd, hs, Sem.run_pure]
    simp
/-! ### functions, interfaces -/
def liveA (A : List AO) : AV → Bool
  | .ptr tok _ => match A[tok]? with | some (.box _) => true | _ => false
  | .elt tok _ _ => match A[tok]? with | some (.row _ _) => true | _ => false
  | .fptr _ _ | .glob _ | .fn _ _ => true
  | _ => false
def aNilCheck (A : List AO) (x : AV) : AR := gate (liveA A x) (none, x)
theorem aNilCheck_sound {P : Program} {c : Cx} {x : AV} {v : Value} (hx : Rel c x v) (h : Hold (aNilCheck c.A x).1) :
    ∃ r, (execOp (fun _ => v) { dst := none, op := .nilCheck (.tmp 0), type := 0, pos := "", after := #[], guard := none }).run P c.w = .ok (.value r) c.w ∧ Rel c (aNilCheck c.A x).2 r := by
  unfold aNilCheck at *
  have hb := (gate_of h).1
  rw [gate_true hb]
  refine ⟨v, ?_, hx⟩
  have : (∃ a, v = .pointer (some a)) ∨ (∃ f cs, v = .func (.func f) #[] cs) := by
    replace h : liveA c.A x = true := hb
    cases x <;> try (cases h; done)
    case fptr u y => unfold Rel at hx; obtain ⟨b, o, cs, rfl, _⟩ := hx; exact .inl ⟨_, rfl⟩
    case ptr tok off =>
      unfold Rel at hx; unfold liveA at h; simp only at h
      cases ht : c.A[tok]? with
      | none => rw [ht] at h; cases h
      | some o =>
        rw [ht] at h hx
        cases o <;> try (cases h; done)
        obtain ⟨b, _, rfl⟩ := hx; exact .inl ⟨_, rfl⟩
    case elt tok i off =>
      unfold Rel at hx; unfold liveA at h; simp only at h
      cases ht : c.A[tok]? with
      | none => rw [ht] at h; cases h
      | some o =>
        rw [ht] at h hx
        cases o <;> try (cases h; done)
        obtain ⟨b, _, rfl⟩ := hx; exact .inl ⟨_, rfl⟩
    case glob g => unfold Rel at hx; subst hx; exact .inl ⟨_, rfl⟩
    case fn f l => unfold Rel at hx; obtain ⟨vs, rfl, _⟩ := hx; exact .inr ⟨_, _, rfl⟩
  rcases this with ⟨a, rfl⟩ | ⟨f, cs, rfl⟩ <;> simp [execOp]
def aMkI (D : Tab) (t : TypeId) (x : AV) : AR := gate (tconc D t) (none, .ifc t x)
theorem aMkI_sound {P : Program} {D : Tab} (hD : TabOk P D) {c : Cx} {t : TypeId} {x : AV} {v : Value} (hx : Rel c x v) (h : Hold (aMkI D t x).1) : ∃ r, (Instr.makeInterface t v).run P c.w = .ok r c.w ∧ Rel c (aMkI D t x).2 r := by
  unfold aMkI at *
  have hb := (gate_of h).1
  rw [gate_true hb]
  exact ⟨_, run_makeInterface c.w t v (of_tconc hD hb), by unfold Rel; exact ⟨v, rfl, hx⟩⟩
def aAssert (D : Tab) (asserted : TypeId) (ok : Bool) : AV → AR
  | .ifc t v => gate (Nat.beq t asserted && tconc D asserted) (none, match ok with | true => .tup [v, .fz .bool true] | false => v)
  | _ => no
theorem aAssert_sound {P : Program} {D : Tab} (hD : TabOk P D) {c : Cx} {t u : TypeId} {ok : Bool} {x : AV} {v : Value} (hx : Rel c x v) (h : Hold (aAssert D u ok x).1) :
    ∃ r, (Instr.typeAssert v t u ok).run P c.w = .ok r c.w ∧ Rel c (aAssert D u ok x).2 r := by
  cases x <;> try exact False.elim h
  rename_i t' a
  unfold aAssert at *
  simp only at h ⊢
  have hb := (gate_of h).1
  rw [gate_true hb]
  simp only [Bool.and_eq_true] at hb
  have h0 := beq_eq hb.1
  subst h0
  have h2 := of_tconc hD hb.2
  unfold Rel at hx
  obtain ⟨w, rfl, hr⟩ := hx
  unfold Program.concrete at h2
  cases hd : P.underlying t' with
  | none => simp [hd] at h2
  | some d =>
    have hrun : (Instr.typeAssert (.iface t' w) t t' ok).run P c.w = .ok (if ok = true then .tuple #[w, .bool true] else w) c.w := by
      cases d <;> first | (simp [hd] at h2; done) | (simp [Instr.typeAssert, run_underlying' hd])
    refine ⟨_, hrun, ?_⟩
    cases ok with
    | false => exact hr
    | true =>
      simp only [if_true]
      unfold Rel
      refine ⟨[w, .bool true], rfl, ?_⟩
      unfold RelL
      refine ⟨w, [.bool true], rfl, hr, ?_⟩
      unfold RelL
      exact ⟨.bool true, [], rfl, rel_bool.2 rfl, by unfold RelL; rfl⟩
/-- the greater, the less one of two floats -/
def fMM (mx : Bool) (k : FloatKind) (a b : Nat) : Nat := match k.format.order a b with
  | some .lt => if mx then b else a
  | some .gt => if mx then a else b
  | _ => if (k.decode a).neg then (if mx then b else a) else (if mx then a else b)
def aMM (mx : Bool) (x y : AV) : AR := match x with
  | .fz (.flt k) a => match y with
    | .fz (.flt _) b => (some ((k.format.order a b).isSome = true), .fz (.flt k) (fMM mx k a b))
    | _ => no
  | .fz (.int k) a => match aInt y with
    | some b => match mx with
      | true => (none, .fz (.int k) (max a b))
      | false => (none, .fz (.int k) (min a b))
    | none => no
  | _ => no
def aFold (mx : Bool) : AV → List AV → AR
  | x, [] => (none, x)
  | x, y :: r => (andC (aMM mx x y).1 (aFold mx (aMM mx x y).2 r).1, (aFold mx (aMM mx x y).2 r).2)
theorem max_if (a b : Int) : (if a < b then b else a) = max a b := by split <;> omega
theorem min_if (a b : Int) : (if b < a then b else a) = min a b := by split <;> omega
theorem aMM_sound {P : Program} {c : Cx} {mx : Bool} {x y : AV} {v w : Value} (hx : Rel c x v) (hy : Rel c y w) (h : Hold (aMM mx x y).1) :
    ∃ r, ((if mx = true then Builtin.max2 v w else Builtin.min2 v w).run P c.w = .ok r c.w) ∧ Rel c (aMM mx x y).2 r := by
  unfold aMM at *
  cases x <;> try exact False.elim h
  rename_i u a
  cases u <;> try exact False.elim h
  case flt k =>
    cases y <;> try exact False.elim h
    rename_i u' b
    cases u' <;> try exact False.elim h
    obtain rfl := rel_flt.1 hx
    obtain rfl := rel_flt.1 hy
    have h : (k.format.order a b).isSome = true := h
    refine ⟨.float k (fMM mx k a b), ?_, rel_flt.2 rfl⟩
    unfold fMM
    cases ho : k.format.order a b with
    | none => rw [ho] at h; cases h
    | some o => cases mx <;> cases o <;> cases hn : (k.decode a).neg <;> simp [Builtin.max2, Builtin.min2, ho, hn]
  rename_i k
  simp only at h ⊢
  cases hn : aInt y with
  | none => rw [hn] at h; exact False.elim h
  | some b =>
    obtain ⟨k', rfl⟩ := aInt_of hn hy
    obtain rfl := rel_int.1 hx
    simp only
    cases mx with
    | true => exact ⟨.int k (if a < b then b else a), by simp [Builtin.max2], rel_int.2 (by rw [max_if])⟩
    | false => exact ⟨.int k (if b < a then b else a), by simp [Builtin.min2], rel_int.2 (by rw [min_if])⟩
theorem aFold_sound {P : Program} {c : Cx} {mx : Bool} : ∀ (l : List AV) (vs : List Value) (x : AV) (v : Value), Rel c x v → RelL c l vs → Hold (aFold mx x l).1 →
    ∃ r, ((vs.foldlM (if mx = true then Builtin.max2 else Builtin.min2) v).run P c.w = .ok r c.w) ∧ Rel c (aFold mx x l).2 r
  | [], vs, x, v, hx, hl, _ => by
    unfold RelL at hl; subst hl
    exact ⟨v, by simp, hx⟩
  | y :: l, vs, x, v, hx, hl, h => by
    unfold RelL at hl
    obtain ⟨w, r, rfl, h1, h2⟩ := hl
    have hc := andC_of h
    obtain ⟨r1, k1, k2⟩ := aMM_sound (P := P) hx h1 hc.1
    obtain ⟨r2, k3, k4⟩ := aFold_sound l r _ r1 k2 h2 hc.2
    refine ⟨r2, ?_, k4⟩
    simp only [List.foldlM_cons, Sem.run_bind]
    have e : (if mx = true then Builtin.max2 else Builtin.min2) v w = (if mx = true then Builtin.max2 v w else Builtin.min2 v w) := by cases mx <;> rfl
    rw [e, k1]; exact k3
end Go.Ab
