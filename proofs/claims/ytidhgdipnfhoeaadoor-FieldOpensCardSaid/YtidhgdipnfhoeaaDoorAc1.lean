/-
  How an abstract state may go on: what is new, what is written, what is let go.
-/
import Derived.Test.YtidhgdipnfhoeaaDoorAb10
namespace Go.Ab
open Go
/-- the streams are as they were -/
structure WSame (w w' : World) : Prop where
  os : w'.os = w.os
  tape : w'.tape = w.tape
  output : w'.output = w.output
theorem WSame.refl (w : World) : WSame w w := ⟨rfl, rfl, rfl⟩
theorem WSame.trans {w w' w'' : World} (h : WSame w w') (h' : WSame w' w'') : WSame w w'' := ⟨h'.os.trans h.os, h'.tape.trans h.tape, h'.output.trans h.output⟩
structure Ext (c c' : Cx) : Prop where
  le : Le c.A.length c c'
  X : c'.X = c.X
  G : c'.G = c.G
  far : ∀ b, c.X b → c'.w.heap[b]? = c.w.heap[b]?
  st : WSame c.w c'.w
theorem TokLe.refl {c : Cx} {t : Nat} (h : t < c.A.length) : TokLe c c t := by
  unfold TokLe
  rw [List.getElem?_eq_getElem h]
  cases hA : c.A[t] with
  | row e xs => exact ⟨⟨xs, rfl⟩, rfl, fun b cs et _ hh => ⟨cs, hh, rfl⟩⟩
  | box vs => exact .inl ⟨⟨vs, rfl⟩, rfl⟩
  | dead => trivial
theorem Ext.refl (c : Cx) : Ext c c := ⟨⟨fun b h _ => ⟨h, rfl⟩, fun t h => TokLe.refl h, Nat.le_refl _⟩, rfl, rfl, fun _ _ => rfl, WSame.refl _⟩
theorem TokLe.trans {c c' c'' : Cx} {t : Nat} (h : TokLe c c' t) (h' : TokLe c' c'' t) : TokLe c c'' t := by
  unfold TokLe at *
  cases h2 : c''.A[t]? with
  | none => rw [h2] at h'; exact h'
  | some o =>
    rw [h2] at h'
    cases o with
    | dead => trivial
    | row e xs =>
      simp only at h' ⊢
      obtain ⟨⟨xs', h1⟩, hr, hh⟩ := h'
      rw [h1] at h
      obtain ⟨hx, hr', hh'⟩ := h
      refine ⟨hx, hr.trans hr', fun b cs et hb hc => ?_⟩
      obtain ⟨cs', k1, k2⟩ := hh' b cs et hb hc
      obtain ⟨cs'', k3, k4⟩ := hh b cs' et (hr'.trans hb) k1
      exact ⟨cs'', k3, k4.trans k2⟩
    | box vs =>
      simp only at h' ⊢
      rcases h' with ⟨⟨xs', h1⟩, hr⟩ | ⟨e, xs', h1⟩
      · rw [h1] at h
        rcases h with h | h
        · exact .inl ⟨h.1, hr.trans h.2⟩
        · exact .inr h
      · rw [h1] at h
        exact .inr ⟨e, h.1⟩
theorem Ext.trans {c c' c'' : Cx} (h : Ext c c') (h' : Ext c' c'') : Ext c c'' := by
  refine ⟨⟨fun b hI hb => ?_, fun t ht => ?_, Nat.le_trans h.le.len h'.le.len⟩, h'.X.trans h.X, h'.G.trans h.G, fun b hb => ?_, h.st.trans h'.st⟩
  · obtain ⟨k1, k2⟩ := h.le.I b hI hb
    obtain ⟨k3, k4⟩ := h'.le.I b k1 (heap_lt hb k2)
    exact ⟨k3, k4.trans k2⟩
  · exact (h.le.tok t ht).trans (h'.le.tok t (Nat.lt_of_lt_of_le ht h.le.len))
  · exact (h'.far b (by rw [h.X]; exact hb)).trans (h.far b hb)
/-- tokens below n go on -/
structure ExtN (n : Nat) (c c' : Cx) : Prop where
  le : Le n c c'
  X : c'.X = c.X
  G : c'.G = c.G
  far : ∀ b, c.X b → c'.w.heap[b]? = c.w.heap[b]?
  st : WSame c.w c'.w
theorem Ext.toN {c c' : Cx} (h : Ext c c') : ExtN c.A.length c c' := ⟨h.le, h.X, h.G, h.far, h.st⟩
theorem ExtN.trans {n : Nat} {c c' c'' : Cx} (h : ExtN n c c') (h' : ExtN n c' c'') : ExtN n c c'' := by
  refine ⟨⟨fun b hI hb => ?_, fun t ht => (h.le.tok t ht).trans (h'.le.tok t ht), h'.le.len⟩, h'.X.trans h.X, h'.G.trans h.G, fun b hb => ?_, h.st.trans h'.st⟩
  · obtain ⟨k1, k2⟩ := h.le.I b hI hb
    obtain ⟨k3, k4⟩ := h'.le.I b k1 (heap_lt hb k2)
    exact ⟨k3, k4.trans k2⟩
  · exact (h'.far b (by rw [h.X]; exact hb)).trans (h.far b hb)
theorem Ext.toN' {n : Nat} {c c' : Cx} (h : Ext c c') (hn : n ≤ c.A.length) : ExtN n c c' :=
  ⟨⟨h.le.I, fun t ht => h.le.tok t (by omega), by have := h.le.len; omega⟩, h.X, h.G, h.far, h.st⟩
theorem ExtN.step {n : Nat} {c c' c'' : Cx} (h : ExtN n c c') (h' : Ext c' c'') : ExtN n c c'' := h.trans (h'.toN' h.le.len)
theorem Rel.ext {c c' : Cx} (H : Ext c c') {a : AV} {v : Value} (h : Rel c a v) : Rel c' a v := Rel.mono H.le a v h.ok h
theorem RelL.ext {c c' : Cx} (H : Ext c c') {l : List AV} {vs : List Value} (h : RelL c l vs) : RelL c' l vs := RelL.mono H.le l vs h.ok h
theorem TR.ext {c c' : Cx} (H : Ext c c') {T : List (Nat × AV)} {t : Array Value} (h : TR c T t) : TR c' T t := fun n => (h n).ext H
theorem FzC.ext {c c' : Cx} (H : Ext c c') {t : Ty} {x : t.den} {vs : List Value} (h : FzC c.I c.w t x vs) : FzC c'.I c'.w t x vs := h.mono H.le.I
theorem live_lt {c : Cx} {t : Nat} (h : c.live t) : t < c.A.length := by obtain ⟨o, h, _⟩ := h; exact get_lt h
/-! ### a draw -/
theorem ext_draw {c : Cx} (H : HR c) (w' : World) (hw : w'.heap = c.w.heap) (hs : WSame c.w w') : Ext c { c with w := w' } ∧ HR { c with w := w' } := by
  have E : Ext c { c with w := w' } := by
    refine ⟨⟨fun b h _ => ⟨h, by show w'.heap[b]? = _; rw [hw]⟩, fun t h => ?_, Nat.le_refl _⟩, rfl, rfl, fun b _ => by show w'.heap[b]? = _; rw [hw], hs⟩
    have := TokLe.refl h
    unfold TokLe at *
    simpa [hw] using this
  refine ⟨E, ⟨H.far, H.inj, fun t o h => ?_, fun b h => by show b < w'.heap.size; rw [hw]; exact H.old b h, fun g v h => ?_⟩⟩
  · have := H.obj t o h
    cases o with
    | dead => trivial
    | row e xs =>
      rcases this with h | ⟨b, cs, et, h1, h2, h3⟩
      · exact .inl h
      · refine .inr ⟨b, cs, et, h1, by show w'.heap[b]? = _; rw [hw]; exact h2, fun i hi => ?_⟩
        obtain ⟨ds, k1, k2⟩ := h3 i hi
        exact ⟨ds, FzC.ext E k1, k2⟩
    | box vs =>
      obtain ⟨b, cs, et, h1, h2, h3⟩ := this
      exact ⟨b, cs, et, h1, by show w'.heap[b]? = _; rw [hw]; exact h2, h3.ext E⟩
  · exact (H.glo g v h).mono E.le.I
/-! ### a new object -/
def Cx.new (c : Cx) (cs : Array Value) (et : TypeId) (o : AO) : Cx :=
  { c with w := c.w.alloc (.cells cs et), ρ := fun t => if t = c.A.length then some c.w.heap.size else c.ρ t, A := c.A ++ [o] }
theorem new_A_old {c : Cx} {cs : Array Value} {et : TypeId} {o : AO} {t : Nat} (h : t < c.A.length) : (c.new cs et o).A[t]? = c.A[t]? := by
  show (c.A ++ [o])[t]? = _; rw [List.getElem?_append_left h]
theorem new_A_new {c : Cx} {cs : Array Value} {et : TypeId} {o : AO} : (c.new cs et o).A[c.A.length]? = some o := by
  show (c.A ++ [o])[_]? = _; simp
theorem new_ρ_old {c : Cx} {cs : Array Value} {et : TypeId} {o : AO} {t : Nat} (h : t < c.A.length) : (c.new cs et o).ρ t = c.ρ t := by
  show (if _ then _ else _) = _; rw [if_neg (by omega)]
theorem new_ρ_new {c : Cx} {cs : Array Value} {et : TypeId} {o : AO} : (c.new cs et o).ρ c.A.length = some c.w.heap.size := by
  show (if _ then _ else _) = _; rw [if_pos rfl]
theorem new_heap_old {c : Cx} {cs : Array Value} {et : TypeId} {o : AO} {b : Nat} (h : b < c.w.heap.size) : (c.new cs et o).w.heap[b]? = c.w.heap[b]? := heap_alloc_old _ _ h
theorem new_heap_new {c : Cx} {cs : Array Value} {et : TypeId} {o : AO} : (c.new cs et o).w.heap[c.w.heap.size]? = some (.cells cs et (0, 0)) := heap_alloc_new _ _
theorem some_lt {w : World} {b : Nat} {o : Obj} (h : w.heap[b]? = some o) : b < w.heap.size := by
  rcases Nat.lt_or_ge b w.heap.size with h' | h'
  · exact h'
  · rw [Array.getElem?_eq_none h'] at h; cases h
theorem ext_new {c : Cx} (H : HR c) (cs : Array Value) (et : TypeId) (o : AO) : Ext c (c.new cs et o) := by
  refine ⟨⟨fun b hI hb => ⟨⟨hI.1, fun t ht => ?_⟩, new_heap_old hb⟩, fun t ht => ?_, by show _ ≤ (c.A ++ [o]).length; simp⟩, rfl, rfl, fun b hb => new_heap_old (H.old b hb), ⟨rfl, rfl, rfl⟩⟩
  · have hlt := live_lt ht
    have hl : (c.new cs et o).A.length = c.A.length + 1 := by show (c.A ++ [o]).length = _; simp
    rw [hl] at hlt
    by_cases h : t = c.A.length
    · subst h; rw [new_ρ_new]; intro e; cases e; omega
    · rw [new_ρ_old (by omega)]
      obtain ⟨o', h1, h2⟩ := ht
      rw [new_A_old (by omega)] at h1
      exact hI.2 t ⟨o', h1, h2⟩
  · have := TokLe.refl ht
    unfold TokLe at *
    rw [new_A_old ht, new_ρ_old ht]
    cases hA : c.A[t]? with
    | none => rw [hA] at this; exact this
    | some o' =>
      rw [hA] at this
      cases o' with
      | dead => trivial
      | box vs => exact this
      | row e xs =>
        simp only at this ⊢
        refine ⟨this.1, by simp, fun b cs' et' hb hc => ⟨cs', ?_, rfl⟩⟩
        rw [new_heap_old (some_lt hc)]; exact hc
theorem objOk_ext {c c' : Cx} (E : Ext c c') {r : Option Nat} {o : AO} (h : ObjOk c r o) (hb : o.live = true → ∀ b, r = some b → c'.w.heap[b]? = c.w.heap[b]?) : ObjOk c' r o := by
  cases o with
  | dead => trivial
  | row e xs =>
    rcases h with h | ⟨b, cs, et, h1, h2, h3⟩
    · exact .inl h
    · refine .inr ⟨b, cs, et, h1, by rw [hb rfl b h1]; exact h2, fun i hi => ?_⟩
      obtain ⟨ds, k1, k2⟩ := h3 i hi
      exact ⟨ds, FzC.ext E k1, k2⟩
  | box vs =>
    obtain ⟨b, cs, et, h1, h2, h3⟩ := h
    exact ⟨b, cs, et, h1, by rw [hb rfl b h1]; exact h2, h3.ext E⟩
theorem new_live {c : Cx} {cs : Array Value} {et : TypeId} {o : AO} {t : Nat} (h : (c.new cs et o).live t) : (t = c.A.length) ∨ (t < c.A.length ∧ c.live t) := by
  have hlt := live_lt h
  have hl : (c.new cs et o).A.length = c.A.length + 1 := by show (c.A ++ [o]).length = _; simp
  by_cases h' : t = c.A.length
  · exact .inl h'
  · obtain ⟨o', h1, h2⟩ := h
    rw [new_A_old (by omega)] at h1
    exact .inr ⟨by omega, o', h1, h2⟩
theorem hr_new {c : Cx} (H : HR c) {cs : Array Value} {et : TypeId} {o : AO} (ho : ObjOk (c.new cs et o) (some c.w.heap.size) o) : HR (c.new cs et o) := by
  have E := ext_new H cs et o
  refine ⟨fun t b ht hb => ?_, fun t u b ht hu h1 h2 => ?_, fun t o' h => ?_, fun b hb => ?_, fun g v h => ?_⟩
  · rcases new_live ht with rfl | ⟨hlt, hl⟩
    · rw [new_ρ_new] at hb; cases hb
      intro hX; exact absurd (H.old _ hX) (by omega)
    · rw [new_ρ_old hlt] at hb; exact H.far t b hl hb
  · rcases new_live ht with rfl | ⟨hlt, hl⟩
    · rcases new_live hu with rfl | ⟨hlu, hlu'⟩
      · rfl
      · rw [new_ρ_new] at h1; cases h1
        rw [new_ρ_old hlu] at h2
        exact absurd (H.lt hlu' h2) (by omega)
    · rcases new_live hu with rfl | ⟨hlu, hlu'⟩
      · rw [new_ρ_new] at h2; cases h2
        rw [new_ρ_old hlt] at h1
        exact absurd (H.lt hl h1) (by omega)
      · rw [new_ρ_old hlt] at h1; rw [new_ρ_old hlu] at h2
        exact H.inj t u b hl hlu' h1 h2
  · by_cases h' : t < c.A.length
    · rw [new_A_old h'] at h
      rw [new_ρ_old h']
      refine objOk_ext E (H.obj t o' h) (fun hl b hb => new_heap_old ?_)
      exact H.lt ⟨o', h, hl⟩ hb
    · have hlt := get_lt h
      have hl : (c.new cs et o).A.length = c.A.length + 1 := by show (c.A ++ [o]).length = _; simp
      have : t = c.A.length := by omega
      subst this
      rw [new_A_new] at h; cases h
      rw [new_ρ_new]; exact ho
  · have : (c.new cs et o).w.heap.size = c.w.heap.size + 1 := by show (c.w.heap.push _).size = _; exact Array.size_push _
    rw [this]; have := H.old b hb; omega
  · exact (H.glo g v h).mono E.le.I
/-! ### what is written -/
def Cx.wr (c : Cx) (tok b : Nat) (cs : Array Value) (o : AO) : Cx := { c with w := c.w.setRow b cs, A := c.A.set tok o }
def AO.like : AO → AO → Prop
  | .row e _, .row e' _ => e = e'
  | .box _, .box _ => True
  | _, _ => False
theorem like_live {o o' : AO} (h : o.like o') : o.live = true ∧ o'.live = true := by cases o <;> cases o' <;> first | exact ⟨rfl, rfl⟩ | exact h.elim
theorem wr_live {c : Cx} {tok b : Nat} {cs : Array Value} {o o' : AO} (h0 : c.A[tok]? = some o) (hl : o.like o') {t : Nat} (h : (c.wr tok b cs o').live t) : c.live t := by
  obtain ⟨x, h1, h2⟩ := h
  by_cases ht : tok = t
  · subst ht; exact ⟨o, h0, (like_live hl).1⟩
  · refine ⟨x, ?_, h2⟩
    have : (c.A.set tok o')[t]? = some x := h1
    rwa [List.getElem?_set_ne ht] at this
theorem ext_wr {c : Cx} (H : HR c) {tok b : Nat} {cs old : Array Value} {et : TypeId} {o o' : AO} (h0 : c.A[tok]? = some o) (hl : o.like o') (hr : c.ρ tok = some b) (hh : c.w.heap[b]? = some (.cells old et (0, 0))) (hs : cs.size = old.size) :
    Ext c (c.wr tok b cs o') := by
  have hlive : c.live tok := ⟨o, h0, (like_live hl).1⟩
  have hX := H.far tok b hlive hr
  have oth : ∀ k, k ≠ b → (c.wr tok b cs o').w.heap[k]? = c.w.heap[k]? := fun k hk => setRow_other c.w b k cs hk
  refine ⟨⟨fun k hI hk => ⟨⟨hI.1, fun t ht => hI.2 t (wr_live h0 hl ht)⟩, oth k (fun e => ?_)⟩, fun t ht => ?_, by show _ ≤ (c.A.set tok o').length; simp⟩, rfl, rfl, fun k hk => oth k (fun e => ?_), ⟨rfl, rfl, rfl⟩⟩
  · subst e; exact hI.2 tok hlive hr
  · unfold TokLe
    by_cases htt : tok = t
    · subst htt
      have : (c.wr tok b cs o').A[tok]? = some o' := by show (c.A.set tok o')[tok]? = _; rw [List.getElem?_set_self ht]
      rw [this]
      cases o <;> cases o' <;> try exact hl.elim
      · have he : _ = _ := hl
        subst he
        refine ⟨⟨_, h0⟩, rfl, fun b' cs' et' hb' hc => ?_⟩
        rw [hr] at hb'; cases hb'
        rw [hh] at hc; cases hc
        exact ⟨cs, setRow_heap c.w b _ cs et (0, 0) hh, hs⟩
      · exact .inl ⟨⟨_, h0⟩, rfl⟩
    · have : (c.wr tok b cs o').A[t]? = c.A[t]? := by show (c.A.set tok o')[t]? = _; rw [List.getElem?_set_ne htt]
      rw [this]
      have ht0 := TokLe.refl ht
      unfold TokLe at ht0
      cases hA : c.A[t]? with
      | none => rw [hA] at ht0; exact ht0
      | some x =>
        rw [hA] at ht0
        cases x with
        | dead => trivial
        | box vs => exact ht0
        | row e xs =>
          simp only at ht0 ⊢
          refine ⟨ht0.1, rfl, fun b' cs' et' hb' hc => ?_⟩
          by_cases hbb : b' = b
          · subst hbb
            rw [hh] at hc; cases hc
            exact ⟨cs, setRow_heap c.w b' _ cs et (0, 0) hh, hs⟩
          · exact ⟨cs', (oth b' hbb).trans hc, rfl⟩
  · subst e; exact hX hk
theorem hr_wr {c : Cx} (H : HR c) {tok b : Nat} {cs old : Array Value} {et : TypeId} {o o' : AO} (h0 : c.A[tok]? = some o) (hl : o.like o') (hr : c.ρ tok = some b) (hh : c.w.heap[b]? = some (.cells old et (0, 0))) (hs : cs.size = old.size)
    (ho : ObjOk (c.wr tok b cs o') (some b) o') : HR (c.wr tok b cs o') := by
  have E := ext_wr H h0 hl hr hh hs
  have hlive : c.live tok := ⟨o, h0, (like_live hl).1⟩
  have htl := get_lt h0
  have oth : ∀ k, k ≠ b → (c.wr tok b cs o').w.heap[k]? = c.w.heap[k]? := fun k hk => setRow_other c.w b k cs hk
  refine ⟨fun t k ht hk => H.far t k (wr_live h0 hl ht) hk, fun t u k ht hu h1 h2 => H.inj t u k (wr_live h0 hl ht) (wr_live h0 hl hu) h1 h2, fun t x h => ?_, fun k hk => ?_, fun g v h => ?_⟩
  · by_cases htt : tok = t
    · subst htt
      have : (c.wr tok b cs o').A[tok]? = some o' := by show (c.A.set tok o')[tok]? = _; rw [List.getElem?_set_self htl]
      rw [this] at h; cases h
      show ObjOk _ (c.ρ tok) _
      rw [hr]; exact ho
    · have : (c.wr tok b cs o').A[t]? = c.A[t]? := by show (c.A.set tok o')[t]? = _; rw [List.getElem?_set_ne htt]
      rw [this] at h
      refine objOk_ext E (H.obj t x h) (fun hxl k hk => oth k (fun e => ?_))
      subst e
      exact htt (H.inj tok t k hlive ⟨x, h, hxl⟩ hr hk)
  · show k < (c.w.setRow b cs).heap.size
    rw [size_setRow]; exact H.old k hk
  · exact (H.glo g v h).mono (ext_wr H h0 hl hr hh hs).le.I
/-! ### let go -/
def Cx.kill (c : Cx) (tok : Nat) : Cx := { c with A := c.A.set tok .dead }
theorem kill_other {c : Cx} {tok t : Nat} (h : tok ≠ t) : (c.kill tok).A[t]? = c.A[t]? := by show (c.A.set tok _)[t]? = _; rw [List.getElem?_set_ne h]
theorem kill_self {c : Cx} {tok : Nat} (h : tok < c.A.length) : (c.kill tok).A[tok]? = some .dead := by show (c.A.set tok _)[tok]? = _; rw [List.getElem?_set_self h]
theorem kill_live {c : Cx} {tok t : Nat} (h : (c.kill tok).live t) : t ≠ tok ∧ c.live t := by
  obtain ⟨x, h1, h2⟩ := h
  by_cases ht : tok = t
  · subst ht
    have hlt := get_lt h1
    have : (c.kill tok).A.length = c.A.length := by show (c.A.set tok _).length = _; simp
    rw [kill_self (by omega)] at h1; cases h1; cases h2
  · rw [kill_other ht] at h1; exact ⟨fun e => ht e.symm, x, h1, h2⟩
theorem ext_kill (c : Cx) (tok : Nat) : Ext c (c.kill tok) := by
  refine ⟨⟨fun b hI _ => ⟨⟨hI.1, fun t ht => hI.2 t (kill_live ht).2⟩, rfl⟩, fun t ht => ?_, by show _ ≤ (c.A.set tok _).length; simp⟩, rfl, rfl, fun b _ => rfl, ⟨rfl, rfl, rfl⟩⟩
  by_cases htt : tok = t
  · subst htt; unfold TokLe; rw [kill_self ht]; trivial
  · have := TokLe.refl ht
    unfold TokLe at *
    rw [kill_other htt]; exact this
theorem hr_kill {c : Cx} (H : HR c) (tok : Nat) : HR (c.kill tok) := by
  refine ⟨fun t b ht hb => H.far t b (kill_live ht).2 hb, fun t u b ht hu => H.inj t u b (kill_live ht).2 (kill_live hu).2, fun t o h => ?_, H.old, fun g v h => ?_⟩
  · by_cases htt : tok = t
    · subst htt
      have hlt := get_lt h
      have : (c.kill tok).A.length = c.A.length := by show (c.A.set tok _).length = _; simp
      rw [kill_self (by omega)] at h; cases h; trivial
    · rw [kill_other htt] at h
      exact objOk_ext (ext_kill c tok) (H.obj t o h) (fun _ _ _ => rfl)
  · exact (H.glo g v h).mono (ext_kill c tok).le.I
/-! ### another name -/
def Cx.mv (c : Cx) (tok : Nat) (o : AO) : Cx := { c with ρ := fun t => if t = c.A.length then c.ρ tok else c.ρ t, A := c.A.set tok .dead ++ [o] }
theorem mv_A {c : Cx} {tok : Nat} {o : AO} {t : Nat} (h : t < c.A.length) : (c.mv tok o).A[t]? = (c.kill tok).A[t]? := by
  show (c.A.set tok .dead ++ [o])[t]? = _
  rw [List.getElem?_append_left (by simpa using h)]; rfl
theorem mv_new {c : Cx} {tok : Nat} {o : AO} : (c.mv tok o).A[c.A.length]? = some o := by
  show (c.A.set tok .dead ++ [o])[_]? = _
  rw [List.getElem?_append_right (by simp)]; simp
theorem mv_len {c : Cx} {tok : Nat} {o : AO} : (c.mv tok o).A.length = c.A.length + 1 := by show (c.A.set tok .dead ++ [o]).length = _; simp
theorem mv_ρ {c : Cx} {tok : Nat} {o : AO} {t : Nat} (h : t < c.A.length) : (c.mv tok o).ρ t = c.ρ t := by show (if _ then _ else _) = _; rw [if_neg (by omega)]
theorem mv_ρn {c : Cx} {tok : Nat} {o : AO} : (c.mv tok o).ρ c.A.length = c.ρ tok := by show (if _ then _ else _) = _; rw [if_pos rfl]
theorem mv_live {c : Cx} {tok : Nat} {o : AO} {t : Nat} (h : (c.mv tok o).live t) : t = c.A.length ∨ (t < c.A.length ∧ t ≠ tok ∧ c.live t) := by
  have hlt := live_lt h
  rw [mv_len] at hlt
  by_cases h' : t = c.A.length
  · exact .inl h'
  · obtain ⟨x, h1, h2⟩ := h
    rw [mv_A (by omega)] at h1
    obtain ⟨k1, k2⟩ := kill_live ⟨x, h1, h2⟩
    exact .inr ⟨by omega, k1, k2⟩
theorem ext_mv {c : Cx} {tok : Nat} {o : AO} (hlive : c.live tok) : Ext c (c.mv tok o) := by
  refine ⟨⟨fun b hI _ => ⟨⟨hI.1, fun t ht => ?_⟩, rfl⟩, fun t ht => ?_, by rw [mv_len]; omega⟩, rfl, rfl, fun b _ => rfl, ⟨rfl, rfl, rfl⟩⟩
  · rcases mv_live ht with rfl | ⟨h1, _, h3⟩
    · rw [mv_ρn]; exact hI.2 tok hlive
    · rw [mv_ρ h1]; exact hI.2 t h3
  · have := (ext_kill c tok).le.tok t ht
    unfold TokLe at *
    rw [mv_A ht, mv_ρ ht]; exact this
theorem hr_mv {c : Cx} (H : HR c) {tok : Nat} {o : AO} (hlive : c.live tok) (ho : ObjOk c (c.ρ tok) o) : HR (c.mv tok o) := by
  have E := ext_mv (o := o) hlive
  refine ⟨fun t b ht hb => ?_, fun t u b ht hu h1 h2 => ?_, fun t x h => ?_, H.old, fun g v h => ?_⟩
  · rcases mv_live ht with rfl | ⟨h1, _, h3⟩
    · rw [mv_ρn] at hb; exact H.far tok b hlive hb
    · rw [mv_ρ h1] at hb; exact H.far t b h3 hb
  · rcases mv_live ht with rfl | ⟨k1, k2, k3⟩ <;> rcases mv_live hu with rfl | ⟨j1, j2, j3⟩
    · rfl
    · rw [mv_ρn] at h1; rw [mv_ρ j1] at h2; exact absurd (H.inj tok u b hlive j3 h1 h2).symm j2
    · rw [mv_ρn] at h2; rw [mv_ρ k1] at h1; exact absurd (H.inj t tok b k3 hlive h1 h2) k2
    · rw [mv_ρ k1] at h1; rw [mv_ρ j1] at h2; exact H.inj t u b k3 j3 h1 h2
  · by_cases h' : t < c.A.length
    · rw [mv_A h'] at h
      rw [mv_ρ h']
      by_cases htt : tok = t
      · subst htt; rw [kill_self h'] at h; cases h; trivial
      · rw [kill_other htt] at h
        exact objOk_ext E (H.obj t x h) (fun _ _ _ => rfl)
    · have hlt := get_lt h
      rw [mv_len] at hlt
      have : t = c.A.length := by omega
      subst this
      rw [mv_new] at h; cases h
      rw [mv_ρn]
      exact objOk_ext E ho (fun _ _ _ => rfl)
  · exact (H.glo g v h).mono E.le.I
end Go.Ab
